/- The shell's words: the small functions. -/
import Derived.Test.YtdgclgfhcgdehaaDoorStr
import Derived.Test.YtdgclgfhcgdehaaDoorShM
set_option linter.unusedVariables false
set_option linter.unusedSimpArgs false
namespace Go.Dm
open Go.Proofs
/-- The reader. -/
def Rd (h : H) (rb : Nat) (s : List UInt8) (lf : Bool) (k : Nat) : Prop := h.get rb = some (.cells [str s, .bool lf, .int .i64 k] 0 true 0 none)
def Gl (h : H) : Prop := h.get 0 = some (.cells (opsL.map str) 0 false 0 none)
def opK (k : Nat) : List UInt8 := opsL.getD k []
theorem opN_take {s : List UInt8} {k : Nat} (hk : k < 17) (hno : ∀ o ∈ opsL.take k, o.isPrefixOf s = false) (hp : (opK k).isPrefixOf s = true) : opN s = (opK k).length := by
  have hl : opsL = opsL.take k ++ opK k :: opsL.drop (k + 1) := by
    have h17 : k < opsL.length := hk
    unfold opK
    rw [List.getD_eq_getElem?_getD, List.getElem?_eq_getElem h17]
    simp
  unfold opN
  have : opsL.find? (·.isPrefixOf s) = some (opK k) := by
    conv => lhs; rw [hl]
    rw [List.find?_append, List.find?_eq_none.2 (fun o ho => by rw [hno o ho]; decide)]
    have := List.find?_cons_of_pos (p := fun (x : List UInt8) => x.isPrefixOf s) (a := opK k) (l := opsL.drop (k + 1)) hp
    rw [this]; rfl
  rw [this]
theorem opN_none {s : List UInt8} (hno : ∀ o ∈ opsL, o.isPrefixOf s = false) : opN s = 0 := by
  unfold opN
  rw [List.find?_eq_none.2 (fun o ho => by rw [hno o ho]; decide)]
theorem take_ops {s : List UInt8} {k : Nat} (hk : k < 17) (hno : ∀ o ∈ opsL.take k, o.isPrefixOf s = false) (hp : (opK k).isPrefixOf s = false) : ∀ o ∈ opsL.take (k + 1), o.isPrefixOf s = false := by
  have h17 : k < opsL.length := hk
  intro o ho
  rw [List.take_succ_eq_append_getElem h17] at ho
  rcases List.mem_append.1 ho with ho | ho
  · exact hno o ho
  · simp at ho
    subst ho
    unfold opK at hp
    rw [List.getD_eq_getElem?_getD, List.getElem?_eq_getElem h17] at hp
    simpa using hp
theorem opsL_get {k : Nat} (hk : k < 17) : (opsL.map str)[k]? = some (str (opK k)) := by
  have h17 : k < opsL.length := hk
  unfold opK
  rw [List.getElem?_map, List.getElem?_eq_getElem h17, List.getD_eq_getElem?_getD, List.getElem?_eq_getElem h17]
  rfl
theorem opAt_in {s : List UInt8} {a : Int} (h1 : 0 ≤ a) (h2 : a ≤ s.length) : opAt s a = opN (s.drop a.toNat) := if_neg (by omega)
theorem Op_sp (s : List UInt8) (a : Int) (h : H) (h1 : h.one = []) (hg : Gl h) : CallW E0 X0 (.fn 54) [str s, .int .i64 a] h (fun v h' => v = .int .i64 (opAt s a) ∧ h' = h) := by
  refine CallW.body efn54 rfl rfl rfl [] (by kernel_rfl) ?_
  by_cases c1 : a < 0
  · simp [Tryd.f54, h1, c1, opAt]
  by_cases c2 : s.length < a
  · simp [Tryd.f54, h1, c1, c2, opAt]
  simp [Tryd.f54, h1, c1, c2]
  refine wpd_loop (fun (k : Nat) fr h' => k ≤ 17 ∧ fr.get 14 = some (.int .i64 k) ∧ h' = h ∧ ∀ o ∈ opsL.take k, o.isPrefixOf (s.drop a.toNat) = false) (fun k => 17 - k) 0 ⟨by omega, by simp, rfl, by simp⟩ ?_
  rintro k fr h' ⟨hk, hi, rfl, hno⟩ hf
  simp [hi, h1]
  have g : h'.get 0 = some (.cells (opsL.map str) 0 false 0 none) := hg
  have ho := opAt_in (s := s) (a := a) (by omega) (by omega)
  by_cases hc : k < 17
  · have hget := opsL_get hc
    simp [hf 0 rfl, hf 1 rfl, h1, hi, hc, g, hget]
    refine ⟨by omega, ?_⟩
    refine (HasPrefix_sp _ _ h' h1).mono ?_
    rintro v h2 ⟨rfl, rfl⟩
    cases hp : (opK k).isPrefixOf (s.drop a.toNat) with
    | true =>
      simp [h1, hc, g, hget]
      rw [ho, opN_take hc hno hp]
    | false =>
      simp [h1, hi, wrap_succ (show k < 9223372036854775807 by omega)]
      exact ⟨k + 1, by omega, by omega, rfl, take_ops hc hno hp⟩
  · have hk17 : k = 17 := by omega
    subst hk17
    simp [h1]
    rw [ho, opN_none hno]; rfl
theorem more_sp (s : List UInt8) (lf : Bool) (k rb : Nat) (h : H) (h1 : h.one = []) (hr : Rd h rb s lf k) : CallW E0 X0 (.fn 52) [.pointer (some ⟨rb, 0, none⟩)] h (fun v h' => v = .bool (decide (k < s.length)) ∧ h' = h) := by
  refine CallW.body efn52 rfl rfl rfl [] (by kernel_rfl) ?_
  unfold Rd at hr
  simp [Tryd.f52, h1, hr, nilCheckD]
theorem blank_sp (s : List UInt8) (lf : Bool) (k rb : Nat) (hk : k < s.length) (h : H) (h1 : h.one = []) (hr : Rd h rb s lf k) : CallW E0 X0 (.fn 53) [.pointer (some ⟨rb, 0, none⟩)] h (fun v h' => v = .bool (isBl (bt s k)) ∧ h' = h) := by
  refine CallW.body efn53 rfl rfl rfl [] (by kernel_rfl) ?_
  unfold Rd at hr
  have hx := idxB_nat hk
  by_cases c : (bt s k).toNat = 32
  · simp [Tryd.f53, h1, hr, nilCheckD, hx, c, isBl]
  · simp [Tryd.f53, h1, hr, nilCheckD, hx, c, isBl]
theorem join_sp (s : List UInt8) (lf : Bool) (k rb : Nat) (hk : k < s.length) (h62 : s.length < 2 ^ 62) (h : H) (h1 : h.one = []) (hr : Rd h rb s lf k) : CallW E0 X0 (.fn 55) [.pointer (some ⟨rb, 0, none⟩)] h (fun v h' => v = .bool (joinAt s lf k) ∧ h' = h) := by
  refine CallW.body efn55 rfl rfl rfl [] (by kernel_rfl) ?_
  unfold Rd at hr
  have hx := idxB_nat hk
  have hw := wrap_succ (show k < 9223372036854775807 by omega)
  cases lf with
  | false => simp [Tryd.f55, h1, hr, nilCheckD, hx, joinAt]
  | true =>
    by_cases c : k + 1 = s.length
    · simp [Tryd.f55, h1, hr, nilCheckD, hx, c, joinAt, hw]
    · simp [Tryd.f55, h1, hr, nilCheckD, hx, c, joinAt, hw]
/-! the references' -/
def ctnN (line : List UInt8) : Nat := if 0 < line.length ∧ (bt line (line.length - 1)).toNat = 10 then line.length - 1 else line.length
theorem Content_sp (line : List UInt8) (hs : line.length < 2 ^ 62) (h : H) (h1 : h.one = []) : CallW E0 X0 (.fn 33) [str line] h (fun v h' => v = .int .i64 (ctnN line) ∧ h' = h) := by
  refine CallW.body efn33 rfl rfl rfl [] (by kernel_rfl) ?_
  by_cases c : 0 < line.length
  · have e : IntKind.i64.wrap ((line.length : Int) - 1) = ((line.length - 1 : Nat) : Int) := by rw [wrap_i64 (by omega) (by omega)]; omega
    have hx := idxB_nat (l := line) (k := line.length - 1) (by omega)
    by_cases d : (bt line (line.length - 1)).toNat = 10
    · simp [Tryd.f33, h1, c, e, hx, d, ctnN]
    · simp [Tryd.f33, h1, c, e, hx, d, ctnN]
  · simp [Tryd.f33, h1, c, ctnN]
theorem ctnN_le (line : List UInt8) : ctnN line ≤ line.length := by unfold ctnN; split <;> omega
theorem RefJoin_sp (line : List UInt8) (k : Nat) (hk : k < ctnN line) (hs : line.length < 2 ^ 62) (h : H) (h1 : h.one = []) : CallW E0 X0 (.fn 36) [str line, .int .i64 k] h (fun v h' => v = .bool (joinAt (line.take (ctnN line)) (decide (ctnN line < line.length)) k) ∧ h' = h) := by
  refine CallW.body efn36 rfl rfl rfl [] (by kernel_rfl) ?_
  have hle := ctnN_le line
  have hx := idxB_nat (l := line) (k := k) (by omega)
  have hw := wrap_succ (show k < 9223372036854775807 by omega)
  have hb : bt (line.take (ctnN line)) k = bt line k := by simp [bt, List.getElem?_take, hk]
  have hmin : min (ctnN line) line.length = ctnN line := by omega
  simp [Tryd.f36, h1]
  refine (Content_sp line hs h h1).mono ?_
  rintro v h' ⟨rfl, rfl⟩
  by_cases c : k + 1 = ctnN line
  · by_cases d : (bt line k).toNat = 92
    · simp [h1, hw, c, hx, d]
      refine (Content_sp line hs h' h1).mono ?_
      rintro v h' ⟨rfl, rfl⟩
      simp [h1, joinAt, hb, d, c, hmin]
    · simp [h1, hw, c, hx, d, joinAt, hb]
  · simp [h1, hw, c, joinAt, hb, hmin]
set_option maxRecDepth 100000 in
theorem operators_sp (h : H) (h1 : h.one = []) : CallW E0 X0 (.fn 48) [] h (fun v h' => v = .slice (some ⟨h.next, 0, none⟩) 17 17 ∧ h' = h.nw (.cells (opsL.map str) 1 true 0 none)) := by
  refine CallW.body efn48 rfl rfl rfl [] (by kernel_rfl) ?_
  simp [Tryd.f48, h1, zerosD, List.range, List.range.loop, opsL]
theorem RefOp_sp (line : List UInt8) (a : Int) (hs : line.length < 2 ^ 62) (h : H) (h1 : h.one = []) : CallW E0 X0 (.fn 35) [str line, .int .i64 a] h (fun v h' => v = .int .i64 (opAt line a) ∧ Fr h.next h h') := by
  refine CallW.body efn35 rfl rfl rfl [] (by kernel_rfl) ?_
  by_cases c1 : a < 0
  · simp [Tryd.f35, h1, c1, opAt]
    exact Fr.refl h1
  obtain ⟨a, rfl⟩ : ∃ n : Nat, a = n := ⟨a.toNat, by omega⟩
  by_cases c2 : line.length < a
  · simp [Tryd.f35, h1, c1, c2, opAt]
    exact Fr.refl h1
  simp [Tryd.f35, h1, c1, c2]
  refine (operators_sp h h1).mono ?_
  rintro v h2 ⟨rfl, rfl⟩
  simp [h1]
  have hF : Fr h.next h (h.nw (.cells (opsL.map str) 1 true 0 none)) := (Fr.refl h1).nw (Nat.le_refl _) _
  generalize hh : h.nw (.cells (opsL.map str) 1 true 0 none) = h2 at hF ⊢
  have hg : h2.get h.next = some (.cells (opsL.map str) 1 true 0 none) := by subst hh; simp [h1]
  have h21 := hF.one
  refine wpd_loop (fun (k : Nat) fr h' => k ≤ 17 ∧ fr.get 6 = some (.int .i64 k) ∧ h' = h2 ∧ ∀ o ∈ opsL.take k, o.isPrefixOf (line.drop a) = false) (fun k => 17 - k) 0 ⟨by omega, by simp, rfl, by simp⟩ ?_
  rintro k fr h' ⟨hk, hi, rfl, hno⟩ hf
  simp [hi, hf 5 rfl, h21]
  have ho : opAt line a = opN (line.drop a) := opAt_in (s := line) (a := a) (by omega) (by omega)
  by_cases hc : k < 17
  · have hget := opsL_get hc
    have e1 := wrap_sub (a := line.length) (b := a) (by omega) (by omega)
    have hl3 : (opK k).length ≤ 3 := by
      have : ∀ j, j < 17 → (opK j).length ≤ 3 := by decide
      exact this k hc
    have e2 := wrap_add (a := a) (b := (opK k).length) (by omega)
    have e3 := wrap_succ (show k < 9223372036854775807 by omega)
    have hp : (opK k).isPrefixOf (line.drop a) = decide ((line.take (a + (opK k).length)).drop a = opK k) := by
      rw [Bool.eq_iff_iff, decide_eq_true_eq, List.isPrefixOf_iff_prefix, List.prefix_iff_eq_take, List.drop_take, eq_comm]
      simp
    by_cases hd : (opK k).length ≤ line.length - a
    · simp [hf 0 rfl, hf 1 rfl, hf 5 rfl, h21, hi, hc, hg, hget, e1, hd, e2]
      refine ⟨by omega, ?_⟩
      cases hq : (opK k).isPrefixOf (line.drop a) with
      | true =>
        rw [hq] at hp
        have hp' := of_decide_eq_true hp.symm
        simp [hp', h21]
        exact ⟨by rw [ho, opN_take hc hno hq], hF⟩
      | false =>
        rw [hq] at hp
        have hp' := of_decide_eq_false hp.symm
        simp [hp', h21, hi, e3]
        exact ⟨k + 1, by omega, by omega, rfl, take_ops hc hno hq⟩
    · have hq : (opK k).isPrefixOf (line.drop a) = false := by
        rw [Bool.eq_false_iff]
        intro hq
        rw [List.isPrefixOf_iff_prefix] at hq
        have := hq.length_le
        simp at this
        omega
      simp [hf 0 rfl, hf 1 rfl, hf 5 rfl, h21, hi, hc, hg, hget, e1, hd, e2, e3]
      exact ⟨k + 1, by omega, by omega, rfl, take_ops hc hno hq⟩
  · have hk17 : k = 17 := by omega
    subst hk17
    simp [h21]
    refine ⟨?_, hF⟩
    rw [ho, opN_none hno]; rfl
end Go.Dm
