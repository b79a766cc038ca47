/- Library: CutSuffix, IndexByte; Trim of digits. -/
import Derived.Test.YtnmfdjmejpioiaaDoorTxD
set_option linter.unusedVariables false
set_option linter.unusedSimpArgs false
namespace Go.Dm
open Go.Proofs
theorem suffix_drop (s p : List UInt8) (h : p.length ≤ s.length) : (s.drop (s.length - p.length) = p) = (p.isSuffixOf s = true) := by
  rw [List.isSuffixOf_iff_suffix]
  apply propext
  constructor
  · intro e; rw [← e]; exact List.drop_suffix _ _
  · rintro ⟨t, rfl⟩; simp
theorem HasSuffix0_sp (s p : List UInt8) (hs : s.length < 2 ^ 62) (h : H) (h1 : h.one = []) : CallW E0 X0 (.fn 59) [str s, str p] h (fun v h' => v = .bool (p.isSuffixOf s) ∧ h' = h) := by
  refine CallW.body efn59 rfl rfl rfl [] (by kernel_rfl) ?_
  by_cases c : p.length ≤ s.length
  · have c' : (p.length : Int) ≤ s.length := by omega
    have e : IntKind.i64.wrap ((s.length : Int) - p.length) = ((s.length - p.length : Nat) : Int) := by rw [wrap_i64 (by omega) (by omega)]; omega
    simp [Tryd.f59, h1, c, e, suffix_drop]
    rw [Bool.eq_iff_iff, decide_eq_true_eq, List.isSuffixOf_iff_suffix]
  · simp [Tryd.f59, h1, c]
    rw [Bool.eq_false_iff]
    intro hp
    rw [List.isSuffixOf_iff_suffix] at hp
    exact c hp.length_le
/-- What is left ahead of a suffix. -/
def cutS (s p : List UInt8) : List UInt8 := if p.isSuffixOf s then s.take (s.length - p.length) else s
theorem CutSuffix0_sp (s p : List UInt8) (hs : s.length < 2 ^ 62) (h : H) (h1 : h.one = []) : CallW E0 X0 (.fn 53) [str s, str p] h (fun v h' => v = .tuple #[str (cutS s p), .bool (p.isSuffixOf s)] ∧ h' = h) := by
  refine CallW.body efn53 rfl rfl rfl [] (by kernel_rfl) ?_
  simp [Tryd.f53, h1]
  refine (HasSuffix0_sp s p hs h h1).mono ?_
  rintro v h' ⟨rfl, rfl⟩
  cases hc : p.isSuffixOf s with
  | false => simp [h1, cutS, hc]
  | true =>
    have c : p.length ≤ s.length := by rw [List.isSuffixOf_iff_suffix] at hc; exact hc.length_le
    have e : IntKind.i64.wrap ((s.length : Int) - p.length) = ((s.length - p.length : Nat) : Int) := by rw [wrap_i64 (by omega) (by omega)]; omega
    simp [h1, cutS, hc, e]
theorem CutSuffix_sp (s p : List UInt8) (hs : s.length < 2 ^ 62) (h : H) (h1 : h.one = []) : CallW E0 X0 (.fn 44) [str s, str p] h (fun v h' => v = .tuple #[str (cutS s p), .bool (p.isSuffixOf s)] ∧ h' = h) := by
  refine CallW.body efn44 rfl rfl rfl [] (by kernel_rfl) ?_
  simp [Tryd.f44, h1]
  refine (CutSuffix0_sp s p hs h h1).mono ?_
  rintro v h' ⟨rfl, rfl⟩
  simp [h1]
theorem IndexByte_sp (s : List UInt8) (c : UInt8) (h : H) (h1 : h.one = []) : CallW E0 X0 (.fn 52) [str s, .int .u8 c.toNat] h (fun v h' => v = .int .i64 (Lib.indexByte s c) ∧ h' = h) := by
  refine CallW.body efn52 rfl rfl rfl [] (by kernel_rfl) ?_
  simp [Tryd.f52, h1]
  have hc : (c.toNat : Int).toNat.toUInt8 = c := by simp
  have hX : X0 58 [str s, .int .u8 c.toNat] h = some (.int .i64 (Lib.indexByte s c), h) := by
    show some _ = _
    rw [hc]
  refine CallW.plug hX ?_
  simp [h1]
/-- The set of the digits. -/
def AS (c : List Value) : Prop := c.length = 256 ∧ ∀ j, j < 256 → c[j]? = some (.bool (decide (48 ≤ j) && decide (j ≤ 57)))
theorem AS.dig {c : List Value} (h : AS c) (x : UInt8) : c[x.toNat]? = some (.bool (isDig x)) := h.2 x.toNat x.toNat_lt
set_option maxRecDepth 100000 in
set_option maxHeartbeats 8000000 in
theorem contains_sp (b : Nat) (x : UInt8) (c : List Value) (st fz : Nat) (own : Bool) (ty : Option TypeId) (h : H) (h1 : h.one = []) (hb : h.get b = some (.cells c st own fz ty)) (hc : AS c) :
    CallW E0 X0 (.fn 81) [.pointer (some ⟨b, 0, none⟩), .int .u8 x.toNat] h (fun r h' => r = .bool (isDig x) ∧ h' = h) := by
  refine CallW.body efn81 rfl rfl rfl [] (by kernel_rfl) ?_
  have hx := x.toNat_lt
  have e1 : (x.toNat : Int) < 256 := by omega
  have hd := hc.dig x
  simp [Tryd.f81, h1, e1, hb, hd]
set_option maxRecDepth 100000 in
set_option maxHeartbeats 8000000 in
theorem trimR_sp (s : List UInt8) (hs : s.length < 2 ^ 40) (b : Nat) (c : List Value) (st fz : Nat) (own : Bool) (ty : Option TypeId) (h : H) (h1 : h.one = []) (hb : h.get b = some (.cells c st own fz ty)) (hc : AS c) :
    CallW E0 X0 (.fn 67) [str s, .pointer (some ⟨b, 0, none⟩)] h (fun r h' => (∃ m, m ≤ s.length ∧ r = str (s.take m) ∧ (s.drop m).all isDig = true ∧ (0 < m → isDig (bt s (m - 1)) = false)) ∧ h' = h) := by
  refine CallW.body efn67 rfl rfl rfl [] (by kernel_rfl) ?_
  simp [Tryd.f67, h1]
  refine wpd_loop (fun (m : Nat) fr h3 => fr.get 0 = some (str (s.take m)) ∧ m ≤ s.length ∧ (s.drop m).all isDig = true ∧ h3 = h) (fun m => m) s.length ⟨by simp, Nat.le_refl _, by simp, rfl⟩ ?_
  rintro m fr h3 ⟨f0, hm, ha, rfl⟩ hf
  have g1 := hf 1 rfl
  simp at g1
  have hlen : (s.take m).length = m := by rw [List.length_take]; omega
  by_cases h0 : 0 < m
  · have e1 : (0 : Int) < m := by omega
    have hw : IntKind.i64.wrap ((m : Int) - 1) = ((m - 1 : Nat) : Int) := wrap_pred h0 (by omega)
    have hx := idxB_nat (l := s.take m) (k := m - 1) (by omega)
    have hbt : bt (s.take m) (m - 1) = bt s (m - 1) := by simp [bt, List.getD, List.getElem?_take, show m - 1 < m by omega]
    rw [hbt] at hx
    have hml : min m s.length = m := by omega
    simp [f0, g1, h1, hml, e1, h0, hw, hx]
    refine (contains_sp b _ c st fz own ty h3 h1 hb hc).mono ?_
    rintro _ h4 ⟨rfl, rfl⟩
    cases hd : isDig (bt s (m - 1)) with
    | false =>
      simp [f0, h1]
      exact ⟨m, hm, rfl, by simpa using ha, fun _ => hd⟩
    | true =>
      have e2 : m - 1 ≤ m := by omega
      have hmm : min (m - 1) m = m - 1 := by omega
      simp [f0, h1, hml, hw, e2, List.take_take, hmm]
      refine ⟨m - 1, by omega, rfl, by omega, ?_⟩
      have e3 : s.drop (m - 1) = bt s (m - 1) :: s.drop m := by
        rw [List.drop_eq_getElem_cons (by omega)]
        simp [bt, List.getD, show m - 1 < s.length by omega, show m - 1 + 1 = m by omega]
      rw [e3]
      simp [hd] at ha ⊢
      exact ha
  · have hm0 : m = 0 := by omega
    subst hm0
    simp [f0, h1]
    exact ⟨0, by omega, by simp, by simpa using ha, by simp⟩
set_option maxRecDepth 100000 in
set_option maxHeartbeats 8000000 in
theorem trimL_sp (s : List UInt8) (hs : s.length < 2 ^ 40) (b : Nat) (c : List Value) (st fz : Nat) (own : Bool) (ty : Option TypeId) (h : H) (h1 : h.one = []) (hb : h.get b = some (.cells c st own fz ty)) (hc : AS c) :
    CallW E0 X0 (.fn 66) [str s, .pointer (some ⟨b, 0, none⟩)] h (fun r h' => (∃ j, j ≤ s.length ∧ r = str (s.drop j) ∧ (s.take j).all isDig = true) ∧ h' = h) := by
  refine CallW.body efn66 rfl rfl rfl [] (by kernel_rfl) ?_
  simp [Tryd.f66, h1]
  refine wpd_loop (fun (j : Nat) fr h3 => fr.get 0 = some (str (s.drop j)) ∧ j ≤ s.length ∧ (s.take j).all isDig = true ∧ h3 = h) (fun j => s.length - j) 0 ⟨by simp, by omega, by simp, rfl⟩ ?_
  rintro j fr h3 ⟨f0, hj, ha, rfl⟩ hf
  have g1 := hf 1 rfl
  simp at g1
  obtain ⟨t, ht⟩ : ∃ t, t = s.drop j := ⟨_, rfl⟩
  have htl : t.length = s.length - j := by rw [ht, List.length_drop]
  rw [← ht] at f0
  by_cases h0 : j < s.length
  · have e1 : (0 : Int) < t.length := by omega
    have e3 : 0 < t.length := by omega
    have e4 : t ≠ [] := List.length_pos_iff.1 e3
    have e5 : 1 ≤ t.length := e3
    have hx := idxB_nat (l := t) (k := 0) e3
    have hbt : bt t 0 = bt s j := by rw [ht, bt_drop, Nat.add_zero]
    rw [hbt] at hx
    simp only [Int.natCast_zero] at hx
    simp [f0, g1, h1, e1, e3, e4, hx]
    refine (contains_sp b _ c st fz own ty h3 h1 hb hc).mono ?_
    rintro _ h4 ⟨rfl, rfl⟩
    cases hd : isDig (bt s j) with
    | false =>
      simp [f0, h1]
      exact ⟨j, hj, by rw [ht], by simpa using ha⟩
    | true =>
      have ha2 : (s.take (j + 1)).all isDig = true := by rw [take_bt h0, List.all_append, ha]; simp [hd]
      have e6 : t.drop 1 = s.drop (j + 1) := by rw [ht, List.drop_drop]
      have e7 : (1 : Int) ≤ t.length := by omega
      have e8 : t.tail = s.drop (j + 1) := by rw [← e6]; simp
      simp [f0, h1, e5, e7, e6, e8]
      exact ⟨j + 1, by omega, rfl, by omega, List.all_eq_true.1 ha2⟩
  · have ht0 : t = [] := List.eq_nil_of_length_eq_zero (by omega)
    subst ht0
    simp [f0, h1]
    exact ⟨j, hj, by rw [← ht], by simpa using ha⟩
theorem setAt_full : ∀ (c z : List Value), c.length = z.length → setAt z 0 c = c := by
  intro c z h
  rw [setAt_eq _ _ _ (by omega)]
  simp [h]
set_option maxRecDepth 100000 in
set_option maxHeartbeats 8000000 in
theorem mkset_sp (h : H) (h1 : h.one = []) :
    CallW E0 X0 (.fn 65) [str [48, 49, 50, 51, 52, 53, 54, 55, 56, 57]] h (fun r h' => (∃ c, AS c ∧ r = .tuple #[.agg c.toArray, .bool true]) ∧ Fr h.next h h') := by
  refine CallW.body efn65 rfl rfl rfl [] (by kernel_rfl) ?_
  simp [Tryd.f65, h1]
  generalize hz : (DObj.cells _ 0 true 0 none) = Z
  have hZ : Z = .cells (List.replicate 256 (.bool false)) 0 true 0 none := by rw [← hz]; rfl
  clear hz
  subst hZ
  refine wpd_loop (fun (k : Nat) fr h3 => k ≤ 10 ∧ fr.get 4 = some (.int .i64 k) ∧ (∃ c : List Value, h3.get h.next = some (.cells c 0 true 0 none) ∧ c.length = 256 ∧ ∀ j, j < 256 → c[j]? = some (.bool (decide (48 ≤ j) && decide (j < 48 + k)))) ∧ Fr h.next h h3) (fun k => 10 - k) 0 ⟨by omega, by simp, ⟨List.replicate 256 (.bool false), by simp, by simp, fun j hj => by rw [List.getElem?_replicate, if_pos hj]; congr 2; simp⟩, (Fr.refl h1).nw (Nat.le_refl _) _⟩ ?_
  rintro k fr h3 ⟨hk, f4, ⟨c, hc, hcl, hcj⟩, hf3⟩ hf
  have g0 := hf 0 rfl
  have g2 := hf 2 rfl
  simp at g0 g2
  by_cases hk10 : k < 10
  · have e1 : (k : Int) < 10 := by omega
    have hw : IntKind.i64.wrap ((k : Int) + 1) = ((k + 1 : Nat) : Int) := wrap_succ (by omega)
    simp [f4, g0, hf3.one, e1]
    refine idx_val (f := fun x => 48 + x) (m := 10) (x := k) hk10 (by rfl) (by decide +kernel) ?_
    have e2 : ¬ (128 : Int) ≤ ((48 + k : Nat) : Int) := by omega
    obtain ⟨u, hu⟩ : ∃ u, u = 48 + k := ⟨_, rfl⟩
    rw [← hu]
    have e3 : (u : Int) < 256 := by omega
    have e4 : ¬ (128 : Int) ≤ (u : Int) := by omega
    have e5 : u + 1 ≤ 256 := by omega
    have e6 : u < 256 := by omega
    simp [f4, g0, g2, hf3.one, e3, e4, e5, e6, hc, hcl, hw]
    refine ⟨k + 1, by omega, by omega, rfl, fun j hj => ?_, hf3.put (Nat.le_refl _) _⟩
    by_cases hj2 : u = j
    · subst hj2
      rw [List.getElem?_set_self (by omega)]
      congr 2
      simp; omega
    · rw [List.getElem?_set_ne hj2, hcj j hj]
      congr 2
      congr 1
      rw [decide_eq_decide]; omega
  · have hk0 : k = 10 := by omega
    subst hk0
    have hAS : AS c := ⟨hcl, fun j hj => by rw [hcj j hj]; congr 3; rw [decide_eq_decide]; omega⟩
    have hct : c.take 256 = c := List.take_of_length_le (by omega)
    have hsf := setAt_full c c rfl
    simp [f4, g0, g2, hf3.one, hc, hcl, hct, hsf]
    refine ⟨fun x hx => ?_, hAS, hf3.put (Nat.le_refl _) _⟩
    obtain ⟨i, hi, rfl⟩ := List.getElem_of_mem hx
    have := hcj i (by omega)
    rw [List.getElem?_eq_getElem hi] at this
    rw [Option.some.inj this]
    rfl
theorem AS.cells {c : List Value} (h : AS c) : ∀ x ∈ c, cellV x = true := by
  intro x hx
  obtain ⟨i, hi, rfl⟩ := List.getElem_of_mem hx
  have := h.2 i (by have := h.1; omega)
  rw [List.getElem?_eq_getElem hi] at this
  rw [Option.some.inj this]
  rfl
set_option maxRecDepth 100000 in
set_option maxHeartbeats 8000000 in
theorem Trim_sp (s : List UInt8) (hs : s.length < 2 ^ 40) (h : H) (h1 : h.one = []) :
    CallW E0 X0 (.fn 55) [str s, str [48, 49, 50, 51, 52, 53, 54, 55, 56, 57]] h (fun r h' => (∃ u : List UInt8, r = str u ∧ (u = [] ↔ s.all isDig = true)) ∧ Fr h.next h h') := by
  refine CallW.body efn55 rfl rfl rfl [] (by kernel_rfl) ?_
  by_cases h0 : s = []
  · subst h0
    simp [Tryd.f55, h1]
    exact Fr.refl h1
  simp [Tryd.f55, h1, h0]
  refine (mkset_sp h h1).mono ?_
  rintro _ h2 ⟨⟨c, hc, rfl⟩, f2⟩
  have hcl := hc.1
  have hsf := fun z (hz : c.length = z.length) => setAt_full c z hz
  simp [f2.one, hcl]
  refine ⟨hc.cells, ?_⟩
  rw [setAt_full c _ (by rw [hcl]; rfl)]
  have f3 : ∀ Z : DObj, Fr h.next h ((h2.nw Z).put h2.next (.cells c 0 true 0 none)) := fun Z => (f2.nw f2.next _).put f2.next _
  refine (trimR_sp s hs h2.next c 0 0 true none _ (by simp) (by simp) hc).mono ?_
  rintro _ h4 ⟨⟨m, hm, rfl, ha, hlast⟩, rfl⟩
  simp
  refine (trimL_sp (s.take m) (by rw [List.length_take]; omega) h2.next c 0 0 true none _ (by simp) (by simp) hc).mono ?_
  rintro _ h5 ⟨⟨j, hj, rfl, ha2⟩, rfl⟩
  simp
  refine ⟨⟨_, rfl, ?_⟩, f3 _⟩
  rw [List.length_take] at hj
  have hsm : s.all isDig = true ↔ m = 0 := by
    constructor
    · intro hall
      rcases Nat.eq_zero_or_pos m with h0 | h0
      · exact h0
      · have h2 := hlast h0
        have h3 : bt s (m - 1) ∈ s := by
          have : bt s (m - 1) = s[m - 1] := by simp [bt, List.getD, show m - 1 < s.length by omega]
          rw [this]; exact List.getElem_mem ..
        rw [List.all_eq_true.1 hall _ h3] at h2
        cases h2
    · rintro rfl; simpa using ha
  constructor
  · intro he
    have hl := congrArg List.length he
    simp only [List.length_drop, List.length_take, List.length_nil] at hl
    refine List.all_eq_true.1 (hsm.2 ?_)
    rcases Nat.eq_zero_or_pos m with h0 | h0
    · exact h0
    · exfalso
      have h2 := hlast h0
      have h3 : bt s (m - 1) ∈ (s.take m).take j := by
        have h4 : (s.take m).take j = s.take m := List.take_of_length_le (by rw [List.length_take]; omega)
        rw [h4]
        have : bt s (m - 1) = (s.take m)[m - 1]'(by rw [List.length_take]; omega) := by simp [bt, List.getD, show m - 1 < s.length by omega]
        rw [this]; exact List.getElem_mem ..
      rw [List.all_eq_true.1 ha2 _ h3] at h2
      cases h2
  · intro hall
    have hm0 := hsm.1 (List.all_eq_true.2 hall)
    subst hm0
    simp
end Go.Dm
