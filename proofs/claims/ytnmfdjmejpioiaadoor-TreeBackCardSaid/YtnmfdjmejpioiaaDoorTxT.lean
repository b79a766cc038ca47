/- Library: strings.Split at a blank; strings.Lines. -/
import Derived.Test.YtnmfdjmejpioiaaDoorTxS
set_option linter.unusedVariables false
set_option linter.unusedSimpArgs false
namespace Go.Dm
open Go.Proofs
theorem ixb_hit {e : UInt8} : ∀ {w r : List UInt8}, (∀ c ∈ w, c ≠ e) → Lib.indexByte (w ++ e :: r) e = (w.length : Int)
  | [], r, _ => by simp [Lib.indexByte]
  | c :: w, r, h => by
    have h1 : (c == e) = false := by simpa using h c (List.mem_cons_self ..)
    have ih := ixb_hit (r := r) (fun d hd => h d (List.mem_cons_of_mem _ hd))
    simp only [List.cons_append, Lib.indexByte, h1, ih]
    have h2 : ((w.length : Int) == -1) = false := by simp
    simp [h2]
theorem ixb_miss {e : UInt8} : ∀ {w : List UInt8}, (∀ c ∈ w, c ≠ e) → Lib.indexByte w e = -1
  | [], _ => rfl
  | c :: w, h => by
    have h1 : (c == e) = false := by simpa using h c (List.mem_cons_self ..)
    have ih := ixb_miss (fun d hd => h d (List.mem_cons_of_mem _ hd))
    simp [Lib.indexByte, h1, ih]
theorem split_count : ∀ (s : List UInt8), (splitB s).length = Lib.countByte s 32 + 1
  | [] => rfl
  | c :: s => by
    have ih := split_count s
    unfold splitB
    by_cases h : c = 32
    · subst h
      rw [if_pos rfl]
      simp [Lib.countByte, List.count_cons] at ih ⊢
      exact ih
    · rw [if_neg h]
      have hne := splitB_ne s
      cases hs : splitB s with
      | nil => exact absurd hs hne
      | cons w ws =>
        rw [hs] at ih
        simp [Lib.countByte, List.count_cons, h] at ih ⊢
        exact ih
theorem count_le (s : List UInt8) : Lib.countByte s 32 ≤ s.length := List.count_le_length
theorem split_two {t : List UInt8} (h : 2 ≤ (splitB t).length) : ∃ w r, t = w ++ 32 :: r ∧ (∀ c ∈ w, c ≠ 32) ∧ splitB t = w :: splitB r := by
  rcases first_or 32 t with h1 | ⟨w, r, rfl, hw⟩
  · rw [splitB_none h1] at h; simp at h
  · exact ⟨w, r, rfl, hw, splitB_some hw⟩
theorem split_one {t : List UInt8} (h : (splitB t).length = 1) : splitB t = [t] := by
  rcases first_or 32 t with h1 | ⟨w, r, rfl, hw⟩
  · exact splitB_none h1
  · rw [splitB_some hw] at h
    have h2 := splitB_ne r
    have h3 : 0 < (splitB r).length := List.length_pos_iff.2 h2
    rw [List.length_cons] at h; omega
set_option maxRecDepth 100000 in
set_option maxHeartbeats 8000000 in
theorem Index_sp (t : List UInt8) (h : H) (h1 : h.one = []) :
    CallW E0 X0 (.fn 62) [str t, str [32]] h (fun r h' => r = .int .i64 (Lib.indexByte t 32) ∧ h' = h) := by
  refine CallW.body efn62 rfl rfl rfl [] (by kernel_rfl) ?_
  simp [Tryd.f62, h1]
  have hI : CallW E0 X0 (.fn 80) [str t, str [32]] h (fun r h' => r = .int .i64 (Lib.indexByte t 32) ∧ h' = h) := by
    refine CallW.body efn80 rfl rfl rfl [] (by kernel_rfl) ?_
    by_cases ht : [32] = t
    · subst ht
      simp [Tryd.f80, h1]
      rfl
    · have hc : (((32 : UInt8).toNat : Nat) : Int).toNat.toUInt8 = 32 := by decide
      have hX : X0 58 [str t, .int .u8 ((32 : UInt8).toNat : Nat)] h = some (.int .i64 (Lib.indexByte t 32), h) := by
        show some _ = _
        rw [hc]
      have hbt : idxB [32] 0 = some (.int .u8 ((32 : UInt8).toNat : Nat)) := rfl
      simp [Tryd.f80, h1, ht, hbt]
      refine CallW.plug hX ?_
      simp [h1]
  refine hI.mono ?_
  rintro _ h2 ⟨rfl, rfl⟩
  simp [h1]
theorem take_set1 {c : List Value} {i : Nat} (h : i < c.length) (v : Value) : (c.set i v).take (i + 1) = c.take i ++ [v] := by
  rw [List.take_succ_eq_append_getElem (by simpa using h)]
  simp [List.take_set_of_le (Nat.le_refl i)]
/-- A slice of strings, that is only read. -/
def RdS (h : H) (v : Value) (ws : List (List UInt8)) : Prop := ∃ b cap c st own fz ty, v = .slice (some ⟨b, 0, none⟩) ws.length cap ∧ h.get b = some (.cells c st own fz ty) ∧ b < h.next ∧ c.take ws.length = ws.map str
set_option maxRecDepth 100000 in
set_option maxHeartbeats 8000000 in
theorem Split_sp (s : List UInt8) (hs : s.length < 2 ^ 20) (h : H) (h1 : h.one = []) :
    CallW E0 X0 (.fn 45) [str s, str [32]] h (fun r h' => RdS h' r (splitB s) ∧ Fr h.next h h') := by
  refine CallW.body efn45 rfl rfl rfl [] (by kernel_rfl) ?_
  simp [Tryd.f45, h1]
  have hI : CallW E0 X0 (.fn 54) [str s, str [32], .int .i64 0, .int .i64 (-1)] h (fun r h' => RdS h' r (splitB s) ∧ Fr h.next h h') := by
    refine CallW.body efn54 rfl rfl rfl [] (by kernel_rfl) ?_
    have hcl := count_le s
    have hsc := split_count s
    have hX : X0 61 [str s, str [32]] h = some (.int .i64 (Lib.countByte s 32 : Nat), h) := rfl
    simp [Tryd.f54, h1]
    refine CallW.plug hX ?_
    obtain ⟨n, hn⟩ : ∃ n, n = Lib.countByte s 32 := ⟨_, rfl⟩
    rw [← hn] at hcl hsc ⊢
    obtain ⟨n1, hn1⟩ : ∃ n1, n1 = n + 1 := ⟨_, rfl⟩
    obtain ⟨L1, hL1⟩ : ∃ L1, L1 = s.length + 1 := ⟨_, rfl⟩
    have w1 : IntKind.i64.wrap ((n : Int) + 1) = (n1 : Int) := by rw [wrap_i64 (by omega) (by omega)]; omega
    have w2 : IntKind.i64.wrap ((s.length : Int) + 1) = (L1 : Int) := by rw [wrap_i64 (by omega) (by omega)]; omega
    have hmin : minD (.int .i64 (n1 : Int)) (.int .i64 (L1 : Int)) = some (.int .i64 (n1 : Int)) := by
      have : ¬ (L1 : Int) < (n1 : Int) := by omega
      simp [minD, this]
    have w3 : IntKind.i64.wrap ((n1 : Int) - 1) = (n : Int) := by rw [wrap_i64 (by omega) (by omega)]; omega
    have hms : makeSliceD E0 69 (.int .i64 (n1 : Int)) (.int .i64 (n1 : Int)) h = some (.slice (some ⟨h.next, 0, none⟩) n1 n1, h.nw (.cells (zerosD [str []] n1) 1 true 0 none)) := by
      have hb : E0.byt 9 = some 16 := by simp
      have hz : E0.siz 9 = some 1 := by simp
      have hz0 : zeroD E0 9 = some (str []) := by simp
      have hu : E0.und 69 = some (.slice 9) := by simp
      have hadr : h.addr = h.next := addr_one h h1
      unfold Env.byt at hb
      unfold Env.siz at hz
      cases hty : E0.ty 9 with
      | none => rw [hty] at hz; cases hz
      | some i =>
        rw [hty] at hb hz
        have hb' : i.bytes = 16 := by simpa using hb
        have hz' : i.size = 1 := by simpa using hz
        simp only [makeSliceD, hu, hty, hz0, hb', hz']
        rw [if_pos ?_]
        · simp [hadr, new_one h _ h1]
        · have hc1 : ((str []).cells.size == 1) = true := rfl
          rw [hc1]
          simp
          omega
    have hZl : (zerosD [str []] n1).length = n1 := by simp [zerosD]
    simp [h1, w1, w2, hmin, w3, hms]
    refine wpd_loop (fun (q : List (List UInt8) × List UInt8) fr h3 => fr.get 10 = some (.int .i64 (q.1.length : Int)) ∧ fr.get 0 = some (str q.2) ∧ splitB s = q.1 ++ splitB q.2 ∧ q.2.length ≤ s.length ∧ (∃ c : List Value, h3.get h.next = some (.cells c 1 true 0 none) ∧ c.length = n1 ∧ c.take q.1.length = q.1.map str) ∧ Fr h.next h h3 ∧ h.next < h3.next) (fun q => n1 - q.1.length) ([], s) ⟨by simp, by simp, rfl, Nat.le_refl _, ⟨_, by simp, hZl, by simp⟩, (Fr.refl h1).nw (Nat.le_refl _) _, by simp⟩ ?_
    rintro ⟨ws, t⟩ fr h3 ⟨f10, f0, hsp, htl, ⟨c, hc, hcl2, hct⟩, hf3, hn3⟩ hfe
    have g1 := hfe 1 rfl
    have g2 := hfe 2 rfl
    have g3 := hfe 3 rfl
    have g9 := hfe 9 rfl
    simp only at f10 f0 hsp htl hct
    simp at g1 g2 g3 g9
    have hlen := congrArg List.length hsp
    rw [hsc, List.length_append] at hlen
    have hpos : 0 < (splitB t).length := List.length_pos_iff.2 (splitB_ne t)
    by_cases hwn : ws.length < n
    · have e1 : (ws.length : Int) < n := by omega
      obtain ⟨w, r, rfl, hw, hst⟩ := split_two (t := t) (by omega)
      have hix := ixb_hit (r := r) hw
      have hlw : w.length + 1 + r.length ≤ s.length := by simp at htl; omega
      have e2 : (ws.length : Int) < n1 := by omega
      have e3 : ws.length < n1 := by omega
      have e3' : ws.length + 1 ≤ n1 := by omega
      have w4 : IntKind.i64.wrap (w.length : Int) = (w.length : Int) := wrap_nat (by omega)
      have w5 : IntKind.i64.wrap ((w.length : Int) + 1) = ((w.length + 1 : Nat) : Int) := wrap_succ (by omega)
      have w6 : IntKind.i64.wrap ((ws.length : Int) + 1) = ((ws.length + 1 : Nat) : Int) := wrap_succ (by omega)
      have d1 : (w ++ 32 :: r).take w.length = w := List.take_left
      have d2 : (w ++ 32 :: r).drop (w.length + 1) = r := by rw [← List.drop_drop, List.drop_left]; rfl
      have e4 : ¬ (w.length : Int) < 0 := by omega
      have e5 : w.length ≤ w.length + (r.length + 1) := by omega
      have e6 : w.length + 1 ≤ w.length + (r.length + 1) := by omega
      simp [f10, f0, g1, g2, g3, g9, e1, hf3.one]
      refine (Index_sp _ h3 hf3.one).mono ?_
      rintro _ h4 ⟨rfl, rfl⟩
      rw [hix]
      simp [f10, f0, g1, g2, g3, g9, e2, e3, e3', hf3.one, w4, w5, w6, d1, d2, e4, e5, e6, hc, hcl2]
      refine ⟨by omega, by omega, ws ++ [w], by simp; omega, by simp, r, rfl, by rw [hsp, hst]; simp, by omega, ?_, hf3.put (Nat.le_refl _) _, hn3⟩
      rw [List.length_append, List.length_cons, List.length_nil, take_set1 (by omega), hct]
      simp
    · have hwe : ws.length = n := by omega
      have hs1 := split_one (t := t) (by omega)
      rw [hs1] at hsp
      have e1 : ¬ (ws.length : Int) < n := by omega
      have e2 : (ws.length : Int) < n1 := by omega
      have e3' : ws.length + 1 ≤ n1 := by omega
      have w6 : IntKind.i64.wrap ((ws.length : Int) + 1) = ((ws.length + 1 : Nat) : Int) := wrap_succ (by omega)
      simp [f10, f0, g1, g2, g3, g9, e1, e2, e3', hf3.one, w6, hc, hcl2]
      have hl1 : (splitB s).length = ws.length + 1 := by rw [hsp]; simp
      refine ⟨⟨h.next, n1, c.set ws.length (str t), 1, true, 0, none, by rw [hl1], by simp, by simpa using hn3, ?_⟩, hf3.put (Nat.le_refl _) _⟩
      rw [hl1, take_set1 (by omega), hct, hsp]
      simp
  refine hI.mono ?_
  rintro r h2 ⟨r2, f2⟩
  simp [f2.one]
  exact ⟨r2, f2⟩
set_option maxRecDepth 100000 in
set_option maxHeartbeats 8000000 in
theorem Lines_sp (s : List UInt8) (h : H) (h1 : h.one = []) :
    CallW E0 X0 (.fn 43) [str s] h (fun r h' => r = .func (.func 51) #[] #[.pointer (some ⟨h.next, 0, none⟩)] ∧ h' = h.nw (.cells [str s] 0 true 0 none)) := by
  refine CallW.body efn43 rfl rfl rfl [] (by kernel_rfl) ?_
  simp [Tryd.f43, h1]
/-- A text's first line, and the rest. -/
def lineOf (t : List UInt8) : List UInt8 := if Lib.indexByte t 10 < 0 then t else t.take (Lib.indexByte t 10 + 1).toNat
def restOf (t : List UInt8) : List UInt8 := if Lib.indexByte t 10 < 0 then [] else t.drop (Lib.indexByte t 10 + 1).toNat
theorem line_cut {L r : List UInt8} (h : ∀ c ∈ L, c ≠ 10) : lineOf (L ++ 10 :: r) = L ++ [10] ∧ restOf (L ++ 10 :: r) = r := by
  have hx := ixb_hit (r := r) h
  unfold lineOf restOf
  rw [hx, if_neg (by omega), if_neg (by omega), show ((L.length : Int) + 1).toNat = L.length + 1 by omega]
  refine ⟨?_, ?_⟩
  · rw [List.take_append, List.take_of_length_le (by omega)]; simp
  · rw [← List.drop_drop, List.drop_left]; rfl
theorem line_all {L : List UInt8} (h : ∀ c ∈ L, c ≠ 10) : lineOf L = L ∧ restOf L = [] := by
  unfold lineOf restOf
  rw [ixb_miss h, if_pos (by decide), if_pos (by decide)]
  exact ⟨rfl, rfl⟩
theorem rest_lt {t : List UInt8} (h : t ≠ []) : (restOf t).length < t.length := by
  have hp : 0 < t.length := List.length_pos_iff.2 h
  rcases first_or 10 t with h1 | ⟨L, r, rfl, hL⟩
  · rw [(line_all h1).2]; exact hp
  · rw [(line_cut hL).2]; simp; omega
set_option maxRecDepth 100000 in
set_option maxHeartbeats 8000000 in
theorem lines1_sp (bs y : Nat) (I : List UInt8 → H → Prop) (D : H → Prop)
    (hI : ∀ t h, I t h → t.length < 2 ^ 40 ∧ h.one = [] ∧ h.get bs = some (.cells [str t] 0 true 0 none))
    (step : ∀ t h, t ≠ [] → I t h → CallW E0 X0 (.yd y) [str (lineOf t)] (h.put bs (.cells [str (restOf t)] 0 true 0 none)) (fun r h' => (r = .bool true ∧ I (restOf t) h') ∨ (r = .bool false ∧ D h' ∧ h'.one = [])))
    (s : List UInt8) (h : H) (h0 : I s h) :
    CallW E0 X0 (.fn 51) [.func (.yield y) #[] #[], .pointer (some ⟨bs, 0, none⟩)] h (fun r h' => I [] h' ∨ D h') := by
  refine CallW.body efn51 rfl rfl rfl [] (by kernel_rfl) ?_
  obtain ⟨_, h1, q0⟩ := hI s h h0
  simp [Tryd.f51, h1]
  refine wpd_loop (fun (t : List UInt8) fr h3 => I t h3) (fun t => t.length) s h0 ?_
  rintro t fr h3 hIt hf
  obtain ⟨htl, h1, q1⟩ := hI t h3 hIt
  have g0 := hf 0 rfl
  have g1 := hf 1 rfl
  simp at g0 g1
  by_cases ht : t = []
  · subst ht
    simp [g0, g1, q1, h1]
    exact .inl hIt
  have hp : 0 < t.length := List.length_pos_iff.2 ht
  have e1 : (0 : Int) < t.length := by omega
  have hst := step t h3 ht hIt
  have hrl := rest_lt ht
  simp [g0, g1, q1, h1, e1, ht, hp]
  refine (IndexByte_sp t 10 h3 h1).mono ?_
  rintro _ h4 ⟨rfl, rfl⟩
  have hge := Lib.indexByte_ge t 10
  by_cases c : Lib.indexByte t 10 < 0
  · have hl : lineOf t = t := if_pos c
    have hr : restOf t = [] := if_pos c
    rw [hl, hr] at hst
    have c2 : ¬ 0 ≤ Lib.indexByte t 10 := by omega
    simp [g0, g1, q1, h1, c2]
    refine hst.mono ?_
    rintro _ h5 (⟨rfl, hI5⟩ | ⟨rfl, hD, h15⟩)
    · obtain ⟨_, h15, _⟩ := hI _ _ hI5
      simp [h15]
      exact ⟨[], by rw [← hr]; exact hrl, by rw [← hr] at hI5 ⊢; exact hI5⟩
    · simp [h15]
      exact .inr hD
  · obtain ⟨k, hk⟩ : ∃ k : Nat, Lib.indexByte t 10 = k := ⟨(Lib.indexByte t 10).toNat, by omega⟩
    have hl : lineOf t = t.take (k + 1) := by unfold lineOf; rw [if_neg c, hk]; congr 1
    have hr : restOf t = t.drop (k + 1) := by unfold restOf; rw [if_neg c, hk]; congr 1
    rw [hl, hr] at hst
    have hkl : k + 1 ≤ t.length := by
      rcases first_or 10 t with hh | ⟨L, r, rfl, hL⟩
      · rw [ixb_miss hh] at hk; omega
      · rw [ixb_hit hL] at hk; simp; omega
    have w1 : IntKind.i64.wrap ((k : Int) + 1) = ((k + 1 : Nat) : Int) := wrap_succ (by omega)
    have e2 : (k : Int) + 1 ≤ t.length := by omega
    simp [hk, g0, g1, q1, h1, w1, e2, hkl]
    refine hst.mono ?_
    rintro _ h5 (⟨rfl, hI5⟩ | ⟨rfl, hD, h15⟩)
    · obtain ⟨_, h15, _⟩ := hI _ _ hI5
      simp [h15]
      exact ⟨restOf t, hrl, by rw [hr]; exact hI5⟩
    · simp [h15]
      exact .inr hD
end Go.Dm
