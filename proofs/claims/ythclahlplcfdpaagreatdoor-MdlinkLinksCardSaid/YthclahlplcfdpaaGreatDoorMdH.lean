/- The reference's titles; destinations in angles; destinations. -/
import Derived.Test.YthclahlplcfdpaaGreatDoorMdG
set_option linter.unusedVariables false
set_option linter.unusedSimpArgs false
namespace Go.Dm
open Go.Proofs
/-- What is within, by the two places. -/
theorem two_ways (e b : UInt8) (he : e ≠ 92) (hb : b ≠ 92) (hbe : b ≠ e) (u : List UInt8) (a : Nat) :
    (∃ k, wi e [b] false u = some (k + 1) ∧ k < u.length ∧ plc (fnd e false u) a = ((a + k : Nat) : Int) ∧ ¬ (0 ≤ plc (fnd b false u) a ∧ plc (fnd b false u) a < ((a + k : Nat) : Int))) ∨
    (wi e [b] false u = none ∧ (plc (fnd e false u) a < 0 ∨ (¬ plc (fnd e false u) a < 0 ∧ 0 ≤ plc (fnd b false u) a ∧ plc (fnd b false u) a < plc (fnd e false u) a))) := by
  have hw := wi_fnd e b he hb hbe u false
  cases hc : fnd e false u with
  | none =>
    rw [hc] at hw
    exact .inr ⟨by rw [hw]; rfl, .inl (by simp [plc])⟩
  | some k =>
    rw [hc] at hw
    cases ho : fnd b false u with
    | none =>
      rw [ho] at hw
      exact .inl ⟨k, by rw [hw]; rfl, fnd_lt _ _ _ _ hc, rfl, by simp [plc]⟩
    | some o =>
      rw [ho] at hw
      unfold ofFnd at hw
      simp only at hw
      by_cases q : o < k
      · rw [if_pos q] at hw
        exact .inr ⟨hw, .inr ⟨by simp [plc] <;> omega, by simp [plc] <;> omega, by simp [plc] <;> omega⟩⟩
      · rw [if_neg q] at hw
        exact .inl ⟨k, hw, fnd_lt _ _ _ _ hc, rfl, by simp [plc]; omega⟩
theorem one_way (e : UInt8) (he : e ≠ 92) (u : List UInt8) (a : Nat) :
    (∃ k, wi e [] false u = some (k + 1) ∧ k < u.length ∧ plc (fnd e false u) a = ((a + k : Nat) : Int)) ∨ (wi e [] false u = none ∧ plc (fnd e false u) a < 0) := by
  have hw := wi_fnd0 e he u false
  cases hc : fnd e false u with
  | none =>
    rw [hc] at hw
    exact .inr ⟨by rw [hw]; rfl, by simp [plc]⟩
  | some k =>
    rw [hc] at hw
    exact .inl ⟨k, by rw [hw]; rfl, fnd_lt _ _ _ _ hc, rfl⟩
section
variable {h : H}
theorem Title17_sp (l : List UInt8) (hl : l.length < 2 ^ 31) (a e : Nat) (he : e ≤ eN l) (h1 : h.one = []) : CallW E0 X0 (.fn 29) [str l, .int .i64 a, .int .i64 e] h (fun v h' => v = nOk (ttL (sg l a e)) a ∧ h' = h) := by
  refine CallW.body efn29 rfl rfl rfl [] (by kernel_rfl) ?_
  simp [Tryz.f29, h1]
  refine (bound17_sp l hl a e he h1).mono ?_
  rintro _ h2 ⟨rfl, rfl⟩
  have hel : e ≤ l.length := Nat.le_trans he (eN_len l)
  by_cases c : a < e
  rotate_left
  · have e0 : sg l a e = [] := sg_nil (by omega)
    have hr : ttL ([] : List UInt8) = none := rfl
    simp [h1, c, e0, hr, nOk]
  obtain ⟨x, hx⟩ : ∃ x, x = bt l a := ⟨_, rfl⟩
  obtain ⟨u, hu⟩ : ∃ u, u = sg l (a + 1) e := ⟨_, rfl⟩
  have htc : sg l a e = x :: u := by rw [hx, hu, sg_cons c hel]
  have hul : u.length = e - (a + 1) := by rw [hu, sg_len _ _ _ hel]
  have hix : idxB l a = some (.int .u8 x.toNat) := by rw [hx]; exact idxB_nat (by omega)
  rw [htc]
  by_cases c40 : x.toNat = 40
  · have hx40 : x = 40 := UInt8.toNat_inj.1 c40
    have hr : ttL (x :: u) = (wi 41 [40] false u).map (· + 1) := by rw [tt_cons, if_neg (by rw [hx40]; decide), if_pos hx40]
    rw [hr]
    have d34 : ¬ x.toNat = 34 := by omega
    have d39 : ¬ x.toNat = 39 := by omega
    simp [h1, c, hix, d34, d39, eq_true c40]
    refine (find_sp l hl a e c hel 41 h1).mono ?_
    rintro _ h3 ⟨rfl, rfl⟩
    rw [← hu]
    simp [h1]
    refine (find_sp l hl a e c hel 40 h1).mono ?_
    rintro _ h4 ⟨rfl, rfl⟩
    rw [← hu]
    have hw := two_ways 41 40 (by decide) (by decide) (by decide) u (a + 1)
    generalize hB : plc (fnd 41 false u) (a + 1) = B at hw ⊢
    generalize hA : plc (fnd 40 false u) (a + 1) = A at hw ⊢
    rcases hw with ⟨k, q1, q2, q3, q4⟩ | ⟨q1, q2⟩
    · rw [q1]
      have n1 : ¬ B < 0 := by omega
      have wb : IntKind.i64.wrap (B + 1) = B + 1 := by rw [wrap_i64 (by omega) (by omega)]
      by_cases z : 0 ≤ A
      · have z2 : ¬ A < B := by omega
        simp [h1, nOk, n1, z, z2, wb]
        omega
      · simp [h1, nOk, n1, z, wb]
        omega
    · rw [q1]
      by_cases z : 0 ≤ A
      · by_cases z2 : A < B
        · simp [h1, nOk, z, z2]
        · have n1 : B < 0 := by omega
          simp [h1, nOk, z, z2, n1]
      · have n1 : B < 0 := by omega
        simp [h1, nOk, z, n1]
  by_cases c34 : x.toNat = 34
  · have hx34 : x = 34 := UInt8.toNat_inj.1 c34
    have hr : ttL (x :: u) = (wi x [] false u).map (· + 1) := by rw [tt_cons, if_pos (.inl hx34)]
    rw [hr]
    simp [h1, c, hix, eq_true c34]
    refine (find_sp l hl a e c hel x h1).mono ?_
    rintro _ h3 ⟨rfl, rfl⟩
    rw [← hu]
    have hw := one_way x (by rw [hx34]; decide) u (a + 1)
    generalize hB : plc (fnd x false u) (a + 1) = B at hw ⊢
    rcases hw with ⟨k, q1, q2, q3⟩ | ⟨q1, q2⟩
    · rw [q1]
      have n1 : ¬ B < 0 := by omega
      have wb : IntKind.i64.wrap (B + 1) = B + 1 := by rw [wrap_i64 (by omega) (by omega)]
      simp [h1, nOk, n1, wb]
      omega
    · rw [q1]
      simp [h1, nOk, q2]
  by_cases c39 : x.toNat = 39
  · have hx39 : x = 39 := UInt8.toNat_inj.1 c39
    have hr : ttL (x :: u) = (wi x [] false u).map (· + 1) := by rw [tt_cons, if_pos (.inr hx39)]
    rw [hr]
    simp [h1, c, hix, c34, eq_true c39]
    refine (find_sp l hl a e c hel x h1).mono ?_
    rintro _ h3 ⟨rfl, rfl⟩
    rw [← hu]
    have hw := one_way x (by rw [hx39]; decide) u (a + 1)
    generalize hB : plc (fnd x false u) (a + 1) = B at hw ⊢
    rcases hw with ⟨k, q1, q2, q3⟩ | ⟨q1, q2⟩
    · rw [q1]
      have n1 : ¬ B < 0 := by omega
      have wb : IntKind.i64.wrap (B + 1) = B + 1 := by rw [wrap_i64 (by omega) (by omega)]
      simp [h1, nOk, n1, wb]
      omega
    · rw [q1]
      simp [h1, nOk, q2]
  have hr : ttL (x :: u) = none := by
    rw [tt_cons, if_neg, if_neg]
    · rintro rfl; exact c40 rfl
    · rintro (rfl | rfl)
      · exact c34 rfl
      · exact c39 rfl
  simp [h1, c, hix, c34, c39, c40, hr, nOk]
/-- A destination in angles. -/
theorem Dest_sp (s : List UInt8) (hs : s.length < 2 ^ 31) (hn : 10 ∉ s) (a : Nat) (ha : a < s.length) (h60 : bt s a = 60) (h1 : h.one = []) (g : GmH h) : CallW E0 X0 (.fn 50) [str s, .int .i64 a, .int .i64 s.length] h (fun v h' => v = nOk (goL (s.drop a)) a ∧ h' = h) := by
  refine CallW.body efn50 rfl rfl rfl [] (by kernel_rfl) ?_
  simp [Tryz.f50, h1]
  refine (part_sp s hs hn a h1 g).mono ?_
  rintro _ h2 ⟨rfl, rfl⟩
  obtain ⟨t, ht⟩ : ∃ t, t = s.drop a := ⟨_, rfl⟩
  obtain ⟨u, hu⟩ : ∃ u, u = s.drop (a + 1) := ⟨_, rfl⟩
  have htc : t = 60 :: u := by rw [ht, hu, drop_bt ha, h60]
  have htl : t.length = s.length - a := by rw [ht]; simp
  rw [← ht]
  have hix : idxB t 0 = some (.int .u8 60) := by
    rw [htc]
    have := idxB_nat (l := 60 :: u) (k := 0) (by simp)
    simpa [bt] using this
  have htt : t.tail = u := by rw [htc]; rfl
  have hul : u.length + 1 = t.length := by rw [htc]; simp
  have hr : goL t = (wi 62 [60] false u).map (· + 1) := by rw [htc]; rfl
  simp [h1, ha, hix]
  refine (within_sp t (by omega) (by rw [htc]; simp) 62 [60] h1).mono ?_
  rintro _ h3 ⟨rfl, rfl⟩
  rw [htt, hr]
  cases hc : wi 62 [60] false u with
  | none => simp [h1, nOk]
  | some k =>
    have hk := wi_le _ _ _ _ _ hc
    have hw : IntKind.i64.wrap ((a : Int) + (1 + k)) = (a : Int) + (1 + k) := by rw [wrap_i64 (by omega) (by omega)]
    simp [h1, nOk, hw]
    omega
theorem Dest17_sp (l : List UInt8) (hl : l.length < 2 ^ 31) (a e : Nat) (he : e ≤ eN l) (c : a < e) (h60 : bt l a = 60) (h1 : h.one = []) : CallW E0 X0 (.fn 55) [str l, .int .i64 a, .int .i64 e] h (fun v h' => v = nOk (goL (sg l a e)) a ∧ h' = h) := by
  refine CallW.body efn55 rfl rfl rfl [] (by kernel_rfl) ?_
  simp [Tryz.f55, h1]
  refine (bound17_sp l hl a e he h1).mono ?_
  rintro _ h2 ⟨rfl, rfl⟩
  have hel : e ≤ l.length := Nat.le_trans he (eN_len l)
  obtain ⟨u, hu⟩ : ∃ u, u = sg l (a + 1) e := ⟨_, rfl⟩
  have htc : sg l a e = 60 :: u := by rw [hu, sg_cons c hel, h60]
  have hul : u.length = e - (a + 1) := by rw [hu, sg_len _ _ _ hel]
  have hix : idxB l a = some (.int .u8 60) := by have := idxB_nat (l := l) (k := a) (by omega); rw [h60] at this; exact this
  have hr : goL (60 :: u) = (wi 62 [60] false u).map (· + 1) := rfl
  rw [htc, hr]
  simp [h1, c, hix]
  refine (find_sp l hl a e c hel 62 h1).mono ?_
  rintro _ h3 ⟨rfl, rfl⟩
  rw [← hu]
  simp [h1]
  refine (find_sp l hl a e c hel 60 h1).mono ?_
  rintro _ h4 ⟨rfl, rfl⟩
  rw [← hu]
  have hw := two_ways 62 60 (by decide) (by decide) (by decide) u (a + 1)
  generalize hB : plc (fnd 62 false u) (a + 1) = B at hw ⊢
  generalize hA : plc (fnd 60 false u) (a + 1) = A at hw ⊢
  rcases hw with ⟨k, q1, q2, q3, q4⟩ | ⟨q1, q2⟩
  · rw [q1]
    have n1 : ¬ B < 0 := by omega
    have wb : IntKind.i64.wrap (B + 1) = B + 1 := by rw [wrap_i64 (by omega) (by omega)]
    by_cases z : 0 ≤ A
    · have z2 : ¬ A < B := by omega
      simp [h1, nOk, n1, z, z2, wb]
      omega
    · simp [h1, nOk, n1, z, wb]
      omega
  · rw [q1]
    by_cases n1 : B < 0
    · simp [h1, nOk, n1]
    · have z : 0 ≤ A := by omega
      have z2 : A < B := by omega
      simp [h1, nOk, n1, z, z2]
theorem gg_step (s : List UInt8) (d i : Nat) (hi : i < s.length) : gg d false (s.drop i) =
    if bt s i = 92 ∧ i + 1 < s.length ∧ isMk (bt s (i + 1)) = true then (gg d false (s.drop (i + 2))).map (· + 2)
    else if bt s i = 40 then (gg (d + 1) false (s.drop (i + 1))).map (· + 1)
    else if (bt s i = 41 ∧ d = 0) ∨ (bt s i).toNat ≤ 32 ∨ bt s i = 127 then (if d = 0 then some 0 else none)
    else if bt s i = 41 then (gg (d - 1) false (s.drop (i + 1))).map (· + 1) else (gg d false (s.drop (i + 1))).map (· + 1) := by
  rw [drop_bt hi, gg]
  have ht : tks (bt s i) (s.drop (i + 1)) = true ↔ (bt s i = 92 ∧ i + 1 < s.length ∧ isMk (bt s (i + 1)) = true) := by
    unfold tks
    rcases Nat.lt_or_ge (i + 1) s.length with h | h
    · rw [drop_bt h]; simp [nxMk, h]
    · rw [List.drop_eq_nil_of_le h]; simp [nxMk]; omega
  by_cases c : bt s i = 92 ∧ i + 1 < s.length ∧ isMk (bt s (i + 1)) = true
  · rw [if_pos (ht.2 c), if_pos c, drop_bt c.2.1, gg, Option.map_map]
    rfl
  · rw [if_neg (fun q => c (ht.1 q)), if_neg c]
theorem go_cons (c : UInt8) (u : List UInt8) (hc : c ≠ 60) : goL (c :: u) = match gg 0 false (c :: u) with
      | some (k + 1) => some (k + 1)
      | _ => none := by
  show (if c = 60 then _ else _) = _
  rw [if_neg hc]
  cases gg 0 false (c :: u) with
  | none => rfl
  | some k => cases k <;> rfl
end
end Go.Dm
