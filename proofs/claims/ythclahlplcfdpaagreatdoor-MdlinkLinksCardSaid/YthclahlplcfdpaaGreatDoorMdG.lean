/- Labels and titles, read: both functions of each. -/
import Derived.Test.YthclahlplcfdpaaGreatDoorMdF
import Derived.Test.YthclahlplcfdpaaGreatDoorMdL
set_option linter.unusedVariables false
set_option linter.unusedSimpArgs false
namespace Go.Dm
open Go.Proofs
theorem rd_cons (c : UInt8) (u : List UInt8) : rdL (c :: u) = if c = 91 then match wi 93 [91] false u with
      | some k => if k ≤ 201 ∧ foldL (u.take (k - 1)) ≠ [] then some (k + 1) else none
      | none => none
    else none := rfl
theorem tt_cons (c : UInt8) (u : List UInt8) : ttL (c :: u) = if c = 34 ∨ c = 39 then (wi c [] false u).map (· + 1) else if c = 40 then (wi 41 [40] false u).map (· + 1) else none := rfl
section
variable {h : H}
theorem Read_sp (s : List UInt8) (hs : s.length < 2 ^ 31) (hn : 10 ∉ s) (a : Nat) (h1 : h.one = []) (g : GmH h) : CallW E0 X0 (.fn 40) [str s, .int .i64 a, .int .i64 s.length] h (fun v h' => v = nOk (rdL (s.drop a)) a ∧ Fr h.next h h') := by
  refine CallW.body efn40 rfl rfl rfl [] (by kernel_rfl) ?_
  simp [Tryz.f40, h1]
  refine (part_sp s hs hn a h1 g).mono ?_
  rintro _ h2 ⟨rfl, rfl⟩
  have hF0 : Fr h2.next h2 h2 := Fr.refl h1
  by_cases c : a < s.length
  rotate_left
  · have e0 : s.drop a = [] := List.drop_eq_nil_of_le (by omega)
    have hr : rdL ([] : List UInt8) = none := rfl
    simp [h1, c, e0, hr, nOk, hF0]
  obtain ⟨t, ht⟩ : ∃ t, t = s.drop a := ⟨_, rfl⟩
  obtain ⟨x, hx⟩ : ∃ x, x = bt s a := ⟨_, rfl⟩
  obtain ⟨u, hu⟩ : ∃ u, u = s.drop (a + 1) := ⟨_, rfl⟩
  have htc : t = x :: u := by rw [ht, hx, hu, drop_bt c]
  have htl : t.length = s.length - a := by rw [ht]; simp
  rw [← ht]
  have hix : idxB t 0 = some (.int .u8 x.toNat) := by
    rw [htc]
    have := idxB_nat (l := x :: u) (k := 0) (by simp)
    simpa [bt] using this
  by_cases c1 : x = 91
  rotate_left
  · have hr : rdL t = none := by rw [htc, rd_cons, if_neg c1]
    have c1' : ¬ x.toNat = 91 := tn (by decide) c1
    simp [h1, c, hix, c1', hr, nOk, hF0]
  have c1' : x.toNat = 91 := by rw [c1]; rfl
  simp [h1, c, hix, eq_true c1']
  refine (within_sp t (by omega) (by rw [htc]; simp) 93 [91] h1).mono ?_
  rintro _ h3 ⟨rfl, rfl⟩
  have htt : t.tail = u := by rw [htc]; rfl
  rw [htt]
  cases hw : wi 93 [91] false u with
  | none =>
    have hr : rdL t = none := by rw [htc, rd_cons, if_pos c1, hw]
    simp [h1, hr, nOk, hF0]
  | some k =>
    have hk := wi_le _ _ _ _ _ hw
    have hul : u.length + 1 = t.length := by rw [htc]; simp
    have w1 : IntKind.i64.wrap (1 + (k : Int) - 2) = (k : Int) - 1 := by rw [wrap_i64 (by omega) (by omega)]; omega
    by_cases c2 : k ≤ 201
    rotate_left
    · have hr : rdL t = none := by rw [htc, rd_cons, if_pos c1, hw]; simp only; rw [if_neg (fun q => c2 q.1)]
      have c2' : (200 : Int) < (k : Int) - 1 := by omega
      simp [h1, hr, nOk, w1, c2', hF0]
    · have c2' : ¬ (200 : Int) < (k : Int) - 1 := by omega
      have w2 : IntKind.i64.wrap (1 + (k : Int) - 1) = (k : Int) := by rw [wrap_i64 (by omega) (by omega)]; omega
      have w3 : IntKind.i64.wrap (k : Int) = k := wrap_i64 (by omega) (by omega)
      have e1 : (t.take k).tail = u.take (k - 1) := by
        rw [htc]
        obtain ⟨j, rfl⟩ : ∃ j, k = j + 1 := ⟨k - 1, by omega⟩
        simp
      have b1 : (1 : Int) ≤ k := by omega
      have b2 : (k : Int) ≤ t.length := by omega
      have b3 : k ≤ t.length := by omega
      simp [h1, nOk, w1, w2, w3, c2', b1, b2, b3, hk.1]
      rw [e1]
      refine (Fold_sp (u.take (k - 1)) (by simp; omega) h1).mono ?_
      rintro _ h4 ⟨rfl, hF, hn4⟩
      have wa : IntKind.i64.wrap ((a : Int) + (1 + k)) = (a : Int) + (1 + k) := by rw [wrap_i64 (by omega) (by omega)]
      by_cases c3 : foldL (u.take (k - 1)) = []
      · have hr : rdL t = none := by rw [htc, rd_cons, if_pos c1, hw]; simp only; rw [if_neg (fun q => q.2 c3)]
        simp [hF.one, c3, hr, nOk, hF]
      · have hr : rdL t = some (k + 1) := by rw [htc, rd_cons, if_pos c1, hw]; simp only; rw [if_pos ⟨c2, c3⟩]
        simp [hF.one, c3, hr, nOk, wa, hF]
        omega
theorem Read17_sp (l : List UInt8) (hl : l.length < 2 ^ 31) (a e : Nat) (he : e ≤ eN l) (h1 : h.one = []) : CallW E0 X0 (.fn 44) [str l, .int .i64 a, .int .i64 e] h (fun v h' => v = nOk (rdL (sg l a e)) a ∧ Fr h.next h h') := by
  refine CallW.body efn44 rfl rfl rfl [] (by kernel_rfl) ?_
  simp [Tryz.f44, h1]
  refine (bound17_sp l hl a e he h1).mono ?_
  rintro _ h2 ⟨rfl, rfl⟩
  have hel : e ≤ l.length := Nat.le_trans he (eN_len l)
  have hF0 : Fr h2.next h2 h2 := Fr.refl h1
  by_cases c : a < e
  rotate_left
  · have e0 : sg l a e = [] := sg_nil (by omega)
    have hr : rdL ([] : List UInt8) = none := rfl
    simp [h1, c, e0, hr, nOk, hF0]
  obtain ⟨x, hx⟩ : ∃ x, x = bt l a := ⟨_, rfl⟩
  obtain ⟨u, hu⟩ : ∃ u, u = sg l (a + 1) e := ⟨_, rfl⟩
  have htc : sg l a e = x :: u := by rw [hx, hu, sg_cons c hel]
  have hul : u.length = e - (a + 1) := by rw [hu, sg_len _ _ _ hel]
  have hix : idxB l a = some (.int .u8 x.toNat) := by rw [hx]; exact idxB_nat (by omega)
  rw [htc]
  by_cases c1 : x = 91
  rotate_left
  · have hr : rdL (x :: u) = none := by rw [rd_cons, if_neg c1]
    have c1' : ¬ x.toNat = 91 := tn (by decide) c1
    simp [h1, c, hix, c1', hr, nOk, hF0]
  have c1' : x.toNat = 91 := by rw [c1]; rfl
  simp [h1, c, hix, eq_true c1']
  refine (find_sp l hl a e c hel 93 h1).mono ?_
  rintro _ h3 ⟨rfl, rfl⟩
  rw [← hu]
  simp [h1]
  refine (find_sp l hl a e c hel 91 h1).mono ?_
  rintro _ h4 ⟨rfl, rfl⟩
  rw [← hu]
  have hwf := wi_fnd 93 91 (by decide) (by decide) (by decide) u false
  cases hc : fnd 93 false u with
  | none =>
    rw [hc] at hwf
    have hr : rdL (x :: u) = none := by rw [rd_cons, if_pos c1, hwf]; rfl
    simp [h1, hr, nOk, plc, hF0]
  | some k =>
    rw [hc] at hwf
    have hk := fnd_lt _ _ _ _ hc
    have p1 : plc (some k) (a + 1) = ((a + 1 + k : Nat) : Int) := rfl
    have n1 : ¬ ((a + 1 + k : Nat) : Int) < 0 := by omega
    have ho : (∃ o, fnd 91 false u = some o ∧ o < k) ∨ (¬ ∃ o, fnd 91 false u = some o ∧ o < k) := Classical.em _
    rw [p1]
    rcases ho with ⟨o, ho, hlt⟩ | ho
    · rw [ho] at hwf ⊢
      have hr : rdL (x :: u) = none := by
        rw [rd_cons, if_pos c1, hwf]
        have : ofFnd (some k) (some o) = none := by unfold ofFnd; simp only; rw [if_pos hlt]
        rw [this]
      have p2 : plc (some o) (a + 1) = ((a + 1 + o : Nat) : Int) := rfl
      have n2 : (0 : Int) ≤ ((a + 1 + o : Nat) : Int) := by omega
      have n3 : ((a + 1 + o : Nat) : Int) < ((a + 1 + k : Nat) : Int) := by omega
      rw [p2]
      generalize hA : ((a + 1 + o : Nat) : Int) = A at n2 n3 ⊢
      generalize hB : ((a + 1 + k : Nat) : Int) = B at n1 n3 ⊢
      simp [h1, hr, nOk, n1, n2, n3, hF0]
    · have hwk : wi 93 [91] false u = some (k + 1) := by
        rw [hwf]
        cases hq : fnd 91 false u with
        | none => rfl
        | some o =>
          unfold ofFnd
          simp only
          rw [if_neg (fun q => ho ⟨o, hq, q⟩)]
      obtain ⟨B, hB⟩ : ∃ B : Int, B = ((a + 1 + k : Nat) : Int) := ⟨_, rfl⟩
      obtain ⟨A, hA⟩ : ∃ A : Int, A = plc (fnd 91 false u) (a + 1) := ⟨_, rfl⟩
      have n2 : ¬ (0 ≤ A ∧ A < B) := by
        rw [hA, hB]
        cases hq : fnd 91 false u with
        | none => simp [plc]
        | some o =>
          have : ¬ o < k := fun q => ho ⟨o, hq, q⟩
          simp [plc]
          omega
      rw [← hA, ← hB]
      rw [← hB] at n1
      have w1 : IntKind.i64.wrap (B - a) = B - a := by rw [wrap_i64 (by omega) (by omega)]
      have w2 : IntKind.i64.wrap (B - a - 1) = B - a - 1 := by rw [wrap_i64 (by omega) (by omega)]
      have wa : IntKind.i64.wrap ((a : Int) + 1) = ((a + 1 : Nat) : Int) := by rw [wrap_i64 (by omega) (by omega)]; omega
      have wb : IntKind.i64.wrap (B + 1) = B + 1 := by rw [wrap_i64 (by omega) (by omega)]
      by_cases c2 : k + 1 ≤ 201
      rotate_left
      · have hr : rdL (x :: u) = none := by rw [rd_cons, if_pos c1, hwk]; simp only; rw [if_neg (fun q => c2 q.1)]
        have c2' : (200 : Int) < B - a - 1 := by omega
        by_cases z : 0 ≤ A
        · have z2 : ¬ A < B := fun q => n2 ⟨z, q⟩
          simp [h1, hr, nOk, n1, z, z2, w1, w2, c2', hF0]
        · simp [h1, hr, nOk, n1, z, w1, w2, c2', hF0]
      · have c2' : ¬ (200 : Int) < B - a - 1 := by omega
        have e1 : sg l (a + 1) (a + 1 + k) = u.take k := by
          rw [hu]
          unfold sg
          rw [List.take_drop, List.take_take]
          congr 2
          omega
        have b1 : (0 : Int) ≤ ((a + 1 : Nat) : Int) := by omega
        have b2 : ((a + 1 : Nat) : Int) ≤ B := by omega
        have b3 : B ≤ l.length := by omega
        have hBn : B.toNat = a + 1 + k := by omega
        by_cases z : 0 ≤ A
        · have z2 : ¬ A < B := fun q => n2 ⟨z, q⟩
          simp [h1, n1, z, z2, w1, w2, wa, wb, c2', b1, b2, b3]
          refine ⟨⟨by omega, by omega⟩, ?_⟩
          rw [hBn]
          show CallW _ _ _ [str (sg l (a + 1) (a + 1 + k))] _ _
          rw [e1]
          refine (Fold17_sp (u.take k) (by simp; omega) h1).mono ?_
          rintro _ h5 ⟨rfl, hF⟩
          by_cases c3 : foldL (u.take k) = []
          · have hr : rdL (x :: u) = none := by rw [rd_cons, if_pos c1, hwk]; simp only; rw [if_neg (fun q => q.2 (by simpa using c3))]
            simp [hF.one, c3, hr, nOk, hF]
          · have hr : rdL (x :: u) = some (k + 2) := by rw [rd_cons, if_pos c1, hwk]; simp only; rw [if_pos ⟨c2, by simpa using c3⟩]
            simp [hF.one, c3, hr, nOk, wb, hF]
            omega
        · simp [h1, n1, z, w1, w2, wa, wb, c2', b1, b2, b3]
          refine ⟨⟨by omega, by omega⟩, ?_⟩
          rw [hBn]
          show CallW _ _ _ [str (sg l (a + 1) (a + 1 + k))] _ _
          rw [e1]
          refine (Fold17_sp (u.take k) (by simp; omega) h1).mono ?_
          rintro _ h5 ⟨rfl, hF⟩
          by_cases c3 : foldL (u.take k) = []
          · have hr : rdL (x :: u) = none := by rw [rd_cons, if_pos c1, hwk]; simp only; rw [if_neg (fun q => q.2 (by simpa using c3))]
            simp [hF.one, c3, hr, nOk, hF]
          · have hr : rdL (x :: u) = some (k + 2) := by rw [rd_cons, if_pos c1, hwk]; simp only; rw [if_pos ⟨c2, by simpa using c3⟩]
            simp [hF.one, c3, hr, nOk, wb, hF]
            omega
/-- An answer that is none where there is no byte. -/
theorem Title_sp (s : List UInt8) (hs : s.length < 2 ^ 31) (hn : 10 ∉ s) (a : Nat) (h1 : h.one = []) (g : GmH h) : CallW E0 X0 (.fn 25) [str s, .int .i64 a, .int .i64 s.length] h (fun v h' => v = nOk (ttL (s.drop a)) a ∧ h' = h) := by
  refine CallW.body efn25 rfl rfl rfl [] (by kernel_rfl) ?_
  simp [Tryz.f25, h1]
  refine (part_sp s hs hn a h1 g).mono ?_
  rintro _ h2 ⟨rfl, rfl⟩
  by_cases c : a < s.length
  rotate_left
  · have e0 : s.drop a = [] := List.drop_eq_nil_of_le (by omega)
    have hr : ttL ([] : List UInt8) = none := rfl
    simp [h1, c, e0, hr, nOk]
  obtain ⟨t, ht⟩ : ∃ t, t = s.drop a := ⟨_, rfl⟩
  obtain ⟨x, hx⟩ : ∃ x, x = bt s a := ⟨_, rfl⟩
  obtain ⟨u, hu⟩ : ∃ u, u = s.drop (a + 1) := ⟨_, rfl⟩
  have htc : t = x :: u := by rw [ht, hx, hu, drop_bt c]
  have htl : t.length = s.length - a := by rw [ht]; simp
  rw [← ht]
  have hix : idxB t 0 = some (.int .u8 x.toNat) := by
    rw [htc]
    have := idxB_nat (l := x :: u) (k := 0) (by simp)
    simpa [bt] using this
  have htt : t.tail = u := by rw [htc]; rfl
  have hul : u.length + 1 = t.length := by rw [htc]; simp
  have ht0 : t ≠ [] := by rw [htc]; simp
  have fin : ∀ (o : Option Nat), ttL t = o.map (· + 1) → (∀ k, o = some k → IntKind.i64.wrap ((a : Int) + (1 + k)) = (a : Int) + (1 + k)) := by
    intro o ho k hk
    rw [hk] at ho
    simp only [Option.map_some] at ho
    have := ttL_le ho
    rw [wrap_i64 (by omega) (by omega)]
  by_cases c34 : x.toNat = 34
  · have hx34 : x = 34 := UInt8.toNat_inj.1 c34
    have hr : ttL t = (wi x [] false u).map (· + 1) := by rw [htc, tt_cons, if_pos (.inl hx34)]
    simp [h1, c, hix, eq_true c34]
    refine (within_sp t (by omega) ht0 x [] h1).mono ?_
    rintro _ h3 ⟨rfl, rfl⟩
    rw [htt]
    have hw := fin _ hr
    cases hc : wi x [] false u with
    | none =>
      rw [hc] at hr
      simp at hr
      simp [h1, hr, nOk]
    | some k =>
      have hw := hw k hc
      rw [hc] at hr
      simp at hr
      simp [h1, hr, nOk, hw]
      omega
  by_cases c39 : x.toNat = 39
  · have hx39 : x = 39 := UInt8.toNat_inj.1 c39
    have hr : ttL t = (wi x [] false u).map (· + 1) := by rw [htc, tt_cons, if_pos (.inr hx39)]
    simp [h1, c, hix, c34, eq_true c39]
    refine (within_sp t (by omega) ht0 x [] h1).mono ?_
    rintro _ h3 ⟨rfl, rfl⟩
    rw [htt]
    have hw := fin _ hr
    cases hc : wi x [] false u with
    | none =>
      rw [hc] at hr
      simp at hr
      simp [h1, hr, nOk]
    | some k =>
      have hw := hw k hc
      rw [hc] at hr
      simp at hr
      simp [h1, hr, nOk, hw]
      omega
  by_cases c40 : x.toNat = 40
  · have hx40 : x = 40 := UInt8.toNat_inj.1 c40
    have hr : ttL t = (wi 41 [40] false u).map (· + 1) := by rw [htc, tt_cons, if_neg (by rw [hx40]; decide), if_pos hx40]
    simp [h1, c, hix, c34, c39, eq_true c40]
    refine (within_sp t (by omega) ht0 41 [40] h1).mono ?_
    rintro _ h3 ⟨rfl, rfl⟩
    rw [htt]
    have hw := fin _ hr
    cases hc : wi 41 [40] false u with
    | none =>
      rw [hc] at hr
      simp at hr
      simp [h1, hr, nOk]
    | some k =>
      have hw := hw k hc
      rw [hc] at hr
      simp at hr
      simp [h1, hr, nOk, hw]
      omega
  have hr : ttL t = none := by
    rw [htc, tt_cons, if_neg, if_neg]
    · rintro rfl; exact c40 rfl
    · rintro (rfl | rfl)
      · exact c34 rfl
      · exact c39 rfl
  simp [h1, c, hix, c34, c39, c40, hr, nOk]
end
end Go.Dm
