/- The reference: what stands at a place. -/
import Derived.Test.YthclahlplcfdpaaGreatDoorMdO
set_option linter.unusedVariables false
set_option linter.unusedSimpArgs false
namespace Go.Dm
open Go.Proofs
theorem lf_iff (l : List UInt8) : eN l < l.length ↔ lnN l < l.length := by
  have h1 := lnN_le l
  have h2 := eN_le l
  constructor
  · intro h
    rcases Nat.lt_or_ge (lnN l) l.length with q | q
    · exact q
    · have : eN l = lnN l := by unfold eN; rw [if_neg (fun x => by omega)]
      omega
  · intro h; omega
theorem plT_cons {c d : UInt8} {u : List UInt8} {a : Nat} (h : d ≠ c) : plT (d :: u) c a = plT u c (a + 1) := by
  unfold plT
  rw [List.takeWhile_cons_of_pos (by simpa using h)]
  simp only [List.length_cons]
  by_cases q : (u.takeWhile (· != c)).length < u.length
  · rw [if_pos (by omega), if_pos q]; omega
  · rw [if_neg (by omega), if_neg q]
/-- What stands at a place, as it is told. -/
def cdV (k : Nat × Nat) (a : Nat) : Value := .tuple #[.int .u8 (k.1 : Int), .int .i64 ((a + k.2 : Nat) : Int)]
/-- Nothing but spaces. -/
def spA (s : List UInt8) : Bool := s.all (· == 32)
theorem sp_all (l : List UInt8) (a n : Nat) (h : a + n < l.length) : spA (sg l a (a + n + 1)) = (spA (sg l a (a + n)) && decide ((bt l (a + n)).toNat = 32)) := by
  unfold spA
  rw [← sg_snoc (by omega) h, List.all_append]
  congr 1
  rw [List.all_cons, List.all_nil, Bool.and_true]
  by_cases q : bt l (a + n) = 32
  · rw [q]; rfl
  · rw [decide_eq_false (tn (by decide) q)]; simpa using q
section
variable {h : H}
set_option maxRecDepth 100000 in
set_option maxHeartbeats 4000000 in
theorem Read20_sp (l : List UInt8) (hl : l.length < 2 ^ 31) (a : Nat) (e : Int) (ha : a < eE l e) (h1 : h.one = []) : CallW E0 X0 (.fn 37) [str l, .int .i64 a, .int .i64 e] h (fun v h' => v = cdV (cdN (decide (eE l e = eN l)) (decide (lnN l < l.length)) (sg l a (eE l e))) a ∧ Fr h.next h h') := by
  refine CallW.body efn37 rfl rfl rfl [] (by kernel_rfl) ?_
  simp [Tryz.f37, h1]
  refine (End_sp l hl h1).mono ?_
  rintro _ h2 ⟨rfl, rfl⟩
  have hEi := eE_int l e
  have hE0 := eE_le l e
  have hNl := eN_len l
  have hlf := lf_iff l
  have hF : Fr h2.next h2 h2 := Fr.refl h1
  generalize eE l e = E at *
  generalize hN : eN l = N at *
  have hel : E ≤ l.length := by omega
  obtain ⟨c, hc⟩ : ∃ c, c = bt l a := ⟨_, rfl⟩
  obtain ⟨u, hu⟩ : ∃ u, u = sg l (a + 1) E := ⟨_, rfl⟩
  have hsg : sg l a E = c :: u := by rw [hc, hu, sg_cons ha hel]
  have hul : u.length = E - (a + 1) := by rw [hu, sg_len _ _ _ hel]
  have hix : idxB l a = some (.int .u8 c.toNat) := by rw [hc]; exact idxB_nat (by omega)
  have hwa : IntKind.i64.wrap ((a : Int) + 1) = (a : Int) + 1 := wrap_succ (by omega)
  have hwa2 : IntKind.i64.wrap ((a : Int) + 2) = (a : Int) + 2 := wrap_i64 (by omega) (by omega)
  have a0 : ¬ (a : Int) < 0 := by omega
  have aE : ¬ (E : Int) ≤ a := by omega
  have aE2 : ¬ E ≤ a := by omega
  rw [hsg]
  have hwE : IntKind.i64.wrap (E : Int) = E := wrap_i64 (by omega) (by omega)
  obtain ⟨V, hV⟩ : ∃ V, V = cdV (cdN (decide (E = N)) (decide (lnN l < l.length)) (c :: u)) a := ⟨_, rfl⟩
  rw [← hV]
  have hu0 : u = [] ↔ a + 1 = E := by rw [← List.length_eq_zero_iff]; omega
  have ix1 : a + 1 < E → idxB l ((a : Int) + 1) = some (.int .u8 (bt l (a + 1)).toNat) := fun q => idxB_succ (by omega)
  have hnx : a + 1 < E → nxMk u = isMk (bt l (a + 1)) := fun q => by rw [hu, sg_cons q hel]; rfl
  by_cases big : (N : Int) < e
  · have hNE : E = N := by omega
    subst hNE
    by_cases c92 : c.toNat = 92
    · have hc92 : c = 92 := UInt8.toNat_inj.1 c92
      by_cases z : a + 1 = E
      · have hun : u = [] := hu0.2 z
        have z1 : ¬ (a : Int) + 1 < E := by omega
        have q1 : (a : Int) + 1 = E := by omega
        have hr : cdN (decide (E = E)) (decide (lnN l < l.length)) (c :: u) = (91, 1) := by rw [decide_eq_true rfl, hun, hc92]; rfl
        rw [hr] at hV
        simp [h1, big, a0, aE, aE2, hix, eq_true c92, hwa, hwE, q1, hV, cdV, hF]
        try omega
      · have z1 : (a : Int) + 1 < E := by omega
        have q1 : ¬ (a : Int) + 1 = E := by omega
        have hun : u ≠ [] := fun q => z (hu0.1 q)
        have hr : cdN (decide (E = E)) (decide (lnN l < l.length)) (c :: u) = if isMk (bt l (a + 1)) = true then (90, 2) else (0, 1) := by
          rw [hc92, ← hnx (by omega)]
          show (if u = [] then _ else _) = _
          rw [if_neg hun]
        have c32 : ¬ c.toNat = 32 := by omega
        have c96 : ¬ c.toNat = 96 := by omega
        have c60 : ¬ c.toNat = 60 := by omega
        have c38 : ¬ c.toNat = 38 := by omega
        rw [hr] at hV
        simp [h1, big, a0, aE, aE2, hix, eq_true c92, hwa, q1, z1, ix1 (show a + 1 < E by omega)]
        refine (mark3_sp (bt l (a + 1)) h1).mono ?_
        rintro _ h3 ⟨rfl, rfl⟩
        cases hm : isMk (bt l (a + 1)) with
        | true =>
          rw [hm, if_pos rfl] at hV
          simp [h1, hwa2, hV, cdV, hF]
        | false =>
          rw [hm, if_neg (by decide)] at hV
          simp [h1, hwa, c32, c96, c60, c38, eq_true c92, hV, cdV, hF]
    by_cases c32 : c.toNat = 32
    · have hc32 : c = 32 := UInt8.toNat_inj.1 c32
      have c96 : ¬ c.toNat = 96 := by omega
      have c60 : ¬ c.toNat = 60 := by omega
      have c38 : ¬ c.toNat = 38 := by omega
      have hr : cdN (decide (E = E)) (decide (lnN l < l.length)) (c :: u) = if E = E ∧ lnN l < l.length ∧ u ≠ [] ∧ spA u = true then (91, u.length + 1) else (0, 1) := by
        rw [hc32]
        show (if decide (E = E) = true ∧ decide (lnN l < l.length) = true ∧ u ≠ [] ∧ spA u = true then _ else _) = _
        simp only [decide_eq_true_eq]
      by_cases T : E = E ∧ lnN l < l.length ∧ u ≠ []
      · obtain ⟨t1, t2, t3⟩ := T
        have hne : ¬ a + 1 = E := fun q => t3 (hu0.2 q)
        have wd : IntKind.i64.wrap ((E : Int) - a) = (E : Int) - a := wrap_i64 (by omega) (by omega)
        have q3 : (2 : Int) ≤ (E : Int) - a := by omega
        have q4 : E < l.length := hlf.2 t2
        simp [h1, big, a0, aE, aE2, hix, c92, eq_true c32, wd, q3, q4]
        refine wpd_loop (fun (n : Nat) fr h' => fr.get 11 = some (.int .i64 ((a + n : Nat) : Int)) ∧ h' = h2 ∧ a + n ≤ E ∧ fr.get 10 = some (.bool (spA (sg l a (a + n))))) (fun n => E - a - n) 0 ⟨by simp, rfl, by omega, by simp [sg_nil, spA]⟩ ?_
        rintro n fr h3 ⟨g11, rfl, hn, g10⟩ hf
        have g0 := hf 0 rfl
        have g8 := hf 8 rfl
        have g9 := hf 9 rfl
        have g1 := hf 1 rfl
        simp at g0 g8 g9 g1
        have g11' : fr.get 11 = some (.int .i64 ((a : Int) + n)) := by simpa using g11
        by_cases ci : a + n < E
        · have ci' : (a : Int) + n < E := by omega
          have hixn : idxB l ((a : Int) + n) = some (.int .u8 (bt l (a + n)).toNat) := by have := idxB_nat (l := l) (k := a + n) (by omega); simpa using this
          have hw : IntKind.i64.wrap ((a : Int) + n + 1) = (a : Int) + n + 1 := wrap_i64 (by omega) (by omega)
          have hs := sp_all l a n (by omega)
          cases hq : spA (sg l a (a + n)) with
          | false =>
            rw [hq] at g10 hs
            simp [g0, g8, g10, g11', h1, ci', hw]
            exact ⟨n + 1, by omega, by omega, by omega, by rw [show a + (n + 1) = a + n + 1 by omega, hs]; rfl⟩
          | true =>
            rw [hq] at g10 hs
            simp [g0, g8, g10, g11', h1, ci', hixn, hw]
            exact ⟨n + 1, by omega, by omega, by omega, by rw [show a + (n + 1) = a + n + 1 by omega, hs]; simp⟩
        · have ci' : ¬ (a : Int) + n < E := by omega
          have hall : spA (sg l a (a + n)) = spA u := by
            rw [show a + n = E by omega, hsg, hc32]; rfl
          rw [hall] at g10
          rw [hr] at hV
          cases hq : spA u with
          | true =>
            rw [hq] at g10
            rw [hq, if_pos ⟨t1, t2, t3, rfl⟩] at hV
            simp [g0, g8, g10, g11', h1, ci', hV, cdV, hF]
            try omega
          | false =>
            rw [hq] at g10
            rw [hq, if_neg (fun q => by have := q.2.2.2; cases this)] at hV
            simp [g0, g1, g8, g9, g10, g11', h1, ci', c96, c60, c38, hwa, hV, cdV, hF]
      · have hr2 : cdN (decide (E = E)) (decide (lnN l < l.length)) (c :: u) = (0, 1) := by rw [hr, if_neg (fun q => T ⟨q.1, q.2.1, q.2.2.1⟩)]
        rw [hr2] at hV
        have wd : IntKind.i64.wrap ((E : Int) - a) = (E : Int) - a := wrap_i64 (by omega) (by omega)
        by_cases t3 : a + 1 = E
        · have q3 : ¬ (2 : Int) ≤ (E : Int) - a := by omega
          simp [h1, big, a0, aE, aE2, hix, c92, eq_true c32, wd, q3, c96, c60, c38, hwa, hV, cdV, hF]
        · have q3 : (2 : Int) ≤ (E : Int) - a := by omega
          have q4 : ¬ E < l.length := fun q => T ⟨rfl, hlf.1 q, fun x => t3 (hu0.1 x)⟩
          simp [h1, big, a0, aE, aE2, hix, c92, eq_true c32, wd, q3, q4, c96, c60, c38, hwa, hV, cdV, hF]
    by_cases c96 : c.toNat = 96
    · have hc96 : c = 96 := UInt8.toNat_inj.1 c96
      have hr : cdN (decide (E = E)) (decide (lnN l < l.length)) (c :: u) = if 0 < codL (c :: u) then (83, codL (c :: u)) else (0, accN (c :: u)) := by rw [hc96]; rfl
      rw [hr] at hV
      simp [h1, big, a0, aE, aE2, hix, c92, c32, eq_true c96]
      refine (code20_sp l hl a E hel ha (by rw [← hc, hc96]) h1).mono ?_
      rintro _ h3 ⟨rfl, rfl⟩
      rw [hsg]
      by_cases z : codL (c :: u) = 0
      · rw [if_pos z]
        rw [if_neg (by omega)] at hV
        simp [h1]
        refine (row_sp l hl a E hel (by omega) h1).mono ?_
        rintro _ h4 ⟨rfl, rfl⟩
        rw [hsg]
        simp [h1, hV, cdV, hF]
      · rw [if_neg z]
        rw [if_pos (by omega)] at hV
        have z2 : (0 : Int) < (a : Int) + (codL (c :: u) : Nat) := by omega
        simp [h1, z2, hV, cdV, hF]
    by_cases c60 : c.toNat = 60
    · have hc60 : c = 60 := UInt8.toNat_inj.1 c60
      have c38 : ¬ c.toNat = 38 := by omega
      have hr : cdN (decide (E = E)) (decide (lnN l < l.length)) (c :: u) = (if (u.takeWhile (· != 62)).length < u.length ∧ (schL (u.takeWhile (· != 62)) = true ∨ malL (u.takeWhile (· != 62)) = true) then (88, (u.takeWhile (· != 62)).length + 2) else (0, 1)) := by rw [hc60]; rfl
      rw [hr] at hV
      simp [h1, big, a0, aE, aE2, hix, c92, c32, c96, eq_true c60]
      refine (find20_sp l hl a E hel (by omega) 62 h1).mono ?_
      rintro _ h3 ⟨rfl, rfl⟩
      rw [hsg, plT_cons (by rw [hc60]; decide)]
      have htl := (List.takeWhile_sublist (· != 62) (l := u)).length_le
      have htn := tw_nin 62 u
      have htk := List.prefix_iff_eq_take.1 (List.takeWhile_prefix (· != 62) (l := u))
      unfold plT
      obtain ⟨tt, htt⟩ : ∃ tt, tt = u.takeWhile (· != 62) := ⟨_, rfl⟩
      rw [← htt] at htl htn htk hV ⊢
      by_cases z : tt.length < u.length
      rotate_left
      · rw [if_neg z]
        rw [if_neg (fun q => z q.1)] at hV
        simp [h1, c38, hwa, hV, cdV, hF]
      rw [if_pos z]
      have n1 : (0 : Int) < ((a + 1 + tt.length : Nat) : Int) := by omega
      have hsl : sg l (a + 1) (a + 1 + tt.length) = tt := by
        conv => rhs; rw [htk]
        rw [hu]
        unfold sg
        rw [List.take_drop, List.take_take]
        congr 2
        omega
      obtain ⟨B, hB⟩ : ∃ B : Int, B = ((a + 1 + tt.length : Nat) : Int) := ⟨_, rfl⟩
      rw [← hB] at n1 ⊢
      have hBn : B.toNat = a + 1 + tt.length := by omega
      have b2 : (a : Int) + 1 ≤ B := by omega
      have b3 : B ≤ l.length := by omega
      have b1 : (0 : Int) ≤ B := by omega
      have hwB : IntKind.i64.wrap (B + 1) = B + 1 := wrap_i64 (by omega) (by omega)
      have hs0 : List.drop (a + 1) (List.take (a + 1 + tt.length) l) = tt := hsl
      simp [h1, n1, hwa, b1, b2, b3, hBn, hs0]
      refine (Scheme20_sp tt (by omega) htn h1).mono ?_
      rintro _ h4 ⟨rfl, rfl⟩
      cases hsc : schL tt with
      | true =>
        rw [if_pos ⟨z, .inl hsc⟩] at hV
        simp [h1, z, hwB, hV, cdV, hF]
        omega
      | false =>
        simp [h1, hwa, b1, b2, b3, hBn, hs0]
        refine (Mail20_sp tt (by omega) h1).mono ?_
        rintro _ h5 ⟨rfl, rfl⟩
        cases hma : malL tt with
        | true =>
          rw [if_pos ⟨z, .inr hma⟩] at hV
          simp [h1, z, hwB, hV, cdV, hF]
          omega
        | false =>
          rw [if_neg (fun q => q.2.elim (fun x => by rw [hsc] at x; cases x) (fun x => by rw [hma] at x; cases x))] at hV
          simp [h1, c38, hwa, hV, cdV, hF]
    by_cases c38 : c.toNat = 38
    · have hc38 : c = 38 := UInt8.toNat_inj.1 c38
      have hr : cdN (decide (E = E)) (decide (lnN l < l.length)) (c :: u) = (if (u.takeWhile (· != 59)).length < u.length ∧ entL (u.takeWhile (· != 59)) = true then (89, (u.takeWhile (· != 59)).length + 2) else (0, 1)) := by rw [hc38]; rfl
      rw [hr] at hV
      simp [h1, big, a0, aE, aE2, hix, c92, c32, c96, c60, eq_true c38]
      refine (find20_sp l hl a E hel (by omega) 59 h1).mono ?_
      rintro _ h3 ⟨rfl, rfl⟩
      rw [hsg, plT_cons (by rw [hc38]; decide)]
      have htl := (List.takeWhile_sublist (· != 59) (l := u)).length_le
      have htk := List.prefix_iff_eq_take.1 (List.takeWhile_prefix (· != 59) (l := u))
      unfold plT
      obtain ⟨tt, htt⟩ : ∃ tt, tt = u.takeWhile (· != 59) := ⟨_, rfl⟩
      rw [← htt] at htl htk hV ⊢
      by_cases z : tt.length < u.length
      rotate_left
      · rw [if_neg z]
        rw [if_neg (fun q => z q.1)] at hV
        simp [h1, hwa, hV, cdV, hF]
      rw [if_pos z]
      have n1 : (0 : Int) < ((a + 1 + tt.length : Nat) : Int) := by omega
      have hsl : sg l (a + 1) (a + 1 + tt.length) = tt := by
        conv => rhs; rw [htk]
        rw [hu]
        unfold sg
        rw [List.take_drop, List.take_take]
        congr 2
        omega
      obtain ⟨B, hB⟩ : ∃ B : Int, B = ((a + 1 + tt.length : Nat) : Int) := ⟨_, rfl⟩
      rw [← hB] at n1 ⊢
      have hBn : B.toNat = a + 1 + tt.length := by omega
      have b2 : (a : Int) + 1 ≤ B := by omega
      have b3 : B ≤ l.length := by omega
      have b1 : (0 : Int) ≤ B := by omega
      have hwB : IntKind.i64.wrap (B + 1) = B + 1 := wrap_i64 (by omega) (by omega)
      have hs0 : List.drop (a + 1) (List.take (a + 1 + tt.length) l) = tt := hsl
      simp [h1, n1, hwa, b1, b2, b3, hBn, hs0]
      refine (Entity20_sp tt (by omega) h1).mono ?_
      rintro _ h4 ⟨rfl, hF4, hn4⟩
      cases hen : entL tt with
      | true =>
        rw [if_pos ⟨z, hen⟩] at hV
        simp [hF4.one, z, hwB, hV, cdV, hF4]
        omega
      | false =>
        rw [if_neg (fun q => by have := q.2; rw [hen] at this; cases this)] at hV
        simp [hF4.one, hwa, hV, cdV, hF4]
    have hr : cdN (decide (E = E)) (decide (lnN l < l.length)) (c :: u) = (0, 1) := by
      have d1 : c ≠ 92 := fun q => c92 (by rw [q]; rfl)
      have d2 : c ≠ 32 := fun q => c32 (by rw [q]; rfl)
      have d3 : c ≠ 96 := fun q => c96 (by rw [q]; rfl)
      have d4 : c ≠ 60 := fun q => c60 (by rw [q]; rfl)
      have d5 : c ≠ 38 := fun q => c38 (by rw [q]; rfl)
      unfold cdN
      simp only [d1, d2, d3, d4, d5, if_false]
    rw [hr] at hV
    simp [h1, big, a0, aE, aE2, hix, c92, c32, c96, c60, c38, hwa, hV, cdV, hF]
  · have hee : e = (E : Int) := by omega
    subst hee
    by_cases hne : E = N
    · subst hne
      by_cases c92 : c.toNat = 92
      · have hc92 : c = 92 := UInt8.toNat_inj.1 c92
        by_cases z : a + 1 = E
        · have hun : u = [] := hu0.2 z
          have z1 : ¬ (a : Int) + 1 < E := by omega
          have q1 : (a : Int) + 1 = E := by omega
          have hr : cdN (decide (E = E)) (decide (lnN l < l.length)) (c :: u) = (91, 1) := by rw [decide_eq_true rfl, hun, hc92]; rfl
          rw [hr] at hV
          simp [h1, big, a0, aE, aE2, hix, eq_true c92, hwa, hwE, q1, hV, cdV, hF]
          try omega
        · have z1 : (a : Int) + 1 < E := by omega
          have q1 : ¬ (a : Int) + 1 = E := by omega
          have hun : u ≠ [] := fun q => z (hu0.1 q)
          have hr : cdN (decide (E = E)) (decide (lnN l < l.length)) (c :: u) = if isMk (bt l (a + 1)) = true then (90, 2) else (0, 1) := by
            rw [hc92, ← hnx (by omega)]
            show (if u = [] then _ else _) = _
            rw [if_neg hun]
          have c32 : ¬ c.toNat = 32 := by omega
          have c96 : ¬ c.toNat = 96 := by omega
          have c60 : ¬ c.toNat = 60 := by omega
          have c38 : ¬ c.toNat = 38 := by omega
          rw [hr] at hV
          simp [h1, big, a0, aE, aE2, hix, eq_true c92, hwa, q1, z1, ix1 (show a + 1 < E by omega)]
          refine (mark3_sp (bt l (a + 1)) h1).mono ?_
          rintro _ h3 ⟨rfl, rfl⟩
          cases hm : isMk (bt l (a + 1)) with
          | true =>
            rw [hm, if_pos rfl] at hV
            simp [h1, hwa2, hV, cdV, hF]
          | false =>
            rw [hm, if_neg (by decide)] at hV
            simp [h1, hwa, c32, c96, c60, c38, eq_true c92, hV, cdV, hF]
      by_cases c32 : c.toNat = 32
      · have hc32 : c = 32 := UInt8.toNat_inj.1 c32
        have c96 : ¬ c.toNat = 96 := by omega
        have c60 : ¬ c.toNat = 60 := by omega
        have c38 : ¬ c.toNat = 38 := by omega
        have hr : cdN (decide (E = E)) (decide (lnN l < l.length)) (c :: u) = if E = E ∧ lnN l < l.length ∧ u ≠ [] ∧ spA u = true then (91, u.length + 1) else (0, 1) := by
          rw [hc32]
          show (if decide (E = E) = true ∧ decide (lnN l < l.length) = true ∧ u ≠ [] ∧ spA u = true then _ else _) = _
          simp only [decide_eq_true_eq]
        by_cases T : E = E ∧ lnN l < l.length ∧ u ≠ []
        · obtain ⟨t1, t2, t3⟩ := T
          have hne : ¬ a + 1 = E := fun q => t3 (hu0.2 q)
          have wd : IntKind.i64.wrap ((E : Int) - a) = (E : Int) - a := wrap_i64 (by omega) (by omega)
          have q3 : (2 : Int) ≤ (E : Int) - a := by omega
          have q4 : E < l.length := hlf.2 t2
          simp [h1, big, a0, aE, aE2, hix, c92, eq_true c32, wd, q3, q4]
          refine wpd_loop (fun (n : Nat) fr h' => fr.get 11 = some (.int .i64 ((a + n : Nat) : Int)) ∧ h' = h2 ∧ a + n ≤ E ∧ fr.get 10 = some (.bool (spA (sg l a (a + n))))) (fun n => E - a - n) 0 ⟨by simp, rfl, by omega, by simp [sg_nil, spA]⟩ ?_
          rintro n fr h3 ⟨g11, rfl, hn, g10⟩ hf
          have g0 := hf 0 rfl
          have g8 := hf 8 rfl
          have g9 := hf 9 rfl
          have g1 := hf 1 rfl
          simp at g0 g8 g9 g1
          have g11' : fr.get 11 = some (.int .i64 ((a : Int) + n)) := by simpa using g11
          by_cases ci : a + n < E
          · have ci' : (a : Int) + n < E := by omega
            have hixn : idxB l ((a : Int) + n) = some (.int .u8 (bt l (a + n)).toNat) := by have := idxB_nat (l := l) (k := a + n) (by omega); simpa using this
            have hw : IntKind.i64.wrap ((a : Int) + n + 1) = (a : Int) + n + 1 := wrap_i64 (by omega) (by omega)
            have hs := sp_all l a n (by omega)
            cases hq : spA (sg l a (a + n)) with
            | false =>
              rw [hq] at g10 hs
              simp [g0, g8, g10, g11', h1, ci', hw]
              exact ⟨n + 1, by omega, by omega, by omega, by rw [show a + (n + 1) = a + n + 1 by omega, hs]; rfl⟩
            | true =>
              rw [hq] at g10 hs
              simp [g0, g8, g10, g11', h1, ci', hixn, hw]
              exact ⟨n + 1, by omega, by omega, by omega, by rw [show a + (n + 1) = a + n + 1 by omega, hs]; simp⟩
          · have ci' : ¬ (a : Int) + n < E := by omega
            have hall : spA (sg l a (a + n)) = spA u := by
              rw [show a + n = E by omega, hsg, hc32]; rfl
            rw [hall] at g10
            rw [hr] at hV
            cases hq : spA u with
            | true =>
              rw [hq] at g10
              rw [hq, if_pos ⟨t1, t2, t3, rfl⟩] at hV
              simp [g0, g8, g10, g11', h1, ci', hV, cdV, hF]
              try omega
            | false =>
              rw [hq] at g10
              rw [hq, if_neg (fun q => by have := q.2.2.2; cases this)] at hV
              simp [g0, g1, g8, g9, g10, g11', h1, ci', c96, c60, c38, hwa, hV, cdV, hF]
        · have hr2 : cdN (decide (E = E)) (decide (lnN l < l.length)) (c :: u) = (0, 1) := by rw [hr, if_neg (fun q => T ⟨q.1, q.2.1, q.2.2.1⟩)]
          rw [hr2] at hV
          have wd : IntKind.i64.wrap ((E : Int) - a) = (E : Int) - a := wrap_i64 (by omega) (by omega)
          by_cases t3 : a + 1 = E
          · have q3 : ¬ (2 : Int) ≤ (E : Int) - a := by omega
            simp [h1, big, a0, aE, aE2, hix, c92, eq_true c32, wd, q3, c96, c60, c38, hwa, hV, cdV, hF]
          · have q3 : (2 : Int) ≤ (E : Int) - a := by omega
            have q4 : ¬ E < l.length := fun q => T ⟨rfl, hlf.1 q, fun x => t3 (hu0.1 x)⟩
            simp [h1, big, a0, aE, aE2, hix, c92, eq_true c32, wd, q3, q4, c96, c60, c38, hwa, hV, cdV, hF]
      by_cases c96 : c.toNat = 96
      · have hc96 : c = 96 := UInt8.toNat_inj.1 c96
        have hr : cdN (decide (E = E)) (decide (lnN l < l.length)) (c :: u) = if 0 < codL (c :: u) then (83, codL (c :: u)) else (0, accN (c :: u)) := by rw [hc96]; rfl
        rw [hr] at hV
        simp [h1, big, a0, aE, aE2, hix, c92, c32, eq_true c96]
        refine (code20_sp l hl a E hel ha (by rw [← hc, hc96]) h1).mono ?_
        rintro _ h3 ⟨rfl, rfl⟩
        rw [hsg]
        by_cases z : codL (c :: u) = 0
        · rw [if_pos z]
          rw [if_neg (by omega)] at hV
          simp [h1]
          refine (row_sp l hl a E hel (by omega) h1).mono ?_
          rintro _ h4 ⟨rfl, rfl⟩
          rw [hsg]
          simp [h1, hV, cdV, hF]
        · rw [if_neg z]
          rw [if_pos (by omega)] at hV
          have z2 : (0 : Int) < (a : Int) + (codL (c :: u) : Nat) := by omega
          simp [h1, z2, hV, cdV, hF]
      by_cases c60 : c.toNat = 60
      · have hc60 : c = 60 := UInt8.toNat_inj.1 c60
        have c38 : ¬ c.toNat = 38 := by omega
        have hr : cdN (decide (E = E)) (decide (lnN l < l.length)) (c :: u) = (if (u.takeWhile (· != 62)).length < u.length ∧ (schL (u.takeWhile (· != 62)) = true ∨ malL (u.takeWhile (· != 62)) = true) then (88, (u.takeWhile (· != 62)).length + 2) else (0, 1)) := by rw [hc60]; rfl
        rw [hr] at hV
        simp [h1, big, a0, aE, aE2, hix, c92, c32, c96, eq_true c60]
        refine (find20_sp l hl a E hel (by omega) 62 h1).mono ?_
        rintro _ h3 ⟨rfl, rfl⟩
        rw [hsg, plT_cons (by rw [hc60]; decide)]
        have htl := (List.takeWhile_sublist (· != 62) (l := u)).length_le
        have htn := tw_nin 62 u
        have htk := List.prefix_iff_eq_take.1 (List.takeWhile_prefix (· != 62) (l := u))
        unfold plT
        obtain ⟨tt, htt⟩ : ∃ tt, tt = u.takeWhile (· != 62) := ⟨_, rfl⟩
        rw [← htt] at htl htn htk hV ⊢
        by_cases z : tt.length < u.length
        rotate_left
        · rw [if_neg z]
          rw [if_neg (fun q => z q.1)] at hV
          simp [h1, c38, hwa, hV, cdV, hF]
        rw [if_pos z]
        have n1 : (0 : Int) < ((a + 1 + tt.length : Nat) : Int) := by omega
        have hsl : sg l (a + 1) (a + 1 + tt.length) = tt := by
          conv => rhs; rw [htk]
          rw [hu]
          unfold sg
          rw [List.take_drop, List.take_take]
          congr 2
          omega
        obtain ⟨B, hB⟩ : ∃ B : Int, B = ((a + 1 + tt.length : Nat) : Int) := ⟨_, rfl⟩
        rw [← hB] at n1 ⊢
        have hBn : B.toNat = a + 1 + tt.length := by omega
        have b2 : (a : Int) + 1 ≤ B := by omega
        have b3 : B ≤ l.length := by omega
        have b1 : (0 : Int) ≤ B := by omega
        have hwB : IntKind.i64.wrap (B + 1) = B + 1 := wrap_i64 (by omega) (by omega)
        have hs0 : List.drop (a + 1) (List.take (a + 1 + tt.length) l) = tt := hsl
        simp [h1, n1, hwa, b1, b2, b3, hBn, hs0]
        refine (Scheme20_sp tt (by omega) htn h1).mono ?_
        rintro _ h4 ⟨rfl, rfl⟩
        cases hsc : schL tt with
        | true =>
          rw [if_pos ⟨z, .inl hsc⟩] at hV
          simp [h1, z, hwB, hV, cdV, hF]
          omega
        | false =>
          simp [h1, hwa, b1, b2, b3, hBn, hs0]
          refine (Mail20_sp tt (by omega) h1).mono ?_
          rintro _ h5 ⟨rfl, rfl⟩
          cases hma : malL tt with
          | true =>
            rw [if_pos ⟨z, .inr hma⟩] at hV
            simp [h1, z, hwB, hV, cdV, hF]
            omega
          | false =>
            rw [if_neg (fun q => q.2.elim (fun x => by rw [hsc] at x; cases x) (fun x => by rw [hma] at x; cases x))] at hV
            simp [h1, c38, hwa, hV, cdV, hF]
      by_cases c38 : c.toNat = 38
      · have hc38 : c = 38 := UInt8.toNat_inj.1 c38
        have hr : cdN (decide (E = E)) (decide (lnN l < l.length)) (c :: u) = (if (u.takeWhile (· != 59)).length < u.length ∧ entL (u.takeWhile (· != 59)) = true then (89, (u.takeWhile (· != 59)).length + 2) else (0, 1)) := by rw [hc38]; rfl
        rw [hr] at hV
        simp [h1, big, a0, aE, aE2, hix, c92, c32, c96, c60, eq_true c38]
        refine (find20_sp l hl a E hel (by omega) 59 h1).mono ?_
        rintro _ h3 ⟨rfl, rfl⟩
        rw [hsg, plT_cons (by rw [hc38]; decide)]
        have htl := (List.takeWhile_sublist (· != 59) (l := u)).length_le
        have htk := List.prefix_iff_eq_take.1 (List.takeWhile_prefix (· != 59) (l := u))
        unfold plT
        obtain ⟨tt, htt⟩ : ∃ tt, tt = u.takeWhile (· != 59) := ⟨_, rfl⟩
        rw [← htt] at htl htk hV ⊢
        by_cases z : tt.length < u.length
        rotate_left
        · rw [if_neg z]
          rw [if_neg (fun q => z q.1)] at hV
          simp [h1, hwa, hV, cdV, hF]
        rw [if_pos z]
        have n1 : (0 : Int) < ((a + 1 + tt.length : Nat) : Int) := by omega
        have hsl : sg l (a + 1) (a + 1 + tt.length) = tt := by
          conv => rhs; rw [htk]
          rw [hu]
          unfold sg
          rw [List.take_drop, List.take_take]
          congr 2
          omega
        obtain ⟨B, hB⟩ : ∃ B : Int, B = ((a + 1 + tt.length : Nat) : Int) := ⟨_, rfl⟩
        rw [← hB] at n1 ⊢
        have hBn : B.toNat = a + 1 + tt.length := by omega
        have b2 : (a : Int) + 1 ≤ B := by omega
        have b3 : B ≤ l.length := by omega
        have b1 : (0 : Int) ≤ B := by omega
        have hwB : IntKind.i64.wrap (B + 1) = B + 1 := wrap_i64 (by omega) (by omega)
        have hs0 : List.drop (a + 1) (List.take (a + 1 + tt.length) l) = tt := hsl
        simp [h1, n1, hwa, b1, b2, b3, hBn, hs0]
        refine (Entity20_sp tt (by omega) h1).mono ?_
        rintro _ h4 ⟨rfl, hF4, hn4⟩
        cases hen : entL tt with
        | true =>
          rw [if_pos ⟨z, hen⟩] at hV
          simp [hF4.one, z, hwB, hV, cdV, hF4]
          omega
        | false =>
          rw [if_neg (fun q => by have := q.2; rw [hen] at this; cases this)] at hV
          simp [hF4.one, hwa, hV, cdV, hF4]
      have hr : cdN (decide (E = E)) (decide (lnN l < l.length)) (c :: u) = (0, 1) := by
        have d1 : c ≠ 92 := fun q => c92 (by rw [q]; rfl)
        have d2 : c ≠ 32 := fun q => c32 (by rw [q]; rfl)
        have d3 : c ≠ 96 := fun q => c96 (by rw [q]; rfl)
        have d4 : c ≠ 60 := fun q => c60 (by rw [q]; rfl)
        have d5 : c ≠ 38 := fun q => c38 (by rw [q]; rfl)
        unfold cdN
        simp only [d1, d2, d3, d4, d5, if_false]
      rw [hr] at hV
      simp [h1, big, a0, aE, aE2, hix, c92, c32, c96, c60, c38, hwa, hV, cdV, hF]
    have big2 : ¬ N < E := by omega
    by_cases c92 : c.toNat = 92
    · have hc92 : c = 92 := UInt8.toNat_inj.1 c92
      by_cases z : a + 1 = E
      · have hun : u = [] := hu0.2 z
        have z1 : ¬ (a : Int) + 1 < E := by omega
        have q1 : ¬ (a : Int) + 1 = N := by omega
        have hr : cdN (decide (E = N)) (decide (lnN l < l.length)) (c :: u) = (0, 1) := by rw [decide_eq_false hne, hun, hc92]; rfl
        have c32 : ¬ c.toNat = 32 := by omega
        have c96 : ¬ c.toNat = 96 := by omega
        have c60 : ¬ c.toNat = 60 := by omega
        have c38 : ¬ c.toNat = 38 := by omega
        rw [hr] at hV
        simp [h1, big, big2, a0, aE, aE2, hix, c32, c96, c60, c38, eq_true c92, hwa, q1, z1, hV, cdV, hF]
      · have z1 : (a : Int) + 1 < E := by omega
        have q1 : ¬ (a : Int) + 1 = N := by omega
        have hun : u ≠ [] := fun q => z (hu0.1 q)
        have hr : cdN (decide (E = N)) (decide (lnN l < l.length)) (c :: u) = if isMk (bt l (a + 1)) = true then (90, 2) else (0, 1) := by
          rw [hc92, ← hnx (by omega)]
          show (if u = [] then _ else _) = _
          rw [if_neg hun]
        have c32 : ¬ c.toNat = 32 := by omega
        have c96 : ¬ c.toNat = 96 := by omega
        have c60 : ¬ c.toNat = 60 := by omega
        have c38 : ¬ c.toNat = 38 := by omega
        rw [hr] at hV
        simp [h1, big, big2, a0, aE, aE2, hix, eq_true c92, hwa, q1, z1, ix1 (show a + 1 < E by omega)]
        refine (mark3_sp (bt l (a + 1)) h1).mono ?_
        rintro _ h3 ⟨rfl, rfl⟩
        cases hm : isMk (bt l (a + 1)) with
        | true =>
          rw [hm, if_pos rfl] at hV
          simp [h1, hwa2, hV, cdV, hF]
        | false =>
          rw [hm, if_neg (by decide)] at hV
          simp [h1, hwa, c32, c96, c60, c38, eq_true c92, hV, cdV, hF]
    by_cases c32 : c.toNat = 32
    · have hc32 : c = 32 := UInt8.toNat_inj.1 c32
      have c96 : ¬ c.toNat = 96 := by omega
      have c60 : ¬ c.toNat = 60 := by omega
      have c38 : ¬ c.toNat = 38 := by omega
      have hr : cdN (decide (E = N)) (decide (lnN l < l.length)) (c :: u) = if E = N ∧ lnN l < l.length ∧ u ≠ [] ∧ spA u = true then (91, u.length + 1) else (0, 1) := by
        rw [hc32]
        show (if decide (E = N) = true ∧ decide (lnN l < l.length) = true ∧ u ≠ [] ∧ spA u = true then _ else _) = _
        simp only [decide_eq_true_eq]
      rw [hr, if_neg (fun q => hne q.1)] at hV
      have q2 : ¬ (E : Int) = N := by omega
      simp [h1, big, big2, a0, aE, aE2, hix, c92, eq_true c32, q2, c96, c60, c38, hwa, hV, cdV, hF]
    by_cases c96 : c.toNat = 96
    · have hc96 : c = 96 := UInt8.toNat_inj.1 c96
      have hr : cdN (decide (E = N)) (decide (lnN l < l.length)) (c :: u) = if 0 < codL (c :: u) then (83, codL (c :: u)) else (0, accN (c :: u)) := by rw [hc96]; rfl
      rw [hr] at hV
      simp [h1, big, big2, a0, aE, aE2, hix, c92, c32, eq_true c96]
      refine (code20_sp l hl a E hel ha (by rw [← hc, hc96]) h1).mono ?_
      rintro _ h3 ⟨rfl, rfl⟩
      rw [hsg]
      by_cases z : codL (c :: u) = 0
      · rw [if_pos z]
        rw [if_neg (by omega)] at hV
        simp [h1]
        refine (row_sp l hl a E hel (by omega) h1).mono ?_
        rintro _ h4 ⟨rfl, rfl⟩
        rw [hsg]
        simp [h1, hV, cdV, hF]
      · rw [if_neg z]
        rw [if_pos (by omega)] at hV
        have z2 : (0 : Int) < (a : Int) + (codL (c :: u) : Nat) := by omega
        simp [h1, z2, hV, cdV, hF]
    by_cases c60 : c.toNat = 60
    · have hc60 : c = 60 := UInt8.toNat_inj.1 c60
      have c38 : ¬ c.toNat = 38 := by omega
      have hr : cdN (decide (E = N)) (decide (lnN l < l.length)) (c :: u) = (if (u.takeWhile (· != 62)).length < u.length ∧ (schL (u.takeWhile (· != 62)) = true ∨ malL (u.takeWhile (· != 62)) = true) then (88, (u.takeWhile (· != 62)).length + 2) else (0, 1)) := by rw [hc60]; rfl
      rw [hr] at hV
      simp [h1, big, big2, a0, aE, aE2, hix, c92, c32, c96, eq_true c60]
      refine (find20_sp l hl a E hel (by omega) 62 h1).mono ?_
      rintro _ h3 ⟨rfl, rfl⟩
      rw [hsg, plT_cons (by rw [hc60]; decide)]
      have htl := (List.takeWhile_sublist (· != 62) (l := u)).length_le
      have htn := tw_nin 62 u
      have htk := List.prefix_iff_eq_take.1 (List.takeWhile_prefix (· != 62) (l := u))
      unfold plT
      obtain ⟨tt, htt⟩ : ∃ tt, tt = u.takeWhile (· != 62) := ⟨_, rfl⟩
      rw [← htt] at htl htn htk hV ⊢
      by_cases z : tt.length < u.length
      rotate_left
      · rw [if_neg z]
        rw [if_neg (fun q => z q.1)] at hV
        simp [h1, c38, hwa, hV, cdV, hF]
      rw [if_pos z]
      have n1 : (0 : Int) < ((a + 1 + tt.length : Nat) : Int) := by omega
      have hsl : sg l (a + 1) (a + 1 + tt.length) = tt := by
        conv => rhs; rw [htk]
        rw [hu]
        unfold sg
        rw [List.take_drop, List.take_take]
        congr 2
        omega
      obtain ⟨B, hB⟩ : ∃ B : Int, B = ((a + 1 + tt.length : Nat) : Int) := ⟨_, rfl⟩
      rw [← hB] at n1 ⊢
      have hBn : B.toNat = a + 1 + tt.length := by omega
      have b2 : (a : Int) + 1 ≤ B := by omega
      have b3 : B ≤ l.length := by omega
      have b1 : (0 : Int) ≤ B := by omega
      have hwB : IntKind.i64.wrap (B + 1) = B + 1 := wrap_i64 (by omega) (by omega)
      have hs0 : List.drop (a + 1) (List.take (a + 1 + tt.length) l) = tt := hsl
      simp [h1, n1, hwa, b1, b2, b3, hBn, hs0]
      refine (Scheme20_sp tt (by omega) htn h1).mono ?_
      rintro _ h4 ⟨rfl, rfl⟩
      cases hsc : schL tt with
      | true =>
        rw [if_pos ⟨z, .inl hsc⟩] at hV
        simp [h1, z, hwB, hV, cdV, hF]
        omega
      | false =>
        simp [h1, hwa, b1, b2, b3, hBn, hs0]
        refine (Mail20_sp tt (by omega) h1).mono ?_
        rintro _ h5 ⟨rfl, rfl⟩
        cases hma : malL tt with
        | true =>
          rw [if_pos ⟨z, .inr hma⟩] at hV
          simp [h1, z, hwB, hV, cdV, hF]
          omega
        | false =>
          rw [if_neg (fun q => q.2.elim (fun x => by rw [hsc] at x; cases x) (fun x => by rw [hma] at x; cases x))] at hV
          simp [h1, c38, hwa, hV, cdV, hF]
    by_cases c38 : c.toNat = 38
    · have hc38 : c = 38 := UInt8.toNat_inj.1 c38
      have hr : cdN (decide (E = N)) (decide (lnN l < l.length)) (c :: u) = (if (u.takeWhile (· != 59)).length < u.length ∧ entL (u.takeWhile (· != 59)) = true then (89, (u.takeWhile (· != 59)).length + 2) else (0, 1)) := by rw [hc38]; rfl
      rw [hr] at hV
      simp [h1, big, big2, a0, aE, aE2, hix, c92, c32, c96, c60, eq_true c38]
      refine (find20_sp l hl a E hel (by omega) 59 h1).mono ?_
      rintro _ h3 ⟨rfl, rfl⟩
      rw [hsg, plT_cons (by rw [hc38]; decide)]
      have htl := (List.takeWhile_sublist (· != 59) (l := u)).length_le
      have htk := List.prefix_iff_eq_take.1 (List.takeWhile_prefix (· != 59) (l := u))
      unfold plT
      obtain ⟨tt, htt⟩ : ∃ tt, tt = u.takeWhile (· != 59) := ⟨_, rfl⟩
      rw [← htt] at htl htk hV ⊢
      by_cases z : tt.length < u.length
      rotate_left
      · rw [if_neg z]
        rw [if_neg (fun q => z q.1)] at hV
        simp [h1, hwa, hV, cdV, hF]
      rw [if_pos z]
      have n1 : (0 : Int) < ((a + 1 + tt.length : Nat) : Int) := by omega
      have hsl : sg l (a + 1) (a + 1 + tt.length) = tt := by
        conv => rhs; rw [htk]
        rw [hu]
        unfold sg
        rw [List.take_drop, List.take_take]
        congr 2
        omega
      obtain ⟨B, hB⟩ : ∃ B : Int, B = ((a + 1 + tt.length : Nat) : Int) := ⟨_, rfl⟩
      rw [← hB] at n1 ⊢
      have hBn : B.toNat = a + 1 + tt.length := by omega
      have b2 : (a : Int) + 1 ≤ B := by omega
      have b3 : B ≤ l.length := by omega
      have b1 : (0 : Int) ≤ B := by omega
      have hwB : IntKind.i64.wrap (B + 1) = B + 1 := wrap_i64 (by omega) (by omega)
      have hs0 : List.drop (a + 1) (List.take (a + 1 + tt.length) l) = tt := hsl
      simp [h1, n1, hwa, b1, b2, b3, hBn, hs0]
      refine (Entity20_sp tt (by omega) h1).mono ?_
      rintro _ h4 ⟨rfl, hF4, hn4⟩
      cases hen : entL tt with
      | true =>
        rw [if_pos ⟨z, hen⟩] at hV
        simp [hF4.one, z, hwB, hV, cdV, hF4]
        omega
      | false =>
        rw [if_neg (fun q => by have := q.2; rw [hen] at this; cases this)] at hV
        simp [hF4.one, hwa, hV, cdV, hF4]
    have hr : cdN (decide (E = N)) (decide (lnN l < l.length)) (c :: u) = (0, 1) := by
      have d1 : c ≠ 92 := fun q => c92 (by rw [q]; rfl)
      have d2 : c ≠ 32 := fun q => c32 (by rw [q]; rfl)
      have d3 : c ≠ 96 := fun q => c96 (by rw [q]; rfl)
      have d4 : c ≠ 60 := fun q => c60 (by rw [q]; rfl)
      have d5 : c ≠ 38 := fun q => c38 (by rw [q]; rfl)
      unfold cdN
      simp only [d1, d2, d3, d4, d5, if_false]
    rw [hr] at hV
    simp [h1, big, big2, a0, aE, aE2, hix, c92, c32, c96, c60, c38, hwa, hV, cdV, hF]
end
end Go.Dm
