/- What stands at a place: the code. -/
import Derived.Test.YthclahlplcfdpaaGreatDoorMdY
import Derived.Test.YthclahlplcfdpaaGreatDoorMdR
import Derived.Test.YthclahlplcfdpaaGreatDoorMdF
set_option linter.unusedVariables false
set_option linter.unusedSimpArgs false
namespace Go.Dm
open Go.Proofs
section
variable {h : H}
set_option maxRecDepth 100000 in
set_option maxHeartbeats 4000000 in
theorem cRead_sp (l : List UInt8) (hl : l.length < 2 ^ 31) (a : Nat) (e : Int) (ha : a < eE l e) (h1 : h.one = []) (g : GmH h) : CallW E0 X0 (.fn 30) [str l, .int .i64 a, .int .i64 e] h (fun v h' => v = cdV (cdN (decide (eE l e = eN l)) (decide (lnN l < l.length)) (sg l a (eE l e))) a ∧ Fr h.next h h') := by
  refine CallW.body efn30 rfl rfl rfl [] (by kernel_rfl) ?_
  simp [Tryz.f30, h1]
  refine (ahead2_sp l hl h1 g).mono ?_
  rintro _ h2 ⟨rfl, rfl⟩
  have hEi := eE_int l e
  have hE0 := eE_le l e
  have hNl := eN_len l
  have hF : Fr h2.next h2 h2 := Fr.refl h1
  have hAl := aL_len l
  have hAt : (aL l).take (eE l e) = l.take (eE l e) := by unfold aL; rw [List.take_take, Nat.min_eq_left (eE_le l e)]
  obtain ⟨A, hA⟩ : ∃ A, A = aL l := ⟨_, rfl⟩
  rw [← hA] at hAl hAt
  rw [← hA]
  generalize eE l e = E at *
  generalize hN : eN l = N at *
  have hel : E ≤ l.length := by omega
  obtain ⟨c, hc⟩ : ∃ c, c = bt l a := ⟨_, rfl⟩
  obtain ⟨u, hu⟩ : ∃ u, u = sg l (a + 1) E := ⟨_, rfl⟩
  have hsg : sg l a E = c :: u := by rw [hc, hu, sg_cons ha hel]
  have hul : u.length = E - (a + 1) := by rw [hu, sg_len _ _ _ hel]
  have hsl : List.drop a (List.take E A) = c :: u := by rw [hAt]; exact hsg
  have hix : idxB (c :: u) 0 = some (.int .u8 c.toNat) := by
    have := idxB_nat (l := c :: u) (k := 0) (by simp)
    simpa [bt] using this
  have hwa : IntKind.i64.wrap ((a : Int) + 1) = (a : Int) + 1 := wrap_succ (by omega)
  have hwa2 : IntKind.i64.wrap ((a : Int) + 2) = (a : Int) + 2 := wrap_i64 (by omega) (by omega)
  have hmin : min e (N : Int) = (E : Int) := by omega
  have hmD : minD (.int .i64 e) (.int .i64 N) = some (.int .i64 E) := by rw [minI, hmin]
  have a0 : ¬ (a : Int) < 0 := by omega
  have aE : ¬ (E : Int) ≤ a := by omega
  have aE2 : ¬ E ≤ a := by omega
  have aE3 : (a : Int) ≤ E := by omega
  have aE4 : a ≤ E := by omega
  have aE5 : (E : Int) ≤ N := by omega
  have aE6 : E ≤ N := hE0
  rw [hsg]
  obtain ⟨lf, hlf⟩ : ∃ lf, lf = decide (lnN l < l.length) := ⟨_, rfl⟩
  rw [← hlf]
  obtain ⟨V, hV⟩ : ∃ V, V = cdV (cdN (decide (E = N)) lf (c :: u)) a := ⟨_, rfl⟩
  rw [← hV]
  have hul1 : (c :: u).length = u.length + 1 := rfl
  have hul2 : u.length < 2 ^ 31 := by omega
  have i1 : u ≠ [] → idxB (c :: u) 1 = some (.int .u8 (bt u 0).toNat) := by
    intro q
    cases u with
    | nil => exact absurd rfl q
    | cons d r =>
      have := idxB_nat (l := c :: d :: r) (k := 1) (by simp)
      simpa [bt] using this
  have nx1 : u ≠ [] → nxMk u = isMk (bt u 0) := by
    intro q
    cases u with
    | nil => exact absurd rfl q
    | cons d r => rfl
  obtain ⟨last, hlast⟩ : ∃ last, last = decide (E = N) := ⟨_, rfl⟩
  rw [← hlast] at hV
  have hEN : decide ((E : Int) = N) = last := by
    rw [hlast]
    by_cases q : E = N
    · rw [decide_eq_true q, decide_eq_true (by omega)]
    · rw [decide_eq_false q, decide_eq_false (by omega)]
  have hci : ∀ (d : UInt8), d ≠ c → Lib.indexByte (c :: u) d = if (u.takeWhile (· != d)).length < u.length then (((u.takeWhile (· != d)).length + 1 : Nat) : Int) else -1 := by
    intro d hd
    rw [ib_pos, List.takeWhile_cons_of_pos (by simpa using fun q => hd q.symm)]
    simp only [List.length_cons]
    by_cases q : (u.takeWhile (· != d)).length < u.length
    · rw [if_pos (by omega), if_pos q]
    · rw [if_neg (by omega), if_neg q]
  by_cases c92 : c.toNat = 92
  · have hc92 : c = 92 := UInt8.toNat_inj.1 c92
    by_cases hu0 : u = []
    · have hr : cdN last lf (c :: u) = if last = true then (91, 1) else (0, 1) := by rw [hc92, hu0]; cases last <;> rfl
      rw [hr] at hV
      rw [hu0] at hsl hix
      have hE1 : (E : Int) = a + 1 := by rw [hu0] at hul; simp at hul; omega
      cases last with
      | true =>
        rw [if_pos rfl] at hV
        simp [h1, hAl, hmD, a0, aE, aE2, aE3, aE4, aE5, aE6, hsl, hix, hEN, eq_true c92, hV, cdV, hF]
        try omega
      | false =>
        rw [if_neg (by decide)] at hV
        simp [h1, hAl, hmD, a0, aE, aE2, aE3, aE4, aE5, aE6, hsl, hix, hEN, eq_true c92, hwa, hV, cdV, hF]
    · have hr : cdN last lf (c :: u) = if isMk (bt u 0) = true then (90, 2) else (0, 1) := by
        rw [hc92, ← nx1 hu0]
        show (if u = [] then _ else _) = _
        rw [if_neg hu0]
      rw [hr] at hV
      have hi1 := i1 hu0
      have hu1 : 0 < u.length := List.length_pos_iff.2 hu0
      have hu2 : ¬ (u.length : Int) + 1 = 1 := by omega
      have hu3 : (1 : Int) < (u.length : Int) + 1 := by omega
      simp [h1, hAl, hmD, a0, aE, aE2, aE3, aE4, aE5, aE6, hsl, hix, hEN, eq_true c92, hu0, hu1, hu2, hu3, hi1]
      refine (mark1_sp (bt u 0) h1).mono ?_
      rintro _ h3 ⟨rfl, rfl⟩
      cases hm : isMk (bt u 0) with
      | true =>
        rw [hm, if_pos rfl] at hV
        simp [h1, hwa2, hV, cdV, hF]
      | false =>
        rw [hm, if_neg (by decide)] at hV
        simp [h1, hwa, hV, cdV, hF]
  by_cases c32 : c.toNat = 32
  · have hc32 : c = 32 := UInt8.toNat_inj.1 c32
    have hr : cdN last lf (c :: u) = if last = true ∧ lf = true ∧ u ≠ [] ∧ u.all (· == 32) = true then (91, u.length + 1) else (0, 1) := by rw [hc32]; rfl
    rw [hr] at hV
    have hE1 : (E : Int) = a + (u.length + 1) := by omega
    by_cases T : last = true ∧ lf = true ∧ u ≠ []
    · obtain ⟨t1, t2, t3⟩ := T
      have hu1 : 0 < u.length := List.length_pos_iff.2 t3
      have hu3 : (1 : Int) < (u.length : Int) + 1 := by omega
      rw [t1] at hEN
      simp [h1, hAl, hmD, a0, aE, aE2, aE3, aE4, aE5, aE6, hsl, hix, hEN, c92, eq_true c32, t2, t3, hu1, hu3]
      refine (Trim_sp (c :: u) 32 (by decide) (by simp; omega)).mono ?_
      rintro _ h3 ⟨rfl, rfl⟩
      have htr := trim_nil (c :: u) 32
      have hall : (c :: u).all (· == 32) = u.all (· == 32) := by rw [hc32]; rfl
      rw [hall] at htr
      cases hq : u.all (· == 32) with
      | true =>
        rw [hq, if_pos ⟨t1, t2, t3, rfl⟩] at hV
        have hn := htr.2 hq
        simp [h1, hn, hV, cdV, hF]
        try omega
      | false =>
        rw [hq, if_neg (fun q => by have := q.2.2.2; cases this)] at hV
        have hn : ¬ Lib.trimB (c :: u) 32 = [] := fun q => by have := htr.1 q; rw [hq] at this; cases this
        simp [h1, hn, hwa, hV, cdV, hF]
    · rw [if_neg (fun q => T ⟨q.1, q.2.1, q.2.2.1⟩)] at hV
      cases hL : last with
      | false =>
        rw [hL] at hEN
        simp [h1, hAl, hmD, a0, aE, aE2, aE3, aE4, aE5, aE6, hsl, hix, hEN, c92, eq_true c32, hwa, hV, cdV, hF]
      | true =>
        rw [hL] at hEN
        cases hl2 : lf with
        | false => simp [h1, hAl, hmD, a0, aE, aE2, aE3, aE4, aE5, aE6, hsl, hix, hEN, c92, eq_true c32, hl2, hwa, hV, cdV, hF]
        | true =>
          have hu0 : u = [] := Classical.byContradiction fun q => T ⟨hL, hl2, q⟩
          rw [hu0] at hsl hix
          simp [h1, hAl, hmD, a0, aE, aE2, aE3, aE4, aE5, aE6, hsl, hix, hEN, c92, eq_true c32, hl2, hwa, hV, cdV, hF]
  by_cases c96 : c.toNat = 96
  · have hc96 : c = 96 := UInt8.toNat_inj.1 c96
    have hr : cdN last lf (c :: u) = if 0 < codL (c :: u) then (83, codL (c :: u)) else (0, accN (c :: u)) := by rw [hc96]; rfl
    rw [hr] at hV
    have ha0 : 0 < accN (c :: u) := by rw [hc96]; unfold accN; rw [List.takeWhile_cons_of_pos (by rfl)]; simp
    have hal := accN_le (c :: u)
    have hcl : codL (c :: u) = 0 ∨ codL (c :: u) ≤ (c :: u).length := by
      rcases codF_le (c :: u) (accN (c :: u)) ha0 ((c :: u).length + 1) (accN (c :: u)) with q | q
      · exact .inl q
      · exact .inr q.2
    rw [hul1] at hal hcl
    simp [h1, hAl, hmD, a0, aE, aE2, aE3, aE4, aE5, aE6, hsl, hix, hEN, c92, c32, eq_true c96]
    refine (code_sp (c :: u) (by simp; omega) ha0 h1).mono ?_
    rintro _ h3 ⟨rfl, rfl⟩
    by_cases z : codL (c :: u) = 0
    · rw [if_neg (by omega)] at hV
      simp [h1, z]
      refine (acc_sp (c :: u) (by simp; omega) h1).mono ?_
      rintro _ h4 ⟨rfl, rfl⟩
      have hw := wrap_add (a := a) (b := accN (c :: u)) (by omega)
      simp [h1, hw, hV, cdV, hF]
    · rw [if_pos (by omega)] at hV
      have z2 : 0 < codL (c :: u) := by omega
      have hw := wrap_add (a := a) (b := codL (c :: u)) (by omega)
      simp [h1, z2, hw, hV, cdV, hF]
  by_cases c60 : c.toNat = 60
  · have hc60 : c = 60 := UInt8.toNat_inj.1 c60
    have hr : cdN last lf (c :: u) = (if (u.takeWhile (· != 62)).length < u.length ∧ (schL (u.takeWhile (· != 62)) = true ∨ malL (u.takeWhile (· != 62)) = true) then (88, (u.takeWhile (· != 62)).length + 2) else (0, 1)) := by rw [hc60]; rfl
    rw [hr] at hV
    have hci := hci 62 (by rw [hc60]; decide)
    simp [h1, hAl, hmD, a0, aE, aE2, aE3, aE4, aE5, aE6, hsl, hix, hEN, c92, c32, c96, eq_true c60]
    refine (IndexByte_sp (c :: u) 62).mono ?_
    rintro _ h3 ⟨rfl, rfl⟩
    rw [hci]
    have htl := tw_le (· != 62) u
    have htk := List.prefix_iff_eq_take.1 (List.takeWhile_prefix (· != 62) (l := u))
    obtain ⟨tt, htt⟩ : ∃ tt, tt = u.takeWhile (· != 62) := ⟨_, rfl⟩
    rw [← htt] at htl htk hV ⊢
    by_cases z : tt.length < u.length
    rotate_left
    · rw [if_neg z]
      rw [if_neg (fun q => z q.1)] at hV
      simp [h1, hwa, hV, cdV, hF]
    rw [if_pos z]
    have hs0 : List.take tt.length u = tt := htk.symm
    obtain ⟨k, hk⟩ : ∃ k, k = tt.length := ⟨_, rfl⟩
    rw [← hk] at hs0 hV z ⊢
    have n1 : (0 : Int) < (k : Int) + 1 := by omega
    have n2 : (1 : Int) ≤ (k : Int) + 1 := by omega
    have n3 : (k : Int) + 1 ≤ (u.length : Int) + 1 := by omega
    have n4 : k ≤ u.length := by omega
    have w1 : IntKind.i64.wrap ((a : Int) + (k + 1)) = (a : Int) + (k + 1) := wrap_i64 (by omega) (by omega)
    have w2 : IntKind.i64.wrap ((a : Int) + (k + 1) + 1) = (a : Int) + (k + 1) + 1 := wrap_i64 (by omega) (by omega)
    simp [h1, n1]
    refine wpd_loop (fun (i : Nat) fr h' => fr.get 99 = some (.int .i64 i) ∧ i ≤ 2 ∧ Fr h3.next h3 h' ∧ (0 < i → schL tt = false) ∧ (1 < i → malL tt = false)) (fun i => 2 - i) 0 ⟨by simp, by omega, hF, by omega, by omega⟩ ?_
    rintro i fr h4 ⟨g99, hi, hF4, hi0, hi1⟩ hf
    have g1 := hf 1 rfl
    have g10 := hf 10 rfl
    have g13 := hf 13 rfl
    have g98 := hf 98 rfl
    simp at g1 g10 g13 g98
    have h41 := hF4.one
    have gm4 : GmH h4 := GmH.fr g hF4 g.2
    rcases (show i = 0 ∨ i = 1 ∨ i = 2 by omega) with rfl | rfl | rfl
    · simp [g1, g10, g13, g98, g99, h41, n1, n2, n3, n4, hs0]
      refine (scheme_sp tt (by omega) h41 gm4).mono ?_
      rintro _ h5 ⟨rfl, rfl⟩
      cases hsc : schL tt with
      | true =>
        rw [if_pos ⟨z, .inl hsc⟩] at hV
        simp [g1, g13, h41, w1, w2, hV, cdV, hF4]
        try omega
      | false =>
        have wo : IntKind.i64.wrap 1 = 1 := rfl
        simp [g99, h41, hF4, wo]
        exact ⟨1, by omega, by omega, by omega, by simp [hsc]⟩
    · have hsc := hi0 (by omega)
      simp [g1, g10, g13, g98, g99, h41, n1, n2, n3, n4, hs0]
      refine (mail_sp tt (by omega) h41 gm4).mono ?_
      rintro _ h5 ⟨rfl, hF5⟩
      have hF6 := hF4.trans (hF5.mono hF4.next)
      cases hma : malL tt with
      | true =>
        rw [if_pos ⟨z, .inr hma⟩] at hV
        simp [g1, g13, hF6.one, w1, w2, hV, cdV, hF6]
        try omega
      | false =>
        have wo : IntKind.i64.wrap 2 = 2 := rfl
        simp [g99, hF6.one, hF6, wo]
        exact ⟨2, by omega, by omega, by omega, by simp [hsc, hma]⟩
    · have hsc := hi0 (by omega)
      have hma := hi1 (by omega)
      rw [if_neg (fun q => q.2.elim (fun x => by rw [hsc] at x; cases x) (fun x => by rw [hma] at x; cases x))] at hV
      simp [g1, g10, g13, g98, g99, h41, hwa, hV, cdV, hF4]
  by_cases c38 : c.toNat = 38
  · have hc38 : c = 38 := UInt8.toNat_inj.1 c38
    have hr : cdN last lf (c :: u) = (if (u.takeWhile (· != 59)).length < u.length ∧ entL (u.takeWhile (· != 59)) = true then (89, (u.takeWhile (· != 59)).length + 2) else (0, 1)) := by rw [hc38]; rfl
    rw [hr] at hV
    have hci := hci 59 (by rw [hc38]; decide)
    simp [h1, hAl, hmD, a0, aE, aE2, aE3, aE4, aE5, aE6, hsl, hix, hEN, c92, c32, c96, c60, eq_true c38]
    refine (IndexByte_sp (c :: u) 59).mono ?_
    rintro _ h3 ⟨rfl, rfl⟩
    rw [hci]
    have htl := tw_le (· != 59) u
    have htk := List.prefix_iff_eq_take.1 (List.takeWhile_prefix (· != 59) (l := u))
    obtain ⟨tt, htt⟩ : ∃ tt, tt = u.takeWhile (· != 59) := ⟨_, rfl⟩
    rw [← htt] at htl htk hV ⊢
    by_cases z : tt.length < u.length
    rotate_left
    · rw [if_neg z]
      rw [if_neg (fun q => z q.1)] at hV
      simp [h1, hwa, hV, cdV, hF]
    rw [if_pos z]
    have hs0 : List.take tt.length u = tt := htk.symm
    obtain ⟨k, hk⟩ : ∃ k, k = tt.length := ⟨_, rfl⟩
    rw [← hk] at hs0 hV z ⊢
    have n1 : (0 : Int) < (k : Int) + 1 := by omega
    have n2 : (1 : Int) ≤ (k : Int) + 1 := by omega
    have n3 : (k : Int) + 1 ≤ (u.length : Int) + 1 := by omega
    have n4 : k ≤ u.length := by omega
    have w1 : IntKind.i64.wrap ((a : Int) + (k + 1)) = (a : Int) + (k + 1) := wrap_i64 (by omega) (by omega)
    have w2 : IntKind.i64.wrap ((a : Int) + (k + 1) + 1) = (a : Int) + (k + 1) + 1 := wrap_i64 (by omega) (by omega)
    simp [h1, n1, n2, n3, n4, hs0]
    refine (entity_sp tt (by omega) h1 g).mono ?_
    rintro _ h4 ⟨rfl, rfl⟩
    cases hen : entL tt with
    | true =>
      rw [if_pos ⟨z, hen⟩] at hV
      simp [h1, w1, w2, hV, cdV, hF]
      try omega
    | false =>
      rw [if_neg (fun q => by have := q.2; rw [hen] at this; cases this)] at hV
      simp [h1, hwa, hV, cdV, hF]
  have hr : cdN last lf (c :: u) = (0, 1) := by
    have d1 : c ≠ 92 := fun q => c92 (by rw [q]; rfl)
    have d2 : c ≠ 32 := fun q => c32 (by rw [q]; rfl)
    have d3 : c ≠ 96 := fun q => c96 (by rw [q]; rfl)
    have d4 : c ≠ 60 := fun q => c60 (by rw [q]; rfl)
    have d5 : c ≠ 38 := fun q => c38 (by rw [q]; rfl)
    unfold cdN
    simp only [d1, d2, d3, d4, d5, if_false]
  rw [hr] at hV
  simp [h1, hAl, hmD, a0, aE, aE2, aE3, aE4, aE5, aE6, hsl, hix, hEN, c92, c32, c96, c60, c38, hwa, hV, cdV, hF]
end
end Go.Dm
