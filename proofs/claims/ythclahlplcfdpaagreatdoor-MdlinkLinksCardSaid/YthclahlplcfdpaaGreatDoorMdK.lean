/- The reference's addresses and characters' names. -/
import Derived.Test.YthclahlplcfdpaaGreatDoorMdJ
set_option linter.unusedVariables false
set_option linter.unusedSimpArgs false
namespace Go.Dm
open Go.Proofs
theorem getElem_bt {t : List UInt8} {j : Nat} (hj : j < t.length) : t[j] = bt t j := by unfold bt; rw [List.getD_eq_getElem?_getD, List.getElem?_eq_getElem hj]; rfl
theorem all_take_iff (t : List UInt8) (k : Nat) (p : UInt8 → Bool) : (t.take k).all p = true ↔ ∀ j, j < t.length → j < k → p (bt t j) = true := by
  rw [List.all_eq_true]
  constructor
  · intro h j hj hk
    rw [← getElem_bt hj]
    exact h _ (List.mem_take_iff_getElem.2 ⟨j, by omega, rfl⟩)
  · intro h x hx
    obtain ⟨j, hj, rfl⟩ := List.mem_take_iff_getElem.1 hx
    rw [getElem_bt]
    exact h j (by omega) (by omega)
theorem all_drop_iff (t : List UInt8) (k : Nat) (p : UInt8 → Bool) : (t.drop k).all p = true ↔ ∀ j, j < t.length → k ≤ j → p (bt t j) = true := by
  rw [List.all_eq_true]
  constructor
  · intro h j hj hk
    rw [← getElem_bt hj]
    exact h _ (List.mem_drop_iff_getElem.2 ⟨j - k, by omega, by simp [show k + (j - k) = j by omega]⟩)
  · intro h x hx
    obtain ⟨j, hj, rfl⟩ := List.mem_drop_iff_getElem.1 hx
    rw [getElem_bt]
    exact h _ (by omega) (by omega)
theorem sch_iff (t : List UInt8) : schL t = true ↔ ((t.takeWhile (· != 58)).length < t.length ∧ 2 ≤ (t.takeWhile (· != 58)).length ∧ (t.takeWhile (· != 58)).length ≤ 32 ∧ isLet (bt t 0) = true) ∧
    ∀ j, j < t.length → (j < (t.takeWhile (· != 58)).length → schOk (bt t j) = true) ∧ ((t.takeWhile (· != 58)).length < j → resOk (bt t j) = true) := by
  unfold schL
  simp only [Bool.and_eq_true, decide_eq_true_eq, all_take_iff, all_drop_iff]
  constructor
  · rintro ⟨⟨⟨⟨⟨a, b⟩, c⟩, d⟩, e⟩, f⟩
    exact ⟨⟨a, b, c, d⟩, fun j hj => ⟨e j hj, fun q => f j hj q⟩⟩
  · rintro ⟨⟨a, b, c, d⟩, e⟩
    exact ⟨⟨⟨⟨⟨a, b⟩, c⟩, d⟩, fun j hj => (e j hj).1⟩, fun j hj q => (e j hj).2 q⟩
section
variable {h : H}
theorem find20_all (t : List UInt8) (ht : t.length < 2 ^ 31) (c : UInt8) (h1 : h.one = []) : CallW E0 X0 (.fn 77) [str t, .int .i64 0, .int .i64 t.length, .int .u8 c.toNat] h (fun v h' => v = .int .i64 (plT t c 0) ∧ h' = h) := by
  have := find20_sp t ht 0 t.length (Nat.le_refl _) (Nat.zero_le _) c h1
  rw [show sg t 0 t.length = t by simp [sg]] at this
  exact this
theorem Scheme20_sp (t : List UInt8) (ht : t.length < 2 ^ 31) (hgt : 62 ∉ t) (h1 : h.one = []) : CallW E0 X0 (.fn 78) [str t] h (fun v h' => v = .bool (schL t) ∧ h' = h) := by
  refine CallW.body efn78 rfl rfl rfl [] (by kernel_rfl) ?_
  simp [Tryz.f78, h1]
  refine (find20_all t ht 58 h1).mono ?_
  rintro _ h2 ⟨rfl, rfl⟩
  have hiff := sch_iff t
  have hsl := (List.takeWhile_sublist (· != 58) (l := t)).length_le
  unfold plT
  obtain ⟨k, hk⟩ : ∃ k, k = (t.takeWhile (· != 58)).length := ⟨_, rfl⟩
  rw [← hk] at hiff hsl ⊢
  have bad : ¬ schL t = true → schL t = false := fun q => by simpa using q
  by_cases c1 : k < t.length
  rotate_left
  · rw [if_neg c1]
    have hF : schL t = false := bad fun q => c1 (hiff.1 q).1.1
    simp [h1, hF]
  rw [if_pos c1]
  by_cases c2 : k < 2
  · have hF : schL t = false := bad fun q => by have := (hiff.1 q).1.2.1; omega
    have c2' : (k : Int) < 2 := by omega
    simp [h1, hF, c2, c2']
  by_cases c3 : 32 < k
  · have hF : schL t = false := bad fun q => by have := (hiff.1 q).1.2.2.1; omega
    have c2' : ¬ (k : Int) < 2 := by omega
    have c3' : (32 : Int) < k := by omega
    simp [h1, hF, c2, c2', c3, c3']
  have c2' : ¬ (k : Int) < 2 := by omega
  have c3' : ¬ (32 : Int) < k := by omega
  have hi0 : idxB t 0 = some (.int .u8 (bt t 0).toNat) := idxB_nat (k := 0) (by omega)
  simp [h1, c2, c2', c3, c3', hi0]
  refine (let1_sp (bt t 0) h1).mono ?_
  rintro _ h3 ⟨rfl, rfl⟩
  cases hL : isLet (bt t 0) with
  | false =>
    have hF : schL t = false := bad fun q => by have := (hiff.1 q).1.2.2.2; rw [hL] at this; cases this
    simp [h1, hF]
  | true =>
    simp [h1]
    refine wpd_loop (fun (i : Nat) fr h' => fr.get 4 = some (.int .i64 i) ∧ h' = h3 ∧ 1 ≤ i ∧ i ≤ t.length ∧ ∀ j, j < i → (j < k → schOk (bt t j) = true) ∧ (k < j → resOk (bt t j) = true)) (fun i => t.length - i) 1 ⟨by simp, rfl, Nat.le_refl _, by omega, fun j hj => by
      obtain rfl : j = 0 := by omega
      exact ⟨fun _ => by unfold schOk; rw [hL]; rfl, fun q => by omega⟩⟩ ?_
    rintro i fr h4 ⟨g4, rfl, hi1, hi, hI⟩ hf
    have g0 := hf 0 rfl
    have g3 := hf 3 rfl
    simp at g0 g3
    by_cases ci : i < t.length
    rotate_left
    · have hT : schL t = true := hiff.2 ⟨⟨c1, by omega, by omega, hL⟩, fun j hj => hI j (by omega)⟩
      simp [g0, g3, g4, h1, ci, hT]
    have hw : IntKind.i64.wrap ((i : Int) + 1) = (i : Int) + 1 := wrap_succ (by omega)
    have nxt : (i < k → schOk (bt t i) = true) → (k < i → resOk (bt t i) = true) → ∃ s', t.length - s' < t.length - i ∧ i + 1 = s' ∧ 1 ≤ s' ∧ s' ≤ t.length ∧ ∀ j, j < s' → (j < k → schOk (bt t j) = true) ∧ (k < j → resOk (bt t j) = true) := by
      intro q1 q2
      refine ⟨i + 1, by omega, rfl, by omega, by omega, fun j hj => ?_⟩
      rcases Nat.lt_or_ge j i with q | q
      · exact hI j q
      · obtain rfl : j = i := by omega
        exact ⟨q1, q2⟩
    rcases Nat.lt_trichotomy i k with q | q | q
    · have q' : (i : Int) < k := by omega
      have q2 : ¬ (k : Int) < i := by omega
      have q3 : ¬ k < i := by omega
      simp [g0, g3, g4, h1, ci, idxB_nat ci, q, q']
      refine (let1_sp (bt t i) h1).mono ?_
      rintro _ h5 ⟨rfl, rfl⟩
      cases hLi : isLet (bt t i) with
      | true =>
        simp [g0, g3, g4, h1, hw, q2, q3]
        have := nxt (fun _ => by unfold schOk; rw [hLi]; rfl) (fun x => by omega)
        simpa using this
      | false =>
        simp [g0, g3, g4, h1]
        refine (dig1_sp (bt t i) h1).mono ?_
        rintro _ h6 ⟨rfl, rfl⟩
        cases hDi : isDig (bt t i) with
        | true =>
          simp [g0, g3, g4, h1, hw, q2, q3]
          have := nxt (fun _ => by unfold schOk; rw [hLi, hDi]; rfl) (fun x => by omega)
          simpa using this
        | false =>
          simp [g0, g3, g4, h1]
          refine (in_sp (bt t i) [43, 46, 45] (by decide) h1).mono ?_
          rintro _ h7 ⟨rfl, rfl⟩
          by_cases hm : bt t i ∈ ([43, 46, 45] : List UInt8)
          · rw [decide_eq_true hm]
            simp [g0, g3, g4, h1, hw, q2, q3]
            have := nxt (fun _ => by unfold schOk; rw [hLi, hDi, decide_eq_true hm]; rfl) (fun x => by omega)
            simpa using this
          · rw [decide_eq_false hm]
            have hF : schL t = false := bad fun x => by
              have := ((hiff.1 x).2 i ci).1 q
              unfold schOk at this
              rw [hLi, hDi, decide_eq_false hm] at this
              cases this
            simp [g0, g3, g4, h1, hF]
    · have q1 : ¬ (i : Int) < k := by omega
      have q2 : ¬ (k : Int) < i := by omega
      have q3 : ¬ i < k := by omega
      have q4 : ¬ k < i := by omega
      simp [g0, g3, g4, h1, ci, idxB_nat ci, q1, q2, q3, q4, hw]
      have := nxt (fun x => by omega) (fun x => by omega)
      simpa using this
    · have q1 : ¬ (i : Int) < k := by omega
      have q2 : (k : Int) < i := by omega
      have q3 : ¬ i < k := by omega
      have h62 : ¬ (bt t i).toNat = 62 := by
        refine tn (by decide) fun e => hgt ?_
        have : t[i] ∈ t := List.getElem_mem ci
        rw [getElem_bt ci, e] at this
        exact this
      have hres : resOk (bt t i) = true ↔ 32 < (bt t i).toNat ∧ (bt t i).toNat ≠ 60 ∧ (bt t i).toNat ≠ 127 := by unfold resOk; simp [and_assoc]
      have hF : ¬ (32 < (bt t i).toNat ∧ (bt t i).toNat ≠ 60 ∧ (bt t i).toNat ≠ 127) → schL t = false := fun z => bad fun x => z (hres.1 (((hiff.1 x).2 i ci).2 q))
      by_cases d1 : (bt t i).toNat ≤ 32
      · have hF := hF (by omega)
        simp [g0, g3, g4, h1, ci, idxB_nat ci, q, q1, q2, q3, d1, hF]
      by_cases d2 : (bt t i).toNat = 60
      · have hF := hF (by omega)
        simp [g0, g3, g4, h1, ci, idxB_nat ci, q, q1, q2, q3, d1, eq_true d2, hF]
      by_cases d3 : (bt t i).toNat = 127
      · have hF := hF (by omega)
        simp [g0, g3, g4, h1, ci, idxB_nat ci, q, q1, q2, q3, d1, d2, h62, eq_true d3, hF]
      simp [g0, g3, g4, h1, ci, idxB_nat ci, q, q1, q2, q3, d1, d2, h62, d3, hw]
      have := nxt (fun x => by omega) (fun x => hres.2 (by omega))
      simpa using this
theorem mal_iff (t : List UInt8) : malL t = true ↔ ((t.takeWhile (· != 64)).length < t.length ∧ 0 < (t.takeWhile (· != 64)).length ∧ ∀ j, j < t.length → j < (t.takeWhile (· != 64)).length → malOk (bt t j) = true) ∧
    (splA 46 [] (t.drop ((t.takeWhile (· != 64)).length + 1))).all okDom = true := by
  unfold malL
  simp only [Bool.and_eq_true, decide_eq_true_eq, all_take_iff]
  constructor
  · rintro ⟨⟨⟨a, b⟩, c⟩, d⟩; exact ⟨⟨a, b, c⟩, d⟩
  · rintro ⟨⟨a, b, c⟩, d⟩; exact ⟨⟨⟨a, b⟩, c⟩, d⟩
theorem sg_snoc {t : List UInt8} {b i : Nat} (hb : b ≤ i) (hi : i < t.length) : sg t b i ++ [bt t i] = sg t b (i + 1) := by
  unfold sg
  rw [List.take_succ_eq_append_getElem hi, List.drop_append_of_le_length (by simp; omega), getElem_bt]
theorem Mail20_sp (t : List UInt8) (ht : t.length < 2 ^ 31) (h1 : h.one = []) : CallW E0 X0 (.fn 79) [str t] h (fun v h' => v = .bool (malL t) ∧ h' = h) := by
  refine CallW.body efn79 rfl rfl rfl [] (by kernel_rfl) ?_
  simp [Tryz.f79, h1]
  refine (find20_all t ht 64 h1).mono ?_
  rintro _ h2 ⟨rfl, rfl⟩
  have hiff := mal_iff t
  have hsl := (List.takeWhile_sublist (· != 64) (l := t)).length_le
  unfold plT
  obtain ⟨k, hk⟩ : ∃ k, k = (t.takeWhile (· != 64)).length := ⟨_, rfl⟩
  rw [← hk] at hiff hsl ⊢
  have bad : ¬ malL t = true → malL t = false := fun q => by simpa using q
  by_cases c1 : k < t.length
  rotate_left
  · rw [if_neg c1]
    have hF : malL t = false := bad fun q => c1 (hiff.1 q).1.1
    simp [h1, hF]
  rw [if_pos c1]
  by_cases c2 : k < 1
  · have hF : malL t = false := bad fun q => by have := (hiff.1 q).1.2.1; omega
    have c2' : (k : Int) < 1 := by omega
    have c2'' : k = 0 := by omega
    simp [h1, hF, c2, c2', c2'']
  have c2' : ¬ (k : Int) < 1 := by omega
  have c2'' : ¬ k = 0 := by omega
  simp [h1, c2, c2', c2'']
  refine wpd_loop (fun (i : Nat) fr h' => fr.get 4 = some (.int .i64 i) ∧ h' = h2 ∧ i ≤ k ∧ ∀ j, j < i → malOk (bt t j) = true) (fun i => k - i) 0 ⟨by simp, rfl, Nat.zero_le _, fun j hj => by omega⟩ ?_
  rintro i fr h4 ⟨g4, rfl, hi, hI⟩ hf
  have g0 := hf 0 rfl
  have g3 := hf 3 rfl
  simp at g0 g3
  have hw : IntKind.i64.wrap ((i : Int) + 1) = (i : Int) + 1 := wrap_succ (by omega)
  by_cases ci : i < k
  · have ci2 : i < t.length := by omega
    have ci' : (i : Int) < k := by omega
    have nxt : malOk (bt t i) = true → ∃ s', k - s' < k - i ∧ i + 1 = s' ∧ s' ≤ k ∧ ∀ j, j < s' → malOk (bt t j) = true := by
      intro q1
      refine ⟨i + 1, by omega, rfl, by omega, fun j hj => ?_⟩
      rcases Nat.lt_or_ge j i with q | q
      · exact hI j q
      · obtain rfl : j = i := by omega
        exact q1
    simp [g0, g3, g4, h1, ci, ci', idxB_nat ci2]
    refine (let1_sp (bt t i) h1).mono ?_
    rintro _ h5 ⟨rfl, rfl⟩
    cases hLi : isLet (bt t i) with
    | true =>
      simp [g0, g3, g4, h1, hw]
      have := nxt (by unfold malOk; rw [hLi]; rfl)
      simpa using this
    | false =>
      simp [g0, g3, g4, h1, idxB_nat ci2]
      refine (dig1_sp (bt t i) h1).mono ?_
      rintro _ h6 ⟨rfl, rfl⟩
      cases hDi : isDig (bt t i) with
      | true =>
        simp [g0, g3, g4, h1, hw]
        have := nxt (by unfold malOk; rw [hLi, hDi]; rfl)
        simpa using this
      | false =>
        by_cases d : (bt t i).toNat = 96
        · simp [g0, g3, g4, h1, idxB_nat ci2, eq_true d, hw]
          have := nxt (by unfold malOk; rw [hLi, hDi, decide_eq_true d]; rfl)
          simpa using this
        · simp [g0, g3, g4, h1, idxB_nat ci2, d]
          refine (in_sp (bt t i) malB (by decide) h1).mono ?_
          rintro _ h7 ⟨rfl, rfl⟩
          by_cases hm : bt t i ∈ malB
          · rw [decide_eq_true hm]
            simp [g0, g3, g4, h1, hw]
            have := nxt (by unfold malOk; rw [decide_eq_true hm]; simp)
            simpa using this
          · rw [decide_eq_false hm]
            have hF : malL t = false := bad fun x => by
              have := (hiff.1 x).1.2.2 i ci2 ci
              unfold malOk at this
              rw [hLi, hDi, decide_eq_false hm, decide_eq_false d] at this
              cases this
            simp [g0, g3, g4, h1, hF]
  · obtain rfl : i = k := by omega
    have ci' : ¬ (i : Int) < i := by omega
    simp [g0, g3, g4, h1, hw]
    have hmal : malL t = (splA 46 [] (t.drop (i + 1))).all okDom := by
      rw [Bool.eq_iff_iff, hiff]
      exact ⟨fun x => x.2, fun x => ⟨⟨c1, by omega, fun j _ hj => hI j hj⟩, x⟩⟩
    refine wpd_loop (fun (s : Nat × Nat) fr h' => fr.get 5 = some (.int .i64 s.1) ∧ fr.get 6 = some (.int .i64 s.2) ∧ h' = h4 ∧ i + 1 ≤ s.1 ∧ s.1 ≤ s.2 ∧ ((s.2 = t.length + 1 ∧ malL t = true) ∨ (s.2 ≤ t.length ∧ (sg t s.1 s.2).all domOk = true ∧ malL t = (splA 46 (sg t s.1 s.2) (t.drop s.2)).all okDom))) (fun s => t.length + 1 - s.2) (i + 1, i + 1) ⟨by simp, by simp, rfl, Nat.le_refl _, Nat.le_refl _, .inr ⟨by simp only; omega, by rw [sg_nil (Nat.le_refl _)]; rfl, by rw [sg_nil (Nat.le_refl _)]; exact hmal⟩⟩ ?_
    rintro ⟨b, j⟩ fr2 h5 ⟨g5, g6, rfl, hb1, hbj, hJ⟩ hf2
    replace g0 : fr2.get 0 = some (str t) := by
      have q := hf2 0 rfl
      simp at q
      rw [q, g0]
    simp only at g5 g6 hb1 hbj hJ
    rcases hJ with ⟨hj, hT⟩ | ⟨hj, hdom, hJ⟩
    · have cj : ¬ j ≤ t.length := by omega
      simp [g0, g5, g6, h1, cj, hT]
    have hwj : IntKind.i64.wrap ((j : Int) + 1) = (j : Int) + 1 := wrap_succ (by omega)
    have hsl2 : (sg t b j).length = j - b := sg_len t b j hj
    have hok : okDom (sg t b j) = true ↔ ¬ j = b ∧ j - b ≤ 63 ∧ ¬ (bt t b).toNat = 45 ∧ ¬ (bt t (j - 1)).toNat = 45 := by
      unfold okDom
      simp only [Bool.and_eq_true, decide_eq_true_eq, hdom, and_true, hsl2]
      have e0 : sg t b j ≠ [] ↔ ¬ j = b := by rw [← List.length_pos_iff, hsl2]; omega
      have e45 : ∀ c : UInt8, c ≠ 45 ↔ ¬ c.toNat = 45 := fun c => by rw [Ne, ← UInt8.toNat_inj]; rfl
      rw [e0, e45, e45]
      constructor
      · rintro ⟨⟨⟨a1, a2⟩, a3⟩, a4⟩
        have p1 := bt_sg (l := t) (a := b) (e := j) (k := 0) (by omega) hj
        have p2 := bt_sg (l := t) (a := b) (e := j) (k := j - b - 1) (by omega) hj
        rw [show b + (j - b - 1) = j - 1 by omega] at p2
        exact ⟨a1, a2, by rw [p1] at a3; exact a3, by rw [p2] at a4; exact a4⟩
      · rintro ⟨a1, a2, a3, a4⟩
        have p1 := bt_sg (l := t) (a := b) (e := j) (k := 0) (by omega) hj
        have p2 := bt_sg (l := t) (a := b) (e := j) (k := j - b - 1) (by omega) hj
        rw [show b + (j - b - 1) = j - 1 by omega] at p2
        exact ⟨⟨⟨a1, a2⟩, by rw [p1]; exact a3⟩, by rw [p2]; exact a4⟩
    by_cases A : j < t.length ∧ ¬ (bt t j).toNat = 46
    · obtain ⟨A1, A2⟩ := A
      have A3 : bt t j ≠ 46 := fun e => A2 (by rw [e]; rfl)
      rw [drop_bt A1, splA, if_neg A3, sg_snoc hbj A1] at hJ
      have nxt : domOk (bt t j) = true → ∃ s' : Nat × Nat, t.length + 1 - s'.2 < t.length + 1 - j ∧ (b : Int) = s'.1 ∧ j + 1 = s'.2 ∧ i + 1 ≤ s'.1 ∧ s'.1 ≤ s'.2 ∧ ((s'.2 = t.length + 1 ∧ malL t = true) ∨ (s'.2 ≤ t.length ∧ (sg t s'.1 s'.2).all domOk = true ∧ malL t = (splA 46 (sg t s'.1 s'.2) (t.drop s'.2)).all okDom)) := by
        intro q
        refine ⟨(b, j + 1), by simp only; omega, rfl, rfl, hb1, by simp only; omega, .inr ⟨A1, ?_, hJ⟩⟩
        simp only
        rw [← sg_snoc hbj A1, List.all_append, hdom]
        simp [q]
      simp [g0, g5, g6, h1, hj, A1, idxB_nat A1, A2]
      refine (let1_sp (bt t j) h1).mono ?_
      rintro _ h6 ⟨rfl, rfl⟩
      cases hLi : isLet (bt t j) with
      | true =>
        simp [g0, g5, g6, h1, hwj]
        have := nxt (by unfold domOk; rw [hLi]; rfl)
        simpa using this
      | false =>
        simp [g0, g5, g6, h1, idxB_nat A1]
        refine (dig1_sp (bt t j) h1).mono ?_
        rintro _ h7 ⟨rfl, rfl⟩
        cases hDi : isDig (bt t j) with
        | true =>
          simp [g0, g5, g6, h1, hwj]
          have := nxt (by unfold domOk; rw [hLi, hDi]; rfl)
          simpa using this
        | false =>
          by_cases d : (bt t j).toNat = 45
          · simp [g0, g5, g6, h1, idxB_nat A1, eq_true d, hwj]
            have := nxt (by unfold domOk; rw [hLi, hDi, decide_eq_true d]; rfl)
            simpa using this
          · have hF : malL t = false := by
              rw [hJ]
              refine dom_bad (c := bt t j) (by unfold domOk; rw [hLi, hDi, decide_eq_false d]; rfl) _ _ ?_
              rw [← sg_snoc hbj A1]
              simp
            simp [g0, g5, g6, h1, idxB_nat A1, d, hF]
    · have hAB : (j < t.length ∧ (bt t j).toNat = 46) ∨ ¬ j < t.length := by
        by_cases z : j < t.length
        · exact .inl ⟨z, Classical.byContradiction fun q => A ⟨z, q⟩⟩
        · exact .inr z
      have hbad : ¬ okDom (sg t b j) = true → malL t = false := by
        intro q
        have q' : okDom (sg t b j) = false := by simpa using q
        rcases hAB with ⟨z1, z2⟩ | z1
        · have z3 : bt t j = 46 := UInt8.toNat_inj.1 z2
          rw [hJ, drop_bt z1, splA, if_pos z3, List.all_cons, q', Bool.false_and]
        · rw [hJ, List.drop_eq_nil_of_le (by omega), splA, List.all_cons, q', Bool.false_and]
      have hnx : okDom (sg t b j) = true → ∃ s' : Nat × Nat, t.length + 1 - s'.2 < t.length + 1 - j ∧ j + 1 = s'.1 ∧ j + 1 = s'.2 ∧ i + 1 ≤ s'.1 ∧ s'.1 ≤ s'.2 ∧ ((s'.2 = t.length + 1 ∧ malL t = true) ∨ (s'.2 ≤ t.length ∧ (sg t s'.1 s'.2).all domOk = true ∧ malL t = (splA 46 (sg t s'.1 s'.2) (t.drop s'.2)).all okDom)) := by
        intro q
        refine ⟨(j + 1, j + 1), by simp only; omega, rfl, rfl, by simp only; omega, Nat.le_refl _, ?_⟩
        rcases hAB with ⟨z1, z2⟩ | z1
        · have z3 : bt t j = 46 := UInt8.toNat_inj.1 z2
          refine .inr ⟨by simp only; omega, by rw [sg_nil (Nat.le_refl _)]; rfl, ?_⟩
          simp only
          rw [sg_nil (Nat.le_refl _), hJ, drop_bt z1, splA, if_pos z3, List.all_cons, q, Bool.true_and]
        · refine .inl ⟨by simp only; omega, ?_⟩
          rw [hJ, List.drop_eq_nil_of_le (by omega), splA, List.all_cons, q]
          rfl
      have hwb : IntKind.i64.wrap ((j : Int) - b) = (j : Int) - b := by rw [wrap_i64 (by omega) (by omega)]
      by_cases d1 : j = b
      · have hF := hbad (fun q => (hok.1 q).1 d1)
        have d1' : (j : Int) = b := by omega
        rcases hAB with ⟨z1, z2⟩ | z1
        · simp [g0, g5, g6, h1, hj, z1, idxB_nat z1, eq_true z2, eq_true d1', hF]
        · simp [g0, g5, g6, h1, hj, z1, eq_true d1', hF]
      have d1n : ¬ (j : Int) = b := by omega
      have hw1 : IntKind.i64.wrap ((j : Int) - 1) = ((j - 1 : Nat) : Int) := by rw [wrap_i64 (by omega) (by omega)]; omega
      by_cases d2 : (63 : Int) < (j : Int) - b
      · have hF := hbad (fun q => by have := (hok.1 q).2.1; omega)
        rcases hAB with ⟨z1, z2⟩ | z1
        · simp [g0, g5, g6, h1, hj, z1, idxB_nat z1, eq_true z2, d1n, hwb, d2, hF]
        · simp [g0, g5, g6, h1, hj, z1, d1n, hwb, d2, hF]
      by_cases d3 : (bt t b).toNat = 45
      · have hF := hbad (fun q => (hok.1 q).2.2.1 d3)
        rcases hAB with ⟨z1, z2⟩ | z1
        · simp [g0, g5, g6, h1, hj, z1, idxB_nat z1, eq_true z2, d1n, hwb, d2, idxB_nat (show b < t.length by omega), eq_true d3, hF]
        · simp [g0, g5, g6, h1, hj, z1, d1n, hwb, d2, idxB_nat (show b < t.length by omega), eq_true d3, hF]
      by_cases d4 : (bt t (j - 1)).toNat = 45
      · have hF := hbad (fun q => (hok.1 q).2.2.2 d4)
        rcases hAB with ⟨z1, z2⟩ | z1
        · simp [g0, g5, g6, h1, hj, z1, idxB_nat z1, eq_true z2, d1n, hwb, d2, idxB_nat (show b < t.length by omega), d3, hw1, idxB_nat (show j - 1 < t.length by omega), eq_true d4, hF]
        · simp [g0, g5, g6, h1, hj, z1, d1n, hwb, d2, idxB_nat (show b < t.length by omega), d3, hw1, idxB_nat (show j - 1 < t.length by omega), eq_true d4, hF]
      have hN := hnx (hok.2 ⟨d1, by omega, d3, d4⟩)
      rcases hAB with ⟨z1, z2⟩ | z1
      · simp [g0, g5, g6, h1, hj, z1, idxB_nat z1, eq_true z2, d1n, hwb, d2, idxB_nat (show b < t.length by omega), d3, hw1, idxB_nat (show j - 1 < t.length by omega), d4, hwj]
        simpa using hN
      · simp [g0, g5, g6, h1, hj, z1, d1n, hwb, d2, idxB_nat (show b < t.length by omega), d3, hw1, idxB_nat (show j - 1 < t.length by omega), d4, hwj]
        simpa using hN
end
end Go.Dm
