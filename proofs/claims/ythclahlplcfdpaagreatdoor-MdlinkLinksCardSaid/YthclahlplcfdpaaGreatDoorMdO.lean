/- The reference: characters' names, and what stands at a place. -/
import Derived.Test.YthclahlplcfdpaaGreatDoorMdK
set_option linter.unusedVariables false
set_option linter.unusedSimpArgs false
namespace Go.Dm
open Go.Proofs
theorem mem_hex (c : UInt8) : c ∈ ([97, 98, 99, 100, 101, 102, 65, 66, 67, 68, 69, 70] : List UInt8) ↔ (97 ≤ c.toNat ∧ c.toNat ≤ 102) ∨ (65 ≤ c.toNat ∧ c.toNat ≤ 70) := by
  simp only [List.mem_cons, List.not_mem_nil, or_false, ← UInt8.toNat_inj]
  simp
  omega
theorem hexOk_eq (c : UInt8) : hexOk c = (isDig c || decide (c ∈ ([97, 98, 99, 100, 101, 102, 65, 66, 67, 68, 69, 70] : List UInt8))) := by
  unfold hexOk
  rw [Bool.or_assoc]
  congr 1
  rw [Bool.eq_iff_iff, decide_eq_true_eq, mem_hex]
  simp
theorem nms_get {i : Nat} (hi : i < 10) : (nmsL.map str)[i]? = some (str (nmsL[i]'(by simpa [nmsL] using hi))) := by
  rw [List.getElem?_map, List.getElem?_eq_getElem (by simpa [nmsL] using hi)]; rfl
/-- The number of a character: its digits. -/
theorem num_iff (u : List UInt8) (hx : Bool) (hh : hx = true ↔ (bt u 0 = 120 ∨ bt u 0 = 88)) (f m : Nat) (hf : f = if hx then 1 else 0) (hm : m = if hx then 6 else 7) :
    numL u = true ↔ (f < u.length ∧ u.length - f ≤ m) ∧ ∀ j, j < u.length → f ≤ j → (isDig (bt u j) || (hx && decide (bt u j ∈ ([97, 98, 99, 100, 101, 102, 65, 66, 67, 68, 69, 70] : List UInt8)))) = true := by
  unfold numL
  cases hx with
  | true =>
    rw [if_pos (hh.1 rfl)]
    simp only [if_true] at hf hm
    subst hf hm
    simp only [Bool.and_eq_true, decide_eq_true_eq, Bool.true_and]
    rw [← List.drop_one, all_drop_iff]
    simp only [← hexOk_eq, List.length_drop]
    rw [← List.length_pos_iff, List.length_drop]
    constructor
    · rintro ⟨⟨a, b⟩, c⟩; exact ⟨⟨by omega, b⟩, c⟩
    · rintro ⟨⟨a, b⟩, c⟩; exact ⟨⟨by omega, b⟩, c⟩
  | false =>
    rw [if_neg (fun q => by have := hh.2 q; cases this)]
    simp only [Bool.false_eq_true, if_false] at hf hm
    subst hf hm
    simp only [Bool.and_eq_true, decide_eq_true_eq, Bool.false_and, Bool.or_false]
    have := all_drop_iff u 0 isDig
    rw [List.drop_zero] at this
    rw [this, ← List.length_pos_iff]
    constructor
    · rintro ⟨⟨a, b⟩, c⟩; exact ⟨⟨a, by omega⟩, c⟩
    · rintro ⟨⟨a, b⟩, c⟩; exact ⟨⟨a, by omega⟩, c⟩
section
variable {h : H}
theorem Entity20_sp (t : List UInt8) (ht : t.length < 2 ^ 31) (h1 : h.one = []) : CallW E0 X0 (.fn 80) [str t] h (fun v h' => v = .bool (entL t) ∧ Fr h.next h h' ∧ h'.next ≤ h.next + 1) := by
  refine CallW.body efn80 rfl rfl rfl [] (by kernel_rfl) ?_
  simp [Tryz.f80, h1, zerosD, List.range, List.range.loop]
  have e0 : [str [97, 109, 112], str [108, 116], str [103, 116], str [113, 117, 111, 116], str [110, 98, 115, 112], str [99, 111, 112, 121], str [114, 101, 103], str [104, 101, 108, 108, 105, 112], str [109, 100, 97, 115, 104], str [110, 100, 97, 115, 104]] = nmsL.map str := rfl
  rw [e0]
  have hF2 : Fr h.next h (h.nw (.cells (nmsL.map str) 1 true 0 none)) := (Fr.refl h1).nw (Nat.le_refl _) _
  have hn2 : (h.nw (.cells (nmsL.map str) 1 true 0 none)).next ≤ h.next + 1 := by simp
  have hg2 : (h.nw (.cells (nmsL.map str) 1 true 0 none)).get h.next = some (.cells (nmsL.map str) 1 true 0 none) := by simp
  generalize (h.nw (.cells (nmsL.map str) 1 true 0 none)) = h2 at hF2 hn2 hg2 ⊢
  have h21 := hF2.one
  have hnl : nmsL.length = 10 := rfl
  refine wpd_loop (fun (i : Nat) fr h' => fr.get 4 = some (.int .i64 i) ∧ h' = h2 ∧ i ≤ 10 ∧ t ∉ nmsL.take i) (fun i => 10 - i) 0 ⟨by simp, rfl, Nat.zero_le _, by simp⟩ ?_
  rintro i fr h3 ⟨g4, rfl, hi, hI⟩ hf
  have g0 := hf 0 rfl
  have g3 := hf 3 rfl
  simp at g0 g3
  by_cases ci : i < 10
  · have hil : i < nmsL.length := by omega
    have hget : (nmsL.map str)[i]'(by simpa using hil) = str nmsL[i] := by simp
    have hml : (nmsL.map str).length = 10 := rfl
    by_cases ce : nmsL[i] = t
    · have hm : t ∈ nmsL := ce ▸ List.getElem_mem hil
      have hT : entL t = true := by
        unfold entL
        rw [if_neg, decide_eq_true hm]
        intro q
        simp only [nmsL, List.mem_cons, List.not_mem_nil, or_false] at hm
        rcases hm with rfl | rfl | rfl | rfl | rfl | rfl | rfl | rfl | rfl | rfl <;> exact absurd q (by decide)
      simp [g0, g3, g4, h21, ci, hg2, hget, hml, ce, hT, hF2, hn2]
    · simp [g0, g3, g4, h21, ci, hg2, hget, hml, ce, wrap_succ (show i < 9223372036854775807 by omega)]
      refine ⟨i + 1, by omega, by omega, by omega, ?_⟩
      rw [List.take_succ_eq_append_getElem hil, List.mem_append]
      rintro (q | q)
      · exact hI q
      · simp at q; exact ce q.symm
  · have hm : t ∉ nmsL := by rw [List.take_of_length_le (by omega)] at hI; exact hI
    simp [g0, g3, g4, h21, ci]
    have hnm : ∀ q : ¬ bt t 0 = 35, entL t = false := fun q => by unfold entL; rw [if_neg q, decide_eq_false hm]
    by_cases c2 : t.length < 2
    · have hB : entL t = false := by
        by_cases q : bt t 0 = 35
        · unfold entL
          rw [if_pos q]
          have : t.tail = [] := by
            match t, c2 with
            | [], _ => rfl
            | [_], _ => rfl
            | _ :: _ :: _, h => simp at h; omega
          rw [this]
          rfl
        · exact hnm q
      simp [g0, g3, h21, c2, hB, hF2, hn2]
    have hi0 : idxB t 0 = some (.int .u8 (bt t 0).toNat) := idxB_nat (k := 0) (by omega)
    have hi1 : idxB t 1 = some (.int .u8 (bt t 1).toNat) := idxB_nat (k := 1) (by omega)
    by_cases c35 : (bt t 0).toNat = 35
    rotate_left
    · have hB := hnm (fun q => c35 (by rw [q]; rfl))
      simp [g0, g3, h21, c2, hi0, c35, hB, hF2, hn2]
    have hE : entL t = numL t.tail := by unfold entL; rw [if_pos (UInt8.toNat_inj.1 c35)]
    obtain ⟨u, hu⟩ : ∃ u, u = t.tail := ⟨_, rfl⟩
    rw [← hu] at hE
    have htu : u = t.drop 1 := by rw [hu, List.drop_one]
    have hul : u.length + 1 = t.length := by rw [hu, List.length_tail]; omega
    have hbu : bt u 0 = bt t 1 := by rw [htu]; simp [bt]
    clear hI ci hf g4
    by_cases x120 : (bt t 1).toNat = 120
    · have HH : bt t 1 = 120 := UInt8.toNat_inj.1 x120
      have hiff := num_iff u true (by simp [hbu, HH]) 1 6 rfl rfl
      simp [g0, g3, h21, c2, hi0, eq_true c35, hi1, eq_true x120]
      refine wpd_loop (fun (i : Nat) fr h' => fr.get 8 = some (.int .i64 i) ∧ h' = h3 ∧ 2 ≤ i ∧ i ≤ t.length ∧ ∀ j, 1 ≤ j → j + 1 < i → (isDig (bt u j) || (true && decide (bt u j ∈ ([97, 98, 99, 100, 101, 102, 65, 66, 67, 68, 69, 70] : List UInt8)))) = true) (fun i => t.length - i) 2 ⟨by simp, rfl, Nat.le_refl _, by omega, fun j q1 q2 => by omega⟩ ?_
      rintro i fr2 h4 ⟨g8, rfl, hi1', hi', hJ⟩ hf2
      have k0 : fr2.get 0 = some (str t) := by
        have q := hf2 0 rfl
        simp at q
        rw [q, g0]
      have k5 := hf2 5 rfl
      have k6 := hf2 6 rfl
      have k7 := hf2 7 rfl
      simp at k5 k6 k7
      by_cases ci2 : i < t.length
      · have hbi : bt u (i - 1) = bt t i := by rw [htu]; obtain ⟨m, rfl⟩ : ∃ m, i = m + 1 := ⟨i - 1, by omega⟩; simp [bt]
        have hw : IntKind.i64.wrap ((i : Int) + 1) = (i : Int) + 1 := wrap_succ (by omega)
        have nxt : (isDig (bt t i) || (true && decide (bt t i ∈ ([97, 98, 99, 100, 101, 102, 65, 66, 67, 68, 69, 70] : List UInt8)))) = true → ∀ j, 1 ≤ j → j + 1 < i + 1 → (isDig (bt u j) || (true && decide (bt u j ∈ ([97, 98, 99, 100, 101, 102, 65, 66, 67, 68, 69, 70] : List UInt8)))) = true := by
          intro q j q1 q2
          rcases Nat.lt_or_ge (j + 1) i with q3 | q3
          · exact hJ j q1 q3
          · obtain rfl : j = i - 1 := by omega
            rw [hbi]; exact q
        have bad : ¬ (isDig (bt t i) || (true && decide (bt t i ∈ ([97, 98, 99, 100, 101, 102, 65, 66, 67, 68, 69, 70] : List UInt8)))) = true → numL u = false := by
          intro q
          cases hq : numL u with
          | false => rfl
          | true => exact absurd (by have := (hiff.1 hq).2 (i - 1) (by omega) (by omega); rwa [hbi] at this) q
        simp [k0, k5, k6, k7, g8, h21, ci2, idxB_nat ci2]
        refine (dig1_sp (bt t i) h21).mono ?_
        rintro _ h5 ⟨rfl, rfl⟩
        cases hD : isDig (bt t i) with
        | true =>
          have hN := nxt (by rw [hD]; rfl)
          simp [k0, k5, k6, k7, g8, h21, hw]
          exact ⟨i + 1, by omega, by omega, by omega, by omega, by simpa using hN⟩
        | false =>
          simp [k0, k5, k6, k7, g8, h21, idxB_nat ci2]
          refine (in_sp (bt t i) [97, 98, 99, 100, 101, 102, 65, 66, 67, 68, 69, 70] (by decide) h21).mono ?_
          rintro _ h6 ⟨rfl, rfl⟩
          by_cases hm2 : bt t i ∈ ([97, 98, 99, 100, 101, 102, 65, 66, 67, 68, 69, 70] : List UInt8)
          · have hN := nxt (by rw [hD, decide_eq_true hm2]; rfl)
            rw [decide_eq_true hm2]
            simp [k0, k5, k6, k7, g8, h21, hw]
            exact ⟨i + 1, by omega, by omega, by omega, by omega, by simpa using hN⟩
          · have hB := bad (by rw [hD, decide_eq_false hm2]; decide)
            rw [decide_eq_false hm2]
            simp [k0, k5, k6, k7, g8, h21, hE, hB, hF2, hn2]
      · have hall : ∀ j, j < u.length → 1 ≤ j → (isDig (bt u j) || (true && decide (bt u j ∈ ([97, 98, 99, 100, 101, 102, 65, 66, 67, 68, 69, 70] : List UInt8)))) = true := fun j q1 q2 => hJ j q2 (by omega)
        have hws : IntKind.i64.wrap ((t.length : Int) - 2) = (t.length : Int) - 2 := wrap_i64 (by omega) (by omega)
        by_cases d1 : 2 < t.length
        · by_cases d2 : (t.length : Int) - 2 ≤ 6
          · have hT : numL u = true := hiff.2 ⟨⟨by omega, by omega⟩, hall⟩
            simp [k0, k5, k6, k7, g8, h21, ci2, d1, hws, d2, hE, hT, hF2, hn2]
          · have hB : numL u = false := by
              cases hq : numL u with
              | false => rfl
              | true => have := (hiff.1 hq).1.2; omega
            simp [k0, k5, k6, k7, g8, h21, ci2, d1, hws, d2, hE, hB, hF2, hn2]
        · have hB : numL u = false := by
            cases hq : numL u with
            | false => rfl
            | true => have := (hiff.1 hq).1.1; omega
          simp [k0, k5, k6, k7, g8, h21, ci2, d1, hE, hB, hF2, hn2]
    by_cases x88 : (bt t 1).toNat = 88
    · have HH : bt t 1 = 88 := UInt8.toNat_inj.1 x88
      have hiff := num_iff u true (by simp [hbu, HH]) 1 6 rfl rfl
      simp [g0, g3, h21, c2, hi0, eq_true c35, hi1, x120, eq_true x88]
      refine wpd_loop (fun (i : Nat) fr h' => fr.get 8 = some (.int .i64 i) ∧ h' = h3 ∧ 2 ≤ i ∧ i ≤ t.length ∧ ∀ j, 1 ≤ j → j + 1 < i → (isDig (bt u j) || (true && decide (bt u j ∈ ([97, 98, 99, 100, 101, 102, 65, 66, 67, 68, 69, 70] : List UInt8)))) = true) (fun i => t.length - i) 2 ⟨by simp, rfl, Nat.le_refl _, by omega, fun j q1 q2 => by omega⟩ ?_
      rintro i fr2 h4 ⟨g8, rfl, hi1', hi', hJ⟩ hf2
      have k0 : fr2.get 0 = some (str t) := by
        have q := hf2 0 rfl
        simp at q
        rw [q, g0]
      have k5 := hf2 5 rfl
      have k6 := hf2 6 rfl
      have k7 := hf2 7 rfl
      simp at k5 k6 k7
      by_cases ci2 : i < t.length
      · have hbi : bt u (i - 1) = bt t i := by rw [htu]; obtain ⟨m, rfl⟩ : ∃ m, i = m + 1 := ⟨i - 1, by omega⟩; simp [bt]
        have hw : IntKind.i64.wrap ((i : Int) + 1) = (i : Int) + 1 := wrap_succ (by omega)
        have nxt : (isDig (bt t i) || (true && decide (bt t i ∈ ([97, 98, 99, 100, 101, 102, 65, 66, 67, 68, 69, 70] : List UInt8)))) = true → ∀ j, 1 ≤ j → j + 1 < i + 1 → (isDig (bt u j) || (true && decide (bt u j ∈ ([97, 98, 99, 100, 101, 102, 65, 66, 67, 68, 69, 70] : List UInt8)))) = true := by
          intro q j q1 q2
          rcases Nat.lt_or_ge (j + 1) i with q3 | q3
          · exact hJ j q1 q3
          · obtain rfl : j = i - 1 := by omega
            rw [hbi]; exact q
        have bad : ¬ (isDig (bt t i) || (true && decide (bt t i ∈ ([97, 98, 99, 100, 101, 102, 65, 66, 67, 68, 69, 70] : List UInt8)))) = true → numL u = false := by
          intro q
          cases hq : numL u with
          | false => rfl
          | true => exact absurd (by have := (hiff.1 hq).2 (i - 1) (by omega) (by omega); rwa [hbi] at this) q
        simp [k0, k5, k6, k7, g8, h21, ci2, idxB_nat ci2]
        refine (dig1_sp (bt t i) h21).mono ?_
        rintro _ h5 ⟨rfl, rfl⟩
        cases hD : isDig (bt t i) with
        | true =>
          have hN := nxt (by rw [hD]; rfl)
          simp [k0, k5, k6, k7, g8, h21, hw]
          exact ⟨i + 1, by omega, by omega, by omega, by omega, by simpa using hN⟩
        | false =>
          simp [k0, k5, k6, k7, g8, h21, idxB_nat ci2]
          refine (in_sp (bt t i) [97, 98, 99, 100, 101, 102, 65, 66, 67, 68, 69, 70] (by decide) h21).mono ?_
          rintro _ h6 ⟨rfl, rfl⟩
          by_cases hm2 : bt t i ∈ ([97, 98, 99, 100, 101, 102, 65, 66, 67, 68, 69, 70] : List UInt8)
          · have hN := nxt (by rw [hD, decide_eq_true hm2]; rfl)
            rw [decide_eq_true hm2]
            simp [k0, k5, k6, k7, g8, h21, hw]
            exact ⟨i + 1, by omega, by omega, by omega, by omega, by simpa using hN⟩
          · have hB := bad (by rw [hD, decide_eq_false hm2]; decide)
            rw [decide_eq_false hm2]
            simp [k0, k5, k6, k7, g8, h21, hE, hB, hF2, hn2]
      · have hall : ∀ j, j < u.length → 1 ≤ j → (isDig (bt u j) || (true && decide (bt u j ∈ ([97, 98, 99, 100, 101, 102, 65, 66, 67, 68, 69, 70] : List UInt8)))) = true := fun j q1 q2 => hJ j q2 (by omega)
        have hws : IntKind.i64.wrap ((t.length : Int) - 2) = (t.length : Int) - 2 := wrap_i64 (by omega) (by omega)
        by_cases d1 : 2 < t.length
        · by_cases d2 : (t.length : Int) - 2 ≤ 6
          · have hT : numL u = true := hiff.2 ⟨⟨by omega, by omega⟩, hall⟩
            simp [k0, k5, k6, k7, g8, h21, ci2, d1, hws, d2, hE, hT, hF2, hn2]
          · have hB : numL u = false := by
              cases hq : numL u with
              | false => rfl
              | true => have := (hiff.1 hq).1.2; omega
            simp [k0, k5, k6, k7, g8, h21, ci2, d1, hws, d2, hE, hB, hF2, hn2]
        · have hB : numL u = false := by
            cases hq : numL u with
            | false => rfl
            | true => have := (hiff.1 hq).1.1; omega
          simp [k0, k5, k6, k7, g8, h21, ci2, d1, hE, hB, hF2, hn2]
    have HH1 : ¬ bt t 1 = 120 := fun q => x120 (by rw [q]; rfl)
    have HH2 : ¬ bt t 1 = 88 := fun q => x88 (by rw [q]; rfl)
    have HH : ¬ (bt t 1 = 120 ∨ bt t 1 = 88) := fun q => q.elim HH1 HH2
    have hiff := num_iff u false (by simp [hbu, HH]) 0 7 rfl rfl
    simp [g0, g3, h21, c2, hi0, eq_true c35, hi1, x120, x88]
    refine wpd_loop (fun (i : Nat) fr h' => fr.get 8 = some (.int .i64 i) ∧ h' = h3 ∧ 1 ≤ i ∧ i ≤ t.length ∧ ∀ j, 0 ≤ j → j + 1 < i → (isDig (bt u j) || (false && decide (bt u j ∈ ([97, 98, 99, 100, 101, 102, 65, 66, 67, 68, 69, 70] : List UInt8)))) = true) (fun i => t.length - i) 1 ⟨by simp, rfl, Nat.le_refl _, by omega, fun j q1 q2 => by omega⟩ ?_
    rintro i fr2 h4 ⟨g8, rfl, hi1', hi', hJ⟩ hf2
    have k0 : fr2.get 0 = some (str t) := by
      have q := hf2 0 rfl
      simp at q
      rw [q, g0]
    have k5 := hf2 5 rfl
    have k6 := hf2 6 rfl
    have k7 := hf2 7 rfl
    simp at k5 k6 k7
    by_cases ci2 : i < t.length
    · have hbi : bt u (i - 1) = bt t i := by rw [htu]; obtain ⟨m, rfl⟩ : ∃ m, i = m + 1 := ⟨i - 1, by omega⟩; simp [bt]
      have hw : IntKind.i64.wrap ((i : Int) + 1) = (i : Int) + 1 := wrap_succ (by omega)
      have nxt : (isDig (bt t i) || (false && decide (bt t i ∈ ([97, 98, 99, 100, 101, 102, 65, 66, 67, 68, 69, 70] : List UInt8)))) = true → ∀ j, 0 ≤ j → j + 1 < i + 1 → (isDig (bt u j) || (false && decide (bt u j ∈ ([97, 98, 99, 100, 101, 102, 65, 66, 67, 68, 69, 70] : List UInt8)))) = true := by
        intro q j q1 q2
        rcases Nat.lt_or_ge (j + 1) i with q3 | q3
        · exact hJ j q1 q3
        · obtain rfl : j = i - 1 := by omega
          rw [hbi]; exact q
      have bad : ¬ (isDig (bt t i) || (false && decide (bt t i ∈ ([97, 98, 99, 100, 101, 102, 65, 66, 67, 68, 69, 70] : List UInt8)))) = true → numL u = false := by
        intro q
        cases hq : numL u with
        | false => rfl
        | true => exact absurd (by have := (hiff.1 hq).2 (i - 1) (by omega) (by omega); rwa [hbi] at this) q
      simp [k0, k5, k6, k7, g8, h21, ci2, idxB_nat ci2]
      refine (dig1_sp (bt t i) h21).mono ?_
      rintro _ h5 ⟨rfl, rfl⟩
      cases hD : isDig (bt t i) with
      | true =>
        have hN := nxt (by rw [hD]; rfl)
        simp [k0, k5, k6, k7, g8, h21, hw]
        exact ⟨i + 1, by omega, by omega, by omega, by omega, by simpa using hN⟩
      | false =>
        have hB := bad (by rw [hD]; simp)
        simp [k0, k5, k6, k7, g8, h21, hE, hB, hF2, hn2]
    · have hall : ∀ j, j < u.length → 0 ≤ j → (isDig (bt u j) || (false && decide (bt u j ∈ ([97, 98, 99, 100, 101, 102, 65, 66, 67, 68, 69, 70] : List UInt8)))) = true := fun j q1 q2 => hJ j q2 (by omega)
      have hws : IntKind.i64.wrap ((t.length : Int) - 1) = (t.length : Int) - 1 := wrap_i64 (by omega) (by omega)
      by_cases d1 : 1 < t.length
      · by_cases d2 : (t.length : Int) - 1 ≤ 7
        · have hT : numL u = true := hiff.2 ⟨⟨by omega, by omega⟩, hall⟩
          simp [k0, k5, k6, k7, g8, h21, ci2, d1, hws, d2, hE, hT, hF2, hn2]
        · have hB : numL u = false := by
            cases hq : numL u with
            | false => rfl
            | true => have := (hiff.1 hq).1.2; omega
          simp [k0, k5, k6, k7, g8, h21, ci2, d1, hws, d2, hE, hB, hF2, hn2]
      · have hB : numL u = false := by
          cases hq : numL u with
          | false => rfl
          | true => have := (hiff.1 hq).1.1; omega
        simp [k0, k5, k6, k7, g8, h21, ci2, d1, hE, hB, hF2, hn2]
end
end Go.Dm
