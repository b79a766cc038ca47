/- What stands at a place: the code's addresses, names, spans of code. -/
import Derived.Test.YthclahlplcfdpaaGreatDoorMdO
set_option linter.unusedVariables false
set_option linter.unusedSimpArgs false
namespace Go.Dm
open Go.Proofs
theorem tw_len_all (p : UInt8 → Bool) (s : List UInt8) : (s.takeWhile p).length = s.length ↔ s.all p = true := by
  induction s with
  | nil => simp
  | cons c s ih =>
    by_cases h : p c = true
    · rw [List.takeWhile_cons_of_pos h, List.all_cons, h, Bool.true_and]; simpa using ih
    · rw [List.takeWhile_cons_of_neg h, List.all_cons]; simp [h]
theorem tw_le (p : UInt8 → Bool) (s : List UInt8) : (s.takeWhile p).length ≤ s.length := (List.takeWhile_sublist p).length_le
section
variable {h : H}
theorem count_sp (s : List UInt8) (hs : s.length < 2 ^ 31) (f : Nat) (p : UInt8 → Bool) (hp : ∀ (c : UInt8) (h : H), h.one = [] → CallW E0 X0 (.fn f) [.int .u8 c.toNat] h (fun v h' => v = .bool (p c) ∧ h' = h)) (h1 : h.one = []) :
    CallW E0 X0 (.fn 97) [str s, .func (.func f) #[] #[]] h (fun v h' => v = .int .i64 (s.takeWhile p).length ∧ h' = h) := by
  refine CallW.body efn97 rfl rfl rfl [] (by kernel_rfl) ?_
  simp [Tryz.f97, h1]
  have hle := tw_le p s
  refine wpd_loop (fun (i : Nat) fr h' => fr.get 8 = some (.int .i64 i) ∧ h' = h ∧ i ≤ (s.takeWhile p).length) (fun i => s.length - i) 0 ⟨by simp, rfl, Nat.zero_le _⟩ ?_
  rintro i fr h2 ⟨g8, rfl, hi⟩ hf
  have g0 := hf 0 rfl
  have g1 := hf 1 rfl
  have g7 := hf 7 rfl
  simp at g0 g1 g7
  by_cases ci : i < s.length
  · simp [g0, g1, g7, g8, h1, ci, idxB_nat ci]
    refine (hp (bt s i) h2 h1).mono ?_
    rintro _ h3 ⟨rfl, rfl⟩
    cases hb : p (bt s i) with
    | true =>
      simp [g0, g1, g7, g8, h1, wrap_succ (show i < 9223372036854775807 by omega)]
      exact ⟨i + 1, by omega, by omega, tw_succ hi (bt_get ci) hb⟩
    | false =>
      have hN := tw_stop hi (bt_get ci) hb
      simp [g0, g1, g7, g8, h1, hN]
  · have hN : (s.takeWhile p).length = s.length := by omega
    simp [g0, g1, g7, g8, h1, ci, hN]
theorem acc1_sp (c : UInt8) (h : H) (h1 : h.one = []) : CallW E0 X0 (.fn 98) [.int .u8 c.toNat] h (fun v h' => v = .bool (c == 96) ∧ h' = h) := by
  refine CallW.body efn98 rfl rfl rfl [] (by kernel_rfl) ?_
  by_cases d : c = 96
  · have d' : c.toNat = 96 := by rw [d]; rfl
    simp [Tryz.f98, h1, eq_true d', d]
  · have d' : ¬ c.toNat = 96 := tn (by decide) d
    simp [Tryz.f98, h1, d', d]
theorem acc_sp (s : List UInt8) (hs : s.length < 2 ^ 31) (h1 : h.one = []) : CallW E0 X0 (.fn 62) [str s] h (fun v h' => v = .int .i64 (accN s : Nat) ∧ h' = h) := by
  refine CallW.body efn62 rfl rfl rfl [] (by kernel_rfl) ?_
  simp [Tryz.f62, h1]
  refine (count_sp s hs _ (· == 96) acc1_sp h1).mono ?_
  rintro _ h2 ⟨rfl, rfl⟩
  simp [h1, accN]
theorem code_sp (s : List UInt8) (hs : s.length < 2 ^ 31) (h0 : 0 < accN s) (h1 : h.one = []) : CallW E0 X0 (.fn 61) [str s] h (fun v h' => v = .int .i64 (codL s : Nat) ∧ h' = h) := by
  refine CallW.body efn61 rfl rfl rfl [] (by kernel_rfl) ?_
  simp [Tryz.f61, h1]
  refine (acc_sp s hs h1).mono ?_
  rintro _ h2 ⟨rfl, rfl⟩
  obtain ⟨n, hn⟩ : ∃ n, n = accN s := ⟨_, rfl⟩
  have hcd : codL s = codF s n (s.length + 1) n := by rw [hn]; rfl
  have hnl := accN_le s
  rw [← hn] at h0 hnl ⊢
  simp [h1]
  refine wpd_loop (fun (j : Nat) fr h' => fr.get 4 = some (.int .i64 j) ∧ h' = h2 ∧ codL s = codF s n (s.length + 1) j ∧ j ≤ 2 * s.length + 1) (fun j => s.length - j) n ⟨by simp, rfl, hcd, by omega⟩ ?_
  rintro j fr h3 ⟨g4, rfl, hI, hj2⟩ hf
  have g0 := hf 0 rfl
  have g3 := hf 3 rfl
  simp at g0 g3
  by_cases ci : j < s.length
  · have hjl : j ≤ s.length := by omega
    rw [codF_step s n _ j ci (by omega)] at hI
    simp [g0, g3, g4, h1, ci, hjl]
    refine (acc_sp (s.drop j) (by simp; omega) h1).mono ?_
    rintro _ h4 ⟨rfl, rfl⟩
    have hkl := accN_le (s.drop j)
    obtain ⟨k, hk⟩ : ∃ k, k = accN (s.drop j) := ⟨_, rfl⟩
    rw [← hk] at hI hkl ⊢
    simp at hkl
    by_cases q : k = n
    · rw [if_pos q] at hI
      have q' : (k : Int) = n := by omega
      have hw : IntKind.i64.wrap ((j : Int) + n) = (j : Int) + n := wrap_add (by omega)
      simp [g0, g3, g4, h1, eq_true q', hw, hI]
    · rw [if_neg q] at hI
      have q' : ¬ (k : Int) = n := by omega
      have hm : max (k : Int) 1 = ((max k 1 : Nat) : Int) := by omega
      have hw : IntKind.i64.wrap ((j : Int) + ((max k 1 : Nat) : Int)) = (j : Int) + ((max k 1 : Nat) : Int) := wrap_add (by omega)
      have hM : ∃ M : Nat, M = max k 1 := ⟨_, rfl⟩
      obtain ⟨M, hM⟩ := hM
      rw [← hM] at hm hw hI
      simp [g0, g3, g4, h1, q', maxI, hm, hw]
      exact ⟨j + M, by omega, by omega, hI, by omega⟩
  · rw [codF_end s n _ j (by omega)] at hI
    simp [g0, g3, g4, h1, ci, hI]
theorem sch1_sp (c : UInt8) (h : H) (h1 : h.one = []) : CallW E0 X0 (.fn 101) [.int .u8 c.toNat] h (fun v h' => v = .bool (schOk c) ∧ h' = h) := by
  refine CallW.body efn101 rfl rfl rfl [] (by kernel_rfl) ?_
  simp [Tryz.f101, h1]
  refine (let0_sp c h1).mono ?_
  rintro _ h2 ⟨rfl, rfl⟩
  unfold schOk
  cases hL : isLet c with
  | true => simp [h1]
  | false =>
    simp [h1]
    refine (dig0_sp c h1).mono ?_
    rintro _ h3 ⟨rfl, rfl⟩
    cases hD : isDig c with
    | true => simp [h1]
    | false =>
      simp [h1]
      refine (IndexByte_sp [43, 46, 45] c).mono ?_
      rintro _ h4 ⟨rfl, rfl⟩
      have hm := mem_ib [43, 46, 45] c
      by_cases z : 0 ≤ Lib.indexByte [43, 46, 45] c
      · have := hm.1 z
        simp at this
        simp [h1, z, this]
      · have := fun q => z (hm.2 q)
        simp at this
        simp [h1, z, this]
theorem sch2_sp (c : UInt8) (h : H) (h1 : h.one = []) : CallW E0 X0 (.fn 103) [.int .u8 c.toNat] h (fun v h' => v = .bool (resOk c) ∧ h' = h) := by
  refine CallW.body efn103 rfl rfl rfl [] (by kernel_rfl) ?_
  by_cases a1 : 32 < c.toNat <;> by_cases a2 : c.toNat = 60 <;> (try (exfalso; omega)) <;> by_cases a3 : c.toNat = 127 <;> (try (exfalso; omega))
  all_goals simp [Tryz.f103, h1, resOk, a1, a2, a3]
theorem mal1_sp (c : UInt8) (h : H) (h1 : h.one = []) : CallW E0 X0 (.fn 104) [.int .u8 c.toNat] h (fun v h' => v = .bool (malOk c) ∧ h' = h) := by
  refine CallW.body efn104 rfl rfl rfl [] (by kernel_rfl) ?_
  simp [Tryz.f104, h1]
  refine (let0_sp c h1).mono ?_
  rintro _ h2 ⟨rfl, rfl⟩
  unfold malOk
  cases hL : isLet c with
  | true => simp [h1]
  | false =>
    simp [h1]
    refine (dig0_sp c h1).mono ?_
    rintro _ h3 ⟨rfl, rfl⟩
    cases hD : isDig c with
    | true => simp [h1]
    | false =>
      by_cases d : c.toNat = 96
      · simp [h1, eq_true d]
      · simp [h1, d]
        refine (IndexByte_sp malB c).mono ?_
        rintro _ h4 ⟨rfl, rfl⟩
        have hm := mem_ib malB c
        by_cases z : 0 ≤ Lib.indexByte malB c
        · have := hm.1 z
          simp [h1, z, this]
        · have : ¬ c ∈ malB := fun q => z (hm.2 q)
          simp [h1, z, this]
theorem mal2_sp (c : UInt8) (h : H) (h1 : h.one = []) : CallW E0 X0 (.fn 106) [.int .u8 c.toNat] h (fun v h' => v = .bool (domOk c) ∧ h' = h) := by
  refine CallW.body efn106 rfl rfl rfl [] (by kernel_rfl) ?_
  simp [Tryz.f106, h1]
  refine (let0_sp c h1).mono ?_
  rintro _ h2 ⟨rfl, rfl⟩
  unfold domOk
  cases hL : isLet c with
  | true => simp [h1]
  | false =>
    simp [h1]
    refine (dig0_sp c h1).mono ?_
    rintro _ h3 ⟨rfl, rfl⟩
    cases hD : isDig c with
    | true => simp [h1]
    | false =>
      by_cases d : c.toNat = 45
      · simp [h1, eq_true d]
      · simp [h1, d]
theorem ent1_sp (c : UInt8) (h : H) (h1 : h.one = []) : CallW E0 X0 (.fn 109) [.int .u8 c.toNat] h (fun v h' => v = .bool (hexOk c) ∧ h' = h) := by
  refine CallW.body efn109 rfl rfl rfl [] (by kernel_rfl) ?_
  simp [Tryz.f109, h1]
  refine (dig0_sp c h1).mono ?_
  rintro _ h2 ⟨rfl, rfl⟩
  unfold hexOk
  cases hD : isDig c with
  | true => simp [h1]
  | false =>
    by_cases a1 : 97 ≤ c.toNat <;> by_cases a2 : c.toNat ≤ 102 <;> (try (exfalso; omega)) <;> by_cases a3 : 65 ≤ c.toNat <;> (try (exfalso; omega)) <;> by_cases a4 : c.toNat ≤ 70 <;> (try (exfalso; omega))
    all_goals simp [h1, a1, a2, a3, a4]
end
end Go.Dm
