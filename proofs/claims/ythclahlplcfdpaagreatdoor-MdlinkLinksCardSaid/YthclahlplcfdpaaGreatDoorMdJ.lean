/- The reference's bytes, rows, finds, code. -/
import Derived.Test.YthclahlplcfdpaaGreatDoorMdI
set_option linter.unusedVariables false
set_option linter.unusedSimpArgs false
namespace Go.Dm
open Go.Proofs
section
variable {h : H}
theorem let0_sp (c : UInt8) (h1 : h.one = []) : CallW E0 X0 (.fn 100) [.int .u8 c.toNat] h (fun v h' => v = .bool (isLet c) ∧ h' = h) := by
  refine CallW.body efn100 rfl rfl rfl [] (by kernel_rfl) ?_
  by_cases a1 : 97 ≤ c.toNat <;> by_cases a2 : c.toNat ≤ 122 <;> (try (exfalso; omega)) <;> by_cases a3 : 65 ≤ c.toNat <;> (try (exfalso; omega)) <;> by_cases a4 : c.toNat ≤ 90 <;> (try (exfalso; omega))
  all_goals simp [Tryz.f100, h1, isLet, a1, a2, a3, a4]
theorem let1_sp (c : UInt8) (h1 : h.one = []) : CallW E0 X0 (.fn 129) [.int .u8 c.toNat] h (fun v h' => v = .bool (isLet c) ∧ h' = h) := by
  refine CallW.body efn129 rfl rfl rfl [] (by kernel_rfl) ?_
  by_cases a1 : 97 ≤ c.toNat <;> by_cases a2 : c.toNat ≤ 122 <;> (try (exfalso; omega)) <;> by_cases a3 : 65 ≤ c.toNat <;> (try (exfalso; omega)) <;> by_cases a4 : c.toNat ≤ 90 <;> (try (exfalso; omega))
  all_goals simp [Tryz.f129, h1, isLet, a1, a2, a3, a4]
theorem dig0_sp (c : UInt8) (h1 : h.one = []) : CallW E0 X0 (.fn 102) [.int .u8 c.toNat] h (fun v h' => v = .bool (isDig c) ∧ h' = h) := by
  refine CallW.body efn102 rfl rfl rfl [] (by kernel_rfl) ?_
  by_cases a1 : 48 ≤ c.toNat <;> by_cases a2 : c.toNat ≤ 57 <;> (try (exfalso; omega))
  all_goals simp [Tryz.f102, h1, isDig, a1, a2]
theorem dig1_sp (c : UInt8) (h1 : h.one = []) : CallW E0 X0 (.fn 130) [.int .u8 c.toNat] h (fun v h' => v = .bool (isDig c) ∧ h' = h) := by
  refine CallW.body efn130 rfl rfl rfl [] (by kernel_rfl) ?_
  by_cases a1 : 48 ≤ c.toNat <;> by_cases a2 : c.toNat ≤ 57 <;> (try (exfalso; omega))
  all_goals simp [Tryz.f130, h1, isDig, a1, a2]
theorem in_take_succ {s : List UInt8} {c : UInt8} {i : Nat} (hi : i < s.length) : c ∈ s.take (i + 1) ↔ c ∈ s.take i ∨ c = bt s i := by
  have e : s[i] = bt s i := by unfold bt; rw [List.getD_eq_getElem?_getD, List.getElem?_eq_getElem hi]; rfl
  rw [List.take_succ_eq_append_getElem hi, List.mem_append, e]
  simp
theorem in_sp (c : UInt8) (s : List UInt8) (hs : s.length < 2 ^ 31) (h1 : h.one = []) : CallW E0 X0 (.fn 131) [.int .u8 c.toNat, str s] h (fun v h' => v = .bool (decide (c ∈ s)) ∧ h' = h) := by
  refine CallW.body efn131 rfl rfl rfl [] (by kernel_rfl) ?_
  simp [Tryz.f131, h1]
  refine wpd_loop (fun (i : Nat) fr h' => fr.get 5 = some (.int .i64 i) ∧ h' = h ∧ i ≤ s.length ∧ c ∉ s.take i) (fun i => s.length - i) 0 ⟨by simp, rfl, Nat.zero_le _, by simp⟩ ?_
  rintro i fr h2 ⟨g5, rfl, hi, hI⟩ hf
  have g0 := hf 0 rfl
  have g1 := hf 1 rfl
  simp at g0 g1
  by_cases ci : i < s.length
  · by_cases cc : bt s i = c
    · have hm : c ∈ s := by
        have : c ∈ s.take (i + 1) := (in_take_succ ci).2 (.inr cc.symm)
        exact List.mem_of_mem_take this
      have cc' : ((bt s i).toNat : Int) = c.toNat := by rw [cc]
      simp [g0, g1, g5, h1, ci, idxB_nat ci, eq_true cc', hm]
    · have cc' : ¬ ((bt s i).toNat : Int) = c.toNat := fun q => cc (UInt8.toNat_inj.1 (by omega))
      simp [g0, g1, g5, h1, ci, idxB_nat ci, cc', wrap_succ (show i < 9223372036854775807 by omega)]
      exact ⟨i + 1, by omega, by omega, by omega, fun q => by rcases (in_take_succ ci).1 q with q | q; exact hI q; exact cc q.symm⟩
  · have hm : c ∉ s := by rw [List.take_of_length_le (by omega)] at hI; exact hI
    simp [g0, g1, g5, h1, ci, hm]
theorem row_sp (l : List UInt8) (hl : l.length < 2 ^ 31) (a e : Nat) (he : e ≤ l.length) (hae : a ≤ e) (h1 : h.one = []) : CallW E0 X0 (.fn 76) [str l, .int .i64 a, .int .i64 e] h (fun v h' => v = .int .i64 ((a + accN (sg l a e) : Nat) : Int) ∧ h' = h) := by
  refine CallW.body efn76 rfl rfl rfl [] (by kernel_rfl) ?_
  simp [Tryz.f76, h1]
  have hU := sg_len l a e he
  have hsl := accN_le (sg l a e)
  refine wpd_loop (fun (i : Nat) fr h' => fr.get 1 = some (.int .i64 ((a + i : Nat) : Int)) ∧ h' = h ∧ i ≤ accN (sg l a e)) (fun i => e - a - i) 0 ⟨by simp, rfl, Nat.zero_le _⟩ ?_
  rintro i fr h3 ⟨g1, rfl, hi⟩ hf
  have g0 := hf 0 rfl
  have g2 := hf 2 rfl
  simp at g0 g2 g1
  by_cases ci : a + i < e
  · have hix : idxB l ((a : Int) + i) = some (.int .u8 (bt l (a + i)).toNat) := by have := idxB_nat (l := l) (k := a + i) (by omega); simpa using this
    have ci' : (a : Int) + i < e := by omega
    have hb := bt_get (l := sg l a e) (k := i) (by omega)
    rw [bt_sg ci he] at hb
    by_cases c : bt l (a + i) = 96
    · have hw : IntKind.i64.wrap ((a : Int) + i + 1) = (a : Int) + i + 1 := by rw [wrap_i64 (by omega) (by omega)]
      simp [g0, g1, g2, h1, ci', hix, c, hw]
      exact ⟨i + 1, by omega, by omega, tw_succ hi hb (by simp [c])⟩
    · have c' : ¬ (bt l (a + i)).toNat = 96 := tn (by decide) c
      have hN : accN (sg l a e) = i := tw_stop hi hb (by simpa using c)
      simp [g0, g1, g2, h1, ci', hix, c', hN]
  · have hN : accN (sg l a e) = i := by unfold accN at hi hsl ⊢; omega
    have ci' : ¬ (a : Int) + i < e := by omega
    simp [g0, g1, g2, h1, ci', hN]
/-- The place of a byte. -/
def plT (s : List UInt8) (c : UInt8) (a : Nat) : Int := if (s.takeWhile (· != c)).length < s.length then ((a + (s.takeWhile (· != c)).length : Nat) : Int) else -1
theorem find20_sp (l : List UInt8) (hl : l.length < 2 ^ 31) (a e : Nat) (he : e ≤ l.length) (hae : a ≤ e) (c : UInt8) (h1 : h.one = []) : CallW E0 X0 (.fn 77) [str l, .int .i64 a, .int .i64 e, .int .u8 c.toNat] h (fun v h' => v = .int .i64 (plT (sg l a e) c a) ∧ h' = h) := by
  refine CallW.body efn77 rfl rfl rfl [] (by kernel_rfl) ?_
  simp [Tryz.f77, h1]
  have hU := sg_len l a e he
  have hsl := (List.takeWhile_sublist (· != c) (l := sg l a e)).length_le
  refine wpd_loop (fun (i : Nat) fr h' => fr.get 9 = some (.int .i64 ((a + i : Nat) : Int)) ∧ h' = h ∧ i ≤ ((sg l a e).takeWhile (· != c)).length) (fun i => e - a - i) 0 ⟨by simp, rfl, Nat.zero_le _⟩ ?_
  rintro i fr h3 ⟨g9, rfl, hi⟩ hf
  have g0 := hf 0 rfl
  have g2 := hf 2 rfl
  have g3 := hf 3 rfl
  simp at g0 g2 g3 g9
  by_cases ci : a + i < e
  · have hix : idxB l ((a : Int) + i) = some (.int .u8 (bt l (a + i)).toNat) := by have := idxB_nat (l := l) (k := a + i) (by omega); simpa using this
    have ci' : (a : Int) + i < e := by omega
    have hb := bt_get (l := sg l a e) (k := i) (by omega)
    rw [bt_sg ci he] at hb
    by_cases d : bt l (a + i) = c
    · have d' : ((bt l (a + i)).toNat : Int) = c.toNat := by rw [d]
      have hN : ((sg l a e).takeWhile (· != c)).length = i := tw_stop hi hb (by simpa using d)
      simp [g0, g9, g2, g3, h1, ci', hix, eq_true d', plT, hN, hU]
      omega
    · have d' : ¬ ((bt l (a + i)).toNat : Int) = c.toNat := fun q => d (UInt8.toNat_inj.1 (by omega))
      have hw : IntKind.i64.wrap ((a : Int) + i + 1) = (a : Int) + i + 1 := by rw [wrap_i64 (by omega) (by omega)]
      simp [g0, g9, g2, g3, h1, ci', hix, d', hw]
      exact ⟨i + 1, by omega, by omega, tw_succ hi hb (by simpa using d)⟩
  · have ci' : ¬ (a : Int) + i < e := by omega
    simp [g0, g9, g2, g3, h1, ci', plT, hU]
    omega
theorem code20_sp (l : List UInt8) (hl : l.length < 2 ^ 31) (a e : Nat) (he : e ≤ l.length) (hae : a < e) (h96 : bt l a = 96) (h1 : h.one = []) : CallW E0 X0 (.fn 75) [str l, .int .i64 a, .int .i64 e] h (fun v h' => v = .int .i64 (if codL (sg l a e) = 0 then 0 else ((a + codL (sg l a e) : Nat) : Int)) ∧ h' = h) := by
  refine CallW.body efn75 rfl rfl rfl [] (by kernel_rfl) ?_
  simp [Tryz.f75, h1]
  refine (row_sp l hl a e he (by omega) h1).mono ?_
  rintro _ h2 ⟨rfl, rfl⟩
  obtain ⟨U, hUd⟩ : ∃ U, U = sg l a e := ⟨_, rfl⟩
  have hU := sg_len l a e he
  have hn0 : 0 < accN (sg l a e) := by rw [sg_cons hae he, h96]; unfold accN; rw [List.takeWhile_cons_of_pos (by rfl)]; simp
  have hsl := accN_le (sg l a e)
  rw [← hUd] at hU hn0 hsl ⊢
  obtain ⟨n, hn⟩ : ∃ n, n = accN U := ⟨_, rfl⟩
  have hcd : codL U = codF U n (U.length + 1) n := by rw [hn]; rfl
  rw [← hn] at hn0 hsl ⊢
  simp [h1]
  refine wpd_loop (fun (j : Nat) fr h' => fr.get 8 = some (.int .i64 ((a + j : Nat) : Int)) ∧ h' = h2 ∧ n ≤ j ∧ j ≤ U.length ∧ codL U = codF U n (U.length + 1) j) (fun j => U.length - j) n ⟨by simp, rfl, Nat.le_refl _, hsl, hcd⟩ ?_
  rintro j fr h3 ⟨g8, rfl, hnj, hj, hI⟩ hf
  have g0 := hf 0 rfl
  have g1 := hf 1 rfl
  have g2 := hf 2 rfl
  have g7 := hf 7 rfl
  simp at g0 g1 g2 g7 g8
  by_cases ci : j < U.length
  · have ci' : (a : Int) + j < e := by omega
    have ci2 : a + j < e := by omega
    have hix : idxB l ((a : Int) + j) = some (.int .u8 (bt l (a + j)).toNat) := by have := idxB_nat (l := l) (k := a + j) (by omega); simpa using this
    have hd : U.drop j = sg l (a + j) e := by rw [hUd, sg_drop]
    rw [codF_step U n _ j ci (by omega), hd] at hI
    by_cases d : bt l (a + j) = 96
    · have hk0 : 0 < accN (sg l (a + j) e) := by rw [sg_cons ci2 he, d]; unfold accN; rw [List.takeWhile_cons_of_pos (by rfl)]; simp
      have hkl := accN_le (sg l (a + j) e)
      rw [sg_len _ _ _ he] at hkl
      simp [g0, g1, g2, g7, g8, h1, ci', hix, d]
      refine (row_sp l hl (a + j) e he (by omega) h1).mono ?_ |> fun x => by simpa using x
      rintro _ h4 ⟨rfl, rfl⟩
      obtain ⟨k, hk⟩ : ∃ k, k = accN (sg l (a + j) e) := ⟨_, rfl⟩
      rw [← hk] at hk0 hkl hI ⊢
      have w1 : IntKind.i64.wrap ((a : Int) + j + k - (a + j)) = k := by rw [wrap_i64 (by omega) (by omega)]; omega
      have w2 : IntKind.i64.wrap ((a : Int) + n - a) = n := by rw [wrap_i64 (by omega) (by omega)]; omega
      have w3 : IntKind.i64.wrap (n : Int) = n := wrap_i64 (by omega) (by omega)
      by_cases q : k = n
      · rw [if_pos q] at hI
        subst q
        simp [g0, g1, g2, g7, g8, h1, w1, w2, w3]
        rw [hI, if_neg (by omega)]
        omega
      · rw [if_neg q] at hI
        have q' : ¬ (k : Int) = n := by omega
        simp [g0, g1, g2, g7, g8, h1, w1, w2, w3, q']
        exact ⟨j + k, by omega, by omega, by omega, by omega, by rw [hI, Nat.max_eq_left hk0]⟩
    · have hk0 : accN (sg l (a + j) e) = 0 := by rw [sg_cons ci2 he]; unfold accN; rw [List.takeWhile_cons_of_neg (by simpa using d)]; rfl
      have d' : ¬ (bt l (a + j)).toNat = 96 := tn (by decide) d
      rw [hk0, if_neg (by omega)] at hI
      have hw : IntKind.i64.wrap ((a : Int) + j + 1) = (a : Int) + j + 1 := by rw [wrap_i64 (by omega) (by omega)]
      simp [g0, g1, g2, g7, g8, h1, ci', hix, d', hw]
      exact ⟨j + 1, by omega, by omega, by omega, by omega, hI⟩
  · have ci' : ¬ (a : Int) + j < e := by omega
    rw [codF_end U n _ j (by omega)] at hI
    simp [g0, g1, g2, g7, g8, h1, ci', hI]
end
end Go.Dm
