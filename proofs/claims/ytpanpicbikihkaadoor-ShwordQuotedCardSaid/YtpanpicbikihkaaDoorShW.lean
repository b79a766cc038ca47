/- The statement ShwordQuoted, in D. -/
import Derived.Test.YtpanpicbikihkaaDoorShV
import Derived.Test.YtpanpicbikihkaaDoorShG
set_option linter.unusedVariables false
set_option linter.unusedSimpArgs false
set_option maxRecDepth 100000
namespace Go.Dm
open Go.Proofs
set_option maxHeartbeats 4000000 in
theorem law_Quoted (line : List UInt8) (a : Nat) (ha : a < 256) (mark : Nat) (hm : mark < 256) (h : H) (h1 : h.one = []) (hg : Gl h) (hg0 : 0 < h.next) :
    CallW E0 X0 (.fn 6) [str line, .int .u8 a, .int .u8 mark] h (fun v h' => v = .bool true) := by
  refine CallW.body efn6 rfl rfl rfl [] (by kernel_rfl) ?_
  by_cases hl : 4096 < line.length
  · simp [Tryd.f6, h1, hl]
    refine (wakes_sp h h1 hg hg0).mono ?_
    rintro _ h2 ⟨rfl, hF⟩
    simp [hF.one]
  · simp [Tryd.f6, h1, hl]
    obtain ⟨A, hA⟩ : ∃ A, A = a % 5 := ⟨_, rfl⟩
    obtain ⟨B, hB⟩ : ∃ B, B = mark % 5 := ⟨_, rfl⟩
    have hrA : ((a : Int)).tmod 5 = (A : Int) := by rw [hA]; exact Int.ofNat_tmod a 5 |>.symm ▸ rfl
    have hrB : ((mark : Int)).tmod 5 = (B : Int) := by rw [hB]; exact Int.ofNat_tmod mark 5 |>.symm ▸ rfl
    have hwA : IntKind.i64.wrap (a : Int) = a := wrap_i64 (by omega) (by omega)
    have hwB : IntKind.i64.wrap (mark : Int) = mark := wrap_i64 (by omega) (by omega)
    refine wpd_loop (fun (k : Nat) fr h' => k ≤ line.length ∧ fr.get 7 = some (.int .i64 k) ∧ h' = h ∧ ∀ (j : Nat), j < k → bt line j ≠ 39 ∧ bt line j ≠ 10) (fun k => line.length - k) 0 ⟨by omega, by simp, rfl, by simp⟩ ?_
    rintro k fr h' ⟨hk, hi, rfl, hno⟩ hf
    have g0 := hf 0 rfl
    have g1 := hf 1 rfl
    have g2 := hf 2 rfl
    simp at g0 g1 g2
    by_cases hkl : k < line.length
    · have hx := idxB_nat hkl
      have hw1 := wrap_succ (show k < 9223372036854775807 by omega)
      by_cases b1 : (bt line k).toNat = 39
      · simp [h1, hi, g0, hkl, hx, b1]
        refine (wakes_sp h' h1 hg hg0).mono ?_
        rintro _ h2 ⟨rfl, hF⟩
        simp [hF.one]
      by_cases b2 : (bt line k).toNat = 10
      · simp [h1, hi, g0, hkl, hx, b1, b2]
        refine (wakes_sp h' h1 hg hg0).mono ?_
        rintro _ h2 ⟨rfl, hF⟩
        simp [hF.one]
      simp [h1, hi, g0, hkl, hx, b1, b2, hw1]
      refine ⟨k + 1, by omega, by omega, rfl, fun j hj => ?_⟩
      rcases Nat.lt_or_ge j k with h4 | h4
      · exact hno j h4
      · have e : j = k := by omega
        subst e
        exact ⟨fun e => b1 (by rw [e]; decide), fun e => b2 (by rw [e]; decide)⟩
    · simp [h1, hi, g0, hkl]
      have hkE : k = line.length := by omega
      subst hkE
      refine wpd_loop (fun (k : Nat) fr h2 => k ≤ A ∧ fr.get 9 = some (.int .i64 k) ∧ fr.get 8 = some (str (List.replicate k 32)) ∧ h2 = h') (fun k => A - k) 0 ⟨by omega, by simp, by simp, rfl⟩ ?_
      rintro k fr2 h2 ⟨hk, hi9, hi8, rfl⟩ hf2
      have g0' := hf2 0 rfl
      have g1' := hf2 1 rfl
      have g2' := hf2 2 rfl
      simp [g0, g1, g2] at g0' g1' g2'
      by_cases hkA : k < A
      · have hw1 := wrap_succ (show k < 9223372036854775807 by omega)
        have hk62 : k + 1 ≤ 4611686018427387904 := by omega
        simp [h1, hi9, hi8, g0', g1', hkA, hrA, hwA, hw1, hk62]
        exact ⟨k + 1, by omega, by omega, rfl, by rw [List.replicate_succ']⟩
      · simp [h1, hi9, hi8, g0', g1', hkA, hrA, hwA]
        have hkE : k = A := by omega
        subst hkE
        refine ⟨by omega, by omega, by omega, ?_⟩
        refine wpd_loop (fun (j : Nat) fr h3 => j ≤ B ∧ fr.get 12 = some (.int .i64 j) ∧ fr.get 8 = some (str (List.replicate k 32 ++ ([39] ++ (line ++ ([39] ++ List.replicate j 9))))) ∧ h3 = h2) (fun j => B - j) 0 ⟨by omega, by simp, by simp, rfl⟩ ?_
        rintro j fr3 h3 ⟨hj, hi12, hi8', rfl⟩ hf3
        have g0 := hf3 0 rfl
        have g2 := hf3 2 rfl
        have g10 := hf3 10 rfl
        have g11 := hf3 11 rfl
        simp [g0', g2'] at g0 g2 g10 g11
        by_cases hjB : j < B
        · have hw1 := wrap_succ (show j < 9223372036854775807 by omega)
          simp [h1, hi12, hi8', g0, g2, hjB, hrB, hwB, hw1]
          exact ⟨by omega, j + 1, by omega, by omega, rfl, by rw [List.replicate_succ']⟩
        · have hjE : j = B := by omega
          subst hjE
          simp [h1, hi12, hi8', g0, g2, hjB, hrB, hwB]
          refine ⟨by omega, ?_⟩
          rw [show (List.replicate k (32 : UInt8) ++ 39 :: (line ++ 39 :: (List.replicate j 9 ++ [10]))) = List.replicate k 32 ++ ([39] ++ (line ++ ([39] ++ List.replicate j 9))) ++ [10] by simp]
          refine (Read_sp _ 0 0 (by simp; omega) (by decide) _ h1 hg hg0).mono ?_
          rintro v h4 ⟨sl, rfl, hs, hF⟩
          rw [rd_quoted line k j (fun i hi => (hno i hi).1)] at hs ⊢
          rcases hs with ⟨e, _⟩ | ⟨_, _, g, _, _, rfl, hgg⟩
          · simp at e
          simp [encs, encP] at hgg
          have h41 := hF.one
          have hg4 : Gl h4 := by unfold Gl; rw [hF.get _ hg0]; exact hg
          have hn4 := hF.next
          have e11 : (k : Int) + ((line.length : Int) + 2) = (k : Int) + (line.length : Int) + 2 := by omega
          rw [e11] at g11
          simp [h41, hgg, g0, g10, g11]
          refine (wakes_sp h4 h41 hg4 (by omega)).mono ?_
          rintro _ h5 ⟨rfl, hF5⟩
          simp [hF5.one]
end Go.Dm
