/- TreeChecks and TreeAts answer true. -/
import Derived.Test.YtnmfdjmejpioiaaDoorTrW
set_option linter.unusedVariables false
set_option linter.unusedSimpArgs false
namespace Go.Dm
open Go.Proofs
theorem bin_eq_bool {E : Env} (t : TypeId) (x y : Operand) (a b : Bool) : binD E .eql t x y (.bool a) (.bool b) = (eqD E 10000 t (.bool a) (.bool b)).map .bool := rfl
theorem bin_neq_bool {E : Env} (t : TypeId) (x y : Operand) (a b : Bool) : binD E .neq t x y (.bool a) (.bool b) = (eqD E 10000 t (.bool a) (.bool b)).map fun r => .bool !r := rfl
attribute [simp] bin_eq_bool bin_neq_bool
set_option maxRecDepth 100000 in
set_option maxHeartbeats 8000000 in
theorem RefAt_sp (l : List Nd) (q : Int) (v : Value) (hf : fitN l = true) (hl : l.length < 2 ^ 20) (h : H) (h1 : h.one = []) (hr : RdN h v l) :
    CallW E0 X0 (.fn 17) [v, .int .i64 q] h (fun r h' => r = .int .i64 (atN l q : Nat) ∧ h' = h) := by
  refine CallW.body efn17 rfl rfl rfl [] (by kernel_rfl) ?_
  have hl1 := fit_len hf
  have hl0 : l ≠ [] := List.length_pos_iff.1 hl1
  obtain ⟨b, cap, st, own, fz, ty, rfl, a2, a3, a4, a5⟩ := hr.ne hl1
  simp [Tryd.f17, h1]
  refine wpd_loop (fun (s : Nat × Nat) fr h3 => fr.get 6 = some (.int .i64 s.1) ∧ fr.get 5 = some (.int .i64 s.2) ∧ s.2 < l.length ∧ s.1 ≤ l.length ∧ atF l q s.1 s.2 = atN l q ∧ h3 = h) (fun s => l.length - s.1) (1, 0) ⟨by simp, by simp, hl1, hl1, atN_one (Tr.of_fit hf) q, rfl⟩ ?_
  rintro ⟨k, m⟩ fr h3 ⟨f6, f5, hm, hk, he, rfl⟩ hfe
  have g0 := hfe 0 rfl
  have g1 := hfe 1 rfl
  simp only at f6 f5 hm hk he
  simp at g0 g1
  by_cases hkl : k < l.length
  · have rm := rd_dp hm
    have r1 := rd_fm hkl
    have r2 := rd_to hkl
    have r3 := rd_dp hkl
    rw [atF_step hkl] at he
    have e1 : (k : Int) < l.length := by omega
    have e2 : (m : Int) < l.length := by omega
    have hw : IntKind.i64.wrap ((k : Int) + 1) = ((k + 1 : Nat) : Int) := wrap_succ (by omega)
    by_cases c1 : (nd l k).fm ≤ q
    · by_cases c2 : q ≤ (nd l k).to
      · by_cases c3 : (nd l m).dp < (nd l k).dp
        · rw [if_pos ⟨c1, c2, c3⟩] at he
          simp [f6, f5, g0, g1, a3, r1, r2, r3, rm, e1, e2, hkl, hm, hw, h1, c1, c2, c3]
          exact ⟨k + 1, by omega, rfl, k, rfl, hkl, by omega, he⟩
        · rw [if_neg (by omega)] at he
          simp [f6, f5, g0, g1, a3, r1, r2, r3, rm, e1, e2, hkl, hm, hw, h1, c1, c2, c3]
          exact ⟨k + 1, by omega, rfl, m, rfl, hm, by omega, he⟩
      · rw [if_neg (by omega)] at he
        simp [f6, f5, g0, g1, a3, r1, r2, r3, rm, e1, e2, hkl, hm, hw, h1, c1, c2]
        exact ⟨k + 1, by omega, rfl, m, rfl, hm, by omega, he⟩
    · rw [if_neg (by omega)] at he
      simp [f6, f5, g0, g1, a3, r1, r2, r3, rm, e1, e2, hkl, hm, hw, h1, c1]
      exact ⟨k + 1, by omega, rfl, m, rfl, hm, by omega, he⟩
  · have e1 : ¬ (k : Int) < l.length := by omega
    rw [atF_end (by omega)] at he
    simp [f6, f5, g0, g1, e1, hkl, h1, he]
set_option maxRecDepth 100000 in
set_option maxHeartbeats 8000000 in
theorem law_Checks (l : List Nd) (n : Int) (hk : ∀ x ∈ l, x.kind < 256) (v : Value) (h : H) (h1 : h.one = []) (hr : RdN h v l) :
    CallW E0 X0 (.fn 3) [v, .int .i64 n] h (fun r _ => r = .bool true) := by
  refine CallW.body efn3 rfl rfl rfl [] (by kernel_rfl) ?_
  have hr' := hr
  obtain ⟨a, cap, rfl⟩ := hr.sl
  by_cases hl : 2000 < l.length
  · have hl' : (2000 : Int) < l.length := by omega
    simp [Tryd.f3, h1, hl']
    refine (wakes_sp h h1).mono ?_
    rintro _ h2 ⟨rfl, f1⟩
    simp [f1.one]
  have hl' : ¬ (2000 : Int) < l.length := by omega
  simp [Tryd.f3, h1, hl']
  refine (own_sp l _ (by omega) h h1 hr').mono ?_
  rintro v2 h2 ⟨r2, f2⟩
  simp [f2.one]
  refine (check_sp l n v2 (by omega) h2 f2.one r2).mono ?_
  rintro _ h3 ⟨rfl, f3⟩
  simp [f3.one]
  refine (Is_sp l n _ (by omega) h3 f3.one ((hr'.mono f2).mono f3)).mono ?_
  rintro _ h4 ⟨rfl, f4⟩
  cases hc : chk l n <;> simp [f4.one]
  all_goals
    refine (wakes_sp h4 f4.one).mono ?_
    rintro _ h5 ⟨rfl, f5⟩
    simp [f5.one]
set_option maxRecDepth 100000 in
set_option maxHeartbeats 8000000 in
theorem law_Ats (l : List Nd) (q : Int) (hk : ∀ x ∈ l, x.kind < 256) (v : Value) (h : H) (h1 : h.one = []) (hr : RdN h v l) :
    CallW E0 X0 (.fn 4) [v, .int .i64 q] h (fun r _ => r = .bool true) := by
  refine CallW.body efn4 rfl rfl rfl [] (by kernel_rfl) ?_
  have hr' := hr
  obtain ⟨a, cap, rfl⟩ := hr.sl
  by_cases hl : 2000 < l.length
  · have hl' : (2000 : Int) < l.length := by omega
    simp [Tryd.f4, h1, hl']
    refine (wakes_sp h h1).mono ?_
    rintro _ h2 ⟨rfl, f1⟩
    simp [f1.one]
  have hl' : ¬ (2000 : Int) < l.length := by omega
  simp [Tryd.f4, h1, hl']
  refine (own_sp l _ (by omega) h h1 hr').mono ?_
  rintro v2 h2 ⟨r2, f2⟩
  simp [f2.one]
  refine (At_sp l q v2 (by omega) h2 f2.one r2).mono ?_
  rintro _ h3 ⟨rfl, f3⟩
  simp [f3.one]
  have r3 := (hr'.mono f2).mono f3
  refine (Fit_sp l _ (by omega) h3 f3.one r3).mono ?_
  rintro _ h4 ⟨rfl, f4⟩
  have r4 := r3.mono f4
  by_cases hf : fitN l = true
  · have hl1 := fit_len hf
    have hto := rd_to0 hl1
    by_cases q0 : q < 0
    · have hv : atV l q = (0, 5) := by simp [atV, hf, q0]
      simp [f4.one, hf, hv, q0]
      refine (wakes_sp h4 f4.one).mono ?_
      rintro _ h5 ⟨rfl, f5⟩
      simp [f5.one]
    obtain ⟨b, cap', st, own, fz, ty, e, a2, a3, a4, a5⟩ := r4.ne hl1
    cases e
    by_cases q1 : (nd l 0).to < q
    · have hv : atV l q = (0, 5) := by simp [atV, hf, q0, q1]
      simp [f4.one, hf, hv, q0, q1, hl1, a3, hto]
      refine (wakes_sp h4 f4.one).mono ?_
      rintro _ h5 ⟨rfl, f5⟩
      simp [f5.one]
    have hv : atV l q = (((atN l q : Nat) : Int), 0) := by simp [atV, hf, q0, q1]
    simp [f4.one, hf, hv, q0, q1, hl1, a3, hto]
    refine (RefAt_sp l q _ hf (by omega) h4 f4.one r4).mono ?_
    rintro _ h5 ⟨rfl, rfl⟩
    simp [f4.one]
    refine (wakes_sp _ f4.one).mono ?_
    rintro _ h5 ⟨rfl, f5⟩
    simp [f5.one]
  · have hv : atV l q = (0, 60) := by simp [atV, hf]
    simp [f4.one, hf, hv]
    refine (wakes_sp h4 f4.one).mono ?_
    rintro _ h5 ⟨rfl, f5⟩
    simp [f5.one]
end Go.Dm
