/- TreeLooks answers true. -/
import Derived.Test.YtnmfdjmejpioiaaDoorTrL
import Derived.Test.YtnmfdjmejpioiaaDoorTrR
set_option linter.unusedVariables false
set_option linter.unusedSimpArgs false
namespace Go.Dm
open Go.Proofs
theorem kids_len (l : List Nd) (i : Nat) : (kids l i).length ≤ l.length := by
  have := kidF_len (l := l) (d := (nd l i).dp) _ (i + 1) (Nat.le_refl _)
  unfold kids; omega
theorem leaves_len (l : List Nd) : (leavesN l).length ≤ l.length := leaf_len (l := l) _ 0 (Nat.le_refl _)
set_option maxRecDepth 100000 in
set_option maxHeartbeats 16000000 in
theorem law_Looks (l : List Nd) (i : Int) (hk : ∀ x ∈ l, x.kind < 256) (v : Value) (h : H) (h1 : h.one = []) (hr : RdN h v l) :
    CallW E0 X0 (.fn 7) [v, .int .i64 i] h (fun r _ => r = .bool true) := by
  refine CallW.body efn7 rfl rfl rfl [] (by kernel_rfl) ?_
  have hr' := hr
  obtain ⟨a, cap, rfl⟩ := hr.sl
  by_cases hl : 2000 < l.length
  · have hl' : (2000 : Int) < l.length := by omega
    simp [Tryd.f7, h1, hl']
    refine (wakes_sp h h1).mono ?_
    rintro _ h2 ⟨rfl, f1⟩
    simp [f1.one]
  have hl' : ¬ (2000 : Int) < l.length := by omega
  have hl2 : l.length < 2 ^ 20 := by omega
  simp [Tryd.f7, h1, hl']
  refine (Wrong_sp l i _ hl2 h h1 hr').mono ?_
  rintro _ h2 ⟨rfl, f2⟩
  have r2 := hr'.mono f2
  simp [f2.one]
  refine (Up_sp l i _ hl2 h2 f2.one r2).mono ?_
  rintro _ h3 ⟨rfl, f3⟩
  have r3 := r2.mono f3
  simp [f3.one]
  refine (Kids_sp l i _ hl2 h3 f3.one r3).mono ?_
  rintro _ h4 ⟨sk, rfl, slk, f4⟩
  have r4 := r3.mono f4
  simp [f4.one]
  refine (Path_sp l i _ hl2 h4 f4.one r4).mono ?_
  rintro _ h5 ⟨sp, rfl, slp, f5⟩
  have r5 := r4.mono f5
  simp [f5.one]
  refine (Leaves_sp l _ hl2 h5 f5.one r5).mono ?_
  rintro _ h6 ⟨sv, rfl, slv, f6⟩
  have r6 := r5.mono f6
  simp [f6.one]
  refine (Fit_sp l _ hl2 h6 f6.one r6).mono ?_
  rintro _ h7 ⟨rfl, f7⟩
  have r7 := r6.mono f7
  have hv6 := RdK.of slv
  have hk4 := RdK.of slk
  have hp5 := RdK.of slp
  by_cases hf : fitN l = true
  · have t := Tr.of_fit hf
    simp only [if_pos hf] at hv6
    simp [f7.one, hf]
    refine (RefLeaves_sp l _ hl2 h7 f7.one r7).mono ?_
    rintro vl h8 ⟨sl8, f8⟩
    have r8 := r7.mono f8
    simp [f8.one]
    refine (Ints_sp (leavesN l) (leavesN l) sv vl (by have := leaves_len l; omega) h8 f8.one ((hv6.mono f7).mono f8) (RdK.of sl8)).mono ?_
    rintro _ h9 ⟨rfl, rfl⟩
    by_cases hw : wrongN l i = 0
    · obtain ⟨_, i0, i1⟩ := wrong_ok hw
      obtain ⟨k, rfl⟩ := Int.eq_ofNat_of_zero_le i0
      have hk1 : k < l.length := by omega
      simp only [if_pos hw, Int.toNat_natCast] at hk4 hp5
      simp [f8.one, hw]
      refine (Parent_sp l _ t k hk1 _ hl2 h9 f8.one r8).mono ?_
      rintro _ h10 ⟨rfl, rfl⟩
      have hkk := (((hk4.mono f5).mono f6).mono f7).mono f8
      have hpp := ((hp5.mono f6).mono f7).mono f8
      have fin : ∀ (up u e : Int), natO (upN l k) = up → upV l (k : Int) = (u, e) → ((up < 0 ∧ u = 0 ∧ e = 4) ∨ (¬ up < 0 ∧ u = up ∧ e = 0)) → True := fun _ _ _ _ _ _ => trivial
      by_cases k0 : k = 0
      · subst k0
        have hv : upV l ((0 : Nat) : Int) = (0, 4) := by unfold upV; rw [if_pos hw]; rfl
        have hn : natO (upN l 0) = -1 := rfl
        have hv' : upV l 0 = (0, 4) := hv
        have hw' : wrongN l 0 = 0 := hw
        simp [f8.one, hw', hv', hn]
        refine (RefKids_sp l _ t 0 hk1 _ hl2 h10 f8.one r8).mono ?_
        rintro v11 h11 ⟨sl11, f11⟩
        simp [f11.one]
        refine (Ints_sp (kids l 0) (kids l 0) sk v11 (by have := kids_len l 0; omega) h11 f11.one (hkk.mono f11) (RdK.of sl11)).mono ?_
        rintro _ h12 ⟨rfl, rfl⟩
        simp [f11.one]
        refine (RefPath_sp l _ t 0 hk1 _ hl2 h12 f11.one (r8.mono f11)).mono ?_
        rintro v13 h13 ⟨sl13, f13⟩
        simp [f13.one]
        refine (Ints_sp (pathO l (some 0)) (pathO l (some 0)) sp v13 (by have := path_le (l := l) 1 0 (by omega); omega) h13 f13.one ((hpp.mono f11).mono f13) (RdK.of sl13)).mono ?_
        rintro _ h14 ⟨rfl, rfl⟩
        simp [f13.one]
        refine (wakes_sp _ f13.one).mono ?_
        rintro _ h15 ⟨rfl, f15⟩
        simp [f15.one]
      · have k0' : ¬ (k : Int) = 0 := by omega
        have hv : upV l (k : Int) = (natO (upN l k), 0) := by unfold upV; rw [if_pos hw, if_neg k0']; rfl
        obtain ⟨p, hp, _⟩ := up_some t (by omega) hk1
        have hn : natO (upN l k) = (p : Int) := by rw [hp]; rfl
        simp [f8.one, hw, hv, hn]
        refine (RefKids_sp l _ t k hk1 _ hl2 h10 f8.one r8).mono ?_
        rintro v11 h11 ⟨sl11, f11⟩
        simp [f11.one]
        refine (Ints_sp (kids l k) (kids l k) sk v11 (by have := kids_len l k; omega) h11 f11.one (hkk.mono f11) (RdK.of sl11)).mono ?_
        rintro _ h12 ⟨rfl, rfl⟩
        simp [f11.one]
        refine (RefPath_sp l _ t k hk1 _ hl2 h12 f11.one (r8.mono f11)).mono ?_
        rintro v13 h13 ⟨sl13, f13⟩
        simp [f13.one]
        refine (Ints_sp (pathO l (some k)) (pathO l (some k)) sp v13 (by have := path_le (l := l) (k + 1) k (by omega); omega) h13 f13.one ((hpp.mono f11).mono f13) (RdK.of sl13)).mono ?_
        rintro _ h14 ⟨rfl, rfl⟩
        simp [f13.one]
        refine (wakes_sp _ f13.one).mono ?_
        rintro _ h15 ⟨rfl, f15⟩
        simp [f15.one]
    · have hv : upV l i = (0, wrongN l i) := by unfold upV; rw [if_neg hw]
      simp only [if_neg hw] at hk4 hp5
      obtain ⟨a1, c1, e1⟩ := hk4.sl
      obtain ⟨a2, c2, e2⟩ := hp5.sl
      simp [f8.one, hw, hv, e1, e2]
      refine (wakes_sp _ f8.one).mono ?_
      rintro _ h15 ⟨rfl, f15⟩
      simp [f15.one]
  · have hw : wrongN l i = 60 := by unfold wrongN; rw [if_neg hf]
    have hw0 : ¬ wrongN l i = 0 := by rw [hw]; decide
    have hv : upV l i = (0, 60) := by unfold upV; rw [if_neg hw0, hw]
    simp only [if_neg hw0] at hk4 hp5
    simp only [if_neg hf] at hv6
    obtain ⟨a1, c1, e1⟩ := hk4.sl
    obtain ⟨a2, c2, e2⟩ := hp5.sl
    obtain ⟨a3, c3, e3⟩ := hv6.sl
    simp [f7.one, hf, hw, hv, e1, e2, e3]
    refine (wakes_sp _ f7.one).mono ?_
    rintro _ h15 ⟨rfl, f15⟩
    simp [f15.one]
end Go.Dm
