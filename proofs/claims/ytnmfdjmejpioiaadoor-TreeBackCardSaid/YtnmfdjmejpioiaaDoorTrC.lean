/- Trees: the document's 'Fit' and 'Wrong'; 'At' of both. -/
import Derived.Test.YtnmfdjmejpioiaaDoorTrB
set_option linter.unusedVariables false
set_option linter.unusedSimpArgs false
namespace Go.Dm
open Go.Proofs
theorem fitN_pos {l : List Nd} (hl : 0 < l.length) : fitN l = chk l (nd l 0).to := by simp [fitN, hl]
set_option maxRecDepth 100000 in
set_option maxHeartbeats 8000000 in
theorem Fit_sp (l : List Nd) (v : Value) (hl : l.length < 2 ^ 20) (h : H) (h1 : h.one = []) (hr : RdN h v l) :
    CallW E0 X0 (.fn 16) [v] h (fun r h' => r = .bool (fitN l) ∧ Fr h.next h h') := by
  refine CallW.body efn16 rfl rfl rfl [] (by kernel_rfl) ?_
  by_cases hl0 : l = []
  · obtain ⟨a, cap, rfl⟩ := hr.sl
    have hw : fitN [] = false := by simp [fitN]
    simp [Tryd.f16, h1, hl0, hw, Fr.refl h1]
  have hl1 : 0 < l.length := List.length_pos_iff.2 hl0
  have hr' := hr
  obtain ⟨b, cap, st, own, fz, ty, rfl, a2, a3, a4, a5⟩ := hr.ne hl1
  have hl2 : (0 : Int) < (l.length : Int) := by omega
  have hto := rd_to0 hl1
  simp [Tryd.f16, h1, hl0, hl1, hl2, a3, hto]
  refine (Is_sp l _ _ hl h h1 hr').mono ?_
  rintro _ h' ⟨rfl, hfr⟩
  simp [hfr.one, fitN_pos hl1]
  exact hfr
set_option maxRecDepth 100000 in
set_option maxHeartbeats 8000000 in
theorem Wrong_sp (l : List Nd) (i : Int) (v : Value) (hl : l.length < 2 ^ 20) (h : H) (h1 : h.one = []) (hr : RdN h v l) :
    CallW E0 X0 (.fn 19) [v, .int .i64 i] h (fun r h' => r = .int .i64 (wrongN l i) ∧ Fr h.next h h') := by
  refine CallW.body efn19 rfl rfl rfl [] (by kernel_rfl) ?_
  simp [Tryd.f19, h1]
  refine (Fit_sp l _ hl h h1 hr).mono ?_
  rintro _ h' ⟨rfl, hfr⟩
  obtain ⟨a, cap, rfl⟩ := hr.sl
  cases hf : fitN l with
  | false =>
    have hw : wrongN l i = 60 := by simp [wrongN, hf]
    simp [hfr.one, hw]
    exact hfr
  | true =>
    by_cases i0 : i < 0
    · have hw : wrongN l i = 5 := by simp [wrongN, hf, i0]
      simp [hfr.one, hw, i0]
      exact hfr
    by_cases i1 : (l.length : Int) ≤ i
    · have hw : wrongN l i = 5 := by simp [wrongN, hf, i0, i1]
      simp [hfr.one, hw, i0, i1]
      exact hfr
    · have hw : wrongN l i = 0 := by simp [wrongN, hf, i0, i1]
      have i2 : i < (l.length : Int) := by omega
      simp [hfr.one, hw, i0, i1, i2]
      exact hfr
theorem wrong0 {l : List Nd} : wrongN l 0 = if fitN l then 0 else 60 := by
  unfold wrongN
  by_cases hf : fitN l = true
  · have : 0 < l.length := by unfold fitN at hf; simp at hf; exact hf.1
    rw [if_pos hf, if_pos hf, if_neg (by omega)]
  · rw [if_neg hf, if_neg hf]
theorem fit_len {l : List Nd} (hf : fitN l = true) : 0 < l.length := by unfold fitN at hf; simp at hf; exact hf.1
/-- What 'At' tells. -/
def atV (l : List Nd) (q : Int) : Int × Int := if fitN l then (if q < 0 ∨ (nd l 0).to < q then (0, 5) else (((atN l q : Nat) : Int), 0)) else (0, 60)
set_option maxRecDepth 100000 in
set_option maxHeartbeats 8000000 in
theorem At_sp (l : List Nd) (q : Int) (v : Value) (hl : l.length < 2 ^ 20) (h : H) (h1 : h.one = []) (hr : RdN h v l) :
    CallW E0 X0 (.fn 15) [v, .int .i64 q] h (fun r h' => r = .tuple #[.int .i64 (atV l q).1, .int .i64 (atV l q).2] ∧ Fr h.next h h') := by
  refine CallW.body efn15 rfl rfl rfl [] (by kernel_rfl) ?_
  simp [Tryd.f15, h1]
  refine (fit_sp l 0 _ hl h h1 hr).mono ?_
  rintro _ h' ⟨rfl, hfr⟩
  rw [wrong0]
  by_cases hf : fitN l = true
  · have hl1 := fit_len hf
    have hl0 : l ≠ [] := List.length_pos_iff.1 hl1
    obtain ⟨b, cap, st, own, fz, ty, rfl, a2, a3, a4, a5⟩ := hr.ne hl1
    have hb3 : h'.get b = some (.cells (encsN l) st own fz ty) := (hfr.get b a5).trans a3
    have hto := rd_to0 hl1
    by_cases q0 : q < 0
    · have hv : atV l q = (0, 5) := by simp [atV, hf, q0]
      simp [hfr.one, hf, q0, hv]
      exact hfr
    by_cases q1 : (nd l 0).to < q
    · have hv : atV l q = (0, 5) := by simp [atV, hf, q0, q1]
      simp [hfr.one, hf, q0, q1, hv, hl1, hb3, hto]
      exact hfr
    have hv : atV l q = (((atN l q : Nat) : Int), 0) := by simp [atV, hf, q0, q1]
    simp [hfr.one, hf, q0, q1, hv, hl1, hb3, hto]
    refine wpd_loop (fun (s : Nat × Nat) fr h3 => fr.get 27 = some (.int .i64 s.1) ∧ fr.get 7 = some (.int .i64 s.2) ∧ s.2 < l.length ∧ s.1 ≤ l.length ∧ atF l q s.1 s.2 = atN l q ∧ Fr h.next h h3) (fun s => l.length - s.1) (0, 0) ⟨by simp, by simp, hl1, by omega, rfl, hfr⟩ ?_
    rintro ⟨k, m⟩ fr h3 ⟨f27, f7, hm, hk, he, hf3⟩ hfe
    have g0 := hfe 0 rfl
    have g1 := hfe 1 rfl
    have g25 := hfe 25 rfl
    have g26 := hfe 26 rfl
    simp only at f27 f7 hm hk he
    simp at g0 g1 g25 g26
    have hb4 : h3.get b = some (.cells (encsN l) st own fz ty) := (hf3.get b a5).trans a3
    have hfn := hf3.next
    by_cases hkl : k < l.length
    · have q2 := encsN_get hkl
      have rm := rd_dp hm
      rw [atF_step hkl] at he
      generalize hx : nd l k = x at *
      obtain ⟨xk, xf, xt, xd⟩ := x
      simp only [encN] at q2
      simp only at he
      have e3 : k * 4 + 4 ≤ l.length * 4 := by omega
      have e1 : (k : Int) < l.length := by omega
      have e2 : (m : Int) < l.length := by omega
      have hw : IntKind.i64.wrap ((k : Int) + 1) = ((k + 1 : Nat) : Int) := wrap_succ (by omega)
      have hgb : ¬ b = h3.next := by omega
      by_cases c1 : xf ≤ q
      · by_cases c2 : q ≤ xt
        · by_cases c3 : (nd l m).dp < xd
          · rw [if_pos ⟨c1, c2, c3⟩] at he
            simp [f27, f7, g0, g1, g25, g26, hb4, q2, rm, e1, e2, e3, hkl, hm, hw, hgb, hf3.one, c1, c2, c3]
            exact ⟨k + 1, by omega, rfl, k, rfl, hkl, by omega, he, (hf3.nw hf3.next _).put hf3.next _⟩
          · rw [if_neg (by omega)] at he
            simp [f27, f7, g0, g1, g25, g26, hb4, q2, rm, e1, e2, e3, hkl, hm, hw, hgb, hf3.one, c1, c2, c3]
            exact ⟨k + 1, by omega, rfl, m, rfl, hm, by omega, he, (hf3.nw hf3.next _).put hf3.next _⟩
        · rw [if_neg (by omega)] at he
          simp [f27, f7, g0, g1, g25, g26, hb4, q2, rm, e1, e2, e3, hkl, hm, hw, hgb, hf3.one, c1, c2]
          exact ⟨k + 1, by omega, rfl, m, rfl, hm, by omega, he, (hf3.nw hf3.next _).put hf3.next _⟩
      · rw [if_neg (by omega)] at he
        simp [f27, f7, g0, g1, g25, g26, hb4, q2, rm, e1, e2, e3, hkl, hm, hw, hgb, hf3.one, c1]
        exact ⟨k + 1, by omega, rfl, m, rfl, hm, by omega, he, (hf3.nw hf3.next _).put hf3.next _⟩
    · have e1 : ¬ (k : Int) < l.length := by omega
      rw [atF_end (by omega)] at he
      simp [f27, f7, g0, g1, g25, g26, e1, hkl, hf3.one, he]
      exact hf3
  · have hv : atV l q = (0, 60) := by simp [atV, hf]
    simp [hfr.one, hf, hv]
    exact hfr
end Go.Dm
