/- Trees: leaves, paths and kids of the document; lists of numbers held against each other. -/
import Derived.Test.YtnmfdjmejpioiaaDoorTrG
set_option linter.unusedVariables false
set_option linter.unusedSimpArgs false
namespace Go.Dm
open Go.Proofs
set_option maxRecDepth 100000 in
set_option maxHeartbeats 8000000 in
theorem RefPath_sp (l : List Nd) (n : Int) (t : Tr l n) (k : Nat) (hk : k < l.length) (v : Value) (hl : l.length < 2 ^ 20) (h : H) (h1 : h.one = []) (hr : RdN h v l) :
    CallW E0 X0 (.fn 29) [v, .int .i64 k] h (fun r h' => SlG none 1 h.next h' r (encK (pathO l (some k))) (pathO l (some k)).length ∧ Fr h.next h h') := by
  refine CallW.body efn29 rfl rfl rfl [] (by kernel_rfl) ?_
  have hpl := path_le (l := l) (k + 1) k (by omega)
  simp [Tryd.f29, h1]
  refine wpd_loop (fun (s : Option Nat × List Nat) fr h3 => fr.get 1 = some (.int .i64 (natO s.1)) ∧ (∀ j, s.1 = some j → j < l.length) ∧ s.2 ++ pathO l s.1 = pathO l (some k) ∧ (∃ vb, fr.get 5 = some vb ∧ SlG none 1 h.next h3 vb (encK s.2) s.2.length) ∧ Fr h.next h h3) (fun s => (natO s.1 + 1).toNat) (some k, []) ⟨by simp [natO], fun j e => by cases e; omega, rfl, ⟨.slice none 0 0, by simp, SlG.nil ..⟩, Fr.refl h1⟩ ?_
  rintro ⟨o, P⟩ fr h3 ⟨f1, hj, he, ⟨vb, f5, sl⟩, hf3⟩ hfe
  have g0 := hfe 0 rfl
  simp only at f1 hj he sl
  simp at g0
  cases o with
  | none =>
    have he' : P = pathO l (some k) := by simpa using he
    subst he'
    simp [f1, natO, hf3.one, f5]
    exact ⟨sl, hf3⟩
  | some j =>
    have hj := hj j rfl
    have hP : P.length + 1 ≤ k + 1 := by
      have := congrArg List.length he
      rw [pathO_some] at this
      simp at this; omega
    have f1' : fr.get 1 = some (.int .i64 (j : Int)) := f1
    have z1 : zerosD [.int .i64 0] 1 = [.int .i64 0] := rfl
    simp [f1', f5, hf3.one, -appS_some, z1]
    refine (sl.nw _).app (by simp) (by have := hf3.next; simp; omega) (by rfl) (by decide) (by rfl) (by omega) (by decide) (.inl rfl) ?_
    intro v5 h5 sl5 fr5
    simp [fr5.one, g0, f1']
    have hf5 := (hf3.nw hf3.next _).trans fr5
    refine (Parent_sp l n t j hj _ hl h5 fr5.one (hr.mono hf5)).mono ?_
    rintro _ h6 ⟨rfl, rfl⟩
    simp [fr5.one]
    have hnl := natO_lt l j
    refine ⟨upN l j, by rw [show natO (some j) = (j : Int) from rfl]; omega, rfl, ?_, P ++ [j], ?_, ?_, hf5⟩
    · intro p e; have := (upF_lt j e).1; omega
    · rw [← he, pathO_some]; simp
    · simpa [encK] using sl5
theorem leaf_len {l : List Nd} : ∀ (m a : Nat), l.length - a ≤ m → (leafF l a).length ≤ l.length - a := by
  intro m
  induction m with
  | zero => intro a ha; rw [leafF_end (by omega)]; simp
  | succ m ih =>
    intro a ha
    by_cases h : a < l.length
    · rw [leafF_step h]
      have := ih (a + 1) (by omega)
      split
      · simp; omega
      · omega
    · rw [leafF_end (by omega)]; simp
theorem kidF_len {l : List Nd} {d : Int} : ∀ (m a : Nat), l.length - a ≤ m → (kidF l d a).length ≤ l.length - a := by
  intro m
  induction m with
  | zero => intro a ha; rw [kidF_stop (by omega)]; simp
  | succ m ih =>
    intro a ha
    by_cases h : a < l.length
    · by_cases h1 : (nd l a).dp > d
      · rw [kidF_step h h1]
        have := ih (a + 1) (by omega)
        split
        · simp; omega
        · omega
      · rw [kidF_stop (fun _ => h1)]; simp
    · rw [kidF_stop (by omega)]; simp
set_option maxRecDepth 100000 in
set_option maxHeartbeats 8000000 in
theorem RefLeaves_sp (l : List Nd) (v : Value) (hl : l.length < 2 ^ 20) (h : H) (h1 : h.one = []) (hr : RdN h v l) :
    CallW E0 X0 (.fn 26) [v] h (fun r h' => SlG none 1 h.next h' r (encK (leavesN l)) (leavesN l).length ∧ Fr h.next h h') := by
  refine CallW.body efn26 rfl rfl rfl [] (by kernel_rfl) ?_
  have hll := leaf_len (l := l) _ 0 (Nat.le_refl _)
  simp [Tryd.f26, h1]
  refine wpd_loop (fun (s : Nat × List Nat) fr h3 => fr.get 4 = some (.int .i64 (s.1 : Int)) ∧ s.1 ≤ l.length ∧ s.2 ++ leafF l s.1 = leavesN l ∧ (∃ vb, fr.get 3 = some vb ∧ SlG none 1 h.next h3 vb (encK s.2) s.2.length) ∧ Fr h.next h h3) (fun s => l.length - s.1) (0, []) ⟨by simp, by omega, rfl, ⟨.slice none 0 0, by simp, SlG.nil ..⟩, Fr.refl h1⟩ ?_
  rintro ⟨k, P⟩ fr h3 ⟨f4, hkl, he, ⟨vb, f3, sl⟩, hf3⟩ hfe
  have g0 := hfe 0 rfl
  simp only at f4 hkl he sl
  simp at g0
  have hr3 := hr.mono hf3
  have hPl : P.length ≤ l.length := by
    have := congrArg List.length he
    simp [leavesN] at this; omega
  by_cases hk : k < l.length
  · obtain ⟨b, cap, st, own, fz, ty, rfl, a2, a3, a4, a5⟩ := hr3.ne (by omega)
    have hw : IntKind.i64.wrap ((k : Int) + 1) = ((k + 1 : Nat) : Int) := wrap_succ (by omega)
    have e1 : (k : Int) < l.length := by omega
    have rk := rd_dp hk
    rw [leafF_step hk] at he
    have z1 : zerosD [.int .i64 0] 1 = [.int .i64 0] := rfl
    by_cases hk1 : k + 1 = l.length
    · have hlf : isLeaf l k = true := by simp [isLeaf, hk1]
      have e2 : (k : Int) + 1 = l.length := by omega
      have hwl : IntKind.i64.wrap (l.length : Int) = (l.length : Int) := wrap_nat (by omega)
      rw [if_pos hlf] at he
      simp [f4, f3, g0, hf3.one, e1, hk, e2, hw, hwl, -appS_some, z1]
      refine (sl.nw _).app (by simp) (by have := hf3.next; simp; omega) (by rfl) (by decide) (by rfl) (by omega) (by decide) (.inl rfl) ?_
      intro v5 h5 sl5 fr5
      simp [fr5.one, f4, hw, hwl, e2]
      refine ⟨k + 1, by omega, by omega, by omega, P ++ [k], by rw [← he]; simp, by simpa [encK] using sl5, (hf3.nw hf3.next _).trans fr5⟩
    · have e2 : ¬ (k : Int) + 1 = l.length := by omega
      have hk2 : k + 1 < l.length := by omega
      have rk1 := rd_dp hk2
      have e3 : (k : Int) + 1 < l.length := by omega
      by_cases c : (nd l (k + 1)).dp ≤ (nd l k).dp
      · have hlf : isLeaf l k = true := by simp [isLeaf, c]
        rw [if_pos hlf] at he
        simp [f4, f3, g0, hf3.one, e1, hk, e2, e3, hk2, a3, rk, rk1, c, hw, -appS_some, z1]
        refine (sl.nw _).app (by simp) (by have := hf3.next; simp; omega) (by rfl) (by decide) (by rfl) (by omega) (by decide) (.inl rfl) ?_
        intro v5 h5 sl5 fr5
        simp [fr5.one, f4, hw]
        refine ⟨k + 1, by omega, rfl, by omega, P ++ [k], by rw [← he]; simp, by simpa [encK] using sl5, (hf3.nw hf3.next _).trans fr5⟩
      · have hlf : ¬ isLeaf l k = true := by simp [isLeaf, c, hk1]
        rw [if_neg hlf] at he
        simp [f4, f3, g0, hf3.one, e1, hk, e2, e3, hk2, a3, rk, rk1, c, hw]
        refine ⟨k + 1, by omega, rfl, by omega, P, he, sl, hf3⟩
  · have e1 : ¬ (k : Int) < l.length := by omega
    obtain ⟨a, cap, rfl⟩ := hr3.sl
    rw [leafF_end (by omega), List.append_nil] at he
    subst he
    simp [f4, f3, g0, hf3.one, e1]
    exact ⟨sl, hf3⟩
set_option maxRecDepth 100000 in
set_option maxHeartbeats 8000000 in
theorem Leaves_sp (l : List Nd) (v : Value) (hl : l.length < 2 ^ 20) (h : H) (h1 : h.one = []) (hr : RdN h v l) :
    CallW E0 X0 (.fn 24) [v] h (fun r h' => ∃ s, r = .tuple #[s, .int .i64 (if fitN l then 0 else 60)] ∧ SlG none 1 h.next h' s (encK (if fitN l then leavesN l else [])) (if fitN l then leavesN l else []).length ∧ Fr h.next h h') := by
  refine CallW.body efn24 rfl rfl rfl [] (by kernel_rfl) ?_
  simp [Tryd.f24, h1]
  refine (fit_sp l 0 _ hl h h1 hr).mono ?_
  rintro _ h' ⟨rfl, hfr⟩
  rw [wrong0]
  by_cases hf : fitN l = true
  · have hll := leaf_len (l := l) _ 0 (Nat.le_refl _)
    have hr' := hr.mono hfr
    obtain ⟨b, cap, st, own, fz, ty, rfl, a2, a3, a4, a5⟩ := hr'.ne (fit_len hf)
    simp [hfr.one, hf]
    refine wpd_loop (fun (s : Nat × List Nat) fr h3 => fr.get 15 = some (.int .i64 (s.1 : Int)) ∧ s.1 ≤ l.length ∧ s.2 ++ leafF l s.1 = leavesN l ∧ (∃ vb, fr.get 5 = some vb ∧ SlG none 1 h'.next h3 vb (encK s.2) s.2.length) ∧ Fr h'.next h' h3) (fun s => l.length - s.1) (0, []) ⟨by simp, by omega, rfl, ⟨.slice none 0 0, by simp, SlG.nil ..⟩, Fr.refl hfr.one⟩ ?_
    rintro ⟨k, P⟩ fr h3 ⟨f4, hkl, he, ⟨vb, f3, sl⟩, hf3⟩ hfe
    have g0 := hfe 0 rfl
    have g13 := hfe 13 rfl
    have g14 := hfe 14 rfl
    simp only at f4 hkl he sl
    simp at g0 g13 g14
    have hb4 : h3.get b = some (.cells (encsN l) st own fz ty) := (hf3.get b a5).trans a3
    have hPl : P.length ≤ l.length := by
      have := congrArg List.length he
      simp [leavesN] at this; omega
    have hn3 := hf3.next
    by_cases hk : k < l.length
    · have hw : IntKind.i64.wrap ((k : Int) + 1) = ((k + 1 : Nat) : Int) := wrap_succ (by omega)
      have e1 : (k : Int) < l.length := by omega
      have q2 := encsN_get hk
      have e3 : k * 4 + 4 ≤ l.length * 4 := by omega
      have hgb : ¬ b = h3.next := by omega
      rw [leafF_step hk] at he
      have z1 : zerosD [.int .i64 0] 1 = [.int .i64 0] := rfl
      have hll2 : isLeaf l k = (decide (k + 1 = l.length) || decide ((nd l (k + 1)).dp ≤ (nd l k).dp)) := rfl
      have hF4 : ∀ (x y : DObj), Fr h'.next h' ((h3.nw x).put h3.next y) := fun x y => (hf3.nw hf3.next _).put hf3.next _
      have sl4 : ∀ (x y : DObj), SlG none 1 h'.next ((h3.nw x).put h3.next y) vb (encK P) P.length := fun x y => sl.of_get (by simp) (fun g hg hg2 => by rw [H.get_put, if_neg (by omega), get_nw, if_neg (by omega)])
      generalize hx : nd l k = x at *
      obtain ⟨xk, xf, xt, xd⟩ := x
      simp only [encN] at q2
      simp only at hll2
      by_cases hk1 : k + 1 = l.length
      · have hlf : isLeaf l k = true := by rw [hll2]; simp [hk1]
        have e2 : (k : Int) + 1 = l.length := by omega
        have hwl : IntKind.i64.wrap (l.length : Int) = (l.length : Int) := wrap_nat (by omega)
        rw [if_pos hlf] at he
        simp [f4, f3, g0, g13, g14, hb4, q2, hf3.one, e1, hk, e2, e3, hgb, hw, hwl, -appS_some, z1]
        refine ((sl4 _ _).nw _).app (by simp) (by simp; omega) (by rfl) (by decide) (by rfl) (by omega) (by decide) (.inl rfl) ?_
        intro v5 h5 sl5 fr5
        simp [fr5.one, f4, hw, hwl, e2]
        refine ⟨k + 1, by omega, by omega, by omega, P ++ [k], by rw [← he]; simp, by simpa [encK] using sl5, ((hF4 _ _).nw (by simp; omega) _).trans fr5⟩
      · have e2 : ¬ (k : Int) + 1 = l.length := by omega
        have hk2 : k + 1 < l.length := by omega
        have rk1 := rd_dp hk2
        have e4 : (k : Int) + 1 < l.length := by omega
        by_cases c : (nd l (k + 1)).dp ≤ xd
        · have hlf : isLeaf l k = true := by rw [hll2]; simp [c]
          rw [if_pos hlf] at he
          simp [f4, f3, g0, g13, g14, hb4, q2, hf3.one, e1, hk, e2, e3, e4, hk2, hgb, rk1, c, hw, -appS_some, z1]
          refine ((sl4 _ _).nw _).app (by simp) (by simp; omega) (by rfl) (by decide) (by rfl) (by omega) (by decide) (.inl rfl) ?_
          intro v5 h5 sl5 fr5
          simp [fr5.one, f4, hw]
          refine ⟨k + 1, by omega, rfl, by omega, P ++ [k], by rw [← he]; simp, by simpa [encK] using sl5, ((hF4 _ _).nw (by simp; omega) _).trans fr5⟩
        · have hlf : ¬ isLeaf l k = true := by rw [hll2]; simp [c, hk1]
          rw [if_neg hlf] at he
          simp [f4, f3, g0, g13, g14, hb4, q2, hf3.one, e1, hk, e2, e3, e4, hk2, hgb, rk1, c, hw]
          refine ⟨k + 1, by omega, rfl, by omega, P, he, sl4 _ _, hF4 _ _⟩
    · have e1 : ¬ (k : Int) < l.length := by omega
      rw [leafF_end (by omega), List.append_nil] at he
      subst he
      simp [f4, f3, g0, g13, g14, hf3.one, e1]
      exact ⟨sl.mono hfr.next, hfr.trans (hf3.mono hfr.next)⟩
  · simp [hfr.one, hf]
    exact ⟨SlG.nil .., hfr⟩
end Go.Dm
