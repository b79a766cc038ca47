/- Trees: parents, paths, leaves, kids: the program's and the document's. -/
import Derived.Test.YtnmfdjmejpioiaaDoorTrC
import Derived.Test.YtnmfdjmejpioiaaDoorTrF
set_option linter.unusedVariables false
set_option linter.unusedSimpArgs false
namespace Go.Dm
open Go.Proofs
theorem Tr.dpn {l : List Nd} {n : Int} (t : Tr l n) {i : Nat} (h : i < l.length) (hl : l.length < 2 ^ 20) : 0 ≤ (nd l i).dp ∧ (nd l i).dp < 1048576 := by
  have := t.pos i h
  omega
set_option maxRecDepth 100000 in
set_option maxHeartbeats 8000000 in
theorem up_sp (l : List Nd) (i : Nat) (hi : i < l.length) (v : Value) (hl : l.length < 2 ^ 20) (h : H) (h1 : h.one = []) (hr : RdN h v l) :
    CallW E0 X0 (.fn 40) [v, .int .i64 i] h (fun r h' => r = .int .i64 (natO (upN l i)) ∧ h' = h) := by
  refine CallW.body efn40 rfl rfl rfl [] (by kernel_rfl) ?_
  obtain ⟨b, cap, st, own, fz, ty, rfl, a2, a3, a4, a5⟩ := hr.ne (by omega)
  have ri := rd_dp hi
  have ei : (i : Int) < l.length := by omega
  have hw0 : IntKind.i64.wrap ((i : Int) - 1) = (i : Int) - 1 := wrap_i64 (by omega) (by omega)
  simp [Tryd.f40, h1, hw0]
  refine wpd_loop (fun (m : Nat) fr h3 => fr.get 5 = some (.int .i64 ((m : Int) - 1)) ∧ m ≤ i ∧ upF l (nd l i).dp m = upN l i ∧ h3 = h) (fun m => m) i ⟨by simp, Nat.le_refl _, rfl, rfl⟩ ?_
  rintro m fr h3 ⟨f5, hm, he, rfl⟩ hf
  have g0 := hf 0 rfl
  have g1 := hf 1 rfl
  simp at g0 g1
  cases m with
  | zero =>
    have hn : natO (upN l i) = -1 := by rw [← he]; rfl
    simp [f5, hn, h1]
  | succ k =>
    have rk := rd_dp (show k < l.length by omega)
    have ek : (k : Int) < l.length := by omega
    have ek2 : k < l.length := by omega
    have f5' : fr.get 5 = some (.int .i64 (k : Int)) := by rw [f5]; congr 3; omega
    have hw : IntKind.i64.wrap ((k : Int) - 1) = (k : Int) - 1 := wrap_i64 (by omega) (by omega)
    unfold upF at he
    by_cases c : (nd l k).dp < (nd l i).dp
    · rw [if_pos c] at he
      have hn : natO (upN l i) = k := by rw [← he]; rfl
      have c2 : ¬ (nd l i).dp ≤ (nd l k).dp := by omega
      simp [f5', g0, g1, a3, h1, rk, ri, ek, ek2, ei, hi, c, c2, hn]
    · rw [if_neg c] at he
      have c2 : (nd l i).dp ≤ (nd l k).dp := by omega
      simp [f5', g0, g1, a3, h1, rk, ri, ek, ek2, ei, hi, c, c2, hw]
      exact ⟨k, by omega, rfl, by omega, he⟩
set_option maxRecDepth 100000 in
set_option maxHeartbeats 8000000 in
theorem Parent_sp (l : List Nd) (n : Int) (t : Tr l n) (i : Nat) (hi : i < l.length) (v : Value) (hl : l.length < 2 ^ 20) (h : H) (h1 : h.one = []) (hr : RdN h v l) :
    CallW E0 X0 (.fn 27) [v, .int .i64 i] h (fun r h' => r = .int .i64 (natO (upN l i)) ∧ h' = h) := by
  refine CallW.body efn27 rfl rfl rfl [] (by kernel_rfl) ?_
  obtain ⟨b, cap, st, own, fz, ty, rfl, a2, a3, a4, a5⟩ := hr.ne (by omega)
  have ri := rd_dp hi
  have ei : (i : Int) < l.length := by omega
  have hd := t.dpn hi hl
  have hw0 : IntKind.i64.wrap ((i : Int) - 1) = (i : Int) - 1 := wrap_i64 (by omega) (by omega)
  have hwd : IntKind.i64.wrap ((nd l i).dp - 1) = (nd l i).dp - 1 := wrap_i64 (by omega) (by omega)
  have hpu : parF l (nd l i).dp i = upN l i := par_up t _ i hi (Int.le_refl _)
  simp [Tryd.f27, h1, hw0]
  refine wpd_loop (fun (m : Nat) fr h3 => fr.get 5 = some (.int .i64 ((m : Int) - 1)) ∧ m ≤ i ∧ parF l (nd l i).dp m = upN l i ∧ h3 = h) (fun m => m) i ⟨by simp, Nat.le_refl _, hpu, rfl⟩ ?_
  rintro m fr h3 ⟨f5, hm, he, rfl⟩ hf
  have g0 := hf 0 rfl
  have g1 := hf 1 rfl
  simp at g0 g1
  cases m with
  | zero =>
    have hn : natO (upN l i) = -1 := by rw [← he]; rfl
    simp [f5, hn, h1]
  | succ k =>
    have rk := rd_dp (show k < l.length by omega)
    have ek : (k : Int) < l.length := by omega
    have ek2 : k < l.length := by omega
    have f5' : fr.get 5 = some (.int .i64 (k : Int)) := by rw [f5]; congr 3; omega
    have hw : IntKind.i64.wrap ((k : Int) - 1) = (k : Int) - 1 := wrap_i64 (by omega) (by omega)
    unfold parF at he
    by_cases c : (nd l k).dp = (nd l i).dp - 1
    · rw [if_pos c] at he
      have hn : natO (upN l i) = k := by rw [← he]; rfl
      simp [f5', g0, g1, a3, h1, rk, ri, ek, ek2, ei, hi, hwd, c, hn]
    · rw [if_neg c] at he
      simp [f5', g0, g1, a3, h1, rk, ri, ek, ek2, ei, hi, hwd, c, hw]
      exact ⟨k, by omega, rfl, by omega, he⟩
/-- What 'Up' tells. -/
def upV (l : List Nd) (i : Int) : Int × Int := if wrongN l i = 0 then (if i = 0 then (0, 4) else (natO (upN l i.toNat), 0)) else (0, wrongN l i)
theorem wrong_ok {l : List Nd} {i : Int} (h : wrongN l i = 0) : fitN l = true ∧ 0 ≤ i ∧ i < l.length := by
  unfold wrongN at h
  by_cases hf : fitN l = true
  · rw [if_pos hf] at h
    split at h
    · cases h
    · exact ⟨hf, by omega, by omega⟩
  · rw [if_neg hf] at h; cases h
theorem wrong_zero {l : List Nd} {i : Nat} (hf : fitN l = true) (h : i < l.length) : wrongN l i = 0 := by
  unfold wrongN
  rw [if_pos hf, if_neg (by omega)]
set_option maxRecDepth 100000 in
set_option maxHeartbeats 8000000 in
theorem Up_sp (l : List Nd) (i : Int) (v : Value) (hl : l.length < 2 ^ 20) (h : H) (h1 : h.one = []) (hr : RdN h v l) :
    CallW E0 X0 (.fn 21) [v, .int .i64 i] h (fun r h' => r = .tuple #[.int .i64 (upV l i).1, .int .i64 (upV l i).2] ∧ Fr h.next h h') := by
  refine CallW.body efn21 rfl rfl rfl [] (by kernel_rfl) ?_
  simp [Tryd.f21, h1]
  refine (fit_sp l i _ hl h h1 hr).mono ?_
  rintro _ h' ⟨rfl, hfr⟩
  by_cases hw : wrongN l i = 0
  · obtain ⟨hf, i0, i1⟩ := wrong_ok hw
    obtain ⟨k, rfl⟩ := Int.eq_ofNat_of_zero_le i0
    by_cases hk : k = 0
    · subst hk
      have hv : upV l ((0 : Nat) : Int) = (0, 4) := by unfold upV; rw [if_pos hw]; rfl
      have hv' : upV l 0 = (0, 4) := hv
      have hw' : wrongN l 0 = 0 := hw
      simp [hfr.one, hw', hv']
      exact hfr
    · have hk' : ¬ (k : Int) = 0 := by omega
      have hv : upV l (k : Int) = (natO (upN l k), 0) := by unfold upV; rw [if_pos hw, if_neg hk']; rfl
      simp [hfr.one, hw, hk, hk', hv]
      refine (up_sp l k (by omega) _ hl h' hfr.one (hr.mono hfr)).mono ?_
      rintro _ h2 ⟨rfl, rfl⟩
      simp [hfr.one]
      exact hfr
  · have hv : upV l i = (0, wrongN l i) := by unfold upV; rw [if_neg hw]
    simp [hfr.one, hw, hv]
    exact hfr
theorem SlG.mono {ty : Option TypeId} {n B B' : Nat} {h : H} {v : Value} {cs : List Value} {len : Nat} (s : SlG ty n B h v cs len) (hB : B' ≤ B) : SlG ty n B' h v cs len := by
  rcases s with s | ⟨s1, s2, g, s3, s4, s5, s6⟩
  · exact .inl s
  · exact .inr ⟨s1, s2, g, by omega, s4, s5, s6⟩
theorem encK_app (l m : List Nat) : encK (l ++ m) = encK l ++ encK m := by simp [encK]
theorem natO_up {l : List Nd} {i : Nat} : (natO (upN l i) + 1).toNat ≤ i := by
  cases e : upN l i with
  | none => simp [natO]
  | some p => have := (upF_lt i e).1; simp [natO]; omega
theorem natO_lt (l : List Nd) (i : Nat) : natO (upN l i) < i ∧ -1 ≤ natO (upN l i) := by
  cases e : upN l i with
  | none => simp [natO]; omega
  | some p => have := (upF_lt i e).1; simp [natO]; omega
theorem path_le {l : List Nd} : ∀ (n i : Nat), i < n → (pathO l (some i)).length ≤ i + 1 := by
  intro n
  induction n with
  | zero => intro i h; omega
  | succ n ih =>
    intro i h
    rw [pathO_some]
    cases e : upN l i with
    | none => simp
    | some p =>
      have hp := (upF_lt i e).1
      have := ih p (by omega)
      simp; omega
set_option maxRecDepth 100000 in
set_option maxHeartbeats 8000000 in
theorem Path_sp (l : List Nd) (i : Int) (v : Value) (hl : l.length < 2 ^ 20) (h : H) (h1 : h.one = []) (hr : RdN h v l) :
    CallW E0 X0 (.fn 23) [v, .int .i64 i] h (fun r h' => ∃ s, r = .tuple #[s, .int .i64 (wrongN l i)] ∧ SlG none 1 h.next h' s (encK (if wrongN l i = 0 then pathO l (some i.toNat) else [])) (if wrongN l i = 0 then pathO l (some i.toNat) else []).length ∧ Fr h.next h h') := by
  refine CallW.body efn23 rfl rfl rfl [] (by kernel_rfl) ?_
  simp [Tryd.f23, h1]
  refine (fit_sp l i _ hl h h1 hr).mono ?_
  rintro _ h' ⟨rfl, hfr⟩
  have hB := hfr.next
  by_cases hw : wrongN l i = 0
  · obtain ⟨hf, i0, i1⟩ := wrong_ok hw
    obtain ⟨k, rfl⟩ := Int.eq_ofNat_of_zero_le i0
    have hpl := path_le (l := l) (k + 1) k (by omega)
    simp [hfr.one, hw]
    refine wpd_loop (fun (s : Option Nat × List Nat) fr h3 => fr.get 1 = some (.int .i64 (natO s.1)) ∧ (∀ j, s.1 = some j → j < l.length) ∧ s.2 ++ pathO l s.1 = pathO l (some k) ∧ (∃ vb, fr.get 7 = some vb ∧ SlG none 1 h.next h3 vb (encK s.2) s.2.length) ∧ Fr h.next h h3) (fun s => (natO s.1 + 1).toNat) (some k, []) ⟨by simp [natO], fun j e => by cases e; omega, rfl, ⟨.slice none 0 0, by simp, SlG.nil ..⟩, hfr⟩ ?_
    rintro ⟨o, P⟩ fr h3 ⟨f1, hj, he, ⟨vb, f7, sl⟩, hf3⟩ hfe
    have g0 := hfe 0 rfl
    simp only at f1 hj he sl
    simp at g0
    cases o with
    | none =>
      have he' : P = pathO l (some k) := by simpa using he
      subst he'
      simp [f1, natO, hf3.one, f7]
      exact ⟨sl, hf3⟩
    | some j =>
      have hj := hj j rfl
      have hP : P.length + 1 ≤ k + 1 := by
        have := congrArg List.length he
        rw [pathO_some] at this
        simp at this; omega
      have f1' : fr.get 1 = some (.int .i64 (j : Int)) := f1
      have z1 : zerosD [.int .i64 0] 1 = [.int .i64 0] := rfl
      simp [f1', f7, hf3.one, -appS_some, z1]
      refine (sl.nw _).app (by simp) (by have := hf3.next; simp; omega) (by rfl) (by decide) (by rfl) (by omega) (by decide) (.inl rfl) ?_
      intro v5 h5 sl5 fr5
      simp [fr5.one, g0, f1']
      have hf5 := (hf3.nw hf3.next _).trans fr5
      refine (up_sp l j hj _ hl h5 fr5.one (hr.mono hf5)).mono ?_
      rintro _ h6 ⟨rfl, rfl⟩
      simp [fr5.one]
      have hnl := natO_lt l j
      refine ⟨upN l j, by rw [show natO (some j) = (j : Int) from rfl]; omega, rfl, ?_, P ++ [j], ?_, ?_, hf5⟩
      · intro p e; have := (upF_lt j e).1; omega
      · rw [← he, pathO_some]; simp
      · simpa [encK] using sl5
  · simp [hfr.one, hw]
    exact ⟨SlG.nil .., hfr⟩
end Go.Dm
