/- What the document's 'Parse' comes to. -/
import Derived.Test.YtnmfdjmejpioiaaDoorTxC
import Derived.Test.YtnmfdjmejpioiaaDoorTrS
set_option linter.unusedVariables false
set_option linter.unusedSimpArgs false
namespace Go.Dm
open Go.Proofs
/-- What is left of a line, behind some of its numbers. -/
def rlineS : List Nat → List UInt8 → Option (Nd × List UInt8)
  | [], t => rline t
  | [a], t => match fld 32 t with
    | some (b, t2) => if b ≤ 255 then match fld 32 t2 with
      | some (c, t3) => match fld 10 t3 with
        | some (d, t4) => some (mkNd a b c d, t4)
        | none => none
      | none => none
      else none
    | none => none
  | [a, b], t => match fld 32 t with
    | some (c, t3) => match fld 10 t3 with
      | some (d, t4) => some (mkNd a b c d, t4)
      | none => none
    | none => none
  | [a, b, c], t => match fld 10 t with
    | some (d, t4) => some (mkNd a b c d, t4)
    | none => none
  | [a, b, c, d], t => some (mkNd a b c d, t)
  | _, _ => none
theorem rl0 (t : List UInt8) : rlineS [] t = match fld 32 t with
    | some (a, r) => rlineS [a] r
    | none => none := by
  show rline t = _
  unfold rline
  cases fld 32 t with
  | none => rfl
  | some q => rfl
theorem rl1 (a : Nat) (t : List UInt8) : rlineS [a] t = match fld 32 t with
    | some (b, r) => if b ≤ 255 then rlineS [a, b] r else none
    | none => none := rfl
theorem rl2 (a b : Nat) (t : List UInt8) : rlineS [a, b] t = match fld 32 t with
    | some (c, r) => rlineS [a, b, c] r
    | none => none := rfl
theorem rl3 (a b c : Nat) (t : List UInt8) : rlineS [a, b, c] t = match fld 10 t with
    | some (d, r) => rlineS [a, b, c, d] r
    | none => none := rfl
theorem numR_some {s : List UInt8} {k n : Nat} {e : UInt8} {r : List UInt8} (hk : k ≤ s.length) (h : fld e (s.drop k) = some (n, r)) : ∃ k2 : Nat, numR s k e = ((n : Int), (k2 : Int)) ∧ k < k2 ∧ k2 ≤ s.length ∧ r = s.drop k2 ∧ n ≤ 1099511627776 := by
  obtain ⟨w, hw, ht⟩ := fld_some h
  have hl := congrArg List.length ht
  simp only [List.length_drop, List.length_append, List.length_cons] at hl
  refine ⟨s.length - r.length, by unfold numR; rw [h], by omega, by omega, ?_, ?_⟩
  · have e1 : s.drop (s.length - r.length) = (s.drop k).drop (w.length + 1) := by rw [List.drop_drop]; congr 1; omega
    rw [e1, ht, ← List.drop_drop, List.drop_left]; rfl
  · unfold numv at hw
    split at hw
    · cases hw
    · split at hw
      · cases hw; assumption
      · cases hw
theorem numR_none {s : List UInt8} {k : Nat} {e : UInt8} (h : fld e (s.drop k) = none) : numR s k e = (0, -1) := by unfold numR; rw [h]
def z4 (vs : List Nat) : List Value := match vs with
  | [] => [.int .i64 0, .int .i64 0, .int .i64 0, .int .i64 0]
  | [a] => [.int .i64 a, .int .i64 0, .int .i64 0, .int .i64 0]
  | [a, b] => [.int .i64 a, .int .i64 b, .int .i64 0, .int .i64 0]
  | [a, b, c] => [.int .i64 a, .int .i64 b, .int .i64 c, .int .i64 0]
  | [a, b, c, d] => [.int .i64 a, .int .i64 b, .int .i64 c, .int .i64 d]
  | _ => []
structure RPI (s : List UInt8) (h : H) (k : Nat) (P : List Nd) (fr : T Value) (h3 : H) : Prop where
  f5 : fr.get 5 = some (.int .i64 (k : Int))
  sl : ∃ vb, fr.get 4 = some vb ∧ SlG none 4 h.next h3 vb (encsN P) P.length
  on : (rparseT (s.drop k)).map (P ++ ·) = rparseT s
  le : k ≤ s.length
  pl : P.length ≤ k
  fr : Fr h.next h h3
set_option maxRecDepth 100000 in
set_option maxHeartbeats 32000000 in
theorem refparse_sp (s : List UInt8) (hs : s.length < 2 ^ 20) (h : H) (h1 : h.one = []) :
    CallW E0 X0 (.fn 33) [str s] h (fun r h' => ∃ v, r = .tuple #[v, .int .i64 (parseE s)] ∧ RdN h' v (parseL s) ∧ Fr h.next h h') := by
  refine CallW.body efn33 rfl rfl rfl [] (by kernel_rfl) ?_
  simp [Tryd.f33, h1]
  refine wpd_loop (fun (q : Nat × List Nd) fr h3 => RPI s h q.1 q.2 fr h3) (fun q => s.length - q.1) (0, []) ⟨by simp, ⟨.slice none 0 0, by simp, SlG.nil ..⟩, by simp, by omega, by simp, Fr.refl h1⟩ ?_
  rintro ⟨k, P⟩ fr h3 ⟨f5, ⟨vb, f4, sl⟩, on, le, pl, hf3⟩ hfe
  have g0 := hfe 0 rfl
  simp only at f5 f4 on le pl sl
  simp at g0
  by_cases hk : k < s.length
  · have e1 : (k : Int) < s.length := by omega
    have hne : s.drop k ≠ [] := by intro e; have := congrArg List.length e; simp at this; omega
    have z0 : zerosD [.int .i64 0] 4 = [.int .i64 0, .int .i64 0, .int .i64 0, .int .i64 0] := rfl
    have hn3 := hf3.next
    simp [f5, g0, e1, hf3.one]
    refine wpd_loop (fun (q : Nat × List Nat) fr2 h4 => fr2.get 7 = some (.int .i64 (q.2.length : Int)) ∧ fr2.get 5 = some (.int .i64 (q.1 : Int)) ∧ k ≤ q.1 ∧ k + q.2.length ≤ q.1 ∧ q.1 ≤ s.length ∧ q.2.length ≤ 4 ∧ h4.get h3.next = some (.cells (z4 q.2) 0 true 0 none) ∧ rlineS q.2 (s.drop q.1) = rline (s.drop k) ∧ (∀ b, q.2[1]? = some b → b ≤ 255) ∧ Fr h3.next h3 h4 ∧ h3.next < h4.next) (fun q => 4 - q.2.length) (k, []) ⟨by simp, by simp [f5], Nat.le_refl _, Nat.le_refl _, le, by simp, by simp [z4], rfl, by simp, (Fr.refl hf3.one).nw (Nat.le_refl _) _, by simp⟩ ?_
    rintro ⟨k2, vs⟩ fr2 h4 ⟨j7, j5, hkk, hkv, hk2, hvl, hv4, hrl, hb255, hf4, hn4⟩ hfe2
    have j0 := hfe2 0 rfl
    have j4 := hfe2 4 rfl
    have j6 := hfe2 6 rfl
    simp only at j7 j5 hkk hkv hk2 hvl hv4 hrl hb255
    simp [g0, f4] at j0 j4 j6
    have hf34 := hf3.trans (hf4.mono hf3.next)
    have hoff : rline (s.drop k) = none → (∃ v : Value, (Value.slice none 0 0 = v ∧ (61 : Int) = parseE s) ∧ RdN h4 v (parseL s) ∧ Fr h.next h h4) := by
      intro hn
      have := rparse_off on hne hn
      exact ⟨_, ⟨rfl, by unfold parseE; rw [this]⟩, .inl ⟨rfl, by unfold parseL; rw [this]⟩, hf34⟩
    match vs, j7, hvl, hkv, hv4, hrl, hb255 with
    | [], j7, hvl, hkv, hv4, hrl, hb255 =>
      simp only [List.length_cons, List.length_nil] at j7 hkv
      have w0 : IntKind.i64.wrap 1 = 1 := by decide
      simp [j7, j5, j0, j6, hf4.one, hv4, z4, w0]
      refine (refnum_sp s k2 32 hk2 (by omega) h4 hf4.one).mono ?_
      rintro _ h5 ⟨rfl, rfl⟩
      cases hfl : fld 32 (s.drop k2) with
      | none =>
        have hR := numR_none hfl
        have hn : rline (s.drop k) = none := by rw [← hrl, rl0, hfl]
        simp [hR, hf4.one, j7, j5, j0, j6, hf4.one, hv4, z4, w0]
        exact hoff hn
      | some q =>
        obtain ⟨n, r⟩ := q
        obtain ⟨k3, hR, hk3, hk3s, rfl, hn40⟩ := numR_some hk2 hfl
        have hst : rlineS [n] (s.drop k3) = rline (s.drop k) := by rw [← hrl, rl0, hfl]
        simp [hR, hf4.one, j7, j5, j0, j6, hf4.one, hv4, z4, w0, hn4]
        exact ⟨k3, [n], by simp, by simp, rfl, by omega, by simp; omega, hk3s, by simp, rfl, hst, fun x hx => by simp at hx, hf4.put (Nat.le_refl _) _⟩
    | [a], j7, hvl, hkv, hv4, hrl, hb255 =>
      simp only [List.length_cons, List.length_nil] at j7 hkv
      have w0 : IntKind.i64.wrap 2 = 2 := by decide
      simp [j7, j5, j0, j6, hf4.one, hv4, z4, w0]
      refine (refnum_sp s k2 32 hk2 (by omega) h4 hf4.one).mono ?_
      rintro _ h5 ⟨rfl, rfl⟩
      cases hfl : fld 32 (s.drop k2) with
      | none =>
        have hR := numR_none hfl
        have hn : rline (s.drop k) = none := by rw [← hrl, rl1, hfl]
        simp [hR, hf4.one, j7, j5, j0, j6, hf4.one, hv4, z4, w0]
        exact hoff hn
      | some q =>
        obtain ⟨n, r⟩ := q
        obtain ⟨k3, hR, hk3, hk3s, rfl, hn40⟩ := numR_some hk2 hfl
        by_cases hb : n ≤ 255
        · have hb' : ¬ (255 : Int) < n := by omega
          have hst : rlineS [a, n] (s.drop k3) = rline (s.drop k) := by rw [← hrl, rl1, hfl]; simp only [if_pos hb]
          simp [hR, hf4.one, j7, j5, j0, j6, hf4.one, hv4, z4, w0, hb', hn4]
          exact ⟨k3, [a, n], by simp, by simp, rfl, by omega, by simp; omega, hk3s, by simp, rfl, hst, fun x hx => by simp at hx; omega, hf4.put (Nat.le_refl _) _⟩
        · have hb' : (255 : Int) < n := by omega
          have hn : rline (s.drop k) = none := by rw [← hrl, rl1, hfl]; simp only [if_neg hb]
          simp [hR, hf4.one, j7, j5, j0, j6, hf4.one, hv4, z4, w0, hb']
          exact hoff hn
    | [a, b], j7, hvl, hkv, hv4, hrl, hb255 =>
      simp only [List.length_cons, List.length_nil] at j7 hkv
      have w0 : IntKind.i64.wrap 3 = 3 := by decide
      simp [j7, j5, j0, j6, hf4.one, hv4, z4, w0]
      refine (refnum_sp s k2 32 hk2 (by omega) h4 hf4.one).mono ?_
      rintro _ h5 ⟨rfl, rfl⟩
      cases hfl : fld 32 (s.drop k2) with
      | none =>
        have hR := numR_none hfl
        have hn : rline (s.drop k) = none := by rw [← hrl, rl2, hfl]
        simp [hR, hf4.one, j7, j5, j0, j6, hf4.one, hv4, z4, w0]
        exact hoff hn
      | some q =>
        obtain ⟨n, r⟩ := q
        obtain ⟨k3, hR, hk3, hk3s, rfl, hn40⟩ := numR_some hk2 hfl
        have hst : rlineS [a, b, n] (s.drop k3) = rline (s.drop k) := by rw [← hrl, rl2, hfl]
        simp [hR, hf4.one, j7, j5, j0, j6, hf4.one, hv4, z4, w0, hn4]
        exact ⟨k3, [a, b, n], by simp, by simp, rfl, by omega, by simp; omega, hk3s, by simp, rfl, hst, fun x hx => hb255 x (by simpa using hx), hf4.put (Nat.le_refl _) _⟩
    | [a, b, c], j7, hvl, hkv, hv4, hrl, hb255 =>
      simp only [List.length_cons, List.length_nil] at j7 hkv
      have w0 : IntKind.i64.wrap 4 = 4 := by decide
      simp [j7, j5, j0, j6, hf4.one, hv4, z4, w0]
      refine (refnum_sp s k2 10 hk2 (by omega) h4 hf4.one).mono ?_
      rintro _ h5 ⟨rfl, rfl⟩
      cases hfl : fld 10 (s.drop k2) with
      | none =>
        have hR := numR_none hfl
        have hn : rline (s.drop k) = none := by rw [← hrl, rl3, hfl]
        simp [hR, hf4.one, j7, j5, j0, j6, hf4.one, hv4, z4, w0]
        exact hoff hn
      | some q =>
        obtain ⟨n, r⟩ := q
        obtain ⟨k3, hR, hk3, hk3s, rfl, hn40⟩ := numR_some hk2 hfl
        have hst : rlineS [a, b, c, n] (s.drop k3) = rline (s.drop k) := by rw [← hrl, rl3, hfl]
        simp [hR, hf4.one, j7, j5, j0, j6, hf4.one, hv4, z4, w0, hn4]
        exact ⟨k3, [a, b, c, n], by simp, by simp, rfl, by omega, by simp; omega, hk3s, by simp, rfl, hst, fun x hx => hb255 x (by simpa using hx), hf4.put (Nat.le_refl _) _⟩
    | [a, b, c, d], j7, hvl, hkv, hv4, hrl, hb255 =>
      simp only [List.length_cons, List.length_nil] at j7 hkv
      have hb := hb255 b rfl
      have wb : IntKind.u8.wrap (b : Int) = (b : Int) := wrap_u8 (by omega) (by omega)
      have hon := rparse_on (x := mkNd a b c d) (r := s.drop k2) on hne (by rw [← hrl]; rfl)
      simp [j7, j5, j0, j4, j6, hf4.one, hv4, z4, wb, zerN, -appS_some]
      refine ((sl.of_get hf4.next (fun g _ hg => hf4.get g hg)).nw _).app (by simp) (by have := hf34.next; simp; omega) (by rfl) (by decide) (by rfl) (by omega) (by decide) (.inl rfl) ?_
      intro v5 h5 sl5 q5
      simp [q5.one, j5]
      refine ⟨k2, by omega, P ++ [mkNd a b c d], ⟨by simp [j5], ⟨v5, by simp, ?_⟩, hon, hk2, by simp; omega, (hf34.nw hf34.next _).trans q5⟩⟩
      exact sl5.eq (by simp [encN, mkNd]) (by simp)
    | _ :: _ :: _ :: _ :: _ :: _, _, hvl, _, _, _, _ => exact absurd hvl (by simp)
  · have e1 : ¬ (k : Int) < s.length := by omega
    rw [List.drop_eq_nil_of_le (by omega)] at on
    have hp : rparseT s = some P := by rw [← on]; simp
    simp [f5, f4, g0, e1, hf3.one]
    refine (Fit_sp P vb (by omega) h3 hf3.one (RdN.of sl)).mono ?_
    rintro _ h4 ⟨rfl, q4⟩
    have hF := hf3.trans (q4.mono hf3.next)
    cases hfit : fitN P with
    | false =>
      have e2 : parseE s = 60 := by unfold parseE; rw [hp]; simp [hfit]
      have e3 : parseL s = [] := by unfold parseL; rw [hp]; simp [hfit]
      simp [q4.one, e2, e3]
      exact ⟨.inl ⟨rfl, rfl⟩, hF⟩
    | true =>
      have e2 : parseE s = 0 := by unfold parseE; rw [hp]; simp [hfit]
      have e3 : parseL s = P := by unfold parseL; rw [hp]; simp [hfit]
      simp [q4.one, e2, e3, f4]
      exact ⟨(RdN.of sl).mono q4, hF⟩
end Go.Dm
