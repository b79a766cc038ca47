/- The document's answer: a line from a state. -/
import Derived.Test.YtdgclgfhcgdehaaDoorSdJ
set_option linter.unusedVariables false
set_option linter.unusedSimpArgs false
namespace Go.Dm
open Go.Proofs
set_option maxRecDepth 100000 in
set_option maxHeartbeats 4000000 in
theorem lf_sp (t : List UInt8) (hl : t.length < 2 ^ 40) (h : H) (h1 : h.one = []) :
    CallW E0 X0 (.fn 26) [str t] h (fun r h' => r = .bool (t.contains 10) ∧ h' = h) := by
  refine CallW.body efn26 rfl rfl rfl [] (by kernel_rfl) ?_
  simp [Tryd.f26, h1]
  refine wpd_loop (fun (k : Nat) fr h' => fr.get 3 = some (.int .i64 k) ∧ k ≤ t.length ∧ (t.drop k).contains 10 = t.contains 10 ∧ h' = h) (fun k => t.length - k) 0 ⟨by simp, Nat.zero_le _, by simp, rfl⟩ ?_
  rintro k fr h' ⟨g3, hk, hc, rfl⟩ hf
  have g0 := hf 0 rfl
  simp at g0
  by_cases hlt : k < t.length
  · have e1 : (k : Int) < t.length := by omega
    have w0 : IntKind.i64.wrap ((k : Int) + 1) = ((k + 1 : Nat) : Int) := wrap_succ (by omega)
    have hix := idxB_nat (l := t) (k := k) hlt
    have hb : bt t k = t[k] := by simp [bt, hlt]
    rw [List.drop_eq_getElem_cons hlt, ← hb, List.contains_cons] at hc
    by_cases e : bt t k = 10
    · rw [e] at hix hc
      simp at hc
      simp [g3, g0, h1, hlt, e1, hix, hc]
    · have e2 : ¬ ((bt t k).toNat : Int) = 10 := by
        intro q; apply e; apply UInt8.toNat_inj.1; show (bt t k).toNat = 10; omega
      have e3 : ((10 : UInt8) == bt t k) = false := by simpa using fun q => e q.symm
      rw [e3, Bool.false_or] at hc
      simp [g3, g0, h1, hlt, e1, hix, e2, w0]
      exact ⟨k + 1, by omega, by simp, by omega, by simpa using hc⟩
  · have e1 : ¬ (k : Int) < t.length := by omega
    have hk2 : k = t.length := by omega
    rw [hk2] at hc
    simp at hc
    simp [g3, g0, h1, hlt, e1]
    exact hc
theorem opN_in {s : List UInt8} (h : opN s ≠ 0) : s.take (opN s) ∈ opsL := by
  unfold opN at h ⊢
  cases hf : opsL.find? (·.isPrefixOf s) with
  | none => rw [hf] at h; exact absurd rfl h
  | some o =>
    simp only
    have hm := List.mem_of_find?_eq_some hf
    have hp := List.find?_some hf
    rw [List.isPrefixOf_iff_prefix] at hp
    obtain ⟨t, rfl⟩ := hp
    simpa using hm
theorem rrunF_all {Q : Pc → Prop} {s : List UInt8} {lf : Bool} (hq : ∀ k mark r, rstep s lf k mark = some r → ∀ p ∈ r.1, Q p) : ∀ n k mark acc, (∀ p ∈ acc, Q p) → ∀ p ∈ (rrunF s lf n k mark acc).1, Q p
  | 0, k, mark, acc, h => h
  | n + 1, k, mark, acc, h => by
    simp only [rrunF]
    cases hr : rstep s lf k mark with
    | none => exact h
    | some r =>
      refine rrunF_all hq n _ _ _ fun p hp => ?_
      rcases List.mem_append.1 hp with hp | hp
      · exact h p hp
      · exact hq k mark r hr p hp
theorem wpiece_kind (s : List UInt8) (lf : Bool) (k mark : Nat) : (wpiece s lf k mark).1.kind = 51 := by
  unfold wpiece
  simp only
  split <;> rfl
theorem op_in (line : List UInt8) (mark : Nat) : ∀ p ∈ (rdAt line 0 mark).1, p.kind = 52 → opT line p ∈ opsL := by
  have hw : ∀ k m, ∀ p ∈ [(wpiece (ctn line) (lfOf line) k m).1], p.kind = 52 → opT line p ∈ opsL := by
    intro k m p hp hk
    simp only [List.mem_singleton] at hp
    rw [hp, wpiece_kind] at hk
    omega
  have hst : ∀ k m r, rstep (ctn line) (lfOf line) k m = some r → ∀ p ∈ r.1, p.kind = 52 → opT line p ∈ opsL := by
    intro k m r hr p hp hk
    unfold rstep at hr
    split at hr
    · cases hr
    · split at hr
      · cases hr; simp at hp
      · split at hr
        · cases hr; simp at hp; subst hp; simp at hk
        · split at hr
          · rename_i hlt _ _ ho
            cases hr
            simp at hp
            subst hp
            have h0 : opAt (ctn line) k = opN ((ctn line).drop k) := by
              unfold opAt; rw [if_neg (by omega)]; rfl
            rw [h0] at ho
            have hin := opN_in ho
            have hle : opN ((ctn line).drop k) ≤ ctnN line - k := by
              rw [← ctn_length, ← List.length_drop]
              unfold opN
              cases hf : opsL.find? (·.isPrefixOf ((ctn line).drop k)) with
              | none => exact Nat.zero_le _
              | some o =>
                have hp := List.find?_some hf
                rw [List.isPrefixOf_iff_prefix] at hp
                exact hp.length_le
            rw [h0]
            generalize opN ((ctn line).drop k) = n at hin hle
            have e : opT line ⟨52, k, k + n, [], false, false⟩ = ((ctn line).drop k).take n := by
              unfold opT ctn
              simp only
              rw [List.drop_take, Nat.add_sub_cancel_left, List.drop_take, List.take_take, Nat.min_eq_left hle]
            rw [e]
            exact hin
          · split at hr
            · cases hr; simp at hp; subst hp; simp at hk
            · cases hr; exact hw _ _ p hp hk
  have hr : ∀ k m acc, (∀ p ∈ acc, p.kind = 52 → opT line p ∈ opsL) → ∀ p ∈ (rrun (ctn line) (lfOf line) k m acc).1, p.kind = 52 → opT line p ∈ opsL := fun k m acc h => rrunF_all (Q := fun p => p.kind = 52 → opT line p ∈ opsL) hst _ k m acc h
  unfold rdAt
  rw [if_neg (by omega)]
  unfold readM
  split
  · exact hr _ _ _ (hw _ _)
  · exact hr _ _ _ (fun p hp => by cases hp)
theorem ask_ref {o : List UInt8} (h : o ∈ opsL) : [60, 60].isPrefixOf o = (decide (o = [60, 60]) || decide (o = [60, 60, 45])) := by
  have : ∀ o ∈ opsL, [60, 60].isPrefixOf o = (decide (o = [60, 60]) || decide (o = [60, 60, 45])) := by decide
  exact this o h
theorem prun_jnd (line : List UInt8) : ∀ (l : List Pc) (x : PS) (h : l ≠ []), (prun line l x).jnd = decide ((l.getLast h).kind = 54)
  | [p], x, _ => rfl
  | p :: q :: r, x, _ => by
    show (prun line (q :: r) (pstep line p (q :: r) x)).jnd = _
    rw [prun_jnd line (q :: r) _ (List.cons_ne_nil _ _)]
    rfl
theorem Kp.of_app {B cb : Nat} {h h' : H} {v : Value} {cs : List Value} {len : Nat} (sl : SlG none 4 B h v cs len) (f : Fr B h h') (keep : ∀ b, b < h.next → (∀ g x y, v = .slice (some ⟨g, 0, none⟩) x y → g ≠ b) → h'.get b = h.get b) : Kp B cb h h' := by
  refine ⟨f.one, f.next, fun c hc _ => f.get c hc, fun c C own fz ty hc _ q => ?_⟩
  rw [keep c hc, q]
  rintro g x y rfl e
  subst e
  rcases sl with ⟨_, e, _⟩ | ⟨_, _, g', _, _, e, hg'⟩
  · cases e
  · cases e
    rw [hg'] at q
    cases q
/-- The answer's list and state. -/
def RSc (B sb : Nat) (h : H) (s : ShS) (v : Value) (l : List ShE) : Prop := h.get sb = some (.cells (encS s) 0 true 0 none) ∧ SlG none 4 B h v (encEs l) l.length
theorem RSc.fr {B sb : Nat} {h h' : H} {s : ShS} {v : Value} {l : List ShE} (x : RSc B sb h s v l) (hc : sb < h.next) (f : Fr h.next h h') : RSc B sb h' s v l := ⟨(f.get sb hc).trans x.1, x.2.of_get f.next fun g _ hg => f.get g hg⟩
/-- An event more. -/
theorem RSc.app {B sb : Nat} {h : H} {s : ShS} {v : Value} {l : List ShE} (x : RSc B sb h s v l) (e : ShE) (hsb : sb < B) (hB : B ≤ h.next) (h1 : h.one = []) (hl : l.length < 2 ^ 33) {C : List Value} (hC : C = encE e) {K : VPost}
    (hK : ∀ v' h', RSc B sb h' s v' (l ++ [e]) → Kp B sb h h' → K v' h') : OptW (appS none 41 4 24 v 1 C (h.nw (.cells C 4 true 0 none))) K := by
  subst hC
  refine (x.2.nw _).app2 (by simp) (by simp; omega) (by simp [encE]) (by decide) (by rfl) (by omega) (by decide) (.inl rfl) ?_
  intro v' h' sl f keep
  have n1 := f.next
  simp at n1
  refine hK v' h' ⟨?_, ?_⟩ ((Kp.of_fr ((Fr.refl h1).nw (Nat.le_refl _) _) hB).trans (Kp.of_app (x.2.nw _) f keep))
  · rw [f.get sb hsb, get_nw, if_neg (by omega)]; exact x.1
  · exact sl.eq (by simp [encEs]) (by simp)
end Go.Dm
