/- The machine D, 5: its operations are followed by the model's: cuts, stores, new memory. -/
import Derived.Test.YtpanpicbikihkaaDoorDOpsA
set_option linter.unusedVariables false
set_option linter.unusedSimpArgs false
namespace Go.Dm

theorem setAt_length : ∀ (vs c : List Value) (o : Nat), (setAt c o vs).length = c.length := by
  intro vs
  induction vs with
  | nil => intro c o; rfl
  | cons v vs ih => intro c o; simp [setAt, ih]
theorem setAt_get : ∀ (vs c : List Value) (o j : Nat), (setAt c o vs)[j]? = if o ≤ j ∧ j < o + vs.length ∧ j < c.length then vs[j - o]? else c[j]? := by
  intro vs
  induction vs with
  | nil => intro c o j; simp [setAt]; omega
  | cons v vs ih =>
    intro c o j
    simp only [setAt, ih, List.length_set, List.length_cons]
    by_cases h : o + 1 ≤ j ∧ j < o + 1 + vs.length ∧ j < c.length
    · rw [if_pos h, if_pos (by omega), show j - o = (j - (o + 1)) + 1 by omega, List.getElem?_cons_succ]
    · rw [if_neg h, List.getElem?_set]
      by_cases e : o = j
      · subst e
        by_cases hc : o < c.length
        · rw [if_pos rfl, if_pos (by simpa using hc), if_pos (by omega)]; simp
        · rw [if_pos rfl, if_neg (by simpa using hc), if_neg (by omega)]; simp at hc; simp [hc]
      · rw [if_neg e, if_neg (by omega)]

section
variable {P : Program} {E : Env} (hE : EnvOk P E) {w : World} {m : Inj}

/-- An optional value and its fellow. -/
inductive OV (m : Inj) : Option Value → Option Value → Prop
  | none : OV m none none
  | some {v v' : Value} (h : VRel m v v') : OV m (some v) (some v')
theorem sliceBound_run (k : IntKind) (i : Int) (y : Nat) (c : BoundsCode) (h0 : 0 ≤ i) (h1 : i ≤ (y : Int)) : (Instr.sliceBound (.int k i) y c).run P w = .ok i.toNat w := by
  simp [Instr.sliceBound, asIntOf, h0, h1]
theorem bounds_sim {isS : Bool} {len cap cap' : Nat} {low high max low' high' max' : Option Value} {l hi mx : Nat} (hl : OV m low low') (hh : OV m high high') (hm : OV m max max')
    (hlen : len ≤ cap) (hc : cap ≤ cap') (h : boundsD len cap low high max = some (l, hi, mx)) :
    (Instr.sliceBounds isS len cap' low' high' max').run P w = .ok (l, hi, if max.isSome then mx else cap') w ∧ l ≤ hi ∧ hi ≤ mx ∧ mx ≤ cap ∧ (max.isSome = false → mx = cap) := by
  unfold boundsD at h
  cases hm with
  | none =>
    simp only [Option.isSome_none, Bool.false_eq_true, if_false] at h ⊢
    cases hh with
    | none =>
      simp only at h
      cases hl with
      | none => cases h; simp [Instr.sliceBounds]; omega
      | some hv =>
        rename_i v v'
        cases v with
        | int k i =>
          obtain rfl := hv.int
          simp only at h
          split at h
          · rename_i hb; simp at hb; cases h
            simp [Instr.sliceBounds, sliceBound_run k i len _ hb.1 hb.2]; omega
          · cases h
        | _ => simp at h
    | some hv =>
      rename_i v v'
      cases v with
      | int k i =>
        obtain rfl := hv.int
        simp only at h
        by_cases hb : (0 ≤ i && i ≤ (cap : Int)) = true
        · rw [if_pos hb] at h
          simp at hb
          have hr := fun c => sliceBound_run (P := P) (w := w) k i cap' c hb.1 (by omega)
          simp only at h
          cases hl with
          | none => cases h; simp [Instr.sliceBounds, hr]; omega
          | some hv2 =>
            rename_i u u'
            cases u with
            | int k2 j =>
              obtain rfl := hv2.int
              simp only at h
              split at h
              · rename_i hb2; simp at hb2; cases h
                simp [Instr.sliceBounds, hr, sliceBound_run k2 j i.toNat _ hb2.1 (by omega)]; omega
              · cases h
            | _ => simp at h
        · rw [if_neg hb] at h; cases h
      | _ => simp at h
  | some hvm =>
    rename_i x x'
    cases x with
    | int k0 q =>
      obtain rfl := hvm.int
      simp only [Option.isSome_some, if_true] at h ⊢
      by_cases hq : (0 ≤ q && q ≤ (cap : Int)) = true
      · rw [if_pos hq] at h
        simp at hq
        have hrq := fun c => sliceBound_run (P := P) (w := w) k0 q cap' c hq.1 (by omega)
        simp only at h
        cases hh with
        | none => simp at h
        | some hv =>
          rename_i v v'
          cases v with
          | int k i =>
            obtain rfl := hv.int
            simp only at h
            by_cases hb : (0 ≤ i && i ≤ (q.toNat : Int)) = true
            · rw [if_pos hb] at h
              simp at hb
              have hr := fun c => sliceBound_run (P := P) (w := w) k i q.toNat c hb.1 (by omega)
              simp only at h
              cases hl with
              | none => cases h; simp [Instr.sliceBounds, hr, hrq]; omega
              | some hv2 =>
                rename_i u u'
                cases u with
                | int k2 j =>
                  obtain rfl := hv2.int
                  simp only at h
                  split at h
                  · rename_i hb2; simp at hb2; cases h
                    simp [Instr.sliceBounds, hr, hrq, sliceBound_run k2 j i.toNat _ hb2.1 (by omega)]; omega
                  · cases h
                | _ => simp at h
            · rw [if_neg hb] at h; cases h
          | _ => simp at h
      · rw [if_neg hq] at h; cases h
    | _ => simp at h

include hE in
theorem slice_sim {ok : OkC} {G : Nat} {h : H} (R : HRel ok G m h w) {t : TypeId} {x x' v : Value} {low high max low' high' max' : Option Value} (hx : VRel m x x') (hl : OV m low low') (hh : OV m high high') (hm : OV m max max')
    (hf : sliceD E t x low high max h = some v) : ∃ v', (Instr.sliceAt t x' low' high' max').run P w = .ok v' w ∧ VRel m v v' := by
  unfold sliceD at hf
  split at hf
  · rename_i s hu
    obtain rfl := hx.string
    cases hm with
    | some hm => simp at hf
    | none =>
      simp only [Option.isSome_none, Bool.false_eq_true, if_false] at hf
      split at hf
      · rename_i l hi mx hb
        cases hf
        have hb' := bounds_sim (P := P) (w := w) (isS := false) hl hh (OV.none (m := m)) (Nat.le_refl _) (Nat.le_refl _) hb
        refine ⟨_, ?_, .plain rfl⟩
        simp [Instr.sliceAt, run_underlying hE hu, Instr.slice, hb'.1]
      · cases hf
  · rename_i n elem b o hu
    obtain ⟨i, hi, _, rfl⟩ := hx.pointer
    simp only at hi
    split at hf
    · rename_i l hh' mx sz hb hs
      cases hf
      have hb' := bounds_sim (P := P) (w := w) (isS := false) hl hh hm (Nat.le_refl _) (Nat.le_refl _) hb
      have hmx : (if max.isSome then mx else n) = mx := by
        split
        · rfl
        · rename_i hm0; exact (hb'.2.2.2.2 (by simpa using hm0)).symm
      rw [hmx] at hb'
      refine ⟨.slice (some ⟨i.blk, (if mx = l then o else o + l * sz) + i.off, none⟩) (hh' - l) (mx - l), ?_, .slice hi (by omega) (Nat.le_refl _) (.inl rfl)⟩
      simp only [Instr.sliceAt, Sem.run_bind, run_underlying hE hu, Result.andThen_ok, Instr.sureAddr, Sem.run_pure, hb'.1, run_siz hE hs]
      split
      · rfl
      · rw [add_plain, show o + i.off + l * sz = o + l * sz + i.off by omega]
    · cases hf
  · rename_i elem b o len cap hu
    obtain ⟨a', c', rfl, h1, h2, h3⟩ := hx.slicev
    split at hf
    · rename_i l hh' mx sz c s own fz ty hb hs hg
      split at hf
      · rename_i hst
        cases hf
        have hb' := bounds_sim (P := P) (w := w) (isS := true) hl hh hm h1 h2 hb
        have hmr : ∃ mr, (if max.isSome then mx else c') = mr ∧ mx ≤ mr ∧ mr ≤ c' ∧ (c' = cap → mr = mx) ∧ (mr = mx ∨ mr = c') := by
          refine ⟨_, rfl, ?_⟩
          split
          · exact ⟨Nat.le_refl _, by omega, fun _ => rfl, .inl rfl⟩
          · rename_i hm0
            have := hb'.2.2.2.2 (by simpa using hm0)
            exact ⟨by omega, Nat.le_refl _, by omega, .inr rfl⟩
        obtain ⟨mr, e1, e2, e3, e4, e5⟩ := hmr
        rw [e1] at hb'
        have hrun : (Instr.sliceAt t (.slice (some a') len c') low' high' max').run P w = .ok (.slice (if mr = l then some a' else (some a').map (·.add (l * sz))) (hh' - l) (mr - l)) w := by
          simp only [Instr.sliceAt, Sem.run_bind, run_underlying hE hu, Result.andThen_ok, Instr.slice, hb'.1, run_siz hE hs, Sem.run_pure]
        refine ⟨_, hrun, ?_⟩
        rcases h3 with ⟨q1, q2, q3⟩ | ⟨i, hi, _, rfl, h3⟩
        · have : mr = l := by omega
          rw [if_pos this, show hh' - l = 0 by omega, show mx - l = 0 by omega, show mr - l = 0 by omega]
          exact .slice0
        · simp only at hi
          by_cases e : mr = l
          · rw [if_pos e, show hh' - l = 0 by omega, show mx - l = 0 by omega, show mr - l = 0 by omega]
            exact .slice0
          · rw [if_neg e]
            simp only [Option.map_some, add_plain]
            rw [show o + i.off + l * sz = (o + l * sz) + i.off by omega]
            refine .slice hi (by omega) (by omega) ?_
            rcases h3 with h3 | ⟨h3, h4⟩
            · left; have := e4 h3; omega
            · rcases e5 with e5 | e5
              · left; omega
              · right
                refine ⟨h3, ?_⟩
                have hstr : i.stride = sz := by
                  have := (R.obj b _ i hg hi).1
                  simp at hst
                  omega
                subst e5
                rw [← hstr] at *
                have : l * i.stride + (mr - l) * i.stride = mr * i.stride := by rw [← Nat.add_mul]; congr 1; omega
                simp only at h4
                omega
      · cases hf
    · cases hf
  · rename_i elem hu
    obtain ⟨rfl, _, _⟩ := hx.nils
    split at hf
    · rename_i r n hb hs
      cases hf
      obtain ⟨l, hi', mx⟩ := r
      have hb' := bounds_sim (P := P) (w := w) (isS := true) hl hh hm (Nat.le_refl _) (Nat.le_refl _) hb
      have hmx : (if max.isSome then mx else 0) = 0 := by split <;> omega
      rw [hmx] at hb'
      have hl0 : l = 0 := by omega
      have hi0 : hi' = 0 := by omega
      subst hl0; subst hi0
      refine ⟨.slice none 0 0, ?_, .plain rfl⟩
      simp only [Instr.sliceAt, Sem.run_bind, run_underlying hE hu, Result.andThen_ok, Instr.slice, hb'.1, run_siz hE hs, Sem.run_pure]
      rfl
    · cases hf
  · cases hf
end
end Go.Dm
