/- The machine D, 26: functions, rounds: D's calls are followed by the model's. -/
import Derived.Test.YtpanpicbikihkaaDoorDSimK
set_option linter.unusedVariables false
set_option linter.unusedSimpArgs false
namespace Go.Dm

theorem frOf_get : ∀ (l : List Value) (i : Nat) (t : T Value) (k : Nat), (frOf l i t).get k = if i ≤ k ∧ k < i + l.length then l[k - i]? else t.get k := by
  intro l
  induction l with
  | nil => intro i t k; simp only [frOf, List.length_nil]; rw [if_neg (by omega)]
  | cons v l ih =>
    intro i t k
    simp only [frOf, ih, T.get_set, List.length_cons]
    by_cases h1 : i + 1 ≤ k ∧ k < i + 1 + l.length
    · rw [if_pos h1, if_pos (by omega), show k - i = (k - (i + 1)) + 1 by omega]; rfl
    · rw [if_neg h1]
      by_cases h2 : k = i
      · subst h2; rw [if_pos rfl, if_pos (by omega)]; simp
      · rw [if_neg h2, if_neg (by omega)]
theorem frOf_sim {m : Inj} {args args' : List Value} (h : LRel m args args') (n : Nat) (hn : args.length ≤ n) :
    FRel m (frOf args 0 .leaf) (args'.toArray ++ Array.replicate (n - args'.toArray.size) undef) := by
  intro t v ht
  rw [frOf_get] at ht
  split at ht
  · obtain ⟨v', h1, h2⟩ := h.get (i := t) (by simpa using ht)
    refine ⟨v', ?_, h2⟩
    have hlt : t < args'.length := (List.getElem?_eq_some_iff.1 h1).1
    rw [Array.getElem?_append_left (by simpa using hlt)]
    simpa using h1
  · simp at ht

def resOne (tmps : Array Value) (r : ResultVar) : Sem Value :=
  match r with
  | .tmp t => pure (tmps.getD t undef)
  | .cell a t => do loadVar t (← asAddr (tmps.getD a undef))
section
variable {P : Program} {E : Env} (hE : EnvOk P E) {w : World} {m : Inj} {ok : OkC} {G : Nat} {h : H} {fr : T Value} {tmps : Array Value}
include hE in
theorem res_run (R : HRel ok G m h w) (hf : FRel m fr tmps) : ∀ {rs : List ResultVar} {vs : List Value}, resD E fr h rs = some vs →
    ∃ vs', (rs.mapM (resOne tmps)).run P w = .ok vs' w ∧ LRel m vs vs' := by
  intro rs
  induction rs with
  | nil => intro vs hr; simp only [resD] at hr; cases hr; exact ⟨[], rfl, .nil⟩
  | cons r rs ih =>
    intro vs hr
    have fin : ∀ {v v' : Value} {vs0 : List Value}, (resOne tmps r).run P w = .ok v' w → VRel m v v' → resD E fr h rs = some vs0 → ∃ vs', ((r :: rs).mapM (resOne tmps)).run P w = .ok vs' w ∧ LRel m (v :: vs0) vs' := by
      intro v v' vs0 h1 h2 h3
      obtain ⟨vs', k3, k4⟩ := ih h3
      refine ⟨v' :: vs', ?_, .cons h2 k4⟩
      rw [List.mapM_cons]
      simp only [Sem.run_bind, Sem.run_pure, Result.andThen_ok, h1, k3]
    cases r with
    | tmp t =>
      simp only [resD] at hr
      split at hr
      · rename_i v vs0 h1 h2
        cases hr
        obtain ⟨v', k1, k2⟩ := hf t v h1
        have hg : tmps.getD t undef = v' := by rw [Array.getD_eq_getD_getElem?, k1]; rfl
        exact fin (by simp only [resOne, hg, Sem.run_pure]) k2 h2
      · cases hr
    | cell a t =>
      simp only [resD] at hr
      split at hr
      · rename_i p hp
        split at hr
        · rename_i v vs0 h1 h2
          cases hr
          obtain ⟨p', k1, k2⟩ := hf a p hp
          obtain ⟨v', k3, k4⟩ := ld_sim hE R k2 h1
          have hp' : ∃ A, p' = .pointer (some A) := by
            unfold ld at h1
            split at h1
            · obtain ⟨i, _, _, e⟩ := k2.pointer; exact ⟨_, e⟩
            · cases h1
          obtain ⟨A, rfl⟩ := hp'
          have hl : (loadVar t A).run P w = .ok v' w := by
            simpa [Instr.loadAt, Instr.sureAddr] using k3
          have hg : tmps.getD a undef = .pointer (some A) := by rw [Array.getD_eq_getD_getElem?, k1]; rfl
          exact fin (by simp only [resOne, hg, asAddr, Sem.run_bind, Sem.run_pure, Result.andThen_ok, hl]) k4 h2
        · cases hr
      · cases hr
theorem results_eq (fn : Func) (tmps : Array Value) : results fn tmps = (do
    let vs ← fn.results.mapM (resOne tmps)
    pure (if h : vs.size = 1 then vs[0] else .tuple vs)) := by
  unfold results
  congr 2
include hE in
theorem results_sim (R : HRel ok G m h w) (hf : FRel m fr tmps) {fn : Func} {vs : List Value} (hr : resD E fr h fn.results.toList = some vs) : ∃ v', (results fn tmps).run P w = .ok v' w ∧ VRel m (oneD vs) v' := by
  obtain ⟨vs', h1, h2⟩ := res_run hE R hf hr
  refine ⟨if h : vs'.toArray.size = 1 then vs'.toArray[0] else .tuple vs'.toArray, ?_, ?_⟩
  · rw [results_eq, Array.mapM_eq_mapM_toList]
    simp only [Sem.run_bind, Sem.run_map, h1, Result.andThen_ok, Sem.run_pure]
  · cases h2 with
    | nil => exact .tuple .nil
    | cons k1 k2 =>
      cases k2 with
      | nil => exact k1
      | cons k2 k3 => exact .tuple (.cons k1 (.cons k2 k3))
end
end Go.Dm
