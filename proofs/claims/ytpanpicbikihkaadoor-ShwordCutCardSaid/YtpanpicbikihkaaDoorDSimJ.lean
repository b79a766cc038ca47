/- The machine D, 24: code. -/
import Derived.Test.YtpanpicbikihkaaDoorDSimI
set_option linter.unusedVariables false
set_option linter.unusedSimpArgs false
namespace Go.Dm

/-- The walk of code from a place on. -/
def Wp (ro : Option Nat) (P : Program) (c : Code) (sk : Option Nat) (Q : Exit → Act → World → Prop) (a : Act) (w : World) : Prop :=
  match sk with
  | none => c.wpIn (FW ro) 0 P Q a w
  | some l => ∃ rest, findLabel c l = some rest ∧ rest.wpIn (FW ro) 0 P Q a w

section
variable {P : Program} {E : Env} (hE : EnvOk P E) {G N : Nat} {ck : CK} (C : CallSim P (okC E G false) G ck) {ro : Option Nat} (hm : P.follows .mixedOrders = true) {rf : Bool} (hrf : rf = true → ro = none)
  {m0 : Inj} {h0 : H} {w0 : World}
/-- The claim for a piece of code. -/
def CodeSim (P : Program) (E : Env) (G N : Nat) (ck : CK) (ro : Option Nat) (rf : Bool) (m0 : Inj) (h0 : H) (w0 : World) (fuel : Nat) (c : Code) : Prop :=
  ∀ (sk : Option Nat) {fr : T Value} {h : H} {e : Ex} {fr' : T Value} {h' : H}, execD E ck fuel c sk fr h = some (e, fr', h') → okC E G rf N c = true →
    ∀ {m : Inj} {w : World} {a : Act} {rs : List Nat} {Q : Exit → Act → World → Prop}, Xs (okC E G false) G m0 h0 w0 N m h w fr a rs →
    (∀ m' w' a' rs', Xs (okC E G false) G m0 h0 w0 N m' h' w' fr' a' rs' → Q (exOf e) a' w') → Wp ro P c sk Q a w

theorem exists_least {p : Nat → Prop} : ∀ n, p n → ∃ k, p k ∧ ∀ j, p j → k ≤ j := by
  intro n
  induction n using Nat.strongRecOn with
  | _ n ih =>
    intro hn
    by_cases h : ∃ k, k < n ∧ p k
    · obtain ⟨k, h1, h2⟩ := h; exact ih k h1 h2
    · exact ⟨n, hn, fun j hj => Nat.le_of_not_lt fun hlt => h ⟨j, hlt, hj⟩⟩
theorem has_least {p : Nat → Prop} (h : ∃ n, p n) : ∃ k, p k ∧ ∀ j, p j → k ≤ j := let ⟨n, hn⟩ := h; exists_least n hn
theorem loop_sim {fuel : Nat} {c : Code} (ih : CodeSim P E G N ck ro rf m0 h0 w0 fuel c) (hok : okC E G rf N c = true) {k : Nat} {fr : T Value} {h : H} {e : Ex} {fr' : T Value} {h' : H}
    (hd : loopD (fun fr h => execD E ck fuel c none fr h) k fr h = some (e, fr', h')) {m : Inj} {w : World} {a : Act} {rs : List Nat} {Q : Exit → Act → World → Prop} (X : Xs (okC E G false) G m0 h0 w0 N m h w fr a rs)
    (hq : ∀ m' w' a' rs', Xs (okC E G false) G m0 h0 w0 N m' h' w' fr' a' rs' → Q (exOf e) a' w') : (Code.loop c).wpIn (FW ro) 0 P Q a w := by
  classical
  let Pn : Nat → Act → World → Prop := fun n a w => ∃ m fr h rs, Xs (okC E G false) G m0 h0 w0 N m h w fr a rs ∧ loopD (fun fr h => execD E ck fuel c none fr h) n fr h = some (e, fr', h')
  refine wpIn_loop (fun a w => ∃ n, Pn n a w) (fun a w => if hx : ∃ n, Pn n a w then (has_least hx).choose else 0) ⟨k, m, fr, h, rs, X, hd⟩ ?_
  intro a w hx
  obtain ⟨m, fr, h, rs, X, hd⟩ := (has_least hx).choose_spec.1
  rw [dif_pos hx]
  generalize hn : (has_least hx).choose = n at hd
  cases n with
  | zero => cases hd
  | succ n =>
    simp only [loopD] at hd
    split at hd
    · rename_i fr1 h1 hb
      refine ih none hb hok X ?_
      intro m' w' a' rs' X'
      have hx' : ∃ n, Pn n a' w' := ⟨n, m', fr1, h1, rs', X', hd⟩
      refine ⟨hx', ?_⟩
      rw [dif_pos hx']
      exact Nat.lt_succ_of_le ((has_least hx').choose_spec.2 n ⟨m', fr1, h1, rs', X', hd⟩)
    · rename_i r hr
      refine ih none hd hok X ?_
      intro m' w' a' rs' X'
      have hQ := hq m' w' a' rs' X'
      cases e with
      | normal => exact absurd hd (hr _ _)
      | _ => exact hQ

theorem scope_sim {fuel : Nat} {c : Code} (ih : CodeSim P E G N ck ro rf m0 h0 w0 fuel c) (hok : okC E G rf N c = true) {fr' : T Value} {h' : H} {e : Ex} {Q : Exit → Act → World → Prop}
    (hq : ∀ m' w' a' rs', Xs (okC E G false) G m0 h0 w0 N m' h' w' fr' a' rs' → Q (exOf e) a' w') : ∀ (k : Nat) (sk : Option Nat) {fr : T Value} {h : H},
    scopeD (hasLabel c) (fun sk fr h => execD E ck fuel c sk fr h) k sk fr h = some (e, fr', h') → ∀ {m : Inj} {w : World} {a : Act} {rs : List Nat}, Xs (okC E G false) G m0 h0 w0 N m h w fr a rs →
    (match sk with
     | none => InSc (FW ro) 0 P c c Q a w
     | some l => ∃ rest, findLabel c l = some rest ∧ InSc (FW ro) 0 P c rest Q a w) := by
  intro k
  induction k with
  | zero => intro sk fr h hd; cases hd
  | succ k ihk =>
    intro sk fr h hd m w a rs X
    simp only [scopeD] at hd
    have key : ∃ e1 fr1 h1, execD E ck fuel c sk fr h = some (e1, fr1, h1) ∧ ∀ m' w' a' rs', Xs (okC E G false) G m0 h0 w0 N m' h1 w' fr1 a' rs' → scPost (FW ro) 0 P c Q (exOf e1) a' w' := by
      split at hd
      · rename_i l fr1 h1 hb
        refine ⟨_, _, _, hb, fun m' w' a' rs' X' => ?_⟩
        split at hd
        · obtain ⟨rest, hf, hin⟩ := ihk (some l) hd X'
          exact .inr ⟨rest, hf, hin⟩
        · rename_i hl
          cases hd
          refine .inl ⟨?_, hq m' w' a' rs' X'⟩
          rw [hasLabel_iff] at hl
          cases hf : findLabel c l with
          | none => rfl
          | some r => rw [hf] at hl; exact absurd rfl hl
      · rename_i r hr
        refine ⟨_, _, _, hd, fun m' w' a' rs' X' => ?_⟩
        have hQ := hq m' w' a' rs' X'
        cases e with
        | goto l => exact absurd hd (hr _ _ _)
        | _ => exact hQ
    obtain ⟨e1, fr1, h1, hb, hpost⟩ := key
    have := ih sk hb hok X hpost
    cases sk with
    | none => exact inSc_pass this
    | some l => obtain ⟨rest, hf, hin⟩ := this; exact ⟨rest, hf, inSc_pass hin⟩

theorem alloc_heap (w : World) (o : Obj) : (w.alloc o).heap = w.heap.push o := rfl
theorem alloc_at (w : World) (o : Obj) : (w.alloc o).heap[w.heap.size]? = some o := by rw [alloc_heap]; simp
theorem alloc_size (w : World) (o : Obj) : (w.alloc o).heap.size = w.heap.size + 1 := by rw [alloc_heap]; simp
theorem alloc_lt (w : World) (o : Obj) {r : Nat} (h : r < w.heap.size) : (w.alloc o).heap[r]? = w.heap[r]? := by
  rw [alloc_heap, Array.getElem?_push, if_neg (by omega)]
theorem HRel.push {ok : OkC} {m : Inj} {h : H} {w : World} (R : HRel ok G m h w) (o : Obj) : HRel ok G m h (w.alloc o) where
  obj b ob i hb hi := (R.obj b ob i hb hi).congr (Ext.refl m) (alloc_lt _ _ (R.dom b i hi).2)
  inj := R.inj
  dom b i hi := ⟨(R.dom b i hi).1, by have := (R.dom b i hi).2; rw [alloc_size]; omega⟩
  one := R.one
  wf := R.wf
  glob := R.glob
theorem Evo.push (m : Inj) (h : H) (w : World) (o : Obj) : Evo m h w m h (w.alloc o) where
  ext := Ext.refl m
  os := rfl
  tape := rfl
  output := rfl
  size := by rw [alloc_size]; omega
  keep r hr _ := alloc_lt w o hr
  new b i e e' := by rw [e] at e'; cases e'
  own r _ := id
end
end Go.Dm
