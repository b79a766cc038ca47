/- The machine D, 15: each operation of D's is followed by the model's. -/
import Derived.Test.YtpanpicbikihkaaDoorDOpsK
set_option linter.unusedVariables false
set_option linter.unusedSimpArgs false
namespace Go.Dm

/-! ### What is asked of code ahead of all running -/
def okX (G : Nat) : Operand → Bool
  | .const v => plainV v
  | .global g => decide (g < G)
  | _ => true
def okD (N : Nat) : Option Tmp → Bool
  | some d => decide (d < N)
  | none => true
def notDefer : Op → Bool
  | .defer _ => false
  | _ => true
def okO (G N : Nat) (o : Oper) : Bool := o.op.operands.toList.all (okX G) && okD N o.dst && notDefer o.op

/-- The fence that lets all by, in a round or in none. -/
def FW (ro : Option Nat) : Fence := { fn := fun _ => True, depth := none, alive := false, round := ro }
/-- What D's calls come to, the model's come to. -/
structure CallSim (P : Program) (ok : OkC) (G : Nat) (ck : CK) : Prop where
  fn : ∀ {f : FuncId} {args : List Value} {h : H} {v : Value} {h' : H}, ck (.fn f) args h = some (v, h') → ∀ {m : Inj} {w : World} {args' : List Value}, HRel ok G m h w → LRel m args args' →
    (∃ fn, P.funcs[f]? = some fn ∧ fn.body.isSome = true ∧ (fn.name == "runtime.NumGoroutine") = false) ∧
    Calls P f args'.toArray w fun e w' => ∃ v', e = .returned v' ∧ Step ok G m h w v h' v' w'
  yd : ∀ {l : Nat} {args : List Value} {h : H} {v : Value} {h' : H}, ck (.yd l) args h = some (v, h') → ∀ {m : Inj} {w : World} {args' : List Value} {i : Img}, HRel ok G m h w → LRel m args args' → m l = some i →
    ∃ f tmps assign body, (Instr.yield i.blk args'.toArray).run P w = .ok (.round i.blk f tmps assign body) w ∧
      ∀ ro, RoundIn (FW ro) 0 P i.blk f tmps assign body w fun e w' => ∃ v', e = .returned v' ∧ Step ok G m h w v h' v' w'

section
variable {P : Program} {E : Env} (hE : EnvOk P E) {w : World} {m : Inj} {ok : OkC} {G N : Nat} {h : H} {fr : T Value} {a : Act}
theorem ev_sim (R : HRel ok G m h w) (hf : FRel m fr a.tmps) {x : Operand} {v : Value} (hx : okX G x = true) (he : ev fr x = some v) : VRel m v (a.eval x) := by
  cases x with
  | tmp t =>
    obtain ⟨v', h1, h2⟩ := hf t v he
    simp only [Act.eval, Array.getD_eq_getD_getElem?, h1, Option.getD_some]
    exact h2
  | const c => simp only [ev, Option.some.injEq] at he; subst he; exact VRel.plainV hx
  | global g =>
    simp only [ev, Option.some.injEq] at he; subst he
    obtain ⟨i, h1, h2, h3⟩ := R.glob g (by simpa [okX] using hx)
    have := VRel.ptr (m := m) (o := 0) h1
    rw [h2, h3] at this
    exact this
  | func f => simp only [ev, Option.some.injEq] at he; subst he; exact .func .nil .nil
theorem evs_sim (R : HRel ok G m h w) (hf : FRel m fr a.tmps) : ∀ {xs : List Operand} {vs : List Value}, xs.all (okX G) = true → evs fr xs = some vs → LRel m vs (xs.map a.eval) := by
  intro xs
  induction xs with
  | nil => intro vs _ he; simp only [evs] at he; cases he; exact .nil
  | cons x xs ih =>
    intro vs hx he
    simp only [List.all_cons, Bool.and_eq_true] at hx
    simp only [evs] at he
    split at he
    · rename_i v vs' h1 h2
      cases he
      exact .cons (ev_sim R hf hx.1 h1) (ih hx.2 h2)
    · cases he
theorem evps_sim (R : HRel ok G m h w) (hf : FRel m fr a.tmps) : ∀ {xs : List (Nat × Operand)} {vs : List (Nat × Value)}, (xs.map (·.2)).all (okX G) = true → evps fr xs = some vs → PRel m vs (xs.map fun (i, x) => (i, a.eval x)) := by
  intro xs
  induction xs with
  | nil => intro vs _ he; simp only [evps] at he; cases he; exact .nil
  | cons x xs ih =>
    intro vs hx he
    obtain ⟨i, x⟩ := x
    simp only [List.map_cons, List.all_cons, Bool.and_eq_true] at hx
    simp only [evps] at he
    split at he
    · rename_i v vs' h1 h2
      cases he
      exact .cons (ev_sim R hf hx.1 h1) (ih hx.2 h2)
    · cases he
theorem evo_sim (R : HRel ok G m h w) (hf : FRel m fr a.tmps) {x : Option Operand} {v : Option Value} (hx : x.toList.all (okX G) = true) (he : evo fr x = some v) : OV m v (x.map a.eval) := by
  cases x with
  | none => simp only [evo] at he; cases he; exact .none
  | some x =>
    simp only [evo] at he
    cases h1 : ev fr x with
    | none => rw [h1] at he; cases he
    | some u => rw [h1] at he; cases he; exact .some (ev_sim R hf (by simpa using hx) h1)

/-- How an operation that is no call of a Go function ends in the model. -/
def Done (ok : OkC) (G : Nat) (m : Inj) (h : H) (w : World) (v : Value) (h' : H) (r : Result Next) : Prop :=
  (∃ v' w', r = .ok (.value v') w' ∧ Step ok G m h w v h' v' w') ∨ (v = undef ∧ ∃ w', r = .ok .skip w' ∧ Step ok G m h w undef h' undef w')
theorem Done.val {s : Sem Value} {v v' : Value} {h' : H} {w' : World} (hr : s.run P w = .ok v' w') (hs : Step ok G m h w v h' v' w') :
    Done ok G m h w v h' ((do pure (.value (← s)) : Sem Next).run P w) := .inl ⟨v', w', by simp [hr], hs⟩
theorem Done.same {s : Sem Value} {v v' : Value} (R : HRel ok G m h w) (hr : s.run P w = .ok v' w) (hv : VRel m v v') :
    Done ok G m h w v h ((do pure (.value (← s)) : Sem Next).run P w) := Done.val hr (Step.same R hv)
theorem Done.unit {s : Sem Unit} {h' : H} {w' : World} (hr : s.run P w = .ok () w') (he : Evo m h w m h' w') (hR : HRel ok G m h' w') :
    Done ok G m h w undef h' ((do s; pure .skip : Sem Next).run P w) := .inr ⟨rfl, w', by simp [hr], m, he, hR, VRel.undef m⟩
end
end Go.Dm
