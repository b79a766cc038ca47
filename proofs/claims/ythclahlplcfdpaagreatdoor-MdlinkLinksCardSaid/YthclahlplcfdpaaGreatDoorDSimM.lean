/- The machine D, 15: each operation of D's is followed by the model's. -/
import Derived.Test.YthclahlplcfdpaaGreatDoorDOpsK
import Derived.OrdersIn
import Derived.Scope
import Derived.RangeFuncLeaves
set_option linter.unusedVariables false
set_option linter.unusedSimpArgs false
namespace Go.Dm

/-! ### What is asked of code ahead of all running -/
def okX (G : Nat) : Operand → Bool
  | .const v => plainV v
  | .global g => decide (g < G)
  | _ => true
def okD (N : Nat) : Option Tmp → Bool
  | some d => decide (d < N)
  | none => true
def notDefer : Op → Bool
  | .defer _ => false
  | _ => true
def okO (G N : Nat) (o : Oper) : Bool := o.op.operands.toList.all (okX G) && okD N o.dst && notDefer o.op

/-- The fence that lets all by, in a round or in none. -/
def FW (ro : Option Nat) : Fence := { fn := fun _ => True, depth := none, alive := false, round := ro }
/-- What D's calls come to, the model's come to. -/
structure CallSim (P : Program) (ok : OkC) (G : Nat) (ck : CK) : Prop where
  fn : ∀ {f : FuncId} {args : List Value} {h : H} {v : Value} {h' : H}, ck (.fn f) args h = some (v, h') → ∀ {m : Inj} {w : World} {args' : List Value}, HRel ok G m h w → LRel m args args' →
    (∃ fn, P.funcs[f]? = some fn ∧ fn.body.isSome = true ∧ (fn.name == "runtime.NumGoroutine") = false) ∧
    Calls P f args'.toArray w fun e w' => ∃ v', e = .returned v' ∧ Step ok G m h w v h' v' w'
  yd : ∀ {l : Nat} {args : List Value} {h : H} {v : Value} {h' : H}, ck (.yd l) args h = some (v, h') → ∀ {m : Inj} {w : World} {args' : List Value} {i : Img}, HRel ok G m h w → LRel m args args' → m l = some i →
    ∃ f tmps assign body, (Instr.yield i.blk args'.toArray).run P w = .ok (.round i.blk f tmps assign body) w ∧
      ∀ ro, RoundIn (FW ro) 0 P i.blk f tmps assign body w fun e w' => ∃ v', e = .returned v' ∧ Step ok G m h w v h' v' w'

section
variable {P : Program} {E : Env} (hE : EnvOk P E) {w : World} {m : Inj} {ok : OkC} {G N : Nat} {h : H} {fr : T Value} {a : Act}
theorem ev_sim (R : HRel ok G m h w) (hf : FRel m fr a.tmps) {x : Operand} {v : Value} (hx : okX G x = true) (he : ev fr x = some v) : VRel m v (a.eval x) := by
  cases x with
  | tmp t =>
    obtain ⟨v', h1, h2⟩ := hf t v he
    simp only [Act.eval, Array.getD_eq_getD_getElem?, h1, Option.getD_some]
    exact h2
  | const c => simp only [ev, Option.some.injEq] at he; subst he; exact VRel.plainV hx
  | global g =>
    simp only [ev, Option.some.injEq] at he; subst he
    obtain ⟨i, h1, h2, h3⟩ := R.glob g (by simpa [okX] using hx)
    have := VRel.ptr (m := m) (o := 0) h1
    rw [h2, h3] at this
    exact this
  | func f => simp only [ev, Option.some.injEq] at he; subst he; exact .func .nil .nil
theorem evs_sim (R : HRel ok G m h w) (hf : FRel m fr a.tmps) : ∀ {xs : List Operand} {vs : List Value}, xs.all (okX G) = true → evs fr xs = some vs → LRel m vs (xs.map a.eval) := by
  intro xs
  induction xs with
  | nil => intro vs _ he; simp only [evs] at he; cases he; exact .nil
  | cons x xs ih =>
    intro vs hx he
    simp only [List.all_cons, Bool.and_eq_true] at hx
    simp only [evs] at he
    split at he
    · rename_i v vs' h1 h2
      cases he
      exact .cons (ev_sim R hf hx.1 h1) (ih hx.2 h2)
    · cases he
theorem evps_sim (R : HRel ok G m h w) (hf : FRel m fr a.tmps) : ∀ {xs : List (Nat × Operand)} {vs : List (Nat × Value)}, (xs.map (·.2)).all (okX G) = true → evps fr xs = some vs → PRel m vs (xs.map fun (i, x) => (i, a.eval x)) := by
  intro xs
  induction xs with
  | nil => intro vs _ he; simp only [evps] at he; cases he; exact .nil
  | cons x xs ih =>
    intro vs hx he
    obtain ⟨i, x⟩ := x
    simp only [List.map_cons, List.all_cons, Bool.and_eq_true] at hx
    simp only [evps] at he
    split at he
    · rename_i v vs' h1 h2
      cases he
      exact .cons (ev_sim R hf hx.1 h1) (ih hx.2 h2)
    · cases he
theorem evo_sim (R : HRel ok G m h w) (hf : FRel m fr a.tmps) {x : Option Operand} {v : Option Value} (hx : x.toList.all (okX G) = true) (he : evo fr x = some v) : OV m v (x.map a.eval) := by
  cases x with
  | none => simp only [evo] at he; cases he; exact .none
  | some x =>
    simp only [evo] at he
    cases h1 : ev fr x with
    | none => rw [h1] at he; cases he
    | some u => rw [h1] at he; cases he; exact .some (ev_sim R hf (by simpa using hx) h1)

/-- How an operation that is no call of a Go function ends in the model. -/
def Done (ok : OkC) (G : Nat) (m : Inj) (h : H) (w : World) (v : Value) (h' : H) (r : Result Next) : Prop :=
  (∃ v' w', r = .ok (.value v') w' ∧ Step ok G m h w v h' v' w') ∨ (v = undef ∧ ∃ w', r = .ok .skip w' ∧ Step ok G m h w undef h' undef w')
theorem Done.val {s : Sem Value} {v v' : Value} {h' : H} {w' : World} (hr : s.run P w = .ok v' w') (hs : Step ok G m h w v h' v' w') :
    Done ok G m h w v h' ((do pure (.value (← s)) : Sem Next).run P w) := .inl ⟨v', w', by simp [hr], hs⟩
theorem Done.same {s : Sem Value} {v v' : Value} (R : HRel ok G m h w) (hr : s.run P w = .ok v' w) (hv : VRel m v v') :
    Done ok G m h w v h ((do pure (.value (← s)) : Sem Next).run P w) := Done.val hr (Step.same R hv)
theorem Done.unit {s : Sem Unit} {h' : H} {w' : World} (hr : s.run P w = .ok () w') (he : Evo m h w m h' w') (hR : HRel ok G m h' w') :
    Done ok G m h w undef h' ((do s; pure .skip : Sem Next).run P w) := .inr ⟨rfl, w', by simp [hr], m, he, hR, VRel.undef m⟩
end
end Go.Dm

set_option linter.unusedVariables false
set_option linter.unusedSimpArgs false
namespace Go.Dm

/-- Is it the call of a Go function? -/
def goCall : Op → Bool
  | .call c => match c.callee with
    | .builtin _ => false
    | _ => true
  | _ => false

section
variable {P : Program} {E : Env} (hE : EnvOk P E) {w : World} {m : Inj} {ok : OkC} {G N : Nat} {h : H} {fr : T Value} {a : Act} {ck : CK}
theorem all_of {o : Oper} {op : Op} (ho : o.op = op) (hok : okO G N o = true) : op.operands.toList.all (okX G) = true := by
  simp only [okO, Bool.and_eq_true, ho] at hok; exact hok.1.1
theorem map_some {α β : Type} {f : α → β} {x : Option α} {y : β} (e : x.map f = some y) : ∃ z, x = some z ∧ f z = y := by
  cases x with
  | none => cases e
  | some z => cases e; exact ⟨z, rfl, rfl⟩

set_option maxHeartbeats 1000000 in
include hE in
theorem op_done (R : HRel ok G m h w) (hf : FRel m fr a.tmps) {o : Oper} {v : Value} {h' : H} (hok : okO G N o = true) (hd : opD E ck o.op fr h = some (v, h')) (hc : goCall o.op = false) :
    Done ok G m h w v h' ((execOp a.eval o).run P w) := by
  cases hop : o.op with
  | move x =>
    have hx := all_of hop hok; simp [Op.operands] at hx
    rw [hop] at hd
    obtain ⟨u, h1, h2⟩ := map_some hd
    cases h2
    exact .inl ⟨_, w, by simp [execOp, hop], Step.same R (ev_sim R hf hx h1)⟩
  | assign x =>
    have hx := all_of hop hok; simp [Op.operands] at hx
    rw [hop] at hd
    obtain ⟨u, h1, h2⟩ := map_some hd
    cases h2
    exact .inl ⟨_, w, by simp [execOp, hop], Step.same R (ev_sim R hf hx h1)⟩
  | pick c x y =>
    have hx := all_of hop hok; simp [Op.operands] at hx
    rw [hop] at hd
    simp only [opD] at hd
    split at hd
    · rename_i t hc'
      obtain ⟨u, h1, h2⟩ := map_some hd
      cases h2
      have hb := (ev_sim R hf hx.1 hc').bool
      cases t with
      | true => exact .inl ⟨_, w, by simp [execOp, hop, hb, asBool], Step.same R (ev_sim R hf hx.2.1 h1)⟩
      | false => exact .inl ⟨_, w, by simp [execOp, hop, hb, asBool], Step.same R (ev_sim R hf hx.2.2 h1)⟩
    · cases hd
  | alloc t =>
    rw [hop] at hd
    obtain ⟨z, h1, h2⟩ := map_some hd
    obtain ⟨w', k1, k2⟩ := newD_sim (P := P) R ((VRel.plainV (m := m) (zero_plain h1)).cells) 0 t (E.tag_eq t)
    cases h2
    exact .inl ⟨_, w', by simp [execOp, hop, Instr.alloc, run_zero hE h1, newVar, k1], k2⟩
  | box t x =>
    have hx := all_of hop hok; simp [Op.operands] at hx
    rw [hop] at hd
    obtain ⟨u, h1, h2⟩ := map_some hd
    obtain ⟨w', k1, k2⟩ := newD_sim (P := P) R ((ev_sim R hf hx h1).cells) 0 t (E.tag_eq t)
    cases h2
    have k1' : (newRow t (a.eval x).cells).run P w = .ok ⟨w.heap.size, 0, none⟩ w' := by simpa using k1
    exact .inl ⟨_, w', by simp [execOp, hop, Instr.box, newVar, k1'], k2⟩
  | build t parts =>
    have hx := all_of hop hok; simp [Op.operands] at hx
    rw [hop] at hd
    simp only [opD] at hd
    split at hd
    · rename_i ps hps
      obtain ⟨u, h1, h2⟩ := map_some hd
      cases h2
      have hP := evps_sim R hf (xs := parts.toList) (by simpa using hx) hps
      obtain ⟨v', k1, k2⟩ := build_sim hE (w := w) hP h1
      refine .inl ⟨v', w, ?_, Step.same R k2⟩
      have e : (parts.map fun (i, x) => (i, a.eval x)) = (parts.toList.map fun (i, x) => (i, a.eval x)).toArray := by
        apply Array.ext'; simp
      simp [execOp, hop, e, k1]
    · cases hd
  | buildSlice t n parts =>
    have hx := all_of hop hok; simp [Op.operands] at hx
    rw [hop] at hd
    simp only [opD] at hd
    split at hd
    · rename_i ps hps
      have hP := evps_sim R hf (xs := parts.toList) (by simpa using hx) hps
      obtain ⟨v', w', k1, k2⟩ := buildSlice_sim hE R hP hd
      refine .inl ⟨v', w', ?_, k2⟩
      have e : (parts.map fun (i, x) => (i, a.eval x)) = (parts.toList.map fun (i, x) => (i, a.eval x)).toArray := by
        apply Array.ext'; simp
      simp [execOp, hop, e, k1]
    · cases hd
  | insert t x k u =>
    have hx := all_of hop hok; simp [Op.operands] at hx
    rw [hop] at hd
    simp only [opD] at hd
    split at hd
    · rename_i a1 a2 a3 h1 h2 h3
      obtain ⟨q, h4, h5⟩ := map_some hd
      cases h5
      obtain ⟨w', k1, k2, k3⟩ := mapPut_sim hE R (ev_sim R hf hx.1 h1) (ev_sim R hf hx.2.1 h2) (ev_sim R hf hx.2.2 h3) h4
      exact .inr ⟨rfl, w', by simp [execOp, hop, k1], m, k2, k3, VRel.undef m⟩
    · cases hd
  | mapUpdate t x k u =>
    have hx := all_of hop hok; simp [Op.operands] at hx
    rw [hop] at hd
    simp only [opD] at hd
    split at hd
    · rename_i a1 a2 a3 h1 h2 h3
      obtain ⟨q, h4, h5⟩ := map_some hd
      cases h5
      obtain ⟨w', k1, k2, k3⟩ := mapPut_sim hE R (ev_sim R hf hx.1 h1) (ev_sim R hf hx.2.1 h2) (ev_sim R hf hx.2.2 h3) h4
      exact .inr ⟨rfl, w', by simp [execOp, hop, k1], m, k2, k3, VRel.undef m⟩
    · cases hd
  | load t x =>
    have hx := all_of hop hok; simp [Op.operands] at hx
    rw [hop] at hd
    simp only [opD] at hd
    split at hd
    · rename_i a1 h1
      obtain ⟨q, h4, h5⟩ := map_some hd
      cases h5
      obtain ⟨v', k1, k2⟩ := ld_sim hE R (ev_sim R hf hx h1) h4
      exact .inl ⟨v', w, by simp [execOp, hop, k1], Step.same R k2⟩
    · cases hd
  | store t x u =>
    have hx := all_of hop hok; simp [Op.operands] at hx
    rw [hop] at hd
    simp only [opD] at hd
    split at hd
    · rename_i a1 a2 h1 h2
      obtain ⟨q, h4, h5⟩ := map_some hd
      cases h5
      obtain ⟨w', k1, k2, k3⟩ := st_sim hE R (ev_sim R hf hx.1 h1) (ev_sim R hf hx.2 h2) h4
      exact .inr ⟨rfl, w', by simp [execOp, hop, k1], m, k2, k3, VRel.undef m⟩
    · cases hd
  | nilCheck x =>
    have hx := all_of hop hok; simp [Op.operands] at hx
    rw [hop] at hd
    simp only [opD] at hd
    split at hd
    · rename_i a1 h1
      obtain ⟨q, h4, h5⟩ := map_some hd
      cases h5
      have hr := ev_sim R hf hx h1
      obtain ⟨e, k1⟩ := nilCheck_sim (P := P) (w := w) hr h4
      subst e
      exact .inl ⟨_, w, k1 a.eval o x hop rfl, Step.same R hr⟩
    · cases hd
  | binOp op t x y yt =>
    have hx := all_of hop hok; simp [Op.operands] at hx
    rw [hop] at hd
    simp only [opD] at hd
    split at hd
    · rename_i a1 a2 h1 h2
      obtain ⟨q, h4, h5⟩ := map_some hd
      cases h5
      obtain ⟨k1, k2⟩ := binH_sim hE R (ev_sim R hf hx.1 h1) (ev_sim R hf hx.2 h2) h4
      refine .inl ⟨_, w, ?_, Step.same R (.plain k1)⟩
      simp only [execOp, hop]
      simp only [Sem.run_bind] at k2 ⊢
      rw [k2]; rfl
    · cases hd
  | unOp op t x =>
    have hx := all_of hop hok; simp [Op.operands] at hx
    rw [hop] at hd
    simp only [opD] at hd
    split at hd
    · rename_i a1 h1
      obtain ⟨q, h4, h5⟩ := map_some hd
      cases h5
      obtain ⟨k1, k2⟩ := un_sim (P := P) (w := w) (ev_sim R hf hx h1) h4
      exact .inl ⟨_, w, by simp [execOp, hop, k1], Step.same R (.plain k2)⟩
    · cases hd
  | convert s d x =>
    have hx := all_of hop hok; simp [Op.operands] at hx
    rw [hop] at hd
    simp only [opD] at hd
    split at hd
    · rename_i a1 h1
      obtain ⟨v', w', k1, k2⟩ := conv_sim hE R (ev_sim R hf hx h1) hd
      exact .inl ⟨v', w', by simp [execOp, hop, k1], k2⟩
    · cases hd
  | makeInterface t x =>
    have hx := all_of hop hok; simp [Op.operands] at hx
    rw [hop] at hd
    simp only [opD] at hd
    split at hd
    · cases hd
    · rename_i a1 d hn h1 hu
      cases hd
      refine .inl ⟨.iface t (a.eval x), w, ?_, Step.same R (.iface (ev_sim R hf hx h1))⟩
      simp only [execOp, hop, Instr.makeInterface, Sem.run_bind, run_underlying hE hu, Result.andThen_ok]
      cases d <;> first | rfl | (exact absurd hu (hn _))
    · cases hd
  | makeFunc fn first cap =>
    have hx := all_of hop hok
    simp only [Op.operands, Array.toList_append, List.all_append, Bool.and_eq_true] at hx
    rw [hop] at hd
    cases fn with
    | func f =>
      simp only [opD] at hd
      split at hd
      · rename_i a1 a2 h1 h2
        cases hd
        have e1 := evs_sim R hf (xs := first.toList) hx.1 h1
        have e2 := evs_sim R hf (xs := cap.toList) hx.2 h2
        refine .inl ⟨.func (.func f) (first.map a.eval) (cap.map a.eval), w, by simp [execOp, hop, Instr.makeFunc], Step.same R ?_⟩
        have q1 : first.map a.eval = Array.mk (first.toList.map a.eval) := by apply Array.ext'; simp
        have q2 : cap.map a.eval = Array.mk (cap.toList.map a.eval) := by apply Array.ext'; simp
        rw [q1, q2]
        exact .func e1 e2
      · cases hd
    | _ => cases hd
  | makeMap t r =>
    rw [hop] at hd
    cases r with
    | some r => cases hd
    | none =>
      simp only [opD] at hd
      cases hd
      obtain ⟨k1, k2⟩ := newObj_sim (w := w) R (o := .map [] 0) (ob := .map #[] 0) (fun w' hw' => ⟨#[], hw', .nil⟩)
      refine .inl ⟨.map (some w.heap.size), _, ?_, _, k1, k2, .map (Inj.add_self _ _ _)⟩
      simp [execOp, hop, Instr.makeMap]
  | makeSlice t l c =>
    have hx := all_of hop hok; simp [Op.operands] at hx
    rw [hop] at hd
    simp only [opD] at hd
    split at hd
    · rename_i a1 a2 h1 h2
      obtain ⟨v', w', k1, k2⟩ := makeSlice_sim hE R (ev_sim R hf hx.1 h1) (ev_sim R hf hx.2 h2) hd
      exact .inl ⟨v', w', by simp [execOp, hop, k1], k2⟩
    · cases hd
  | slice t x lo hi mx =>
    have hx := all_of hop hok
    simp only [Op.operands, Array.toList_append, List.all_append, Bool.and_eq_true] at hx
    rw [hop] at hd
    simp only [opD] at hd
    split at hd
    · rename_i a1 a2 a3 a4 h1 h2 h3 h4
      obtain ⟨q, h5, h6⟩ := map_some hd
      cases h6
      have hxx : okX G x = true := by simpa using hx.1.1.1
      obtain ⟨v', k1, k2⟩ := slice_sim hE R (ev_sim R hf hxx h1) (evo_sim R hf (by simpa using hx.1.1.2) h2) (evo_sim R hf (by simpa using hx.1.2) h3) (evo_sim R hf (by simpa using hx.2) h4) h5
      exact .inl ⟨v', w, by simp [execOp, hop, k1], Step.same R k2⟩
    · cases hd
  | fieldAddr s x f =>
    have hx := all_of hop hok; simp [Op.operands] at hx
    rw [hop] at hd
    simp only [opD] at hd
    split at hd
    · rename_i a1 h1
      obtain ⟨q, h4, h5⟩ := map_some hd
      cases h5
      obtain ⟨v', k1, k2⟩ := fieldAddr_sim hE (w := w) (ev_sim R hf hx h1) h4
      exact .inl ⟨v', w, by simp [execOp, hop, k1], Step.same R k2⟩
    · cases hd
  | field s x f =>
    have hx := all_of hop hok; simp [Op.operands] at hx
    rw [hop] at hd
    simp only [opD] at hd
    split at hd
    · rename_i a1 h1
      obtain ⟨q, h4, h5⟩ := map_some hd
      cases h5
      obtain ⟨v', k1, k2⟩ := field_sim hE (w := w) (ev_sim R hf hx h1) h4
      exact .inl ⟨v', w, by simp [execOp, hop, k1], Step.same R k2⟩
    · cases hd
  | indexAddr t x i =>
    have hx := all_of hop hok; simp [Op.operands] at hx
    rw [hop] at hd
    simp only [opD] at hd
    split at hd
    · rename_i a1 a2 h1 h2
      obtain ⟨q, h4, h5⟩ := map_some hd
      cases h5
      obtain ⟨v', k1, k2⟩ := indexAddr_sim hE (w := w) (ev_sim R hf hx.1 h1) (ev_sim R hf hx.2 h2) h4
      exact .inl ⟨v', w, by simp [execOp, hop, k1], Step.same R k2⟩
    · cases hd
  | index t x i =>
    have hx := all_of hop hok; simp [Op.operands] at hx
    rw [hop] at hd
    simp only [opD] at hd
    split at hd
    · rename_i a1 a2 h1 h2
      obtain ⟨q, h4, h5⟩ := map_some hd
      cases h5
      obtain ⟨v', k1, k2⟩ := index_sim hE (w := w) (ev_sim R hf hx.1 h1) (ev_sim R hf hx.2 h2) h4
      exact .inl ⟨v', w, by simp [execOp, hop, k1], Step.same R k2⟩
    · cases hd
  | lookup t x k c =>
    have hx := all_of hop hok; simp [Op.operands] at hx
    rw [hop] at hd
    simp only [opD] at hd
    split at hd
    · rename_i a1 a2 h1 h2
      obtain ⟨q, h4, h5⟩ := map_some hd
      cases h5
      obtain ⟨v', k1, k2⟩ := lookup_sim hE R (ev_sim R hf hx.1 h1) (ev_sim R hf hx.2 h2) h4
      exact .inl ⟨v', w, by simp [execOp, hop, k1], Step.same R k2⟩
    · cases hd
  | extract x i =>
    have hx := all_of hop hok; simp [Op.operands] at hx
    rw [hop] at hd
    simp only [opD] at hd
    split at hd
    · rename_i a1 h1
      obtain ⟨q, h4, h5⟩ := map_some hd
      cases h5
      obtain ⟨v', k1, k2⟩ := extract_sim (P := P) (w := w) (ev_sim R hf hx h1) h4
      exact .inl ⟨v', w, by simp [execOp, hop, k1], Step.same R k2⟩
    · cases hd
  | range t x =>
    have hx := all_of hop hok; simp [Op.operands] at hx
    rw [hop] at hd
    simp only [opD] at hd
    split at hd
    · rename_i s hu h1
      cases hd
      have hs := (ev_sim R hf hx h1).string
      obtain ⟨k1, k2⟩ := newObj_sim (w := w) R (o := .siter s 0) (ob := .stringIter s 0) (fun w' hw' => ⟨rfl, hw'⟩)
      refine .inl ⟨.pointer (some ⟨w.heap.size, 0, none⟩), _, ?_, _, k1, k2, ?_⟩
      · simp [execOp, hop, Instr.range, run_underlying hE hu, hs]
      · exact .ptr (Inj.add_self _ _ _)
    · cases hd
  | next it b =>
    have hx := all_of hop hok; simp [Op.operands] at hx
    rw [hop] at hd
    cases b with
    | false => cases hd
    | true =>
      simp only [opD] at hd
      split at hd
      · rename_i r h1
        obtain ⟨i, hi, _, hp⟩ := (ev_sim R hf hx h1).pointer
        split at hd
        · rename_i s pos hb
          obtain ⟨hoff, hob⟩ := R.obj r _ i hb hi
          simp only [hoff, Nat.add_zero] at hp
          have hg : (getObj i.blk).run P w = .ok (.stringIter s pos) w := by simp [getObj, Sem.run, hob]
          have hset := fun o => run_setObjW (P := P) hob (by intro c e f q; cases q) o
          split at hd
          · rename_i hlt
            cases hd
            refine .inl ⟨_, setObjW w i.blk (.stringIter s (pos + (Utf8.decode s pos).2)), ?_, m, Evo.upd hb rfl hi rfl rfl rfl (setObjW_facts ..).size (setObjW_facts ..).other, R.upd hb rfl hi (setObjW_facts ..).size (setObjW_facts ..).other ⟨hoff, setObjW_at hob _⟩, .tuple (.cons (.plain rfl) (.cons (.plain rfl) (.cons (.plain rfl) .nil)))⟩
            simp [execOp, hop, Instr.next, hp, hg, hlt, hset, goInt, intV]
          · rename_i hlt
            cases hd
            refine .inl ⟨_, w, ?_, Step.same R (.tuple (.cons (.plain rfl) .nil))⟩
            simp [execOp, hop, Instr.next, hp, hg, hlt]
        · cases hd
      · cases hd
  | call c =>
    have hx := all_of hop hok
    rw [hop] at hd hc
    simp only [opD] at hd
    split at hd
    · cases hd
    · rename_i args hargs
      have hxa : c.args.toList.all (okX G) = true := by
        simp only [Op.operands, Call.operands, Array.toList_append, List.all_append, Bool.and_eq_true] at hx
        exact hx.2
      have hL := evs_sim R hf hxa hargs
      have hm : c.args.map a.eval = (c.args.toList.map a.eval).toArray := by apply Array.ext'; simp
      cases hcal : c.callee with
      | value f => simp [goCall, hcal] at hc
      | invoke r n => simp [goCall, hcal] at hc
      | builtin b =>
        rw [hcal] at hd
        cases b with
        | len =>
          simp only at hd
          split at hd
          · rename_i t x hts
            obtain ⟨q, h4, h5⟩ := map_some hd
            cases h5
            rcases hLL : c.args.toList.map a.eval with _ | ⟨x', _ | ⟨y', l⟩⟩
            · rw [hLL] at hL; cases hL
            · rw [hLL] at hL hm
              cases hL with
              | cons hv _ =>
                obtain ⟨k1, k2⟩ := len_sim (P := P) hE R (r := o.type) hv hts h4
                refine .inl ⟨_, w, ?_, Step.same R (.plain k2)⟩
                simp only [execOp, hop, resolve, hcal, invoke, builtin, Sem.run_bind, Sem.run_pure, Result.andThen_ok, hm, k1]
            · rw [hLL] at hL; cases hL with | cons _ k => cases k
          · cases hd
        | append =>
          simp only at hd
          split at hd
          · rename_i s x
            rcases hLL : c.args.toList.map a.eval with _ | ⟨x', _ | ⟨y', _ | ⟨z', l⟩⟩⟩
            · rw [hLL] at hL; cases hL
            · rw [hLL] at hL; cases hL with | cons _ k => cases k
            · rw [hLL] at hL hm
              cases hL with
              | cons hv k =>
                cases k with
                | cons hv2 _ =>
                  obtain ⟨v', w', k1, k2⟩ := append_sim (P := P) hE R (r := o.type) hv hv2 hd
                  refine .inl ⟨v', w', ?_, k2⟩
                  simp only [execOp, hop, resolve, hcal, invoke, builtin, Sem.run_bind, Sem.run_pure, Result.andThen_ok, hm, k1]
            · rw [hLL] at hL; cases hL with | cons _ k => cases k with | cons _ k => cases k
          · cases hd
        | copy =>
          simp only at hd
          split at hd
          · rename_i s x
            rcases hLL : c.args.toList.map a.eval with _ | ⟨x', _ | ⟨y', _ | ⟨z', l⟩⟩⟩
            · rw [hLL] at hL; cases hL
            · rw [hLL] at hL; cases hL with | cons _ k => cases k
            · rw [hLL] at hL hm
              cases hL with
              | cons hv k =>
                cases k with
                | cons hv2 _ =>
                  obtain ⟨v', w', k1, k2⟩ := copy_sim (P := P) hE R (r := o.type) hv hv2 hd
                  refine .inl ⟨v', w', ?_, k2⟩
                  simp only [execOp, hop, resolve, hcal, invoke, builtin, Sem.run_bind, Sem.run_pure, Result.andThen_ok, hm, k1]
            · rw [hLL] at hL; cases hL with | cons _ k => cases k with | cons _ k => cases k
          · cases hd
        | min =>
          simp only at hd
          split at hd
          · rename_i s x
            obtain ⟨q, h4, h5⟩ := map_some hd
            cases h5
            rcases hLL : c.args.toList.map a.eval with _ | ⟨x', _ | ⟨y', _ | ⟨z', l⟩⟩⟩
            · rw [hLL] at hL; cases hL
            · rw [hLL] at hL; cases hL with | cons _ k => cases k
            · rw [hLL] at hL hm
              cases hL with
              | cons hv k =>
                cases k with
                | cons hv2 _ =>
                  obtain ⟨k1, k2⟩ := min_sim (P := P) (w := w) hv hv2 h4
                  refine .inl ⟨_, w, ?_, Step.same R (.plain k2)⟩
                  simp only [execOp, hop, resolve, hcal, invoke, builtin, Builtin.min_, Sem.run_bind, Sem.run_pure, Result.andThen_ok, hm, List.foldlM_cons, List.foldlM_nil, k1]
            · rw [hLL] at hL; cases hL with | cons _ k => cases k with | cons _ k => cases k
          · cases hd
        | max =>
          simp only at hd
          split at hd
          · rename_i s x
            obtain ⟨q, h4, h5⟩ := map_some hd
            cases h5
            rcases hLL : c.args.toList.map a.eval with _ | ⟨x', _ | ⟨y', _ | ⟨z', l⟩⟩⟩
            · rw [hLL] at hL; cases hL
            · rw [hLL] at hL; cases hL with | cons _ k => cases k
            · rw [hLL] at hL hm
              cases hL with
              | cons hv k =>
                cases k with
                | cons hv2 _ =>
                  obtain ⟨k1, k2⟩ := max_sim (P := P) (w := w) hv hv2 h4
                  refine .inl ⟨_, w, ?_, Step.same R (.plain k2)⟩
                  simp only [execOp, hop, resolve, hcal, invoke, builtin, Builtin.max_, Sem.run_bind, Sem.run_pure, Result.andThen_ok, hm, List.foldlM_cons, List.foldlM_nil, k1]
            · rw [hLL] at hL; cases hL with | cons _ k => cases k with | cons _ k => cases k
          · cases hd
        | delete =>
          simp only at hd
          split at hd
          · rename_i t rest s x hts
            obtain ⟨q, h4, h5⟩ := map_some hd
            cases h5
            rcases hLL : c.args.toList.map a.eval with _ | ⟨x', _ | ⟨y', _ | ⟨z', l⟩⟩⟩
            · rw [hLL] at hL; cases hL
            · rw [hLL] at hL; cases hL with | cons _ k => cases k
            · rw [hLL] at hL hm
              cases hL with
              | cons hv k =>
                cases k with
                | cons hv2 _ =>
                  obtain ⟨w', k1, k2, k3⟩ := mapDel_sim (P := P) hE R (rt := o.type) hts hv hv2 h4
                  refine .inl ⟨_, w', ?_, m, k2, k3, .tuple .nil⟩
                  simp only [execOp, hop, resolve, hcal, invoke, builtin, Sem.run_bind, Sem.run_pure, Result.andThen_ok, hm, k1]
            · rw [hLL] at hL; cases hL with | cons _ k => cases k with | cons _ k => cases k
          · cases hd
        | _ => cases hd
  | _ => rw [hop] at hd; cases hd
end
end Go.Dm

set_option linter.unusedVariables false
set_option linter.unusedSimpArgs false
namespace Go.Dm

section
variable {P : Program} {E : Env} (hE : EnvOk P E) {w : World} {m : Inj} {ok : OkC} {G N : Nat} {h : H} {fr : T Value} {a : Act} {ck : CK}
theorem callsIn_FW {ro : Option Nat} {n : Nat} {f : FuncId} {args : Array Value} {R : Ending → World → Prop} (hc : Calls P f args w R) : CallsIn (FW ro) n P f args w R :=
  callsIn_wide.2 hc
theorem callFunc_run {f : FuncId} {fn : Func} (h1 : P.funcs[f]? = some fn) (h2 : fn.body.isSome = true) (h3 : (fn.name == "runtime.NumGoroutine") = false) (args : Array Value) :
    (callFunc f args).run P w = .ok (.enter f args) w := by
  have h4 : fn.body.isNone = false := by cases hb : fn.body <;> simp_all
  simp only [callFunc, Sem.run_bind, run_program, Result.andThen_ok, h1, h3, h4, Bool.false_eq_true, if_false]
  rfl
include hE in
theorem op_wp (C : CallSim P ok G ck) (R : HRel ok G m h w) (hf : FRel m fr a.tmps) {o : Oper} {v : Value} {h' : H} (hok : okO G N o = true) (hd : opD E ck o.op fr h = some (v, h'))
    {ro : Option Nat} {next : Act → World → Prop} {Q : Exit → Act → World → Prop}
    (hn : ∀ m' v' w', Evo m h w m' h' w' → HRel ok G m' h' w' → VRel m' v v' → next (a.put o.dst v') w') : o.wpIn (FW ro) 0 P a w next Q := by
  have hdef : ∀ c, o.op ≠ .defer c := by
    intro c hc
    simp only [okO, Bool.and_eq_true, hc, notDefer] at hok
    exact absurd hok.2 (by simp)
  refine ⟨fun _ _ => trivial, ?_⟩
  rw [show (FW ro).round = ro from rfl, Oper.semAt_eq _ _ _ hdef]
  by_cases hg : goCall o.op = false
  · rcases op_done hE R hf hok hd hg with ⟨v', w', hr, m', k1, k2, k3⟩ | ⟨rfl, w', hr, m', k1, k2, k3⟩
    · rw [hr]; exact hn m' v' w' k1 k2 k3
    · rw [hr]; exact hn m' undef w' k1 k2 k3
  · cases hop : o.op with
    | call c =>
      have hx := all_of hop hok
      have hxa : c.args.toList.all (okX G) = true := by
        simp only [Op.operands, Call.operands, Array.toList_append, List.all_append, Bool.and_eq_true] at hx
        exact hx.2
      have hm : c.args.map a.eval = (c.args.toList.map a.eval).toArray := by apply Array.ext'; simp
      rw [hop] at hd hg
      simp only [opD] at hd
      split at hd
      · cases hd
      · rename_i args hargs
        have hL := evs_sim R hf hxa hargs
        have fin : ∀ (g : FuncId) (full : List Value) (full' : List Value), LRel m full full' → ck (.fn g) full h = some (v, h') → (execOp a.eval o).run P w = (callFunc g full'.toArray).run P w →
            o.uponIn (FW ro) 0 P a next Q ((execOp a.eval o).run P w) := by
          intro g full full' hl hck he
          obtain ⟨⟨fn, e1, e2, e3⟩, hcall⟩ := C.fn hck R hl
          rw [he, callFunc_run e1 e2 e3]
          refine ⟨fun h => (by cases h), callsIn_FW (hcall.mono ?_)⟩
          rintro e w' ⟨v', rfl, m', k1, k2, k3⟩
          exact hn m' v' w' k1 k2 k3
        cases hcal : c.callee with
        | builtin b => simp [goCall, hcal] at hg
        | value f =>
          rw [hcal] at hd
          simp only at hd
          split at hd
          · rename_i fv hfv
            have hxf : okX G f = true := by
              simp only [Op.operands, Call.operands, hcal, Array.toList_append, List.all_append, Bool.and_eq_true] at hx
              simpa using hx.1
            have hr := ev_sim R hf hxf hfv
            unfold callFnD at hd
            split at hd
            · rename_i g first cap
              obtain ⟨first', cap', e, l1, l2⟩ := hr.funcv
              refine fin g _ (first'.toList ++ c.args.toList.map a.eval ++ cap'.toList) ((l1.append hL).append l2) hd ?_
              have harr : (first' ++ c.args.map a.eval) ++ cap' = (first'.toList ++ c.args.toList.map a.eval ++ cap'.toList).toArray := by
                apply Array.ext'; simp
              simp only [execOp, hop, resolve, hcal, e, Deferred.ofValue, Sem.run_bind, Sem.run_pure, Result.andThen_ok, invoke, harr]
            · rename_i l x1 x2
              obtain ⟨i, hi, e, _, _⟩ := hr.yieldv
              obtain ⟨f', tmps, assign, body, hy, hround⟩ := C.yd hd R hL hi
              have hrun : (execOp a.eval o).run P w = .ok (.round i.blk f' tmps assign body) w := by
                simp only [execOp, hop, resolve, hcal, e, Deferred.ofValue, Sem.run_bind, Sem.run_pure, Result.andThen_ok, invoke]
                rw [show (#[] ++ c.args.map a.eval) = (c.args.toList.map a.eval).toArray by apply Array.ext'; simp]
                exact hy
              rw [hrun]
              refine ⟨fun h => (by cases h), (hround ro).mono ?_⟩
              rintro e w' ⟨v', rfl, m', k1, k2, k3⟩
              exact hn m' v' w' k1 k2 k3
            · cases hd
          · cases hd
        | invoke r name =>
          rw [hcal] at hd
          simp only at hd
          split at hd
          · rename_i t u hr0
            have hxr : okX G r = true := by
              simp only [Op.operands, Call.operands, hcal, Array.toList_append, List.all_append, Bool.and_eq_true] at hx
              simpa using hx.1
            obtain ⟨u', e, hu⟩ := (ev_sim R hf hxr hr0).ifacev
            split at hd
            · rename_i g rv hmd
              obtain ⟨rfl, hmr⟩ := method_sim hE (w := w) hu hmd (P.types.size + Made.depth - 1)
              have hfuel : P.types.size + Made.depth - 1 + 1 = P.types.size + Made.depth := by
                have : 1 ≤ Made.depth := by decide
                omega
              rw [hfuel] at hmr
              refine fin g _ (u' :: c.args.toList.map a.eval) (.cons hu hL) hd ?_
              have harr : (#[a.eval r] ++ c.args.map a.eval).extract 1 (#[a.eval r] ++ c.args.map a.eval).size = c.args.map a.eval := by
                apply Array.ext'; simp [Array.toList_extract, List.extract, List.take_of_length_le]
              have h0 : (#[a.eval r] ++ c.args.map a.eval)[0]? = some (.iface t u') := by rw [Array.getElem?_append_left (by simp)]; simp [e]
              have harr2 : #[u'] ++ c.args.map a.eval = (u' :: c.args.toList.map a.eval).toArray := by apply Array.ext'; simp
              simp only [execOp, hop, resolve, hcal, Sem.run_bind, Sem.run_pure, Result.andThen_ok, invoke, h0, harr, callMethod, run_program, hmr, harr2]
            · cases hd
          · cases hd
    | _ => simp [goCall, hop] at hg
end
end Go.Dm

set_option linter.unusedVariables false
set_option linter.unusedSimpArgs false
namespace Go.Dm

/-! ### An operation looks at its operands alone -/
theorem evs_congr {fr fr2 : T Value} : ∀ {xs : List Operand}, (∀ x ∈ xs, ev fr x = ev fr2 x) → evs fr xs = evs fr2 xs := by
  intro xs
  induction xs with
  | nil => intro _; rfl
  | cons x xs ih =>
    intro h
    simp only [evs, h x (List.mem_cons_self ..), ih fun y hy => h y (List.mem_cons_of_mem _ hy)]
theorem evps_congr {fr fr2 : T Value} : ∀ {xs : List (Nat × Operand)}, (∀ x ∈ xs.map (·.2), ev fr x = ev fr2 x) → evps fr xs = evps fr2 xs := by
  intro xs
  induction xs with
  | nil => intro _; rfl
  | cons x xs ih =>
    intro h
    obtain ⟨i, x⟩ := x
    simp only [List.map_cons, List.mem_cons, forall_eq_or_imp] at h
    simp only [evps, h.1, ih h.2]
theorem evo_congr {fr fr2 : T Value} {x : Option Operand} (h : ∀ y ∈ x.toList, ev fr y = ev fr2 y) : evo fr x = evo fr2 x := by
  cases x with
  | none => rfl
  | some x => simp only [evo, h x (by simp)]
theorem opD_congr {E : Env} {ck : CK} {o : Op} {fr fr2 : T Value} {h : H} (hx : ∀ x ∈ o.operands.toList, ev fr x = ev fr2 x) : opD E ck o fr h = opD E ck o fr2 h := by
  cases o with
  | build t ps =>
    have : evps fr ps.toList = evps fr2 ps.toList := evps_congr (by simpa [Op.operands] using hx)
    simp only [opD, this]
  | buildSlice t n ps =>
    have : evps fr ps.toList = evps fr2 ps.toList := evps_congr (by simpa [Op.operands] using hx)
    simp only [opD, this]
  | makeFunc f a b =>
    simp only [Op.operands, Array.toList_append, List.mem_append] at hx
    have h1 : evs fr a.toList = evs fr2 a.toList := evs_congr fun x hm => hx x (.inl hm)
    have h2 : evs fr b.toList = evs fr2 b.toList := evs_congr fun x hm => hx x (.inr hm)
    cases f <;> simp only [opD, h1, h2]
  | slice t x lo hi mx =>
    simp only [Op.operands, Array.toList_append, List.mem_append] at hx
    have h1 : evo fr lo = evo fr2 lo := evo_congr fun x hm => hx x (.inl (.inl (.inr (by simpa using hm))))
    have h2 : evo fr hi = evo fr2 hi := evo_congr fun x hm => hx x (.inl (.inr (by simpa using hm)))
    have h3 : evo fr mx = evo fr2 mx := evo_congr fun x hm => hx x (.inr (by simpa using hm))
    simp only [opD, h1, h2, h3, hx x (by simp)]
  | call c =>
    simp only [Op.operands, Call.operands, Array.toList_append, List.mem_append] at hx
    have h1 : evs fr c.args.toList = evs fr2 c.args.toList := evs_congr fun x hm => hx x (.inr hm)
    simp only [opD, h1]
    cases hc : c.callee with
    | value f => rw [hc] at hx; simp only [hx f (.inl (by simp))]
    | invoke r n => rw [hc] at hx; simp only [hx r (.inl (by simp))]
    | builtin b =>
      cases evs fr2 c.args.toList with
      | none => rfl
      | some args => cases b <;> rfl
  | next it b =>
    cases b with
    | true => simp only [opD, hx it (by simp [Op.operands])]
    | false => rfl
  | makeMap t r => cases r <;> rfl
  | _ => simp [Op.operands] at hx <;> simp only [opD, hx]

/-- What is read in one memory is read in any that holds as much. -/
def Holds (h h2 : H) : Prop := ∀ b o, h.get b = some o → h2.get b = some o
/-- Close an operation's effect: memory unchanged. -/
def PureOp (E : Env) (ck : CK) (o : Op) (fr : T Value) (h : H) (v : Value) (h' : H) : Prop := h' = h ∧ ∀ h2, opD E ck o fr h2 = some (v, h2)
def ReadOp (E : Env) (ck : CK) (o : Op) (fr : T Value) (h : H) (v : Value) (h' : H) : Prop := h' = h ∧ ∀ h2, Holds h h2 → opD E ck o fr h2 = some (v, h2)
def FreshOp (E : Env) (ck : CK) (o : Op) (fr : T Value) (h : H) (v : Value) (h' : H) : Prop := ∃ ob, h' = h.new ob ∧ ∀ h2 : H, h2.addr = h.addr → opD E ck o fr h2 = some (v, h2.new ob)

theorem opt_map {α : Type} {x : Option α} {v : α} {h h' : H} (e : x.map (·, h) = some (v, h')) : h' = h ∧ ∀ h2 : H, x.map (·, h2) = some (v, h2) := by
  cases x with
  | none => cases e
  | some u => cases e; exact ⟨rfl, fun _ => rfl⟩
section
variable {E : Env} {ck : CK} {fr : T Value} {h h' : H} {v : Value}
theorem pureOp {o : Op} (hc : cls E o = .pure) (hd : opD E ck o fr h = some (v, h')) : PureOp E ck o fr h v h' := by
  unfold PureOp
  cases o with
  | move x => exact opt_map hd
  | assign x => exact opt_map hd
  | pick c a b =>
    simp only [opD] at hd ⊢
    split at hd
    · exact opt_map hd
    · cases hd
  | build t ps =>
    simp only [opD] at hd ⊢
    split at hd
    · exact opt_map hd
    · cases hd
  | nilCheck x =>
    simp only [opD] at hd ⊢
    split at hd
    · exact opt_map hd
    · cases hd
  | binOp op t x y yt =>
    simp only [opD] at hd ⊢
    split at hd
    · rename_i a b ha hb
      obtain ⟨u, e1, e2⟩ := map_some hd
      cases e2
      refine ⟨rfl, fun h2 => ?_⟩
      have : binHD E op t x y a b h2 = some v := by
        have key : ∀ p q, a = .pointer (some p) → b = .pointer (some q) → ptrB E t p q h = none := by
          rintro p q rfl rfl
          simp only [cls] at hc
          split at hc
          · rename_i hn
            simp only [Bool.or_eq_true] at hn
            rcases hn with hn | hn
            · unfold isNil at hn
              split at hn
              · cases ha
              · cases hn
            · unfold isNil at hn
              split at hn
              · cases hb
              · cases hn
          · split at hc
            · cases hc
            · rename_i hu
              unfold ptrB
              split
              · rename_i e hu2; exact absurd hu2 (hu e)
              · rfl
        unfold binHD at e1 ⊢
        split at e1
        · rw [key _ _ rfl rfl] at e1; cases e1
        · rw [key _ _ rfl rfl] at e1; cases e1
        · exact e1
      rw [this]; rfl
    · cases hd
  | unOp op t x =>
    simp only [opD] at hd ⊢
    split at hd
    · exact opt_map hd
    · cases hd
  | makeInterface t x =>
    simp only [opD] at hd ⊢
    split at hd
    · cases hd
    · cases hd; exact ⟨rfl, fun _ => rfl⟩
    · cases hd
  | makeFunc f a b =>
    cases f with
    | func f =>
      simp only [opD] at hd ⊢
      split at hd
      · cases hd; exact ⟨rfl, fun _ => rfl⟩
      · cases hd
    | _ => cases hd
  | fieldAddr s x f =>
    simp only [opD] at hd ⊢
    split at hd
    · exact opt_map hd
    · cases hd
  | field s x f =>
    simp only [opD] at hd ⊢
    split at hd
    · exact opt_map hd
    · cases hd
  | indexAddr s x f =>
    simp only [opD] at hd ⊢
    split at hd
    · exact opt_map hd
    · cases hd
  | index s x f =>
    simp only [opD] at hd ⊢
    split at hd
    · exact opt_map hd
    · cases hd
  | extract x f =>
    simp only [opD] at hd ⊢
    split at hd
    · exact opt_map hd
    · cases hd
  | slice t x lo hi mx =>
    simp only [opD] at hd ⊢
    split at hd
    · rename_i a1 a2 a3 a4 e1 e2 e3 e4
      have hs : ∀ h2, sliceD E t a1 a2 a3 a4 h2 = sliceD E t a1 a2 a3 a4 h := by
        intro h2
        simp only [cls] at hc
        unfold sliceD
        split at hc
        · rename_i hu; rw [hu]; cases a1 <;> rfl
        · rename_i hu; rw [hu]
          cases a1 with
          | pointer p =>
            cases p with
            | none => rfl
            | some p => obtain ⟨b, o, sp⟩ := p; cases sp <;> rfl
          | _ => rfl
        · cases hc
      have := opt_map hd
      exact ⟨this.1, fun h2 => by rw [hs h2]; exact this.2 h2⟩
    · cases hd
  | convert s d x =>
    simp only [opD] at hd ⊢
    split at hd
    · rename_i a1 e1
      simp only [cls] at hc
      split at hc
      · rename_i k e2 e3
        unfold convD at hd ⊢
        rw [e2, e3] at hd ⊢
        cases a1 <;> simp at hd ⊢
        exact ⟨hd.2.symm, fun _ => hd.1⟩
      all_goals cases hc
    · cases hd
  | call c =>
    simp only [cls] at hc
    split at hc
    · rename_i hcal
      split at hc
      · rename_i t hts
        simp only [opD] at hd ⊢
        split at hd
        · cases hd
        · rename_i args ha
          rw [hcal] at hd ⊢
          simp only [hts] at hd ⊢
          split at hd
          · rename_i t' x ht
            cases ht
            have hl : ∀ h2, lenD E t x h2 = lenD E t x h := by
              intro h2
              unfold lenD
              split at hc
              · rename_i hu; rw [hu]; cases x <;> rfl
              · rename_i hu; rw [hu]; cases x <;> rfl
              · rename_i hu; rw [hu]
              · cases hc
            have := opt_map hd
            exact ⟨this.1, fun h2 => by rw [hl h2]; exact this.2 h2⟩
          · cases hd
      · cases hc
    · rename_i hcal
      simp only [opD] at hd ⊢
      split at hd
      · cases hd
      · rw [hcal] at hd ⊢
        simp only at hd ⊢
        split at hd
        · exact opt_map hd
        · cases hd
    · rename_i hcal
      simp only [opD] at hd ⊢
      split at hd
      · cases hd
      · rw [hcal] at hd ⊢
        simp only at hd ⊢
        split at hd
        · exact opt_map hd
        · cases hd
    · cases hc
  | makeMap t r => cases r <;> cases hc
  | _ => cases hc
theorem readAt {b o len : Nat} {h h2 : H} (hh : Holds h h2) {vs : List Value} (e : readD b o len h = some vs) : readD b o len h2 = some vs := by
  unfold readD at e ⊢
  split at e
  · rename_i hb; rw [hh _ _ hb]; exact e
  · cases e
theorem readOp {o : Op} (hc : cls E o = .read) (hd : opD E ck o fr h = some (v, h')) : ReadOp E ck o fr h v h' := by
  unfold ReadOp
  cases o with
  | load t x =>
    simp only [opD] at hd ⊢
    split at hd
    · rename_i a ha
      have hm := opt_map hd
      refine ⟨hm.1, fun h2 hh => ?_⟩
      obtain ⟨u, e1, e2⟩ := map_some hd
      have : ld E t a h2 = some u := by
        unfold ld at e1 ⊢
        split at e1
        · unfold ldAt at e1 ⊢
          split at e1
          · rename_i hb; rw [hh _ _ hb]; exact e1
          · cases e1
        · cases e1
      rw [this]; cases e2; rfl
    · cases hd
  | binOp op t x y yt =>
    simp only [opD] at hd ⊢
    split at hd
    · rename_i a b ha hb
      obtain ⟨u, e1, e2⟩ := map_some hd
      cases e2
      refine ⟨rfl, fun h2 hh => ?_⟩
      have wh : ∀ k, wholeD (h.get k) = true → wholeD (h2.get k) = true := by
        intro k hk
        cases hg : h.get k with
        | none => rw [hg] at hk; cases hk
        | some o => rw [hh _ _ hg, ← hg]; exact hk
      have pe : ∀ p q r, ptrB E t p q h = some r → ptrB E t p q h2 = some r := by
        intro p q r hr
        unfold ptrB at hr ⊢
        split at hr
        · split at hr
          · split at hr
            · cases hr
            · rename_i hn
              rw [if_neg hn]
              unfold ptrEq at hr ⊢
              split at hr
              · rename_i hs
                rw [if_pos hs]
                split at hr
                · rename_i hb; rw [if_pos hb]; exact hr
                · rename_i hb
                  rw [if_neg hb]
                  split at hr
                  · rename_i hw
                    simp only [Bool.and_eq_true] at hw
                    rw [if_pos (by simp only [Bool.and_eq_true]; exact ⟨wh _ hw.1, wh _ hw.2⟩)]
                    exact hr
                  · cases hr
              · cases hr
          · cases hr
        · cases hr
      have : binHD E op t x y a b h2 = some v := by
        unfold binHD at e1 ⊢
        split at e1
        · rename_i p q
          obtain ⟨r, q1, q2⟩ := map_some e1
          rw [pe p q r q1]; exact congrArg some q2
        · rename_i p q
          obtain ⟨r, q1, q2⟩ := map_some e1
          rw [pe p q r q1]; exact congrArg some q2
        · exact e1
      rw [this]; rfl
    · cases hd
  | lookup t x k c =>
    simp only [opD] at hd ⊢
    split at hd
    · rename_i a b ha hb
      have hm := opt_map hd
      refine ⟨hm.1, fun h2 hh => ?_⟩
      obtain ⟨u, e1, e2⟩ := map_some hd
      have : lookupD E t a b c h2 = some u := by
        unfold lookupD at e1 ⊢
        split at e1
        · cases a with
          | map r =>
            cases r with
            | none => exact e1
            | some r =>
              simp only at e1 ⊢
              cases hr : h.get r with
              | none => rw [hr] at e1; cases e1
              | some ob => rw [hh _ _ hr]; rw [hr] at e1; exact e1
          | _ => exact e1
        · cases e1
      rw [this]; cases e2; rfl
    · cases hd
  | slice t x lo hi mx =>
    simp only [opD] at hd ⊢
    split at hd
    · rename_i a1 a2 a3 a4 e1 e2 e3 e4
      have hm := opt_map hd
      refine ⟨hm.1, fun h2 hh => ?_⟩
      obtain ⟨u, e1, e2⟩ := map_some hd
      have : sliceD E t a1 a2 a3 a4 h2 = some u := by
        unfold sliceD at e1 ⊢
        split at e1
        · exact e1
        · exact e1
        · split at e1
          · rename_i q1 q2 q3; rw [q1, q2, hh _ _ q3]; exact e1
          · cases e1
        · exact e1
        · cases e1
      rw [this]; cases e2; rfl
    · cases hd
  | convert s d x =>
    simp only [opD] at hd ⊢
    split at hd
    · rename_i a1 e1
      simp only [cls] at hc
      split at hc
      · cases hc
      · cases hc
      · rename_i el e2 e3
        unfold convD at hd ⊢
        rw [e2, e3] at hd ⊢
        cases a1 with
        | slice p n c =>
          cases p with
          | none =>
            cases n with
            | zero =>
              cases c with
              | zero => simp only at hd ⊢; split at hd <;> first | (cases hd; exact ⟨rfl, fun _ _ => rfl⟩) | cases hd
              | succ c => cases hd
            | succ n => cases hd
          | some p =>
            obtain ⟨b, o, sp⟩ := p
            cases sp with
            | some sp => cases hd
            | none =>
              simp only at hd ⊢
              split at hd
              · split at hd
                · cases hd; refine ⟨rfl, fun _ _ => ?_⟩; simp [*]
                · rename_i hn
                  split at hd
                  · rename_i vs hvs
                    obtain ⟨q, q1, q2⟩ := map_some hd
                    cases q2
                    refine ⟨rfl, fun h2 hh => ?_⟩
                    rw [if_neg hn, readAt hh hvs]; simp only [q1, Option.map_some]
                  · cases hd
              · cases hd
        | string s => simp at hd; exact ⟨hd.2.symm, fun _ _ => by simp [hd.1]⟩
        | int k n => simp at hd; exact ⟨hd.2.symm, fun _ _ => by simp [hd.1]⟩
        | _ => cases hd
      · cases hc
    · cases hd
  | call c =>
    simp only [cls] at hc
    split at hc
    · rename_i hcal
      split at hc
      · rename_i t hts
        simp only [opD] at hd ⊢
        split at hd
        · cases hd
        · rename_i args ha
          rw [hcal] at hd ⊢
          simp only [hts] at hd ⊢
          split at hd
          · rename_i t' x ht
            cases ht
            have hm := opt_map hd
            refine ⟨hm.1, fun h2 hh => ?_⟩
            obtain ⟨u, e1, e2⟩ := map_some hd
            have : lenD E t x h2 = some u := by
              unfold lenD at e1 ⊢
              split at e1
              · exact e1
              · exact e1
              · exact e1
              · exact e1
              · split at e1
                · rename_i q; rw [hh _ _ q]; exact e1
                · cases e1
              · cases e1
            rw [this]; cases e2; rfl
          · cases hd
      · cases hc
    · cases hc
    · cases hc
    · cases hc
  | makeMap t r => cases r <;> cases hc
  | _ => cases hc
theorem freshOp {o : Op} (hc : cls E o = .fresh) (hd : opD E ck o fr h = some (v, h')) : FreshOp E ck o fr h v h' := by
  unfold FreshOp
  cases o with
  | alloc t =>
    simp only [opD] at hd ⊢
    obtain ⟨z, e1, e2⟩ := map_some hd
    cases e2
    exact ⟨_, rfl, fun h2 ha => by rw [e1]; simp only [Option.map_some, newD, ha]⟩
  | box t x =>
    simp only [opD] at hd ⊢
    obtain ⟨z, e1, e2⟩ := map_some hd
    cases e2
    exact ⟨_, rfl, fun h2 ha => by rw [e1]; simp only [Option.map_some, newD, ha]⟩
  | buildSlice t n ps =>
    simp only [opD] at hd ⊢
    split at hd
    · unfold buildSliceD at hd ⊢
      split at hd
      · split at hd
        · split at hd
          · rename_i q
            split at hd
            · rename_i cs qq
              cases hd
              exact ⟨_, rfl, fun h2 ha => by rw [if_pos q]; simp only [ha]⟩
            · cases hd
          · cases hd
        · cases hd
      · cases hd
    · cases hd
  | makeSlice t l c =>
    simp only [opD] at hd ⊢
    split at hd
    · unfold makeSliceD at hd ⊢
      split at hd
      · split at hd
        · split at hd
          · rename_i q
            cases hd
            exact ⟨_, rfl, fun h2 ha => by rw [if_pos q]; simp only [ha]⟩
          · cases hd
        · cases hd
      · cases hd
    · cases hd
  | makeMap t r =>
    cases r with
    | some r => cases hc
    | none =>
      simp only [opD] at hd ⊢
      cases hd
      exact ⟨_, rfl, fun h2 ha => by rw [ha]⟩
  | convert s d x =>
    simp only [opD] at hd ⊢
    split at hd
    · rename_i a1 e1
      simp only [cls] at hc
      split at hc
      · cases hc
      · rename_i el e2 e3
        unfold convD at hd ⊢
        rw [e2, e3] at hd ⊢
        cases a1 with
        | string s =>
          simp only at hd ⊢
          split at hd
          · split at hd
            · rename_i q
              cases hd
              exact ⟨_, rfl, fun h2 ha => by rw [if_pos q, ha]⟩
            · cases hd
          · cases hd
        | _ => cases hd
      · cases hc
      · cases hc
    · cases hd
  | slice t x lo hi mx =>
    simp only [cls] at hc
    split at hc <;> cases hc
  | call c =>
    simp only [cls] at hc
    split at hc
    · split at hc
      · split at hc <;> cases hc
      · cases hc
    all_goals cases hc
  | binOp op t x y yt =>
    simp only [cls] at hc
    split at hc
    · cases hc
    · split at hc <;> cases hc
  | _ => cases hc
end
end Go.Dm

set_option linter.unusedVariables false
set_option linter.unusedSimpArgs false
namespace Go.Dm

theorem putD_get (fr : T Value) (d : Option Tmp) (v : Value) (t : Nat) : (putD fr d v).get t = if d = some t then some v else fr.get t := by
  cases d with
  | none => simp [putD]
  | some d =>
    simp only [putD, T.get_set, Option.some.injEq]
    by_cases e : t = d
    · subst e; simp
    · rw [if_neg e, if_neg (Ne.symm e)]
theorem put_tmps (a : Act) (d : Option Tmp) (v : Value) (t : Nat) (hd : ∀ u, d = some u → u < a.tmps.size) : (a.put d v).tmps[t]? = if d = some t then some v else a.tmps[t]? := by
  cases d with
  | none => simp [Act.put]
  | some d =>
    simp only [Act.put, Option.some.injEq, Array.getElem?_setIfInBounds]
    by_cases e : d = t
    · subst e; simp [hd d rfl]
    · rw [if_neg e, if_neg e]
theorem put_size (a : Act) (d : Option Tmp) (v : Value) : (a.put d v).tmps.size = a.tmps.size := by
  cases d <;> simp [Act.put]
theorem put_defers (a : Act) (d : Option Tmp) (v : Value) : (a.put d v).defers = a.defers := by
  cases d <;> rfl
theorem HRel.clr {ok : OkC} {G : Nat} {m : Inj} {h : H} {w : World} (R : HRel ok G m h w) : HRel ok G m h.clr w :=
  R.view (fun _ _ _ => rfl) (fun b i hi => (R.dom b i hi).1) R.wf (fun a ha => by cases ha)

def boolOf : Value → Option Bool
  | .bool b => some b
  | _ => none
section
variable {P : Program} {E : Env} {m : Inj} {ops : Array Oper} {fr : T Value}
theorem wanted_sim {tmps : Array Value} {o : Oper} {b : Bool} (hf : ∀ t v, t ∈ looksD ops o → fr.get t = some v → ∃ v', tmps[t]? = some v' ∧ VRel m v v') (hw : wantedD ops o fr = some b) : Region.wanted o (yielded ops tmps) = b := by
  unfold wantedD at hw
  unfold Region.wanted
  cases hg : o.guard with
  | none => rw [hg] at hw; cases hw; rfl
  | some jw =>
    obtain ⟨j, want⟩ := jw
    rw [hg] at hw
    simp only at hw ⊢
    cases hd : (ops[j]?).bind (·.dst) with
    | none => rw [hd] at hw; cases hw
    | some d =>
      rw [hd] at hw
      simp only at hw
      cases hv : fr.get d with
      | none => rw [hv] at hw; cases hw
      | some v =>
        obtain ⟨v', h1, h2⟩ := hf d v (by simp [looksD, hg, hd]) hv
        rw [hv] at hw
        have hy : yielded ops tmps j = boolOf v' := by
          unfold yielded
          rw [hd]
          simp only [Option.bind_some, h1]
          cases v' <;> rfl
        rw [hy]
        cases v with
        | bool c =>
          simp only [Option.some.injEq] at hw
          rw [h2.bool]
          subst hw
          cases c <;> cases want <;> rfl
        | _ =>
          simp only [Option.some.injEq] at hw
          subst hw
          cases h2 <;> first | rfl | (rename_i hp; simp [plain0] at hp; done) | rfl

/-! ### A region in the text's order -/
section
variable (hE : EnvOk P E) {ok : OkC} {G N : Nat} {ck : CK} (C : CallSim P ok G ck) {ro : Option Nat} {Q : Exit → Act → World → Prop}
include hE C in
theorem ops_sim : ∀ (l : List Oper) (k : Nat), (∀ j o, l[j]? = some o → ops[k + j]? = some o) → l.all (okO G N) = true → ∀ {fr : T Value} {h : H} {fr' : T Value} {h' : H}, regD E ck ops l fr h = some (fr', h') →
    ∀ {m : Inj} {a : Act} {w : World}, HRel ok G m h w → FRel m fr a.tmps → a.tmps.size = N →
    (∀ m' a' w', Evo m h w m' h'.clr w' → HRel ok G m' h'.clr w' → FRel m' fr' a'.tmps → a'.tmps.size = N → a'.defers = a.defers → Q .normal a' w') →
    wpOpsIn (FW ro) 0 P ops Q (List.range' k l.length) a w := by
  intro l
  induction l with
  | nil =>
    intro k _ _ fr h fr' h' hr m a w R hf hN hq
    simp only [regD, Option.some.injEq, Prod.mk.injEq] at hr
    obtain ⟨rfl, rfl⟩ := hr
    exact hq m a w ((Evo.refl m h w).view (fun _ _ _ => rfl) (fun _ _ _ => rfl)) R.clr hf hN rfl
  | cons o l ih =>
    intro k hk hok fr h fr' h' hr m a w R hf hN hq
    simp only [List.all_cons, Bool.and_eq_true] at hok
    have ho : ops[k]? = some o := by simpa using hk 0 o rfl
    have hk' : ∀ j o, l[j]? = some o → ops[k + 1 + j]? = some o := fun j o hj => by
      have := hk (j + 1) o (by simpa using hj)
      rwa [Nat.add_assoc, Nat.add_comm 1 j]
    have hdst : ∀ u, o.dst = some u → u < a.tmps.size := fun u hu => by
      have := hok.1
      simp only [okO, Bool.and_eq_true, hu, okD, decide_eq_true_eq] at this
      rw [hN]; exact this.1.2
    rw [List.length_cons, List.range'_succ, wpOpsIn_cons]
    simp only [wpOpIn, ho]
    simp only [regD] at hr
    split at hr
    · rename_i hw
      rw [wanted_sim (fun t v _ ht => hf t v ht) hw]
      simp only [if_true]
      split at hr
      · rename_i v h1 hd
        refine op_wp hE C R.clr hf hok.1 hd ?_
        intro m' v' w' e R' hv
        refine ih (k + 1) hk' hok.2 hr R' ?_ (by rw [put_size]; exact hN) ?_
        · intro t u hu
          rw [putD_get] at hu
          rw [put_tmps _ _ _ _ hdst]
          by_cases hdt : o.dst = some t
          · rw [if_pos hdt] at hu ⊢; cases hu; exact ⟨_, rfl, hv⟩
          · rw [if_neg hdt] at hu ⊢; exact hf.mono e.ext t u hu
        · intro m'' a'' w'' e' R'' hf' hN' hd'
          exact hq m'' a'' w'' ((Evo.view (h2 := h) e (fun _ _ _ => rfl) (fun _ _ _ => rfl)).trans e') R'' hf' hN' (hd'.trans (put_defers ..))
      · cases hr
    · rename_i hw
      rw [wanted_sim (fun t v _ ht => hf t v ht) hw]
      simp only [Bool.false_eq_true, if_false]
      refine ⟨fun _ _ => trivial, ih (k + 1) hk' hok.2 hr R ?_ (by rw [put_size]; exact hN) ?_⟩
      · intro t u hu
        rw [putD_get] at hu
        rw [put_tmps _ _ _ _ hdst]
        by_cases hdt : o.dst = some t
        · rw [if_pos hdt] at hu ⊢; cases hu; exact ⟨_, rfl, VRel.undef m⟩
        · rw [if_neg hdt] at hu ⊢; exact hf t u hu
      · intro m'' a'' w'' e' R'' hf' hN' hd'
        exact hq m'' a'' w'' e' R'' hf' hN' (hd'.trans (put_defers ..))
    · cases hr
end
end

/-! ### Masks -/
def ClosedL (ops : Array Oper) (L : Nat → Prop) (j : Nat) : Prop := ∀ o, ops[j]? = some o → ∀ e ∈ o.after.toList, Region.binds .any e = true → L e.on
theorem foldl_mask {acc : List Nat} {k : Nat} : ∀ (es : List Edge) (s : Nat), (es.foldl (fun s e => if Region.binds .any e then s ||| 2 ^ e.on ||| acc.getD e.on 0 else s) s).testBit k = true →
    s.testBit k = true ∨ ∃ e ∈ es, Region.binds .any e = true ∧ (k = e.on ∨ (acc.getD e.on 0).testBit k = true) := by
  intro es
  induction es with
  | nil => intro s h; exact .inl h
  | cons e es ih =>
    intro s h
    simp only [List.foldl_cons] at h
    rcases ih _ h with h1 | ⟨e', h1, h2, h3⟩
    · by_cases hb : Region.binds .any e = true
      · rw [if_pos hb, Nat.testBit_or, Nat.testBit_or, Nat.testBit_two_pow] at h1
        simp only [Bool.or_eq_true, decide_eq_true_eq] at h1
        rcases h1 with (h1 | h1) | h1
        · exact .inl h1
        · exact .inr ⟨e, List.mem_cons_self .., hb, .inl h1.symm⟩
        · exact .inr ⟨e, List.mem_cons_self .., hb, .inr h1⟩
      · rw [if_neg hb] at h1; exact .inl h1
    · exact .inr ⟨e', List.mem_cons_of_mem _ h1, h2, h3⟩
theorem ancD_spec {ops : Array Oper} {L : Nat → Prop} : ∀ (rest pre : List Oper) (acc : List Nat), ops.toList = pre ++ rest → acc.length = pre.length →
    (∀ j, j < acc.length → ∀ k, (acc.getD j 0).testBit k = true → (∀ i, L i → ClosedL ops L i) → ClosedL ops L j → L k) →
    ∀ j k, ((ancD rest acc).getD j 0).testBit k = true → (∀ i, L i → ClosedL ops L i) → ClosedL ops L j → L k := by
  intro rest
  induction rest with
  | nil =>
    intro pre acc _ _ hacc j k hk hL hj
    rcases Nat.lt_or_ge j acc.length with h | h
    · exact hacc j h k hk hL hj
    · simp [ancD, List.getD_eq_getElem?_getD, List.getElem?_eq_none h] at hk
  | cons o rest ih =>
    intro pre acc hops hlen hacc
    refine ih (pre ++ [o]) (acc ++ [maskD acc o]) (by simp [hops]) (by simp [hlen]) ?_
    intro j hj k hk hL hcl
    rcases Nat.lt_or_ge j acc.length with h | h
    · have : (acc ++ [maskD acc o]).getD j 0 = acc.getD j 0 := by simp [List.getD_eq_getElem?_getD, List.getElem?_append_left h]
      rw [this] at hk
      exact hacc j h k hk hL hcl
    · have hje : j = acc.length := by simp at hj; omega
      subst hje
      have : (acc ++ [maskD acc o]).getD acc.length 0 = maskD acc o := by simp [List.getD_eq_getElem?_getD]
      rw [this] at hk
      have ho : ops[acc.length]? = some o := by
        rw [← Array.getElem?_toList, hops, hlen]; simp
      rcases foldl_mask _ _ hk with h1 | ⟨e, h1, h2, h3⟩
      · simp at h1
      · have he := hcl o ho e h1 h2
        rcases h3 with rfl | h3
        · exact he
        · rcases Nat.lt_or_ge e.on acc.length with h4 | h4
          · exact hacc _ h4 k h3 hL (hL _ he)
          · simp [List.getD_eq_getElem?_getD, List.getElem?_eq_none h4] at h3
theorem anc_spec {ops : Array Oper} {L : Nat → Prop} {j k : Nat} (hk : ((ancD ops.toList []).getD j 0).testBit k = true) (hL : ∀ i, L i → ClosedL ops L i) (hj : ClosedL ops L j) : L k :=
  ancD_spec ops.toList [] [] rfl rfl (fun j hj => by simp at hj) j k hk hL hj

/-! ### Values that are the same -/
theorem eqv0_sound : ∀ (a b : Value), eqv0 a b = true → a = b
  | .iface t a, b, h => by
    cases b <;> simp [eqv0] at h
    rw [h.1, eqv0_sound a _ h.2]
  | .bool _, b, h | .int _ _, b, h | .string _, b, h | .pointer _, b, h | .slice _ _ _, b, h | .map _, b, h | .nilFunc, b, h | .nilIface, b, h => by cases b <;> simp_all [eqv0]
  | .float _ _, b, h | .complex _ _ _, b, h | .chan _, b, h | .func _ _ _, b, h | .agg _, b, h | .tuple _, b, h => by cases b <;> simp [eqv0] at h
theorem eqvL_sound : ∀ {a b : List Value}, eqvL a b = true → a = b := by
  intro a
  induction a with
  | nil => intro b h; cases b <;> simp_all [eqvL]
  | cons x a ih =>
    intro b h
    cases b with
    | nil => simp [eqvL] at h
    | cons y b => simp [eqvL] at h; rw [eqv0_sound _ _ h.1, ih h.2]
theorem eqv_sound {a b : Value} (h : eqv a b = true) : a = b := by
  unfold eqv at h
  split at h
  · rename_i x y; obtain ⟨x⟩ := x; obtain ⟨y⟩ := y; exact congrArg (fun l => Value.agg (Array.mk l)) (eqvL_sound h)
  · rename_i x y; obtain ⟨x⟩ := x; obtain ⟨y⟩ := y; exact congrArg (fun l => Value.tuple (Array.mk l)) (eqvL_sound h)
  · exact eqv0_sound _ _ h

/-! ### The checks -/
structure Pair (E : Env) (ops : Array Oper) (i : Nat) (oi : Oper) (j : Nat) (oj : Oper) : Prop where
  apart : apartD ops oi oj = true
  free : freeD (cls E oi.op) (cls E oj.op) = true
structure Early (E : Env) (ops : Array Oper) (i : Nat) (oi : Oper) (j : Nat) (oj : Oper) : Prop where
  alloc : isAlloc oj.op = true
  guard : oj.guard = none
  cls : cls E oi.op = .other
  apart : apartD ops oi oj = true
  dst : ∃ d, oj.dst = some d ∧ ∀ x ox, ops[x]? = some ox → x ≠ j → ox.dst ≠ some d ∧ (d ∈ looksD ops ox → ((ancD ops.toList []).getD x 0).testBit i = true)
theorem isAlloc_fresh {E : Env} {o : Op} (h : isAlloc o = true) : cls E o = .fresh := by cases o <;> first | rfl | cases h
theorem okDraw_spec {E : Env} {ops : Array Oper} (h : okDraw E ops = true) :
    (∀ j oj, ops[j]? = some oj → ∀ e ∈ oj.after.toList, Region.binds .any e = true → e.on < j) ∧
    ∀ i j oi oj, i < j → ops[i]? = some oi → ops[j]? = some oj → ((ancD ops.toList []).getD j 0).testBit i = true ∨ Pair E ops i oi j oj ∨ Early E ops i oi j oj := by
  unfold okDraw at h
  simp only [List.all_eq_true, List.mem_range] at h
  have hlt : ∀ {j : Nat} {o : Oper}, ops[j]? = some o → j < ops.size := fun {j o} hj => (Array.getElem?_eq_some_iff.1 hj).1
  constructor
  · intro j oj hj e he hb
    have := h j (hlt hj)
    rw [hj] at this
    simp only [Bool.and_eq_true, List.all_eq_true] at this
    have := this.1 e he
    simpa [hb] using this
  · intro i j oi oj hij hi hj
    have := h j (hlt hj)
    rw [hj] at this
    simp only [Bool.and_eq_true, List.all_eq_true, List.mem_range] at this
    have := this.2 i hij
    rw [hi] at this
    simp only [pairD, Bool.or_eq_true, Bool.and_eq_true] at this
    rcases this with (h | h) | h
    · exact .inl h
    · exact .inr (.inl ⟨h.1, h.2⟩)
    · refine .inr (.inr ?_)
      unfold earlyD at h
      simp only [Bool.and_eq_true, decide_eq_true_eq] at h
      obtain ⟨⟨⟨⟨h1, h2⟩, h3⟩, h4⟩, h5⟩ := h
      refine ⟨h1, by simpa using h2, h3, h4, ?_⟩
      cases hd : oj.dst with
      | none => rw [hd] at h5; cases h5
      | some d =>
        rw [hd] at h5
        simp only [List.all_eq_true, List.mem_range] at h5
        refine ⟨d, rfl, fun x ox hx hne => ?_⟩
        have := h5 x (hlt hx)
        rw [hx] at this
        simp only [Bool.or_eq_true, decide_eq_true_eq, Bool.and_eq_true, Bool.not_eq_true'] at this
        have := this.resolve_left hne
        refine ⟨fun e => ?_, fun hm => ?_⟩
        · rw [e] at this; simp at this
        · rcases this.2 with q | q
          · have : (looksD ops ox).contains d = true := List.contains_iff_mem.2 hm
            rw [this] at q; cases q
          · exact q
theorem apartD_spec {ops : Array Oper} {x y : Oper} (h : apartD ops x y = true) :
    (∀ d, x.dst = some d → d ∉ looksD ops y) ∧ (∀ d, x.dst = some d → y.dst ≠ some d) ∧ (∀ d, y.dst = some d → d ∉ looksD ops x) := by
  refine ⟨fun d hd => ?_, fun d hd => ?_, fun d hd => ?_⟩ <;> simp [apartD, hd] at h
  · exact h.1.1
  · exact h.1.2
  · exact h.2
theorem segEnd_ge (E : Env) (ops : Array Oper) (p : Nat) : p ≤ segEnd E ops p := Nat.le_add_right _ _
theorem segEnd_min {E : Env} {ops : Array Oper} {p k : Nat} {o : Oper} (hp : p ≤ k) (hk : k < segEnd E ops p) (ho : ops[k]? = some o) : cls E o.op ≠ .other := by
  unfold segEnd at hk
  have hlt : k - p < (ops.toList.drop p).findIdx fun o => cls E o.op == .other := by omega
  have h1 := List.not_of_lt_findIdx hlt
  have hlen : k - p < (ops.toList.drop p).length := Nat.lt_of_lt_of_le hlt (List.findIdx_le_length)
  have h2 : (ops.toList.drop p)[k - p] = o := by
    have : (ops.toList.drop p)[k - p]? = some o := by
      rw [List.getElem?_drop, show p + (k - p) = k by omega, Array.getElem?_toList]; exact ho
    rw [List.getElem?_eq_getElem hlen] at this
    exact Option.some.inj this
  rw [h2] at h1
  simpa using h1
theorem segEnd_le {E : Env} {ops : Array Oper} {p : Nat} (hp : p ≤ ops.size) : segEnd E ops p ≤ ops.size := by
  unfold segEnd
  have := List.findIdx_le_length (p := fun o : Oper => cls E o.op == .other) (xs := ops.toList.drop p)
  simp at this
  omega
theorem segEnd_at {E : Env} {ops : Array Oper} {p : Nat} (h : segEnd E ops p < ops.size) : ∃ o, ops[segEnd E ops p]? = some o ∧ cls E o.op = .other := by
  refine ⟨ops[segEnd E ops p], by simp [h], ?_⟩
  have hlt : (ops.toList.drop p).findIdx (fun o => cls E o.op == .other) < (ops.toList.drop p).length := by
    have := h
    unfold segEnd at this
    simp only [List.length_drop, Array.length_toList]
    omega
  have h1 := List.findIdx_getElem (w := hlt)
  simp only [beq_iff_eq] at h1
  rw [← h1]
  congr 1
  have h2 : (ops.toList.drop p)[List.findIdx (fun o => cls E o.op == .other) (ops.toList.drop p)]? = ops[segEnd E ops p]? := by
    rw [List.getElem?_drop, Array.getElem?_toList]; rfl
  rw [List.getElem?_eq_getElem hlt, Array.getElem?_eq_getElem h] at h2
  rw [Option.some.inj h2]
end Go.Dm

set_option linter.unusedVariables false
set_option linter.unusedSimpArgs false
namespace Go.Dm

section
variable {E : Env} {ops : Array Oper} {ck : CK}
theorem regD_append (l1 l2 : List Oper) : ∀ (fr : T Value) (h : H), regD E ck ops (l1 ++ l2) fr h = (match regD E ck ops l1 fr h with | some (f1, h1) => regD E ck ops l2 f1 h1 | none => none) := by
  induction l1 with
  | nil => intro fr h; rfl
  | cons o l1 ih =>
    intro fr h
    simp only [List.cons_append, regD]
    split
    · split
      · exact ih _ _
      · rfl
    · exact ih _ _
    · rfl
def St (E : Env) (ck : CK) (ops : Array Oper) (fr : T Value) (h : H) (i : Nat) : T Value × H := (regD E ck ops (ops.toList.take i) fr h).getD (fr, h)
def StepD (E : Env) (ck : CK) (ops : Array Oper) (o : Oper) (s s' : T Value × H) : Prop :=
  (wantedD ops o s.1 = some true ∧ ∃ v h', opD E ck o.op s.1 s.2.clr = some (v, h') ∧ s' = (putD s.1 o.dst v, h')) ∨
  (wantedD ops o s.1 = some false ∧ s' = (putD s.1 o.dst undef, s.2))
variable {fr : T Value} {h : H} {r : T Value × H}
theorem st_some (hr : regD E ck ops ops.toList fr h = some r) (i : Nat) : regD E ck ops (ops.toList.take i) fr h = some (St E ck ops fr h i) := by
  unfold St
  have h1 : ops.toList = ops.toList.take i ++ ops.toList.drop i := (List.take_append_drop ..).symm
  have h2 : regD E ck ops (ops.toList.take i ++ ops.toList.drop i) fr h = some r := by rw [← h1]; exact hr
  rw [regD_append] at h2
  cases e : regD E ck ops (ops.toList.take i) fr h with
  | none => rw [e] at h2; cases h2
  | some s => rfl
theorem st_zero : St E ck ops fr h 0 = (fr, h) := by simp [St, regD]
theorem st_end (hr : regD E ck ops ops.toList fr h = some r) : St E ck ops fr h ops.size = r := by
  have := st_some hr ops.size
  rw [List.take_of_length_le (by simp), hr] at this
  exact (Option.some.inj this).symm
theorem st_step (hr : regD E ck ops ops.toList fr h = some r) {i : Nat} {o : Oper} (ho : ops[i]? = some o) : StepD E ck ops o (St E ck ops fr h i) (St E ck ops fr h (i + 1)) := by
  have h1 := st_some hr i
  have h2 := st_some hr (i + 1)
  have ht : ops.toList.take (i + 1) = ops.toList.take i ++ [o] := by
    have : ops.toList[i]? = some o := by rw [Array.getElem?_toList]; exact ho
    rw [List.take_add_one, this]; rfl
  rw [ht, regD_append, h1] at h2
  simp only [regD] at h2
  unfold StepD
  split at h2
  · rename_i hw
    split at h2
    · rename_i v h' hd
      exact .inl ⟨hw, v, h', hd, (Option.some.inj h2).symm⟩
    · cases h2
  · rename_i hw
    exact .inr ⟨hw, (Option.some.inj h2).symm⟩
  · cases h2
end

/-- Memory has got new blocks, nothing more. -/
structure Grow (h h' : H) : Prop where
  next : h.next ≤ h'.next
  get : ∀ b, b < h.next → h'.get b = h.get b
  wf : (∀ b, h.next ≤ b → h.get b = none) → ∀ b, h'.next ≤ b → h'.get b = none
theorem Grow.refl (h : H) : Grow h h := ⟨Nat.le_refl _, fun _ _ => rfl, id⟩
theorem Grow.trans {a b c : H} (x : Grow a b) (y : Grow b c) : Grow a c :=
  ⟨Nat.le_trans x.next y.next, fun n hn => (y.get n (Nat.lt_of_lt_of_le hn x.next)).trans (x.get n hn), fun hw => y.wf (x.wf hw)⟩
theorem clr_addr (h : H) : h.clr.addr = h.next := rfl
theorem clr_new_next (h : H) (ob : DObj) : (h.clr.new ob).next = h.next + 1 := rfl
theorem Grow.new (h : H) (ob : DObj) : Grow h.clr (h.clr.new ob) where
  next := Nat.le_succ _
  get b hb := by
    have hb : b < h.next := hb
    rw [H.get_new, if_neg (by rw [clr_addr]; omega)]
  wf hw b hb := by
    have hb : h.next + 1 ≤ b := hb
    rw [H.get_new, if_neg (by rw [clr_addr]; omega)]
    exact hw b (by have : h.clr.next = h.next := rfl; omega)
theorem Grow.holds {h h' : H} (g : Grow h h') (hw : ∀ b, h.next ≤ b → h.get b = none) : Holds h h' := by
  intro b o hb
  rcases Nat.lt_or_ge b h.next with hlt | hge
  · rw [g.get b hlt]; exact hb
  · rw [hw b hge] at hb; cases hb

section
variable {E : Env} {ops : Array Oper} {ck : CK} {S : Nat → T Value × H}
theorem step_grow {o : Oper} {s s' : T Value × H} (hs : StepD E ck ops o s s') (hc : cls E o.op ≠ .other) :
    s'.2.clr = s.2.clr ∨ (cls E o.op = .fresh ∧ ∃ ob, s'.2.clr = s.2.clr.new ob) := by
  rcases hs with ⟨hw, v, h', hd, rfl⟩ | ⟨hw, rfl⟩
  · cases hcl : cls E o.op with
    | pure => exact .inl (by rw [(pureOp hcl hd).1]; rfl)
    | read => exact .inl (by rw [(readOp hcl hd).1]; rfl)
    | fresh =>
      obtain ⟨ob, h1, _⟩ := freshOp hcl hd
      exact .inr ⟨rfl, ob, by rw [h1]; rfl⟩
    | other => exact absurd hcl hc
  · exact .inl rfl
theorem seg_grow (hS : ∀ i o, ops[i]? = some o → StepD E ck ops o (S i) (S (i + 1))) {i : Nat} : ∀ (d : Nat), i + d ≤ ops.size → (∀ k o, i ≤ k → k < i + d → ops[k]? = some o → cls E o.op ≠ .other) → Grow (S i).2.clr (S (i + d)).2.clr := by
  intro d
  induction d with
  | zero => intro _ _; exact .refl _
  | succ d ih =>
    intro hd hc
    refine (ih (by omega) fun k o h1 h2 h3 => hc k o h1 (by omega) h3).trans ?_
    have ho : ops[i + d]? = some ops[i + d] := Array.getElem?_eq_getElem (by omega)
    rcases step_grow (hS _ _ ho) (hc _ _ (by omega) (by omega) ho) with e | ⟨_, ob, e⟩
    · rw [← Nat.add_assoc, e]; exact .refl _
    · rw [← Nat.add_assoc, e]; exact .new _ _
end

section
variable (E : Env) (ops : Array Oper) (S : Nat → T Value × H) (ok : OkC) (G : Nat) (m0 : Inj) (h0 : H) (w0 : World)
abbrev hh (i : Nat) : H := (S i).2.clr
/-- A new variable that is made ahead of its turn. -/
def Ear (L : Nat → Prop) (p k : Nat) (o : Oper) : Prop := ops[k]? = some o ∧ L k ∧ isAlloc o.op = true ∧ o.guard = none ∧ segEnd E ops p ≤ k
structure EarAt (m : Inj) (w : World) (k : Nat) (i : Img) : Prop where
  ge : w0.heap.size ≤ i.blk
  lt : i.blk < w.heap.size
  out : ∀ b j, m b = some j → j.blk ≠ i.blk
  obj : ∃ ob, hh S (k + 1) = (hh S k).new ob ∧ ∀ m', ORel ok m' w i ob
/-- How memory stands when the operations L are done, the callers among them those ahead of p; variables made early lie at e. -/
structure HP (L : Nat → Prop) (m : Inj) (w : World) (p : Nat) (e : Nat → Img) : Prop where
  ple : p ≤ ops.size
  pW : ∀ k o, ops[k]? = some o → cls E o.op = .other → (L k ↔ k < p)
  pz : p = 0 ∨ ∃ o, ops[p - 1]? = some o ∧ cls E o.op = .other
  evo : Evo m0 h0 w0 m (hh S (segEnd E ops p)) w
  rel : HRel ok G m (hh S (segEnd E ops p)) w
  un : ∀ k o, ops[k]? = some o → k < segEnd E ops p → ¬ L k → cls E o.op = .fresh → (hh S k).next < (hh S (k + 1)).next → m (hh S k).next = none
  wfp : ∀ b, (hh S p).next ≤ b → (hh S p).get b = none
  ear : ∀ k o, Ear E ops L p k o → EarAt S ok w0 m w k (e k)
  dis : ∀ k o k' o', Ear E ops L p k o → Ear E ops L p k' o' → (e k).blk = (e k').blk → k = k'
end
theorem EarAt.step {S : Nat → T Value × H} {ok : OkC} {w0 : World} {m m' : Inj} {w w' : World} {k : Nat} {i : Img} (I : EarAt S ok w0 m w k i) {hx hx' : H} (ev : Evo m hx w m' hx' w') : EarAt S ok w0 m' w' k i := by
  have hno : ¬ Own m hx i.blk := fun ⟨b, o, j, _, _, hj, e⟩ => I.out b j hj e
  refine ⟨I.ge, Nat.lt_of_lt_of_le I.lt ev.size, fun b j hb e => ?_, ?_⟩
  · cases hm : m b with
    | some j' =>
      have := ev.ext b j' hm
      rw [hb] at this; cases this
      exact I.out b j hm e
    | none =>
      rcases ev.new b j hb hm with h | h
      · have := I.lt; omega
      · rw [e] at h; exact hno h
  · obtain ⟨ob, h1, h2⟩ := I.obj
    exact ⟨ob, h1, fun m'' => (h2 m'').congr (Ext.refl m'') (ev.keep _ I.lt hno)⟩
theorem alloc_heap (w : World) (o : Obj) : (w.alloc o).heap = w.heap.push o := rfl
theorem alloc_at (w : World) (o : Obj) : (w.alloc o).heap[w.heap.size]? = some o := by rw [alloc_heap]; simp
theorem alloc_size (w : World) (o : Obj) : (w.alloc o).heap.size = w.heap.size + 1 := by rw [alloc_heap]; simp
theorem alloc_lt (w : World) (o : Obj) {r : Nat} (h : r < w.heap.size) : (w.alloc o).heap[r]? = w.heap[r]? := by
  rw [alloc_heap, Array.getElem?_push, if_neg (by omega)]
theorem HRel.push {ok : OkC} {G : Nat} {m : Inj} {h : H} {w : World} (R : HRel ok G m h w) (o : Obj) : HRel ok G m h (w.alloc o) where
  obj b ob i hb hi := (R.obj b ob i hb hi).congr (Ext.refl m) (alloc_lt _ _ (R.dom b i hi).2)
  inj := R.inj
  dom b i hi := ⟨(R.dom b i hi).1, by have := (R.dom b i hi).2; rw [alloc_size]; omega⟩
  one := R.one
  wf := R.wf
  glob := R.glob
theorem Evo.push (m : Inj) (h : H) (w : World) (o : Obj) : Evo m h w m h (w.alloc o) where
  ext := Ext.refl m
  os := rfl
  tape := rfl
  output := rfl
  size := by rw [alloc_size]; omega
  keep r hr _ := alloc_lt w o hr
  new b i e e' := by rw [e] at e'; cases e'
  own r hr h := h

section
variable {E : Env} {ops : Array Oper} {S : Nat → T Value × H} {ok : OkC} {G : Nat} {m0 : Inj} {h0 : H} {w0 : World} {ck : CK}
  (hS : ∀ i o, ops[i]? = some o → StepD E ck ops o (S i) (S (i + 1))) (hD : okDraw E ops = true)
  {L : Nat → Prop} {m : Inj} {w : World} {p : Nat} {e : Nat → Img} (I : HP E ops S ok G m0 h0 w0 L m w p e) (hL : ∀ i, L i → ClosedL ops L i)
  {j : Nat} {o : Oper} (ho : ops[j]? = some o) (hn : ¬ L j) (hj : ClosedL ops L j)
theorem get_lt {ops : Array Oper} {j : Nat} {o : Oper} (ho : ops[j]? = some o) : j < ops.size := (Array.getElem?_eq_some_iff.1 ho).1
include hD hL hj in
/-- What must come ahead of j has come. -/
theorem back {i : Nat} {oi : Oper} (hi : ops[i]? = some oi) (ho : ops[j]? = some o) (hij : i < j) (hf : ¬ Pair E ops i oi j o) (he : ¬ Early E ops i oi j o) : L i := by
  rcases (okDraw_spec hD).2 i j oi o hij hi ho with h | h | h
  · exact anc_spec h hL hj
  · exact absurd h hf
  · exact absurd h he
include hD hL hj in
theorem backA {i : Nat} {oi : Oper} (hi : ops[i]? = some oi) (ho : ops[j]? = some o) (hij : i < j) (hf : apartD ops oi o = true → False) : L i :=
  back hD hL hj hi ho hij (fun h => hf h.apart) (fun h => hf h.apart)
include hD hL hn in
/-- What must come after j has not come. -/
theorem foreA {i : Nat} {oi : Oper} (hi : ops[i]? = some oi) (ho : ops[j]? = some o) (hij : j < i) (hf : apartD ops o oi = true → False) : ¬ L i := by
  intro hLi
  rcases (okDraw_spec hD).2 j i o oi hij ho hi with h | h | h
  · exact hn (anc_spec h hL (hL i hLi))
  · exact hf h.apart
  · exact hf h.apart
theorem notEarlyF {i j : Nat} {oi oj : Oper} (h : cls E oi.op ≠ .other) : ¬ Early E ops i oi j oj := fun q => h q.cls
theorem notEarlyO {i j : Nat} {oi oj : Oper} (h : cls E oj.op = .other) : ¬ Early E ops i oi j oj := fun q => by rw [isAlloc_fresh q.alloc] at h; cases h
theorem notPair {i j : Nat} {oi oj : Oper} (h : freeD (cls E oi.op) (cls E oj.op) = false) : ¬ Pair E ops i oi j oj := fun hp => by rw [hp.free] at h; cases h
include hS in
theorem grow_seg {i i' : Nat} (h1 : i ≤ i') (hp : p ≤ i) (h2 : i' ≤ segEnd E ops p) (ple : p ≤ ops.size) : Grow (hh S i) (hh S i') := by
  have h3 : segEnd E ops p ≤ ops.size := segEnd_le ple
  have := seg_grow hS (i := i) (i' - i) (by omega) fun k o hk1 hk2 hk => segEnd_min (p := p) (by omega) (by omega) hk
  rwa [show i + (i' - i) = i' by omega] at this
include hD I hL in
theorem fresh_ge {k : Nat} {ok' : Oper} (hk : ops[k]? = some ok') (hnk : ¬ L k) (hc : cls E ok'.op = .fresh) : p ≤ k := by
  rcases Nat.lt_or_ge k p with h | h
  · rcases I.pz with h0 | ⟨q, hq, hcq⟩
    · omega
    · have hLp : L (p - 1) := (I.pW _ _ hq hcq).2 (by omega)
      have hne : k ≠ p - 1 := fun e => by subst e; rw [hk] at hq; cases hq; rw [hc] at hcq; cases hcq
      exact absurd (back hD hL (hL _ hLp) hk hq (by omega) (notPair (by rw [hc, hcq]; rfl)) (notEarlyF (by rw [hc]; decide))) hnk
  · exact h
include hD I hL ho hn hj in
theorem other_at (hc : cls E o.op = .other) : segEnd E ops p = j := by
  have hjp : p ≤ j := by
    rcases Nat.lt_or_ge j p with h | h
    · exact absurd ((I.pW _ _ ho hc).2 h) hn
    · exact h
  have h1 : segEnd E ops p ≤ j := by
    rcases Nat.lt_or_ge j (segEnd E ops p) with h | h
    · exact absurd hc (segEnd_min hjp h ho)
    · exact h
  rcases Nat.lt_or_ge (segEnd E ops p) j with h | h
  · obtain ⟨q, hq, hcq⟩ := segEnd_at (E := E) (ops := ops) (p := p) (Nat.lt_trans h (get_lt ho))
    have hLs := back hD hL hj hq ho h (notPair (by rw [hc, hcq]; rfl)) (notEarlyO hc)
    have := (I.pW _ _ hq hcq).1 hLs
    have := segEnd_ge E ops p
    omega
  · omega
include I in
theorem ear_seg {k : Nat} {o : Oper} (hk : Ear E ops L p k o) : segEnd E ops p < k ∧ ∃ q, ops[segEnd E ops p]? = some q ∧ cls E q.op = .other ∧ ¬ L (segEnd E ops p) := by
  have hks := get_lt hk.1
  obtain ⟨q, hq, hcq⟩ := segEnd_at (E := E) (ops := ops) (p := p) (Nat.lt_of_le_of_lt hk.2.2.2.2 hks)
  refine ⟨?_, q, hq, hcq, fun h => ?_⟩
  · rcases Nat.lt_or_ge (segEnd E ops p) k with h | h
    · exact h
    · have : segEnd E ops p = k := Nat.le_antisymm hk.2.2.2.2 h
      rw [this, hk.1] at hq; cases hq
      rw [isAlloc_fresh hk.2.2.1] at hcq; cases hcq
  · have := (I.pW _ _ hq hcq).1 h
    have := segEnd_ge E ops p
    omega
include hD I hL in
theorem ear_early {k : Nat} {o : Oper} (hk : Ear E ops L p k o) : ∃ q, ops[segEnd E ops p]? = some q ∧ ¬ L (segEnd E ops p) ∧ Early E ops (segEnd E ops p) q k o := by
  obtain ⟨hlt, q, hq, hcq, hnq⟩ := ear_seg I hk
  rcases (okDraw_spec hD).2 _ _ q o hlt hq hk.1 with h | h | h
  · exact absurd (anc_spec h hL (hL k hk.2.1)) hnq
  · have := h.free
    rw [hcq, isAlloc_fresh hk.2.2.1] at this; cases this
  · exact ⟨q, hq, hnq, h⟩
include hD I hL in
/-- Nobody else writes an early variable's slot. -/
theorem ear_dst {k x : Nat} {o ox : Oper} {t : Tmp} (hk : Ear E ops L p k o) (ht : o.dst = some t) (hx : ops[x]? = some ox) (hne : x ≠ k) : ox.dst ≠ some t := by
  obtain ⟨q, hq, hnq, he⟩ := ear_early hD I hL hk
  obtain ⟨d, hd, hu⟩ := he.dst
  rw [ht] at hd; cases hd
  exact (hu x ox hx hne).1
include hD I hL in
theorem ear_look {k : Nat} {o2 : Oper} {t : Tmp} (hk : Ear E ops L p k o2) (ht : o2.dst = some t) (ho : ops[j]? = some o) (hn : ¬ L j) (hj : ClosedL ops L j) : t ∉ looksD ops o := by
  intro hm
  obtain ⟨q, hq, hnq, he⟩ := ear_early hD I hL hk
  obtain ⟨d, hd, hu⟩ := he.dst
  rw [ht] at hd; cases hd
  have hne : j ≠ k := fun e => hn (e ▸ hk.2.1)
  exact hnq (anc_spec ((hu j o ho hne).2 hm) hL hj)
include hS in
theorem addr_lt {i i' : Nat} (h1 : i < i') (hp : p ≤ i) (h2 : i' ≤ segEnd E ops p) (ple : p ≤ ops.size) (hnew : ∃ ob, hh S (i + 1) = (hh S i).new ob) : (hh S i).next < (hh S i').next := by
  have := (grow_seg hS (i := i + 1) (i' := i') (p := p) h1 (by omega) h2 ple).next
  obtain ⟨ob, e⟩ := hnew
  rw [e] at this
  have : (hh S i).next + 1 ≤ (hh S i').next := this
  omega
open Classical in
/-- The early variables that are reached now. -/
noncomputable def withE (E : Env) (ops : Array Oper) (S : Nat → T Value × H) (L : Nat → Prop) (p p' : Nat) (e : Nat → Img) (m : Inj) : Inj := fun b =>
  if h : ∃ k o, Ear E ops L p k o ∧ k < segEnd E ops p' ∧ (hh S k).next = b then some (e h.choose) else m b
theorem withE_none {p' b : Nat} {m : Inj} (h : ¬ ∃ k o, Ear E ops L p k o ∧ k < segEnd E ops p' ∧ (hh S k).next = b) : withE E ops S L p p' e m b = m b := dif_neg h
theorem withE_some {p' k : Nat} {o : Oper} {m : Inj} (hk : Ear E ops L p k o) (hlt : k < segEnd E ops p') (hu : ∀ k' o', Ear E ops L p k' o' → k' < segEnd E ops p' → (hh S k').next = (hh S k).next → k' = k) : withE E ops S L p p' e m (hh S k).next = some (e k) := by
  have h : ∃ k' o', Ear E ops L p k' o' ∧ k' < segEnd E ops p' ∧ (hh S k').next = (hh S k).next := ⟨k, o, hk, hlt, rfl⟩
  unfold withE
  rw [dif_pos h]
  obtain ⟨o', h1, h2, h3⟩ := h.choose_spec
  rw [hu _ _ h1 h2 h3]
theorem withE_cases {p' b : Nat} {m : Inj} {i : Img} (h : withE E ops S L p p' e m b = some i) : (∃ k o, Ear E ops L p k o ∧ k < segEnd E ops p' ∧ (hh S k).next = b ∧ i = e k) ∨ m b = some i := by
  unfold withE at h
  split at h
  · rename_i hc
    obtain ⟨o', h1, h2, h3⟩ := hc.choose_spec
    exact .inl ⟨_, o', h1, h2, h3, (Option.some.inj h).symm⟩
  · exact .inr h
include hS hD I hL ho hn hj in
theorem heap_other (hc : cls E o.op = .other) {m' : Inj} {h' : H} {w' : World} (ev : Evo m (hh S j) w m' h' w') (R : HRel ok G m' h' w') (he : h'.clr = hh S (j + 1)) :
    HP E ops S ok G m0 h0 w0 (fun k => k = j ∨ L k) (withE E ops S L p (j + 1) e m') w' (j + 1) e ∧ Ext m' (withE E ops S L p (j + 1) e m') ∧
    ∀ k o, Ear E ops L p k o → k < segEnd E ops (j + 1) → withE E ops S L p (j + 1) e m' (hh S k).next = some (e k) := by
  have hs := other_at hD I hL ho hn hj hc
  have hlt := get_lt ho
  have hnx : h'.next = (hh S (j + 1)).next := by rw [← he]; rfl
  have hge : ∀ b, h'.get b = (hh S (j + 1)).get b := fun b => by rw [← he]; rfl
  have hg : Grow (hh S (j + 1)) (hh S (segEnd E ops (j + 1))) := grow_seg hS (p := j + 1) (segEnd_ge ..) (Nat.le_refl _) (Nat.le_refl _) hlt
  have hwf : ∀ b, (hh S (j + 1)).next ≤ b → (hh S (j + 1)).get b = none := fun b hb => by rw [← hge]; exact R.wf b (by rw [hnx]; exact hb)
  have hv : ∀ b i, m' b = some i → (hh S (segEnd E ops (j + 1))).get b = h'.get b := fun b i hb => by
    rw [hge]; exact hg.get b (by rw [← hnx]; exact (R.dom b i hb).1)
  have hoth : ∀ {k : Nat} {o' : Oper}, Ear E ops L p k o' → j + 1 ≤ k := fun hk => by have := (ear_seg I hk).1; omega
  have hrest : ∀ {k : Nat} {o' : Oper}, Ear E ops (fun k => k = j ∨ L k) (j + 1) k o' → Ear E ops L p k o' := by
    rintro k o' ⟨h1, h2, h3, h4, h5⟩
    have hk : j + 1 ≤ k := Nat.le_trans (segEnd_ge ..) h5
    exact ⟨h1, h2.resolve_left (by omega), h3, h4, by omega⟩
  have hbnd : ∀ {k : Nat} {o' : Oper}, Ear E ops L p k o' → k < segEnd E ops (j + 1) → h'.next ≤ (hh S k).next := fun hk h2 => by
    rw [hnx]; exact (grow_seg hS (p := j + 1) (hoth hk) (Nat.le_refl _) (Nat.le_of_lt h2) hlt).next
  have huniq : ∀ k k' o1 o2, Ear E ops L p k o1 → Ear E ops L p k' o2 → k < segEnd E ops (j + 1) → k' < segEnd E ops (j + 1) → (hh S k').next = (hh S k).next → k' = k := by
    intro k k' o1 o2 h1 h2 h3 h4 e5
    obtain ⟨ob1, q1, _⟩ := (I.ear k o1 h1).obj
    obtain ⟨ob2, q2, _⟩ := (I.ear k' o2 h2).obj
    rcases Nat.lt_trichotomy k k' with h | h | h
    · have := addr_lt hS (p := j + 1) h (hoth h1) (Nat.le_of_lt h4) hlt ⟨ob1, q1⟩; omega
    · exact h.symm
    · have := addr_lt hS (p := j + 1) h (hoth h2) (Nat.le_of_lt h3) hlt ⟨ob2, q2⟩; omega
  have hat : ∀ k o', Ear E ops L p k o' → k < segEnd E ops (j + 1) → withE E ops S L p (j + 1) e m' (hh S k).next = some (e k) := fun k o' hk h2 =>
    withE_some hk h2 fun k' o2 h1 h3 h4 => huniq k k' _ _ hk h1 h2 h3 h4
  have hext : Ext m' (withE E ops S L p (j + 1) e m') := by
    intro b i hb
    rw [withE_none]
    · exact hb
    · rintro ⟨k, o', hk, h2, rfl⟩
      have := (R.dom _ i hb).1
      have := hbnd hk h2
      omega
  have E' : ∀ k o', Ear E ops L p k o' → EarAt S ok w0 m' w' k (e k) := fun k o' hk => (I.ear k o' hk).step ev
  have hlive : ∀ k o', Ear E ops L p k o' → k < segEnd E ops (j + 1) → ∃ ob, (hh S (segEnd E ops (j + 1))).get (hh S k).next = some ob ∧ (hh S k).next < (hh S (segEnd E ops (j + 1))).next ∧ ∀ m', ORel ok m' w' (e k) ob := by
    intro k o' hk h2
    obtain ⟨ob, h1, h3⟩ := (E' k o' hk).obj
    have hg2 : Grow (hh S (k + 1)) (hh S (segEnd E ops (j + 1))) := grow_seg hS (p := j + 1) h2 (by have := hoth hk; omega) (Nat.le_refl _) hlt
    have hn1 : (hh S k).next < (hh S (k + 1)).next := by rw [h1]; exact Nat.lt_succ_self _
    refine ⟨ob, ?_, Nat.lt_of_lt_of_le hn1 hg2.next, h3⟩
    rw [hg2.get _ hn1, h1, H.get_new, if_pos (show (hh S k).next = (hh S k).addr from rfl)]
  refine ⟨⟨hlt, ?_, .inr ⟨o, by simpa using ho, hc⟩, ?_, ?_, ?_, hwf, ?_, ?_⟩, hext, hat⟩
  · intro k ok' hk hck
    constructor
    · rintro (rfl | h)
      · exact Nat.lt_succ_self _
      · have := (I.pW _ _ hk hck).1 h
        have := segEnd_ge E ops p
        omega
    · intro h
      rcases Nat.lt_or_ge k j with h1 | h1
      · exact .inr (back hD hL hj hk ho h1 (notPair (by rw [hc, hck]; rfl)) (notEarlyO hc))
      · exact .inl (by omega)
  · have e0 := I.evo
    rw [hs] at e0
    have e1 : Evo m0 h0 w0 m' (hh S (segEnd E ops (j + 1))) w' := (e0.trans ev).view (fun _ _ _ => rfl) hv
    refine { ext := e1.ext.trans hext, os := e1.os, tape := e1.tape, output := e1.output, size := e1.size, keep := e1.keep, new := fun b i hb hb0 => ?_, own := fun r hr ho' => ?_ }
    · rcases withE_cases hb with ⟨k, o', hk, _, _, rfl⟩ | hb
      · exact .inl (I.ear k o' hk).ge
      · exact e1.new b i hb hb0
    · obtain ⟨b, ob, i, q1, q2, q3, q4⟩ := ho'
      rcases withE_cases q3 with ⟨k, o', hk, _, _, rfl⟩ | hb
      · have := (I.ear k o' hk).ge; omega
      · exact e1.own r hr ⟨b, ob, i, q1, q2, hb, q4⟩
  · refine { obj := fun b ob i hb hi => ?_, inj := fun b b' ob ob' i i' hb hm hb' hi hi' e2 => ?_, dom := fun b i hi => ?_, one := fun a ha => (by cases ha), wf := hg.wf hwf, glob := fun g hg => ?_ }
    · rcases withE_cases hi with ⟨k, o', hk, h2, rfl, rfl⟩ | hi
      · obtain ⟨ob2, q1, _, q2⟩ := hlive k o' hk h2
        rw [q1] at hb; cases hb
        exact q2 _
      · rw [hv b i hi] at hb
        exact (R.obj b ob i hb hi).congr hext rfl
    · rcases withE_cases hi with ⟨k, o', hk, h2, rfl, rfl⟩ | hi
      · rcases withE_cases hi' with ⟨k', o2, hk', h2', rfl, rfl⟩ | hi'
        · rw [I.dis k o' k' o2 hk hk' e2]
        · exact absurd e2.symm ((E' k o' hk).out b' i' hi')
      · rcases withE_cases hi' with ⟨k', o2, hk', h2', rfl, rfl⟩ | hi'
        · exact absurd e2 ((E' k' o2 hk').out b i hi)
        · rw [hv b i hi] at hb
          rw [hv b' i' hi'] at hb'
          exact R.inj b b' ob ob' i i' hb hm hb' hi hi' e2
    · rcases withE_cases hi with ⟨k, o', hk, h2, rfl, rfl⟩ | hi
      · obtain ⟨_, _, q1, _⟩ := hlive k o' hk h2
        exact ⟨q1, (E' k o' hk).lt⟩
      · exact ⟨Nat.lt_of_lt_of_le (R.dom b i hi).1 (by rw [hnx]; exact hg.next), (R.dom b i hi).2⟩
    · obtain ⟨i, h1, h2⟩ := R.glob g hg
      exact ⟨i, hext g i h1, h2⟩
  · intro k ok' hk hks hnk hck hnew
    have hkj : j + 1 ≤ k := by
      rcases Nat.lt_or_ge j k with h | h
      · exact h
      · have hne : k ≠ j := fun e => hnk (.inl e)
        exact absurd (.inr (back hD hL hj hk ho (by omega) (notPair (by rw [hc, hck]; rfl)) (notEarlyO hc))) hnk
    have hg2 : Grow (hh S (j + 1)) (hh S k) := grow_seg hS (p := j + 1) hkj (Nat.le_refl _) (Nat.le_of_lt hks) hlt
    rw [withE_none]
    · cases hm : m' (hh S k).next with
      | none => rfl
      | some i =>
        have := (R.dom _ i hm).1
        have := hg2.next
        omega
    · rintro ⟨k', o', hk', h2, e3⟩
      have hne : k' ≠ k := fun e => hnk (.inr (e ▸ hk'.2.1))
      obtain ⟨ob2, q2, _⟩ := (I.ear k' o' hk').obj
      rcases Nat.lt_or_gt_of_ne hne with h | h
      · have := addr_lt hS (p := j + 1) h (hoth hk') (Nat.le_of_lt hks) hlt ⟨ob2, q2⟩; omega
      · have h5 := (grow_seg hS (i := k + 1) (i' := k') (p := j + 1) h (by omega) (Nat.le_of_lt h2) hlt).next
        omega
  · intro k o' hk
    have q := E' k o' (hrest hk)
    refine ⟨q.ge, q.lt, fun b i hb e2 => ?_, q.obj⟩
    rcases withE_cases hb with ⟨k', o2, hk', h2, _, rfl⟩ | hb
    · have := I.dis _ _ _ _ hk' (hrest hk) e2
      have := hk.2.2.2.2
      omega
    · exact q.out b i hb e2
  · exact fun k o1 k' o2 h1 h2 => I.dis k o1 k' o2 (hrest h1) (hrest h2)
include ho in
theorem ear_back (hne : ¬ Ear E ops (fun k => k = j ∨ L k) p j o) {k : Nat} {o' : Oper} (hk : Ear E ops (fun k => k = j ∨ L k) p k o') : Ear E ops L p k o' := by
  have hkj : k ≠ j := by
    rintro rfl
    have := hk.1
    rw [ho] at this; cases this
    exact hne hk
  exact ⟨hk.1, hk.2.1.resolve_left hkj, hk.2.2.1, hk.2.2.2.1, hk.2.2.2.2⟩
include I ho in
theorem heap_stay (hc : cls E o.op ≠ .other) (hne : ¬ Ear E ops (fun k => k = j ∨ L k) p j o) {m' : Inj} {w' : World} (ev : Evo m0 h0 w0 m' (hh S (segEnd E ops p)) w') (R : HRel ok G m' (hh S (segEnd E ops p)) w')
    (ear : ∀ k o, Ear E ops L p k o → EarAt S ok w0 m' w' k (e k))
    (un : ∀ k o, ops[k]? = some o → k < segEnd E ops p → k ≠ j → ¬ L k → cls E o.op = .fresh → (hh S k).next < (hh S (k + 1)).next → m' (hh S k).next = none) :
    HP E ops S ok G m0 h0 w0 (fun k => k = j ∨ L k) m' w' p e where
  ple := I.ple
  pW k ok' hk hck := by
    rw [← I.pW k ok' hk hck]
    constructor
    · rintro (rfl | h)
      · rw [ho] at hk; cases hk; exact absurd hck hc
      · exact h
    · exact .inr
  pz := I.pz
  evo := ev
  rel := R
  un k ok' hk hks hnk := un k ok' hk hks (fun e => hnk (.inl e)) (fun h => hnk (.inr h))
  wfp := I.wfp
  ear k ok' hk := ear k ok' (ear_back ho hne hk)
  dis k o1 k' o2 h1 h2 := I.dis k o1 k' o2 (ear_back ho hne h1) (ear_back ho hne h2)
open Classical in
/-- The places of the new blocks that are still to come. -/
noncomputable def toCome (E : Env) (ops : Array Oper) (S : Nat → T Value × H) (L : Nat → Prop) (p j : Nat) : List Nat :=
  ((List.range (segEnd E ops p)).filter fun k => decide (k ≠ j ∧ ¬ L k ∧ (∃ o, ops[k]? = some o ∧ cls E o.op = .fresh) ∧ (hh S k).next < (hh S (k + 1)).next)).map fun k => (hh S k).next
theorem mem_toCome {a : Nat} : a ∈ toCome E ops S L p j ↔ ∃ k, k < segEnd E ops p ∧ (k ≠ j ∧ ¬ L k ∧ (∃ o, ops[k]? = some o ∧ cls E o.op = .fresh) ∧ (hh S k).next < (hh S (k + 1)).next) ∧ (hh S k).next = a := by
  simp [toCome, List.mem_map, List.mem_filter, and_assoc]
include hS hD I hL in
theorem toCome_ok {a : Nat} (ha : a ∈ toCome E ops S L p j) : a < (hh S (segEnd E ops p)).next ∧ m a = none := by
  obtain ⟨k, hk, ⟨_, hnk, ⟨q, hq, hcq⟩, hnew⟩, rfl⟩ := mem_toCome.1 ha
  refine ⟨?_, I.un k q hq hk hnk hcq hnew⟩
  have hp := fresh_ge hD I hL hq hnk hcq
  have := (grow_seg hS (i := k + 1) (i' := segEnd E ops p) (p := p) hk (by omega) (Nat.le_refl _) I.ple).next
  omega
include hS hD I hL ho hn hj in
theorem heap_step (hc : cls E o.op ≠ .other)
    (hlax : ∀ j k oj ok, ops[j]? = some oj → ops[k]? = some ok → cls E oj.op = .read → cls E ok.op = .other → ((ancD ops.toList []).getD (max j k) 0).testBit (min j k) = false → wantedD ops oj (S j).1 = some true →
      ∃ v x y, opD E ck oj.op (S j).1 (hh S j) = some (v, x) ∧ opD E ck oj.op (S j).1 (hh S (if k < j then k else segEnd E ops (k + 1))) = some (v, y))
    (hw : wantedD ops o (S j).1 = some true) {v : Value} {h' : H} (hd : opD E ck o.op (S j).1 (hh S j) = some (v, h')) (hnx : h'.clr = hh S (j + 1)) (hne : ¬ Ear E ops (fun k => k = j ∨ L k) p j o) (hne2 : cls E o.op = .fresh → j < segEnd E ops p) :
    ∃ hx hx', HRel ok G m hx w ∧ opD E ck o.op (S j).1 hx = some (v, hx') ∧ ∀ m' w', Evo m hx w m' hx' w' → HRel ok G m' hx' w' → HP E ops S ok G m0 h0 w0 (fun k => k = j ∨ L k) m' w' p e := by
  have hlt := get_lt ho
  have hsl : segEnd E ops p ≤ ops.size := segEnd_le I.ple
  -- no new block: memory with places bespoken
  have stay : opD E ck o.op (S j).1 { hh S (segEnd E ops p) with one := toCome E ops S L p j } = some (v, { hh S (segEnd E ops p) with one := toCome E ops S L p j }) →
      ∃ hx hx', HRel ok G m hx w ∧ opD E ck o.op (S j).1 hx = some (v, hx') ∧ ∀ m' w', Evo m hx w m' hx' w' → HRel ok G m' hx' w' → HP E ops S ok G m0 h0 w0 (fun k => k = j ∨ L k) m' w' p e := by
    intro hd'
    refine ⟨_, _, ?_, hd', ?_⟩
    · exact I.rel.view (fun _ _ _ => rfl) (fun b i hi => (I.rel.dom b i hi).1) I.rel.wf (fun a ha => toCome_ok hS hD I hL ha)
    · intro m' w' ev R
      refine heap_stay I ho hc hne ?_ ?_ (fun k o' hk => (I.ear k o' hk).step ev) ?_
      · exact I.evo.trans (Evo.view (h2 := hh S (segEnd E ops p)) (h2' := hh S (segEnd E ops p)) ev (fun _ _ _ => rfl) (fun _ _ _ => rfl))
      · exact R.view (fun _ _ _ => rfl) (fun b i hi => (R.dom b i hi).1) R.wf (fun a ha => by cases ha)
      · intro k q hq hk hkj hnk hcq hnew
        exact (R.one _ (mem_toCome.2 ⟨k, hk, ⟨hkj, hnk, ⟨q, hq, hcq⟩, hnew⟩, rfl⟩)).2
  cases hcl : cls E o.op with
  | other => exact absurd hcl hc
  | pure => exact stay ((pureOp hcl hd).2 _)
  | read =>
    have hown : opD E ck o.op (S j).1 (hh S (segEnd E ops p)) = some (v, hh S (segEnd E ops p)) := by
      have lax : ∀ k q, ops[k]? = some q → cls E q.op = .other → ((ancD ops.toList []).getD (max j k) 0).testBit (min j k) = false → (if k < j then k else segEnd E ops (k + 1)) = segEnd E ops p →
          opD E ck o.op (S j).1 (hh S (segEnd E ops p)) = some (v, hh S (segEnd E ops p)) := by
        intro k q hq hcq hb he
        obtain ⟨u, x, y, h1, h2⟩ := hlax j k o q ho hq hcl hcq hb hw
        rw [hd] at h1; cases h1
        rw [he] at h2
        have := (readOp hcl h2).1
        rw [this] at h2
        exact h2
      rcases Nat.lt_or_ge j p with h1 | h1
      · -- the caller came earlier, though it stands later
        rcases I.pz with h0 | ⟨q, hq, hcq⟩
        · omega
        · have hLp : L (p - 1) := (I.pW _ _ hq hcq).2 (by omega)
          have hne : j ≠ p - 1 := fun e => hn (e ▸ hLp)
          refine lax (p - 1) q hq hcq ?_ ?_
          · cases hb : ((ancD ops.toList []).getD (max j (p - 1)) 0).testBit (min j (p - 1)) with
            | false => rfl
            | true =>
              rw [Nat.max_eq_right (by omega), Nat.min_eq_left (by omega)] at hb
              exact absurd (anc_spec hb hL (hL _ hLp)) hn
          · rw [if_neg (by omega), show p - 1 + 1 = p by omega]
      · rcases Nat.lt_or_ge (segEnd E ops p) j with h2 | h2
        · obtain ⟨q, hq, hcq⟩ := segEnd_at (E := E) (ops := ops) (p := p) (Nat.lt_trans h2 hlt)
          refine lax _ q hq hcq ?_ (if_pos h2)
          cases hb : ((ancD ops.toList []).getD (max j (segEnd E ops p)) 0).testBit (min j (segEnd E ops p)) with
          | false => rfl
          | true =>
            rw [Nat.max_eq_left (by omega), Nat.min_eq_right (by omega)] at hb
            have hLs := anc_spec hb hL hj
            have := (I.pW _ _ hq hcq).1 hLs
            have := segEnd_ge E ops p
            omega
        · have hg : Grow (hh S j) (hh S (segEnd E ops p)) := grow_seg hS h2 h1 (Nat.le_refl _) I.ple
          have hwj : ∀ b, (hh S j).next ≤ b → (hh S j).get b = none := (grow_seg hS (i := p) (i' := j) h1 (Nat.le_refl _) h2 I.ple).wf I.wfp
          exact (readOp hcl hd).2 _ (hg.holds hwj)
    exact stay ((readOp hcl hown).2 _ (fun b q hb => hb))
  | fresh =>
    obtain ⟨ob, h1, h2⟩ := freshOp hcl hd
    have hjp := fresh_ge hD I hL ho hn hcl
    have hjs : j < segEnd E ops p := hne2 hcl
    have hS1 : hh S (j + 1) = (hh S j).new ob := by rw [← hnx, h1]; rfl
    have hnew : (hh S j).next < (hh S (j + 1)).next := by rw [hS1]; exact Nat.lt_succ_self _
    have hmn : m (hh S j).next = none := I.un j o ho hjs hn hcl hnew
    have hg1 : Grow (hh S (j + 1)) (hh S (segEnd E ops p)) := grow_seg hS hjs (by omega) (Nat.le_refl _) I.ple
    have hat : (hh S (segEnd E ops p)).get (hh S j).next = some ob := by
      rw [hg1.get _ hnew, hS1, H.get_new, if_pos (show (hh S j).next = (hh S j).addr from rfl)]
    let hx : H := { next := (hh S (segEnd E ops p)).next, objs := (hh S (segEnd E ops p)).objs.set (hh S j).next none, one := (hh S j).next :: toCome E ops S L p j }
    have hxg : ∀ b, hx.get b = if b = (hh S j).next then none else (hh S (segEnd E ops p)).get b := fun b => T.get_set ..
    refine ⟨hx, hx.new ob, ?_, h2 hx rfl, ?_⟩
    · refine I.rel.view ?_ (fun b i hi => (I.rel.dom b i hi).1) ?_ ?_
      · intro b i hi
        rw [hxg, if_neg (fun e => by rw [e, hmn] at hi; cases hi)]
      · intro b hb
        rw [hxg]
        by_cases e : b = (hh S j).next
        · rw [if_pos e]
        · rw [if_neg e]; exact I.rel.wf b hb
      · intro a ha
        rcases List.mem_cons.1 ha with rfl | ha
        · exact ⟨Nat.lt_of_lt_of_le hnew hg1.next, hmn⟩
        · exact toCome_ok hS hD I hL ha
    · intro m' w' ev R
      have hv : ∀ b, (hh S (segEnd E ops p)).get b = (hx.new ob).get b := by
        intro b
        rw [H.get_new]
        by_cases e : b = (hh S j).next
        · rw [if_pos (show b = hx.addr from e), e, hat]
        · rw [if_neg (show ¬ b = hx.addr from e), hxg, if_neg e]
      refine heap_stay I ho hc hne ?_ ?_ (fun k o' hk => (I.ear k o' hk).step ev) ?_
      · refine I.evo.trans (Evo.view (h2 := hh S (segEnd E ops p)) (h2' := hh S (segEnd E ops p)) ev ?_ (fun b _ _ => hv b))
        intro b i hi
        rw [hxg, if_neg (fun e => by rw [e, hmn] at hi; cases hi)]
      · exact R.view (fun b _ _ => hv b) (fun b i hi => (R.dom b i hi).1) (fun b hb => by rw [hv]; exact R.wf b hb) (fun a ha => by cases ha)
      · intro k q hq hk hkj hnk hcq hnewk
        have hne : (hh S k).next ≠ (hh S j).next := by
          have hkp := fresh_ge hD I hL hq hnk hcq
          rcases Nat.lt_or_gt_of_ne hkj with hlt' | hgt
          · have := (grow_seg hS (i := k + 1) (i' := j) (p := p) hlt' (by omega) (by omega) I.ple).next
            omega
          · have := (grow_seg hS (i := j + 1) (i' := k) (p := p) hgt (by omega) (by omega) I.ple).next
            omega
        refine (R.one _ ?_).2
        show _ ∈ (toCome E ops S L p j).filter (· != (hh S j).next)
        exact List.mem_filter.2 ⟨mem_toCome.2 ⟨k, hk, ⟨hkj, hnk, ⟨q, hq, hcq⟩, hnewk⟩, rfl⟩, by simpa using hne⟩
end
end Go.Dm

set_option linter.unusedVariables false
set_option linter.unusedSimpArgs false
namespace Go.Dm

/-- The slots of a list, nothing more. -/
def onlyF (fr : T Value) : List Tmp → T Value
  | [] => .leaf
  | t :: ts => (onlyF fr ts).set t (fr.get t)
theorem get_onlyF (fr : T Value) (t : Tmp) : ∀ ts : List Tmp, (onlyF fr ts).get t = if t ∈ ts then fr.get t else none := by
  intro ts
  induction ts with
  | nil => simp [onlyF]
  | cons u ts ih =>
    simp only [onlyF, T.get_set, ih, List.mem_cons]
    by_cases e : t = u
    · subst e; simp
    · simp [e]
theorem ev_onlyF {ops : Array Oper} {o : Oper} {fr : T Value} {x : Operand} (hx : x ∈ o.op.operands.toList) : ev fr x = ev (onlyF fr (looksD ops o)) x := by
  cases x with
  | tmp t =>
    simp only [ev, get_onlyF]
    rw [if_pos]
    exact List.mem_append_left _ (List.mem_filterMap.2 ⟨.tmp t, hx, rfl⟩)
  | _ => rfl

section
variable {E : Env} {ops : Array Oper} {S : Nat → T Value × H} {ck : CK}
structure Slots (E : Env) (ops : Array Oper) (S : Nat → T Value × H) (N : Nat) (L : Nat → Prop) (m : Inj) (p : Nat) (e : Nat → Img) (a : Act) : Prop where
  size : a.tmps.size = N
  get : ∀ i, i ≤ ops.size → ∀ t v, (S i).1.get t = some v → (∀ k o, ops[k]? = some o → o.dst = some t → (L k ↔ k < i)) → (∀ k o, Ear E ops L p k o → o.dst ≠ some t) → ∃ v', a.tmps[t]? = some v' ∧ VRel m v v'
  ear : ∀ k o t, Ear E ops L p k o → o.dst = some t → a.tmps[t]? = some (.pointer (some ⟨(e k).blk, 0 + (e k).off, none⟩)) ∧ (S (k + 1)).1.get t = some (.pointer (some ⟨(hh S k).next, 0, none⟩))
variable {ok : OkC} {G : Nat} {m0 : Inj} {h0 : H} {w0 w : World}
variable (hS : ∀ i o, ops[i]? = some o → StepD E ck ops o (S i) (S (i + 1))) (hD : okDraw E ops = true)
  {L : Nat → Prop} {m : Inj} {p : Nat} {e : Nat → Img} (Hp : HP E ops S ok G m0 h0 w0 L m w p e) (hL : ∀ i, L i → ClosedL ops L i) {N : Nat} {a : Act} (I : Slots E ops S N L m p e a)
  {j : Nat} {o : Oper} (ho : ops[j]? = some o) (hn : ¬ L j) (hj : ClosedL ops L j)
include hD Hp hL I ho hn hj in
theorem looks_ok {t : Tmp} {v : Value} (ht : t ∈ looksD ops o) (hv : (S j).1.get t = some v) : ∃ v', a.tmps[t]? = some v' ∧ VRel m v v' := by
  refine I.get j (Nat.le_of_lt (get_lt ho)) t v hv ?_ fun k o' hk ht' => ear_look hD Hp hL hk ht' ho hn hj ht
  intro k q hk hq
  rcases Nat.lt_trichotomy k j with h | h | h
  · exact iff_of_true (backA hD hL hj hk ho h fun hp => (apartD_spec hp).1 t hq ht) h
  · subst h; exact iff_of_false hn (Nat.lt_irrefl _)
  · exact iff_of_false (foreA hD hL hn hk ho h fun hp => (apartD_spec hp).2.2 t hq ht) (by omega)
theorem stepD_get {o : Oper} {s s' : T Value × H} (hs : StepD E ck ops o s s') {t : Tmp} (ht : o.dst ≠ some t) : s'.1.get t = s.1.get t := by
  rcases hs with ⟨_, v, h', _, rfl⟩ | ⟨_, rfl⟩ <;> simp only [putD_get, if_neg ht]
include hS in
theorem still_get {i : Nat} {t : Tmp} : ∀ (d : Nat), i + d ≤ ops.size → (∀ k q, i ≤ k → k < i + d → ops[k]? = some q → q.dst ≠ some t) → (S (i + d)).1.get t = (S i).1.get t := by
  intro d
  induction d with
  | zero => intro _ _; rfl
  | succ d ih =>
    intro hd hc
    have hq : ops[i + d]? = some ops[i + d] := Array.getElem?_eq_getElem (by omega)
    rw [← Nat.add_assoc, stepD_get (hS _ _ hq) (hc _ _ (by omega) (by omega) hq)]
    exact ih (by omega) fun k q h1 h2 => hc k q h1 (by omega)
include hS hD Hp hL I ho hn hj in
/-- The slots behind an operation; which early variables are reached then is free. -/
theorem slots_gen (hdst : okD N o.dst = true) {m' m2 : Inj} (he : Ext m m2) (he2 : Ext m' m2) {p' : Nat} (hrest : ∀ k o', Ear E ops (fun k => k = j ∨ L k) p' k o' → Ear E ops L p k o')
    (hgone : ∀ k o', Ear E ops L p k o' → ¬ Ear E ops (fun k => k = j ∨ L k) p' k o' → m2 (hh S k).next = some (e k)) {v v' : Value} (hv : VRel m' v v') (hF : (S (j + 1)).1 = putD (S j).1 o.dst v) :
    Slots E ops S N (fun k => k = j ∨ L k) m2 p' e (a.put o.dst v') where
  size := (put_size ..).trans I.size
  get i hi t u hu hw hE := by
    have hdst : ∀ u, o.dst = some u → u < a.tmps.size := fun u hu => by
      rw [hu] at hdst
      rw [I.size]; simpa [okD] using hdst
    rw [put_tmps _ _ _ _ hdst]
    by_cases hdt : o.dst = some t
    · rw [if_pos hdt]
      have hji : j < i := (hw j o ho hdt).1 (.inl rfl)
      have h1 : (S i).1.get t = (S (j + 1)).1.get t := by
        have := still_get hS (i := j + 1) (t := t) (i - (j + 1)) (by omega) ?_
        · rwa [show j + 1 + (i - (j + 1)) = i by omega] at this
        · intro k q hk1 hk2 hk hq
          have hk3 : k < i := by omega
          rcases (hw k q hk hq).2 hk3 with h | h
          · omega
          · exact foreA hD hL hn hk ho (by omega) (fun hp => (apartD_spec hp).2.1 t hdt hq) h
      rw [h1, hF, putD_get, if_pos hdt] at hu
      cases hu
      exact ⟨_, rfl, hv.mono he2⟩
    · rw [if_neg hdt]
      have hw' : ∀ k q, ops[k]? = some q → q.dst = some t → (L k ↔ k < i) := fun k q hk hq => by
        rw [← hw k q hk hq]
        refine ⟨.inr, fun h => h.resolve_left fun e => ?_⟩
        subst e; rw [ho] at hk; cases hk; exact hdt hq
      by_cases hx : ∃ k o', Ear E ops L p k o' ∧ o'.dst = some t
      · obtain ⟨k, o', hk, hkt⟩ := hx
        have hki : k < i := (hw' k o' hk.1 hkt).1 hk.2.1
        have hg := hgone k o' hk fun h => hE k o' h hkt
        obtain ⟨q1, q2⟩ := I.ear k o' t hk hkt
        have h1 : (S i).1.get t = (S (k + 1)).1.get t := by
          have := still_get hS (i := k + 1) (t := t) (i - (k + 1)) (by omega) ?_
          · rwa [show k + 1 + (i - (k + 1)) = i by omega] at this
          · intro x q hx1 hx2 hx3
            exact ear_dst hD Hp hL hk hkt hx3 (by omega)
        rw [h1, q2] at hu
        cases hu
        exact ⟨_, q1, .ptr hg⟩
      · obtain ⟨v1, h1, h2⟩ := I.get i hi t u hu hw' fun k o' hk hkt => hx ⟨k, o', hk, hkt⟩
        exact ⟨v1, h1, h2.mono he⟩
  ear k o' t hk hkt := by
    have hdst : ∀ u, o.dst = some u → u < a.tmps.size := fun u hu => by
      rw [hu] at hdst
      rw [I.size]; simpa [okD] using hdst
    have hk' := hrest k o' hk
    have hne : j ≠ k := fun e => hn (e ▸ hk'.2.1)
    obtain ⟨q1, q2⟩ := I.ear k o' t hk' hkt
    rw [put_tmps _ _ _ _ hdst, if_neg (ear_dst hD Hp hL hk' hkt ho hne)]
    exact ⟨q1, q2⟩
include hS hD Hp hL I ho hn hj in
theorem slots_put (hdst : okD N o.dst = true) (hne : ¬ Ear E ops (fun k => k = j ∨ L k) p j o) {m' : Inj} (he : Ext m m') {v v' : Value} (hv : VRel m' v v') (hF : (S (j + 1)).1 = putD (S j).1 o.dst v) : Slots E ops S N (fun k => k = j ∨ L k) m' p e (a.put o.dst v') :=
  slots_gen hS hD Hp hL I ho hn hj hdst he (Ext.refl m') (fun k o' hk => ear_back ho hne hk) (fun k o' hk hnk => absurd ⟨hk.1, .inr hk.2.1, hk.2.2⟩ hnk) hv hF
include hD Hp hL I ho hn hj in
/-- A variable is made early. -/
theorem slots_early (hdst : okD N o.dst = true) (hE : Ear E ops (fun k => k = j ∨ L k) p j o) {img : Img} (hq : ∃ q, Early E ops (segEnd E ops p) q j o) (hF : ∀ t, o.dst = some t → (S (j + 1)).1.get t = some (.pointer (some ⟨(hh S j).next, 0, none⟩))) :
    Slots E ops S N (fun k => k = j ∨ L k) m p (fun k => if k = j then img else e k) (a.put o.dst (.pointer (some ⟨img.blk, 0 + img.off, none⟩))) where
  size := (put_size ..).trans I.size
  get i hi t u hu hw hE' := by
    have hdst : ∀ u, o.dst = some u → u < a.tmps.size := fun u hu => by
      rw [hu] at hdst
      rw [I.size]; simpa [okD] using hdst
    have hdt := hE' j o hE
    rw [put_tmps _ _ _ _ hdst, if_neg hdt]
    refine I.get i hi t u hu (fun k q hk hq => ?_) fun k o' hk => hE' k o' ⟨hk.1, .inr hk.2.1, hk.2.2⟩
    rw [← hw k q hk hq]
    refine ⟨.inr, fun h => h.resolve_left fun e => ?_⟩
    subst e; rw [ho] at hk; cases hk; exact hdt hq
  ear k o' t hk hkt := by
    have hdst : ∀ u, o.dst = some u → u < a.tmps.size := fun u hu => by
      rw [hu] at hdst
      rw [I.size]; simpa [okD] using hdst
    rw [put_tmps _ _ _ _ hdst]
    by_cases hkj : k = j
    · subst hkj
      have := hk.1
      rw [ho] at this; cases this
      rw [if_pos hkt, if_pos rfl]
      exact ⟨rfl, hF t hkt⟩
    · have hk' : Ear E ops L p k o' := ⟨hk.1, hk.2.1.resolve_left hkj, hk.2.2⟩
      rw [if_neg (ear_dst hD Hp hL hk' hkt ho (Ne.symm hkj)), if_neg hkj]
      exact I.ear k o' t hk' hkt
include hS hD Hp hL I ho hn hj in
theorem slots_other (hdst : okD N o.dst = true) (hc : cls E o.op = .other) {m' m2 : Inj} (he : Ext m m2) (he2 : Ext m' m2) (hat : ∀ k o, Ear E ops L p k o → k < segEnd E ops (j + 1) → m2 (hh S k).next = some (e k))
    {v v' : Value} (hv : VRel m' v v') (hF : (S (j + 1)).1 = putD (S j).1 o.dst v) : Slots E ops S N (fun k => k = j ∨ L k) m2 (j + 1) e (a.put o.dst v') := by
  have hs := other_at hD Hp hL ho hn hj hc
  refine slots_gen hS hD Hp hL I ho hn hj hdst he he2 ?_ ?_ hv hF
  · rintro k o' ⟨h1, h2, h3, h4, h5⟩
    have hk : j + 1 ≤ k := Nat.le_trans (segEnd_ge ..) h5
    exact ⟨h1, h2.resolve_left (by omega), h3, h4, by omega⟩
  · intro k o' hk hnk
    refine hat k o' hk ?_
    rcases Nat.lt_or_ge k (segEnd E ops (j + 1)) with h | h
    · exact h
    · exact absurd ⟨hk.1, .inr hk.2.1, hk.2.2.1, hk.2.2.2.1, h⟩ hnk
include Hp ho in
theorem heap_early (hc : cls E o.op ≠ .other) (hear : Ear E ops (fun k => k = j ∨ L k) p j o) {ob : DObj} (hS1 : hh S (j + 1) = (hh S j).new ob) {x : Obj} {n : Nat} (hO : ∀ m', ORel ok m' (w.alloc x) ⟨w.heap.size, 0, 0, n⟩ ob) :
    HP E ops S ok G m0 h0 w0 (fun k => k = j ∨ L k) m (w.alloc x) p (fun k => if k = j then ⟨w.heap.size, 0, 0, n⟩ else e k) where
  ple := Hp.ple
  pW k ok' hk hck := by
    rw [← Hp.pW k ok' hk hck]
    constructor
    · rintro (rfl | h)
      · rw [ho] at hk; cases hk; exact absurd hck hc
      · exact h
    · exact .inr
  pz := Hp.pz
  evo := Hp.evo.trans (Evo.push ..)
  rel := Hp.rel.push x
  un k ok' hk hks hnk := Hp.un k ok' hk hks (fun h => hnk (.inr h))
  wfp := Hp.wfp
  ear k o' hk := by
    by_cases hkj : k = j
    · subst hkj
      simp only [if_pos]
      exact ⟨Hp.evo.size, by show w.heap.size < _; rw [alloc_size]; omega, fun b i hb e2 => by have := (Hp.rel.dom b i hb).2; simp only at e2; omega, ob, hS1, hO⟩
    · simp only [if_neg hkj]
      exact (Hp.ear k o' ⟨hk.1, hk.2.1.resolve_left hkj, hk.2.2⟩).step (Evo.push m (hh S (segEnd E ops p)) w x)
  dis k o1 k' o2 h1 h2 := by
    by_cases hk : k = j
    · by_cases hk' : k' = j
      · intro _; omega
      · simp only [if_pos hk, if_neg hk']
        intro e2
        have := (Hp.ear k' o2 ⟨h2.1, h2.2.1.resolve_left hk', h2.2.2⟩).lt
        omega
    · by_cases hk' : k' = j
      · simp only [if_neg hk, if_pos hk']
        intro e2
        have := (Hp.ear k o1 ⟨h1.1, h1.2.1.resolve_left hk, h1.2.2⟩).lt
        omega
      · simp only [if_neg hk, if_neg hk']
        exact Hp.dis k o1 k' o2 ⟨h1.1, h1.2.1.resolve_left hk, h1.2.2⟩ ⟨h2.1, h2.2.1.resolve_left hk', h2.2.2⟩
end
section
variable {P : Program} {E : Env} (hE : EnvOk P E) {w : World} {a : Act}
include hE in
theorem alloc_wp {o : Oper} {t : TypeId} (hop : o.op = .alloc t) {z : Value} (hz : zeroD E t = some z) {ro : Option Nat} {next : Act → World → Prop} {Q : Exit → Act → World → Prop}
    (hn : next (a.put o.dst (.pointer (some ⟨w.heap.size, 0 + 0, none⟩))) (w.alloc (.cells z.cells.toList.toArray t))) : o.wpIn (FW ro) 0 P a w next Q := by
  have hdef : ∀ c, o.op ≠ .defer c := by intro c hc; rw [hop] at hc; cases hc
  refine ⟨fun _ _ => trivial, ?_⟩
  rw [show (FW ro).round = ro from rfl, Oper.semAt_eq _ _ _ hdef]
  have hr : (execOp a.eval o).run P w = .ok (.value (.pointer (some ⟨w.heap.size, 0, none⟩))) (w.alloc (.cells z.cells.toList.toArray t)) := by
    simp [execOp, hop, Instr.alloc, run_zero hE hz, newVar, newRow]
  rw [hr]
  exact hn
end

section
variable {P : Program} {E : Env} (hE : EnvOk P E) {ok : OkC} {G N : Nat} {ck : CK} (C : CallSim P ok G ck) {ro : Option Nat} {Q : Exit → Act → World → Prop} {ops : Array Oper}
  {S : Nat → T Value × H} (hS : ∀ i o, ops[i]? = some o → StepD E ck ops o (S i) (S (i + 1))) (hD : okDraw E ops = true) (hok : ops.toList.all (okO G N) = true)
  (hlax : ∀ j k oj ok, ops[j]? = some oj → ops[k]? = some ok → cls E oj.op = .read → cls E ok.op = .other → ((ancD ops.toList []).getD (max j k) 0).testBit (min j k) = false → wantedD ops oj (S j).1 = some true →
      ∃ v x y, opD E ck oj.op (S j).1 (hh S j) = some (v, x) ∧ opD E ck oj.op (S j).1 (hh S (if k < j then k else segEnd E ops (k + 1))) = some (v, y))
  {m0 : Inj} {h0 : H} {w0 : World} {a0 : Act}
  (hQ : ∀ m' a' w', Evo m0 h0 w0 m' (hh S ops.size) w' → HRel ok G m' (hh S ops.size) w' → FRel m' (S ops.size).1 a'.tmps → a'.tmps.size = N → a'.defers = a0.defers → Q .normal a' w')
abbrev LL (listed : Array Bool) : Nat → Prop := fun i => listed.getD i false = true
theorem LL_set {listed : Array Bool} {j : Nat} (hj : j < listed.size) : LL (listed.setIfInBounds j true) = fun k => k = j ∨ LL listed k := by
  funext k
  apply propext
  unfold LL
  simp only [Array.getD_eq_getD_getElem?, Array.getElem?_setIfInBounds]
  by_cases e : j = k
  · subst e; simp [hj]
  · rw [if_neg e]
    exact ⟨.inr, fun h => h.resolve_left (Ne.symm e)⟩
include hE C hS hD hok hlax hQ in
theorem any_sim : ∀ (fuel : Nat) (listed : Array Bool) (a : Act) (w : World) (m : Inj) (p : Nat) (e : Nat → Img), listed.size = ops.size → listed.toList.count false ≤ fuel → (∀ i, LL listed i → ClosedL ops (LL listed) i) →
    HP E ops S ok G m0 h0 w0 (LL listed) m w p e → Slots E ops S N (LL listed) m p e a → a.defers = a0.defers → wpAnyIn (FW ro) 0 P .any ops Q fuel listed a w := by
  have fin : ∀ (listed : Array Bool) (a : Act) (w : World) (m : Inj) (p : Nat) (e : Nat → Img), (∀ i, i < ops.size → LL listed i) → HP E ops S ok G m0 h0 w0 (LL listed) m w p e → Slots E ops S N (LL listed) m p e a → a.defers = a0.defers → Q .normal a w := by
    intro listed a w m p e hall I J hd
    have hs : segEnd E ops p = ops.size := by
      have h1 := segEnd_le (E := E) I.ple
      rcases Nat.lt_or_ge (segEnd E ops p) ops.size with h | h
      · obtain ⟨q, hq, hcq⟩ := segEnd_at (E := E) (ops := ops) (p := p) h
        have := (I.pW _ _ hq hcq).1 (hall _ h)
        have := segEnd_ge E ops p
        omega
      · omega
    have ev := I.evo
    have R := I.rel
    rw [hs] at ev R
    refine hQ m a w ev R ?_ J.size hd
    intro t v hv
    exact J.get ops.size (Nat.le_refl _) t v hv (fun k q hk _ => iff_of_true (hall k (get_lt hk)) (get_lt hk)) fun k q hk => by
      have h1 := hk.2.2.2.2
      have h2 := get_lt hk.1
      omega
  have nil : ∀ (listed : Array Bool), listed.size = ops.size → Region.ready .any ops listed = [] → ∀ i, i < ops.size → LL listed i := by
    intro listed hsz hr i
    induction i using Nat.strongRecOn with
    | _ i ih =>
      intro hi
      cases hb : listed.getD i false with
      | true => exact hb
      | false =>
        have hoi : ops[i]? = some ops[i] := Array.getElem?_eq_getElem hi
        have : i ∈ Region.ready .any ops listed := mem_ready.2 ⟨by
          have : i < listed.size := by omega
          simp only [Array.getD_eq_getD_getElem?, Array.getElem?_eq_getElem this, Option.getD_some] at hb ⊢; exact hb, _, hoi, fun e he hbi => by
            have hlt := (okDraw_spec hD).1 i _ hoi e (by simpa using he) hbi
            exact ih _ hlt (by omega)⟩
        rw [hr] at this
        cases this
  intro fuel
  induction fuel with
  | zero =>
    intro listed a w m p e hsz hc hL I J hd
    have hall : ∀ i, i < ops.size → LL listed i := by
      intro i hi
      have h0 : listed.toList.count false = 0 := by omega
      have h1 : i < listed.size := by omega
      rw [List.count_eq_zero] at h0
      have h2 : listed[i] ∈ listed.toList := by simp
      show listed.getD i false = true
      simp only [Array.getD_eq_getD_getElem?, Array.getElem?_eq_getElem h1, Option.getD_some]
      cases hb : listed[i] with
      | true => rfl
      | false => rw [hb] at h2; exact absurd h2 h0
    refine ⟨?_, fin listed a w m p e hall I J hd⟩
    refine List.eq_nil_iff_forall_not_mem.2 fun j hj => ?_
    obtain ⟨h1, o, ho, _⟩ := mem_ready.1 hj
    have := hall j (get_lt ho)
    have h3 : j < listed.size := by rw [hsz]; exact get_lt ho
    unfold LL at this
    simp only [Array.getD_eq_getD_getElem?, Array.getElem?_eq_getElem h3, Option.getD_some] at this h1
    rw [this] at h1; cases h1
  | succ fuel ih =>
    intro listed a w m p e hsz hc hL I J hd
    refine ⟨fun hr => fin listed a w m p e (nil listed hsz hr) I J hd, fun j hr => ?_⟩
    obtain ⟨h1, o, ho, hafter⟩ := mem_ready.1 hr
    have hlt := get_lt ho
    have hjs : j < listed.size := by omega
    have hn : ¬ LL listed j := by
      unfold LL
      simp only [Array.getD_eq_getD_getElem?, Array.getElem?_eq_getElem hjs, Option.getD_some] at h1 ⊢
      rw [h1]; simp
    have hj : ClosedL ops (LL listed) j := fun q hq e he hb => by
      rw [ho] at hq; cases hq
      exact hafter e (by simpa using he) hb
    have hokj : okO G N o = true := by
      have := List.all_eq_true.1 hok o (by rw [← Array.getElem?_toList] at ho; exact List.mem_of_getElem? ho)
      exact this
    have hdst : okD N o.dst = true := by
      simp only [okO, Bool.and_eq_true] at hokj
      exact hokj.1.2
    have hLset := LL_set hjs
    have hsz' : (listed.setIfInBounds j true).size = ops.size := by simpa using hsz
    have hcnt : (listed.setIfInBounds j true).toList.count false ≤ fuel := by
      have hjf : listed.toList[j]? = some false := by
        simp only [Array.getD_eq_getD_getElem?, Array.getElem?_eq_getElem hjs, Option.getD_some] at h1
        rw [Array.getElem?_toList, Array.getElem?_eq_getElem hjs, h1]
      have hlen : j < listed.toList.length := by simpa using hjs
      have hx : listed.toList[j] = false := by rw [List.getElem?_eq_getElem hlen] at hjf; exact Option.some.inj hjf
      have hcs := List.count_set (a := true) (b := false) hlen
      have hpos : 0 < listed.toList.count false := List.count_pos_iff.2 (hx ▸ List.getElem_mem hlen)
      rw [Array.toList_setIfInBounds, hcs]
      simp only [hx, beq_self_eq_true, if_true]
      show _ - 1 + 0 ≤ fuel
      omega
    have hLcl : ∀ i, LL (listed.setIfInBounds j true) i → ClosedL ops (LL (listed.setIfInBounds j true)) i := by
      rw [hLset]
      intro i hi q hq e he hb
      rcases hi with rfl | hi
      · exact .inr (hj q hq e he hb)
      · exact .inr (hL i hi q hq e he hb)
    have hlooks : ∀ t v, t ∈ looksD ops o → (S j).1.get t = some v → ∃ v', a.tmps[t]? = some v' ∧ VRel m v v' := fun t v ht hv => looks_ok hD I hL J ho hn hj ht hv
    simp only [wpOpIn, ho]
    rcases hS j o ho with ⟨hw, v, h', hdo, hnext⟩ | ⟨hw, hnext⟩
    · rw [wanted_sim hlooks hw]
      simp only [if_true]
      have hfr : FRel m (onlyF (S j).1 (looksD ops o)) a.tmps := by
        intro t u hu
        rw [get_onlyF] at hu
        by_cases ht : t ∈ looksD ops o
        · rw [if_pos ht] at hu; exact hlooks t u ht hu
        · rw [if_neg ht] at hu; cases hu
      have hn1 : h'.clr = hh S (j + 1) := by show _ = (S (j + 1)).2.clr; rw [hnext]
      have hF1 : (S (j + 1)).1 = putD (S j).1 o.dst v := by rw [hnext]
      by_cases hcl : cls E o.op = .other
      · have hs := other_at hD I hL ho hn hj hcl
        have R := I.rel
        rw [hs] at R
        refine op_wp hE C R hfr hokj (by rw [← opD_congr fun x hx => ev_onlyF hx]; exact hdo) ?_
        intro m' v' w' ev R' hv
        obtain ⟨H1, H2, H3⟩ := heap_other hS hD I hL ho hn hj hcl ev R' hn1
        refine ih _ _ _ (withE E ops S (LL listed) p (j + 1) e m') (j + 1) e hsz' hcnt hLcl ?_ ?_ ((put_defers ..).trans hd)
        · rw [hLset]; exact H1
        · rw [hLset]; exact slots_other hS hD I hL J ho hn hj hdst hcl (ev.ext.trans H2) H2 H3 hv hF1
      · by_cases hear : Ear E ops (fun k => k = j ∨ LL listed k) p j o
        · -- a variable made ahead of its turn
          obtain ⟨t, hop⟩ : ∃ t, o.op = .alloc t := by
            have := hear.2.2.1
            cases hx : o.op <;> rw [hx] at this <;> first | exact ⟨_, rfl⟩ | cases this
          have hdo' := hdo
          rw [hop] at hdo'
          obtain ⟨z, hz, hzv⟩ := map_some hdo'
          have hpv := zero_plain hz
          have hq : ∃ q, Early E ops (segEnd E ops p) q j o := by
            obtain ⟨q, hq, hcq⟩ := segEnd_at (E := E) (ops := ops) (p := p) (Nat.lt_of_le_of_lt hear.2.2.2.2 hlt)
            have hne : segEnd E ops p ≠ j := fun e => by rw [e, ho] at hq; cases hq; exact hcl hcq
            have hlt' : segEnd E ops p < j := Nat.lt_of_le_of_ne hear.2.2.2.2 hne
            have hnq : ¬ LL listed (segEnd E ops p) := fun h => by
              have := (I.pW _ _ hq hcq).1 h
              have := segEnd_ge E ops p
              omega
            rcases (okDraw_spec hD).2 _ _ q o hlt' hq ho with h | h | h
            · exact absurd (anc_spec h hL hj) hnq
            · have := h.free
              rw [hcq, isAlloc_fresh hear.2.2.1] at this; cases this
            · exact ⟨q, h⟩
          have hS1 : hh S (j + 1) = (hh S j).new (.cells z.cells.toList 0 true 0 (E.tag t)) := by
            rw [← hn1]
            have : h' = (hh S j).new (.cells z.cells.toList 0 true 0 (E.tag t)) := by
              simp only [newD, Prod.mk.injEq] at hzv
              exact hzv.2.symm
            rw [this]; rfl
          have hv1 : v = .pointer (some ⟨(hh S j).next, 0, none⟩) := by
            simp only [newD, Prod.mk.injEq] at hzv
            exact hzv.1.symm
          refine alloc_wp hE hop hz ?_
          refine ih _ _ _ m p (fun k => if k = j then ⟨w.heap.size, 0, 0, z.cells.toList.length⟩ else e k) hsz' hcnt hLcl ?_ ?_ ((put_defers ..).trans hd)
          · rw [hLset]
            refine heap_early I ho hcl hear hS1 ?_
            intro m'
            refine ⟨rfl, z.cells.toList.toArray, t, 0, 0, alloc_at .., by simp, by simp, fun i u hu => ⟨u, by simpa using hu, ?_⟩, fun _ => .inr (.inl (Nat.le_refl _)), fun u hu => ⟨E.tag_eq t u hu, rfl, .inl rfl⟩⟩
            obtain ⟨u', h1, h2⟩ := ((VRel.plainV (m := m') hpv).cells).get hu
            rw [hu] at h1; cases h1; exact h2
          · rw [hLset]
            have := slots_early hD I hL J ho hn hj hdst hear (img := ⟨w.heap.size, 0, 0, z.cells.toList.length⟩) hq (fun t ht => by rw [hF1, putD_get, if_pos ht, hv1])
            simpa using this
        · have hne2 : cls E o.op = .fresh → j < segEnd E ops p := by
            intro hcf
            rcases Nat.lt_or_ge j (segEnd E ops p) with h | h
            · exact h
            · obtain ⟨q, hq, hcq⟩ := segEnd_at (E := E) (ops := ops) (p := p) (Nat.lt_of_le_of_lt h hlt)
              have hne : segEnd E ops p ≠ j := fun e => by rw [e, ho] at hq; cases hq; exact hcl hcq
              have hnE : ¬ Early E ops (segEnd E ops p) q j o := fun q' => hear ⟨ho, .inl rfl, q'.alloc, q'.guard, h⟩
              have hLs := back hD hL hj hq ho (by omega) (notPair (by rw [hcf, hcq]; rfl)) hnE
              have := (I.pW _ _ hq hcq).1 hLs
              have := segEnd_ge E ops p
              omega
          obtain ⟨hx, hx', Rx, hdx, hpost⟩ := heap_step hS hD I hL ho hn hj hcl hlax hw hdo hn1 hear hne2
          refine op_wp hE C Rx hfr hokj (by rw [← opD_congr fun x hx => ev_onlyF hx]; exact hdx) ?_
          intro m' v' w' ev R' hv
          refine ih _ _ _ m' p e hsz' hcnt hLcl ?_ ?_ ((put_defers ..).trans hd)
          · rw [hLset]; exact hpost m' w' ev R'
          · rw [hLset]; exact slots_put hS hD I hL J ho hn hj hdst hear ev.ext hv hF1
    · rw [wanted_sim hlooks hw]
      simp only [Bool.false_eq_true, if_false]
      have hn1 : (S j).2.clr = hh S (j + 1) := by show _ = (S (j + 1)).2.clr; rw [hnext]
      have hF1 : (S (j + 1)).1 = putD (S j).1 o.dst undef := by rw [hnext]
      refine ⟨fun _ _ => trivial, ?_⟩
      have hear : ¬ Ear E ops (fun k => k = j ∨ LL listed k) p j o := fun h => by
        have := h.2.2.2.1
        simp only [wantedD, this] at hw
        cases hw
      by_cases hcl : cls E o.op = .other
      · have hs := other_at hD I hL ho hn hj hcl
        have R := I.rel
        rw [hs] at R
        obtain ⟨H1, H2, H3⟩ := heap_other hS hD I hL ho hn hj hcl (Evo.refl ..) R hn1
        refine ih _ _ _ (withE E ops S (LL listed) p (j + 1) e m) (j + 1) e hsz' hcnt hLcl ?_ ?_ ((put_defers ..).trans hd)
        · rw [hLset]; exact H1
        · rw [hLset]; exact slots_other hS hD I hL J ho hn hj hdst hcl H2 H2 H3 (VRel.undef m) hF1
      · refine ih _ _ _ m p e hsz' hcnt hLcl ?_ ?_ ((put_defers ..).trans hd)
        · rw [hLset]
          exact heap_stay I ho hcl hear I.evo I.rel I.ear fun k q hk hks _ hnk hc' hnew => I.un k q hk hks hnk hc' hnew
        · rw [hLset]; exact slots_put hS hD I hL J ho hn hj hdst hear (Ext.refl m) (VRel.undef m) hF1
end
end Go.Dm

set_option linter.unusedVariables false
set_option linter.unusedSimpArgs false
namespace Go.Dm

/-- What is asked of code ahead of all running. 'rf': may it range over functions? -/
def okC (E : Env) (G : Nat) : Bool → OkC
  | rf, N, .region _ ops draw => ops.toList.all (okO G N) && (!draw || okDraw E ops)
  | rf, N, .seq a b => okC E G rf N a && okC E G rf N b
  | rf, N, .cond c a b => okX G c && okC E G rf N a && okC E G rf N b
  | rf, N, .block _ c => okC E G rf N c
  | rf, N, .loop c => okC E G rf N c
  | rf, N, .scope c => okC E G rf N c
  | rf, N, .rangeFunc f ps a b => rf && okX G f && ps.toList.all (fun p => decide (p < N)) && okC E G false N a && okC E G false N b
  | _, _, .refuse _ => false
  | _, _, _ => true

section
variable {E : Env} {ck : CK} {ops : Array Oper} {fr : T Value} {h : H} {r : T Value × H}
theorem laxD_spec (hr : regD E ck ops ops.toList fr h = some r) : ∀ {l : List (Nat × Nat)}, laxD E ck ops fr h l = true → ∀ j k, (j, k) ∈ l → ∀ o, ops[j]? = some o → wantedD ops o (St E ck ops fr h j).1 = some true →
    ∃ v x y, opD E ck o.op (St E ck ops fr h j).1 (hh (St E ck ops fr h) j) = some (v, x) ∧ opD E ck o.op (St E ck ops fr h j).1 (hh (St E ck ops fr h) (if k < j then k else segEnd E ops (k + 1))) = some (v, y) := by
  intro l
  induction l with
  | nil => intro _ j k hm; cases hm
  | cons jk l ih =>
    intro hl j k hm o ho hw
    obtain ⟨j', k'⟩ := jk
    simp only [laxD, Bool.and_eq_true] at hl
    rcases List.mem_cons.1 hm with e | hm
    · cases e
      have h1 := hl.1
      rw [ho, st_some hr j, st_some hr (if k < j then k else segEnd E ops (k + 1))] at h1
      simp only [hw] at h1
      split at h1
      · rename_i v x u y e1 e2
        have := eqv_sound h1
        subst this
        exact ⟨v, x, y, e1, e2⟩
      · cases h1
    · exact ih hl.2 j k hm o ho hw
theorem mem_laxPairs {j k : Nat} {oj ok : Oper} (hj : ops[j]? = some oj) (hk : ops[k]? = some ok) (h1 : cls E oj.op = .read) (h2 : cls E ok.op = .other) (h3 : ((ancD ops.toList []).getD (max j k) 0).testBit (min j k) = false) :
    (j, k) ∈ laxPairs E ops := by
  unfold laxPairs
  refine List.mem_flatMap.2 ⟨j, List.mem_range.2 (get_lt hj), ?_⟩
  rw [hj]
  simp only [h1]
  refine List.mem_filterMap.2 ⟨k, List.mem_range.2 (get_lt hk), ?_⟩
  rw [hk]
  simp only [h2, h3]
  rfl
end

section
variable {P : Program} {E : Env} (hE : EnvOk P E) {ok : OkC} {G N : Nat} {ck : CK} (C : CallSim P ok G ck) {ro : Option Nat} {Q : Exit → Act → World → Prop} {ops : Array Oper}
include hE C in
theorem region_sim (hm : P.follows .mixedOrders = true) {id : Nat} {draw : Bool} (hok : ops.toList.all (okO G N) = true) (hdr : draw = true → okDraw E ops = true) {fr : T Value} {h : H} {fr' : T Value} {h' : H}
    (hr : regD E ck ops ops.toList fr h = some (fr', h')) (hl : draw = true → laxD E ck ops fr h (laxPairs E ops) = true)
    {m : Inj} {a : Act} {w : World} (R : HRel ok G m h w) (hf : FRel m fr a.tmps) (hN : a.tmps.size = N)
    (hq : ∀ m' a' w', Evo m h w m' h'.clr w' → HRel ok G m' h'.clr w' → FRel m' fr' a'.tmps → a'.tmps.size = N → a'.defers = a.defers → Q .normal a' w') :
    (Code.region id ops draw).wpIn (FW ro) 0 P Q a w := by
  cases draw with
  | false =>
    refine wpIn_region ?_
    have := ops_sim hE C (ro := ro) (Q := Q) (ops := ops) ops.toList 0 (fun j o hj => by rw [Nat.zero_add, ← Array.getElem?_toList]; exact hj) hok hr R hf hN hq
    rwa [Array.length_toList, ← List.range_eq_range'] at this
  | true =>
    refine wpIn_region_any hm ?_
    have hS : ∀ i o, ops[i]? = some o → StepD E ck ops o (St E ck ops fr h i) (St E ck ops fr h (i + 1)) := fun i o ho => st_step hr ho
    have hz : St E ck ops fr h 0 = (fr, h) := st_zero
    have hend := st_end hr
    have R' : HRel ok G m h { w with drawn := w.drawn + 1 } := R.same rfl
    have hg0 : Grow (hh (St E ck ops fr h) 0) (hh (St E ck ops fr h) (segEnd E ops 0)) := grow_seg hS (Nat.zero_le _) (Nat.le_refl _) (Nat.le_refl _) (Nat.zero_le _)
    have hh0 : hh (St E ck ops fr h) 0 = h.clr := by show (St E ck ops fr h 0).2.clr = _; rw [hz]
    have hv : ∀ b i, m b = some i → (hh (St E ck ops fr h) (segEnd E ops 0)).get b = h.get b := fun b i hb => by
      rw [hg0.get b (by rw [hh0]; exact (R.dom b i hb).1), hh0]; rfl
    have hwf0 : ∀ b, (hh (St E ck ops fr h) 0).next ≤ b → (hh (St E ck ops fr h) 0).get b = none := by rw [hh0]; exact R.wf
    have hL : ∀ i, ¬ LL (Array.replicate ops.size false) i := by
      intro i hi
      unfold LL at hi
      simp only [Array.getD_eq_getD_getElem?, Array.getElem?_replicate] at hi
      split at hi <;> cases hi
    refine any_sim hE C hS (hdr rfl) hok (fun j k oj ok' hj hk h1 h2 h3 hw => laxD_spec hr (hl rfl) j k (mem_laxPairs hj hk h1 h2 h3) oj hj hw)
      (m0 := m) (h0 := h) (w0 := { w with drawn := w.drawn + 1 }) (a0 := a) ?_ ops.size _ a _ m 0 (fun _ => ⟨0, 0, 0, 0⟩) (by simp) ?_ (fun i hi => absurd hi (hL i)) ?_ ?_ rfl
    · intro m' a' w' e R1 hf' hN' hd
      have he : hh (St E ck ops fr h) ops.size = h'.clr := by show (St E ck ops fr h ops.size).2.clr = _; rw [hend]
      rw [he] at e R1
      rw [hend] at hf'
      exact hq m' a' w' ((Evo.same (m := m) (h := h) (w := w) (w' := { w with drawn := w.drawn + 1 }) rfl rfl rfl rfl).trans e) R1 hf' hN' hd
    · simp
    · refine ⟨Nat.zero_le _, fun k o _ _ => iff_of_false (hL k) (Nat.not_lt_zero _), .inl rfl, ?_, ?_, ?_, hwf0, fun k o hk => absurd hk.2.1 (hL k), fun k o k' o' hk => absurd hk.2.1 (hL k)⟩
      · exact (Evo.refl m h _).view (fun _ _ _ => rfl) hv
      · exact R'.view hv (fun b i hb => Nat.lt_of_lt_of_le (R.dom b i hb).1 (by have := hg0.next; rw [hh0] at this; exact this)) (hg0.wf hwf0) (fun a ha => by cases ha)
      · intro k o hk hks _ _ _
        have hg := (grow_seg hS (i := 0) (i' := k) (p := 0) (Nat.zero_le _) (Nat.le_refl _) (Nat.le_of_lt hks) (Nat.zero_le _)).next
        rw [hh0] at hg
        have hg : h.next ≤ (hh (St E ck ops fr h) k).next := hg
        cases hm : m (hh (St E ck ops fr h) k).next with
        | none => rfl
        | some i => have := (R.dom _ i hm).1; omega
    · refine ⟨hN, fun i hi t v hv' hc _ => ?_, fun k o t hk => absurd hk.2.1 (hL k)⟩
      have h1 : (St E ck ops fr h (0 + i)).1.get t = (St E ck ops fr h 0).1.get t := still_get hS i (by omega) fun k q _ hk hq hdq => hL k ((hc k q hq hdq).2 (by omega))
      rw [Nat.zero_add, hz] at h1
      rw [h1] at hv'
      exact hf t v hv'
end
end Go.Dm

set_option linter.unusedVariables false
set_option linter.unusedSimpArgs false
namespace Go.Dm

/-! ### Scopes, fenced -/
section
variable {F : Fence} {n : Nat} {P : Program} {b : Frame} {a : Act} {k : List Item} {cs : List Frame} {w : World} {Q : Exit → Act → World → Prop}
theorem stepR_scope {c : Code} : step P (lone (b.atR a (.code (.scope c) :: k)) cs w) = .next (lone (b.atR a (.code c :: .inScope c :: k)) cs w) :=
  step_lone_go (by simp [stepG, stepG.exec, Frame.atR])
theorem stepR_inScope {c : Code} : step P (lone (b.atR a (.inScope c :: k)) cs w) = .next (lone (b.atR a k) cs w) :=
  step_lone_go (by simp [stepG, stepG.exec, Frame.atR])
/-- Code x runs within scope c. -/
def InSc (F : Fence) (n : Nat) (P : Program) (c x : Code) (Q : Exit → Act → World → Prop) (a : Act) (w : World) : Prop :=
  ∀ (b : Frame) (k : List Item) (cs : List Frame), b.roundOf = F.round → F.fn b.fn → F.room (cs.length + 1 + n) →
    ∃ e a' w', Q e a' w' ∧ ArrivesIn (Machine.fenced P F) P (lone (b.atR a (.code x :: .inScope c :: k)) cs w) b k cs e a' w'
/-- How code within a scope may be left. -/
def scPost (F : Fence) (n : Nat) (P : Program) (c : Code) (Q : Exit → Act → World → Prop) : Exit → Act → World → Prop
  | .goto l, a, w => (findLabel c l = none ∧ Q (.goto l) a w) ∨ ∃ rest, findLabel c l = some rest ∧ InSc F n P c rest Q a w
  | e, a, w => Q e a w
theorem inSc_pass {c x : Code} (h : x.wpIn F n P (scPost F n P c Q) a w) : InSc F n P c x Q a w := by
  intro b k cs hro hb hr
  obtain ⟨e, a₁, w₁, hq, harr⟩ := h b (.inScope c :: k) cs hro hb hr
  cases e with
  | normal => exact ⟨.normal, a₁, w₁, hq, StepsIn.trans harr (.one (fenced_calm hb hr rfl) stepR_inScope)⟩
  | exit id =>
    have hx : exitTo id (.inScope c :: k) = exitTo id k := by simp [exitTo]
    exact ⟨.exit id, a₁, w₁, hq, fun k' hk => harr.1 k' (by rw [hx]; exact hk), fun hr' hk => harr.2 hr' (by rw [hx]; exact hk)⟩
  | goto l =>
    rcases hq with ⟨hf, hq⟩ | ⟨rest, hf, hin⟩
    · have hx : gotoIn l (.inScope c :: k) = gotoIn l k := by simp [gotoIn, hf]
      exact ⟨.goto l, a₁, w₁, hq, fun k' hk => harr.1 k' (by rw [hx]; exact hk), fun hr' hk => harr.2 hr' (by rw [hx]; exact hk)⟩
    · have hx : gotoIn l (.inScope c :: k) = some (.code rest :: .inScope c :: k) := by simp [gotoIn, hf]
      obtain ⟨e₂, a₂, w₂, hq₂, harr₂⟩ := hin b k cs hro hb hr
      exact ⟨e₂, a₂, w₂, hq₂, .of_steps (harr.1 _ hx) harr₂⟩
  | ret => exact ⟨_, a₁, w₁, hq, harr⟩
  | panic ch => exact ⟨_, a₁, w₁, hq, harr⟩
  | outgrown => exact ⟨_, a₁, w₁, hq, harr⟩
theorem wpIn_scope {c : Code} (h : InSc F n P c c Q a w) : (Code.scope c).wpIn F n P Q a w := by
  intro b k cs hro hb hr
  obtain ⟨e, a₁, w₁, hq, harr⟩ := h b k cs hro hb hr
  exact ⟨e, a₁, w₁, hq, .of_steps (.one (fenced_calm hb hr rfl) stepR_scope) harr⟩
end
theorem hasLabel_iff : ∀ (c : Code) (l : Nat), hasLabel c l = (findLabel c l).isSome
  | .seq a b, l => by
    simp only [hasLabel, findLabel, hasLabel_iff a l, hasLabel_iff b l]
    cases findLabel a l <;> rfl
  | .label l', l => by
    simp only [hasLabel, findLabel]
    cases l' == l <;> rfl
  | .skip, _ | .region _ _ _, _ | .cond _ _ _, _ | .block _ _, _ | .loop _, _ | .rangeFunc _ _ _ _, _ | .exit _, _ | .scope _, _ | .goto _, _ | .ret, _ | .refuse _, _ => rfl

/-! ### Marks of rounds' deferred calls -/
def mkD (rs : List Nat) : List Deferred := rs.map fun r => { target := .collected r, args := #[] }
structure MK (base : Nat) (w : World) (rs : List Nat) : Prop where
  nodup : rs.Nodup
  at_ : ∀ r, r ∈ rs → base ≤ r ∧ w.heap[r]? = some (.deferred (some []))
theorem not_own {ok : OkC} {G : Nat} {m : Inj} {h : H} {w : World} (R : HRel ok G m h w) {r : Nat} {d : Option (List Deferred)} (hr : w.heap[r]? = some (.deferred d)) : ¬ Own m h r := by
  rintro ⟨b, o, i, hb, _, hi, rfl⟩
  have := R.obj b o i hb hi
  cases o with
  | cells c s own fz ty => obtain ⟨_, c', e, lo, hi', h1, _⟩ := this; rw [hr] at h1; cases h1
  | map es cl => obtain ⟨es', h1, _⟩ := this; rw [hr] at h1; cases h1
  | siter s p => have h2 := this.2; rw [hr] at h2; cases h2
  | loop l => obtain ⟨l', h1, _⟩ := this; rw [hr] at h1; cases h1
theorem lt_of_at {w : World} {r : Nat} {o : Obj} (h : w.heap[r]? = some o) : r < w.heap.size := (Array.getElem?_eq_some_iff.1 h).1
theorem MK.evo {ok : OkC} {G : Nat} {m m' : Inj} {h h' : H} {w w' : World} {base : Nat} {rs : List Nat} (k : MK base w rs) (R : HRel ok G m h w) (e : Evo m h w m' h' w') : MK base w' rs where
  nodup := k.nodup
  at_ r hr := ⟨(k.at_ r hr).1, (e.keep r (lt_of_at (k.at_ r hr).2) (not_own R (k.at_ r hr).2)).trans (k.at_ r hr).2⟩

/-- What holds on the way through an activation's code, begun at (m0, h0, w0). -/
structure Xs (ok : OkC) (G : Nat) (m0 : Inj) (h0 : H) (w0 : World) (bs N : Nat) (m : Inj) (h : H) (w : World) (fr : T Value) (a : Act) (rs : List Nat) : Prop where
  evo : Evo m0 h0 w0 m h w
  rel : HRel ok G m h w
  frel : FRel m fr a.tmps
  size : a.tmps.size = N
  defers : a.defers = mkD rs
  base : bs ≤ w0.heap.size
  marks : MK bs w rs
theorem Xs.step {ok : OkC} {G : Nat} {m0 : Inj} {h0 : H} {w0 : World} {bs N : Nat} {m m' : Inj} {h h' : H} {w w' : World} {fr fr' : T Value} {a a' : Act} {rs : List Nat} (X : Xs ok G m0 h0 w0 bs N m h w fr a rs)
    (e : Evo m h w m' h' w') (R : HRel ok G m' h' w') (f : FRel m' fr' a'.tmps) (s : a'.tmps.size = N) (d : a'.defers = a.defers) : Xs ok G m0 h0 w0 bs N m' h' w' fr' a' rs :=
  ⟨X.evo.trans e, R, f, s, d.trans X.defers, X.base, X.marks.evo X.rel e⟩
def exOf : Ex → Exit
  | .normal => .normal
  | .exit id => .exit id
  | .goto l => .goto l
  | .ret => .ret

/-! ### A loop's record -/
section
variable {P : Program} {w : World} {m : Inj} {ok : OkC} {G : Nat} {h : H}
theorem run_getLoop {l : Nat} {r : Loop} (h : w.heap[l]? = some (.loop r)) : (Instr.getLoop l).run P w = .ok r w := by
  simp [Instr.getLoop, getObj, Sem.run, h]
theorem run_setLoop {l : Nat} {r : Loop} (h : w.heap[l]? = some (.loop r)) (o : Obj) : (setObj l o).run P w = .ok () (setObjW w l o) := run_setObjW h (by intro c e f q; cases q) o
/-- A loop's record gets another state. -/
theorem loop_put (R : HRel ok G m h w) {l : Nat} {r r2 : Lp} {i : Img} (hl : h.get l = some (.loop r)) (hi : m l = some i) {r' r2' : Loop} (hr : w.heap[i.blk]? = some (.loop r'))
    (hO : ORel ok m (setObjW w i.blk (.loop r2')) i (.loop r2)) : Evo m h w m (h.put l (.loop r2)) (setObjW w i.blk (.loop r2')) ∧ HRel ok G m (h.put l (.loop r2)) (setObjW w i.blk (.loop r2')) :=
  ⟨Evo.upd hl rfl hi rfl rfl rfl (setObjW_facts ..).size (setObjW_facts ..).other, R.upd hl rfl hi (setObjW_facts ..).size (setObjW_facts ..).other hO⟩
end
end Go.Dm

set_option linter.unusedVariables false
set_option linter.unusedSimpArgs false
namespace Go.Dm

/-- The walk of code from a place on. -/
def Wp (ro : Option Nat) (P : Program) (c : Code) (sk : Option Nat) (Q : Exit → Act → World → Prop) (a : Act) (w : World) : Prop :=
  match sk with
  | none => c.wpIn (FW ro) 0 P Q a w
  | some l => ∃ rest, findLabel c l = some rest ∧ rest.wpIn (FW ro) 0 P Q a w

section
variable {P : Program} {E : Env} (hE : EnvOk P E) {G N : Nat} {ck : CK} (C : CallSim P (okC E G false) G ck) {ro : Option Nat} (hm : P.follows .mixedOrders = true) {rf : Bool} (hrf : rf = true → ro = none)
  {m0 : Inj} {h0 : H} {w0 : World} {bs : Nat}
/-- The claim for a piece of code. -/
def CodeSim (P : Program) (E : Env) (G N : Nat) (ck : CK) (ro : Option Nat) (rf : Bool) (m0 : Inj) (h0 : H) (w0 : World) (bs : Nat) (fuel : Nat) (c : Code) : Prop :=
  ∀ (sk : Option Nat) {fr : T Value} {h : H} {e : Ex} {fr' : T Value} {h' : H}, execD E ck fuel c sk fr h = some (e, fr', h') → okC E G rf N c = true →
    ∀ {m : Inj} {w : World} {a : Act} {rs : List Nat} {Q : Exit → Act → World → Prop}, Xs (okC E G false) G m0 h0 w0 bs N m h w fr a rs →
    (∀ m' w' a' rs', Xs (okC E G false) G m0 h0 w0 bs N m' h' w' fr' a' rs' → Q (exOf e) a' w') → Wp ro P c sk Q a w

theorem exists_least {p : Nat → Prop} : ∀ n, p n → ∃ k, p k ∧ ∀ j, p j → k ≤ j := by
  intro n
  induction n using Nat.strongRecOn with
  | _ n ih =>
    intro hn
    by_cases h : ∃ k, k < n ∧ p k
    · obtain ⟨k, h1, h2⟩ := h; exact ih k h1 h2
    · exact ⟨n, hn, fun j hj => Nat.le_of_not_lt fun hlt => h ⟨j, hlt, hj⟩⟩
theorem has_least {p : Nat → Prop} (h : ∃ n, p n) : ∃ k, p k ∧ ∀ j, p j → k ≤ j := let ⟨n, hn⟩ := h; exists_least n hn
theorem loop_sim {fuel : Nat} {c : Code} (ih : CodeSim P E G N ck ro rf m0 h0 w0 bs fuel c) (hok : okC E G rf N c = true) {k : Nat} {fr : T Value} {h : H} {e : Ex} {fr' : T Value} {h' : H}
    (hd : loopD (fun fr h => execD E ck fuel c none fr h) k fr h = some (e, fr', h')) {m : Inj} {w : World} {a : Act} {rs : List Nat} {Q : Exit → Act → World → Prop} (X : Xs (okC E G false) G m0 h0 w0 bs N m h w fr a rs)
    (hq : ∀ m' w' a' rs', Xs (okC E G false) G m0 h0 w0 bs N m' h' w' fr' a' rs' → Q (exOf e) a' w') : (Code.loop c).wpIn (FW ro) 0 P Q a w := by
  classical
  let Pn : Nat → Act → World → Prop := fun n a w => ∃ m fr h rs, Xs (okC E G false) G m0 h0 w0 bs N m h w fr a rs ∧ loopD (fun fr h => execD E ck fuel c none fr h) n fr h = some (e, fr', h')
  refine wpIn_loop (fun a w => ∃ n, Pn n a w) (fun a w => if hx : ∃ n, Pn n a w then (has_least hx).choose else 0) ⟨k, m, fr, h, rs, X, hd⟩ ?_
  intro a w hx
  obtain ⟨m, fr, h, rs, X, hd⟩ := (has_least hx).choose_spec.1
  rw [dif_pos hx]
  generalize hn : (has_least hx).choose = n at hd
  cases n with
  | zero => cases hd
  | succ n =>
    simp only [loopD] at hd
    split at hd
    · rename_i fr1 h1 hb
      refine ih none hb hok X ?_
      intro m' w' a' rs' X'
      have hx' : ∃ n, Pn n a' w' := ⟨n, m', fr1, h1, rs', X', hd⟩
      refine ⟨hx', ?_⟩
      rw [dif_pos hx']
      exact Nat.lt_succ_of_le ((has_least hx').choose_spec.2 n ⟨m', fr1, h1, rs', X', hd⟩)
    · rename_i r hr
      refine ih none hd hok X ?_
      intro m' w' a' rs' X'
      have hQ := hq m' w' a' rs' X'
      cases e with
      | normal => exact absurd hd (hr _ _)
      | _ => exact hQ

theorem scope_sim {fuel : Nat} {c : Code} (ih : CodeSim P E G N ck ro rf m0 h0 w0 bs fuel c) (hok : okC E G rf N c = true) {fr' : T Value} {h' : H} {e : Ex} {Q : Exit → Act → World → Prop}
    (hq : ∀ m' w' a' rs', Xs (okC E G false) G m0 h0 w0 bs N m' h' w' fr' a' rs' → Q (exOf e) a' w') : ∀ (k : Nat) (sk : Option Nat) {fr : T Value} {h : H},
    scopeD (hasLabel c) (fun sk fr h => execD E ck fuel c sk fr h) k sk fr h = some (e, fr', h') → ∀ {m : Inj} {w : World} {a : Act} {rs : List Nat}, Xs (okC E G false) G m0 h0 w0 bs N m h w fr a rs →
    (match sk with
     | none => InSc (FW ro) 0 P c c Q a w
     | some l => ∃ rest, findLabel c l = some rest ∧ InSc (FW ro) 0 P c rest Q a w) := by
  intro k
  induction k with
  | zero => intro sk fr h hd; cases hd
  | succ k ihk =>
    intro sk fr h hd m w a rs X
    simp only [scopeD] at hd
    have key : ∃ e1 fr1 h1, execD E ck fuel c sk fr h = some (e1, fr1, h1) ∧ ∀ m' w' a' rs', Xs (okC E G false) G m0 h0 w0 bs N m' h1 w' fr1 a' rs' → scPost (FW ro) 0 P c Q (exOf e1) a' w' := by
      split at hd
      · rename_i l fr1 h1 hb
        refine ⟨_, _, _, hb, fun m' w' a' rs' X' => ?_⟩
        split at hd
        · obtain ⟨rest, hf, hin⟩ := ihk (some l) hd X'
          exact .inr ⟨rest, hf, hin⟩
        · rename_i hl
          cases hd
          refine .inl ⟨?_, hq m' w' a' rs' X'⟩
          rw [hasLabel_iff] at hl
          cases hf : findLabel c l with
          | none => rfl
          | some r => rw [hf] at hl; exact absurd rfl hl
      · rename_i r hr
        refine ⟨_, _, _, hd, fun m' w' a' rs' X' => ?_⟩
        have hQ := hq m' w' a' rs' X'
        cases e with
        | goto l => exact absurd hd (hr _ _ _)
        | _ => exact hQ
    obtain ⟨e1, fr1, h1, hb, hpost⟩ := key
    have := ih sk hb hok X hpost
    cases sk with
    | none => exact inSc_pass this
    | some l => obtain ⟨rest, hf, hin⟩ := this; exact ⟨rest, hf, inSc_pass hin⟩

end
end Go.Dm

set_option linter.unusedVariables false
set_option linter.unusedSimpArgs false
namespace Go.Dm

section
variable {P : Program} {E : Env} (hE : EnvOk P E) {G N : Nat} {ck : CK} (C : CallSim P (okC E G false) G ck) {ro : Option Nat} (hm : P.follows .mixedOrders = true) {rf : Bool} (hrf : rf = true → ro = none)
  {m0 : Inj} {h0 : H} {w0 : World} {bs : Nat}
/-- The end of a range over a function. -/
theorem endLoop_sim {l : Nat} {fr : T Value} {h : H} {e : Ex} {fr' : T Value} {h' : H} (hd : endLoopD l fr h = some (e, fr', h')) {m : Inj} {w : World} {i : Img} (R : HRel (okC E G false) G m h w) (hi : m l = some i) :
    fr' = fr ∧ ∃ jump w', (Instr.endLoop i.blk).run P w = .ok jump w' ∧ Evo m h w m h' w' ∧ HRel (okC E G false) G m h' w' ∧
      (match jump with | none => e = .normal | some c => (c = .ret ∧ e = .ret) ∨ (∃ id, c = .exit id ∧ e = .exit id) ∨ (∃ t, c = .goto t ∧ e = .goto t)) := by
  unfold endLoopD at hd
  split at hd
  · rename_i r hl
    split at hd
    · cases hd
    · rename_i hst
      obtain ⟨r', h1, h2, h3, h4, h5, h6, h7, h8, h9, h10⟩ := R.obj l _ i hl hi
      have hput := loop_put R hl hi h1 (r2 := { r with state := .exhausted }) (r2' := { r' with state := .exhausted }) ⟨_, setObjW_at h1 _, rfl, h3, h4, h5, h6, h7, h8, h9, h10⟩
      have hrun : (Instr.endLoop i.blk).run P w = .ok r'.pending (setObjW w i.blk (.loop { r' with state := .exhausted })) := by
        have hb : (r'.state == LoopState.busy) = false := by
          rw [h2]
          cases hs : r.state <;> first | rfl | exact absurd hs hst
        simp only [Instr.endLoop, Sem.run_bind, run_getLoop h1, Result.andThen_ok, hb, Bool.false_eq_true, if_false, run_setLoop h1, Sem.run_pure]
      generalize hw4 : setObjW w i.blk (.loop { r' with state := .exhausted }) = w4 at hrun hput
      rw [h3] at hrun
      split at hd
      · rename_i hp
        cases hd
        exact ⟨rfl, _, _, hrun, hput.1, hput.2, by rw [hp]⟩
      · rename_i hp
        cases hd
        exact ⟨rfl, _, _, hrun, hput.1, hput.2, by rw [hp]; exact .inl ⟨rfl, rfl⟩⟩
      · rename_i id hp
        cases hd
        exact ⟨rfl, _, _, hrun, hput.1, hput.2, by rw [hp]; exact .inr (.inl ⟨_, rfl, rfl⟩)⟩
      · rename_i t hp
        cases hd
        exact ⟨rfl, _, _, hrun, hput.1, hput.2, by rw [hp]; exact .inr (.inr ⟨_, rfl, rfl⟩)⟩
      · cases hd
  · cases hd

include C in
theorem range_sim {fuel : Nat} {g : Operand} {ps : Array Tmp} {assign body : Code} (hro : ro = none) {fr : T Value} {h : H} {e : Ex} {fr' : T Value} {h' : H}
    (hd : execD E ck fuel (.rangeFunc g ps assign body) none fr h = some (e, fr', h')) (hok : okC E G rf N (.rangeFunc g ps assign body) = true)
    {m : Inj} {w : World} {a : Act} {rs : List Nat} {Q : Exit → Act → World → Prop} (X : Xs (okC E G false) G m0 h0 w0 bs N m h w fr a rs)
    (hq : ∀ m' w' a' rs', Xs (okC E G false) G m0 h0 w0 bs N m' h' w' fr' a' rs' → Q (exOf e) a' w') : (Code.rangeFunc g ps assign body).wpIn (FW ro) 0 P Q a w := by
  subst hro
  simp only [okC, Bool.and_eq_true] at hok
  obtain ⟨⟨⟨⟨_, hxg⟩, hps⟩, hoka⟩, hokb⟩ := hok
  simp only [execD] at hd
  split at hd
  · rename_i f first cap hev
    split at hd
    · rename_i v0 h1 hck
      have hr := ev_sim X.rel X.frel hxg hev
      obtain ⟨first', cap', hval, l1, l2⟩ := hr.funcv
      refine wpIn_rangeFunc ?_
      intro fn _
      -- the two records
      have e1 : Evo m h w m h (w.alloc (.deferred (some []))) := Evo.push ..
      have R1 : HRel (okC E G false) G m h (w.alloc (.deferred (some []))) := X.rel.push _
      let wa := w.alloc (.deferred (some []))
      let rec' : Loop := { state := .ready, pending := none, fn, tmps := a.tmps, params := ps, assign, body, defers := w.heap.size }
      let lp : Lp := { state := .ready, pending := none, fr, params := ps.toList, assign, body }
      have hsa : wa.heap.size = w.heap.size + 1 := alloc_size ..
      have hO : ORel (okC E G false) (m.add h.addr ⟨wa.heap.size, 0, 0, 0⟩) (wa.alloc (.loop rec')) ⟨wa.heap.size, 0, 0, 0⟩ (.loop lp) := by
        refine ⟨rec', alloc_at .., rfl, rfl, rfl, rfl, rfl, X.frel.mono (Inj.ext_add _ X.rel.fresh), ?_, ?_, ?_⟩
        · show okC E G false a.tmps.size assign = true; rw [X.size]; exact hoka
        · show okC E G false a.tmps.size body = true; rw [X.size]; exact hokb
        · intro p hp
          have := List.all_eq_true.1 hps p hp
          show p < a.tmps.size
          rw [X.size]; simpa using this
      have R2 : HRel (okC E G false) G (m.add h.addr ⟨wa.heap.size, 0, 0, 0⟩) (h.new (.loop lp)) (wa.alloc (.loop rec')) := R1.alloc rfl (alloc_size ..) (fun r hr => alloc_lt _ _ hr) hO
      have e2 : Evo m h wa (m.add h.addr ⟨wa.heap.size, 0, 0, 0⟩) (h.new (.loop lp)) (wa.alloc (.loop rec')) := Evo.alloc R1 rfl rfl rfl rfl (alloc_size ..) (fun r hr => alloc_lt _ _ hr)
      have hx2 := Inj.ext_add ⟨wa.heap.size, 0, 0, 0⟩ X.rel.fresh
      have hargs : LRel (m.add h.addr ⟨wa.heap.size, 0, 0, 0⟩) (first.toList ++ [Value.func (.yield h.addr) #[] #[]] ++ cap.toList) (first'.toList ++ [Value.func (.yield wa.heap.size) #[] #[]] ++ cap'.toList) :=
        ((LRel.mono hx2 l1).append (.cons (.yld (Inj.add_self _ _ _)) .nil)).append (LRel.mono hx2 l2)
      obtain ⟨⟨fn2, q1, q2, q3⟩, hcall⟩ := C.fn hck R2 hargs
      have harr : (first' ++ #[Value.func (.yield wa.heap.size) #[] #[]]) ++ cap' = (first'.toList ++ [Value.func (.yield wa.heap.size) #[] #[]] ++ cap'.toList).toArray := by
        apply Array.ext'; simp
      refine ⟨wa.heap.size, [{ target := .collected w.heap.size, args := #[] }], wa.alloc (.loop rec'), { target := .fn (.func f) cap', args := first' ++ #[Value.func (.yield wa.heap.size) #[] #[]] }, wa.alloc (.loop rec'), f, (first'.toList ++ [Value.func (.yield wa.heap.size) #[] #[]] ++ cap'.toList).toArray, wa.alloc (.loop rec'), ?_, ?_, fun _ _ => trivial, ?_, fun h => (by cases h), callsIn_FW (hcall.mono ?_)⟩
      · rfl
      · have hc : a.eval (.const (.func (.yield wa.heap.size) #[] #[])) = .func (.yield wa.heap.size) #[] #[] := rfl
        simp only [resolve, rangeCall, hval, Deferred.ofValue, List.map_toArray, List.map_cons, List.map_nil, hc, Sem.run_pure]
      · simp only [invoke]
        have := callFunc_run (w := wa.alloc (.loop rec')) q1 q2 q3 (first'.toList ++ [Value.func (.yield wa.heap.size) #[] #[]] ++ cap'.toList).toArray
        rw [harr]
        exact this
      · rintro ed w3 ⟨v', rfl, m3, k1, k2, k3⟩
        have hi3 : m3 h.addr = some ⟨wa.heap.size, 0, 0, 0⟩ := k1.ext _ _ (Inj.add_self _ _ _)
        obtain ⟨rfl, jump, w4, hrun, e4, R4, hj⟩ := endLoop_sim (P := P) hd k2 hi3
        have eAll : Evo m h w m3 h' w4 := ((e1.trans e2).trans k1).trans e4
        have hX : Xs (okC E G false) G m0 h0 w0 bs N m3 h' w4 fr' { a with defers := [{ target := .collected w.heap.size, args := #[] }] ++ a.defers } (w.heap.size :: rs) := by
          refine ⟨X.evo.trans eAll, R4, X.frel.mono eAll.ext, X.size, ?_, X.base, ?_, ?_⟩
          · show _ ++ a.defers = _; rw [X.defers]; rfl
          · refine List.nodup_cons.2 ⟨fun hmem => ?_, X.marks.nodup⟩
            exact absurd (lt_of_at (X.marks.at_ _ hmem).2) (Nat.lt_irrefl _)
          · intro r hr
            rcases List.mem_cons.1 hr with rfl | hr
            · refine ⟨Nat.le_trans X.base X.evo.size, ?_⟩
              have hd0 : wa.heap[w.heap.size]? = some (.deferred (some [])) := alloc_at ..
              have hd1 := (e2.keep _ (lt_of_at hd0) (not_own R1 hd0)).trans hd0
              have hd2 := (k1.keep _ (lt_of_at hd1) (not_own R2 hd1)).trans hd1
              exact (e4.keep _ (lt_of_at hd2) (not_own k2 hd2)).trans hd2
            · exact (X.marks.evo X.rel eAll).at_ r hr
        have hQ := hq m3 w4 _ _ hX
        refine ⟨jump, w4, hrun, ?_⟩
        cases jump with
        | none => simp only at hj ⊢; rw [hj] at hQ; exact hQ
        | some c =>
          simp only at hj ⊢
          rcases hj with ⟨rfl, rfl⟩ | ⟨id, rfl, rfl⟩ | ⟨t, rfl, rfl⟩
          · exact wpIn_ret hQ
          · exact wpIn_exit hQ
          · exact wpIn_goto hQ
    · cases hd
  · cases hd

include hE C hm hrf in
theorem exec_sim (fuel : Nat) : ∀ c : Code, CodeSim P E G N ck ro rf m0 h0 w0 bs fuel c := by
  intro c
  induction c with
  | skip =>
    intro sk fr h e fr' h' hd hok m w a rs Q X hq
    cases sk with
    | none => simp only [execD] at hd; cases hd; exact wpIn_skip (hq _ _ _ _ X)
    | some l => simp only [execD] at hd; cases hd
  | label l =>
    intro sk fr h e fr' h' hd hok m w a rs Q X hq
    cases sk with
    | none => simp only [execD] at hd; cases hd; exact wpIn_label (hq _ _ _ _ X)
    | some l' =>
      simp only [execD] at hd
      split at hd
      · rename_i hl
        cases hd
        exact ⟨.skip, by simp [findLabel, hl], wpIn_skip (hq _ _ _ _ X)⟩
      · cases hd
  | region id ops draw =>
    intro sk fr h e fr' h' hd hok m w a rs Q X hq
    cases sk with
    | some l => simp only [execD] at hd; cases hd
    | none =>
      simp only [execD] at hd
      simp only [okC, Bool.and_eq_true, Bool.or_eq_true, Bool.not_eq_true'] at hok
      split at hd
      · rename_i fr1 h1 hr
        split at hd
        · cases hd
        · rename_i hl
          cases hd
          refine region_sim hE C hm (N := N) hok.1 (fun hdr => hok.2.resolve_left (by simp [hdr])) hr (fun hdr => ?_) X.rel X.frel X.size ?_
          · subst hdr
            simpa using hl
          · intro m' a' w' e1 R1 f1 s1 d1
            exact hq _ _ _ _ (X.step e1 R1 f1 s1 d1)
      · cases hd
  | seq x y ihx ihy =>
    intro sk fr h e fr' h' hd hok m w a rs Q X hq
    simp only [okC, Bool.and_eq_true] at hok
    have two : ∀ {sk : Option Nat} {r : Ex × T Value × H}, execD E ck fuel x sk fr h = some r → (match r with | (.normal, fr1, h1) => execD E ck fuel y none fr1 h1 = some (e, fr', h') | (e1, fr1, h1) => (e1, fr1, h1) = (e, fr', h')) →
        Wp ro P x sk (Exit.then (y.wpIn (FW ro) 0 P Q) Q) a w := by
      intro sk r hx hr
      obtain ⟨e1, fr1, h1⟩ := r
      refine ihx sk hx hok.1 X ?_
      intro m' w' a' rs' X'
      cases e1 with
      | normal => exact ihy none hr hok.2 X' hq
      | exit id => cases hr; exact hq _ _ _ _ X'
      | goto l => cases hr; exact hq _ _ _ _ X'
      | ret => cases hr; exact hq _ _ _ _ X'
    cases sk with
    | none =>
      simp only [execD] at hd
      refine wpIn_seq ?_
      split at hd
      · rename_i fr1 h1 hx
        exact two (sk := none) hx hd
      · rename_i r hr
        refine two (sk := none) hd ?_
        cases e with
        | normal => exact absurd hd (hr _ _)
        | _ => rfl
    | some l =>
      simp only [execD] at hd
      split at hd
      · rename_i hl
        rw [hasLabel_iff] at hl
        have key : Wp ro P x (some l) (Exit.then (y.wpIn (FW ro) 0 P Q) Q) a w := by
          split at hd
          · rename_i fr1 h1 hx
            exact two (sk := some l) hx hd
          · rename_i r hr
            refine two (sk := some l) hd ?_
            cases e with
            | normal => exact absurd hd (hr _ _)
            | _ => rfl
        obtain ⟨rest, hf, hwp⟩ := key
        exact ⟨.seq rest y, by simp [findLabel, hf], wpIn_seq hwp⟩
      · rename_i hl
        rw [hasLabel_iff] at hl
        obtain ⟨rest, hf, hwp⟩ := ihy (some l) hd hok.2 X hq
        refine ⟨rest, ?_, hwp⟩
        cases hx : findLabel x l with
        | none => simp [findLabel, hx, hf]
        | some r => rw [hx] at hl; exact absurd rfl hl
  | cond c x y ihx ihy =>
    intro sk fr h e fr' h' hd hok m w a rs Q X hq
    cases sk with
    | some l => simp only [execD] at hd; cases hd
    | none =>
      simp only [okC, Bool.and_eq_true] at hok
      simp only [execD] at hd
      split at hd
      · rename_i t hc
        have hb := (ev_sim X.rel X.frel hok.1.1 hc).bool
        refine wpIn_cond hb ?_
        cases t with
        | true => simp only [if_true] at hd ⊢; exact ihx none hd hok.1.2 X hq
        | false => simp only [Bool.false_eq_true, if_false] at hd ⊢; exact ihy none hd hok.2 X hq
      · cases hd
  | block id c ih =>
    intro sk fr h e fr' h' hd hok m w a rs Q X hq
    cases sk with
    | some l => simp only [execD] at hd; cases hd
    | none =>
      simp only [okC] at hok
      simp only [execD] at hd
      refine wpIn_block ?_
      split at hd
      · rename_i id' fr1 h1 hc
        refine ih none hc hok X ?_
        intro m' w' a' rs' X'
        show (if id' = id then Q .normal a' w' else Q (.exit id') a' w')
        split at hd
        · rename_i he
          cases hd
          rw [if_pos he]; exact hq _ _ _ _ X'
        · rename_i he
          cases hd
          rw [if_neg he]; exact hq _ _ _ _ X'
      · rename_i r hr
        refine ih none hd hok X ?_
        intro m' w' a' rs' X'
        have hQ := hq _ _ _ _ X'
        cases e with
        | exit id' => exact absurd hd (hr _ _ _)
        | _ => exact hQ
  | loop c ih =>
    intro sk fr h e fr' h' hd hok m w a rs Q X hq
    cases sk with
    | some l => simp only [execD] at hd; cases hd
    | none =>
      simp only [okC] at hok
      simp only [execD] at hd
      exact loop_sim ih hok hd X hq
  | scope c ih =>
    intro sk fr h e fr' h' hd hok m w a rs Q X hq
    cases sk with
    | some l => simp only [execD] at hd; cases hd
    | none =>
      simp only [okC] at hok
      simp only [execD] at hd
      exact wpIn_scope (scope_sim ih hok hq fuel none hd X)
  | exit id =>
    intro sk fr h e fr' h' hd hok m w a rs Q X hq
    cases sk with
    | none => simp only [execD] at hd; cases hd; exact wpIn_exit (hq _ _ _ _ X)
    | some l => simp only [execD] at hd; cases hd
  | goto t =>
    intro sk fr h e fr' h' hd hok m w a rs Q X hq
    cases sk with
    | none => simp only [execD] at hd; cases hd; exact wpIn_goto (hq _ _ _ _ X)
    | some l => simp only [execD] at hd; cases hd
  | ret =>
    intro sk fr h e fr' h' hd hok m w a rs Q X hq
    cases sk with
    | none => simp only [execD] at hd; cases hd; exact wpIn_ret (hq _ _ _ _ X)
    | some l => simp only [execD] at hd; cases hd
  | rangeFunc g ps x y _ _ =>
    intro sk fr h e fr' h' hd hok m w a rs Q X hq
    cases sk with
    | some l => simp only [execD] at hd; cases hd
    | none =>
      have hrft : rf = true := by
        simp only [okC, Bool.and_eq_true] at hok
        exact hok.1.1.1.1
      exact range_sim C (hrf hrft) hd hok X hq
  | refuse s =>
    intro sk fr h e fr' h' hd hok
    cases hok
end
end Go.Dm

set_option linter.unusedVariables false
set_option linter.unusedSimpArgs false
namespace Go.Dm

theorem frOf_get : ∀ (l : List Value) (i : Nat) (t : T Value) (k : Nat), (frOf l i t).get k = if i ≤ k ∧ k < i + l.length then l[k - i]? else t.get k := by
  intro l
  induction l with
  | nil => intro i t k; simp only [frOf, List.length_nil]; rw [if_neg (by omega)]
  | cons v l ih =>
    intro i t k
    simp only [frOf, ih, T.get_set, List.length_cons]
    by_cases h1 : i + 1 ≤ k ∧ k < i + 1 + l.length
    · rw [if_pos h1, if_pos (by omega), show k - i = (k - (i + 1)) + 1 by omega]; rfl
    · rw [if_neg h1]
      by_cases h2 : k = i
      · subst h2; rw [if_pos rfl, if_pos (by omega)]; simp
      · rw [if_neg h2, if_neg (by omega)]
theorem frOf_sim {m : Inj} {args args' : List Value} (h : LRel m args args') (n : Nat) (hn : args.length ≤ n) :
    FRel m (frOf args 0 .leaf) (args'.toArray ++ Array.replicate (n - args'.toArray.size) undef) := by
  intro t v ht
  rw [frOf_get] at ht
  split at ht
  · obtain ⟨v', h1, h2⟩ := h.get (i := t) (by simpa using ht)
    refine ⟨v', ?_, h2⟩
    have hlt : t < args'.length := (List.getElem?_eq_some_iff.1 h1).1
    rw [Array.getElem?_append_left (by simpa using hlt)]
    simpa using h1
  · simp at ht

def resOne (tmps : Array Value) (r : ResultVar) : Sem Value :=
  match r with
  | .tmp t => pure (tmps.getD t undef)
  | .cell a t => do loadVar t (← asAddr (tmps.getD a undef))
section
variable {P : Program} {E : Env} (hE : EnvOk P E) {w : World} {m : Inj} {ok : OkC} {G : Nat} {h : H} {fr : T Value} {tmps : Array Value}
include hE in
theorem res_run (R : HRel ok G m h w) (hf : FRel m fr tmps) : ∀ {rs : List ResultVar} {vs : List Value}, resD E fr h rs = some vs →
    ∃ vs', (rs.mapM (resOne tmps)).run P w = .ok vs' w ∧ LRel m vs vs' := by
  intro rs
  induction rs with
  | nil => intro vs hr; simp only [resD] at hr; cases hr; exact ⟨[], rfl, .nil⟩
  | cons r rs ih =>
    intro vs hr
    have fin : ∀ {v v' : Value} {vs0 : List Value}, (resOne tmps r).run P w = .ok v' w → VRel m v v' → resD E fr h rs = some vs0 → ∃ vs', ((r :: rs).mapM (resOne tmps)).run P w = .ok vs' w ∧ LRel m (v :: vs0) vs' := by
      intro v v' vs0 h1 h2 h3
      obtain ⟨vs', k3, k4⟩ := ih h3
      refine ⟨v' :: vs', ?_, .cons h2 k4⟩
      rw [List.mapM_cons]
      simp only [Sem.run_bind, Sem.run_pure, Result.andThen_ok, h1, k3]
    cases r with
    | tmp t =>
      simp only [resD] at hr
      split at hr
      · rename_i v vs0 h1 h2
        cases hr
        obtain ⟨v', k1, k2⟩ := hf t v h1
        have hg : tmps.getD t undef = v' := by rw [Array.getD_eq_getD_getElem?, k1]; rfl
        exact fin (by simp only [resOne, hg, Sem.run_pure]) k2 h2
      · cases hr
    | cell a t =>
      simp only [resD] at hr
      split at hr
      · rename_i p hp
        split at hr
        · rename_i v vs0 h1 h2
          cases hr
          obtain ⟨p', k1, k2⟩ := hf a p hp
          obtain ⟨v', k3, k4⟩ := ld_sim hE R k2 h1
          have hp' : ∃ A, p' = .pointer (some A) := by
            unfold ld at h1
            split at h1
            · obtain ⟨i, _, _, e⟩ := k2.pointer; exact ⟨_, e⟩
            · cases h1
          obtain ⟨A, rfl⟩ := hp'
          have hl : (loadVar t A).run P w = .ok v' w := by
            simpa [Instr.loadAt, Instr.sureAddr] using k3
          have hg : tmps.getD a undef = .pointer (some A) := by rw [Array.getD_eq_getD_getElem?, k1]; rfl
          exact fin (by simp only [resOne, hg, asAddr, Sem.run_bind, Sem.run_pure, Result.andThen_ok, hl]) k4 h2
        · cases hr
      · cases hr
theorem results_eq (fn : Func) (tmps : Array Value) : results fn tmps = (do
    let vs ← fn.results.mapM (resOne tmps)
    pure (if h : vs.size = 1 then vs[0] else .tuple vs)) := by
  unfold results
  congr 2
include hE in
theorem results_sim (R : HRel ok G m h w) (hf : FRel m fr tmps) {fn : Func} {vs : List Value} (hr : resD E fr h fn.results.toList = some vs) : ∃ v', (results fn tmps).run P w = .ok v' w ∧ VRel m (oneD vs) v' := by
  obtain ⟨vs', h1, h2⟩ := res_run hE R hf hr
  refine ⟨if h : vs'.toArray.size = 1 then vs'.toArray[0] else .tuple vs'.toArray, ?_, ?_⟩
  · rw [results_eq, Array.mapM_eq_mapM_toList]
    simp only [Sem.run_bind, Sem.run_map, h1, Result.andThen_ok, Sem.run_pure]
  · cases h2 with
    | nil => exact .tuple .nil
    | cons k1 k2 =>
      cases k2 with
      | nil => exact k1
      | cons k2 k3 => exact .tuple (.cons k1 (.cons k2 k3))
end
end Go.Dm

set_option linter.unusedVariables false
set_option linter.unusedSimpArgs false
namespace Go.Dm

/-- What is asked of functions that are given by hand. -/
def PlugOk (P : Program) (ok : OkC) (G : Nat) (X : Plug) : Prop :=
  ∀ {f : FuncId} {args : List Value} {h : H} {v : Value} {h' : H}, X f args h = some (v, h') → ∀ {m : Inj} {w : World} {args' : List Value}, HRel ok G m h w → LRel m args args' →
    (∃ fn, P.funcs[f]? = some fn ∧ fn.body.isSome = true ∧ (fn.name == "runtime.NumGoroutine") = false) ∧
    Calls P f args'.toArray w fun e w' => ∃ v', e = .returned v' ∧ Step ok G m h w v h' v' w'
theorem PlugOk.none (P : Program) (ok : OkC) (G : Nat) : PlugOk P ok G fun _ _ _ => none := fun h => by cases h

section
variable {P : Program} {E : Env} (hE : EnvOk P E) {G : Nat} {ck : CK} (C : CallSim P (okC E G false) G ck) (hm : P.follows .mixedOrders = true)
  (hF : ∀ f fn c, E.fn f = some fn → fn.body = some c → okC E G true fn.ntmps c = true)
/-- The marks are taken; what is left is the results' value. -/
theorem leaves_marks {m0 : Inj} {h0 : H} {w0 : World} {fn : Func} {tmps : Array Value} {m : Inj} {h : H} {R : Ending → World → Prop} : ∀ {rs : List Nat} {w : World}, MK w0.heap.size w rs → Evo m0 h0 w0 m h w → HRel (okC E G false) G m h w →
    (∀ w', Evo m0 h0 w0 m h w' → HRel (okC E G false) G m h w' → LeavesInM (FW none) 0 P fn tmps R [] .returning w') → LeavesInM (FW none) 0 P fn tmps R (mkD rs) .returning w := by
  intro rs
  induction rs with
  | nil => intro w _ e R h; exact h w e R
  | cons r rs ih =>
    intro w k e R0 hfin
    have hr := k.at_ r (List.mem_cons_self ..)
    have hnd := List.nodup_cons.1 k.nodup
    refine ⟨by simp, .inl ⟨r, setObjW w r (.deferred none), rfl, ?_, ih ?_ ?_ ?_ hfin⟩⟩
    · simp only [Instr.takeDeferred, Sem.run_bind, getObj]
      have hg : (Sem.getObj r Sem.pure).run P w = .ok (.deferred (some [])) w := by simp [Sem.run, hr.2]
      rw [hg]
      simp only [Result.andThen_ok, Sem.run_bind, run_setObjW hr.2 (by intro c e f q; cases q), Sem.run_pure]
    · refine ⟨hnd.2, fun q hq => ?_⟩
      have := k.at_ q (List.mem_cons_of_mem _ hq)
      have hne : q ≠ r := fun e => hnd.1 (e ▸ hq)
      exact ⟨this.1, ((setObjW_facts w r (.deferred none)).other q hne).trans this.2⟩
    · exact {
        ext := e.ext, os := e.os, tape := e.tape, output := e.output
        size := by rw [(setObjW_facts w r _).size]; exact e.size
        keep := fun q hq hn => by
          rw [(setObjW_facts w r _).other q (by have := hr.1; omega)]
          exact e.keep q hq hn
        new := e.new, own := e.own }
    · exact {
        obj := fun b o i hb hi => (R0.obj b o i hb hi).congr (Ext.refl m) ((setObjW_facts w r _).other _ fun e => by
          have h1 := R0.obj b o i hb hi
          have h2 := hr.2
          rw [← e] at h2
          cases o with
          | cells c s own fz ty => obtain ⟨_, c', e, lo, hi', h3, _⟩ := h1; rw [h2] at h3; cases h3
          | map es cl => obtain ⟨es', h3, _⟩ := h1; rw [h2] at h3; cases h3
          | siter s p => have h3 := h1.2; rw [h2] at h3; cases h3
          | loop l => obtain ⟨l', h3, _⟩ := h1; rw [h2] at h3; cases h3)
        inj := R0.inj
        dom := fun b i hi => ⟨(R0.dom b i hi).1, by rw [(setObjW_facts w r _).size]; exact (R0.dom b i hi).2⟩
        one := R0.one, wf := R0.wf, glob := R0.glob }

include hE C hm hF in
theorem body_sim {k : Nat} {f : FuncId} {args : List Value} {h : H} {v : Value} {h' : H} (hd : bodyD E ck k f args h = some (v, h')) {m : Inj} {w : World} {args' : List Value} (R : HRel (okC E G false) G m h w) (hL : LRel m args args') :
    (∃ fn, P.funcs[f]? = some fn ∧ fn.body.isSome = true ∧ (fn.name == "runtime.NumGoroutine") = false) ∧
    Calls P f args'.toArray w fun e w' => ∃ v', e = .returned v' ∧ Step (okC E G false) G m h w v h' v' w' := by
  unfold bodyD at hd
  split at hd
  · rename_i fn hfn
    split at hd
    · rename_i c hc
      split at hd
      · rename_i hlen
        have hP := hE.fn f fn hfn
        have hbs : fn.body.isSome = true := by rw [hc]; rfl
        refine ⟨⟨fn, hP, hbs, hE.nm f fn hfn hbs⟩, ?_⟩
        refine callsIn_wide.1 (callsIn_of_wp_marks (F := FW none) (n := 0) hP hc trivial ?_ rfl)
        have hsz : (args'.toArray ++ Array.replicate (fn.ntmps - args'.toArray.size) undef).size = fn.ntmps := by
          have := hL.length
          simp; omega
        have X : Xs (okC E G false) G m h w w.heap.size fn.ntmps m h w (frOf args 0 .leaf) { tmps := args'.toArray ++ Array.replicate (fn.ntmps - args'.toArray.size) undef, defers := [] } [] :=
          ⟨Evo.refl .., R, frOf_sim hL _ hlen, hsz, rfl, Nat.le_refl _, ⟨List.nodup_nil, fun r hr => by cases hr⟩⟩
        have fin : ∀ {m' : Inj} {w' : World} {a' : Act} {rs : List Nat} {fr : T Value} {h1 : H} {vs : List Value}, Xs (okC E G false) G m h w w.heap.size fn.ntmps m' h1 w' fr a' rs → resD E fr h1 fn.results.toList = some vs → v = oneD vs → h' = h1 →
            LeavesInM (FW none) 0 P fn a'.tmps (fun e w' => ∃ v', e = .returned v' ∧ Step (okC E G false) G m h w v h' v' w') a'.defers .returning w' := by
          intro m' w' a' rs fr h1 vs X' hres hv hh
          subst hv hh
          rw [X'.defers]
          refine leaves_marks X'.marks X'.evo X'.rel ?_
          intro w2 e2 R2
          obtain ⟨v', q1, q2⟩ := results_sim hE R2 X'.frel hres
          exact ⟨v', q1, v', rfl, m', e2, R2, q2⟩
        split at hd
        · rename_i fr h1 he
          obtain ⟨vs, h2, h3⟩ := map_some hd
          cases h3
          exact exec_sim (rf := true) hE C hm (fun _ => rfl) k c none he (hF f fn c hfn hc) X fun m' w' a' rs X' => fin X' h2 rfl rfl
        · rename_i fr h1 he
          obtain ⟨vs, h2, h3⟩ := map_some hd
          cases h3
          exact exec_sim (rf := true) hE C hm (fun _ => rfl) k c none he (hF f fn c hfn hc) X fun m' w' a' rs X' => fin X' h2 rfl rfl
        · cases hd
      · cases hd
    · cases hd
  · cases hd

theorem puts_sim {m : Inj} : ∀ {ps : List Tmp} {vs vs' : List Value} {fr fr' : T Value} {tmps : Array Value}, putsD ps vs fr = some fr' → LRel m vs vs' → FRel m fr tmps → (∀ p ∈ ps, p < tmps.size) →
    vs'.length = ps.length ∧ FRel m fr' ((ps.zip vs').foldl (fun tmps (t, a) => tmps.setIfInBounds t a) tmps) ∧ ((ps.zip vs').foldl (fun tmps (t, a) => tmps.setIfInBounds t a) tmps).size = tmps.size := by
  intro ps
  induction ps with
  | nil =>
    intro vs vs' fr fr' tmps hp hl hf hs
    cases hl with
    | nil => simp only [putsD] at hp; cases hp; exact ⟨rfl, hf, rfl⟩
    | cons _ _ => cases hp
  | cons p ps ih =>
    intro vs vs' fr fr' tmps hp hl hf hs
    cases hl with
    | nil => cases hp
    | cons h1 h2 =>
      simp only [putsD] at hp
      have hps := hs p (List.mem_cons_self ..)
      obtain ⟨q1, q2, q3⟩ := ih hp h2 (hf.set hps h1) (fun q hq => by simpa using hs q (List.mem_cons_of_mem _ hq))
      exact ⟨by simp [q1], q2, q3.trans (by simp)⟩

/-- The end of a round. -/
theorem endRound_sim {l : Nat} {jump : Option Code} {h : H} {v : Value} {h' : H} (hd : endRoundD l jump h = some (v, h')) {m : Inj} {w : World} {i : Img} (R : HRel (okC E G false) G m h w) (hi : m l = some i) :
    ∃ v' w', (Instr.endRound i.blk jump).run P w = .ok v' w' ∧ Step (okC E G false) G m h w v h' v' w' := by
  unfold endRoundD at hd
  split at hd
  · rename_i r hl
    cases hd
    obtain ⟨r', h1, h2, h3, h4, h5, h6, h7, h8, h9, h10⟩ := R.obj l _ i hl hi
    have hput := loop_put R hl hi h1 (r2 := { r with state := if jump.isNone then .ready else .done, pending := jump }) (r2' := { r' with state := if jump.isNone then .ready else .done, pending := jump })
      ⟨_, setObjW_at h1 _, rfl, rfl, h4, h5, h6, h7, h8, h9, h10⟩
    refine ⟨.bool jump.isNone, _, ?_, m, hput.1, hput.2, .plain rfl⟩
    simp only [Instr.endRound, Sem.run_bind, run_getLoop h1, Result.andThen_ok, run_setLoop h1, Sem.run_pure]
  · cases hd

include hE C hm in
theorem round_sim {k l : Nat} {args : List Value} {h : H} {v : Value} {h' : H} (hd : roundD E ck k l args h = some (v, h')) {m : Inj} {w : World} {args' : List Value} {i : Img} (R : HRel (okC E G false) G m h w) (hL : LRel m args args') (hi : m l = some i) :
    ∃ f tmps assign body, (Instr.yield i.blk args'.toArray).run P w = .ok (.round i.blk f tmps assign body) w ∧
      ∀ ro, RoundIn (FW ro) 0 P i.blk f tmps assign body w fun e w' => ∃ v', e = .returned v' ∧ Step (okC E G false) G m h w v h' v' w' := by
  unfold roundD at hd
  split at hd
  · rename_i r hl
    split at hd
    · rename_i fr hputs
      obtain ⟨r', h1, h2, h3, h4, h5, h6, h7, h8, h9, h10⟩ := R.obj l _ i hl hi
      obtain ⟨q1, q2, q3⟩ := puts_sim hputs hL h7 h10
      have hzip : (r'.params.zip args'.toArray).foldl (fun tmps (t, a) => tmps.setIfInBounds t a) r'.tmps = (r.params.zip args').foldl (fun tmps (t, a) => tmps.setIfInBounds t a) r'.tmps := by
        rw [← Array.foldl_toList, Array.toList_zip, h4]
      refine ⟨r'.fn, (r'.params.zip args'.toArray).foldl (fun tmps (t, a) => tmps.setIfInBounds t a) r'.tmps, r'.assign, r'.body, ?_, ?_⟩
      · have hsz : ¬ (args'.toArray.size ≠ r'.params.size) := by
          have : r'.params.size = r.params.length := by rw [← h4]; simp
          simp [q1, this]
        simp only [Instr.yield, Sem.run_bind, run_getLoop h1, Result.andThen_ok, hsz, if_false, Sem.run_pure]
      · intro ro
        rw [hzip, h5, h6]
        refine roundIn_of_wpIn (F := FW ro) trivial ?_
        have X : Xs (okC E G false) G m h w w.heap.size r'.tmps.size m h w fr { tmps := (r.params.zip args').foldl (fun tmps (t, a) => tmps.setIfInBounds t a) r'.tmps, defers := [] } [] :=
          ⟨Evo.refl .., R, q2, q3, rfl, Nat.le_refl _, ⟨List.nodup_nil, fun r hr => by cases hr⟩⟩
        split at hd
        · rename_i fr1 hh1 he
          refine exec_sim (rf := false) (ro := some i.blk) hE C hm (fun h => by cases h) k r.assign none he h8 X ?_
          intro m1 w1 a1 rs1 X1
          split at hd
          · rename_i r1 hl1
            split at hd
            · rename_i hst
              have hi1 := X1.evo.ext _ _ hi
              obtain ⟨p', g1, g2, g3, g4, g5, g6, g7, g8, g9, g10⟩ := X1.rel.obj l _ i hl1 hi1
              have hput := loop_put X1.rel hl1 hi1 g1 (r2 := { r1 with state := .busy }) (r2' := { p' with state := .busy }) ⟨_, setObjW_at g1 _, rfl, g3, g4, g5, g6, g7, g8, g9, g10⟩
              refine ⟨setObjW w1 i.blk (.loop { p' with state := .busy }), ?_, ?_⟩
              · simp only [Instr.beginRound, Sem.run_bind, run_getLoop g1, Result.andThen_ok, run_setLoop g1, g2, hst, Sem.run_pure]
              · have X2 := X1.step hput.1 hput.2 X1.frel X1.size rfl
                have fin : ∀ {jump : Option Code} {hh2 : H} {fr2 : T Value} {m2 : Inj} {w2 : World} {a2 : Act} {rs2 : List Nat}, endRoundD l jump hh2 = some (v, h') → Xs (okC E G false) G m h w w.heap.size r'.tmps.size m2 hh2 w2 fr2 a2 rs2 →
                    ∃ v' w', (Instr.endRound i.blk jump).run P w2 = .ok v' w' ∧ ∃ v'', Ending.returned v' = .returned v'' ∧ Step (okC E G false) G m h w v h' v'' w' := by
                  intro jump hh2 fr2 m2 w2 a2 rs2 hend X3
                  obtain ⟨v', w', e1, m3, e2, e3, e4⟩ := endRound_sim (P := P) hend X3.rel (X3.evo.ext _ _ hi)
                  exact ⟨v', w', e1, v', rfl, m3, X3.evo.trans e2, e3, e4⟩
                split at hd
                · rename_i fr2 hh2 hb
                  exact exec_sim (rf := false) (ro := some i.blk) hE C hm (fun h => by cases h) k r.body none hb h9 X2 fun m2 w2 a2 rs2 X3 => fin hd X3
                · rename_i fr2 hh2 hb
                  exact exec_sim (rf := false) (ro := some i.blk) hE C hm (fun h => by cases h) k r.body none hb h9 X2 fun m2 w2 a2 rs2 X3 => fin hd X3
                · rename_i id fr2 hh2 hb
                  exact exec_sim (rf := false) (ro := some i.blk) hE C hm (fun h => by cases h) k r.body none hb h9 X2 fun m2 w2 a2 rs2 X3 => fin hd X3
                · rename_i t fr2 hh2 hb
                  exact exec_sim (rf := false) (ro := some i.blk) hE C hm (fun h => by cases h) k r.body none hb h9 X2 fun m2 w2 a2 rs2 X3 => fin hd X3
                · cases hd
            · cases hd
          · cases hd
        · cases hd
    · cases hd
  · cases hd

include hE hm hF in
/-- What D's calls come to, the model's come to. -/
theorem call_sim {X : Plug} (hX : PlugOk P (okC E G false) G X) : ∀ k, CallSim P (okC E G false) G (callD E X k) := by
  intro k
  induction k with
  | zero =>
    refine ⟨?_, ?_⟩
    · intro f args h v h' hd; cases hd
    · intro l args h v h' hd; cases hd
  | succ k ih =>
    refine ⟨?_, ?_⟩
    · intro f args h v h' hd m w args' R hL
      simp only [callD] at hd
      split at hd
      · rename_i r hr
        cases hd
        exact hX hr R hL
      · exact body_sim hE ih hm hF hd R hL
    · intro l args h v h' hd m w args' i R hL hi
      simp only [callD] at hd
      exact round_sim hE ih hm hd R hL hi
end
end Go.Dm
