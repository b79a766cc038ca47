/- The machine D, 30: the calculus' words for simp. -/
import Derived.Test.YtpanpicbikihkaaDoorDEvB
set_option linter.unusedVariables false
set_option linter.unusedSimpArgs false
namespace Go.Dm

section
variable {E : Env} {X : Plug} {L : List Nat} {Q : Post} {fr : T Value} {h : H} {K : VPost}
def CondC (E : Env) (X : Plug) (L : List Nat) (v : Option Value) (a b : Code) (Q : Post) (fr : T Value) (h : H) : Prop := match v with
  | some (.bool t) => BrW t (wpd E X L a none Q fr h) (wpd E X L b none Q fr h)
  | _ => False
def BrC (E : Env) (X : Plug) (L : List Nat) (t : Bool) (a b : Code) (Q : Post) (fr : T Value) (h : H) : Prop := BrW t (wpd E X L a none Q fr h) (wpd E X L b none Q fr h)
theorem BrC.split {t : Bool} {a b : Code} (h1 : t = true → wpd E X L a none Q fr h) (h2 : t = false → wpd E X L b none Q fr h) : BrC E X L t a b Q fr h := by
  cases t
  · exact h2 rfl
  · exact h1 rfl
/-- An operation without what a run does not need; its guard's slot found. -/
structure SOp where
  d : Option Tmp
  o : Op
  g : Option (Option Tmp × Bool)
def gdOf (v : Option Value) (w : Bool) : Option Bool := match v with
  | some (.bool b) => some (b == w)
  | some _ => some false
  | none => none
def gdT (g : Option (Option Tmp × Bool)) (fr : T Value) : Option Bool := match g with
  | none => some true
  | some (some d, w) => gdOf (fr.get d) w
  | some (none, _) => none
def slim1 (ops : List Oper) (o : Oper) : SOp := ⟨o.dst, o.op, o.guard.map fun g => ((ops[g.1]?).bind (·.dst), g.2)⟩
def slW (E : Env) (X : Plug) : List SOp → T Value → H → (T Value → H → Prop) → Prop
  | [], fr, h, K => K fr h
  | o :: rest, fr, h, K => match gdT o.g fr with
    | some true => opW E X o.o fr h.clr (fun v h' => slW E X rest (putD fr o.d v) h' K)
    | some false => slW E X rest (putD fr o.d undef) h K
    | none => False
def slK (E : Env) (X : Plug) (rest : List SOp) (fr : T Value) (dst : Option Tmp) (K : T Value → H → Prop) : VPost := fun v h' => slW E X rest (putD fr dst v) h' K
def GdC (E : Env) (X : Plug) (t : Option Bool) (o : SOp) (rest : List SOp) (fr : T Value) (h : H) (K : T Value → H → Prop) : Prop := match t with
  | some true => opW E X o.o fr h.clr (slK E X rest fr o.d K)
  | some false => slW E X rest (putD fr o.d undef) h K
  | none => False
theorem GdC.split {t : Bool} {o : SOp} {rest : List SOp} {K : T Value → H → Prop} (h1 : t = true → opW E X o.o fr h.clr (slK E X rest fr o.d K)) (h2 : t = false → slW E X rest (putD fr o.d undef) h K) : GdC E X (some t) o rest fr h K := by
  cases t
  · exact h2 rfl
  · exact h1 rfl
theorem gdT_slim (ops : Array Oper) (o : Oper) : gdT (slim1 ops.toList o).g fr = wantedD ops o fr := by
  unfold gdT slim1 wantedD gdOf
  cases o.guard with
  | none => rfl
  | some g =>
    obtain ⟨j, w⟩ := g
    simp only [Option.map_some, Array.getElem?_toList]
    cases (ops[j]?).bind (·.dst) with
    | none => rfl
    | some d =>
      simp only
      cases fr.get d with
      | none => rfl
      | some v => cases v <;> rfl
theorem slW_eq (ops : Array Oper) : ∀ (l : List Oper) (fr : T Value) (h : H) (K : T Value → H → Prop), slW E X (l.map (slim1 ops.toList)) fr h K = regW E X ops l fr h K := by
  intro l
  induction l with
  | nil => intro fr h K; rfl
  | cons o rest ih =>
    intro fr h K
    simp only [List.map_cons, slW, regW, gdT_slim]
    cases wantedD ops o fr with
    | none => rfl
    | some t => cases t <;> simp [GdW, ih, slim1]

@[simp] theorem wpd_seq (a b : Code) : wpd E X L (.seq a b) none Q fr h = wpd E X L a none (seqPost E X L b Q) fr h := _root_.id rfl
def SkC (E : Env) (X : Plug) (L : List Nat) (t : Bool) (a b : Code) (l : Nat) (Q : Post) (fr : T Value) (h : H) : Prop := if t then wpd E X L a (some l) (seqPost E X L b Q) fr h else wpd E X L b (some l) Q fr h
@[simp] theorem wpd_seq_in (a b : Code) (l : Nat) : wpd E X L (.seq a b) (some l) Q fr h = SkC E X L (hasLabel a l) a b l Q fr h := _root_.id rfl
@[simp] theorem SkC_true (a b : Code) (l : Nat) : SkC E X L true a b l Q fr h = wpd E X L a (some l) (seqPost E X L b Q) fr h := _root_.id rfl
@[simp] theorem SkC_false (a b : Code) (l : Nat) : SkC E X L false a b l Q fr h = wpd E X L b (some l) Q fr h := _root_.id rfl
attribute [simp] hasLabel
@[simp] theorem wpd_skip : wpd E X L .skip none Q fr h = Q .normal fr h := _root_.id rfl
@[simp] theorem wpd_label (l : Nat) : wpd E X L (.label l) none Q fr h = Q .normal fr h := _root_.id rfl
@[simp] theorem wpd_label_in (l : Nat) : wpd E X L (.label l) (some l) Q fr h = Q .normal fr h := by simp [wpd]
@[simp] theorem wpd_region (i : Nat) (ops : Array Oper) (draw : Bool) : wpd E X L (.region i ops draw) none Q fr h = (laxN E X L i ops draw fr h ∧ slW E X (ops.toList.map (slim1 ops.toList)) fr h (regPost Q)) := by
  rw [slW_eq]; rfl
@[simp] theorem wpd_cond (c : Operand) (a b : Code) : wpd E X L (.cond c a b) none Q fr h = CondC E X L (ev fr c) a b Q fr h := _root_.id rfl
@[simp] theorem wpd_block (id : Nat) (c : Code) : wpd E X L (.block id c) none Q fr h = wpd E X L c none (blockPost id Q) fr h := _root_.id rfl
@[simp] theorem wpd_exit (id : Nat) : wpd E X L (.exit id) none Q fr h = Q (.exit id) fr h := _root_.id rfl
@[simp] theorem wpd_goto (l : Nat) : wpd E X L (.goto l) none Q fr h = Q (.goto l) fr h := _root_.id rfl
@[simp] theorem wpd_ret : wpd E X L .ret none Q fr h = Q .ret fr h := _root_.id rfl
@[simp] theorem CondC_bool (t : Bool) (a b : Code) : CondC E X L (some (.bool t)) a b Q fr h = BrC E X L t a b Q fr h := _root_.id rfl
@[simp] theorem BrC_true (a b : Code) : BrC E X L true a b Q fr h = wpd E X L a none Q fr h := _root_.id rfl
@[simp] theorem BrC_false (a b : Code) : BrC E X L false a b Q fr h = wpd E X L b none Q fr h := _root_.id rfl
@[simp] theorem seqPost_normal (b : Code) : seqPost E X L b Q .normal fr h = wpd E X L b none Q fr h := _root_.id rfl
@[simp] theorem seqPost_exit (b : Code) (i : Nat) : seqPost E X L b Q (.exit i) fr h = Q (.exit i) fr h := _root_.id rfl
@[simp] theorem seqPost_goto (b : Code) (i : Nat) : seqPost E X L b Q (.goto i) fr h = Q (.goto i) fr h := _root_.id rfl
@[simp] theorem seqPost_ret (b : Code) : seqPost E X L b Q .ret fr h = Q .ret fr h := _root_.id rfl
@[simp] theorem blockPost_normal (id : Nat) : blockPost id Q .normal fr h = Q .normal fr h := _root_.id rfl
@[simp] theorem blockPost_exit (id i : Nat) : blockPost id Q (.exit i) fr h = if i = id then Q .normal fr h else Q (.exit i) fr h := _root_.id rfl
@[simp] theorem blockPost_goto (id i : Nat) : blockPost id Q (.goto i) fr h = Q (.goto i) fr h := _root_.id rfl
@[simp] theorem blockPost_ret (id : Nat) : blockPost id Q .ret fr h = Q .ret fr h := _root_.id rfl
@[simp] theorem regPost_app : regPost Q fr h = Q .normal fr h.clr := _root_.id rfl
@[simp] theorem loopPost_normal {σ : Type} (I : σ → T Value → H → Prop) (μ : σ → Nat) (s : σ) : loopPost I μ s Q .normal fr h = ∃ s', μ s' < μ s ∧ I s' fr h := _root_.id rfl
@[simp] theorem loopPost_exit {σ : Type} (I : σ → T Value → H → Prop) (μ : σ → Nat) (s : σ) (i : Nat) : loopPost I μ s Q (.exit i) fr h = Q (.exit i) fr h := _root_.id rfl
@[simp] theorem loopPost_goto {σ : Type} (I : σ → T Value → H → Prop) (μ : σ → Nat) (s : σ) (i : Nat) : loopPost I μ s Q (.goto i) fr h = Q (.goto i) fr h := _root_.id rfl
@[simp] theorem loopPost_ret {σ : Type} (I : σ → T Value → H → Prop) (μ : σ → Nat) (s : σ) : loopPost I μ s Q .ret fr h = Q .ret fr h := _root_.id rfl
@[simp] theorem scopePost_normal {σ : Type} (c : Code) (I : Option Nat → σ → T Value → H → Prop) (μ : σ → Nat) (s : σ) : scopePost c I μ s Q .normal fr h = Q .normal fr h := _root_.id rfl
@[simp] theorem scopePost_exit {σ : Type} (c : Code) (I : Option Nat → σ → T Value → H → Prop) (μ : σ → Nat) (s : σ) (i : Nat) : scopePost c I μ s Q (.exit i) fr h = Q (.exit i) fr h := _root_.id rfl
@[simp] theorem scopePost_ret {σ : Type} (c : Code) (I : Option Nat → σ → T Value → H → Prop) (μ : σ → Nat) (s : σ) : scopePost c I μ s Q .ret fr h = Q .ret fr h := _root_.id rfl
def GoC {σ : Type} (t : Bool) (I : Option Nat → σ → T Value → H → Prop) (μ : σ → Nat) (s : σ) (Q : Post) (l : Nat) (fr : T Value) (h : H) : Prop := if t then ∃ s', μ s' < μ s ∧ I (some l) s' fr h else Q (.goto l) fr h
@[simp] theorem scopePost_goto {σ : Type} (c : Code) (I : Option Nat → σ → T Value → H → Prop) (μ : σ → Nat) (s : σ) (l : Nat) : scopePost c I μ s Q (.goto l) fr h = GoC (hasLabel c l) I μ s Q l fr h := _root_.id rfl
@[simp] theorem GoC_true {σ : Type} (I : Option Nat → σ → T Value → H → Prop) (μ : σ → Nat) (s : σ) (l : Nat) : GoC true I μ s Q l fr h = ∃ s', μ s' < μ s ∧ I (some l) s' fr h := by simp [GoC]
@[simp] theorem GoC_false {σ : Type} (I : Option Nat → σ → T Value → H → Prop) (μ : σ → Nat) (s : σ) (l : Nat) : GoC false I μ s Q l fr h = Q (.goto l) fr h := by simp [GoC]
@[simp] theorem retPost_normal (rs : List ResultVar) : retPost E rs K .normal fr h = resW E rs K fr h := _root_.id rfl
@[simp] theorem retPost_ret (rs : List ResultVar) : retPost E rs K .ret fr h = resW E rs K fr h := _root_.id rfl
@[simp] theorem laxN_nil (i : Nat) (ops : Array Oper) (draw : Bool) : laxN E X [] i ops draw fr h = True := by simp [laxN]
@[simp] theorem laxW_false (ops : Array Oper) : laxW E X ops false fr h = True := by simp [laxW]
theorem laxW_nil {ops : Array Oper} {draw : Bool} (hl : laxPairs E ops = []) : laxW E X ops draw fr h := fun _ => ⟨0, fun n _ => by rw [hl]; rfl⟩
@[simp] theorem slW_nil (K : T Value → H → Prop) : slW E X [] fr h K = K fr h := _root_.id rfl
@[simp] theorem slW_cons (o : SOp) (rest : List SOp) (K : T Value → H → Prop) : slW E X (o :: rest) fr h K = GdC E X (gdT o.g fr) o rest fr h K := by
  simp only [slW, GdC]
  cases gdT o.g fr with
  | none => rfl
  | some t => cases t <;> rfl
@[simp] theorem GdC_true (o : SOp) (rest : List SOp) (K : T Value → H → Prop) : GdC E X (some true) o rest fr h K = opW E X o.o fr h.clr (slK E X rest fr o.d K) := _root_.id rfl
@[simp] theorem GdC_false (o : SOp) (rest : List SOp) (K : T Value → H → Prop) : GdC E X (some false) o rest fr h K = slW E X rest (putD fr o.d undef) h K := _root_.id rfl
@[simp] theorem slK_app (rest : List SOp) (dst : Option Tmp) (K : T Value → H → Prop) (v : Value) (h' : H) : slK E X rest fr dst K v h' = slW E X rest (putD fr dst v) h' K := _root_.id rfl
@[simp] theorem gdT_none : gdT none fr = some true := _root_.id rfl
@[simp] theorem gdT_some (d : Tmp) (w : Bool) : gdT (some (some d, w)) fr = gdOf (fr.get d) w := _root_.id rfl
@[simp] theorem gdOf_bool (b w : Bool) : gdOf (some (.bool b)) w = some (b == w) := _root_.id rfl
@[simp] theorem gdOf_undef (w : Bool) : gdOf (some undef) w = some false := _root_.id rfl
@[simp] theorem gdOf_undef' (w : Bool) : gdOf (some (.tuple #[])) w = some false := _root_.id rfl
def dstOf (ops : List Oper) (j : Nat) : Option Tmp := (ops[j]?).bind (·.dst)
@[simp] theorem slim_none (ops : List Oper) (dst : Option Tmp) (op : Op) (ty : TypeId) (pos : String) (after : Array Edge) : slim1 ops { dst := dst, op := op, type := ty, pos := pos, after := after, guard := none } = ⟨dst, op, none⟩ := _root_.id rfl
@[simp] theorem slim_some (ops : List Oper) (dst : Option Tmp) (op : Op) (ty : TypeId) (pos : String) (after : Array Edge) (j : Nat) (w : Bool) : slim1 ops { dst := dst, op := op, type := ty, pos := pos, after := after, guard := some (j, w) } = ⟨dst, op, some (dstOf ops j, w)⟩ := _root_.id rfl
@[simp] theorem dstOf_zero (dst : Option Tmp) (op : Op) (ty : TypeId) (pos : String) (after : Array Edge) (g : Option (Nat × Bool)) (l : List Oper) : dstOf ({ dst := dst, op := op, type := ty, pos := pos, after := after, guard := g } :: l) 0 = dst := _root_.id rfl
@[simp] theorem dstOf_succ (o : Oper) (l : List Oper) (n : Nat) : dstOf (o :: l) (n + 1) = dstOf l n := by simp [dstOf]
@[simp] theorem putD_some (d : Tmp) (v : Value) : putD fr (some d) v = fr.set d (some v) := _root_.id rfl
@[simp] theorem putD_none (v : Value) : putD fr none v = fr := _root_.id rfl
@[simp] theorem ev_tmp (t : Tmp) : ev fr (.tmp t) = fr.get t := _root_.id rfl
@[simp] theorem ev_const (v : Value) : ev fr (.const v) = some v := _root_.id rfl
@[simp] theorem ev_global (g : Nat) : ev fr (.global g) = some (.pointer (some ⟨g, 0, none⟩)) := _root_.id rfl
@[simp] theorem ev_func (g : Nat) : ev fr (.func g) = some (.func (.func g) #[] #[]) := _root_.id rfl
@[simp] theorem evs_nil : evs fr [] = some [] := _root_.id rfl
def consO : Option Value → Option (List Value) → Option (List Value)
  | some v, some vs => some (v :: vs)
  | _, _ => none
@[simp] theorem consO_some (v : Value) (vs : List Value) : consO (some v) (some vs) = some (v :: vs) := _root_.id rfl
@[simp] theorem evs_cons (x : Operand) (xs : List Operand) : evs fr (x :: xs) = consO (ev fr x) (evs fr xs) := by
  simp only [evs]
  cases ev fr x <;> cases evs fr xs <;> rfl
@[simp] theorem evo_none : evo fr none = some none := _root_.id rfl
@[simp] theorem evo_some (x : Operand) : evo fr (some x) = (ev fr x).map some := _root_.id rfl
@[simp] theorem get_set_lit (n m : Nat) (x : Option Value) : (fr.set n x).get m = if m = n then x else fr.get m := T.get_set ..
@[simp] theorem frOf_nil (i : Nat) : frOf [] i fr = fr := _root_.id rfl
@[simp] theorem frOf_cons (v : Value) (vs : List Value) (i : Nat) : frOf (v :: vs) i fr = frOf vs (i + 1) (fr.set i (some v)) := _root_.id rfl
@[simp] theorem resW_tmps (l : List ResultVar) : resW E l K fr h = ∃ vs, resD E fr h l = some vs ∧ K (oneD vs) h := _root_.id rfl

theorem wpd_loop {c : Code} {σ : Type} (I : σ → T Value → H → Prop) (μ : σ → Nat) (s : σ) (hI : I s fr h)
    (round : ∀ s fr' h', I s fr' h' → FrEq (wrs c) fr fr' → wpd E X L c none (loopPost I μ s Q) fr' h') : wpd E X L (.loop c) none Q fr h := fun hl => W.loop I μ s hI hl round
theorem wpd_scope {c : Code} {σ : Type} (I : Option Nat → σ → T Value → H → Prop) (μ : σ → Nat) (s : σ) (hI : I none s fr h)
    (round : ∀ sk s fr' h', I sk s fr' h' → FrEq (wrs c) fr fr' → wpd E X L c sk (scopePost c I μ s Q) fr' h') : wpd E X L (.scope c) none Q fr h := fun hl => W.scope I μ s hI hl round

/-! operations -/
attribute [simp] OptW.some OptW.none OptW.mapV OptW.mapH OptW.ite OptW.ite' ValW.some ValW.none ValW.ite ValW.ite' HpW.some HpW.none HpW.ite HpW.ite'
@[simp] theorem opW_move (x : Operand) : opW E X (.move x) fr h K = ValW (ev fr x) h K := by simp [opW, opD]
@[simp] theorem opW_assign (x : Operand) : opW E X (.assign x) fr h K = ValW (ev fr x) h K := by simp [opW, opD]
def pickO (c : Option Value) (a b : Option Value) : Option Value := match c with
  | some (.bool t) => if t then a else b
  | _ => none
@[simp] theorem pickO_bool (t : Bool) (a b : Option Value) : pickO (some (.bool t)) a b = if t then a else b := _root_.id rfl
@[simp] theorem opW_pick (c a b : Operand) : opW E X (.pick c a b) fr h K = ValW (pickO (ev fr c) (ev fr a) (ev fr b)) h K := by
  simp only [opW, opD, pickO]
  cases ev fr c with
  | none => simp
  | some v => cases v <;> simp
def allocO (ty : Option TypeId) (z : Option Value) (h : H) : Option (Value × H) := z.map fun z => newD 0 ty z.cells.toList h
@[simp] theorem opW_alloc (t : TypeId) : opW E X (.alloc t) fr h K = OptW (allocO (E.tag t) (zeroD E t) h) K := _root_.id rfl
@[simp] theorem opW_box (t : TypeId) (x : Operand) : opW E X (.box t x) fr h K = OptW (allocO none (ev fr x) h) K := _root_.id rfl
@[simp] theorem allocO_some (ty : Option TypeId) (v : Value) (h : H) : allocO ty (some v) h = some (.pointer (some ⟨h.addr, 0, none⟩), h.new (.cells v.cells.toList 0 true 0 ty)) := _root_.id rfl
@[simp] theorem ld_ptr (t : TypeId) (b o : Nat) (h : H) : ld E t (.pointer (some ⟨b, o, none⟩)) h = ldAt E t b o h := _root_.id rfl
@[simp] theorem st_ptr (t : TypeId) (b o : Nat) (v : Value) (h : H) : st E t (.pointer (some ⟨b, o, none⟩)) v h = stAt E t b o v h := _root_.id rfl
/-- One operand; two; three. -/
def b1 (a : Option Value) (f : Value → Option Value) : Option Value := a.bind f
def b2 (a b : Option Value) (f : Value → Value → Option Value) : Option Value := a.bind fun a => b.bind fun b => f a b
@[simp] theorem b1_some (a : Value) (f : Value → Option Value) : b1 (some a) f = f a := _root_.id rfl
@[simp] theorem b2_some (a b : Value) (f : Value → Value → Option Value) : b2 (some a) (some b) f = f a b := _root_.id rfl
def p1 (a : Option Value) (f : Value → Option (Value × H)) : Option (Value × H) := a.bind f
def p2 (a b : Option Value) (f : Value → Value → Option (Value × H)) : Option (Value × H) := a.bind fun a => b.bind fun b => f a b
@[simp] theorem p1_some (a : Value) (f : Value → Option (Value × H)) : p1 (some a) f = f a := _root_.id rfl
@[simp] theorem p2_some (a b : Value) (f : Value → Value → Option (Value × H)) : p2 (some a) (some b) f = f a b := _root_.id rfl
def h2 (a b : Option Value) (f : Value → Value → Option H) : Option H := a.bind fun a => b.bind fun b => f a b
def h3 (a b c : Option Value) (f : Value → Value → Value → Option H) : Option H := a.bind fun a => b.bind fun b => c.bind fun c => f a b c
@[simp] theorem h2_some (a b : Value) (f : Value → Value → Option H) : h2 (some a) (some b) f = f a b := _root_.id rfl
@[simp] theorem h3_some (a b c : Value) (f : Value → Value → Value → Option H) : h3 (some a) (some b) (some c) f = f a b c := _root_.id rfl
@[simp] theorem opW_load (t : TypeId) (a : Operand) : opW E X (.load t a) fr h K = ValW (b1 (ev fr a) fun a => ld E t a h) h K := by
  simp only [opW, opD]; cases ev fr a <;> simp [b1]
@[simp] theorem opW_store (t : TypeId) (a x : Operand) : opW E X (.store t a x) fr h K = HpW (h2 (ev fr a) (ev fr x) fun a v => st E t a v h) undef K := by
  simp only [opW, opD]; cases ev fr a <;> cases ev fr x <;> simp [h2]
@[simp] theorem opW_nilCheck (x : Operand) : opW E X (.nilCheck x) fr h K = ValW (b1 (ev fr x) nilCheckD) h K := by
  simp only [opW, opD]; cases ev fr x <;> simp [b1]
@[simp] theorem opW_binOp (op : BinOp) (t : TypeId) (x y : Operand) (r : TypeId) : opW E X (.binOp op t x y r) fr h K = ValW (b2 (ev fr x) (ev fr y) fun a b => binD E op t x y a b) h K := by
  simp only [opW, opD]; cases ev fr x <;> cases ev fr y <;> simp [b2]
@[simp] theorem opW_unOp (op : UnOp) (t : TypeId) (x : Operand) : opW E X (.unOp op t x) fr h K = ValW (b1 (ev fr x) fun a => unD op a) h K := by
  simp only [opW, opD]; cases ev fr x <;> simp [b1]
@[simp] theorem opW_convert (s d : TypeId) (x : Operand) : opW E X (.convert s d x) fr h K = OptW (p1 (ev fr x) fun a => convD E s d a h) K := by
  simp only [opW, opD]; cases ev fr x <;> simp [p1]
def mkIf (E : Env) (t : TypeId) (a : Option Value) : Option Value := match a, E.und t with
  | some _, some (.interface _) => none
  | some a, some _ => some (.iface t a)
  | _, _ => none
@[simp] theorem opW_makeInterface (t : TypeId) (x : Operand) : opW E X (.makeInterface t x) fr h K = ValW (mkIf E t (ev fr x)) h K := by
  simp only [opW, opD, mkIf]; cases ev fr x with
  | none => simp
  | some v => cases E.und t with
    | none => simp
    | some d => cases d <;> simp
def mkFn (f : FuncId) (a b : Option (List Value)) : Option Value := match a, b with
  | some a, some b => some (.func (.func f) a.toArray b.toArray)
  | _, _ => none
@[simp] theorem mkFn_some (f : FuncId) (a b : List Value) : mkFn f (some a) (some b) = some (.func (.func f) a.toArray b.toArray) := _root_.id rfl
@[simp] theorem opW_makeFunc (f : FuncId) (a b : Array Operand) : opW E X (.makeFunc (.func f) a b) fr h K = ValW (mkFn f (evs fr a.toList) (evs fr b.toList)) h K := by
  simp only [opW, opD, mkFn]; cases evs fr a.toList <;> cases evs fr b.toList <;> simp
@[simp] theorem opW_makeMap (t : TypeId) : opW E X (.makeMap t none) fr h K = K (.map (some h.addr)) (h.new (.map [] 0)) := by
  simp only [opW, opD, OptW.some]
@[simp] theorem opW_makeSlice (t : TypeId) (l c : Operand) : opW E X (.makeSlice t l c) fr h K = OptW (p2 (ev fr l) (ev fr c) fun a b => makeSliceD E t a b h) K := by
  simp only [opW, opD]; cases ev fr l <;> cases ev fr c <;> simp [p2]
def slO (E : Env) (t : TypeId) (a : Option Value) (lo hi mx : Option (Option Value)) (h : H) : Option Value := match a, lo, hi, mx with
  | some a, some lo, some hi, some mx => sliceD E t a lo hi mx h
  | _, _, _, _ => none
@[simp] theorem slO_some (t : TypeId) (a : Value) (lo hi mx : Option Value) (h : H) : slO E t (some a) (some lo) (some hi) (some mx) h = sliceD E t a lo hi mx h := _root_.id rfl
@[simp] theorem opW_slice (t : TypeId) (x : Operand) (lo hi mx : Option Operand) : opW E X (.slice t x lo hi mx) fr h K = ValW (slO E t (ev fr x) (evo fr lo) (evo fr hi) (evo fr mx) h) h K := by
  simp only [opW, opD, slO]; cases ev fr x <;> cases evo fr lo <;> cases evo fr hi <;> cases evo fr mx <;> simp
@[simp] theorem opW_fieldAddr (s : TypeId) (x : Operand) (f : Nat) : opW E X (.fieldAddr s x f) fr h K = ValW (b1 (ev fr x) fun a => fieldAddrD E s a f) h K := by
  simp only [opW, opD]; cases ev fr x <;> simp [b1]
@[simp] theorem opW_field (s : TypeId) (x : Operand) (f : Nat) : opW E X (.field s x f) fr h K = ValW (b1 (ev fr x) fun a => fieldD E s a f) h K := by
  simp only [opW, opD]; cases ev fr x <;> simp [b1]
@[simp] theorem opW_indexAddr (t : TypeId) (x i : Operand) : opW E X (.indexAddr t x i) fr h K = ValW (b2 (ev fr x) (ev fr i) fun a b => indexAddrD E t a b) h K := by
  simp only [opW, opD]; cases ev fr x <;> cases ev fr i <;> simp [b2]
@[simp] theorem opW_index (t : TypeId) (x i : Operand) : opW E X (.index t x i) fr h K = ValW (b2 (ev fr x) (ev fr i) fun a b => indexD E t a b) h K := by
  simp only [opW, opD]; cases ev fr x <;> cases ev fr i <;> simp [b2]
@[simp] theorem opW_lookup (t : TypeId) (m k : Operand) (ok : Bool) : opW E X (.lookup t m k ok) fr h K = ValW (b2 (ev fr m) (ev fr k) fun a b => lookupD E t a b ok h) h K := by
  simp only [opW, opD]; cases ev fr m <;> cases ev fr k <;> simp [b2]
@[simp] theorem opW_mapUpdate (t : TypeId) (m k v : Operand) : opW E X (.mapUpdate t m k v) fr h K = HpW (h3 (ev fr m) (ev fr k) (ev fr v) fun a b c => mapPutD E t a b c h) undef K := by
  simp only [opW, opD]; cases ev fr m <;> cases ev fr k <;> cases ev fr v <;> simp [h3]
@[simp] theorem opW_insert (t : TypeId) (m k v : Operand) : opW E X (.insert t m k v) fr h K = HpW (h3 (ev fr m) (ev fr k) (ev fr v) fun a b c => mapPutD E t a b c h) undef K := by
  simp only [opW, opD]; cases ev fr m <;> cases ev fr k <;> cases ev fr v <;> simp [h3]
@[simp] theorem opW_extract (x : Operand) (i : Nat) : opW E X (.extract x i) fr h K = ValW (b1 (ev fr x) fun a => extractD a i) h K := by
  simp only [opW, opD]; cases ev fr x <;> simp [b1]
def psO (l : List (Nat × Operand)) (fr : T Value) : Option (List (Nat × Value)) := evps fr l
def consP (i : Nat) : Option Value → Option (List (Nat × Value)) → Option (List (Nat × Value))
  | some v, some vs => some ((i, v) :: vs)
  | _, _ => none
@[simp] theorem consP_some (i : Nat) (v : Value) (vs : List (Nat × Value)) : consP i (some v) (some vs) = some ((i, v) :: vs) := _root_.id rfl
@[simp] theorem evps_nil : evps fr [] = some [] := _root_.id rfl
@[simp] theorem evps_cons (i : Nat) (x : Operand) (xs : List (Nat × Operand)) : evps fr ((i, x) :: xs) = consP i (ev fr x) (evps fr xs) := by
  simp only [evps]; cases ev fr x <;> cases evps fr xs <;> rfl
def pb (a : Option (List (Nat × Value))) (f : List (Nat × Value) → Option Value) : Option Value := a.bind f
@[simp] theorem pb_some (a : List (Nat × Value)) (f : List (Nat × Value) → Option Value) : pb (some a) f = f a := _root_.id rfl
def pbs (a : Option (List (Nat × Value))) (f : List (Nat × Value) → Option (Value × H)) : Option (Value × H) := a.bind f
@[simp] theorem pbs_some (a : List (Nat × Value)) (f : List (Nat × Value) → Option (Value × H)) : pbs (some a) f = f a := _root_.id rfl
@[simp] theorem opW_build (t : TypeId) (ps : Array (Nat × Operand)) : opW E X (.build t ps) fr h K = ValW (pb (evps fr ps.toList) fun ps => buildD E t ps) h K := by
  simp only [opW, opD]; cases evps fr ps.toList <;> simp [pb]
@[simp] theorem opW_buildSlice (t : TypeId) (n : Nat) (ps : Array (Nat × Operand)) : opW E X (.buildSlice t n ps) fr h K = OptW (pbs (evps fr ps.toList) fun ps => buildSliceD E t n ps h) K := by
  simp only [opW, opD]; cases evps fr ps.toList <;> simp [pbs]
def biD (E : Env) (b : Builtin) (ts : List TypeId) (args : List Value) (h : H) : Option (Value × H) := match b with
  | .len => match ts, args with
    | [t], [x] => (lenD E t x h).map (·, h)
    | _, _ => none
  | .append => match args with
    | [s, x] => appendD E ts s x h
    | _ => none
  | .copy => match args with
    | [s, x] => copyD E ts s x h
    | _ => none
  | .min => match args with
    | [a, b] => (minD a b).map (·, h)
    | _ => none
  | .max => match args with
    | [a, b] => (maxD a b).map (·, h)
    | _ => none
  | .delete => match ts, args with
    | t :: _, [m, k] => (mapDelD E t m k h).map (.tuple #[], ·)
    | _, _ => none
  | _ => none
@[simp] theorem biD_len (t : TypeId) (x : Value) (h : H) : biD E .len [t] [x] h = (lenD E t x h).map (·, h) := _root_.id rfl
@[simp] theorem biD_append (ts : List TypeId) (s x : Value) (h : H) : biD E .append ts [s, x] h = appendD E ts s x h := _root_.id rfl
@[simp] theorem biD_copy (ts : List TypeId) (s x : Value) (h : H) : biD E .copy ts [s, x] h = copyD E ts s x h := _root_.id rfl
@[simp] theorem biD_min (ts : List TypeId) (s x : Value) (h : H) : biD E .min ts [s, x] h = (minD s x).map (·, h) := _root_.id rfl
@[simp] theorem biD_max (ts : List TypeId) (s x : Value) (h : H) : biD E .max ts [s, x] h = (maxD s x).map (·, h) := _root_.id rfl
@[simp] theorem biD_delete (t : TypeId) (ts : List TypeId) (s x : Value) (h : H) : biD E .delete (t :: ts) [s, x] h = (mapDelD E t s x h).map (.tuple #[], ·) := _root_.id rfl
def callV (E : Env) (X : Plug) (f : Option Value) (args : List Value) (h : H) (K : VPost) : Prop := match f with
  | some v => callFnW E X v args h K
  | none => False
@[simp] theorem callV_fn (g : FuncId) (a b : List Value) (args : List Value) : callV E X (some (.func (.func g) a.toArray b.toArray)) args h K = CallW E X (.fn g) (a ++ args ++ b) h K := _root_.id rfl
@[simp] theorem callV_yd (l : Nat) (a b : Array Value) (args : List Value) : callV E X (some (.func (.yield l) a b)) args h K = CallW E X (.yd l) args h K := _root_.id rfl
def invW (E : Env) (X : Plug) (r : Option Value) (name : String) (args : List Value) (h : H) (K : VPost) : Prop := match r with
  | some (.iface t v) => match methodD E t v name with
    | some (f, rv) => CallW E X (.fn f) (rv :: args) h K
    | none => False
  | _ => False
def callC (E : Env) (X : Plug) (c : Callee) (ts : List TypeId) (args : Option (List Value)) (fr : T Value) (h : H) (K : VPost) : Prop := match args with
  | some args => match c with
    | .value f => callV E X (ev fr f) args h K
    | .invoke r name => invW E X (ev fr r) name args h K
    | .builtin b => OptW (biD E b ts args h) K
  | none => False
@[simp] theorem callC_value (f : Operand) (ts : List TypeId) (args : List Value) : callC E X (.value f) ts (some args) fr h K = callV E X (ev fr f) args h K := _root_.id rfl
@[simp] theorem callC_invoke (r : Operand) (name : String) (ts : List TypeId) (args : List Value) : callC E X (.invoke r name) ts (some args) fr h K = invW E X (ev fr r) name args h K := _root_.id rfl
@[simp] theorem callC_builtin (b : Builtin) (ts : List TypeId) (args : List Value) : callC E X (.builtin b) ts (some args) fr h K = OptW (biD E b ts args h) K := _root_.id rfl
@[simp] theorem opW_call (c : Callee) (args : Array Operand) (ts : Array TypeId) : opW E X (.call { callee := c, args := args, argTypes := ts }) fr h K = callC E X c ts.toList (evs fr args.toList) fr h K := by
  simp only [opW, callC]
  cases hx : evs fr args.toList with
  | none => rfl
  | some xs =>
    cases c with
    | value f => simp only [calleeW, callV]; cases ev fr f <;> rfl
    | invoke r name =>
      simp only [calleeW, invW]
      cases ev fr r with
      | none => rfl
      | some v => cases v <;> rfl
    | builtin b => simp only [calleeW, opD, hx]; cases b <;> rfl

def tagO (m : Bool) (t : TypeId) : Option TypeId := if m then some t else none
@[simp] theorem tag_eq (t : TypeId) : E.tag t = tagO (E.mark t) t := _root_.id rfl
@[simp] theorem tagO_true (t : TypeId) : tagO true t = some t := _root_.id rfl
@[simp] theorem tagO_false (t : TypeId) : tagO false t = none := _root_.id rfl
/-! ### memory -/
@[simp] theorem get_clr (h : H) (b : Nat) : h.clr.get b = h.get b := _root_.id rfl
@[simp] theorem next_clr (h : H) : h.clr.next = h.next := _root_.id rfl
@[simp] theorem one_clr (h : H) : h.clr.one = [] := _root_.id rfl
@[simp] theorem one_put (h : H) (b : Nat) (o : DObj) : (h.put b o).one = h.one := _root_.id rfl
@[simp] theorem one_drop (h : H) (b : Nat) : (h.drop b).one = h.one := _root_.id rfl
/-- A new block, behind all others. -/
def H.nw (h : H) (o : DObj) : H := h.clr.new o
@[simp] theorem one_nw (h : H) (o : DObj) : (h.nw o).one = [] := _root_.id rfl
@[simp] theorem next_nw (h : H) (o : DObj) : (h.nw o).next = h.next + 1 := _root_.id rfl
@[simp] theorem get_nw (h : H) (o : DObj) (c : Nat) : (h.nw o).get c = if c = h.next then some o else h.get c := H.get_new h.clr o c
@[simp] theorem clr_nw (h : H) (o : DObj) : (h.nw o).clr = h.nw o := _root_.id rfl
@[simp] theorem nw_clr (h : H) (o : DObj) : h.clr.nw o = h.nw o := _root_.id rfl
@[simp] theorem clr_new (h : H) (o : DObj) : h.clr.new o = h.nw o := _root_.id rfl
@[simp] theorem addr_clr (h : H) : h.clr.addr = h.next := _root_.id rfl
@[simp] theorem new_one (h : H) (o : DObj) (h1 : h.one = []) : h.new o = h.nw o := by
  unfold H.nw
  have : h.clr = h := by cases h; cases h1; rfl
  rw [this]
@[simp] theorem next_put (h : H) (b : Nat) (o : DObj) : (h.put b o).next = h.next := _root_.id rfl
@[simp] theorem next_drop (h : H) (b : Nat) : (h.drop b).next = h.next := _root_.id rfl
@[simp] theorem addr_one (h : H) (h1 : h.one = []) : h.addr = h.next := by simp [H.addr, h1]
@[simp] theorem clr_one (h : H) (h1 : h.one = []) : h.clr = h := by cases h; cases h1; rfl
theorem get_new (h : H) (o : DObj) (c : Nat) (h1 : h.one = []) : (h.new o).get c = if c = h.next then some o else h.get c := by rw [H.get_new, addr_one h h1]
attribute [simp] H.get_put H.get_drop
@[simp] theorem put_clr (h : H) (b : Nat) (o : DObj) : h.clr.put b o = (h.put b o).clr := _root_.id rfl
@[simp] theorem drop_clr (h : H) (b : Nat) : h.clr.drop b = (h.drop b).clr := _root_.id rfl
@[simp] theorem clr_clr (h : H) : h.clr.clr = h.clr := _root_.id rfl
def ldC (E : Env) (t : TypeId) (o : Nat) (x : Option DObj) : Option Value := match x with
  | some (.cells c _ _ _ _) => partD E t c o
  | _ => none
@[simp] theorem ldC_some (t : TypeId) (o : Nat) (c : List Value) (s : Nat) (own : Bool) (fz : Nat) (ty : Option TypeId) : ldC E t o (some (.cells c s own fz ty)) = partD E t c o := _root_.id rfl
@[simp] theorem ldAt_eq (t : TypeId) (b o : Nat) (h : H) : ldAt E t b o h = ldC E t o (h.get b) := _root_.id rfl
def partN (a : Option (Option Nat)) (cs : List Value) (off : Nat) : Option Value := match a with
  | some (some n) => if off + n ≤ cs.length then some (.agg ((cs.drop off).take n).toArray) else none
  | some none => cs[off]?
  | none => none
@[simp] theorem partN_agg (n : Nat) (cs : List Value) (off : Nat) : partN (some (some n)) cs off = if off + n ≤ cs.length then some (.agg ((cs.drop off).take n).toArray) else none := _root_.id rfl
@[simp] theorem partN_one (cs : List Value) (off : Nat) : partN (some none) cs off = cs[off]? := _root_.id rfl
@[simp] theorem partD_eq (t : TypeId) (cs : List Value) (off : Nat) : partD E t cs off = partN (aggN E t) cs off := _root_.id rfl
def stC (b o : Nat) (vs : List Value) (h : H) (x : Option DObj) : Option H := match x with
  | some (.cells c s true fz ty) => if o + vs.length ≤ c.length && fz ≤ o && vs.all cellV then some (h.put b (.cells (setAt c o vs) s true fz ty)) else none
  | _ => none
@[simp] theorem stC_some (b o : Nat) (vs : List Value) (h : H) (c : List Value) (s fz : Nat) (ty : Option TypeId) : stC b o vs h (some (.cells c s true fz ty)) = if o + vs.length ≤ c.length && fz ≤ o && vs.all cellV then some (h.put b (.cells (setAt c o vs) s true fz ty)) else none := _root_.id rfl
@[simp] theorem stCells_eq (b o : Nat) (vs : List Value) (h : H) : stCells b o vs h = stC b o vs h (h.get b) := _root_.id rfl
def stN (n : Option Nat) (b o : Nat) (v : Value) (h : H) : Option H := match n with
  | some n => if v.cells.size = n then stCells b o v.cells.toList h else none
  | none => none
@[simp] theorem stN_some (n b o : Nat) (v : Value) (h : H) : stN (some n) b o v h = if v.cells.size = n then stCells b o v.cells.toList h else none := _root_.id rfl
@[simp] theorem stAt_eq (t : TypeId) (b o : Nat) (v : Value) (h : H) : stAt E t b o v h = stN (E.siz t) b o v h := _root_.id rfl
@[simp] theorem cells_agg (cs : Array Value) : (Value.agg cs).cells = cs := _root_.id rfl
@[simp] theorem cells_int (k : IntKind) (n : Int) : (Value.int k n).cells = #[.int k n] := _root_.id rfl
@[simp] theorem cells_bool (b : Bool) : (Value.bool b).cells = #[.bool b] := _root_.id rfl
@[simp] theorem cells_string (s : ByteArray) : (Value.string s).cells = #[.string s] := _root_.id rfl
@[simp] theorem cells_pointer (a : Option Addr) : (Value.pointer a).cells = #[.pointer a] := _root_.id rfl
@[simp] theorem cells_slice (a : Option Addr) (n c : Nat) : (Value.slice a n c).cells = #[.slice a n c] := _root_.id rfl
@[simp] theorem cells_map (a : Option Nat) : (Value.map a).cells = #[.map a] := _root_.id rfl
@[simp] theorem cells_func (f : Fn) (a b : Array Value) : (Value.func f a b).cells = #[.func f a b] := _root_.id rfl
@[simp] theorem cells_nilFunc : Value.nilFunc.cells = #[.nilFunc] := _root_.id rfl
@[simp] theorem cells_nilIface : Value.nilIface.cells = #[.nilIface] := _root_.id rfl
@[simp] theorem cells_iface (t : TypeId) (v : Value) : (Value.iface t v).cells = #[.iface t v] := _root_.id rfl
@[simp] theorem cellV_int (k : IntKind) (n : Int) : cellV (.int k n) = true := _root_.id rfl
@[simp] theorem cellV_bool (b : Bool) : cellV (.bool b) = true := _root_.id rfl
@[simp] theorem cellV_string (s : ByteArray) : cellV (.string s) = true := _root_.id rfl
@[simp] theorem cellV_pointer (a : Option Addr) : cellV (.pointer a) = true := _root_.id rfl
@[simp] theorem cellV_slice (a : Option Addr) (n c : Nat) : cellV (.slice a n c) = true := _root_.id rfl
@[simp] theorem cellV_map (a : Option Nat) : cellV (.map a) = true := _root_.id rfl
@[simp] theorem cellV_func (f : Fn) (a b : Array Value) : cellV (.func f a b) = true := _root_.id rfl
@[simp] theorem cellV_nilFunc : cellV .nilFunc = true := _root_.id rfl
@[simp] theorem cellV_nilIface : cellV .nilIface = true := _root_.id rfl
@[simp] theorem cellV_iface (t : TypeId) (v : Value) : cellV (.iface t v) = true := _root_.id rfl
attribute [simp] setAt

/-! ### integers -/
theorem wrap_u {k : IntKind} {x : Int} (hk : k.signed = false) (h1 : 0 ≤ x) (h2 : x < 2 ^ k.bits) : k.wrap x = x := by
  unfold IntKind.wrap
  simp only [hk, Bool.false_and]
  exact Int.emod_eq_of_lt h1 h2
theorem wrap_i64 {x : Int} (h1 : -9223372036854775808 ≤ x) (h2 : x < 9223372036854775808) : IntKind.i64.wrap x = x := by
  simp [IntKind.wrap, IntKind.bits, IntKind.signed]
  split <;> omega
theorem wrap_i32 {x : Int} (h1 : -2147483648 ≤ x) (h2 : x < 2147483648) : IntKind.i32.wrap x = x := by
  simp [IntKind.wrap, IntKind.bits, IntKind.signed]
  split <;> omega
theorem wrap_u8 {x : Int} (h1 : 0 ≤ x) (h2 : x < 256) : IntKind.u8.wrap x = x := wrap_u rfl h1 h2
theorem wrap_u64 {x : Int} (h1 : 0 ≤ x) (h2 : x < 18446744073709551616) : IntKind.u64.wrap x = x := wrap_u rfl h1 h2
@[simp] theorem bin_int (op : BinOp) (t : TypeId) (x y : Operand) (k : IntKind) (a b : Int) (h1 : op ≠ .shl) (h2 : op ≠ .shr) : binD E op t x y (.int k a) (.int k b) = intD op k a b := by
  cases op <;> first | exact absurd rfl h1 | exact absurd rfl h2 | simp [binD]
@[simp] theorem bin_str (op : BinOp) (t : TypeId) (x y : Operand) (a b : ByteArray) : binD E op t x y (.string a) (.string b) = strD op a b := by
  cases op <;> rfl
@[simp] theorem int_add (k : IntKind) (a b : Int) : intD .add k a b = some (.int k (k.wrap (a + b))) := _root_.id rfl
@[simp] theorem int_sub (k : IntKind) (a b : Int) : intD .sub k a b = some (.int k (k.wrap (a - b))) := _root_.id rfl
@[simp] theorem int_mul (k : IntKind) (a b : Int) : intD .mul k a b = some (.int k (k.wrap (a * b))) := _root_.id rfl
@[simp] theorem int_quo (k : IntKind) (a b : Int) : intD .quo k a b = if b = 0 then none else some (.int k (k.wrap (a.tdiv b))) := _root_.id rfl
@[simp] theorem int_rem (k : IntKind) (a b : Int) : intD .rem k a b = if b = 0 then none else some (.int k (a.tmod b)) := _root_.id rfl
@[simp] theorem int_eql (k : IntKind) (a b : Int) : intD .eql k a b = some (.bool (decide (a = b))) := _root_.id rfl
@[simp] theorem int_neq (k : IntKind) (a b : Int) : intD .neq k a b = some (.bool (decide (a ≠ b))) := by
  show some (Value.bool (!decide (a = b))) = _
  simp
@[simp] theorem int_lss (k : IntKind) (a b : Int) : intD .lss k a b = some (.bool (decide (a < b))) := _root_.id rfl
@[simp] theorem int_leq (k : IntKind) (a b : Int) : intD .leq k a b = some (.bool (decide (a ≤ b))) := _root_.id rfl
@[simp] theorem int_gtr (k : IntKind) (a b : Int) : intD .gtr k a b = some (.bool (decide (b < a))) := _root_.id rfl
@[simp] theorem int_geq (k : IntKind) (a b : Int) : intD .geq k a b = some (.bool (decide (b ≤ a))) := _root_.id rfl
@[simp] theorem un_not (b : Bool) : unD .not (.bool b) = some (.bool !b) := _root_.id rfl
@[simp] theorem un_neg (k : IntKind) (n : Int) : unD .neg (.int k n) = some (.int k (k.wrap (0 - n))) := _root_.id rfl

/-! ### strings: lists of bytes -/
def str (l : List UInt8) : Value := .string ⟨l.toArray⟩
theorem bytes_ext {a b : ByteArray} (h : a.data.toList = b.data.toList) : a = b := by
  obtain ⟨⟨x⟩⟩ := a; obtain ⟨⟨y⟩⟩ := b; cases h; rfl
theorem bytes_size (l : List UInt8) : (ByteArray.mk l.toArray).size = l.length := by simp [ByteArray.size]
def lenT (d : Option TypeDesc) (x : Value) (h : H) : Option Value := match d, x with
  | some .string, .string s => some (intV s.size)
  | some (.array n _), _ => some (intV n)
  | some (.slice _), .slice _ n _ => some (intV n)
  | some (.map _ _), .map none => some (intV 0)
  | some (.map _ _), .map (some r) => match h.get r with
    | some (.map es _) => some (intV es.length)
    | _ => none
  | _, _ => none
@[simp] theorem lenD_eq (t : TypeId) (x : Value) (h : H) : lenD E t x h = lenT (E.und t) x h := _root_.id rfl
@[simp] theorem lenT_str (l : List UInt8) (h : H) : lenT (some .string) (str l) h = some (.int .i64 l.length) := by simp [lenT, str, intV, bytes_size]
@[simp] theorem lenT_array (n : Nat) (t : TypeId) (x : Value) (h : H) : lenT (some (.array n t)) x h = some (.int .i64 n) := by cases x <;> rfl
@[simp] theorem lenT_slice (t : TypeId) (a : Option Addr) (n c : Nat) (h : H) : lenT (some (.slice t)) (.slice a n c) h = some (.int .i64 n) := _root_.id rfl
@[simp] theorem cells_str (l : List UInt8) : (str l).cells = #[str l] := _root_.id rfl
@[simp] theorem cellV_str (l : List UInt8) : cellV (str l) = true := _root_.id rfl
theorem str_inj {a b : List UInt8} : (str a = str b) = (a = b) := by simp [str]
def strLD (op : BinOp) (x y : List UInt8) : Option Value := match op with
  | .add => if x.length + y.length ≤ 2 ^ 62 then some (str (x ++ y)) else none
  | .eql => some (.bool (decide (x = y)))
  | .neq => some (.bool (decide (x ≠ y)))
  | .lss => some (.bool (Op.bytesLess x y))
  | .leq => some (.bool (Op.bytesLess x y || decide (x = y)))
  | .gtr => some (.bool !(Op.bytesLess x y || decide (x = y)))
  | .geq => some (.bool !Op.bytesLess x y)
  | _ => none
theorem bytes_toList (l : List UInt8) : (ByteArray.mk l.toArray).toList = l := by rw [ByteArray.toList_eq]
@[simp] theorem bin_strL (op : BinOp) (t : TypeId) (x y : Operand) (a b : List UInt8) : binD E op t x y (str a) (str b) = strLD op a b := by
  unfold str
  rw [bin_str]
  have hb : (a == b) = decide (a = b) := by rw [Bool.eq_iff_iff]; simp
  have ha : (ByteArray.mk a.toArray ++ ByteArray.mk b.toArray) = ByteArray.mk (a ++ b).toArray := by
    apply bytes_ext; simp
  cases op <;> simp [strD, strLD, bytes_size, bytes_toList, str, bne, hb, ha]
@[simp] theorem string_lit (l : List UInt8) : Value.string ⟨l.toArray⟩ = str l := _root_.id rfl
def byteAt (l : List UInt8) (i : Int) : Int := (l.getD i.toNat 0).toNat
def idxB (l : List UInt8) (i : Int) : Option Value := if 0 ≤ i ∧ i < l.length then some (.int .u8 (byteAt l i)) else none
theorem idxB_in {l : List UInt8} {i : Int} (h0 : 0 ≤ i) (h1 : i < l.length) : idxB l i = some (.int .u8 (byteAt l i)) := if_pos ⟨h0, h1⟩
def indexT (E : Env) (d : Option TypeDesc) (x index : Value) : Option Value :=
  match d, x, index with
  | some (.array len elem), .agg cs, .int _ i => if 0 ≤ i && i < (len : Int) then match E.siz elem with
      | some n => partD E elem cs.toList (i.toNat * n)
      | none => none
    else none
  | some .string, .string s, .int _ i => if 0 ≤ i then match s.data.toList[i.toNat]? with
      | some b => some (.int .u8 b.toNat)
      | none => none
    else none
  | _, _, _ => none
@[simp] theorem indexD_eq (t : TypeId) (x i : Value) : indexD E t x i = indexT E (E.und t) x i := _root_.id rfl
@[simp] theorem indexT_str (l : List UInt8) (k : IntKind) (i : Int) : indexT E (some .string) (str l) (.int k i) = idxB l i := by
  show (if 0 ≤ i then match (ByteArray.mk l.toArray).data.toList[i.toNat]? with
      | some b => some (Value.int .u8 b.toNat)
      | none => none
    else none) = _
  unfold idxB byteAt
  by_cases h0 : 0 ≤ i
  · by_cases h1 : i < l.length
    · have h2 : i.toNat < l.length := by omega
      simp [h0, h1, h2]
    · have h2 : l.length ≤ i.toNat := by omega
      simp [h0, h1, h2]
  · simp [h0]
def sliceT (E : Env) (d : Option TypeDesc) (x : Value) (low high max : Option Value) (h : H) : Option Value :=
  match d, x with
  | some .string, .string s => if max.isSome then none else match boundsD s.size s.size low high none with
    | some (l, hi, _) => some (.string (s.extract l hi))
    | none => none
  | some (.array n elem), .pointer (some ⟨b, o, none⟩) => match boundsD n n low high max, E.siz elem with
    | some (l, hi, m), some sz => some (.slice (some ⟨b, if m = l then o else o + l * sz, none⟩) (hi - l) (m - l))
    | _, _ => none
  | some (.slice elem), .slice (some ⟨b, o, none⟩) len cap => match boundsD len cap low high max, E.siz elem, h.get b with
    | some (l, hi, m), some sz, some (.cells _ s _ _ _) => if s == 0 || s == sz then some (.slice (some ⟨b, o + l * sz, none⟩) (hi - l) (m - l)) else none
    | _, _, _ => none
  | some (.slice elem), .slice none 0 0 => match boundsD 0 0 low high max, E.siz elem with
    | some _, some _ => some (.slice none 0 0)
    | _, _ => none
  | _, _ => none
@[simp] theorem sliceD_eq (t : TypeId) (x : Value) (lo hi mx : Option Value) (h : H) : sliceD E t x lo hi mx h = sliceT E (E.und t) x lo hi mx h := _root_.id rfl
theorem extract_list (l : List UInt8) (a b : Nat) : (ByteArray.mk l.toArray).extract a b = ByteArray.mk ((l.take b).drop a).toArray := by
  apply bytes_ext
  simp [ByteArray.data_extract, List.extract, List.drop_take]
@[simp] theorem sliceT_str_lo (l : List UInt8) (k : IntKind) (a : Int) (h : H) : sliceT E (some .string) (str l) (some (.int k a)) none none h = if 0 ≤ a ∧ a ≤ l.length then some (str (l.drop a.toNat)) else none := by
  simp only [sliceT, str, boundsD, bytes_size, Option.isSome_none, Bool.false_eq_true, if_false, Bool.and_eq_true, decide_eq_true_eq]
  by_cases hc : 0 ≤ a ∧ a ≤ l.length
  · simp [hc, extract_list]
  · simp [hc]
@[simp] theorem sliceT_str_hi (l : List UInt8) (k : IntKind) (a : Int) (h : H) : sliceT E (some .string) (str l) none (some (.int k a)) none h = if 0 ≤ a ∧ a ≤ l.length then some (str (l.take a.toNat)) else none := by
  simp only [sliceT, str, boundsD, bytes_size, Option.isSome_none, Bool.false_eq_true, if_false, Bool.and_eq_true, decide_eq_true_eq]
  by_cases hc : 0 ≤ a ∧ a ≤ l.length
  · simp [hc, extract_list]
  · simp [hc]
@[simp] theorem sliceT_str_lh (l : List UInt8) (k k' : IntKind) (a b : Int) (h : H) : sliceT E (some .string) (str l) (some (.int k a)) (some (.int k' b)) none h = if 0 ≤ b ∧ b ≤ l.length ∧ 0 ≤ a ∧ a ≤ b then some (str ((l.take b.toNat).drop a.toNat)) else none := by
  simp only [sliceT, str, boundsD, bytes_size, Option.isSome_none, Bool.false_eq_true, if_false, Bool.and_eq_true, decide_eq_true_eq]
  by_cases hc : 0 ≤ b ∧ b ≤ l.length
  · by_cases hd : 0 ≤ a ∧ a ≤ b
    · have : a ≤ max b 0 := by omega
      simp [hc, hd, extract_list, this]
    · have : ¬ (0 ≤ a ∧ a ≤ max b 0) := by omega
      simp [hc, hd, this]
  · have : ¬ (0 ≤ b ∧ b ≤ l.length ∧ 0 ≤ a ∧ a ≤ b) := fun h => hc ⟨h.1, h.2.1⟩
    simp [hc, this]
end
end Go.Dm
