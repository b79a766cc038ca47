/- The machine D, 36: a calculus: a weaker end; what holds between two pieces of code; a call with one answer. -/
import Derived.Test.YthclahlplcfdpaaGreatDoorDEq
set_option linter.unusedVariables false
set_option linter.unusedSimpArgs false
namespace Go.Dm
section
variable {E : Env} {X : Plug}
theorem OptW.mono {o : Option (Value × H)} {K K' : VPost} (w : OptW o K) (k : ∀ v h, K v h → K' v h) : OptW o K' := let ⟨r, a, b⟩ := w; ⟨r, a, k _ _ b⟩
theorem opW_mono {o : Op} {fr : T Value} {h : H} {K K' : VPost} (w : opW E X o fr h K) (k : ∀ v h', K v h' → K' v h') : opW E X o fr h K' := by
  unfold opW at w ⊢
  split at w
  · split at w
    · exact w
    · unfold calleeW at w ⊢
      split at w
      · split at w
        · unfold callFnW at w ⊢
          split at w
          · exact w.mono k
          · exact w.mono k
          · exact w
        · exact w
      · split at w
        · split at w
          · exact w.mono k
          · exact w
        · exact w
      · exact OptW.mono w k
  · exact OptW.mono w k
theorem regW_mono {ops : Array Oper} : ∀ {l : List Oper} {fr : T Value} {h : H} {K K' : T Value → H → Prop}, regW E X ops l fr h K → (∀ fr' h', FrEq (l.filterMap (·.dst)) fr fr' → K fr' h' → K' fr' h') → regW E X ops l fr h K'
  | [], fr, h, K, K', w, k => k fr h (FrEq.refl _ _) w
  | o :: rest, fr, h, K, K', w, k => by
    have put : ∀ v, FrEq ((o :: rest).filterMap (·.dst)) fr (putD fr o.dst v) := by
      intro v t ht
      unfold putD
      cases ho : o.dst with
      | none => rfl
      | some d =>
        simp only [List.filterMap_cons, ho, List.contains_cons, Bool.or_eq_false_iff] at ht
        exact T.get_set_ne _ _ (by simpa using ht.1)
    have sub : ∀ t, t ∈ rest.filterMap (·.dst) → t ∈ (o :: rest).filterMap (·.dst) := by
      intro t ht
      rw [List.filterMap_cons]
      split
      · exact ht
      · exact List.mem_cons_of_mem _ ht
    have go : ∀ v h', regW E X ops rest (putD fr o.dst v) h' K → regW E X ops rest (putD fr o.dst v) h' K' := fun v h' q => regW_mono q fun fr' h2 f q2 => k fr' h2 ((put v).trans (f.mono sub)) q2
    unfold regW at w ⊢
    split at w
    · unfold GdW at w ⊢
      split at w
      · rename_i e; rw [if_pos e]; exact opW_mono w go
      · rename_i e; rw [if_neg e]; exact go _ _ w
    · exact w
theorem W.mono_fr {x : Code} {sk : Option Nat} {Q Q' : Post} {fr : T Value} {h : H} (w : W E X x sk Q fr h) (k : ∀ e fr' h', FrEq (wrs x) fr fr' → Q e fr' h' → Q' e fr' h') : W E X x sk Q' fr h :=
  w.frame.mono fun e fr h ⟨a, b⟩ => k e fr h a b
theorem wpd_mono {L : List Nat} : ∀ {x : Code} {sk : Option Nat} {Q Q' : Post} {fr : T Value} {h : H}, wpd E X L x sk Q fr h → (∀ e fr' h', FrEq (wrs x) fr fr' → Q e fr' h' → Q' e fr' h') → wpd E X L x sk Q' fr h := by
  intro x
  induction x with
  | skip => intro sk Q Q' fr h w k; cases sk with
    | none => exact k _ _ _ (FrEq.refl _ _) w
    | some l => exact fun hl => (w hl).mono_fr k
  | label l => intro sk Q Q' fr h w k; cases sk with
    | none => exact k _ _ _ (FrEq.refl _ _) w
    | some l => exact ⟨w.1, k _ _ _ (FrEq.refl _ _) w.2⟩
  | region i ops draw => intro sk Q Q' fr h w k; cases sk with
    | none => exact ⟨w.1, regW_mono w.2 fun fr' h' f q => k _ _ _ f q⟩
    | some l => exact fun hl => (w hl).mono_fr k
  | seq a b iha ihb =>
    intro sk Q Q' fr h w k
    have sa : ∀ t, t ∈ wrs a → t ∈ wrs (.seq a b) := fun t ht => List.mem_append_left _ ht
    have sb : ∀ t, t ∈ wrs b → t ∈ wrs (.seq a b) := fun t ht => List.mem_append_right _ ht
    cases sk with
    | none =>
      refine iha (sk := none) w fun e fr1 h1 f q => ?_
      cases e with
      | normal => exact ihb q fun e fr2 h2 f2 q2 => k _ _ _ ((f.mono sa).trans (f2.mono sb)) q2
      | _ => exact k _ _ _ (f.mono sa) q
    | some l =>
      simp only [wpd] at w ⊢
      split
      · rename_i e
        rw [if_pos e] at w
        refine iha (sk := some l) w fun e fr1 h1 f q => ?_
        cases e with
        | normal => exact ihb q fun e fr2 h2 f2 q2 => k _ _ _ ((f.mono sa).trans (f2.mono sb)) q2
        | _ => exact k _ _ _ (f.mono sa) q
      · rename_i e
        rw [if_neg e] at w
        exact ihb w fun e fr2 h2 f2 q2 => k _ _ _ (f2.mono sb) q2
  | cond c a b iha ihb =>
    intro sk Q Q' fr h w k
    have sa : ∀ t, t ∈ wrs a → t ∈ wrs (.cond c a b) := fun t ht => List.mem_append_left _ ht
    have sb : ∀ t, t ∈ wrs b → t ∈ wrs (.cond c a b) := fun t ht => List.mem_append_right _ ht
    cases sk with
    | some l => exact fun hl => (w hl).mono_fr k
    | none =>
      simp only [wpd] at w ⊢
      split
      · rename_i t e
        rw [e] at w
        cases t with
        | true => exact iha (sk := none) w fun e fr1 h1 f q => k _ _ _ (f.mono sa) q
        | false => exact ihb (sk := none) w fun e fr1 h1 f q => k _ _ _ (f.mono sb) q
      · rename_i e
        split at w
        · rename_i t e2; exact absurd e2 (e t)
        · exact w
  | block id c ih =>
    intro sk Q Q' fr h w k
    cases sk with
    | some l => exact fun hl => (w hl).mono_fr k
    | none =>
      refine ih (sk := none) w fun e fr1 h1 f q => ?_
      cases e with
      | exit i =>
        simp only [blockPost] at q ⊢
        split
        · rename_i e; rw [if_pos e] at q; exact k _ _ _ f q
        · rename_i e; rw [if_neg e] at q; exact k _ _ _ f q
      | _ => exact k _ _ _ f q
  | exit id => intro sk Q Q' fr h w k; cases sk with
    | none => exact k _ _ _ (FrEq.refl _ _) w
    | some l => exact fun hl => (w hl).mono_fr k
  | goto l => intro sk Q Q' fr h w k; cases sk with
    | none => exact k _ _ _ (FrEq.refl _ _) w
    | some l => exact fun hl => (w hl).mono_fr k
  | ret => intro sk Q Q' fr h w k; cases sk with
    | none => exact k _ _ _ (FrEq.refl _ _) w
    | some l => exact fun hl => (w hl).mono_fr k
  | _ => intro sk Q Q' fr h w k; cases sk <;> exact fun hl => (w hl).mono_fr k
/-- What holds where a branch ends as usual. -/
def midPost (M : T Value → H → Prop) (Q : Post) : Post := fun e fr h => match e with
  | .normal => M fr h
  | e => Q e fr h
section
variable {M : T Value → H → Prop} {Q : Post} {fr : T Value} {h : H}
@[simp] theorem midPost_normal : midPost M Q .normal fr h = M fr h := _root_.id rfl
@[simp] theorem midPost_exit (i : Nat) : midPost M Q (.exit i) fr h = Q (.exit i) fr h := _root_.id rfl
@[simp] theorem midPost_goto (i : Nat) : midPost M Q (.goto i) fr h = Q (.goto i) fr h := _root_.id rfl
@[simp] theorem midPost_ret : midPost M Q .ret fr h = Q .ret fr h := _root_.id rfl
theorem wpd_mid (M : T Value → H → Prop) {L : List Nat} {a : Code} (w : wpd E X L a none (midPost M Q) fr h) (k : ∀ fr' h', FrEq (wrs a) fr fr' → M fr' h' → Q .normal fr' h') : wpd E X L a none Q fr h :=
  wpd_mono w fun e fr' h' f q => by cases e with
    | normal => exact k _ _ f q
    | _ => exact q
/-- What holds between two pieces. -/
theorem wpd_cut (M : T Value → H → Prop) {L : List Nat} {a b : Code} (w : wpd E X L a none (midPost M Q) fr h) (k : ∀ fr' h', FrEq (wrs a) fr fr' → M fr' h' → wpd E X L b none Q fr' h') : wpd E X L (.seq a b) none Q fr h :=
  wpd_mid (Q := seqPost E X L b Q) M (wpd_mono w fun e fr' h' _ q => by cases e <;> exact q) k
/-- Both branches come to the same. -/
theorem BrC.join (M : T Value → H → Prop) {L : List Nat} {t : Bool} {a b : Code} (w : BrC E X L t a b (midPost M Q) fr h) (k : ∀ fr' h', FrEq (wrs a ++ wrs b) fr fr' → M fr' h' → Q .normal fr' h') : BrC E X L t a b Q fr h := by
  cases t with
  | true => exact wpd_mid M w fun fr' h' f q => k _ _ (f.mono fun t ht => List.mem_append_left _ ht) q
  | false => exact wpd_mid M w fun fr' h' f q => k _ _ (f.mono fun t ht => List.mem_append_right _ ht) q
end
/-- A call has one answer. -/
theorem CallW.det {tg : Tg} {args : List Value} {h h' : H} {v : Value} (c : CallW E X tg args h fun r g => r = v ∧ g = h') (K : VPost) : CallW E X tg args h K = K v h' := by
  obtain ⟨v0, h0, ⟨n0, e0⟩, rfl, rfl⟩ := c
  refine propext ⟨?_, fun k => ⟨_, _, ⟨n0, e0⟩, k⟩⟩
  rintro ⟨v1, h1, ⟨n1, e1⟩, k⟩
  have a := e0 (n0 + n1) (by omega)
  have b := e1 (n0 + n1) (by omega)
  simp only at a b
  rw [a] at b
  cases b
  exact k
theorem binE_bool (t : TypeId) (x y : Operand) (a b : Bool) : binD E .eql t x y (.bool a) (.bool b) = (eqD E 10000 t (.bool a) (.bool b)).map .bool := rfl
theorem binN_bool (t : TypeId) (x y : Operand) (a b : Bool) : binD E .neq t x y (.bool a) (.bool b) = (eqD E 10000 t (.bool a) (.bool b)).map fun r => .bool !r := rfl
attribute [simp] binE_bool binN_bool
/-! maps -/
def ckT (E : Env) (d : Nat) (u : Option TypeDesc) (v : Value) : Bool := match u, v with
  | some (.interface _), _ => false
  | some (.array _ _), _ => false
  | some (.struct fields), .agg cs => chkFieldsD E (chkKeyD E d) cs.toList fields.toList
  | some (.struct _), _ => false
  | some _, _ => true
  | none, _ => false
@[simp] theorem chkKey_succ (d : Nat) (t : TypeId) (v : Value) : chkKeyD E (d + 1) t v = ckT E d (E.und t) v := _root_.id rfl
@[simp] theorem ckT_int (d : Nat) (k : IntKind) (v : Value) : ckT E d (some (.int k)) v = true := _root_.id rfl
@[simp] theorem ckT_str (d : Nat) (v : Value) : ckT E d (some .string) v = true := _root_.id rfl
@[simp] theorem plainV_int (k : IntKind) (n : Int) : plainV (.int k n) = true := _root_.id rfl
@[simp] theorem plainV_str (l : List UInt8) : plainV (str l) = true := _root_.id rfl
def fdB (r : Option Bool) (e : MapEntry) (i : Nat) (k : Option (Option (Nat × MapEntry))) : Option (Option (Nat × MapEntry)) := match r with
  | some true => some (some (i, e))
  | some false => k
  | none => none
@[simp] theorem findD_nil (t : TypeId) (k : Value) (i : Nat) : findD E t k [] i = some none := _root_.id rfl
@[simp] theorem findD_cons (t : TypeId) (k : Value) (e : MapEntry) (es : List MapEntry) (i : Nat) : findD E t k (e :: es) i = fdB (eqD E 10000 t k e.key) e i (findD E t k es (i + 1)) := _root_.id rfl
@[simp] theorem fdB_true (e : MapEntry) (i : Nat) (k : Option (Option (Nat × MapEntry))) : fdB (some true) e i k = some (some (i, e)) := _root_.id rfl
@[simp] theorem fdB_false (e : MapEntry) (i : Nat) (k : Option (Option (Nat × MapEntry))) : fdB (some false) e i k = k := _root_.id rfl
def mpN (r : Nat) (k v : Value) (h : H) (es : List MapEntry) (clock : Nat) (f : Option (Option (Nat × MapEntry))) : Option H := match f with
  | some (some (i, e)) => if Instr.sameBits 10000 e.key k then some (h.put r (.map (es.set i { e with key := k, val := v }) clock)) else none
  | some none => some (h.put r (.map (es ++ [{ key := k, val := v, born := clock }]) (clock + 1)))
  | none => none
@[simp] theorem mpN_none (r : Nat) (k v : Value) (h : H) (es : List MapEntry) (clock : Nat) : mpN r k v h es clock (some none) = some (h.put r (.map (es ++ [{ key := k, val := v, born := clock }]) (clock + 1))) := _root_.id rfl
def mpT (E : Env) (d : Option TypeDesc) (r : Nat) (k v : Value) (h : H) (x : Option DObj) : Option H := match d, x with
  | some (.map kt _), some (.map es clock) => if chkKeyD E 10000 kt k && plainV k then mpN r k v h es clock (findD E kt k es 0) else none
  | _, _ => none
@[simp] theorem mapPutD_eq (t : TypeId) (r : Nat) (k v : Value) (h : H) : mapPutD E t (.map (some r)) k v h = mpT E (E.und t) r k v h (h.get r) := by
  unfold mapPutD mpT
  generalize E.und t = d
  cases d with
  | none => rfl
  | some d =>
    cases d with
    | map kt et =>
      simp only
      cases h.get r with
      | none => rfl
      | some o =>
        cases o with
        | map es clock =>
          simp only
          split
          · unfold mpN; split <;> simp_all
          · rfl
        | _ => rfl
    | _ => rfl
@[simp] theorem mpT_map (kt et : TypeId) (r : Nat) (k v : Value) (h : H) (es : List MapEntry) (clock : Nat) : mpT E (some (.map kt et)) r k v h (some (.map es clock)) = if chkKeyD E 10000 kt k && plainV k then mpN r k v h es clock (findD E kt k es 0) else none := _root_.id rfl
def luN (ok : Bool) (z : Option Value) (f : Option (Option (Nat × MapEntry))) : Option Value := match f, z with
  | some (some (_, e)), _ => some (if ok then .tuple #[e.val, .bool true] else e.val)
  | some none, some z => some (if ok then .tuple #[z, .bool false] else z)
  | _, _ => none
@[simp] theorem luN_some (ok : Bool) (z : Option Value) (i : Nat) (e : MapEntry) : luN ok z (some (some (i, e))) = some (if ok then .tuple #[e.val, .bool true] else e.val) := _root_.id rfl
@[simp] theorem luN_none (ok : Bool) (z : Value) : luN ok (some z) (some none) = some (if ok then .tuple #[z, .bool false] else z) := _root_.id rfl
def luT (E : Env) (d : Option TypeDesc) (k : Value) (ok : Bool) (x : Option DObj) : Option Value := match d, x with
  | some (.map kt et), some (.map es _) => if chkKeyD E 10000 kt k && plainV k then luN ok (zeroD E et) (findD E kt k es 0) else none
  | _, _ => none
@[simp] theorem lookupD_eq (t : TypeId) (r : Nat) (k : Value) (ok : Bool) (h : H) : lookupD E t (.map (some r)) k ok h = luT E (E.und t) k ok (h.get r) := by
  unfold lookupD luT
  generalize E.und t = d
  cases d with
  | none => rfl
  | some d =>
    cases d with
    | map kt et =>
      simp only
      cases h.get r with
      | none => rfl
      | some o =>
        cases o with
        | map es clock =>
          simp only
          split
          · unfold luN; split <;> simp_all
          · rfl
        | _ => rfl
    | _ => rfl
@[simp] theorem luT_map (kt et : TypeId) (k : Value) (ok : Bool) (es : List MapEntry) (clock : Nat) : luT E (some (.map kt et)) k ok (some (.map es clock)) = if chkKeyD E 10000 kt k && plainV k then luN ok (zeroD E et) (findD E kt k es 0) else none := _root_.id rfl
end
end Go.Dm
