/- The machine D, 35: values held against each other. -/
import Derived.Test.YtpanpicbikihkaaDoorDSlice
set_option linter.unusedVariables false
set_option linter.unusedSimpArgs false
namespace Go.Dm
section
variable {E : Env}
def eqT (E : Env) (d : Nat) (t : TypeId) (u : Option TypeDesc) (x y : Value) : Option Bool :=
    match u, x, y with
    | some .bool, .bool a, .bool b => some (a == b)
    | some (.int _), .int k a, .int k' b => if k = k' then some (a == b) else none
    | some .string, .string a, .string b => some (a == b)
    | some (.pointer _), .pointer none, .pointer none => some true
    | some (.pointer _), .pointer none, .pointer (some _) => some false
    | some (.pointer _), .pointer (some _), .pointer none => some false
    | some (.slice _), .slice none _ _, .slice none _ _ => some true
    | some (.slice _), .slice none _ _, .slice (some _) _ _ => some false
    | some (.slice _), .slice (some _) _ _, .slice none _ _ => some false
    | some (.map _ _), .map none, .map none => some true
    | some (.map _ _), .map none, .map (some _) => some false
    | some (.map _ _), .map (some _), .map none => some false
    | some (.interface _), .nilIface, .iface _ _ => some false
    | some (.interface _), .iface _ _, .nilIface => some false
    | some (.func _ _ _), .nilFunc, .nilFunc => some true
    | some (.func _ _ _), .nilFunc, .func _ _ _ => some false
    | some (.func _ _ _), .func _ _ _, .nilFunc => some false
    | some (.struct fields), .agg xs, .agg ys => if E.eqo t then eqFieldsD E (eqD E d) xs.toList ys.toList fields.toList else none
    | some (.array len elem), .agg xs, .agg ys => match E.siz elem with
      | some n => if E.eqo t then eqElemsD E (eqD E d) elem n xs.toList ys.toList 0 len else none
      | none => none
    | _, _, _ => none
@[simp] theorem eqD_succ (d : Nat) (t : TypeId) (x y : Value) : eqD E (d + 1) t x y = eqT E d t (E.und t) x y := _root_.id rfl
@[simp] theorem eqT_bool (d : Nat) (t : TypeId) (a b : Bool) : eqT E d t (some .bool) (.bool a) (.bool b) = some (a == b) := _root_.id rfl
@[simp] theorem eqT_int (d : Nat) (t : TypeId) (k k' k'' : IntKind) (a b : Int) : eqT E d t (some (.int k)) (.int k' a) (.int k'' b) = if k' = k'' then some (decide (a = b)) else none := _root_.id rfl
@[simp] theorem eqT_str (d : Nat) (t : TypeId) (a b : List UInt8) : eqT E d t (some .string) (str a) (str b) = some (decide (a = b)) := by
  show some (a.toArray == b.toArray) = _
  congr 1
  rw [Bool.eq_iff_iff, decide_eq_true_eq, beq_iff_eq]
  simp
@[simp] theorem eqT_struct (d : Nat) (t : TypeId) (fs : Array Field) (xs ys : Array Value) : eqT E d t (some (.struct fs)) (.agg xs) (.agg ys) = if E.eqo t then eqFieldsD E (eqD E d) xs.toList ys.toList fs.toList else none := _root_.id rfl
def eqB (r : Option Bool) (k : Option Bool) : Option Bool := match r with
  | some true => k
  | r => r
@[simp] theorem eqB_some (b : Bool) (c : Bool) : eqB (some b) (some c) = some (b && c) := by cases b <;> rfl
def eqP (eq : TypeId → Value → Value → Option Bool) (t : TypeId) (x y : Option Value) (k : Option Bool) : Option Bool := match x, y with
  | some x, some y => eqB (eq t x y) k
  | _, _ => none
@[simp] theorem eqP_some (eq : TypeId → Value → Value → Option Bool) (t : TypeId) (x y : Value) (k : Option Bool) : eqP eq t (some x) (some y) k = eqB (eq t x y) k := _root_.id rfl
@[simp] theorem eqFields_nil (eq : TypeId → Value → Value → Option Bool) (xs ys : List Value) : eqFieldsD E eq xs ys [] = some true := _root_.id rfl
@[simp] theorem eqFields_cons (eq : TypeId → Value → Value → Option Bool) (xs ys : List Value) (f : Field) (fs : List Field) : eqFieldsD E eq xs ys (f :: fs) = if f.name = "_" then eqFieldsD E eq xs ys fs else eqP eq f.type (partD E f.type xs f.offset) (partD E f.type ys f.offset) (eqFieldsD E eq xs ys fs) := by
  simp only [eqFieldsD, eqP]
  by_cases h : f.name = "_"
  · simp [h]
  · simp only [h, if_false]
    cases partD E f.type xs f.offset with
    | none => rfl
    | some x =>
      cases partD E f.type ys f.offset with
      | none => rfl
      | some y =>
        cases eq f.type x y with
        | none => rfl
        | some b => cases b <;> rfl
attribute [simp] bin_eq_agg bin_neq_agg
end
end Go.Dm
