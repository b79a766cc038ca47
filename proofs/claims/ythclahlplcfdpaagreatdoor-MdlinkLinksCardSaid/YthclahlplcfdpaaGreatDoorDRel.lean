/- The machine D, 1: a trie over numbers. -/
import Derived.RangeFuncLeaves
import Derived.KernelRfl
import Derived.Laws.World
set_option linter.unusedVariables false
set_option linter.unusedSimpArgs false
namespace Go.Dm

/-- A map from numbers, that the kernel can reckon with. -/
inductive T (α : Type) where
  | leaf
  | node (l : T α) (v : Option α) (r : T α)

namespace T
variable {α : Type}
def get : T α → Nat → Option α
  | .leaf, _ => none
  | .node _ v _, 0 => v
  | .node l _ r, n + 1 => bif Nat.beq (n % 2) 0 then l.get (n / 2) else r.get (n / 2)
def lft : T α → T α
  | .leaf => .leaf
  | .node l _ _ => l
def rgt : T α → T α
  | .leaf => .leaf
  | .node _ _ r => r
def val : T α → Option α
  | .leaf => none
  | .node _ v _ => v
def setF : Nat → T α → Nat → Option α → T α
  | 0, t, _, _ => t
  | _ + 1, t, 0, x => .node t.lft x t.rgt
  | f + 1, t, n + 1, x => bif Nat.beq (n % 2) 0 then .node (setF f t.lft (n / 2) x) t.val t.rgt else .node t.lft t.val (setF f t.rgt (n / 2) x)
def set (t : T α) (n : Nat) (x : Option α) : T α := setF (n + 1) t n x

@[simp] theorem get_leaf (n : Nat) : (leaf : T α).get n = none := by cases n <;> rfl
theorem get_lft (t : T α) (n : Nat) : t.lft.get n = t.get (2 * n + 1) := by
  cases t with
  | leaf => simp [lft]
  | node l v r =>
    have h1 : (2 * n) % 2 = 0 := by omega
    have h2 : (2 * n) / 2 = n := by omega
    simp [lft, get, h1, h2]
theorem beq_ev {n : Nat} (h : n % 2 = 0) : Nat.beq (n % 2) 0 = true := by rw [h]; rfl
theorem beq_od {n : Nat} (h : n % 2 = 1) : Nat.beq (n % 2) 0 = false := by rw [h]; rfl
theorem get_rgt (t : T α) (n : Nat) : t.rgt.get n = t.get (2 * n + 2) := by
  cases t with
  | leaf => simp [rgt]
  | node l v r =>
    have h1 : Nat.beq ((2 * n + 1) % 2) 0 = false := beq_od (by omega)
    have h2 : (2 * n + 1) / 2 = n := by omega
    simp only [rgt, get, h1, h2, cond_false]
theorem get_val (t : T α) : t.val = t.get 0 := by cases t <;> rfl
theorem get_setF (f : Nat) : ∀ (t : T α) (n : Nat) (x : Option α) (m : Nat), n < f → (setF f t n x).get m = if m = n then x else t.get m := by
  induction f with
  | zero => intro t n x m h; omega
  | succ f ih =>
    intro t n x m h
    cases n with
    | zero =>
      cases m with
      | zero => simp [setF, get]
      | succ m =>
        rcases Nat.mod_two_eq_zero_or_one m with hm | hm
        · simp only [setF, get, beq_ev hm, cond_true, get_lft]
          rw [if_neg (by omega), show 2 * (m / 2) + 1 = m + 1 by omega]
        · simp only [setF, get, beq_od hm, cond_false, get_rgt]
          rw [if_neg (by omega), show 2 * (m / 2) + 2 = m + 1 by omega]
    | succ n =>
      rcases Nat.mod_two_eq_zero_or_one n with hn | hn
      · simp only [setF, beq_ev hn, cond_true]
        cases m with
        | zero => simp [get, get_val]
        | succ m =>
          rcases Nat.mod_two_eq_zero_or_one m with hm | hm
          · simp only [get, beq_ev hm, cond_true]
            rw [ih _ _ _ _ (by omega), get_lft]
            by_cases e : m / 2 = n / 2
            · rw [if_pos e, if_pos (by omega)]
            · rw [if_neg e, if_neg (by omega), show 2 * (m / 2) + 1 = m + 1 by omega]
          · simp only [get, beq_od hm, cond_false, get_rgt]
            rw [if_neg (by omega), show 2 * (m / 2) + 2 = m + 1 by omega]
      · simp only [setF, beq_od hn, cond_false]
        cases m with
        | zero => simp [get, get_val]
        | succ m =>
          rcases Nat.mod_two_eq_zero_or_one m with hm | hm
          · simp only [get, beq_ev hm, cond_true, get_lft]
            rw [if_neg (by omega), show 2 * (m / 2) + 1 = m + 1 by omega]
          · simp only [get, beq_od hm, cond_false]
            rw [ih _ _ _ _ (by omega), get_rgt]
            by_cases e : m / 2 = n / 2
            · rw [if_pos e, if_pos (by omega)]
            · rw [if_neg e, if_neg (by omega), show 2 * (m / 2) + 2 = m + 1 by omega]
theorem get_set (t : T α) (n : Nat) (x : Option α) (m : Nat) : (t.set n x).get m = if m = n then x else t.get m :=
  get_setF _ t n x m (Nat.lt_succ_self n)
@[simp] theorem get_set_self (t : T α) (n : Nat) (x : Option α) : (t.set n x).get n = x := by rw [get_set, if_pos rfl]
theorem get_set_ne (t : T α) {n m : Nat} (x : Option α) (h : m ≠ n) : (t.set n x).get m = t.get m := by rw [get_set, if_neg h]
end T

end Go.Dm

set_option linter.unusedVariables false
set_option linter.unusedSimpArgs false
namespace Go.Dm

/-- What a program tells of types and functions. -/
structure Env where
  ty : TypeId → Option TypeInfo
  fn : FuncId → Option Func
  eqo : TypeId → Bool      -- struct types whose values may be held against each other
  mark : TypeId → Bool := fun _ => false     -- types of which a block's cells are known to be
def Env.und (E : Env) (t : TypeId) : Option TypeDesc :=
  match E.ty t with
  | some { desc := .named _ u, .. } => (E.ty u).map (·.desc)
  | some i => some i.desc
  | none => none
def Env.siz (E : Env) (t : TypeId) : Option Nat := (E.ty t).map (·.size)

/-! ### Memory -/
structure Lp where
  state : LoopState
  pending : Option Code
  fr : T Value
  params : List Tmp
  assign : Code
  body : Code

inductive DObj where
  | cells (c : List Value) (stride : Nat) (own : Bool) (fz : Nat) (ty : Option TypeId)
  | map (es : List MapEntry) (clock : Nat)
  | siter (s : ByteArray) (pos : Nat)
  | loop (l : Lp)
/-- May it be written? -/
def DObj.mut : DObj → Bool
  | .cells _ _ own _ _ => own
  | _ => true

/-- 'one': places bespoken; a new block comes to lie at the first, or at 'next' if there is none. -/
structure H where
  next : Nat
  objs : T DObj
  one : List Nat := []
def H.addr (h : H) : Nat := match h.one with
  | a :: _ => a
  | [] => h.next
/-- No place is bespoken. -/
def H.clr (h : H) : H := { h with one := [] }
def H.get (h : H) (b : Nat) : Option DObj := h.objs.get b
def H.put (h : H) (b : Nat) (o : DObj) : H := { h with objs := h.objs.set b (some o) }
def H.drop (h : H) (b : Nat) : H := { h with objs := h.objs.set b none }
def H.new (h : H) (o : DObj) : H := match h.one with
  | a :: r => { next := h.next, objs := h.objs.set a (some o), one := r.filter (· != a) }
  | [] => { next := h.next + 1, objs := h.objs.set h.next (some o), one := [] }
theorem H.get_put (h : H) (b : Nat) (o : DObj) (c : Nat) : (h.put b o).get c = if c = b then some o else h.get c := T.get_set ..
theorem H.get_drop (h : H) (b c : Nat) : (h.drop b).get c = if c = b then none else h.get c := T.get_set ..
theorem H.get_new (h : H) (o : DObj) (c : Nat) : (h.new o).get c = if c = h.addr then some o else h.get c := by
  unfold H.new H.addr
  split <;> exact T.get_set ..
theorem H.one_new {h : H} {o : DObj} {a : Nat} (ha : a ∈ (h.new o).one) : a ∈ h.one ∧ a ≠ h.addr := by
  unfold H.new at ha
  split at ha
  · rename_i c r e
    simp only [List.mem_filter, bne_iff_ne, ne_eq] at ha
    simp only [H.addr, e]
    exact ⟨List.mem_cons_of_mem _ ha.1, ha.2⟩
  · cases ha
theorem H.next_new (h : H) (o : DObj) : h.next ≤ (h.new o).next := by
  unfold H.new
  split
  · exact Nat.le_refl _
  · exact Nat.le_succ _
theorem H.lt_new (h : H) (o : DObj) (hone : ∀ a ∈ h.one, a < h.next) : h.addr < (h.new o).next := by
  unfold H.new H.addr
  split
  · rename_i a r e; exact hone a (by rw [e]; exact List.mem_cons_self ..)
  · exact Nat.lt_succ_self _

/-! ### Values -/
def plain0 : Value → Bool
  | .bool _ | .int .. | .float .. | .complex .. | .string _ | .nilFunc | .nilIface => true
  | .pointer none | .map none | .chan none => true
  | .slice none n c => n == 0 && c == 0
  | _ => false
def plain1 : Value → Bool
  | .iface _ v => plain0 v
  | v => plain0 v
def plainV : Value → Bool
  | .agg cs => cs.toList.all plain1
  | .tuple cs => cs.toList.all plain1
  | v => plain1 v
/-- May it lie in one cell? -/
def cellV : Value → Bool
  | .agg _ | .tuple _ => false
  | _ => true

/-- A list with values stored from a place on. -/
def setAt : List Value → Nat → List Value → List Value
  | c, _, [] => c
  | c, o, v :: vs => setAt (c.set o v) (o + 1) vs

/-- An aggregate's size; 'some none': no aggregate. -/
def aggN (E : Env) (t : TypeId) : Option (Option Nat) :=
  match E.und t with
  | some (.struct _) | some (.array _ _) => (E.siz t).map some
  | some _ => some none
  | none => none

def partD (E : Env) (t : TypeId) (cs : List Value) (off : Nat) : Option Value :=
  match aggN E t with
  | some (some n) => if off + n ≤ cs.length then some (.agg ((cs.drop off).take n).toArray) else none
  | some none => cs[off]?
  | none => none

def ldAt (E : Env) (t : TypeId) (b o : Nat) (h : H) : Option Value :=
  match h.get b with
  | some (.cells c _ _ _ _) => partD E t c o
  | _ => none
def ld (E : Env) (t : TypeId) (a : Value) (h : H) : Option Value :=
  match a with
  | .pointer (some ⟨b, o, none⟩) => ldAt E t b o h
  | _ => none
def stCells (b o : Nat) (vs : List Value) (h : H) : Option H :=
  match h.get b with
  | some (.cells c s true fz ty) => if o + vs.length ≤ c.length && fz ≤ o && vs.all cellV then some (h.put b (.cells (setAt c o vs) s true fz ty)) else none
  | _ => none
def stAt (E : Env) (t : TypeId) (b o : Nat) (v : Value) (h : H) : Option H :=
  match E.siz t with
  | some n => if v.cells.size = n then stCells b o v.cells.toList h else none
  | none => none
def st (E : Env) (t : TypeId) (a v : Value) (h : H) : Option H :=
  match a with
  | .pointer (some ⟨b, o, none⟩) => stAt E t b o v h
  | _ => none
def zeroD (E : Env) (t : TypeId) : Option Value :=
  match E.ty t with
  | some i => match i.zero with
    | some z => if plainV z then some z else none
    | none => none
  | none => none
def newD (stride : Nat) (ty : Option TypeId) (cs : List Value) (h : H) : Value × H := (.pointer (some ⟨h.addr, 0, none⟩), h.new (.cells cs stride true 0 ty))
/-- A marked type, told. -/
def Env.tag (E : Env) (t : TypeId) : Option TypeId := if E.mark t then some t else none
theorem Env.tag_eq (E : Env) (t : TypeId) : ∀ u, E.tag t = some u → t = u := by
  intro u h
  unfold Env.tag at h
  split at h
  · exact Option.some.inj h
  · cases h

def fillD (place : Nat → Option (Nat × Nat)) (cells : List Value) : List (Nat × Value) → Option (List Value)
  | [] => some cells
  | (i, v) :: rest =>
    match place i with
    | none => none
    | some (off, size) => if v.cells.size = size && off + v.cells.size ≤ cells.length then fillD place (setAt cells off v.cells.toList) rest else none
def placesD (E : Env) : List Field → Option (List (Nat × Nat))
  | [] => some []
  | f :: fs => match E.siz f.type, placesD E fs with
    | some n, some r => some ((f.offset, n) :: r)
    | _, _ => none
def buildD (E : Env) (t : TypeId) (parts : List (Nat × Value)) : Option Value :=
  match zeroD E t, E.und t with
  | some z, some (.struct fields) => match placesD E fields.toList with
    | some pl => match fillD (pl[·]?) z.cells.toList parts with
      | some cs => some (.agg cs.toArray)
      | none => none
    | none => none
  | some z, some (.array _ elem) => match E.siz elem with
    | some n => match fillD (fun i => some (i * n, n)) z.cells.toList parts with
      | some cs => some (.agg cs.toArray)
      | none => none
    | none => none
  | _, _ => none
/-- So many zero cells: a zero value's, again and again. -/
def zerosD (z : List Value) (n : Nat) : List Value := (List.range n).map fun i => z.getD (i % z.length) undef
def buildSliceD (E : Env) (t : TypeId) (len : Nat) (parts : List (Nat × Value)) (h : H) : Option (Value × H) :=
  match E.und t with
  | some (.slice elem) => match E.siz elem, zeroD E elem with
    | some n, some z => if len * n ≤ 2 ^ 24 && z.cells.size == n && 0 < n then
        match fillD (fun i => some (i * n, n)) (zerosD z.cells.toList (len * n)) parts with
        | some cs => some (.slice (some ⟨h.addr, 0, none⟩) len len, h.new (.cells cs n true 0 none))
        | none => none
      else none
    | _, _ => none
  | _ => none
def makeSliceD (E : Env) (t : TypeId) (len cap : Value) (h : H) : Option (Value × H) :=
  match E.und t, len, cap with
  | some (.slice elem), .int _ l, .int _ c => match E.ty elem, zeroD E elem with
    | some i, some z => if 0 ≤ l && l ≤ c && (i.bytes : Int) * c ≤ 2 ^ 47 && c ≤ 2 ^ 47 && z.cells.size == i.size && 0 < i.size then
        some (.slice (some ⟨h.addr, 0, none⟩) l.toNat c.toNat, h.new (.cells (zerosD z.cells.toList (c.toNat * i.size)) i.size true 0 none))
      else none
    | _, _ => none
  | _, _, _ => none

def fieldD (E : Env) (xType : TypeId) (x : Value) (field : Nat) : Option Value :=
  match E.und xType, x with
  | some (.struct fields), .agg cs => match fields[field]? with
    | some f => partD E f.type cs.toList f.offset
    | none => none
  | _, _ => none
def indexD (E : Env) (xType : TypeId) (x index : Value) : Option Value :=
  match E.und xType, x, index with
  | some (.array len elem), .agg cs, .int _ i => if 0 ≤ i && i < (len : Int) then match E.siz elem with
      | some n => partD E elem cs.toList (i.toNat * n)
      | none => none
    else none
  | some .string, .string s, .int _ i => if 0 ≤ i then match s.data.toList[i.toNat]? with
      | some b => some (.int .u8 b.toNat)
      | none => none
    else none
  | _, _, _ => none
def extractD (v : Value) (i : Nat) : Option Value :=
  match v with
  | .tuple vs => vs.toList[i]?
  | _ => none
def fieldAddrD (E : Env) (s : TypeId) (a : Value) (field : Nat) : Option Value :=
  match E.und s, a with
  | some (.struct fields), .pointer (some ⟨b, o, none⟩) => match fields[field]? with
    | some f => match E.siz f.type with
      | some n => if n = 0 then none else some (.pointer (some ⟨b, o + f.offset, none⟩))
      | none => none
    | none => none
  | _, _ => none
def indexAddrD (E : Env) (t : TypeId) (x index : Value) : Option Value :=
  match E.und t, x, index with
  | some (.array len elem), .pointer (some ⟨b, o, none⟩), .int _ i => if 0 ≤ i && i < (len : Int) then match E.siz elem with
      | some n => some (.pointer (some ⟨b, o + i.toNat * n, none⟩))
      | none => none
    else none
  | some (.slice elem), .slice (some ⟨b, o, none⟩) len _, .int _ i => if 0 ≤ i && i < (len : Int) then match E.siz elem with
      | some n => some (.pointer (some ⟨b, o + i.toNat * n, none⟩))
      | none => none
    else none
  | _, _, _ => none
/-- A cut's bounds: low, high, max. -/
def boundsD (len cap : Nat) (low high max : Option Value) : Option (Nat × Nat × Nat) :=
  let m := match max with
    | none => some cap
    | some (.int _ i) => if 0 ≤ i && i ≤ (cap : Int) then some i.toNat else none
    | some _ => none
  match m with
  | none => none
  | some m =>
    let hi := match high with
      | none => if max.isSome then none else some len
      | some (.int _ i) => if 0 ≤ i && i ≤ (m : Int) then some i.toNat else none
      | some _ => none
    match hi with
    | none => none
    | some hi => match low with
      | none => some (0, hi, m)
      | some (.int _ i) => if 0 ≤ i && i ≤ (hi : Int) then some (i.toNat, hi, m) else none
      | some _ => none
def sliceD (E : Env) (t : TypeId) (x : Value) (low high max : Option Value) (h : H) : Option Value :=
  match E.und t, x with
  | some .string, .string s => if max.isSome then none else match boundsD s.size s.size low high none with
    | some (l, hi, _) => some (.string (s.extract l hi))
    | none => none
  | some (.array n elem), .pointer (some ⟨b, o, none⟩) => match boundsD n n low high max, E.siz elem with
    | some (l, hi, m), some sz => some (.slice (some ⟨b, if m = l then o else o + l * sz, none⟩) (hi - l) (m - l))
    | _, _ => none
  | some (.slice elem), .slice (some ⟨b, o, none⟩) len cap => match boundsD len cap low high max, E.siz elem, h.get b with
    | some (l, hi, m), some sz, some (.cells _ s _ _ _) => if s == 0 || s == sz then some (.slice (some ⟨b, o + l * sz, none⟩) (hi - l) (m - l)) else none
    | _, _, _ => none
  | some (.slice elem), .slice none 0 0 => match boundsD 0 0 low high max, E.siz elem with
    | some _, some _ => some (.slice none 0 0)
    | _, _ => none
  | _, _ => none
def nilCheckD : Value → Option Value
  | .pointer (some a) => some (.pointer (some a))
  | .func (.func f) a b => some (.func (.func f) a b)
  | .iface t v => some (.iface t v)
  | .slice a n c => some (.slice a n c)
  | .map (some r) => some (.map (some r))
  | _ => none

/-! ### Arithmetic -/
def cmpD (op : BinOp) (x y : Int) : Option Value :=
  match op with
  | .eql => some (.bool (x == y))
  | .neq => some (.bool (x != y))
  | .lss => some (.bool (decide (x < y)))
  | .leq => some (.bool (decide (x ≤ y)))
  | .gtr => some (.bool (decide (x > y)))
  | .geq => some (.bool (decide (x ≥ y)))
  | _ => none
def bitsD (op : BinOp) (k : IntKind) (x y : Int) : Option Value :=
  match op with
  | .and => some (.int k (k.wrap (BitVec.ofInt k.bits x &&& BitVec.ofInt k.bits y).toNat))
  | .or => some (.int k (k.wrap (BitVec.ofInt k.bits x ||| BitVec.ofInt k.bits y).toNat))
  | .xor => some (.int k (k.wrap (BitVec.ofInt k.bits x ^^^ BitVec.ofInt k.bits y).toNat))
  | .andNot => some (.int k (k.wrap (BitVec.ofInt k.bits x &&& ~~~BitVec.ofInt k.bits y).toNat))
  | _ => none
def intD (op : BinOp) (k : IntKind) (x y : Int) : Option Value :=
  match op with
  | .add => some (.int k (k.wrap (x + y)))
  | .sub => some (.int k (k.wrap (x - y)))
  | .mul => some (.int k (k.wrap (x * y)))
  | .quo => if y = 0 then none else some (.int k (k.wrap (x.tdiv y)))
  | .rem => if y = 0 then none else some (.int k (x.tmod y))
  | .and | .or | .xor | .andNot => bitsD op k x y
  | _ => cmpD op x y
def shiftD (op : BinOp) (k : IntKind) (x y : Int) : Option Value :=
  if y < 0 then none else match op with
  | .shl => some (.int k (k.wrap (x * 2 ^ min y.toNat k.bits)))
  | .shr => some (.int k (x.fdiv (2 ^ min y.toNat k.bits)))
  | _ => none
def strD (op : BinOp) (x y : ByteArray) : Option Value :=
  match op with
  | .add => if x.size + y.size ≤ 2 ^ 62 then some (.string (x ++ y)) else none
  | .eql => some (.bool (x.toList == y.toList))
  | .neq => some (.bool !(x.toList == y.toList))
  | .lss => some (.bool (Op.bytesLess x.toList y.toList))
  | .leq => some (.bool (Op.bytesLess x.toList y.toList || x.toList == y.toList))
  | .gtr => some (.bool !(Op.bytesLess x.toList y.toList || x.toList == y.toList))
  | .geq => some (.bool !Op.bytesLess x.toList y.toList)
  | _ => none
/-- Are two values of one type the same? -/
def eqFieldsD (E : Env) (eq : TypeId → Value → Value → Option Bool) (xs ys : List Value) : List Field → Option Bool
  | [] => some true
  | f :: fs => if f.name = "_" then eqFieldsD E eq xs ys fs else
    match partD E f.type xs f.offset, partD E f.type ys f.offset with
    | some x, some y => match eq f.type x y with
      | some true => eqFieldsD E eq xs ys fs
      | r => r
    | _, _ => none
def eqElemsD (E : Env) (eq : TypeId → Value → Value → Option Bool) (elem : TypeId) (n : Nat) (xs ys : List Value) : Nat → Nat → Option Bool
  | _, 0 => some true
  | i, k + 1 => match partD E elem xs (i * n), partD E elem ys (i * n) with
    | some x, some y => match eq elem x y with
      | some true => eqElemsD E eq elem n xs ys (i + 1) k
      | r => r
    | _, _ => none
def eqD (E : Env) : Nat → TypeId → Value → Value → Option Bool
  | 0, _, _, _ => none
  | d + 1, t, x, y =>
    match E.und t, x, y with
    | some .bool, .bool a, .bool b => some (a == b)
    | some (.int _), .int k a, .int k' b => if k = k' then some (a == b) else none
    | some .string, .string a, .string b => some (a == b)
    | some (.pointer _), .pointer none, .pointer none => some true
    | some (.pointer _), .pointer none, .pointer (some _) => some false
    | some (.pointer _), .pointer (some _), .pointer none => some false
    | some (.slice _), .slice none _ _, .slice none _ _ => some true
    | some (.slice _), .slice none _ _, .slice (some _) _ _ => some false
    | some (.slice _), .slice (some _) _ _, .slice none _ _ => some false
    | some (.map _ _), .map none, .map none => some true
    | some (.map _ _), .map none, .map (some _) => some false
    | some (.map _ _), .map (some _), .map none => some false
    | some (.interface _), .nilIface, .iface _ _ => some false
    | some (.interface _), .iface _ _, .nilIface => some false
    | some (.func _ _ _), .nilFunc, .nilFunc => some true
    | some (.func _ _ _), .nilFunc, .func _ _ _ => some false
    | some (.func _ _ _), .func _ _ _, .nilFunc => some false
    | some (.struct fields), .agg xs, .agg ys => if E.eqo t then eqFieldsD E (eqD E d) xs.toList ys.toList fields.toList else none
    | some (.array len elem), .agg xs, .agg ys => match E.siz elem with
      | some n => if E.eqo t then eqElemsD E (eqD E d) elem n xs.toList ys.toList 0 len else none
      | none => none
    | _, _, _ => none
def isC : Operand → Bool
  | .const _ => true
  | _ => false
def eqTopD (E : Env) (t : TypeId) (x y : Operand) (a b : Value) : Option Bool :=
  match a, b with
  | .nilIface, .nilIface => if isC x || isC y then match E.und t with
      | some (.interface _) => some true
      | _ => none
    else none
  | a, b => eqD E 10000 t a b
def binD (E : Env) (op : BinOp) (t : TypeId) (x y : Operand) (a b : Value) : Option Value :=
  match op, a, b with
  | .shl, .int k a, .int _ b => shiftD .shl k a b
  | .shr, .int k a, .int _ b => shiftD .shr k a b
  | op, .int k a, .int k' b => if k = k' then intD op k a b else none
  | op, .string a, .string b => strD op a b
  | .eql, a, b => (eqTopD E t x y a b).map .bool
  | .neq, a, b => (eqTopD E t x y a b).map fun r => .bool !r
  | _, _, _ => none
/-- Nil, written out. -/
def isNil : Operand → Bool
  | .const (.pointer none) => true
  | _ => false
/-- A block that no string shares. -/
def wholeD (x : Option DObj) : Bool := match x with
  | some (.cells _ _ true 0 (some _)) => true
  | _ => false
def ptrEq (p q : Addr) (h : H) : Option Bool :=
  if p.spot.isNone && q.spot.isNone then
    if p.block = q.block then some (decide (p.off = q.off)) else if wholeD (h.get p.block) && wholeD (h.get q.block) then some false else none
  else none
def ptrB (E : Env) (t : TypeId) (p q : Addr) (h : H) : Option Bool := match E.und t with
  | some (.pointer e) => match E.siz e with
    | some n => if n = 0 then none else ptrEq p q h
    | none => none
  | _ => none
def binHD (E : Env) (op : BinOp) (t : TypeId) (x y : Operand) (a b : Value) (h : H) : Option Value := match op, a, b with
  | .eql, .pointer (some p), .pointer (some q) => (ptrB E t p q h).map .bool
  | .neq, .pointer (some p), .pointer (some q) => (ptrB E t p q h).map fun r => .bool !r
  | op, a, b => binD E op t x y a b
def unD (op : UnOp) (x : Value) : Option Value :=
  match op, x with
  | .neg, .int k n => some (.int k (k.wrap (0 - n)))
  | .xor, .int k n => bitsD .xor k (if k.signed then -1 else k.max) n
  | .not, .bool b => some (.bool !b)
  | _, _ => none
def bytesD : List Value → Option (List UInt8)
  | [] => some []
  | .int .u8 n :: vs => (bytesD vs).map (UInt8.ofNat n.toNat :: ·)
  | _ => none
def readD (b o n : Nat) (h : H) : Option (List Value) :=
  match h.get b with
  | some (.cells c _ _ _ _) => if o + n ≤ c.length then some ((c.drop o).take n) else none
  | _ => none
def convD (E : Env) (src dst : TypeId) (x : Value) (h : H) : Option (Value × H) :=
  match E.und src, E.und dst, x with
  | some _, some (.int k), .int _ n => some (.int k (k.wrap n), h)
  | some _, some .string, .int _ n => some (.string (Utf8.encode n), h)
  | some _, some .string, .string s => some (.string s, h)
  | some _, some (.slice e), .string s => match E.und e with
    | some (.int .u8) => if s.size ≤ 2 ^ 45 then some (.slice (some ⟨h.addr, 0, none⟩) s.size s.size, h.new (.cells (s.data.toList.map fun b => .int .u8 b.toNat) 1 true 0 none)) else none
    | _ => none
  | some (.slice e), some .string, .slice none 0 0 => match E.und e with
    | some (.int .u8) => some (.string .empty, h)
    | _ => none
  | some (.slice e), some .string, .slice (some ⟨b, o, none⟩) len _ => match E.und e with
    | some (.int .u8) => if len = 0 then some (.string .empty, h) else match readD b o len h with
      | some vs => (bytesD vs).map fun l => (.string ⟨l.toArray⟩, h)
      | none => none
    | _ => none
  | _, _, _ => none

/-! ### Built-in functions -/
def intV (n : Int) : Value := .int .i64 n
def lenD (E : Env) (t : TypeId) (x : Value) (h : H) : Option Value :=
  match E.und t, x with
  | some .string, .string s => some (intV s.size)
  | some (.array n _), _ => some (intV n)
  | some (.slice _), .slice _ n _ => some (intV n)
  | some (.map _ _), .map none => some (intV 0)
  | some (.map _ _), .map (some r) => match h.get r with
    | some (.map es _) => some (intV es.length)
    | _ => none
  | _, _ => none
/-- What is appended: cells of size n each, and how many elements. -/
def srcD (n : Nat) (x : Value) (h : H) : Option (Nat × List Value) :=
  match x with
  | .slice none 0 _ => some (0, [])
  | .slice (some ⟨b, o, none⟩) len _ => if len = 0 then some (0, []) else (readD b o (len * n) h).map fun c => (len, c)
  | .string s => some (s.size, s.data.toList.map fun b => .int .u8 b.toNat)
  | _ => none
def isIntT : TypeDesc → Bool
  | .int _ => true
  | _ => false
def appendD (E : Env) (ts : List TypeId) (s x : Value) (h : H) : Option (Value × H) :=
  match ts with
  | [t, xt] => match E.und t, E.und xt with
    | some (.slice elem), some xd => match E.ty elem, zeroD E elem with
      | some i, some z =>
        if isIntT xd || i.size == 0 || !(z.cells.size == i.size) then none else
        match srcD i.size x h with
        | none => none
        | some (k, cs) => if cs.length = k * i.size then match s with
          | .slice none 0 0 => if k = 0 then some (s, h) else
            if k * (i.bytes + 1) ≤ 2 ^ 44 && i.bytes ≤ 2 ^ 32 then some (.slice (some ⟨h.addr, 0, none⟩) k k, h.new (.cells cs i.size true 0 (E.tag elem))) else none
          | .slice (some ⟨b, o, none⟩) len cap =>
            if k = 0 then some (s, h) else
            if len + k ≤ cap then
              match stCells b (o + len * i.size) cs h with
              | some h' => some (.slice (some ⟨b, o, none⟩) (len + k) cap, h')
              | none => none
            else if (len + k) * (i.bytes + 1) ≤ 2 ^ 44 && i.bytes ≤ 2 ^ 32 && cs.all cellV then
              match h.get b with
              | some (.cells c st true fz ty) => if st = i.size && o + len * i.size ≤ c.length && fz ≤ o + len * i.size && (ty == none || (ty == some elem && o == 0)) then
                  some (.slice (some ⟨h.addr, 0, none⟩) (len + k) (len + k), (h.drop b).new (.cells ((c.drop o).take (len * i.size) ++ cs) i.size true (fz - o) ty))
                else none
              | _ => none
            else none
          | _ => none
          else none
      | _, _ => none
    | _, _ => none
  | _ => none
def copyD (E : Env) (ts : List TypeId) (d x : Value) (h : H) : Option (Value × H) :=
  match ts with
  | t :: _ => match E.und t with
    | some (.slice elem) => match E.siz elem with
      | some n => match d, srcD n x h with
        | .slice none 0 _, some _ => some (intV 0, h)
        | .slice (some ⟨b, o, none⟩) len _, some (k, cs) => if !(cs.length == k * n) then none else if min k len = 0 then some (intV 0, h) else
          match stCells b o (cs.take (min k len * n)) h with
          | some h' => some (intV (min k len : Nat), h')
          | none => none
        | _, _ => none
      | none => none
    | _ => none
  | _ => none
def minD : Value → Value → Option Value
  | .int k x, .int k' y => if k = k' then some (.int k (if y < x then y else x)) else none
  | _, _ => none
def maxD : Value → Value → Option Value
  | .int k x, .int k' y => if k = k' then some (.int k (if y > x then y else x)) else none
  | _, _ => none

/-! ### Maps -/
def chkFieldsD (E : Env) (chk : TypeId → Value → Bool) (cs : List Value) : List Field → Bool
  | [] => true
  | f :: fs => (f.name == "_" || match partD E f.type cs f.offset with | some v => chk f.type v | none => false) && chkFieldsD E chk cs fs
def chkKeyD (E : Env) : Nat → TypeId → Value → Bool
  | 0, _, _ => false
  | d + 1, t, v => match E.und t, v with
    | some (.interface _), _ => false
    | some (.array _ _), _ => false
    | some (.struct fields), .agg cs => chkFieldsD E (chkKeyD E d) cs.toList fields.toList
    | some (.struct _), _ => false
    | some _, _ => true
    | none, _ => false
def findD (E : Env) (t : TypeId) (k : Value) : List MapEntry → Nat → Option (Option (Nat × MapEntry))
  | [], _ => some none
  | e :: es, i => match eqD E 10000 t k e.key with
    | some true => some (some (i, e))
    | some false => findD E t k es (i + 1)
    | none => none
def lookupD (E : Env) (t : TypeId) (m k : Value) (ok : Bool) (h : H) : Option Value :=
  match E.und t with
  | some (.map kt et) =>
    let es := match m with
      | .map none => some []
      | .map (some r) => match h.get r with
        | some (.map es _) => some es
        | _ => none
      | _ => none
    match es with
    | none => none
    | some es => if chkKeyD E 10000 kt k && plainV k then match findD E kt k es 0, zeroD E et with
        | some (some (_, e)), _ => some (if ok then .tuple #[e.val, .bool true] else e.val)
        | some none, some z => some (if ok then .tuple #[z, .bool false] else z)
        | _, _ => none
      else none
  | _ => none
def mapPutD (E : Env) (t : TypeId) (m k v : Value) (h : H) : Option H :=
  match E.und t, m with
  | some (.map kt _), .map (some r) => match h.get r with
    | some (.map es clock) => if chkKeyD E 10000 kt k && plainV k then match findD E kt k es 0 with
        | some (some (i, e)) => if Instr.sameBits 10000 e.key k then some (h.put r (.map (es.set i { e with key := k, val := v }) clock)) else none
        | some none => some (h.put r (.map (es ++ [{ key := k, val := v, born := clock }]) (clock + 1)))
        | none => none
      else none
    | _ => none
  | _, _ => none
def mapDelD (E : Env) (t : TypeId) (m k : Value) (h : H) : Option H :=
  match E.und t, m with
  | some (.map kt _), .map (some r) => match h.get r with
    | some (.map es clock) => if chkKeyD E 10000 kt k && plainV k then match findD E kt k es 0 with
        | some (some (i, _)) => some (h.put r (.map (es.eraseIdx i) clock))
        | some none => some h
        | none => none
      else none
    | _ => none
  | _, _ => none

/-! ### Operations and code -/
def ev (fr : T Value) : Operand → Option Value
  | .tmp t => fr.get t
  | .const v => some v
  | .global g => some (.pointer (some ⟨g, 0, none⟩))
  | .func f => some (.func (.func f) #[] #[])
def evs (fr : T Value) : List Operand → Option (List Value)
  | [] => some []
  | x :: xs => match ev fr x, evs fr xs with
    | some v, some vs => some (v :: vs)
    | _, _ => none
def evps (fr : T Value) : List (Nat × Operand) → Option (List (Nat × Value))
  | [] => some []
  | (i, x) :: xs => match ev fr x, evps fr xs with
    | some v, some vs => some ((i, v) :: vs)
    | _, _ => none
def evo (fr : T Value) : Option Operand → Option (Option Value)
  | none => some none
  | some x => (ev fr x).map some
inductive Tg where
  | fn (f : FuncId)
  | yd (l : Nat)
abbrev CK := Tg → List Value → H → Option (Value × H)
def methodD (E : Env) (t : TypeId) (v : Value) (name : String) : Option (FuncId × Value) :=
  match E.ty t with
  | some i => match i.methods.toList.find? (·.name == name) with
    | some m => if m.path.size = 0 then match m.func, E.und t with
        | some (f, true), some (.pointer _) => some (f, v)
        | some (_, false), some (.pointer _) => none
        | some (f, false), some _ => some (f, v)
        | _, _ => none
      else none
    | none => none
  | none => none
def callFnD (ck : CK) (f : Value) (args : List Value) (h : H) : Option (Value × H) :=
  match f with
  | .func (.func g) first cap => ck (.fn g) (first.toList ++ args ++ cap.toList) h
  | .func (.yield l) _ _ => ck (.yd l) args h
  | _ => none
def opD (E : Env) (ck : CK) (o : Op) (fr : T Value) (h : H) : Option (Value × H) :=
  match o with
  | .move x | .assign x => (ev fr x).map (·, h)
  | .pick c a b => match ev fr c with
    | some (.bool t) => (if t then ev fr a else ev fr b).map (·, h)
    | _ => none
  | .alloc t => (zeroD E t).map fun z => newD 0 (E.tag t) z.cells.toList h
  | .box t x => (ev fr x).map fun v => newD 0 (E.tag t) v.cells.toList h
  | .build t parts => match evps fr parts.toList with
    | some ps => (buildD E t ps).map (·, h)
    | none => none
  | .buildSlice t n parts => match evps fr parts.toList with
    | some ps => buildSliceD E t n ps h
    | none => none
  | .load t a => match ev fr a with
    | some a => (ld E t a h).map (·, h)
    | none => none
  | .store t a x => match ev fr a, ev fr x with
    | some a, some v => (st E t a v h).map (undef, ·)
    | _, _ => none
  | .nilCheck x => match ev fr x with
    | some v => (nilCheckD v).map (·, h)
    | none => none
  | .binOp op t x y _ => match ev fr x, ev fr y with
    | some a, some b => (binHD E op t x y a b h).map (·, h)
    | _, _ => none
  | .unOp op _ x => match ev fr x with
    | some a => (unD op a).map (·, h)
    | none => none
  | .convert s d x => match ev fr x with
    | some a => convD E s d a h
    | none => none
  | .makeInterface t x => match ev fr x, E.und t with
    | some _, some (.interface _) => none
    | some a, some _ => some (.iface t a, h)
    | _, _ => none
  | .makeFunc (.func f) first cap => match evs fr first.toList, evs fr cap.toList with
    | some a, some b => some (.func (.func f) a.toArray b.toArray, h)
    | _, _ => none
  | .makeMap _ none => some (.map (some h.addr), h.new (.map [] 0))
  | .makeSlice t l c => match ev fr l, ev fr c with
    | some a, some b => makeSliceD E t a b h
    | _, _ => none
  | .slice t x lo hi mx => match ev fr x, evo fr lo, evo fr hi, evo fr mx with
    | some a, some lo, some hi, some mx => (sliceD E t a lo hi mx h).map (·, h)
    | _, _, _, _ => none
  | .fieldAddr s x f => match ev fr x with
    | some a => (fieldAddrD E s a f).map (·, h)
    | none => none
  | .field t x f => match ev fr x with
    | some a => (fieldD E t a f).map (·, h)
    | none => none
  | .indexAddr t x i => match ev fr x, ev fr i with
    | some a, some b => (indexAddrD E t a b).map (·, h)
    | _, _ => none
  | .index t x i => match ev fr x, ev fr i with
    | some a, some b => (indexD E t a b).map (·, h)
    | _, _ => none
  | .lookup t m k ok => match ev fr m, ev fr k with
    | some a, some b => (lookupD E t a b ok h).map (·, h)
    | _, _ => none
  | .mapUpdate t m k v | .insert t m k v => match ev fr m, ev fr k, ev fr v with
    | some a, some b, some c => (mapPutD E t a b c h).map (undef, ·)
    | _, _, _ => none
  | .extract x i => match ev fr x with
    | some a => (extractD a i).map (·, h)
    | none => none
  | .range t x => match E.und t, ev fr x with
    | some .string, some (.string s) => some (.pointer (some ⟨h.addr, 0, none⟩), h.new (.siter s 0))
    | _, _ => none
  | .next it true => match ev fr it with
    | some (.pointer (some ⟨r, 0, none⟩)) => match h.get r with
      | some (.siter s pos) => if pos < s.size then
          some (.tuple #[.bool true, intV pos, .int .i32 (Utf8.decode s pos).1], h.put r (.siter s (pos + (Utf8.decode s pos).2)))
        else some (.tuple #[.bool false], h)
      | _ => none
    | _ => none
  | .call c => match evs fr c.args.toList with
    | none => none
    | some args => match c.callee with
      | .value f => match ev fr f with
        | some v => callFnD ck v args h
        | none => none
      | .invoke r name => match ev fr r with
        | some (.iface t v) => match methodD E t v name with
          | some (f, rv) => ck (.fn f) (rv :: args) h
          | none => none
        | _ => none
      | .builtin .len => match c.argTypes.toList, args with
        | [t], [x] => (lenD E t x h).map (·, h)
        | _, _ => none
      | .builtin .append => match args with
        | [s, x] => appendD E c.argTypes.toList s x h
        | _ => none
      | .builtin .copy => match args with
        | [s, x] => copyD E c.argTypes.toList s x h
        | _ => none
      | .builtin .min => match args with
        | [a, b] => (minD a b).map (·, h)
        | _ => none
      | .builtin .max => match args with
        | [a, b] => (maxD a b).map (·, h)
        | _ => none
      | .builtin .delete => match c.argTypes.toList, args with
        | t :: _, [m, k] => (mapDelD E t m k h).map (.tuple #[], ·)
        | _, _ => none
      | _ => none
  | _ => none

/-! ### What an operation does with memory -/
inductive Cls where
  | pure | read | fresh | other
  deriving DecidableEq
def cls (E : Env) : Op → Cls
  | .move _ | .assign _ | .pick _ _ _ | .build _ _ | .nilCheck _ | .unOp _ _ _ | .makeInterface _ _ | .makeFunc _ _ _ | .fieldAddr _ _ _ | .field _ _ _ | .indexAddr _ _ _ | .index _ _ _ | .extract _ _ => .pure
  | .load _ _ | .lookup _ _ _ _ => .read
  | .binOp _ t x y _ => if isNil x || isNil y then .pure else match E.und t with
    | some (.pointer _) => .read
    | _ => .pure
  | .alloc _ | .box _ _ | .buildSlice _ _ _ | .makeSlice _ _ _ | .makeMap _ none => .fresh
  | .slice t _ _ _ _ => match E.und t with
    | some .string => .pure
    | some (.array _ _) => .pure
    | _ => .read
  | .convert s d _ => match E.und s, E.und d with
    | some _, some (.int _) => .pure
    | some .string, some (.slice _) => .fresh
    | some (.slice _), some .string => .read
    | _, _ => .other
  | .call c => match c.callee with
    | .builtin .len => match c.argTypes.toList with
      | [t] => match E.und t with
        | some .string => .pure
        | some (.slice _) => .pure
        | some (.array _ _) => .pure
        | _ => .read
      | _ => .other
    | .builtin .min => .pure
    | .builtin .max => .pure
    | _ => .other
  | _ => .other


/-! ### Regions that draw: what must hold of them ahead of all running -/
/-- Which operations come before, however it is drawn: an operation's mask for each. -/
def maskD (acc : List Nat) (o : Oper) : Nat := o.after.toList.foldl (fun s e => if Region.binds .any e then s ||| 2 ^ e.on ||| acc.getD e.on 0 else s) 0
def ancD : List Oper → List Nat → List Nat
  | [], acc => acc
  | o :: rest, acc => ancD rest (acc ++ [maskD acc o])
def looksD (ops : Array Oper) (o : Oper) : List Tmp :=
  (o.op.operands.toList.filterMap fun | .tmp t => some t | _ => none) ++
  (match o.guard with
   | some (g, _) => ((ops[g]?).bind (·.dst)).toList
   | none => [])
def apartD (ops : Array Oper) (x y : Oper) : Bool :=
  (match x.dst with
   | some d => !(looksD ops y).contains d && y.dst != some d
   | none => true) &&
  (match y.dst with
   | some d => !(looksD ops x).contains d
   | none => true)
/-- May the two come in either order? -/
def freeD : Cls → Cls → Bool
  | .other, .other | .other, .fresh | .fresh, .other => false
  | _, _ => true
def isAlloc : Op → Bool
  | .alloc _ => true
  | _ => false
/-- May a new variable be made ahead of a caller that stands before it? -/
def earlyD (E : Env) (ops : Array Oper) (ms : List Nat) (j : Nat) (oj : Oper) (i : Nat) (oi : Oper) : Bool :=
  isAlloc oj.op && oj.guard.isNone && decide (cls E oi.op = .other) && apartD ops oi oj &&
  (match oj.dst with
   | some d => (List.range ops.size).all fun x => match ops[x]? with
     | some ox => decide (x = j) || (!(ox.dst == some d) && (!(looksD ops ox).contains d || (ms.getD x 0).testBit i))
     | none => true
   | none => false)
def pairD (E : Env) (ops : Array Oper) (ms : List Nat) (j : Nat) (oj : Oper) (i : Nat) (oi : Oper) : Bool :=
  (ms.getD j 0).testBit i || (apartD ops oi oj && freeD (cls E oi.op) (cls E oj.op)) || earlyD E ops ms j oj i oi
def okDraw (E : Env) (ops : Array Oper) : Bool :=
  let ms := ancD ops.toList []
  (List.range ops.size).all fun j => match ops[j]? with
    | some oj => (oj.after.toList.all fun e => !Region.binds .any e || decide (e.on < j)) && (List.range j).all fun i => match ops[i]? with
      | some oi => pairD E ops ms j oj i oi
      | none => true
    | none => true
/-- A reader and a caller that may come in either order. -/
def laxPairs (E : Env) (ops : Array Oper) : List (Nat × Nat) :=
  let ms := ancD ops.toList []
  (List.range ops.size).flatMap fun j => match ops[j]? with
    | some oj => match cls E oj.op with
      | .read => (List.range ops.size).filterMap fun k => match ops[k]? with
        | some ok => match cls E ok.op with
          | .other => if (ms.getD (max j k) 0).testBit (min j k) then none else some (j, k)
          | _ => none
        | none => none
      | _ => []
    | none => []
/-- The next caller's place from p on, or the end. -/
def segEnd (E : Env) (ops : Array Oper) (p : Nat) : Nat := p + (ops.toList.drop p).findIdx fun o => cls E o.op == .other
def eqv0 : Value → Value → Bool
  | .bool a, .bool b => a == b
  | .int k a, .int k' b => decide (k = k') && decide (a = b)
  | .string a, .string b => decide (a = b)
  | .pointer a, .pointer b => decide (a = b)
  | .slice a n c, .slice a' n' c' => decide (a = a') && decide (n = n') && decide (c = c')
  | .map a, .map b => decide (a = b)
  | .nilFunc, .nilFunc => true
  | .nilIface, .nilIface => true
  | .iface t a, .iface t' b => decide (t = t') && eqv0 a b
  | _, _ => false
def eqvL : List Value → List Value → Bool
  | [], [] => true
  | a :: as, b :: bs => eqv0 a b && eqvL as bs
  | _, _ => false
def eqv : Value → Value → Bool
  | .agg a, .agg b => eqvL a.toList b.toList
  | .tuple a, .tuple b => eqvL a.toList b.toList
  | a, b => eqv0 a b

inductive Ex where
  | normal
  | exit (id : Nat)
  | goto (l : Nat)
  | ret
def putD (fr : T Value) (dst : Option Tmp) (v : Value) : T Value :=
  match dst with
  | some d => fr.set d (some v)
  | none => fr
def wantedD (ops : Array Oper) (o : Oper) (fr : T Value) : Option Bool :=
  match o.guard with
  | none => some true
  | some (j, want) => match (ops[j]?).bind (·.dst) with
    | some d => match fr.get d with
      | some (.bool b) => some (b == want)
      | some _ => some false
      | none => none
    | none => none
def regD (E : Env) (ck : CK) (ops : Array Oper) : List Oper → T Value → H → Option (T Value × H)
  | [], fr, h => some (fr, h)
  | o :: rest, fr, h => match wantedD ops o fr with
    | some true => match opD E ck o.op fr h.clr with
      | some (v, h') => regD E ck ops rest (putD fr o.dst v) h'
      | none => none
    | some false => regD E ck ops rest (putD fr o.dst undef) h
    | none => none
/-- Has the reader the same answer on the caller's other side? -/
def laxD (E : Env) (ck : CK) (ops : Array Oper) (fr : T Value) (h : H) : List (Nat × Nat) → Bool
  | [] => true
  | (j, k) :: rest => (match ops[j]? with
    | some o => match regD E ck ops (ops.toList.take j) fr h, regD E ck ops (ops.toList.take (if k < j then k else segEnd E ops (k + 1))) fr h with
      | some (frj, hj), some (_, hk) => match wantedD ops o frj with
        | some true => match opD E ck o.op frj hj.clr, opD E ck o.op frj hk.clr with
          | some (v, _), some (u, _) => eqv v u
          | _, _ => false
        | some false => true
        | none => false
      | _, _ => false
    | none => true) && laxD E ck ops fr h rest
def loopD (body : T Value → H → Option (Ex × T Value × H)) : Nat → T Value → H → Option (Ex × T Value × H)
  | 0, _, _ => none
  | n + 1, fr, h => match body fr h with
    | some (.normal, fr', h') => loopD body n fr' h'
    | r => r
def scopeD (lab : Nat → Bool) (body : Option Nat → T Value → H → Option (Ex × T Value × H)) : Nat → Option Nat → T Value → H → Option (Ex × T Value × H)
  | 0, _, _, _ => none
  | n + 1, sk, fr, h => match body sk fr h with
    | some (.goto l, fr', h') => if lab l then scopeD lab body n (some l) fr' h' else some (.goto l, fr', h')
    | r => r
def hasLabel : Code → Nat → Bool
  | .seq a b, l => hasLabel a l || hasLabel b l
  | .label l', l => l' == l
  | _, _ => false
def endLoopD (l : Nat) (fr : T Value) (h : H) : Option (Ex × T Value × H) :=
  match h.get l with
  | some (.loop r) => if r.state = .busy then none else
    match r.pending with
    | none => some (.normal, fr, h.put l (.loop { r with state := .exhausted }))
    | some .ret => some (.ret, fr, h.put l (.loop { r with state := .exhausted }))
    | some (.exit id) => some (.exit id, fr, h.put l (.loop { r with state := .exhausted }))
    | some (.goto t) => some (.goto t, fr, h.put l (.loop { r with state := .exhausted }))
    | _ => none
  | _ => none
def execD (E : Env) (ck : CK) (fuel : Nat) : Code → Option Nat → T Value → H → Option (Ex × T Value × H)
  | .skip, none, fr, h => some (.normal, fr, h)
  | .label _, none, fr, h => some (.normal, fr, h)
  | .label l, some l', fr, h => if l = l' then some (.normal, fr, h) else none
  | .region _ ops draw, none, fr, h => match regD E ck ops ops.toList fr h with
    | some (fr', h') => if draw && !laxD E ck ops fr h (laxPairs E ops) then none else some (.normal, fr', h'.clr)
    | none => none
  | .seq a b, none, fr, h => match execD E ck fuel a none fr h with
    | some (.normal, fr', h') => execD E ck fuel b none fr' h'
    | r => r
  | .seq a b, some l, fr, h => if hasLabel a l then match execD E ck fuel a (some l) fr h with
      | some (.normal, fr', h') => execD E ck fuel b none fr' h'
      | r => r
    else execD E ck fuel b (some l) fr h
  | .cond c a b, none, fr, h => match ev fr c with
    | some (.bool t) => if t then execD E ck fuel a none fr h else execD E ck fuel b none fr h
    | _ => none
  | .block id c, none, fr, h => match execD E ck fuel c none fr h with
    | some (.exit id', fr', h') => if id' = id then some (.normal, fr', h') else some (.exit id', fr', h')
    | r => r
  | .loop c, none, fr, h => loopD (fun fr h => execD E ck fuel c none fr h) fuel fr h
  | .scope c, none, fr, h => scopeD (hasLabel c) (fun sk fr h => execD E ck fuel c sk fr h) fuel none fr h
  | .exit id, none, fr, h => some (.exit id, fr, h)
  | .goto l, none, fr, h => some (.goto l, fr, h)
  | .ret, none, fr, h => some (.ret, fr, h)
  | .rangeFunc f params assign body, none, fr, h => match ev fr f with
    | some (.func (.func g) first cap) =>
      match ck (.fn g) (first.toList ++ [.func (.yield h.addr) #[] #[]] ++ cap.toList) (h.new (.loop { state := .ready, pending := none, fr, params := params.toList, assign, body })) with
      | some (_, h') => endLoopD h.addr fr h'
      | none => none
    | _ => none
  | _, _, _, _ => none
def frOf : List Value → Nat → T Value → T Value
  | [], _, t => t
  | v :: vs, i, t => frOf vs (i + 1) (t.set i (some v))
def resD (E : Env) (fr : T Value) (h : H) : List ResultVar → Option (List Value)
  | [] => some []
  | .tmp t :: rs => match fr.get t, resD E fr h rs with
    | some v, some vs => some (v :: vs)
    | _, _ => none
  | .cell a t :: rs => match fr.get a with
    | some p => match ld E t p h, resD E fr h rs with
      | some v, some vs => some (v :: vs)
      | _, _ => none
    | none => none
def oneD : List Value → Value
  | [v] => v
  | vs => .tuple vs.toArray
def putsD : List Tmp → List Value → T Value → Option (T Value)
  | [], [], fr => some fr
  | p :: ps, v :: vs, fr => putsD ps vs (fr.set p (some v))
  | _, _, _ => none
abbrev Plug := FuncId → List Value → H → Option (Value × H)
def bodyD (E : Env) (ck : CK) (k : Nat) (f : FuncId) (args : List Value) (h : H) : Option (Value × H) :=
  match E.fn f with
  | some fn => match fn.body with
    | some c => if args.length ≤ fn.ntmps then match execD E ck k c none (frOf args 0 .leaf) h with
      | some (.normal, fr, h') => (resD E fr h' fn.results.toList).map fun vs => (oneD vs, h')
      | some (.ret, fr, h') => (resD E fr h' fn.results.toList).map fun vs => (oneD vs, h')
      | _ => none
      else none
    | none => none
  | none => none
def endRoundD (l : Nat) (jump : Option Code) (h : H) : Option (Value × H) :=
  match h.get l with
  | some (.loop r) => some (.bool jump.isNone, h.put l (.loop { r with state := if jump.isNone then .ready else .done, pending := jump }))
  | _ => none
def roundD (E : Env) (ck : CK) (k : Nat) (l : Nat) (args : List Value) (h : H) : Option (Value × H) :=
  match h.get l with
  | some (.loop r) => match putsD r.params args r.fr with
    | some fr => match execD E ck k r.assign none fr h with
      | some (.normal, fr1, h1) => match h1.get l with
        | some (.loop r1) => if r1.state = .ready then
            match execD E ck k r.body none fr1 (h1.put l (.loop { r1 with state := .busy })) with
            | some (.normal, _, h2) => endRoundD l none h2
            | some (.ret, _, h2) => endRoundD l (some .ret) h2
            | some (.exit id, _, h2) => endRoundD l (some (.exit id)) h2
            | some (.goto t, _, h2) => endRoundD l (some (.goto t)) h2
            | none => none
          else none
        | _ => none
      | _ => none
    | none => none
  | _ => none
def callD (E : Env) (X : Plug) : Nat → CK
  | 0, _, _, _ => none
  | k + 1, .fn f, args, h => match X f args h with
    | some r => some r
    | none => bodyD E (callD E X k) k f args h
  | k + 1, .yd l, args, h => roundD E (callD E X k) k l args h
end Go.Dm

set_option linter.unusedVariables false
set_option linter.unusedSimpArgs false
namespace Go.Dm

/-- Where a block of D's lies in the model's memory: the block, the cell; an element's cells (0: no row), the block's cells. -/
structure Img where
  blk : Nat
  off : Nat
  stride : Nat
  size : Nat
abbrev Inj := Nat → Option Img
def Ext (m m' : Inj) : Prop := ∀ b i, m b = some i → m' b = some i
theorem Ext.refl (m : Inj) : Ext m m := fun _ _ h => h
theorem Ext.trans {m m' m'' : Inj} (h : Ext m m') (k : Ext m' m'') : Ext m m'' := fun b i e => k b i (h b i e)

mutual
inductive VRel (m : Inj) : Value → Value → Prop
  | plain {v : Value} (h : plain0 v = true) : VRel m v v
  | ptr {b o : Nat} {i : Img} (h : m b = some i) : VRel m (.pointer (some ⟨b, o, none⟩)) (.pointer (some ⟨i.blk, o + i.off, none⟩))
  | slice {b o n c c' : Nat} {i : Img} (h : m b = some i) (h1 : n ≤ c) (h2 : c ≤ c') (h3 : c' = c ∨ (0 < i.stride ∧ o + i.off + c' * i.stride ≤ i.size)) :
      VRel m (.slice (some ⟨b, o, none⟩) n c) (.slice (some ⟨i.blk, o + i.off, none⟩) n c')
  | slice0 {a a' : Addr} : VRel m (.slice (some a) 0 0) (.slice (some a') 0 0)
  | map {b : Nat} {i : Img} (h : m b = some i) : VRel m (.map (some b)) (.map (some i.blk))
  | func {f : FuncId} {a a' b b' : List Value} (h : LRel m a a') (k : LRel m b b') : VRel m (.func (.func f) (Array.mk a) (Array.mk b)) (.func (.func f) (Array.mk a') (Array.mk b'))
  | yld {l : Nat} {i : Img} (h : m l = some i) : VRel m (.func (.yield l) (Array.mk []) (Array.mk [])) (.func (.yield i.blk) (Array.mk []) (Array.mk []))
  | iface {t : TypeId} {v v' : Value} (h : VRel m v v') : VRel m (.iface t v) (.iface t v')
  | agg {a a' : List Value} (h : LRel m a a') : VRel m (.agg (Array.mk a)) (.agg (Array.mk a'))
  | tuple {a a' : List Value} (h : LRel m a a') : VRel m (.tuple (Array.mk a)) (.tuple (Array.mk a'))
inductive LRel (m : Inj) : List Value → List Value → Prop
  | nil : LRel m [] []
  | cons {v v' : Value} {l l' : List Value} (h : VRel m v v') (k : LRel m l l') : LRel m (v :: l) (v' :: l')
end

mutual
theorem VRel.mono {m m' : Inj} (e : Ext m m') : ∀ {v v' : Value}, VRel m v v' → VRel m' v v'
  | _, _, .plain h => .plain h
  | _, _, .ptr h => .ptr (e _ _ h)
  | _, _, .slice h h1 h2 h3 => .slice (e _ _ h) h1 h2 h3
  | _, _, .slice0 => .slice0
  | _, _, .map h => .map (e _ _ h)
  | _, _, .func h k => .func (LRel.mono e h) (LRel.mono e k)
  | _, _, .yld h => .yld (e _ _ h)
  | _, _, .iface h => .iface (VRel.mono e h)
  | _, _, .agg h => .agg (LRel.mono e h)
  | _, _, .tuple h => .tuple (LRel.mono e h)
theorem LRel.mono {m m' : Inj} (e : Ext m m') : ∀ {v v' : List Value}, LRel m v v' → LRel m' v v'
  | _, _, .nil => .nil
  | _, _, .cons h k => .cons (VRel.mono e h) (LRel.mono e k)
end

theorem LRel.length {m : Inj} {l l' : List Value} (h : LRel m l l') : l'.length = l.length := by
  induction l generalizing l' with
  | nil => cases h; rfl
  | cons v l ih => cases h with | cons h k => simp [ih k]
theorem LRel.get {m : Inj} {l l' : List Value} (h : LRel m l l') {i : Nat} {v : Value} (hv : l[i]? = some v) : ∃ v', l'[i]? = some v' ∧ VRel m v v' := by
  induction l generalizing l' i with
  | nil => simp at hv
  | cons u l ih =>
    cases h with
    | cons h k =>
      cases i with
      | zero => simp at hv; subst hv; exact ⟨_, rfl, h⟩
      | succ i => exact ih k (by simpa using hv)
theorem LRel.of_get {m : Inj} {l l' : List Value} (hl : l'.length = l.length) (h : ∀ (i : Nat) (v : Value), l[i]? = some v → ∃ v', l'[i]? = some v' ∧ VRel m v v') : LRel m l l' := by
  induction l generalizing l' with
  | nil => simp at hl; subst hl; exact .nil
  | cons u l ih =>
    cases l' with
    | nil => simp at hl
    | cons u' l' =>
      obtain ⟨v', h1, h2⟩ := h 0 u rfl
      simp at h1; subst h1
      exact .cons h2 (ih (by simpa using hl) fun i v hv => by simpa using h (i + 1) v (by simpa using hv))
theorem LRel.append {m : Inj} {a a' b b' : List Value} (h : LRel m a a') (k : LRel m b b') : LRel m (a ++ b) (a' ++ b') := by
  induction a generalizing a' with
  | nil => cases h; exact k
  | cons v a ih => cases h with | cons h1 h2 => exact .cons h1 (ih h2)
theorem LRel.drop {m : Inj} {a a' : List Value} (h : LRel m a a') (n : Nat) : LRel m (a.drop n) (a'.drop n) := by
  induction n generalizing a a' with
  | zero => exact h
  | succ n ih => cases h with | nil => exact .nil | cons h1 h2 => exact ih h2
theorem LRel.take {m : Inj} {a a' : List Value} (h : LRel m a a') (n : Nat) : LRel m (a.take n) (a'.take n) := by
  induction n generalizing a a' with
  | zero => exact .nil
  | succ n ih => cases h with | nil => exact .nil | cons h1 h2 => exact .cons h1 (ih h2)
theorem LRel.set {m : Inj} {a a' : List Value} (h : LRel m a a') (n : Nat) {v v' : Value} (hv : VRel m v v') : LRel m (a.set n v) (a'.set n v') := by
  induction n generalizing a a' with
  | zero => cases h with | nil => exact .nil | cons h1 h2 => exact .cons hv h2
  | succ n ih => cases h with | nil => exact .nil | cons h1 h2 => exact .cons h1 (ih h2)
theorem LRel.setAt {m : Inj} {vs vs' : List Value} (hv : LRel m vs vs') : ∀ {a a' : List Value} (h : LRel m a a') (n : Nat), LRel m (setAt a n vs) (setAt a' n vs') := by
  induction vs generalizing vs' with
  | nil => intro a a' h n; cases hv; exact h
  | cons v vs ih => intro a a' h n; cases hv with | cons h1 h2 => exact ih h2 (h.set n h1) (n + 1)
theorem VRel.plain1 {m : Inj} {v : Value} (h : plain1 v = true) : VRel m v v := by
  cases v with
  | iface t v => exact .iface (.plain h)
  | _ => exact .plain h
theorem LRel.plain {m : Inj} {l : List Value} (h : l.all Dm.plain1 = true) : LRel m l l := by
  induction l with
  | nil => exact .nil
  | cons v l ih => simp at h; exact .cons (.plain1 h.1) (ih (by simpa using h.2))
theorem VRel.plainV {m : Inj} {v : Value} (h : plainV v = true) : VRel m v v := by
  cases v with
  | agg cs => obtain ⟨l⟩ := cs; exact .agg (.plain h)
  | tuple cs => obtain ⟨l⟩ := cs; exact .tuple (.plain h)
  | _ => exact .plain1 h

/-! ### What a value's kind says of its fellow -/
section inv
variable {m : Inj} {v' : Value}
theorem VRel.bool {b : Bool} (h : VRel m (.bool b) v') : v' = .bool b := by cases h; rfl
theorem VRel.int {k : IntKind} {n : Int} (h : VRel m (.int k n) v') : v' = .int k n := by cases h; rfl
theorem VRel.string {s : ByteArray} (h : VRel m (.string s) v') : v' = .string s := by cases h; rfl
theorem VRel.nilp (h : VRel m (.pointer none) v') : v' = .pointer none := by cases h; rfl
theorem VRel.nils {a b : Nat} (h : VRel m (.slice none a b) v') : v' = .slice none 0 0 ∧ a = 0 ∧ b = 0 := by
  cases h with
  | plain h => simp [plain0] at h; simp [h]
theorem VRel.nilm (h : VRel m (.map none) v') : v' = .map none := by cases h; rfl
theorem VRel.nili (h : VRel m .nilIface v') : v' = .nilIface := by cases h; rfl
theorem VRel.nilf (h : VRel m .nilFunc v') : v' = .nilFunc := by cases h; rfl
theorem VRel.pointer {a : Addr} (h : VRel m (.pointer (some a)) v') : ∃ i, m a.block = some i ∧ a.spot = none ∧ v' = .pointer (some ⟨i.blk, a.off + i.off, none⟩) := by
  cases h with
  | plain h => simp [plain0] at h
  | ptr h => exact ⟨_, h, rfl, rfl⟩
theorem VRel.mapv {b : Nat} (h : VRel m (.map (some b)) v') : ∃ i, m b = some i ∧ v' = .map (some i.blk) := by
  cases h with
  | plain h => simp [plain0] at h
  | map h => exact ⟨_, h, rfl⟩
theorem VRel.slicev {a : Addr} {n c : Nat} (h : VRel m (.slice (some a) n c) v') : ∃ a' c', v' = .slice (some a') n c' ∧ n ≤ c ∧ c ≤ c' ∧
    ((n = 0 ∧ c = 0 ∧ c' = 0) ∨ ∃ i, m a.block = some i ∧ a.spot = none ∧ a' = ⟨i.blk, a.off + i.off, none⟩ ∧ (c' = c ∨ (0 < i.stride ∧ a.off + i.off + c' * i.stride ≤ i.size))) := by
  cases h with
  | plain h => simp [plain0] at h
  | slice h h1 h2 h3 => exact ⟨_, _, rfl, h1, h2, .inr ⟨_, h, rfl, rfl, h3⟩⟩
  | slice0 => exact ⟨_, _, rfl, Nat.le_refl _, Nat.le_refl _, .inl ⟨rfl, rfl, rfl⟩⟩
theorem VRel.aggv {cs : Array Value} (h : VRel m (.agg cs) v') : ∃ cs' : Array Value, v' = .agg cs' ∧ LRel m cs.toList cs'.toList := by
  cases h with
  | plain h => simp [plain0] at h
  | agg h => exact ⟨_, rfl, h⟩
theorem VRel.tuplev {cs : Array Value} (h : VRel m (.tuple cs) v') : ∃ cs' : Array Value, v' = .tuple cs' ∧ LRel m cs.toList cs'.toList := by
  cases h with
  | plain h => simp [plain0] at h
  | tuple h => exact ⟨_, rfl, h⟩
theorem VRel.ifacev {t : TypeId} {v : Value} (h : VRel m (.iface t v) v') : ∃ u, v' = .iface t u ∧ VRel m v u := by
  cases h with
  | plain h => simp [plain0] at h
  | iface h => exact ⟨_, rfl, h⟩
theorem VRel.funcv {f : FuncId} {a b : Array Value} (h : VRel m (.func (.func f) a b) v') : ∃ a' b' : Array Value, v' = .func (.func f) a' b' ∧ LRel m a.toList a'.toList ∧ LRel m b.toList b'.toList := by
  cases h with
  | plain h => simp [plain0] at h
  | func h k => exact ⟨_, _, rfl, h, k⟩
theorem VRel.yieldv {l : Nat} {a b : Array Value} (h : VRel m (.func (.yield l) a b) v') : ∃ i, m l = some i ∧ v' = .func (.yield i.blk) #[] #[] ∧ a = #[] ∧ b = #[] := by
  cases h with
  | plain h => simp [plain0] at h
  | yld h => exact ⟨_, h, rfl, rfl, rfl⟩
theorem VRel.undef (m : Inj) : VRel m undef undef := .tuple .nil
theorem VRel.cells {v : Value} (h : VRel m v v') : LRel m v.cells.toList v'.cells.toList := by
  cases v with
  | agg cs => obtain ⟨cs', rfl, k⟩ := h.aggv; exact k
  | _ =>
    have hv : v'.cells = #[v'] := by cases h <;> first | rfl | (rename_i h; simp [plain0] at h)
    rw [hv]; exact .cons h .nil
theorem VRel.cells_size {v : Value} (h : VRel m v v') : v'.cells.size = v.cells.size := by
  have := h.cells.length; simpa using this
theorem VRel.cellV {v : Value} (h : VRel m v v') (hc : Dm.cellV v = true) : v'.oneCell' = true := by
  cases h with
  | plain h => revert hc; unfold Dm.cellV Value.oneCell'; exact id
  | _ => first | rfl | (simp [Dm.cellV] at hc)
end inv

/-! ### Memory -/
def FRel (m : Inj) (fr : T Value) (tmps : Array Value) : Prop := ∀ t v, fr.get t = some v → ∃ v', tmps[t]? = some v' ∧ VRel m v v'
theorem FRel.mono {m m' : Inj} {fr : T Value} {tmps : Array Value} (h : FRel m fr tmps) (e : Ext m m') : FRel m' fr tmps :=
  fun t v ht => let ⟨v', h1, h2⟩ := h t v ht; ⟨v', h1, h2.mono e⟩
theorem FRel.set {m : Inj} {fr : T Value} {tmps : Array Value} (h : FRel m fr tmps) {d : Nat} (hd : d < tmps.size) {v v' : Value} (hv : VRel m v v') : FRel m (fr.set d (some v)) (tmps.setIfInBounds d v') := by
  intro t u ht
  rw [T.get_set] at ht
  by_cases e : t = d
  · subst e
    rw [if_pos rfl] at ht
    cases ht
    exact ⟨v', by simp [Array.getElem?_setIfInBounds, hd], hv⟩
  · rw [if_neg e] at ht
    obtain ⟨u', h1, h2⟩ := h t u ht
    exact ⟨u', by rw [Array.getElem?_setIfInBounds, if_neg (Ne.symm e)]; exact h1, h2⟩
theorem FRel.leaf (m : Inj) (tmps : Array Value) : FRel m .leaf tmps := fun t v h => by simp at h

structure ERel (m : Inj) (e e' : MapEntry) : Prop where
  key : e'.key = e.key
  plain : plainV e.key = true
  val : VRel m e.val e'.val
  born : e'.born = e.born
inductive MRel (m : Inj) : List MapEntry → List MapEntry → Prop
  | nil : MRel m [] []
  | cons {e e' : MapEntry} {l l' : List MapEntry} (h : ERel m e e') (k : MRel m l l') : MRel m (e :: l) (e' :: l')
theorem MRel.mono {m m' : Inj} (x : Ext m m') {l l' : List MapEntry} (h : MRel m l l') : MRel m' l l' := by
  induction h with
  | nil => exact .nil
  | cons h _ ih => exact .cons ⟨h.key, h.plain, h.val.mono x, h.born⟩ ih

/-- What is asked of code ahead of all running: see 'okC'. -/
abbrev OkC := Nat → Code → Bool

section
variable (ok : OkC) (m : Inj) (w : World) (i : Img)
def ORel : DObj → Prop
  | .cells c s own fz ty => i.stride = s ∧ ∃ c' e lo hi, w.heap[i.blk]? = some (.cells c' e (lo, hi)) ∧ c'.size = i.size ∧ i.off + c.length ≤ c'.size ∧
      (∀ j v, c[j]? = some v → ∃ v', c'[i.off + j]? = some v' ∧ VRel m v v') ∧ (own = true → hi ≤ i.off + fz ∨ hi ≤ lo ∨ i.size ≤ lo) ∧ ∀ t, ty = some t → e = t ∧ i.off = 0 ∧ (lo = hi ∨ (lo = 0 ∧ hi ≤ fz))
  | .map es clock => ∃ es' : Array MapEntry, w.heap[i.blk]? = some (.map es' clock) ∧ MRel m es es'.toList
  | .siter s pos => i.off = 0 ∧ w.heap[i.blk]? = some (.stringIter s pos)
  | .loop r => ∃ r' : Loop, w.heap[i.blk]? = some (.loop r') ∧ r'.state = r.state ∧ r'.pending = r.pending ∧ r'.params.toList = r.params ∧ r'.assign = r.assign ∧ r'.body = r.body ∧
      FRel m r.fr r'.tmps ∧ ok r'.tmps.size r.assign = true ∧ ok r'.tmps.size r.body = true ∧ ∀ p ∈ r.params, p < r'.tmps.size
end
theorem ORel.congr {ok : OkC} {m m' : Inj} {w w' : World} {i : Img} {o : DObj} (h : ORel ok m w i o) (e : Ext m m') (hw : w'.heap[i.blk]? = w.heap[i.blk]?) : ORel ok m' w' i o := by
  cases o with
  | cells c s own fz ty =>
    obtain ⟨h0, c', el, lo, hi, h1, h2, h3, h4, h5⟩ := h
    exact ⟨h0, c', el, lo, hi, hw.trans h1, h2, h3, fun j v hv => let ⟨v', a, b⟩ := h4 j v hv; ⟨v', a, b.mono e⟩, h5⟩
  | map es clock => obtain ⟨es', h1, h2⟩ := h; exact ⟨es', hw.trans h1, h2.mono e⟩
  | siter s pos => exact ⟨h.1, hw.trans h.2⟩
  | loop r => obtain ⟨r', h1, h2, h3, h4, h5, h6, h7, h8⟩ := h; exact ⟨r', hw.trans h1, h2, h3, h4, h5, h6, h7.mono e, h8⟩

structure HRel (ok : OkC) (G : Nat) (m : Inj) (h : H) (w : World) : Prop where
  obj : ∀ b o i, h.get b = some o → m b = some i → ORel ok m w i o
  inj : ∀ b b' o o' i i', h.get b = some o → o.mut = true → h.get b' = some o' → m b = some i → m b' = some i' → i.blk = i'.blk → b = b'
  dom : ∀ b i, m b = some i → b < h.next ∧ i.blk < w.heap.size
  one : ∀ a, a ∈ h.one → a < h.next ∧ m a = none
  wf : ∀ b, h.next ≤ b → h.get b = none
  glob : ∀ g, g < G → ∃ i, m g = some i ∧ i.blk = g ∧ i.off = 0
/-- The model's block r is where something of D's lies that may be written. -/
def Own (m : Inj) (h : H) (r : Nat) : Prop := ∃ b o i, h.get b = some o ∧ o.mut = true ∧ m b = some i ∧ i.blk = r
/-- From one state to a later one. -/
structure Evo (m : Inj) (h : H) (w : World) (m' : Inj) (h' : H) (w' : World) : Prop where
  ext : Ext m m'
  os : w'.os = w.os
  tape : w'.tape = w.tape
  output : w'.output = w.output
  size : w.heap.size ≤ w'.heap.size
  keep : ∀ r, r < w.heap.size → ¬ Own m h r → w'.heap[r]? = w.heap[r]?
  new : ∀ b i, m' b = some i → m b = none → w.heap.size ≤ i.blk ∨ Own m h i.blk
  own : ∀ r, r < w.heap.size → Own m' h' r → Own m h r
theorem Evo.refl (m : Inj) (h : H) (w : World) : Evo m h w m h w :=
  ⟨Ext.refl m, rfl, rfl, rfl, Nat.le_refl _, fun _ _ _ => rfl, fun b i e e' => (by rw [e] at e'; cases e'), fun _ _ h => h⟩
theorem Evo.trans {m m' m'' : Inj} {h h' h'' : H} {w w' w'' : World} (a : Evo m h w m' h' w') (b : Evo m' h' w' m'' h'' w'') : Evo m h w m'' h'' w'' where
  ext := a.ext.trans b.ext
  os := b.os.trans a.os
  tape := b.tape.trans a.tape
  output := b.output.trans a.output
  size := Nat.le_trans a.size b.size
  keep r hr hn := (b.keep r (Nat.lt_of_lt_of_le hr a.size) fun ho => hn (a.own r hr ho)).trans (a.keep r hr hn)
  new c i e e' := by
    cases hm : m' c with
    | none =>
      rcases b.new c i e hm with h1 | h1
      · exact .inl (Nat.le_trans a.size h1)
      · rcases Nat.lt_or_ge i.blk w.heap.size with h2 | h2
        · exact .inr (a.own _ h2 h1)
        · exact .inl h2
    | some j =>
      have := b.ext c j hm
      rw [e] at this; cases this
      exact a.new c i hm e'
  own r hr ho := a.own r hr (b.own r (Nat.lt_of_lt_of_le hr a.size) ho)

/-- D's block gets another content, the model's block too; nothing else turns. -/
theorem HRel.upd {ok : OkC} {G : Nat} {m : Inj} {h : H} {w w' : World} (R : HRel ok G m h w) {b : Nat} {o o' : DObj} {i : Img} (hb : h.get b = some o) (hm : o.mut = true) (hi : m b = some i)
    (hs : w'.heap.size = w.heap.size) (hw : ∀ r, r ≠ i.blk → w'.heap[r]? = w.heap[r]?) (ho : ORel ok m w' i o') : HRel ok G m (h.put b o') w' where
  obj c u j hc hj := by
    rw [H.get_put] at hc
    by_cases e : c = b
    · subst e; rw [if_pos rfl] at hc; cases hc; rw [hi] at hj; cases hj; exact ho
    · rw [if_neg e] at hc
      exact (R.obj c u j hc hj).congr (Ext.refl m) (hw _ fun e' => e (R.inj b c o u i j hb hm hc hi hj e'.symm).symm)
  inj c d u u' j j' hc hu hd hj hj' e := by
    rw [H.get_put] at hc hd
    by_cases e1 : c = b
    · by_cases e2 : d = b
      · rw [e1, e2]
      · rw [if_neg e2] at hd; subst e1; exact R.inj c d o u' j j' hb hm hd hj hj' e
    · rw [if_neg e1] at hc
      by_cases e2 : d = b
      · subst e2; exact (R.inj d c o u j' j hb hm hc hj' hj e.symm).symm
      · rw [if_neg e2] at hd; exact R.inj c d u u' j j' hc hu hd hj hj' e
  dom c j hj := by rw [hs]; exact R.dom c j hj
  one := R.one
  wf c hc := by
    rw [H.get_put]
    by_cases e : c = b
    · subst e; rw [R.wf c hc] at hb; cases hb
    · rw [if_neg e]; exact R.wf c hc
  glob := R.glob
theorem Evo.upd {m : Inj} {h : H} {w w' : World} {b : Nat} {o o' : DObj} {i : Img} (hb : h.get b = some o) (hm : o.mut = true) (hi : m b = some i)
    (h1 : w'.os = w.os) (h2 : w'.tape = w.tape) (h3 : w'.output = w.output) (hs : w'.heap.size = w.heap.size) (hw : ∀ r, r ≠ i.blk → w'.heap[r]? = w.heap[r]?) : Evo m h w m (h.put b o') w' where
  ext := Ext.refl m
  os := h1
  tape := h2
  output := h3
  size := by rw [hs]; exact Nat.le_refl _
  keep r hr hn := hw r fun e => hn ⟨b, o, i, hb, hm, hi, e.symm⟩
  new c j e e' := by rw [e] at e'; cases e'
  own r hr := by
    rintro ⟨c, u, j, hc, hu, hj, e⟩
    rw [H.get_put] at hc
    by_cases e1 : c = b
    · subst e1; exact ⟨c, o, j, hb, hm, hj, e⟩
    · rw [if_neg e1] at hc; exact ⟨c, u, j, hc, hu, hj, e⟩
def Inj.add (m : Inj) (b : Nat) (i : Img) : Inj := fun c => if c = b then some i else m c
theorem Inj.add_self (m : Inj) (b : Nat) (i : Img) : m.add b i b = some i := by simp [Inj.add]
theorem HRel.fresh {ok : OkC} {G : Nat} {m : Inj} {h : H} {w : World} (R : HRel ok G m h w) : m h.addr = none := by
  unfold H.addr
  split
  · rename_i a r e; exact (R.one a (by rw [e]; exact List.mem_cons_self ..)).2
  · cases e : m h.next with
    | none => rfl
    | some i => exact absurd (R.dom _ _ e).1 (Nat.lt_irrefl _)
theorem Inj.ext_add {m : Inj} {b : Nat} (i : Img) (h : m b = none) : Ext m (m.add b i) := by
  intro c j e
  unfold Inj.add
  by_cases hc : c = b
  · subst hc; rw [h] at e; cases e
  · rw [if_neg hc]; exact e
/-- A new block of D's, where the model's memory has got one more. -/
theorem HRel.alloc {ok : OkC} {G : Nat} {m : Inj} {h : H} {w w' : World} (R : HRel ok G m h w) {o : DObj} {i : Img} (hi : i.blk = w.heap.size) (hs : w'.heap.size = w.heap.size + 1)
    (hw : ∀ r, r < w.heap.size → w'.heap[r]? = w.heap[r]?) (ho : ORel ok (m.add h.addr i) w' i o) : HRel ok G (m.add h.addr i) (h.new o) w' where
  obj c u j hc hj := by
    rw [H.get_new] at hc
    by_cases e : c = h.addr
    · subst e; rw [if_pos rfl] at hc; cases hc; rw [Inj.add_self] at hj; cases hj; exact ho
    · rw [if_neg e] at hc
      unfold Inj.add at hj; rw [if_neg e] at hj
      exact (R.obj c u j hc hj).congr (Inj.ext_add i R.fresh) (hw _ (R.dom c j hj).2)
  inj c d u u' j j' hc hu hd hj hj' e := by
    rw [H.get_new] at hc hd
    unfold Inj.add at hj hj'
    by_cases e1 : c = h.addr
    · by_cases e2 : d = h.addr
      · rw [e1, e2]
      · rw [if_pos e1] at hj; rw [if_neg e2] at hj'; cases hj
        have := (R.dom d j' hj').2
        omega
    · rw [if_neg e1] at hj hc
      by_cases e2 : d = h.addr
      · rw [if_pos e2] at hj'; cases hj'
        have := (R.dom c j hj).2
        omega
      · rw [if_neg e2] at hj' hd; exact R.inj c d u u' j j' hc hu hd hj hj' e
  dom c j hj := by
    unfold Inj.add at hj
    by_cases e : c = h.addr
    · rw [if_pos e] at hj; cases hj
      exact ⟨by rw [e]; exact H.lt_new _ _ fun a ha => (R.one a ha).1, by omega⟩
    · rw [if_neg e] at hj
      have := R.dom c j hj
      exact ⟨Nat.lt_of_lt_of_le this.1 (H.next_new _ _), by omega⟩
  one a ha := by
    have ⟨h1, h2⟩ := H.one_new ha
    exact ⟨Nat.lt_of_lt_of_le (R.one a h1).1 (H.next_new _ _), by unfold Inj.add; rw [if_neg h2]; exact (R.one a h1).2⟩
  wf c hc := by
    rw [H.get_new, if_neg, R.wf c (Nat.le_trans (H.next_new _ _) hc)]
    have := H.lt_new h o fun a ha => (R.one a ha).1
    omega
  glob g hg := let ⟨j, h1, h2⟩ := R.glob g hg; ⟨j, Inj.ext_add i R.fresh _ _ h1, h2⟩
theorem Evo.alloc {ok : OkC} {G : Nat} {m : Inj} {h : H} {w w' : World} (R : HRel ok G m h w) {o : DObj} {i : Img} (hi : i.blk = w.heap.size) (h1 : w'.os = w.os) (h2 : w'.tape = w.tape) (h3 : w'.output = w.output) (hs : w'.heap.size = w.heap.size + 1)
    (hw : ∀ r, r < w.heap.size → w'.heap[r]? = w.heap[r]?) : Evo m h w (m.add h.addr i) (h.new o) w' where
  ext := Inj.ext_add i R.fresh
  os := h1
  tape := h2
  output := h3
  size := by omega
  keep r hr _ := hw r hr
  new c j e e' := by
    unfold Inj.add at e
    by_cases hc : c = h.addr
    · rw [if_pos hc] at e; cases e; exact .inl (by omega)
    · rw [if_neg hc] at e; rw [e] at e'; cases e'
  own r hr := by
    rintro ⟨c, u, j, hc, hu, hj, e⟩
    rw [H.get_new] at hc
    unfold Inj.add at hj
    by_cases e1 : c = h.addr
    · rw [if_pos e1] at hj; cases hj; omega
    · rw [if_neg e1] at hc hj; exact ⟨c, u, j, hc, hu, hj, e⟩
/-- The world has drawn: no block turns. -/
theorem HRel.same {ok : OkC} {G : Nat} {m : Inj} {h : H} {w w' : World} (R : HRel ok G m h w) (hw : w'.heap = w.heap) : HRel ok G m h w' where
  obj c u j hc hj := (R.obj c u j hc hj).congr (Ext.refl m) (by rw [hw])
  inj := R.inj
  dom c j hj := by rw [hw]; exact R.dom c j hj
  one := R.one
  wf := R.wf
  glob := R.glob
theorem Evo.same {m : Inj} {h : H} {w w' : World} (hw : w'.heap = w.heap) (h1 : w'.os = w.os) (h2 : w'.tape = w.tape) (h3 : w'.output = w.output) : Evo m h w m h w' :=
  ⟨Ext.refl m, h1, h2, h3, by rw [hw]; exact Nat.le_refl _, fun _ _ _ => by rw [hw], fun b i e e' => (by rw [e] at e'; cases e'), fun _ _ h => h⟩
theorem HRel.drop {ok : OkC} {G : Nat} {m : Inj} {h : H} {w : World} (R : HRel ok G m h w) (b : Nat) : HRel ok G m (h.drop b) w where
  obj c u j hc hj := by
    rw [H.get_drop] at hc
    by_cases e : c = b
    · rw [if_pos e] at hc; cases hc
    · rw [if_neg e] at hc; exact R.obj c u j hc hj
  inj c d u u' j j' hc hu hd := by
    rw [H.get_drop] at hc hd
    by_cases e : c = b
    · rw [if_pos e] at hc; cases hc
    · rw [if_neg e] at hc
      by_cases e2 : d = b
      · rw [if_pos e2] at hd; cases hd
      · rw [if_neg e2] at hd; exact R.inj c d u u' j j' hc hu hd
  dom := R.dom
  one := R.one
  wf c hc := by
    rw [H.get_drop]
    by_cases e : c = b
    · rw [if_pos e]
    · rw [if_neg e]; exact R.wf c hc
  glob := R.glob
/-- Another memory of D's that is the same where something of the model's answers. -/
theorem HRel.view {ok : OkC} {G : Nat} {m : Inj} {h h2 : H} {w : World} (R : HRel ok G m h w) (hg : ∀ b i, m b = some i → h2.get b = h.get b) (hd : ∀ b i, m b = some i → b < h2.next)
    (hwf : ∀ b, h2.next ≤ b → h2.get b = none) (ho : ∀ a, a ∈ h2.one → a < h2.next ∧ m a = none) : HRel ok G m h2 w where
  obj b o i hb hi := R.obj b o i (by rw [← hg b i hi]; exact hb) hi
  inj b b' o o' i i' hb hm hb' hi hi' e := R.inj b b' o o' i i' (by rw [← hg b i hi]; exact hb) hm (by rw [← hg b' i' hi']; exact hb') hi hi' e
  dom b i hi := ⟨hd b i hi, (R.dom b i hi).2⟩
  one := ho
  wf := hwf
  glob := R.glob
theorem Own.view {m : Inj} {h h2 : H} (hg : ∀ b i, m b = some i → h2.get b = h.get b) {r : Nat} (ho : Own m h r) : Own m h2 r :=
  let ⟨b, o, i, h1, h2, h3, h4⟩ := ho; ⟨b, o, i, (hg b i h3).trans h1, h2, h3, h4⟩
theorem Evo.view {m m' : Inj} {h h2 h' h2' : H} {w w' : World} (e : Evo m h w m' h' w') (hg : ∀ b i, m b = some i → h2.get b = h.get b) (hg' : ∀ b i, m' b = some i → h2'.get b = h'.get b) : Evo m h2 w m' h2' w' where
  ext := e.ext
  os := e.os
  tape := e.tape
  output := e.output
  size := e.size
  keep r hr hn := e.keep r hr fun ho => hn (ho.view hg)
  new b i h1 h2 := (e.new b i h1 h2).imp id fun ho => ho.view hg
  own r hr ho := (e.own r hr (ho.view fun b i hi => (hg' b i hi).symm)).view hg
end Go.Dm
