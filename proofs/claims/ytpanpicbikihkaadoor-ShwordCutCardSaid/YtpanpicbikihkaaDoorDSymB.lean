/- The machine D, 31: the calculus' words for simp: structs, slices, appends, conversions. -/
import Derived.Test.YtpanpicbikihkaaDoorDSym
set_option linter.unusedVariables false
set_option linter.unusedSimpArgs false
namespace Go.Dm
section
variable {E : Env} {X : Plug}
def aggT (d : Option TypeDesc) (n : Option Nat) : Option (Option Nat) := match d with
  | some (.struct _) | some (.array _ _) => n.map some
  | some _ => some none
  | none => none
@[simp] theorem aggN_eq (t : TypeId) : aggN E t = aggT (E.und t) (E.siz t) := _root_.id rfl
@[simp] theorem aggT_struct (fs : Array Field) (n : Nat) : aggT (some (.struct fs)) (some n) = some (some n) := _root_.id rfl
@[simp] theorem aggT_array (k : Nat) (t : TypeId) (n : Nat) : aggT (some (.array k t)) (some n) = some (some n) := _root_.id rfl
@[simp] theorem aggT_bool (n : Option Nat) : aggT (some .bool) n = some none := _root_.id rfl
@[simp] theorem aggT_int (k : IntKind) (n : Option Nat) : aggT (some (.int k)) n = some none := _root_.id rfl
@[simp] theorem aggT_string (n : Option Nat) : aggT (some .string) n = some none := _root_.id rfl
@[simp] theorem aggT_pointer (t : TypeId) (n : Option Nat) : aggT (some (.pointer t)) n = some none := _root_.id rfl
@[simp] theorem aggT_slice (t : TypeId) (n : Option Nat) : aggT (some (.slice t)) n = some none := _root_.id rfl
@[simp] theorem aggT_map (k t : TypeId) (n : Option Nat) : aggT (some (.map k t)) n = some none := _root_.id rfl
@[simp] theorem aggT_func (a b : Array TypeId) (v : Bool) (n : Option Nat) : aggT (some (.func a b v)) n = some none := _root_.id rfl
@[simp] theorem aggT_iface (a : Array (String × TypeId)) (n : Option Nat) : aggT (some (.interface a)) n = some none := _root_.id rfl
/-! fields -/
def faN (b o : Nat) (n : Option Nat) : Option Value := match n with
  | some n => if n = 0 then none else some (.pointer (some ⟨b, o, none⟩))
  | none => none
@[simp] theorem faN_some (b o n : Nat) : faN b o (some n) = if n = 0 then none else some (.pointer (some ⟨b, o, none⟩)) := _root_.id rfl
def faF (E : Env) (b o : Nat) (f : Option Field) : Option Value := match f with
  | some f => faN b (o + f.offset) (E.siz f.type)
  | none => none
@[simp] theorem faF_some (b o : Nat) (f : Field) : faF E b o (some f) = faN b (o + f.offset) (E.siz f.type) := _root_.id rfl
def fieldAddrT (E : Env) (d : Option TypeDesc) (a : Value) (field : Nat) : Option Value := match d, a with
  | some (.struct fields), .pointer (some ⟨b, o, none⟩) => faF E b o fields.toList[field]?
  | _, _ => none
@[simp] theorem fieldAddrD_eq (s : TypeId) (a : Value) (f : Nat) : fieldAddrD E s a f = fieldAddrT E (E.und s) a f := by
  unfold fieldAddrD fieldAddrT
  generalize E.und s = d
  split
  · rename_i fs b o
    simp only [faF, Array.getElem?_toList]
    cases fs[f]? with
    | none => rfl
    | some x => simp only [faN]; cases E.siz x.type <;> rfl
  · rename_i hh
    split
    · exact absurd rfl (hh _ _ _ rfl)
    · rfl
@[simp] theorem fieldAddrT_ptr (fs : Array Field) (b o f : Nat) : fieldAddrT E (some (.struct fs)) (.pointer (some ⟨b, o, none⟩)) f = faF E b o fs.toList[f]? := _root_.id rfl
def fieldF (E : Env) (cs : List Value) (f : Option Field) : Option Value := match f with
  | some f => partD E f.type cs f.offset
  | none => none
@[simp] theorem fieldF_some (cs : List Value) (f : Field) : fieldF E cs (some f) = partD E f.type cs f.offset := _root_.id rfl
def fieldT (E : Env) (d : Option TypeDesc) (x : Value) (field : Nat) : Option Value := match d, x with
  | some (.struct fields), .agg cs => fieldF E cs.toList fields.toList[field]?
  | _, _ => none
@[simp] theorem fieldD_eq (t : TypeId) (x : Value) (f : Nat) : fieldD E t x f = fieldT E (E.und t) x f := by
  unfold fieldD fieldT
  generalize E.und t = d
  split
  · rename_i fs cs
    simp only [fieldF, Array.getElem?_toList]
    cases fs[f]? <;> rfl
  · rename_i hh
    split
    · exact absurd rfl (hh _ _ rfl)
    · rfl
@[simp] theorem fieldT_agg (fs : Array Field) (cs : Array Value) (f : Nat) : fieldT E (some (.struct fs)) (.agg cs) f = fieldF E cs.toList fs.toList[f]? := _root_.id rfl
/-! indexes -/
def iaN (b o : Nat) (i : Int) (len : Nat) (n : Option Nat) : Option Value := match n with
  | some n => if 0 ≤ i ∧ i < (len : Int) then some (.pointer (some ⟨b, o + i.toNat * n, none⟩)) else none
  | none => none
@[simp] theorem iaN_some (b o len n : Nat) (i : Int) : iaN b o i len (some n) = if 0 ≤ i ∧ i < (len : Int) then some (.pointer (some ⟨b, o + i.toNat * n, none⟩)) else none := _root_.id rfl
def indexAddrT (E : Env) (d : Option TypeDesc) (x index : Value) : Option Value := match d, x, index with
  | some (.array len elem), .pointer (some ⟨b, o, none⟩), .int _ i => iaN b o i len (E.siz elem)
  | some (.slice elem), .slice (some ⟨b, o, none⟩) len _, .int _ i => iaN b o i len (E.siz elem)
  | _, _, _ => none
@[simp] theorem indexAddrD_eq (t : TypeId) (x i : Value) : indexAddrD E t x i = indexAddrT E (E.und t) x i := by
  unfold indexAddrD indexAddrT
  generalize E.und t = d
  split
  · rename_i len elem b o k j
    show _ = iaN b o j len (E.siz elem)
    unfold iaN
    generalize E.siz elem = n
    cases n <;> simp
  · rename_i elem b o len c k j
    show _ = iaN b o j len (E.siz elem)
    unfold iaN
    generalize E.siz elem = n
    cases n <;> simp
  · rename_i h1 h2
    split
    · exact absurd rfl (h1 _ _ _ _ _ _ rfl rfl)
    · exact absurd rfl (h2 _ _ _ _ _ _ _ rfl rfl)
    · rfl
@[simp] theorem indexAddrT_array (len : Nat) (elem : TypeId) (b o : Nat) (k : IntKind) (i : Int) : indexAddrT E (some (.array len elem)) (.pointer (some ⟨b, o, none⟩)) (.int k i) = iaN b o i len (E.siz elem) := _root_.id rfl
@[simp] theorem indexAddrT_slice (elem : TypeId) (b o len cap : Nat) (k : IntKind) (i : Int) : indexAddrT E (some (.slice elem)) (.slice (some ⟨b, o, none⟩) len cap) (.int k i) = iaN b o i len (E.siz elem) := _root_.id rfl
def ixN (E : Env) (elem : TypeId) (cs : List Value) (i : Int) (len : Nat) (n : Option Nat) : Option Value := match n with
  | some n => if 0 ≤ i ∧ i < (len : Int) then partD E elem cs (i.toNat * n) else none
  | none => none
@[simp] theorem ixN_some (elem : TypeId) (cs : List Value) (i : Int) (len n : Nat) : ixN E elem cs i len (some n) = if 0 ≤ i ∧ i < (len : Int) then partD E elem cs (i.toNat * n) else none := _root_.id rfl
@[simp] theorem indexT_array (len : Nat) (elem : TypeId) (cs : Array Value) (k : IntKind) (i : Int) : indexT E (some (.array len elem)) (.agg cs) (.int k i) = ixN E elem cs.toList i len (E.siz elem) := by
  show (if 0 ≤ i && i < (len : Int) then match E.siz elem with
      | some n => partD E elem cs.toList (i.toNat * n)
      | none => none
    else none) = _
  unfold ixN
  generalize E.siz elem = n
  cases n with
  | none => simp
  | some n => by_cases c : 0 ≤ i ∧ i < (len : Int) <;> simp [c]
/-! building -/
def consPl (off : Nat) (n : Option Nat) (r : Option (List (Nat × Nat))) : Option (List (Nat × Nat)) := match n, r with
  | some n, some r => some ((off, n) :: r)
  | _, _ => none
@[simp] theorem consPl_some (off n : Nat) (r : List (Nat × Nat)) : consPl off (some n) (some r) = some ((off, n) :: r) := _root_.id rfl
@[simp] theorem placesD_nil : placesD E [] = some [] := _root_.id rfl
@[simp] theorem placesD_cons (f : Field) (fs : List Field) : placesD E (f :: fs) = consPl f.offset (E.siz f.type) (placesD E fs) := by
  simp only [placesD, consPl]
  cases E.siz f.type <;> cases placesD E fs <;> rfl
def fillS (place : Nat → Option (Nat × Nat)) (cells : List Value) (v : Value) (rest : List (Nat × Value)) (p : Option (Nat × Nat)) : Option (List Value) := match p with
  | none => none
  | some (off, size) => if v.cells.size = size ∧ off + size ≤ cells.length then fillD place (setAt cells off v.cells.toList) rest else none
@[simp] theorem fillS_some (place : Nat → Option (Nat × Nat)) (cells : List Value) (v : Value) (rest : List (Nat × Value)) (off size : Nat) : fillS place cells v rest (some (off, size)) = if v.cells.size = size ∧ off + size ≤ cells.length then fillD place (setAt cells off v.cells.toList) rest else none := _root_.id rfl
@[simp] theorem fillD_nil (place : Nat → Option (Nat × Nat)) (cells : List Value) : fillD place cells [] = some cells := _root_.id rfl
@[simp] theorem fillD_cons (place : Nat → Option (Nat × Nat)) (cells : List Value) (i : Nat) (v : Value) (rest : List (Nat × Value)) : fillD place cells ((i, v) :: rest) = fillS place cells v rest (place i) := by
  simp only [fillD, fillS]
  cases place i with
  | none => rfl
  | some p =>
    obtain ⟨off, size⟩ := p
    by_cases h : v.cells.size = size
    · simp [h]
    · simp [h]
def aggO (o : Option (List Value)) : Option Value := match o with
  | some cs => some (.agg cs.toArray)
  | none => none
@[simp] theorem aggO_some (cs : List Value) : aggO (some cs) = some (.agg cs.toArray) := _root_.id rfl
@[simp] theorem aggO_ite (c : Prop) [Decidable c] (o : Option (List Value)) : aggO (if c then o else none) = if c then aggO o else none := by by_cases h : c <;> simp [h, aggO]
def fillP (z : List Value) (ps : List (Nat × Value)) (pl : Option (List (Nat × Nat))) : Option (List Value) := match pl with
  | some pl => fillD (pl[·]?) z ps
  | none => none
@[simp] theorem fillP_some (z : List Value) (ps : List (Nat × Value)) (pl : List (Nat × Nat)) : fillP z ps (some pl) = fillD (pl[·]?) z ps := _root_.id rfl
def fillA (z : List Value) (ps : List (Nat × Value)) (n : Option Nat) : Option (List Value) := match n with
  | some n => fillD (fun i => some (i * n, n)) z ps
  | none => none
@[simp] theorem fillA_some (z : List Value) (ps : List (Nat × Value)) (n : Nat) : fillA z ps (some n) = fillD (fun i => some (i * n, n)) z ps := _root_.id rfl
def buildT (E : Env) (z : Option Value) (d : Option TypeDesc) (ps : List (Nat × Value)) : Option Value := match z, d with
  | some z, some (.struct fields) => aggO (fillP z.cells.toList ps (placesD E fields.toList))
  | some z, some (.array _ elem) => aggO (fillA z.cells.toList ps (E.siz elem))
  | _, _ => none
@[simp] theorem buildD_eq (t : TypeId) (ps : List (Nat × Value)) : buildD E t ps = buildT E (zeroD E t) (E.und t) ps := by
  unfold buildD buildT
  generalize E.und t = d
  generalize zeroD E t = z
  split
  · rename_i z fs
    simp only [aggO, fillP]
    cases placesD E fs.toList with
    | none => rfl
    | some pl => cases fillD (pl[·]?) z.cells.toList ps <;> rfl
  · rename_i z n elem
    simp only [aggO, fillA]
    cases E.siz elem with
    | none => rfl
    | some n => cases fillD (fun i => some (i * n, n)) z.cells.toList ps <;> rfl
  · rename_i h1 h2
    split
    · exact absurd rfl (h1 _ _ rfl)
    · exact absurd rfl (h2 _ _ _ rfl)
    · rfl
@[simp] theorem buildT_struct (z : Value) (fs : Array Field) (ps : List (Nat × Value)) : buildT E (some z) (some (.struct fs)) ps = aggO (fillP z.cells.toList ps (placesD E fs.toList)) := _root_.id rfl
@[simp] theorem buildT_array (z : Value) (n : Nat) (elem : TypeId) (ps : List (Nat × Value)) : buildT E (some z) (some (.array n elem)) ps = aggO (fillA z.cells.toList ps (E.siz elem)) := _root_.id rfl
def slNew (n len : Nat) (h : H) (o : Option (List Value)) : Option (Value × H) := match o with
  | some cs => some (.slice (some ⟨h.addr, 0, none⟩) len len, h.new (.cells cs n true 0 none))
  | none => none
@[simp] theorem slNew_some (n len : Nat) (h : H) (cs : List Value) : slNew n len h (some cs) = some (.slice (some ⟨h.addr, 0, none⟩) len len, h.new (.cells cs n true 0 none)) := _root_.id rfl
@[simp] theorem slNew_ite (n len : Nat) (h : H) (c : Prop) [Decidable c] (o : Option (List Value)) : slNew n len h (if c then o else none) = if c then slNew n len h o else none := by by_cases e : c <;> simp [e, slNew]
def bsN (len : Nat) (ps : List (Nat × Value)) (h : H) (n : Option Nat) (z : Option Value) : Option (Value × H) := match n, z with
  | some n, some z => if len * n ≤ 2 ^ 24 ∧ z.cells.size = n ∧ 0 < n then slNew n len h (fillD (fun i => some (i * n, n)) (zerosD z.cells.toList (len * n)) ps) else none
  | _, _ => none
@[simp] theorem bsN_some (len : Nat) (ps : List (Nat × Value)) (h : H) (n : Nat) (z : Value) : bsN len ps h (some n) (some z) = if len * n ≤ 2 ^ 24 ∧ z.cells.size = n ∧ 0 < n then slNew n len h (fillD (fun i => some (i * n, n)) (zerosD z.cells.toList (len * n)) ps) else none := _root_.id rfl
def bsT (E : Env) (d : Option TypeDesc) (len : Nat) (ps : List (Nat × Value)) (h : H) : Option (Value × H) := match d with
  | some (.slice elem) => bsN len ps h (E.siz elem) (zeroD E elem)
  | _ => none
@[simp] theorem buildSliceD_eq (t : TypeId) (len : Nat) (ps : List (Nat × Value)) (h : H) : buildSliceD E t len ps h = bsT E (E.und t) len ps h := by
  unfold buildSliceD bsT
  cases E.und t with
  | none => rfl
  | some d =>
    cases d <;> try rfl
    rename_i elem
    simp only [bsN]
    cases E.siz elem with
    | none => rfl
    | some n =>
      cases zeroD E elem with
      | none => rfl
      | some z =>
        by_cases c1 : len * n ≤ 2 ^ 24 ∧ z.cells.size = n ∧ 0 < n
        · have c2 : (decide (len * n ≤ 2 ^ 24) && z.cells.size == n && decide (0 < n)) = true := by simp [c1]
          dsimp only
          rw [if_pos c2, if_pos c1]
          unfold slNew
          cases fillD (fun i => some (i * n, n)) (zerosD z.cells.toList (len * n)) ps <;> rfl
        · have c2 : ¬ (decide (len * n ≤ 2 ^ 24) && z.cells.size == n && decide (0 < n)) = true := by
            simp only [Bool.and_eq_true, decide_eq_true_eq, beq_iff_eq]; exact fun x => c1 ⟨x.1.1, x.1.2, x.2⟩
          dsimp only
          rw [if_neg c2, if_neg c1]
@[simp] theorem bsT_slice (elem : TypeId) (len : Nat) (ps : List (Nat × Value)) (h : H) : bsT E (some (.slice elem)) len ps h = bsN len ps h (E.siz elem) (zeroD E elem) := _root_.id rfl
@[simp] theorem zerosD_zero (z : List Value) : zerosD z 0 = [] := _root_.id rfl
def undefs (n : Nat) : List Value := List.replicate n undef
/-! extract -/
@[simp] theorem extractD_tuple (vs : List Value) (i : Nat) : extractD (.tuple vs.toArray) i = vs[i]? := by simp [extractD]
/-! append -/
def Env.byt (E : Env) (t : TypeId) : Option Nat := (E.ty t).map (·.bytes)
def appS (ty0 : Option TypeId) (elem : TypeId) (n by' : Nat) (s : Value) (k : Nat) (cs : List Value) (h : H) : Option (Value × H) := match s with
  | .slice none 0 0 => if k = 0 then some (s, h) else
    if k * (by' + 1) ≤ 2 ^ 44 && by' ≤ 2 ^ 32 then some (.slice (some ⟨h.addr, 0, none⟩) k k, h.new (.cells cs n true 0 ty0)) else none
  | .slice (some ⟨b, o, none⟩) len cap =>
    if k = 0 then some (s, h) else
    if len + k ≤ cap then
      match stCells b (o + len * n) cs h with
      | some h' => some (.slice (some ⟨b, o, none⟩) (len + k) cap, h')
      | none => none
    else if (len + k) * (by' + 1) ≤ 2 ^ 44 && by' ≤ 2 ^ 32 && cs.all cellV then
      match h.get b with
      | some (.cells c st true fz ty) => if st = n && o + len * n ≤ c.length && fz ≤ o + len * n && (ty == none || (ty == some elem && o == 0)) then
          some (.slice (some ⟨h.addr, 0, none⟩) (len + k) (len + k), (h.drop b).new (.cells ((c.drop o).take (len * n) ++ cs) n true (fz - o) ty))
        else none
      | _ => none
    else none
  | _ => none
def appX (ty0 : Option TypeId) (elem : TypeId) (n by' : Nat) (s : Value) (src : Option (Nat × List Value)) (h : H) : Option (Value × H) := match src with
  | some (k, cs) => if cs.length = k * n then appS ty0 elem n by' s k cs h else none
  | none => none
@[simp] theorem appX_some (ty0 : Option TypeId) (elem : TypeId) (n by' : Nat) (s : Value) (k : Nat) (cs : List Value) (h : H) : appX ty0 elem n by' s (some (k, cs)) h = if cs.length = k * n then appS ty0 elem n by' s k cs h else none := _root_.id rfl
def appU (ty0 : Option TypeId) (elem : TypeId) (n by' : Option Nat) (z : Option Value) (s x : Value) (h : H) : Option (Value × H) := match n, by', z with
  | some n, some b, some z => if n = 0 ∨ z.cells.size ≠ n then none else appX ty0 elem n b s (srcD n x h) h
  | _, _, _ => none
@[simp] theorem appU_some (ty0 : Option TypeId) (elem : TypeId) (n b : Nat) (z : Value) (s x : Value) (h : H) : appU ty0 elem (some n) (some b) (some z) s x h = if n = 0 ∨ z.cells.size ≠ n then none else appX ty0 elem n b s (srcD n x h) h := _root_.id rfl
def appT (E : Env) (d xd : Option TypeDesc) (s x : Value) (h : H) : Option (Value × H) := match d, xd with
  | some (.slice elem), some xd => if isIntT xd then none else appU (E.tag elem) elem (E.siz elem) (E.byt elem) (zeroD E elem) s x h
  | _, _ => none
@[simp] theorem appendD_eq (t xt : TypeId) (s x : Value) (h : H) : appendD E [t, xt] s x h = appT E (E.und t) (E.und xt) s x h := by
  unfold appendD appT
  dsimp only
  generalize E.und t = d
  generalize E.und xt = xd
  cases d with
  | none => rfl
  | some d =>
    cases d <;> try (cases xd <;> rfl)
    rename_i elem
    cases xd with
    | none => rfl
    | some xd =>
      dsimp only
      unfold appU Env.siz Env.byt
      generalize E.ty elem = ty
      generalize zeroD E elem = z
      cases ty with
      | none => simp
      | some i =>
        cases z with
        | none => simp
        | some z =>
          simp only [Option.map_some]
          by_cases h1 : isIntT xd = true
          · simp [h1]
          · by_cases h2 : i.size = 0
            · simp [h1, h2]
            · by_cases h3 : z.cells.size = i.size
              · simp only [h1, h2, h3, appX]
                simp only [beq_self_eq_true, Bool.not_true, Bool.or_false, beq_iff_eq, h2, if_false, or_self, ne_eq, not_true_eq_false, Bool.false_eq_true, Bool.or_eq_true]
                cases srcD i.size x h with
                | none => rfl
                | some r =>
                  obtain ⟨k, cs⟩ := r
                  simp only
                  by_cases h4 : cs.length = k * i.size
                  · simp only [h4, if_true, appS]
                    rfl
                  · simp only [h4, if_false]
              · have h3' : (z.cells.size == i.size) = false := by simpa using h3
                simp [h1, h2, h3]
@[simp] theorem appT_slice (elem : TypeId) (xd : TypeDesc) (s x : Value) (h : H) : appT E (some (.slice elem)) (some xd) s x h = if isIntT xd then none else appU (E.tag elem) elem (E.siz elem) (E.byt elem) (zeroD E elem) s x h := _root_.id rfl
@[simp] theorem isIntT_slice (t : TypeId) : isIntT (.slice t) = false := _root_.id rfl
@[simp] theorem isIntT_string : isIntT .string = false := _root_.id rfl
@[simp] theorem appS_nil (ty0 : Option TypeId) (elem : TypeId) (n b k : Nat) (cs : List Value) (h : H) : appS ty0 elem n b (.slice none 0 0) k cs h = if k = 0 then some (.slice none 0 0, h) else if k * (b + 1) ≤ 2 ^ 44 ∧ b ≤ 2 ^ 32 then some (.slice (some ⟨h.addr, 0, none⟩) k k, h.new (.cells cs n true 0 ty0)) else none := by
  simp [appS]
def growC (elem : TypeId) (n : Nat) (b o len k : Nat) (cs : List Value) (h : H) (x : Option DObj) : Option (Value × H) := match x with
  | some (.cells c st true fz ty) => if st = n ∧ o + len * n ≤ c.length ∧ fz ≤ o + len * n ∧ (ty = none ∨ ty = some elem ∧ o = 0) then
      some (.slice (some ⟨h.addr, 0, none⟩) (len + k) (len + k), (h.drop b).new (.cells ((c.drop o).take (len * n) ++ cs) n true (fz - o) ty)) else none
  | _ => none
@[simp] theorem growC_some (elem : TypeId) (n b o len k : Nat) (cs : List Value) (h : H) (c : List Value) (st fz : Nat) (ty : Option TypeId) : growC elem n b o len k cs h (some (.cells c st true fz ty)) = if st = n ∧ o + len * n ≤ c.length ∧ fz ≤ o + len * n ∧ (ty = none ∨ ty = some elem ∧ o = 0) then
      some (.slice (some ⟨h.addr, 0, none⟩) (len + k) (len + k), (h.drop b).new (.cells ((c.drop o).take (len * n) ++ cs) n true (fz - o) ty)) else none := rfl
def roomC (b o len k cap : Nat) (x : Option H) : Option (Value × H) := match x with
  | some h' => some (.slice (some ⟨b, o, none⟩) (len + k) cap, h')
  | none => none
@[simp] theorem roomC_some (b o len k cap : Nat) (h : H) : roomC b o len k cap (some h) = some (.slice (some ⟨b, o, none⟩) (len + k) cap, h) := _root_.id rfl
@[simp] theorem roomC_ite (b o len k cap : Nat) (c : Prop) [Decidable c] (x : Option H) : roomC b o len k cap (if c then x else none) = if c then roomC b o len k cap x else none := by by_cases e : c <;> simp [e, roomC]
theorem appS_some (ty0 : Option TypeId) (elem : TypeId) (n by' k : Nat) (cs : List Value) (b o len cap : Nat) (h : H) : appS ty0 elem n by' (.slice (some ⟨b, o, none⟩) len cap) k cs h = if k = 0 then some (.slice (some ⟨b, o, none⟩) len cap, h) else if len + k ≤ cap then roomC b o len k cap (stCells b (o + len * n) cs h) else if (len + k) * (by' + 1) ≤ 2 ^ 44 ∧ by' ≤ 2 ^ 32 ∧ cs.all cellV = true then growC elem n b o len k cs h (h.get b) else none := by
  simp only [appS]
  by_cases hk : k = 0
  · simp [hk]
  · simp only [hk, if_false]
    by_cases hl : len + k ≤ cap
    · simp only [hl, if_true, roomC]
    · simp only [hl, if_false]
      by_cases h1 : (len + k) * (by' + 1) ≤ 2 ^ 44 ∧ by' ≤ 2 ^ 32 ∧ cs.all cellV = true
      · simp only [h1, decide_true, Bool.and_self, Bool.and_true, if_true, and_self]
        cases h.get b with
        | none => rfl
        | some x =>
          cases x with
          | cells c st own fz ty =>
            cases own with
            | false => rfl
            | true =>
              dsimp only [growC]
              by_cases q : st = n ∧ o + len * n ≤ c.length ∧ fz ≤ o + len * n ∧ (ty = none ∨ ty = some elem ∧ o = 0)
              · rw [if_pos q, if_pos]
                simp only [Bool.and_eq_true, decide_eq_true_eq, Bool.or_eq_true, beq_iff_eq]
                exact ⟨⟨⟨q.1, q.2.1⟩, q.2.2.1⟩, q.2.2.2⟩
              · rw [if_neg q, if_neg]
                simp only [Bool.and_eq_true, decide_eq_true_eq, Bool.or_eq_true, beq_iff_eq]
                exact fun hh => q ⟨hh.1.1.1, hh.1.1.2, hh.1.2, hh.2⟩
          | _ => rfl
      · have : ((decide ((len + k) * (by' + 1) ≤ 2 ^ 44) && decide (by' ≤ 2 ^ 32) && cs.all cellV)) = false := by
          rw [Bool.eq_false_iff]; intro hh; simp only [Bool.and_eq_true, decide_eq_true_eq] at hh; exact h1 ⟨hh.1.1, hh.1.2, hh.2⟩
        rw [this, if_neg h1]; rfl
attribute [simp] appS_some
def readC (o n : Nat) (x : Option DObj) : Option (List Value) := match x with
  | some (.cells c _ _ _ _) => if o + n ≤ c.length then some ((c.drop o).take n) else none
  | _ => none
@[simp] theorem readC_some (o n : Nat) (c : List Value) (s : Nat) (own : Bool) (fz : Nat) (ty : Option TypeId) : readC o n (some (.cells c s own fz ty)) = if o + n ≤ c.length then some ((c.drop o).take n) else none := _root_.id rfl
@[simp] theorem readD_eq (b o n : Nat) (h : H) : readD b o n h = readC o n (h.get b) := _root_.id rfl
def lenC (len : Nat) (x : Option (List Value)) : Option (Nat × List Value) := x.map fun c => (len, c)
@[simp] theorem lenC_some (len : Nat) (c : List Value) : lenC len (some c) = some (len, c) := _root_.id rfl
@[simp] theorem lenC_ite (len : Nat) (c : Prop) [Decidable c] (x : Option (List Value)) : lenC len (if c then x else none) = if c then lenC len x else none := by by_cases e : c <;> simp [e, lenC]
@[simp] theorem srcD_nil (n c : Nat) (h : H) : srcD n (.slice none 0 c) h = some (0, []) := _root_.id rfl
@[simp] theorem srcD_some (n b o len c : Nat) (h : H) : srcD n (.slice (some ⟨b, o, none⟩) len c) h = if len = 0 then some (0, []) else lenC len (readD b o (len * n) h) := _root_.id rfl
@[simp] theorem srcD_str (n : Nat) (l : List UInt8) (h : H) : srcD n (str l) h = some (l.length, l.map fun b => .int .u8 b.toNat) := by
  simp only [srcD, str, bytes_size]
@[simp] theorem appX_ite (ty0 : Option TypeId) (elem : TypeId) (n by' : Nat) (s : Value) (c : Prop) [Decidable c] (x : Option (Nat × List Value)) (h : H) : appX ty0 elem n by' s (if c then x else none) h = if c then appX ty0 elem n by' s x h else none := by by_cases e : c <;> simp [e, appX]
/-! slices of slices and arrays -/
def slR (b o sz : Nat) (r : Option (Nat × Nat × Nat)) (x : Option DObj) : Option Value := match r, x with
  | some (l, hi, m), some (.cells _ s _ _ _) => if s = 0 ∨ s = sz then some (.slice (some ⟨b, o + l * sz, none⟩) (hi - l) (m - l)) else none
  | _, _ => none
@[simp] theorem slR_some (b o sz l hi m : Nat) (c : List Value) (s : Nat) (own : Bool) (fz : Nat) (ty : Option TypeId) : slR b o sz (some (l, hi, m)) (some (.cells c s own fz ty)) = if s = 0 ∨ s = sz then some (.slice (some ⟨b, o + l * sz, none⟩) (hi - l) (m - l)) else none := _root_.id rfl
def slS (b o : Nat) (r : Option (Nat × Nat × Nat)) (x : Option DObj) (n : Option Nat) : Option Value := match n with
  | some sz => slR b o sz r x
  | none => none
@[simp] theorem slS_some (b o : Nat) (r : Option (Nat × Nat × Nat)) (x : Option DObj) (n : Nat) : slS b o r x (some n) = slR b o n r x := _root_.id rfl
@[simp] theorem slS_ite (b o : Nat) (c : Prop) [Decidable c] (r : Option (Nat × Nat × Nat)) (x : Option DObj) (n : Option Nat) : slS b o (if c then r else none) x n = if c then slS b o r x n else none := by
  by_cases e : c
  · simp [e]
  · simp only [e, if_false]; cases n <;> rfl
@[simp] theorem sliceT_slice (elem : TypeId) (b o len cap : Nat) (lo hi mx : Option Value) (h : H) : sliceT E (some (.slice elem)) (.slice (some ⟨b, o, none⟩) len cap) lo hi mx h = slS b o (boundsD len cap lo hi mx) (h.get b) (E.siz elem) := by
  simp only [sliceT, slS, slR]
  cases boundsD len cap lo hi mx with
  | none => cases E.siz elem <;> rfl
  | some r =>
    cases E.siz elem with
    | none => rfl
    | some sz =>
      cases h.get b with
      | none => rfl
      | some x => cases x <;> simp
def slN (r : Option (Nat × Nat × Nat)) (n : Option Nat) : Option Value := match r, n with
  | some _, some _ => some (.slice none 0 0)
  | _, _ => none
@[simp] theorem slN_some (r : Nat × Nat × Nat) (n : Nat) : slN (some r) (some n) = some (.slice none 0 0) := _root_.id rfl
@[simp] theorem slN_ite (c : Prop) [Decidable c] (r : Option (Nat × Nat × Nat)) (n : Option Nat) : slN (if c then r else none) n = if c then slN r n else none := by
  by_cases e : c
  · simp [e]
  · simp only [e, if_false]; cases n <;> rfl
@[simp] theorem sliceT_nil (elem : TypeId) (lo hi mx : Option Value) (h : H) : sliceT E (some (.slice elem)) (.slice none 0 0) lo hi mx h = slN (boundsD 0 0 lo hi mx) (E.siz elem) := by
  simp only [sliceT, slN]
  cases boundsD 0 0 lo hi mx <;> cases E.siz elem <;> rfl
def slA (b o : Nat) (r : Option (Nat × Nat × Nat)) (n : Option Nat) : Option Value := match r, n with
  | some (l, hi, m), some sz => some (.slice (some ⟨b, if m = l then o else o + l * sz, none⟩) (hi - l) (m - l))
  | _, _ => none
@[simp] theorem slA_some (b o l hi m sz : Nat) : slA b o (some (l, hi, m)) (some sz) = some (.slice (some ⟨b, if m = l then o else o + l * sz, none⟩) (hi - l) (m - l)) := _root_.id rfl
@[simp] theorem slA_ite (b o : Nat) (c : Prop) [Decidable c] (r : Option (Nat × Nat × Nat)) (n : Option Nat) : slA b o (if c then r else none) n = if c then slA b o r n else none := by
  by_cases e : c
  · simp [e]
  · simp only [e, if_false]; cases n <;> rfl
@[simp] theorem sliceT_array (len : Nat) (elem : TypeId) (b o : Nat) (lo hi mx : Option Value) (h : H) : sliceT E (some (.array len elem)) (.pointer (some ⟨b, o, none⟩)) lo hi mx h = slA b o (boundsD len len lo hi mx) (E.siz elem) := by
  simp only [sliceT, slA]
  cases boundsD len len lo hi mx <;> cases E.siz elem <;> rfl
@[simp] theorem bounds_00 (len cap : Nat) : boundsD len cap none none none = some (0, len, cap) := _root_.id rfl
@[simp] theorem bounds_lo (len cap : Nat) (k : IntKind) (a : Int) : boundsD len cap (some (.int k a)) none none = if 0 ≤ a ∧ a ≤ (len : Int) then some (a.toNat, len, cap) else none := by
  simp [boundsD]
@[simp] theorem bounds_hi (len cap : Nat) (k : IntKind) (a : Int) : boundsD len cap none (some (.int k a)) none = if 0 ≤ a ∧ a ≤ (cap : Int) then some (0, a.toNat, cap) else none := by
  simp only [boundsD, Option.isSome_none, Bool.and_eq_true, decide_eq_true_eq]
  by_cases h : 0 ≤ a ∧ a ≤ (cap : Int) <;> simp [h]
@[simp] theorem bounds_lh (len cap : Nat) (k k' : IntKind) (a b : Int) : boundsD len cap (some (.int k a)) (some (.int k' b)) none = if 0 ≤ b ∧ b ≤ (cap : Int) ∧ 0 ≤ a ∧ a ≤ b then some (a.toNat, b.toNat, cap) else none := by
  simp only [boundsD, Option.isSome_none, Bool.and_eq_true, decide_eq_true_eq]
  by_cases h : 0 ≤ b ∧ b ≤ (cap : Int)
  · by_cases h2 : 0 ≤ a ∧ a ≤ b
    · have : 0 ≤ a ∧ a ≤ max b 0 := by omega
      simp [h, h2, this]
    · have : ¬ (0 ≤ a ∧ a ≤ max b 0) := by omega
      simp [h, h2, this]
  · have : ¬ (0 ≤ b ∧ b ≤ (cap : Int) ∧ 0 ≤ a ∧ a ≤ b) := fun x => h ⟨x.1, x.2.1⟩
    simp [h, this]
/-! conversions -/
def convT (d e : Option TypeDesc) (E : Env) (x : Value) (h : H) : Option (Value × H) :=
  match d, e, x with
  | some _, some (.int k), .int _ n => some (.int k (k.wrap n), h)
  | some _, some .string, .int _ n => some (.string (Utf8.encode n), h)
  | some _, some .string, .string s => some (.string s, h)
  | some _, some (.slice e), .string s => match E.und e with
    | some (.int .u8) => if s.size ≤ 2 ^ 45 then some (.slice (some ⟨h.addr, 0, none⟩) s.size s.size, h.new (.cells (s.data.toList.map fun b => .int .u8 b.toNat) 1 true 0 none)) else none
    | _ => none
  | some (.slice e), some .string, .slice none 0 0 => match E.und e with
    | some (.int .u8) => some (.string .empty, h)
    | _ => none
  | some (.slice e), some .string, .slice (some ⟨b, o, none⟩) len _ => match E.und e with
    | some (.int .u8) => if len = 0 then some (.string .empty, h) else match readD b o len h with
      | some vs => (bytesD vs).map fun l => (.string ⟨l.toArray⟩, h)
      | none => none
    | _ => none
  | _, _, _ => none
@[simp] theorem convD_eq (s d : TypeId) (x : Value) (h : H) : convD E s d x h = convT (E.und s) (E.und d) E x h := _root_.id rfl
@[simp] theorem convT_int (d : TypeDesc) (k k' : IntKind) (n : Int) (h : H) : convT (some d) (some (.int k)) E (.int k' n) h = some (.int k (k.wrap n), h) := by cases d <;> rfl
@[simp] theorem convT_str (d : TypeDesc) (l : List UInt8) (h : H) : convT (some d) (some .string) E (str l) h = some (str l, h) := by cases d <;> rfl
theorem bytesD_map (l : List UInt8) : bytesD (l.map fun b => .int .u8 b.toNat) = some l := by
  induction l with
  | nil => rfl
  | cons b l ih => simp [bytesD, ih]
@[simp] theorem convT_nilbytes (e : TypeId) (h : H) (he : E.und e = some (.int .u8)) : convT (some (.slice e)) (some .string) E (.slice none 0 0) h = some (str [], h) := by
  simp only [convT, he]; rfl
def strB (h : H) (o : Option (List UInt8)) : Option (Value × H) := o.map fun l => (str l, h)
def strR (h : H) (o : Option (List Value)) : Option (Value × H) := match o with
  | some vs => strB h (bytesD vs)
  | none => none
@[simp] theorem strB_some (h : H) (l : List UInt8) : strB h (some l) = some (str l, h) := _root_.id rfl
@[simp] theorem strR_some (h : H) (vs : List Value) : strR h (some vs) = strB h (bytesD vs) := _root_.id rfl
@[simp] theorem strR_ite (h : H) (c : Prop) [Decidable c] (o : Option (List Value)) : strR h (if c then o else none) = if c then strR h o else none := by by_cases e : c <;> simp [e, strR]
attribute [simp] bytesD_map
@[simp] theorem convT_bytes (e : TypeId) (b o len cap : Nat) (h : H) (he : E.und e = some (.int .u8)) : convT (some (.slice e)) (some .string) E (.slice (some ⟨b, o, none⟩) len cap) h = if len = 0 then some (str [], h) else strR h (readD b o len h) := by
  simp only [convT, he, strR, strB]; rfl
@[simp] theorem convT_tobytes (d : TypeDesc) (e : TypeId) (l : List UInt8) (h : H) (he : E.und e = some (.int .u8)) : convT (some d) (some (.slice e)) E (str l) h = if l.length ≤ 2 ^ 45 then some (.slice (some ⟨h.addr, 0, none⟩) l.length l.length, h.new (.cells (l.map fun b => .int .u8 b.toNat) 1 true 0 none)) else none := by
  unfold str; cases d <;> simp only [convT, he, bytes_size]
@[simp] theorem resD_nil (fr : T Value) (h : H) : resD E fr h [] = some [] := _root_.id rfl
@[simp] theorem resD_tmp (fr : T Value) (h : H) (t : Tmp) (rs : List ResultVar) : resD E fr h (.tmp t :: rs) = consO (fr.get t) (resD E fr h rs) := by
  simp only [resD]; cases fr.get t <;> cases resD E fr h rs <;> rfl
@[simp] theorem resD_cell (fr : T Value) (h : H) (a t : Nat) (rs : List ResultVar) : resD E fr h (.cell a t :: rs) = consO (b1 (fr.get a) fun p => ld E t p h) (resD E fr h rs) := by
  simp only [resD, b1]
  cases fr.get a with
  | none => rfl
  | some p =>
    simp only [Option.bind_some]
    cases ld E t p h <;> cases resD E fr h rs <;> rfl
attribute [simp] oneD strLD
/-! numbers that are counts -/
@[simp] theorem add_lits (a n m : Nat) : a + no_index (OfNat.ofNat n) + no_index (OfNat.ofNat m) = a + (OfNat.ofNat n + OfNat.ofNat m) := Nat.add_assoc ..
@[simp] theorem icast_eq (a n : Nat) : ((a : Int) = (no_index (OfNat.ofNat n) : Int)) = (a = OfNat.ofNat n) := by
  apply propext
  constructor
  · intro h; have : (a : Int) = ((n : Nat) : Int) := h; exact Int.ofNat.inj this
  · intro h; subst h; rfl
@[simp] theorem icast_lt (a n : Nat) : ((a : Int) < (no_index (OfNat.ofNat n) : Int)) = (a < OfNat.ofNat n) := by
  apply propext
  show (a : Int) < ((n : Nat) : Int) ↔ a < n
  omega
@[simp] theorem icast_gt (a n : Nat) : ((no_index (OfNat.ofNat n) : Int) < (a : Int)) = (OfNat.ofNat n < a) := by
  apply propext
  show ((n : Nat) : Int) < (a : Int) ↔ n < a
  omega
@[simp] theorem icast_le (a n : Nat) : ((a : Int) ≤ (no_index (OfNat.ofNat n) : Int)) = (a ≤ OfNat.ofNat n) := by
  apply propext
  show (a : Int) ≤ ((n : Nat) : Int) ↔ a ≤ n
  omega
@[simp] theorem icast_ge (a n : Nat) : ((no_index (OfNat.ofNat n) : Int) ≤ (a : Int)) = (OfNat.ofNat n ≤ a) := by
  apply propext
  show ((n : Nat) : Int) ≤ (a : Int) ↔ n ≤ a
  omega
@[simp] theorem icast_al_eq (a n c : Nat) : ((a : Int) + (no_index (OfNat.ofNat n) : Int) = (c : Int)) = (a + OfNat.ofNat n = c) := by
  apply propext
  show (a : Int) + ((n : Nat) : Int) = (c : Int) ↔ a + n = c
  omega
@[simp] theorem icast_la_eq (a n c : Nat) : ((c : Int) = (a : Int) + (no_index (OfNat.ofNat n) : Int)) = (c = a + OfNat.ofNat n) := by
  apply propext
  show (c : Int) = (a : Int) + ((n : Nat) : Int) ↔ c = a + n
  omega
@[simp] theorem icast_aa_eq (a b c : Nat) : ((a : Int) + (b : Int) = (c : Int)) = (a + b = c) := by
  apply propext
  omega
@[simp] theorem icast_ca_eq (a b c : Nat) : ((c : Int) = (a : Int) + (b : Int)) = (c = a + b) := by
  apply propext
  omega
@[simp] theorem icast_al_le (a n c : Nat) : ((a : Int) + (no_index (OfNat.ofNat n) : Int) ≤ (c : Int)) = (a + OfNat.ofNat n ≤ c) := by
  apply propext
  show (a : Int) + ((n : Nat) : Int) ≤ (c : Int) ↔ a + n ≤ c
  omega
@[simp] theorem icast_la_le (a n c : Nat) : ((c : Int) ≤ (a : Int) + (no_index (OfNat.ofNat n) : Int)) = (c ≤ a + OfNat.ofNat n) := by
  apply propext
  show (c : Int) ≤ (a : Int) + ((n : Nat) : Int) ↔ c ≤ a + n
  omega
@[simp] theorem icast_aa_le (a b c : Nat) : ((a : Int) + (b : Int) ≤ (c : Int)) = (a + b ≤ c) := by
  apply propext
  omega
@[simp] theorem icast_ca_le (a b c : Nat) : ((c : Int) ≤ (a : Int) + (b : Int)) = (c ≤ a + b) := by
  apply propext
  omega
@[simp] theorem icast_al_lt (a n c : Nat) : ((a : Int) + (no_index (OfNat.ofNat n) : Int) < (c : Int)) = (a + OfNat.ofNat n < c) := by
  apply propext
  show (a : Int) + ((n : Nat) : Int) < (c : Int) ↔ a + n < c
  omega
@[simp] theorem icast_la_lt (a n c : Nat) : ((c : Int) < (a : Int) + (no_index (OfNat.ofNat n) : Int)) = (c < a + OfNat.ofNat n) := by
  apply propext
  show (c : Int) < (a : Int) + ((n : Nat) : Int) ↔ c < a + n
  omega
@[simp] theorem icast_aa_lt (a b c : Nat) : ((a : Int) + (b : Int) < (c : Int)) = (a + b < c) := by
  apply propext
  omega
@[simp] theorem icast_ca_lt (a b c : Nat) : ((c : Int) < (a : Int) + (b : Int)) = (c < a + b) := by
  apply propext
  omega
@[simp] theorem toNat_al (a n : Nat) : ((a : Int) + (no_index (OfNat.ofNat n) : Int)).toNat = a + OfNat.ofNat n := by
  show ((a : Int) + ((n : Nat) : Int)).toNat = a + n
  omega
@[simp] theorem toNat_aa (a b : Nat) : ((a : Int) + (b : Int)).toNat = a + b := by omega
@[simp] theorem nneg_al (a n : Nat) : ((0 : Int) ≤ (a : Int) + (no_index (OfNat.ofNat n) : Int)) = True := by
  apply eq_true
  show (0 : Int) ≤ (a : Int) + ((n : Nat) : Int)
  omega
@[simp] theorem nneg_aa (a b : Nat) : ((0 : Int) ≤ (a : Int) + (b : Int)) = True := by
  apply eq_true
  omega
/-- A list's byte. -/
def bt (l : List UInt8) (k : Nat) : UInt8 := l.getD k 0
theorem idxB_nat {l : List UInt8} {k : Nat} (h : k < l.length) : idxB l (k : Int) = some (.int .u8 (bt l k).toNat) := by
  rw [idxB_in (by omega) (by omega)]; rfl
theorem wrap_nat {k : Nat} (h : k < 9223372036854775808) : IntKind.i64.wrap (k : Int) = k := wrap_i64 (by omega) (by omega)
theorem wrap_succ {k : Nat} (h : k < 9223372036854775807) : IntKind.i64.wrap ((k : Int) + 1) = (k : Int) + 1 := wrap_i64 (by omega) (by omega)
theorem wrap_add {a b : Nat} (h : a + b < 9223372036854775808) : IntKind.i64.wrap ((a : Int) + b) = (a : Int) + b := wrap_i64 (by omega) (by omega)
theorem wrap_sub {a b : Nat} (h1 : b ≤ a) (h2 : a < 9223372036854775808) : IntKind.i64.wrap ((a : Int) - b) = ((a - b : Nat) : Int) := by rw [wrap_i64 (by omega) (by omega)]; omega
theorem wrap_pred {a : Nat} (h1 : 1 ≤ a) (h2 : a < 9223372036854775808) : IntKind.i64.wrap ((a : Int) - 1) = ((a - 1 : Nat) : Int) := by rw [wrap_i64 (by omega) (by omega)]; omega
theorem idxB_succ {l : List UInt8} {k : Nat} (h : k + 1 < l.length) : idxB l ((k : Int) + 1) = some (.int .u8 (bt l (k + 1)).toNat) := by
  rw [idxB_in (by omega) (by omega)]; unfold byteAt bt; rw [toNat_al]
/-- Below block B nothing has changed. -/
structure Fr (B : Nat) (h h' : H) : Prop where
  one : h'.one = []
  next : h.next ≤ h'.next
  get : ∀ b, b < B → h'.get b = h.get b
theorem Fr.refl {B : Nat} {h : H} (h1 : h.one = []) : Fr B h h := ⟨h1, Nat.le_refl _, fun _ _ => rfl⟩
theorem Fr.trans {B : Nat} {a b c : H} (x : Fr B a b) (y : Fr B b c) : Fr B a c := ⟨y.one, Nat.le_trans x.next y.next, fun k hk => (y.get k hk).trans (x.get k hk)⟩
theorem Fr.mono {B B' : Nat} {a b : H} (x : Fr B a b) (hB : B' ≤ B) : Fr B' a b := ⟨x.one, x.next, fun k hk => x.get k (by omega)⟩
theorem Fr.nw {B : Nat} {a b : H} (x : Fr B a b) (hB : B ≤ b.next) (o : DObj) : Fr B a (b.nw o) := ⟨rfl, Nat.le_trans x.next (Nat.le_succ _), fun k hk => by rw [get_nw, if_neg (by omega)]; exact x.get k hk⟩
theorem Fr.put {B : Nat} {a b : H} (x : Fr B a b) {c : Nat} (hc : B ≤ c) (o : DObj) : Fr B a (b.put c o) := ⟨x.one, x.next, fun k hk => by rw [H.get_put, if_neg (by omega)]; exact x.get k hk⟩
theorem Fr.drop {B : Nat} {a b : H} (x : Fr B a b) {c : Nat} (hc : B ≤ c) : Fr B a (b.drop c) := ⟨x.one, x.next, fun k hk => by rw [H.get_drop, if_neg (by omega)]; exact x.get k hk⟩
/-! comparisons of structs -/
theorem bin_eq_agg (t : TypeId) (x y : Operand) (a b : Array Value) : binD E .eql t x y (.agg a) (.agg b) = (eqD E 10000 t (.agg a) (.agg b)).map .bool := rfl
theorem bin_neq_agg (t : TypeId) (x y : Operand) (a b : Array Value) : binD E .neq t x y (.agg a) (.agg b) = (eqD E 10000 t (.agg a) (.agg b)).map fun r => .bool !r := rfl
end
end Go.Dm
