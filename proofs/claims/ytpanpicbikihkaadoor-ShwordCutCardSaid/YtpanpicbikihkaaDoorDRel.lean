/- The machine D, 3: how its memory stands to the model's. -/
import Derived.Test.YtpanpicbikihkaaDoorDMach
import Derived.Laws.World
set_option linter.unusedVariables false
set_option linter.unusedSimpArgs false
namespace Go.Dm

/-- Where a block of D's lies in the model's memory: the block, the cell; an element's cells (0: no row), the block's cells. -/
structure Img where
  blk : Nat
  off : Nat
  stride : Nat
  size : Nat
abbrev Inj := Nat → Option Img
def Ext (m m' : Inj) : Prop := ∀ b i, m b = some i → m' b = some i
theorem Ext.refl (m : Inj) : Ext m m := fun _ _ h => h
theorem Ext.trans {m m' m'' : Inj} (h : Ext m m') (k : Ext m' m'') : Ext m m'' := fun b i e => k b i (h b i e)

mutual
inductive VRel (m : Inj) : Value → Value → Prop
  | plain {v : Value} (h : plain0 v = true) : VRel m v v
  | ptr {b o : Nat} {i : Img} (h : m b = some i) : VRel m (.pointer (some ⟨b, o, none⟩)) (.pointer (some ⟨i.blk, o + i.off, none⟩))
  | slice {b o n c c' : Nat} {i : Img} (h : m b = some i) (h1 : n ≤ c) (h2 : c ≤ c') (h3 : c' = c ∨ (0 < i.stride ∧ o + i.off + c' * i.stride ≤ i.size)) :
      VRel m (.slice (some ⟨b, o, none⟩) n c) (.slice (some ⟨i.blk, o + i.off, none⟩) n c')
  | slice0 {a a' : Addr} : VRel m (.slice (some a) 0 0) (.slice (some a') 0 0)
  | map {b : Nat} {i : Img} (h : m b = some i) : VRel m (.map (some b)) (.map (some i.blk))
  | func {f : FuncId} {a a' b b' : List Value} (h : LRel m a a') (k : LRel m b b') : VRel m (.func (.func f) (Array.mk a) (Array.mk b)) (.func (.func f) (Array.mk a') (Array.mk b'))
  | yld {l : Nat} {i : Img} (h : m l = some i) : VRel m (.func (.yield l) (Array.mk []) (Array.mk [])) (.func (.yield i.blk) (Array.mk []) (Array.mk []))
  | iface {t : TypeId} {v v' : Value} (h : VRel m v v') : VRel m (.iface t v) (.iface t v')
  | agg {a a' : List Value} (h : LRel m a a') : VRel m (.agg (Array.mk a)) (.agg (Array.mk a'))
  | tuple {a a' : List Value} (h : LRel m a a') : VRel m (.tuple (Array.mk a)) (.tuple (Array.mk a'))
inductive LRel (m : Inj) : List Value → List Value → Prop
  | nil : LRel m [] []
  | cons {v v' : Value} {l l' : List Value} (h : VRel m v v') (k : LRel m l l') : LRel m (v :: l) (v' :: l')
end

mutual
theorem VRel.mono {m m' : Inj} (e : Ext m m') : ∀ {v v' : Value}, VRel m v v' → VRel m' v v'
  | _, _, .plain h => .plain h
  | _, _, .ptr h => .ptr (e _ _ h)
  | _, _, .slice h h1 h2 h3 => .slice (e _ _ h) h1 h2 h3
  | _, _, .slice0 => .slice0
  | _, _, .map h => .map (e _ _ h)
  | _, _, .func h k => .func (LRel.mono e h) (LRel.mono e k)
  | _, _, .yld h => .yld (e _ _ h)
  | _, _, .iface h => .iface (VRel.mono e h)
  | _, _, .agg h => .agg (LRel.mono e h)
  | _, _, .tuple h => .tuple (LRel.mono e h)
theorem LRel.mono {m m' : Inj} (e : Ext m m') : ∀ {v v' : List Value}, LRel m v v' → LRel m' v v'
  | _, _, .nil => .nil
  | _, _, .cons h k => .cons (VRel.mono e h) (LRel.mono e k)
end

theorem LRel.length {m : Inj} {l l' : List Value} (h : LRel m l l') : l'.length = l.length := by
  induction l generalizing l' with
  | nil => cases h; rfl
  | cons v l ih => cases h with | cons h k => simp [ih k]
theorem LRel.get {m : Inj} {l l' : List Value} (h : LRel m l l') {i : Nat} {v : Value} (hv : l[i]? = some v) : ∃ v', l'[i]? = some v' ∧ VRel m v v' := by
  induction l generalizing l' i with
  | nil => simp at hv
  | cons u l ih =>
    cases h with
    | cons h k =>
      cases i with
      | zero => simp at hv; subst hv; exact ⟨_, rfl, h⟩
      | succ i => exact ih k (by simpa using hv)
theorem LRel.of_get {m : Inj} {l l' : List Value} (hl : l'.length = l.length) (h : ∀ (i : Nat) (v : Value), l[i]? = some v → ∃ v', l'[i]? = some v' ∧ VRel m v v') : LRel m l l' := by
  induction l generalizing l' with
  | nil => simp at hl; subst hl; exact .nil
  | cons u l ih =>
    cases l' with
    | nil => simp at hl
    | cons u' l' =>
      obtain ⟨v', h1, h2⟩ := h 0 u rfl
      simp at h1; subst h1
      exact .cons h2 (ih (by simpa using hl) fun i v hv => by simpa using h (i + 1) v (by simpa using hv))
theorem LRel.append {m : Inj} {a a' b b' : List Value} (h : LRel m a a') (k : LRel m b b') : LRel m (a ++ b) (a' ++ b') := by
  induction a generalizing a' with
  | nil => cases h; exact k
  | cons v a ih => cases h with | cons h1 h2 => exact .cons h1 (ih h2)
theorem LRel.drop {m : Inj} {a a' : List Value} (h : LRel m a a') (n : Nat) : LRel m (a.drop n) (a'.drop n) := by
  induction n generalizing a a' with
  | zero => exact h
  | succ n ih => cases h with | nil => exact .nil | cons h1 h2 => exact ih h2
theorem LRel.take {m : Inj} {a a' : List Value} (h : LRel m a a') (n : Nat) : LRel m (a.take n) (a'.take n) := by
  induction n generalizing a a' with
  | zero => exact .nil
  | succ n ih => cases h with | nil => exact .nil | cons h1 h2 => exact .cons h1 (ih h2)
theorem LRel.set {m : Inj} {a a' : List Value} (h : LRel m a a') (n : Nat) {v v' : Value} (hv : VRel m v v') : LRel m (a.set n v) (a'.set n v') := by
  induction n generalizing a a' with
  | zero => cases h with | nil => exact .nil | cons h1 h2 => exact .cons hv h2
  | succ n ih => cases h with | nil => exact .nil | cons h1 h2 => exact .cons h1 (ih h2)
theorem LRel.setAt {m : Inj} {vs vs' : List Value} (hv : LRel m vs vs') : ∀ {a a' : List Value} (h : LRel m a a') (n : Nat), LRel m (setAt a n vs) (setAt a' n vs') := by
  induction vs generalizing vs' with
  | nil => intro a a' h n; cases hv; exact h
  | cons v vs ih => intro a a' h n; cases hv with | cons h1 h2 => exact ih h2 (h.set n h1) (n + 1)
theorem VRel.plain1 {m : Inj} {v : Value} (h : plain1 v = true) : VRel m v v := by
  cases v with
  | iface t v => exact .iface (.plain h)
  | _ => exact .plain h
theorem LRel.plain {m : Inj} {l : List Value} (h : l.all Dm.plain1 = true) : LRel m l l := by
  induction l with
  | nil => exact .nil
  | cons v l ih => simp at h; exact .cons (.plain1 h.1) (ih (by simpa using h.2))
theorem VRel.plainV {m : Inj} {v : Value} (h : plainV v = true) : VRel m v v := by
  cases v with
  | agg cs => obtain ⟨l⟩ := cs; exact .agg (.plain h)
  | tuple cs => obtain ⟨l⟩ := cs; exact .tuple (.plain h)
  | _ => exact .plain1 h

/-! ### What a value's kind says of its fellow -/
section inv
variable {m : Inj} {v' : Value}
theorem VRel.bool {b : Bool} (h : VRel m (.bool b) v') : v' = .bool b := by cases h; rfl
theorem VRel.int {k : IntKind} {n : Int} (h : VRel m (.int k n) v') : v' = .int k n := by cases h; rfl
theorem VRel.string {s : ByteArray} (h : VRel m (.string s) v') : v' = .string s := by cases h; rfl
theorem VRel.nilp (h : VRel m (.pointer none) v') : v' = .pointer none := by cases h; rfl
theorem VRel.nils {a b : Nat} (h : VRel m (.slice none a b) v') : v' = .slice none 0 0 ∧ a = 0 ∧ b = 0 := by
  cases h with
  | plain h => simp [plain0] at h; simp [h]
theorem VRel.nilm (h : VRel m (.map none) v') : v' = .map none := by cases h; rfl
theorem VRel.nili (h : VRel m .nilIface v') : v' = .nilIface := by cases h; rfl
theorem VRel.nilf (h : VRel m .nilFunc v') : v' = .nilFunc := by cases h; rfl
theorem VRel.pointer {a : Addr} (h : VRel m (.pointer (some a)) v') : ∃ i, m a.block = some i ∧ a.spot = none ∧ v' = .pointer (some ⟨i.blk, a.off + i.off, none⟩) := by
  cases h with
  | plain h => simp [plain0] at h
  | ptr h => exact ⟨_, h, rfl, rfl⟩
theorem VRel.mapv {b : Nat} (h : VRel m (.map (some b)) v') : ∃ i, m b = some i ∧ v' = .map (some i.blk) := by
  cases h with
  | plain h => simp [plain0] at h
  | map h => exact ⟨_, h, rfl⟩
theorem VRel.slicev {a : Addr} {n c : Nat} (h : VRel m (.slice (some a) n c) v') : ∃ a' c', v' = .slice (some a') n c' ∧ n ≤ c ∧ c ≤ c' ∧
    ((n = 0 ∧ c = 0 ∧ c' = 0) ∨ ∃ i, m a.block = some i ∧ a.spot = none ∧ a' = ⟨i.blk, a.off + i.off, none⟩ ∧ (c' = c ∨ (0 < i.stride ∧ a.off + i.off + c' * i.stride ≤ i.size))) := by
  cases h with
  | plain h => simp [plain0] at h
  | slice h h1 h2 h3 => exact ⟨_, _, rfl, h1, h2, .inr ⟨_, h, rfl, rfl, h3⟩⟩
  | slice0 => exact ⟨_, _, rfl, Nat.le_refl _, Nat.le_refl _, .inl ⟨rfl, rfl, rfl⟩⟩
theorem VRel.aggv {cs : Array Value} (h : VRel m (.agg cs) v') : ∃ cs' : Array Value, v' = .agg cs' ∧ LRel m cs.toList cs'.toList := by
  cases h with
  | plain h => simp [plain0] at h
  | agg h => exact ⟨_, rfl, h⟩
theorem VRel.tuplev {cs : Array Value} (h : VRel m (.tuple cs) v') : ∃ cs' : Array Value, v' = .tuple cs' ∧ LRel m cs.toList cs'.toList := by
  cases h with
  | plain h => simp [plain0] at h
  | tuple h => exact ⟨_, rfl, h⟩
theorem VRel.ifacev {t : TypeId} {v : Value} (h : VRel m (.iface t v) v') : ∃ u, v' = .iface t u ∧ VRel m v u := by
  cases h with
  | plain h => simp [plain0] at h
  | iface h => exact ⟨_, rfl, h⟩
theorem VRel.funcv {f : FuncId} {a b : Array Value} (h : VRel m (.func (.func f) a b) v') : ∃ a' b' : Array Value, v' = .func (.func f) a' b' ∧ LRel m a.toList a'.toList ∧ LRel m b.toList b'.toList := by
  cases h with
  | plain h => simp [plain0] at h
  | func h k => exact ⟨_, _, rfl, h, k⟩
theorem VRel.yieldv {l : Nat} {a b : Array Value} (h : VRel m (.func (.yield l) a b) v') : ∃ i, m l = some i ∧ v' = .func (.yield i.blk) #[] #[] ∧ a = #[] ∧ b = #[] := by
  cases h with
  | plain h => simp [plain0] at h
  | yld h => exact ⟨_, h, rfl, rfl, rfl⟩
theorem VRel.undef (m : Inj) : VRel m undef undef := .tuple .nil
theorem VRel.cells {v : Value} (h : VRel m v v') : LRel m v.cells.toList v'.cells.toList := by
  cases v with
  | agg cs => obtain ⟨cs', rfl, k⟩ := h.aggv; exact k
  | _ =>
    have hv : v'.cells = #[v'] := by cases h <;> first | rfl | (rename_i h; simp [plain0] at h)
    rw [hv]; exact .cons h .nil
theorem VRel.cells_size {v : Value} (h : VRel m v v') : v'.cells.size = v.cells.size := by
  have := h.cells.length; simpa using this
theorem VRel.cellV {v : Value} (h : VRel m v v') (hc : Dm.cellV v = true) : v'.oneCell' = true := by
  cases h with
  | plain h => revert hc; unfold Dm.cellV Value.oneCell'; exact id
  | _ => first | rfl | (simp [Dm.cellV] at hc)
end inv

/-! ### Memory -/
def FRel (m : Inj) (fr : T Value) (tmps : Array Value) : Prop := ∀ t v, fr.get t = some v → ∃ v', tmps[t]? = some v' ∧ VRel m v v'
theorem FRel.mono {m m' : Inj} {fr : T Value} {tmps : Array Value} (h : FRel m fr tmps) (e : Ext m m') : FRel m' fr tmps :=
  fun t v ht => let ⟨v', h1, h2⟩ := h t v ht; ⟨v', h1, h2.mono e⟩
theorem FRel.set {m : Inj} {fr : T Value} {tmps : Array Value} (h : FRel m fr tmps) {d : Nat} (hd : d < tmps.size) {v v' : Value} (hv : VRel m v v') : FRel m (fr.set d (some v)) (tmps.setIfInBounds d v') := by
  intro t u ht
  rw [T.get_set] at ht
  by_cases e : t = d
  · subst e
    rw [if_pos rfl] at ht
    cases ht
    exact ⟨v', by simp [Array.getElem?_setIfInBounds, hd], hv⟩
  · rw [if_neg e] at ht
    obtain ⟨u', h1, h2⟩ := h t u ht
    exact ⟨u', by rw [Array.getElem?_setIfInBounds, if_neg (Ne.symm e)]; exact h1, h2⟩
theorem FRel.leaf (m : Inj) (tmps : Array Value) : FRel m .leaf tmps := fun t v h => by simp at h

structure ERel (m : Inj) (e e' : MapEntry) : Prop where
  key : e'.key = e.key
  plain : plainV e.key = true
  val : VRel m e.val e'.val
  born : e'.born = e.born
inductive MRel (m : Inj) : List MapEntry → List MapEntry → Prop
  | nil : MRel m [] []
  | cons {e e' : MapEntry} {l l' : List MapEntry} (h : ERel m e e') (k : MRel m l l') : MRel m (e :: l) (e' :: l')
theorem MRel.mono {m m' : Inj} (x : Ext m m') {l l' : List MapEntry} (h : MRel m l l') : MRel m' l l' := by
  induction h with
  | nil => exact .nil
  | cons h _ ih => exact .cons ⟨h.key, h.plain, h.val.mono x, h.born⟩ ih

/-- What is asked of code ahead of all running: see 'okC'. -/
abbrev OkC := Nat → Code → Bool

section
variable (ok : OkC) (m : Inj) (w : World) (i : Img)
def ORel : DObj → Prop
  | .cells c s own fz ty => i.stride = s ∧ ∃ c' e lo hi, w.heap[i.blk]? = some (.cells c' e (lo, hi)) ∧ c'.size = i.size ∧ i.off + c.length ≤ c'.size ∧
      (∀ j v, c[j]? = some v → ∃ v', c'[i.off + j]? = some v' ∧ VRel m v v') ∧ (own = true → hi ≤ i.off + fz ∨ hi ≤ lo ∨ i.size ≤ lo) ∧ ∀ t, ty = some t → e = t ∧ i.off = 0 ∧ (lo = hi ∨ (lo = 0 ∧ hi ≤ fz))
  | .map es clock => ∃ es' : Array MapEntry, w.heap[i.blk]? = some (.map es' clock) ∧ MRel m es es'.toList
  | .siter s pos => i.off = 0 ∧ w.heap[i.blk]? = some (.stringIter s pos)
  | .loop r => ∃ r' : Loop, w.heap[i.blk]? = some (.loop r') ∧ r'.state = r.state ∧ r'.pending = r.pending ∧ r'.params.toList = r.params ∧ r'.assign = r.assign ∧ r'.body = r.body ∧
      FRel m r.fr r'.tmps ∧ ok r'.tmps.size r.assign = true ∧ ok r'.tmps.size r.body = true ∧ ∀ p ∈ r.params, p < r'.tmps.size
end
theorem ORel.congr {ok : OkC} {m m' : Inj} {w w' : World} {i : Img} {o : DObj} (h : ORel ok m w i o) (e : Ext m m') (hw : w'.heap[i.blk]? = w.heap[i.blk]?) : ORel ok m' w' i o := by
  cases o with
  | cells c s own fz ty =>
    obtain ⟨h0, c', el, lo, hi, h1, h2, h3, h4, h5⟩ := h
    exact ⟨h0, c', el, lo, hi, hw.trans h1, h2, h3, fun j v hv => let ⟨v', a, b⟩ := h4 j v hv; ⟨v', a, b.mono e⟩, h5⟩
  | map es clock => obtain ⟨es', h1, h2⟩ := h; exact ⟨es', hw.trans h1, h2.mono e⟩
  | siter s pos => exact ⟨h.1, hw.trans h.2⟩
  | loop r => obtain ⟨r', h1, h2, h3, h4, h5, h6, h7, h8⟩ := h; exact ⟨r', hw.trans h1, h2, h3, h4, h5, h6, h7.mono e, h8⟩

structure HRel (ok : OkC) (G : Nat) (m : Inj) (h : H) (w : World) : Prop where
  obj : ∀ b o i, h.get b = some o → m b = some i → ORel ok m w i o
  inj : ∀ b b' o o' i i', h.get b = some o → o.mut = true → h.get b' = some o' → m b = some i → m b' = some i' → i.blk = i'.blk → b = b'
  dom : ∀ b i, m b = some i → b < h.next ∧ i.blk < w.heap.size
  one : ∀ a, a ∈ h.one → a < h.next ∧ m a = none
  wf : ∀ b, h.next ≤ b → h.get b = none
  glob : ∀ g, g < G → ∃ i, m g = some i ∧ i.blk = g ∧ i.off = 0
/-- The model's block r is where something of D's lies that may be written. -/
def Own (m : Inj) (h : H) (r : Nat) : Prop := ∃ b o i, h.get b = some o ∧ o.mut = true ∧ m b = some i ∧ i.blk = r
/-- From one state to a later one. -/
structure Evo (m : Inj) (h : H) (w : World) (m' : Inj) (h' : H) (w' : World) : Prop where
  ext : Ext m m'
  os : w'.os = w.os
  tape : w'.tape = w.tape
  output : w'.output = w.output
  size : w.heap.size ≤ w'.heap.size
  keep : ∀ r, r < w.heap.size → ¬ Own m h r → w'.heap[r]? = w.heap[r]?
  new : ∀ b i, m' b = some i → m b = none → w.heap.size ≤ i.blk ∨ Own m h i.blk
  own : ∀ r, r < w.heap.size → Own m' h' r → Own m h r
theorem Evo.refl (m : Inj) (h : H) (w : World) : Evo m h w m h w :=
  ⟨Ext.refl m, rfl, rfl, rfl, Nat.le_refl _, fun _ _ _ => rfl, fun b i e e' => (by rw [e] at e'; cases e'), fun _ _ h => h⟩
theorem Evo.trans {m m' m'' : Inj} {h h' h'' : H} {w w' w'' : World} (a : Evo m h w m' h' w') (b : Evo m' h' w' m'' h'' w'') : Evo m h w m'' h'' w'' where
  ext := a.ext.trans b.ext
  os := b.os.trans a.os
  tape := b.tape.trans a.tape
  output := b.output.trans a.output
  size := Nat.le_trans a.size b.size
  keep r hr hn := (b.keep r (Nat.lt_of_lt_of_le hr a.size) fun ho => hn (a.own r hr ho)).trans (a.keep r hr hn)
  new c i e e' := by
    cases hm : m' c with
    | none =>
      rcases b.new c i e hm with h1 | h1
      · exact .inl (Nat.le_trans a.size h1)
      · rcases Nat.lt_or_ge i.blk w.heap.size with h2 | h2
        · exact .inr (a.own _ h2 h1)
        · exact .inl h2
    | some j =>
      have := b.ext c j hm
      rw [e] at this; cases this
      exact a.new c i hm e'
  own r hr ho := a.own r hr (b.own r (Nat.lt_of_lt_of_le hr a.size) ho)

/-- D's block gets another content, the model's block too; nothing else turns. -/
theorem HRel.upd {ok : OkC} {G : Nat} {m : Inj} {h : H} {w w' : World} (R : HRel ok G m h w) {b : Nat} {o o' : DObj} {i : Img} (hb : h.get b = some o) (hm : o.mut = true) (hi : m b = some i)
    (hs : w'.heap.size = w.heap.size) (hw : ∀ r, r ≠ i.blk → w'.heap[r]? = w.heap[r]?) (ho : ORel ok m w' i o') : HRel ok G m (h.put b o') w' where
  obj c u j hc hj := by
    rw [H.get_put] at hc
    by_cases e : c = b
    · subst e; rw [if_pos rfl] at hc; cases hc; rw [hi] at hj; cases hj; exact ho
    · rw [if_neg e] at hc
      exact (R.obj c u j hc hj).congr (Ext.refl m) (hw _ fun e' => e (R.inj b c o u i j hb hm hc hi hj e'.symm).symm)
  inj c d u u' j j' hc hu hd hj hj' e := by
    rw [H.get_put] at hc hd
    by_cases e1 : c = b
    · by_cases e2 : d = b
      · rw [e1, e2]
      · rw [if_neg e2] at hd; subst e1; exact R.inj c d o u' j j' hb hm hd hj hj' e
    · rw [if_neg e1] at hc
      by_cases e2 : d = b
      · subst e2; exact (R.inj d c o u j' j hb hm hc hj' hj e.symm).symm
      · rw [if_neg e2] at hd; exact R.inj c d u u' j j' hc hu hd hj hj' e
  dom c j hj := by rw [hs]; exact R.dom c j hj
  one := R.one
  wf c hc := by
    rw [H.get_put]
    by_cases e : c = b
    · subst e; rw [R.wf c hc] at hb; cases hb
    · rw [if_neg e]; exact R.wf c hc
  glob := R.glob
theorem Evo.upd {m : Inj} {h : H} {w w' : World} {b : Nat} {o o' : DObj} {i : Img} (hb : h.get b = some o) (hm : o.mut = true) (hi : m b = some i)
    (h1 : w'.os = w.os) (h2 : w'.tape = w.tape) (h3 : w'.output = w.output) (hs : w'.heap.size = w.heap.size) (hw : ∀ r, r ≠ i.blk → w'.heap[r]? = w.heap[r]?) : Evo m h w m (h.put b o') w' where
  ext := Ext.refl m
  os := h1
  tape := h2
  output := h3
  size := by rw [hs]; exact Nat.le_refl _
  keep r hr hn := hw r fun e => hn ⟨b, o, i, hb, hm, hi, e.symm⟩
  new c j e e' := by rw [e] at e'; cases e'
  own r hr := by
    rintro ⟨c, u, j, hc, hu, hj, e⟩
    rw [H.get_put] at hc
    by_cases e1 : c = b
    · subst e1; exact ⟨c, o, j, hb, hm, hj, e⟩
    · rw [if_neg e1] at hc; exact ⟨c, u, j, hc, hu, hj, e⟩
def Inj.add (m : Inj) (b : Nat) (i : Img) : Inj := fun c => if c = b then some i else m c
theorem Inj.add_self (m : Inj) (b : Nat) (i : Img) : m.add b i b = some i := by simp [Inj.add]
theorem HRel.fresh {ok : OkC} {G : Nat} {m : Inj} {h : H} {w : World} (R : HRel ok G m h w) : m h.addr = none := by
  unfold H.addr
  split
  · rename_i a r e; exact (R.one a (by rw [e]; exact List.mem_cons_self ..)).2
  · cases e : m h.next with
    | none => rfl
    | some i => exact absurd (R.dom _ _ e).1 (Nat.lt_irrefl _)
theorem Inj.ext_add {m : Inj} {b : Nat} (i : Img) (h : m b = none) : Ext m (m.add b i) := by
  intro c j e
  unfold Inj.add
  by_cases hc : c = b
  · subst hc; rw [h] at e; cases e
  · rw [if_neg hc]; exact e
/-- A new block of D's, where the model's memory has got one more. -/
theorem HRel.alloc {ok : OkC} {G : Nat} {m : Inj} {h : H} {w w' : World} (R : HRel ok G m h w) {o : DObj} {i : Img} (hi : i.blk = w.heap.size) (hs : w'.heap.size = w.heap.size + 1)
    (hw : ∀ r, r < w.heap.size → w'.heap[r]? = w.heap[r]?) (ho : ORel ok (m.add h.addr i) w' i o) : HRel ok G (m.add h.addr i) (h.new o) w' where
  obj c u j hc hj := by
    rw [H.get_new] at hc
    by_cases e : c = h.addr
    · subst e; rw [if_pos rfl] at hc; cases hc; rw [Inj.add_self] at hj; cases hj; exact ho
    · rw [if_neg e] at hc
      unfold Inj.add at hj; rw [if_neg e] at hj
      exact (R.obj c u j hc hj).congr (Inj.ext_add i R.fresh) (hw _ (R.dom c j hj).2)
  inj c d u u' j j' hc hu hd hj hj' e := by
    rw [H.get_new] at hc hd
    unfold Inj.add at hj hj'
    by_cases e1 : c = h.addr
    · by_cases e2 : d = h.addr
      · rw [e1, e2]
      · rw [if_pos e1] at hj; rw [if_neg e2] at hj'; cases hj
        have := (R.dom d j' hj').2
        omega
    · rw [if_neg e1] at hj hc
      by_cases e2 : d = h.addr
      · rw [if_pos e2] at hj'; cases hj'
        have := (R.dom c j hj).2
        omega
      · rw [if_neg e2] at hj' hd; exact R.inj c d u u' j j' hc hu hd hj hj' e
  dom c j hj := by
    unfold Inj.add at hj
    by_cases e : c = h.addr
    · rw [if_pos e] at hj; cases hj
      exact ⟨by rw [e]; exact H.lt_new _ _ fun a ha => (R.one a ha).1, by omega⟩
    · rw [if_neg e] at hj
      have := R.dom c j hj
      exact ⟨Nat.lt_of_lt_of_le this.1 (H.next_new _ _), by omega⟩
  one a ha := by
    have ⟨h1, h2⟩ := H.one_new ha
    exact ⟨Nat.lt_of_lt_of_le (R.one a h1).1 (H.next_new _ _), by unfold Inj.add; rw [if_neg h2]; exact (R.one a h1).2⟩
  wf c hc := by
    rw [H.get_new, if_neg, R.wf c (Nat.le_trans (H.next_new _ _) hc)]
    have := H.lt_new h o fun a ha => (R.one a ha).1
    omega
  glob g hg := let ⟨j, h1, h2⟩ := R.glob g hg; ⟨j, Inj.ext_add i R.fresh _ _ h1, h2⟩
theorem Evo.alloc {ok : OkC} {G : Nat} {m : Inj} {h : H} {w w' : World} (R : HRel ok G m h w) {o : DObj} {i : Img} (hi : i.blk = w.heap.size) (h1 : w'.os = w.os) (h2 : w'.tape = w.tape) (h3 : w'.output = w.output) (hs : w'.heap.size = w.heap.size + 1)
    (hw : ∀ r, r < w.heap.size → w'.heap[r]? = w.heap[r]?) : Evo m h w (m.add h.addr i) (h.new o) w' where
  ext := Inj.ext_add i R.fresh
  os := h1
  tape := h2
  output := h3
  size := by omega
  keep r hr _ := hw r hr
  new c j e e' := by
    unfold Inj.add at e
    by_cases hc : c = h.addr
    · rw [if_pos hc] at e; cases e; exact .inl (by omega)
    · rw [if_neg hc] at e; rw [e] at e'; cases e'
  own r hr := by
    rintro ⟨c, u, j, hc, hu, hj, e⟩
    rw [H.get_new] at hc
    unfold Inj.add at hj
    by_cases e1 : c = h.addr
    · rw [if_pos e1] at hj; cases hj; omega
    · rw [if_neg e1] at hc hj; exact ⟨c, u, j, hc, hu, hj, e⟩
/-- The world has drawn: no block turns. -/
theorem HRel.same {ok : OkC} {G : Nat} {m : Inj} {h : H} {w w' : World} (R : HRel ok G m h w) (hw : w'.heap = w.heap) : HRel ok G m h w' where
  obj c u j hc hj := (R.obj c u j hc hj).congr (Ext.refl m) (by rw [hw])
  inj := R.inj
  dom c j hj := by rw [hw]; exact R.dom c j hj
  one := R.one
  wf := R.wf
  glob := R.glob
theorem Evo.same {m : Inj} {h : H} {w w' : World} (hw : w'.heap = w.heap) (h1 : w'.os = w.os) (h2 : w'.tape = w.tape) (h3 : w'.output = w.output) : Evo m h w m h w' :=
  ⟨Ext.refl m, h1, h2, h3, by rw [hw]; exact Nat.le_refl _, fun _ _ _ => by rw [hw], fun b i e e' => (by rw [e] at e'; cases e'), fun _ _ h => h⟩
theorem HRel.drop {ok : OkC} {G : Nat} {m : Inj} {h : H} {w : World} (R : HRel ok G m h w) (b : Nat) : HRel ok G m (h.drop b) w where
  obj c u j hc hj := by
    rw [H.get_drop] at hc
    by_cases e : c = b
    · rw [if_pos e] at hc; cases hc
    · rw [if_neg e] at hc; exact R.obj c u j hc hj
  inj c d u u' j j' hc hu hd := by
    rw [H.get_drop] at hc hd
    by_cases e : c = b
    · rw [if_pos e] at hc; cases hc
    · rw [if_neg e] at hc
      by_cases e2 : d = b
      · rw [if_pos e2] at hd; cases hd
      · rw [if_neg e2] at hd; exact R.inj c d u u' j j' hc hu hd
  dom := R.dom
  one := R.one
  wf c hc := by
    rw [H.get_drop]
    by_cases e : c = b
    · rw [if_pos e]
    · rw [if_neg e]; exact R.wf c hc
  glob := R.glob
/-- Another memory of D's that is the same where something of the model's answers. -/
theorem HRel.view {ok : OkC} {G : Nat} {m : Inj} {h h2 : H} {w : World} (R : HRel ok G m h w) (hg : ∀ b i, m b = some i → h2.get b = h.get b) (hd : ∀ b i, m b = some i → b < h2.next)
    (hwf : ∀ b, h2.next ≤ b → h2.get b = none) (ho : ∀ a, a ∈ h2.one → a < h2.next ∧ m a = none) : HRel ok G m h2 w where
  obj b o i hb hi := R.obj b o i (by rw [← hg b i hi]; exact hb) hi
  inj b b' o o' i i' hb hm hb' hi hi' e := R.inj b b' o o' i i' (by rw [← hg b i hi]; exact hb) hm (by rw [← hg b' i' hi']; exact hb') hi hi' e
  dom b i hi := ⟨hd b i hi, (R.dom b i hi).2⟩
  one := ho
  wf := hwf
  glob := R.glob
theorem Own.view {m : Inj} {h h2 : H} (hg : ∀ b i, m b = some i → h2.get b = h.get b) {r : Nat} (ho : Own m h r) : Own m h2 r :=
  let ⟨b, o, i, h1, h2, h3, h4⟩ := ho; ⟨b, o, i, (hg b i h3).trans h1, h2, h3, h4⟩
theorem Evo.view {m m' : Inj} {h h2 h' h2' : H} {w w' : World} (e : Evo m h w m' h' w') (hg : ∀ b i, m b = some i → h2.get b = h.get b) (hg' : ∀ b i, m' b = some i → h2'.get b = h'.get b) : Evo m h2 w m' h2' w' where
  ext := e.ext
  os := e.os
  tape := e.tape
  output := e.output
  size := e.size
  keep r hr hn := e.keep r hr fun ho => hn (ho.view hg)
  new b i h1 h2 := (e.new b i h1 h2).imp id fun ho => ho.view hg
  own r hr ho := (e.own r hr (ho.view fun b i hi => (hg' b i hi).symm)).view hg
end Go.Dm
