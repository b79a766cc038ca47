/- The shell's state in memory. -/
import Derived.Test.YtdgclgfhcgdehaaDoorSdM
import Derived.Test.YtdgclgfhcgdehaaDoorShE
import Derived.Test.YtdgclgfhcgdehaaDoorDEq
set_option linter.unusedVariables false
set_option linter.unusedSimpArgs false
namespace Go.Dm
open Go.Proofs
theorem Fr.thn {B : Nat} {a b c : H} (f : Fr B a b) (hB : B ≤ a.next) (g : Fr b.next b c) : Fr B a c := f.trans (g.mono (Nat.le_trans hB f.next))
theorem SlG.eq {ty : Option TypeId} {n B : Nat} {h : H} {v : Value} {cs cs' : List Value} {len len' : Nat} (s : SlG ty n B h v cs len) (e1 : cs' = cs) (e2 : len' = len) : SlG ty n B h v cs' len' := by subst e1 e2; exact s
theorem at_k {pre post : List Value} {x : Value} {k : Nat} (h : pre.length = k) : (pre ++ x :: post)[k]? = some x := by subst h; simp
theorem set_k {pre post : List Value} {x v : Value} {k : Nat} (h : pre.length = k) : (pre ++ x :: post).set k v = pre ++ v :: post := by subst h; simp
theorem mid_k {pre mid post : List Value} {k n : Nat} (h : pre.length = k) (hn : mid.length = n) : ((pre ++ (mid ++ post)).drop k).take n = mid := by subst h; subst hn; simp
def encK (l : List ShF) : List Value := l.flatMap encF
def encDs (l : List ShD) : List Value := l.flatMap encD
theorem encK_len (l : List ShF) : (encK l).length = l.length * 4 := by
  induction l with
  | nil => rfl
  | cons x l ih => simp [encK, encF] at ih ⊢; omega
theorem encDs_len (l : List ShD) : (encDs l).length = l.length * 3 := by
  induction l with
  | nil => rfl
  | cons x l ih => simp [encDs, encD] at ih ⊢; omega
theorem encS_eq (s : ShS) : encS s = encK s.stk ++ ([.int .i64 s.dep, .int .u8 s.mode, .int .u8 s.mark, .int .u8 s.flags, .int .i64 s.cnt] ++ (encDs s.docs ++ [.int .i64 s.wait])) := rfl
theorem encS_len {s : ShS} (h : s.ok) : (encS s).length = 82 := by
  rw [encS_eq]; simp [encK_len, encDs_len, h.stk, h.docs]
/-- A state's cells, and what stands behind it. -/
def scS (s : ShS) (r : List Value) : List Value := encS s ++ r
section
variable {s : ShS} (h : s.ok) (r : List Value)
include h
theorem scS_len : (scS s r).length = 82 + r.length := by unfold scS; rw [List.length_append, encS_len h]
theorem scS_mode : (scS s r)[65]? = some (.int .u8 s.mode) := by
  have e : scS s r = (encK s.stk ++ [.int .i64 s.dep]) ++ .int .u8 s.mode :: ([.int .u8 s.mark, .int .u8 s.flags, .int .i64 s.cnt] ++ (encDs s.docs ++ [.int .i64 s.wait]) ++ r) := by unfold scS; rw [encS_eq]; simp
  rw [e]; exact at_k (by simp [encK_len, h.stk])
theorem scS_mark : (scS s r)[66]? = some (.int .u8 s.mark) := by
  have e : scS s r = (encK s.stk ++ [.int .i64 s.dep, .int .u8 s.mode]) ++ .int .u8 s.mark :: ([.int .u8 s.flags, .int .i64 s.cnt] ++ (encDs s.docs ++ [.int .i64 s.wait]) ++ r) := by unfold scS; rw [encS_eq]; simp
  rw [e]; exact at_k (by simp [encK_len, h.stk])
theorem scS_wait : (scS s r)[81]? = some (.int .i64 s.wait) := by
  have e : scS s r = (encK s.stk ++ ([.int .i64 s.dep, .int .u8 s.mode, .int .u8 s.mark, .int .u8 s.flags, .int .i64 s.cnt] ++ encDs s.docs)) ++ .int .i64 s.wait :: r := by unfold scS; rw [encS_eq]; simp
  rw [e]; exact at_k (by simp [encK_len, encDs_len, h.stk, h.docs])
theorem scS_behind (j : Nat) : (scS s r)[82 + j]? = r[j]? := by
  unfold scS
  rw [List.getElem?_append_right (by rw [encS_len h]; omega), encS_len h, Nat.add_sub_cancel_left]
theorem scS_docs : ((scS s r).drop 69).take 12 = encDs s.docs := by
  have e : scS s r = (encK s.stk ++ [.int .i64 s.dep, .int .u8 s.mode, .int .u8 s.mark, .int .u8 s.flags, .int .i64 s.cnt]) ++ (encDs s.docs ++ ([.int .i64 s.wait] ++ r)) := by unfold scS; rw [encS_eq]; simp
  rw [e]; exact mid_k (by simp [encK_len, h.stk]) (by simp [encDs_len, h.docs])
theorem scS_all : (scS s r).take 82 = encS s := by
  unfold scS; rw [List.take_append_of_le_length (by rw [encS_len h]; omega), List.take_of_length_le (by rw [encS_len h]; omega)]
theorem set_mode (m : Nat) : (scS s r).set 65 (.int .u8 m) = scS { s with mode := m } r := by
  have e : ∀ q : Nat, scS { s with mode := q } r = (encK s.stk ++ [.int .i64 s.dep]) ++ .int .u8 q :: ([.int .u8 s.mark, .int .u8 s.flags, .int .i64 s.cnt] ++ (encDs s.docs ++ [.int .i64 s.wait]) ++ r) := by intro q; unfold scS; rw [encS_eq]; simp
  rw [e m, show scS s r = _ from e s.mode]; exact set_k (by simp [encK_len, h.stk])
theorem set_mark (m : Nat) : (scS s r).set 66 (.int .u8 m) = scS { s with mark := m } r := by
  have e : ∀ q : Nat, scS { s with mark := q } r = (encK s.stk ++ [.int .i64 s.dep, .int .u8 s.mode]) ++ .int .u8 q :: ([.int .u8 s.flags, .int .i64 s.cnt] ++ (encDs s.docs ++ [.int .i64 s.wait]) ++ r) := by intro q; unfold scS; rw [encS_eq]; simp
  rw [e m, show scS s r = _ from e s.mark]; exact set_k (by simp [encK_len, h.stk])
theorem set_wait (m : Int) : (scS s r).set 81 (.int .i64 m) = scS { s with wait := m } r := by
  have e : ∀ q : Int, scS { s with wait := q } r = (encK s.stk ++ ([.int .i64 s.dep, .int .u8 s.mode, .int .u8 s.mark, .int .u8 s.flags, .int .i64 s.cnt] ++ encDs s.docs)) ++ .int .i64 q :: r := by intro q; unfold scS; rw [encS_eq]; simp
  rw [e m, show scS s r = _ from e s.wait]; exact set_k (by simp [encK_len, encDs_len, h.stk, h.docs])
theorem set_behind (j : Nat) (v : Value) : (scS s r).set (82 + j) v = scS s (r.set j v) := by
  unfold scS
  rw [List.set_append_right _ _ (by rw [encS_len h]; omega), encS_len h, Nat.add_sub_cancel_left]
theorem set_docs (d : List ShD) (hd : d.length = 4) : setAt (scS s r) 69 (encDs d) = scS { s with docs := d } r := by
  have e : ∀ q : List ShD, scS { s with docs := q } r = (encK s.stk ++ [.int .i64 s.dep, .int .u8 s.mode, .int .u8 s.mark, .int .u8 s.flags, .int .i64 s.cnt]) ++ (encDs q ++ ([.int .i64 s.wait] ++ r)) := by intro q; unfold scS; rw [encS_eq]; simp
  have k : ∀ (pre mid post : List Value) (vs : List Value), mid.length = vs.length → setAt (pre ++ (mid ++ post)) pre.length vs = pre ++ (vs ++ post) := by
    intro pre mid post vs
    induction vs generalizing pre mid with
    | nil =>
      intro hl
      cases mid with
      | nil => rfl
      | cons x mid => simp at hl
    | cons v vs ih =>
      intro hl
      match mid, hl with
      | x :: mid, hl =>
        show setAt ((pre ++ (x :: mid ++ post)).set pre.length v) (pre.length + 1) vs = _
        have e2 : (pre ++ (x :: mid ++ post)).set pre.length v = (pre ++ [v]) ++ (mid ++ post) := by
          rw [List.cons_append, set_k rfl]; simp
        have := ih (pre ++ [v]) mid (by simpa using hl)
        rw [e2, show pre.length + 1 = (pre ++ [v]).length by simp, this]
        simp
  rw [e d, show scS s r = _ from e s.docs]
  have := k (encK s.stk ++ [.int .i64 s.dep, .int .u8 s.mode, .int .u8 s.mark, .int .u8 s.flags, .int .i64 s.cnt]) (encDs s.docs) ([.int .i64 s.wait] ++ r) (encDs d) (by rw [encDs_len, encDs_len, h.docs, hd])
  rw [← this]
  congr 1
  simp [encK_len, h.stk]
end
theorem str_cell (w : List UInt8) : cellV (str w) = true := rfl
theorem encDs_cells (l : List ShD) : (encDs l).all cellV = true := by simp [encDs, encD, List.all_flatMap, str_cell]
theorem encS_cells (s : ShS) : (encS s).all cellV = true := by
  rw [encS_eq]
  have := encDs_cells s.docs
  simp [encK, encF, List.all_flatMap] at this ⊢
  exact this
theorem docK_get {s : ShS} (h : s.ok) {i : Nat} (hi : i < 4) : s.docs = s.docs.take i ++ docK s i :: s.docs.drop (i + 1) := by
  have hl : i < s.docs.length := by rw [h.docs]; exact hi
  have e : docK s i = s.docs[i] := by simp [docK, List.getD, hl]
  rw [e, ← List.drop_eq_getElem_cons hl, List.take_append_drop]
theorem encDs_app (a b : List ShD) : encDs (a ++ b) = encDs a ++ encDs b := by simp [encDs]
theorem encDs_cons (a : ShD) (b : List ShD) : encDs (a :: b) = encD a ++ encDs b := by simp [encDs]
section
variable {s : ShS} (h : s.ok) (r : List Value) {i : Nat} (hi : i < 4)
include h hi
theorem scS_split : scS s r = (encK s.stk ++ [.int .i64 s.dep, .int .u8 s.mode, .int .u8 s.mark, .int .u8 s.flags, .int .i64 s.cnt] ++ encDs (s.docs.take i)) ++ (encD (docK s i) ++ (encDs (s.docs.drop (i + 1)) ++ ([.int .i64 s.wait] ++ r))) := by
  unfold scS; rw [encS_eq]
  conv => lhs; rw [docK_get h hi, encDs_app, encDs_cons]
  simp
theorem pre_len : (encK s.stk ++ [.int .i64 s.dep, .int .u8 s.mode, .int .u8 s.mark, .int .u8 s.flags, .int .i64 s.cnt] ++ encDs (s.docs.take i) : List Value).length = 69 + i * 3 := by
  simp [encK_len, encDs_len, h.stk, h.docs]; omega
theorem scS_doc : ((scS s r).drop (69 + i * 3)).take 3 = encD (docK s i) := by
  rw [scS_split h r hi]; exact mid_k (pre_len h hi) rfl
theorem scS_word : (scS s r)[69 + i * 3]? = some (str (docK s i).word) := by
  rw [scS_split h r hi]; exact at_k (pre_len h hi)
theorem set_doc (d : ShD) : (((scS s r).set (69 + i * 3) (str d.word)).set (69 + i * 3 + 1) (.bool d.strip)).set (69 + i * 3 + 2) (.bool d.raw) = scS { s with docs := s.docs.set i d } r := by
  have hl : i < s.docs.length := by rw [h.docs]; exact hi
  have hok : ShS.ok { s with docs := s.docs.set i d } := ⟨h.stk, by simp [h.docs]⟩
  have hd : docK { s with docs := s.docs.set i d } i = d := by simp [docK, List.getD, hl]
  rw [scS_split hok r hi, hd, scS_split h r hi]
  have e1 : (s.docs.set i d).take i = s.docs.take i := by rw [List.take_set_of_le (Nat.le_refl _)]
  have e2 : (s.docs.set i d).drop (i + 1) = s.docs.drop (i + 1) := by rw [List.drop_set_of_lt (Nat.lt_succ_self _)]
  simp only [e1, e2]
  generalize hp : (encK s.stk ++ [.int .i64 s.dep, .int .u8 s.mode, .int .u8 s.mark, .int .u8 s.flags, .int .i64 s.cnt] ++ encDs (s.docs.take i) : List Value) = pre
  generalize (encDs (s.docs.drop (i + 1)) ++ ([.int .i64 s.wait] ++ r) : List Value) = post
  have hpl : pre.length = 69 + i * 3 := by rw [← hp]; exact pre_len h hi
  show (((pre ++ (str (docK s i).word :: .bool (docK s i).strip :: .bool (docK s i).raw :: post)).set _ _).set _ _).set _ _ = pre ++ (str d.word :: .bool d.strip :: .bool d.raw :: post)
  rw [set_k hpl]
  have q1 : pre ++ str d.word :: .bool (docK s i).strip :: .bool (docK s i).raw :: post = (pre ++ [str d.word]) ++ .bool (docK s i).strip :: .bool (docK s i).raw :: post := by simp
  rw [q1, set_k (by simp [hpl])]
  have q2 : (pre ++ [str d.word]) ++ .bool d.strip :: .bool (docK s i).raw :: post = (pre ++ [str d.word, .bool d.strip]) ++ .bool (docK s i).raw :: post := by simp
  rw [q2, set_k (by simp [hpl])]
  simp
end
/-! two states, two events -/
theorem eq_fm (p q : ShF) : eqD E0 9998 23 (.agg (encF p).toArray) (.agg (encF q).toArray) = some (decide (p = q)) := by
  obtain ⟨a1, a2, a3, a4⟩ := p
  obtain ⟨b1, b2, b3, b4⟩ := q
  simp [encF]
  rw [Bool.eq_iff_iff]
  simp
  omega
theorem eq_dc (d : Nat) (p q : ShD) : eqD E0 (d + 2) 26 (.agg (encD p).toArray) (.agg (encD q).toArray) = some (decide (p = q)) := by
  obtain ⟨a1, a2, a3⟩ := p
  obtain ⟨b1, b2, b3⟩ := q
  simp [encD]
  rw [Bool.eq_iff_iff]
  simp
theorem eq_ev (p q : ShE) : eqD E0 10000 41 (.agg (encE p).toArray) (.agg (encE q).toArray) = some (decide (p = q)) := by
  obtain ⟨a1, a2, a3, a4⟩ := p
  obtain ⟨b1, b2, b3, b4⟩ := q
  simp [encE]
  rw [Bool.eq_iff_iff]
  simp
  omega
theorem flat_len {α : Type} (enc : α → List Value) {n : Nat} (hn : ∀ a, (enc a).length = n) (l : List α) : (l.flatMap enc).length = l.length * n := by
  induction l with
  | nil => simp
  | cons x l ih => simp [hn, ih, Nat.succ_mul]; omega
theorem flat_mid {α : Type} (enc : α → List Value) {n : Nat} (hn : ∀ a, (enc a).length = n) (l : List α) {i : Nat} (hi : i < l.length) : ((l.flatMap enc).drop (i * n)).take n = enc l[i] := by
  have e : l = l.take i ++ (l[i] :: l.drop (i + 1)) := by rw [← List.drop_eq_getElem_cons hi, List.take_append_drop]
  have e2 : l.flatMap enc = (l.take i).flatMap enc ++ (enc l[i] ++ (l.drop (i + 1)).flatMap enc) := by
    have := congrArg (List.flatMap enc) e
    rw [List.flatMap_append, List.flatMap_cons] at this
    exact this
  rw [e2]
  exact mid_k (by rw [flat_len enc hn, List.length_take, Nat.min_eq_left (by omega)]) (hn _)
theorem eqElems_dec {α : Type} [DecidableEq α] {E : Env} {eq : TypeId → Value → Value → Option Bool} {elem : TypeId} (enc : α → List Value) {n : Nat} (hn : ∀ a, (enc a).length = n) (ha : aggN E elem = some (some n))
    (heq : ∀ a b, eq elem (.agg (enc a).toArray) (.agg (enc b).toArray) = some (decide (a = b))) (xs ys : List α) (hl : xs.length = ys.length) : ∀ (k i : Nat), i + k = xs.length → eqElemsD E eq elem n (xs.flatMap enc) (ys.flatMap enc) i k = some (decide (xs.drop i = ys.drop i)) := by
  intro k
  induction k with
  | zero =>
    intro i hi
    rw [List.drop_eq_nil_of_le (by omega), List.drop_eq_nil_of_le (by omega)]
    rfl
  | succ k ih =>
    intro i hi
    have h1 : i < xs.length := by omega
    have h2 : i < ys.length := by omega
    have q1 : partD E elem (xs.flatMap enc) (i * n) = some (.agg (enc xs[i]).toArray) := by
      unfold partD; rw [ha]; simp only
      rw [if_pos (by rw [flat_len enc hn]; rw [← Nat.succ_mul]; exact Nat.mul_le_mul_right _ h1), flat_mid enc hn xs h1]
    have q2 : partD E elem (ys.flatMap enc) (i * n) = some (.agg (enc ys[i]).toArray) := by
      unfold partD; rw [ha]; simp only
      rw [if_pos (by rw [flat_len enc hn]; rw [← Nat.succ_mul]; exact Nat.mul_le_mul_right _ h2), flat_mid enc hn ys h2]
    have ih2 := ih (i + 1) (by omega)
    unfold eqElemsD
    rw [q1, q2]
    simp only [heq]
    have key : (xs.drop i = ys.drop i) ↔ (xs[i] = ys[i] ∧ xs.drop (i + 1) = ys.drop (i + 1)) := by
      rw [List.drop_eq_getElem_cons h1, List.drop_eq_getElem_cons h2, List.cons.injEq]
    by_cases c : xs[i] = ys[i]
    · simp only [decide_eq_true c, ih2]
      congr 1
      exact decide_eq_decide.2 ⟨fun q => key.2 ⟨c, q⟩, fun q => (key.1 q).2⟩
    · simp only [decide_eq_false c]
      congr 1
      exact (decide_eq_false fun q => c (key.1 q).1).symm
theorem eqD_array {E : Env} {d : Nat} {t elem : TypeId} {len n : Nat} {xs ys : Array Value} (h1 : E.und t = some (.array len elem)) (h2 : E.siz elem = some n) (h3 : E.eqo t = true) : eqD E (d + 1) t (.agg xs) (.agg ys) = eqElemsD E (eqD E d) elem n xs.toList ys.toList 0 len := by
  simp only [eqD, h1, h2, h3, if_true]
theorem eqD_struct {E : Env} {d : Nat} {t : TypeId} {fs : Array Field} {xs ys : Array Value} (h1 : E.und t = some (.struct fs)) (h3 : E.eqo t = true) : eqD E (d + 1) t (.agg xs) (.agg ys) = eqFieldsD E (eqD E d) xs.toList ys.toList fs.toList := by
  simp only [eqD, h1, h3, if_true]
theorem eqD_int {E : Env} {d : Nat} {t : TypeId} {k : IntKind} {a b : Int} (h : E.und t = some (.int k)) : eqD E (d + 1) t (.int k a) (.int k b) = some (decide (a = b)) := by
  simp only [eqD, h, if_true]
  rfl
theorem eqFields_step {E : Env} {eq : TypeId → Value → Value → Option Bool} {xs ys : List Value} {f : Field} {fs : List Field} (hn : f.name ≠ "_") {u v : Value} (p1 : partD E f.type xs f.offset = some u) (p2 : partD E f.type ys f.offset = some v) {b : Bool}
    (he : eq f.type u v = some b) : eqFieldsD E eq xs ys (f :: fs) = if b = true then eqFieldsD E eq xs ys fs else some false := by
  simp only [eqFieldsD, if_neg hn, p1, p2, he]
  cases b <;> rfl
theorem eq_stk (xs ys : List ShF) (hx : xs.length = 16) (hy : ys.length = 16) : eqD E0 9999 24 (.agg (encK xs).toArray) (.agg (encK ys).toArray) = some (decide (xs = ys)) := by
  have hu := und24
  have he := eqo24
  have hs := siz23
  have := eqElems_dec (E := E0) (eq := eqD E0 9998) (elem := 23) encF (n := 4) (fun _ => rfl) (by unfold aggN; rw [und23]; simp only [hs]; rfl) eq_fm xs ys (by omega) 16 0 (by omega)
  rw [show (9999 : Nat) = 9998 + 1 from rfl, eqD_array hu hs he]
  exact this
theorem eq_dcs (xs ys : List ShD) (hx : xs.length = 4) (hy : ys.length = 4) : eqD E0 9999 27 (.agg (encDs xs).toArray) (.agg (encDs ys).toArray) = some (decide (xs = ys)) := by
  have hu := und27
  have he := eqo27
  have hs := siz26
  have := eqElems_dec (E := E0) (eq := eqD E0 9998) (elem := 26) encD (n := 3) (fun _ => rfl) (by unfold aggN; rw [und26]; simp only [hs]; rfl) (eq_dc 9996) xs ys (by omega) 4 0 (by omega)
  rw [show (9999 : Nat) = 9998 + 1 from rfl, eqD_array hu hs he]
  exact this
set_option maxRecDepth 100000 in
theorem eq_st {x y : ShS} (hx : x.ok) (hy : y.ok) : eqD E0 10000 29 (.agg (encS x).toArray) (.agg (encS y).toArray) = some (decide (x = y)) := by
  have hu := und29
  have he := eqo29
  rw [show (10000 : Nat) = 9999 + 1 from rfl, eqD_struct hu he]
  have e1 := eq_stk x.stk y.stk hx.stk hy.stk
  have e2 := eq_dcs x.docs y.docs hx.docs hy.docs
  have l1 := encS_len hx
  have l2 := encS_len hy
  have a1 : ∀ {s : ShS}, s.ok → (encS s).take 64 = encK s.stk := by
    intro s h; rw [encS_eq, List.take_append_of_le_length (by rw [encK_len, h.stk]; omega), List.take_of_length_le (by rw [encK_len, h.stk]; omega)]
  have a2 : ∀ {s : ShS}, s.ok → (encS s)[64]? = some (.int .i64 s.dep) := by
    intro s h
    have e : encS s = encK s.stk ++ .int .i64 s.dep :: ([.int .u8 s.mode, .int .u8 s.mark, .int .u8 s.flags, .int .i64 s.cnt] ++ (encDs s.docs ++ [.int .i64 s.wait])) := by rw [encS_eq]; simp
    rw [e]; exact at_k (by simp [encK_len, h.stk])
  have a3 : ∀ {s : ShS}, s.ok → (encS s)[67]? = some (.int .u8 s.flags) := by
    intro s h
    have e : encS s = (encK s.stk ++ [.int .i64 s.dep, .int .u8 s.mode, .int .u8 s.mark]) ++ .int .u8 s.flags :: ([.int .i64 s.cnt] ++ (encDs s.docs ++ [.int .i64 s.wait])) := by rw [encS_eq]; simp
    rw [e]; exact at_k (by simp [encK_len, h.stk])
  have a4 : ∀ {s : ShS}, s.ok → (encS s)[68]? = some (.int .i64 s.cnt) := by
    intro s h
    have e : encS s = (encK s.stk ++ [.int .i64 s.dep, .int .u8 s.mode, .int .u8 s.mark, .int .u8 s.flags]) ++ .int .i64 s.cnt :: (encDs s.docs ++ [.int .i64 s.wait]) := by rw [encS_eq]; simp
    rw [e]; exact at_k (by simp [encK_len, h.stk])
  have m1 : ∀ {s : ShS}, s.ok → (encS s)[65]? = some (.int .u8 s.mode) := fun h => by have := scS_mode h []; unfold scS at this; rwa [List.append_nil] at this
  have m2 : ∀ {s : ShS}, s.ok → (encS s)[66]? = some (.int .u8 s.mark) := fun h => by have := scS_mark h []; unfold scS at this; rwa [List.append_nil] at this
  have m3 : ∀ {s : ShS}, s.ok → (encS s)[81]? = some (.int .i64 s.wait) := fun h => by have := scS_wait h []; unfold scS at this; rwa [List.append_nil] at this
  have m4 : ∀ {s : ShS}, s.ok → ((encS s).drop 69).take 12 = encDs s.docs := fun h => by have := scS_docs h []; unfold scS at this; rwa [List.append_nil] at this
  have P0 : ∀ {s : ShS}, s.ok → partD E0 24 (encS s).toArray.toList 0 = some (.agg (encK s.stk).toArray) := fun h => by
    unfold partD aggN; rw [und24, siz24]; simp only [Option.map_some]
    rw [if_pos (by rw [encS_len h]; decide), List.drop_zero, a1 h]
  have P6 : ∀ {s : ShS}, s.ok → partD E0 27 (encS s).toArray.toList 69 = some (.agg (encDs s.docs).toArray) := fun h => by
    unfold partD aggN; rw [und27, siz27]; simp only [Option.map_some]
    rw [if_pos (by rw [encS_len h]; decide), m4 h]
  have PI : ∀ (s : ShS) (k : Nat), partD E0 3 (encS s).toArray.toList k = (encS s)[k]? := fun s k => by
    unfold partD aggN; rw [und3]
  have PU : ∀ (s : ShS) (k : Nat), partD E0 5 (encS s).toArray.toList k = (encS s)[k]? := fun s k => by
    unfold partD aggN; rw [und5]
  have EI : ∀ a b : Int, eqD E0 9999 3 (.int .i64 a) (.int .i64 b) = some (decide (a = b)) := fun a b => eqD_int und3
  have EU : ∀ a b : Nat, eqD E0 9999 5 (.int .u8 a) (.int .u8 b) = some (decide (a = b)) := fun a b => by
    have := eqD_int (E := E0) (d := 9998) (k := .u8) (a := (a : Int)) (b := (b : Int)) und5
    rw [this]; congr 1; exact decide_eq_decide.2 (by omega)
  show eqFieldsD E0 (eqD E0 9999) (encS x).toArray.toList (encS y).toArray.toList [_, _, _, _, _, _, _, _] = _
  rw [eqFields_step (by decide) (P0 hx) (P0 hy) e1,
    eqFields_step (by decide) ((PI _ _).trans (a2 hx)) ((PI _ _).trans (a2 hy)) (EI _ _),
    eqFields_step (by decide) ((PU _ _).trans (m1 hx)) ((PU _ _).trans (m1 hy)) (EU _ _),
    eqFields_step (by decide) ((PU _ _).trans (m2 hx)) ((PU _ _).trans (m2 hy)) (EU _ _),
    eqFields_step (by decide) ((PU _ _).trans (a3 hx)) ((PU _ _).trans (a3 hy)) (EU _ _),
    eqFields_step (by decide) ((PI _ _).trans (a4 hx)) ((PI _ _).trans (a4 hy)) (EI _ _),
    eqFields_step (by decide) (P6 hx) (P6 hy) e2,
    eqFields_step (by decide) ((PI _ _).trans (m3 hx)) ((PI _ _).trans (m3 hy)) (EI _ _)]
  obtain ⟨xk, xd, xm, xa, xf, xc, xo, xw⟩ := x
  obtain ⟨yk, yd, ym, ya, yf, yc, yo, yw⟩ := y
  simp only [eqFieldsD, ShS.mk.injEq]
  by_cases c0 : xk = yk <;> by_cases c1 : xd = yd <;> by_cases c2 : xm = ym <;> by_cases c3 : xa = ya <;> by_cases c4 : xf = yf <;> by_cases c5 : xc = yc <;> by_cases c6 : xo = yo <;> by_cases c7 : xw = yw <;> simp [c0, c1, c2, c3, c4, c5, c6, c7]
theorem zS_ok : zS.ok := ⟨rfl, rfl⟩
theorem zcells : Tryd.zeroCells29 = (encS zS).toArray := by kernel_rfl
/-! the same without anything behind -/
section
variable {s : ShS} (h : s.ok)
include h
theorem st_mode : (encS s)[65]? = some (.int .u8 s.mode) := by have := scS_mode h []; unfold scS at this; rwa [List.append_nil] at this
theorem st_mark : (encS s)[66]? = some (.int .u8 s.mark) := by have := scS_mark h []; unfold scS at this; rwa [List.append_nil] at this
theorem st_wait : (encS s)[81]? = some (.int .i64 s.wait) := by have := scS_wait h []; unfold scS at this; rwa [List.append_nil] at this
theorem st_docs : ((encS s).drop 69).take 12 = encDs s.docs := by have := scS_docs h []; unfold scS at this; rwa [List.append_nil] at this
theorem st_all : (encS s).take 82 = encS s := List.take_of_length_le (by rw [encS_len h]; omega)
theorem st_le : 82 ≤ (encS s).length := by rw [encS_len h]; omega
theorem stm_mode (m : Nat) : (encS s).set 65 (.int .u8 m) = encS { s with mode := m } := by have := set_mode h [] m; unfold scS at this; simpa using this
theorem stm_mark (m : Nat) : (encS s).set 66 (.int .u8 m) = encS { s with mark := m } := by have := set_mark h [] m; unfold scS at this; simpa using this
theorem stm_wait (m : Int) : (encS s).set 81 (.int .i64 m) = encS { s with wait := m } := by have := set_wait h [] m; unfold scS at this; simpa using this
theorem stm_docs (d : List ShD) (hd : d.length = 4) : setAt (encS s) 69 (encDs d) = encS { s with docs := d } := by have := set_docs h [] d hd; unfold scS at this; simpa using this
end
theorem setAt_over : ∀ (c z : List Value), c.length = z.length → setAt z 0 c = c := by
  have key : ∀ (c p z : List Value), c.length = z.length → setAt (p ++ z) p.length c = p ++ c := by
    intro c
    induction c with
    | nil => intro p z h; rw [List.eq_nil_of_length_eq_zero h.symm]; rfl
    | cons x c ih =>
      intro p z h
      match z, h with
      | y :: z, h =>
        show setAt ((p ++ y :: z).set p.length x) (p.length + 1) c = _
        rw [set_k rfl, show p ++ x :: z = (p ++ [x]) ++ z by simp, show p.length + 1 = (p ++ [x]).length by simp, ih (p ++ [x]) z (by simpa using h)]
        simp
  intro c z h
  exact key c [] z h
theorem st_over {s b : ShS} (h : s.ok) (hb : b.ok) : setAt (encS s) 0 (encS b) = encS b := setAt_over _ _ (by rw [encS_len h, encS_len hb])
theorem st_cv (s : ShS) : ∀ x ∈ encS s, cellV x = true := List.all_eq_true.1 (encS_cells s)
theorem le_of82 {s : ShS} (h : s.ok) {k : Nat} (hk : k ≤ 82) : k ≤ (encS s).length := by rw [encS_len h]; exact hk
section
variable {s : ShS} (h : s.ok) {i : Nat} (hi : i < 4)
include h hi
theorem st_doc : ((encS s).drop (69 + i * 3)).take 3 = encD (docK s i) := by have := scS_doc h [] hi; unfold scS at this; rwa [List.append_nil] at this
theorem st_word : (encS s)[69 + i * 3]? = some (str (docK s i).word) := by have := scS_word h [] hi; unfold scS at this; rwa [List.append_nil] at this
theorem stm_doc (d : ShD) : setAt (encS s) (69 + i * 3) (encD d) = encS { s with docs := s.docs.set i d } := by
  have := set_doc h [] hi d
  unfold scS at this
  simp only [List.append_nil] at this
  exact this
end
end Go.Dm
