/- Trees as lists, plainly: what is a tree, and what its nodes are to one another. -/
import Derived.Test.YtdgclgfhcgdehaaDoorDSymB
set_option linter.unusedVariables false
set_option linter.unusedSimpArgs false
namespace Go.Dm
structure Nd where
  kind : Nat
  fm : Int
  to : Int
  dp : Int
  deriving DecidableEq
def encN (x : Nd) : List Value := [.int .u8 x.kind, .int .i64 x.fm, .int .i64 x.to, .int .i64 x.dp]
def encsN (l : List Nd) : List Value := l.flatMap encN
def rootN (n : Int) : Nd := ⟨1, 0, n, 0⟩
/-- The node at a place. -/
def nd (l : List Nd) (i : Nat) : Nd := l.getD i (rootN 0)
@[simp] theorem nd_zero (x : Nd) (l : List Nd) : nd (x :: l) 0 = x := _root_.id rfl
@[simp] theorem nd_succ (x : Nd) (l : List Nd) (i : Nat) : nd (x :: l) (i + 1) = nd l i := by simp [nd]
theorem nd_get {l : List Nd} {i : Nat} (h : i < l.length) : l[i] = nd l i := by simp [nd, h]
theorem nd_get? {l : List Nd} {i : Nat} (h : i < l.length) : l[i]? = some (nd l i) := by simp [nd, h]
theorem drop_nd {l : List Nd} {i : Nat} (h : i < l.length) : l.drop i = nd l i :: l.drop (i + 1) := by
  rw [List.drop_eq_getElem_cons h, nd_get h]
@[simp] theorem encsN_len (l : List Nd) : (encsN l).length = l.length * 4 := by
  induction l with
  | nil => rfl
  | cons x l ih => simp [encsN, encN] at ih ⊢; omega
@[simp] theorem encsN_app (l m : List Nd) : encsN (l ++ m) = encsN l ++ encsN m := by simp [encsN]
@[simp] theorem encsN_nil : encsN [] = [] := _root_.id rfl
@[simp] theorem encsN_cons (x : Nd) (l : List Nd) : encsN (x :: l) = encN x ++ encsN l := by simp [encsN]
theorem encN_len (x : Nd) : (encN x).length = 4 := rfl
theorem encsN_drop : ∀ (l : List Nd) (i : Nat), (encsN l).drop (i * 4) = encsN (l.drop i)
  | [], i => by simp
  | x :: l, 0 => by simp
  | x :: l, i + 1 => by
    rw [encsN_cons, List.drop_succ_cons, show (i + 1) * 4 = (encN x).length + i * 4 by simp [encN]; omega, ← List.drop_drop, List.drop_left, encsN_drop l i]
theorem encsN_take : ∀ (l : List Nd) (i : Nat), (encsN l).take (i * 4) = encsN (l.take i)
  | [], i => by simp
  | x :: l, 0 => by simp
  | x :: l, i + 1 => by
    rw [encsN_cons, List.take_succ_cons, show (i + 1) * 4 = (encN x).length + i * 4 by simp [encN]; omega, List.take_length_add_append, encsN_take l i, encsN_cons]
theorem encsN_get {l : List Nd} {i : Nat} (h : i < l.length) : ((encsN l).drop (i * 4)).take 4 = encN (nd l i) := by
  rw [encsN_drop, drop_nd h, encsN_cons]; rfl
theorem encsN_at {l : List Nd} {i j : Nat} (h : i < l.length) (hj : j < 4) : (encsN l)[i * 4 + j]? = (encN (nd l i))[j]? := by
  have e := congrArg (fun x => x[j]?) (encsN_get h)
  simp only [List.getElem?_take, hj, if_true, List.getElem?_drop] at e
  exact e
theorem encsN_setAt {l : List Nd} {i : Nat} (h : i < l.length) (y : Nd) : encsN (l.set i y) = encsN (l.take i) ++ encN y ++ encsN (l.drop (i + 1)) := by
  rw [List.set_eq_take_append_cons_drop, if_pos h]; simp

/-! ### What is a tree -/
/-- One node more: the nodes that are open, their places being as far as their kids reach. -/
def chkS (C : List Nd) (x : Nd) : Option (List Nd) :=
  if 1 ≤ x.dp ∧ x.dp ≤ C.length then
    if (nd C (x.dp.toNat - 1)).fm ≤ x.fm ∧ x.fm ≤ x.to ∧ x.to ≤ (nd C (x.dp.toNat - 1)).to then some (C.take (x.dp.toNat - 1) ++ [{ nd C (x.dp.toNat - 1) with fm := x.to }, x]) else none
  else none
def chkR (C : List Nd) : List Nd → Option (List Nd)
  | [] => some C
  | x :: l => match chkS C x with
    | some C' => chkR C' l
    | none => none
def chk (l : List Nd) (n : Int) : Bool := decide (0 ≤ n) && decide (n ≤ 1048576) && match l with
  | [] => false
  | x :: r => decide (x = rootN n) && (chkR [x] r).isSome
def fitN (l : List Nd) : Bool := decide (0 < l.length) && chk l (nd l 0).to

theorem chkS_len {C C' : List Nd} {x : Nd} (h : chkS C x = some C') : 1 ≤ x.dp ∧ x.dp ≤ C.length ∧ C'.length = x.dp.toNat + 1 := by
  unfold chkS at h
  split at h
  · rename_i h1
    split at h
    · cases h
      refine ⟨h1.1, h1.2, ?_⟩
      simp
      omega
    · cases h
  · cases h
theorem chkS_bnd {C C' : List Nd} {x : Nd} {n : Int} (h : chkS C x = some C') (hC : ∀ p ∈ C, 0 ≤ p.fm ∧ p.to ≤ n) : (0 ≤ x.fm ∧ x.fm ≤ x.to ∧ x.to ≤ n) ∧ ∀ p ∈ C', 0 ≤ p.fm ∧ p.to ≤ n := by
  unfold chkS at h
  split at h
  · rename_i h1
    have hm : nd C (x.dp.toNat - 1) ∈ C := by rw [← nd_get (show x.dp.toNat - 1 < C.length by omega)]; exact List.getElem_mem ..
    split at h
    · rename_i h2
      cases h
      have := hC _ hm
      refine ⟨by omega, fun p hp => ?_⟩
      simp only [List.mem_append, List.mem_cons, List.not_mem_nil, or_false] at hp
      rcases hp with hp | rfl | rfl
      · exact hC _ (List.mem_of_mem_take hp)
      · simp only; omega
      · omega
    · cases h
  · cases h
theorem chkR_all {n : Int} : ∀ (l C : List Nd) (C' : List Nd), chkR C l = some C' → (∀ p ∈ C, 0 ≤ p.fm ∧ p.to ≤ n) → ∀ i, i < l.length → 0 ≤ (nd l i).fm ∧ (nd l i).fm ≤ (nd l i).to ∧ (nd l i).to ≤ n ∧ 1 ≤ (nd l i).dp ∧ (i = 0 → (nd l i).dp ≤ C.length) ∧ (0 < i → (nd l i).dp ≤ (nd l (i - 1)).dp + 1)
  | [], C, C', h, hC, i, hi => by simp at hi
  | x :: l, C, C', h, hC, i, hi => by
    unfold chkR at h
    split at h
    · rename_i C1 h1
      have hl := chkS_len h1
      have hb := chkS_bnd h1 hC
      cases i with
      | zero => simp; omega
      | succ i =>
        have ih := chkR_all l C1 C' h hb.2 i (by simpa using hi)
        simp only [nd_succ]
        refine ⟨ih.1, ih.2.1, ih.2.2.1, ih.2.2.2.1, by omega, fun _ => ?_⟩
        cases i with
        | zero => simp; have := ih.2.2.2.2.1 rfl; omega
        | succ i => simpa using ih.2.2.2.2.2 (by omega)
    · cases h

/-- What is known of a tree. -/
structure Tr (l : List Nd) (n : Int) : Prop where
  n0 : 0 ≤ n
  n1 : n ≤ 1048576
  len : 0 < l.length
  rt : nd l 0 = rootN n
  fm : ∀ i, i < l.length → 0 ≤ (nd l i).fm
  to : ∀ i, i < l.length → (nd l i).fm ≤ (nd l i).to
  mx : ∀ i, i < l.length → (nd l i).to ≤ n
  one : ∀ i, i < l.length → 0 < i → 1 ≤ (nd l i).dp
  st : ∀ i, i < l.length → 0 < i → (nd l i).dp ≤ (nd l (i - 1)).dp + 1
theorem Tr.of {l : List Nd} {n : Int} (h : chk l n = true) : Tr l n := by
  unfold chk at h
  cases l with
  | nil => simp at h
  | cons x r =>
    simp only [Bool.and_eq_true, decide_eq_true_eq] at h
    obtain ⟨⟨h0, h1⟩, rfl, h2⟩ := h
    obtain ⟨C', h2⟩ := Option.isSome_iff_exists.1 h2
    have ha := chkR_all (n := n) r [rootN n] C' h2 (by simp [rootN])
    refine ⟨h0, h1, by simp, by simp, ?_, ?_, ?_, ?_, ?_⟩ <;> intro i hi
    · cases i with
      | zero => simp [rootN]
      | succ i => simpa using (ha i (by simpa using hi)).1
    · cases i with
      | zero => simpa [rootN] using h0
      | succ i => simpa using (ha i (by simpa using hi)).2.1
    · cases i with
      | zero => simp [rootN]
      | succ i => simpa using (ha i (by simpa using hi)).2.2.1
    · intro hp
      cases i with
      | zero => omega
      | succ i => simpa using (ha i (by simpa using hi)).2.2.2.1
    · intro hp
      cases i with
      | zero => omega
      | succ i =>
        have := ha i (by simpa using hi)
        cases i with
        | zero => simpa [rootN] using this.2.2.2.2.1 rfl
        | succ i => simpa using this.2.2.2.2.2 (by omega)
theorem Tr.of_fit {l : List Nd} (h : fitN l = true) : Tr l (nd l 0).to := by
  simp only [fitN, Bool.and_eq_true] at h
  exact .of h.2
theorem Tr.pos {l : List Nd} {n : Int} (t : Tr l n) : ∀ i, i < l.length → 0 ≤ (nd l i).dp ∧ (nd l i).dp ≤ i := by
  intro i
  induction i with
  | zero => intro _; rw [t.rt]; simp [rootN]
  | succ i ih =>
    intro hi
    have h1 := t.one (i + 1) hi (by omega)
    have h2 := t.st (i + 1) hi (by omega)
    have := ih (by omega)
    simp at h2
    omega

/-! ### Parents -/
def upF (l : List Nd) (d : Int) : Nat → Option Nat
  | 0 => none
  | k + 1 => if (nd l k).dp < d then some k else upF l d k
def parF (l : List Nd) (d : Int) : Nat → Option Nat
  | 0 => none
  | k + 1 => if (nd l k).dp = d - 1 then some k else parF l d k
def upN (l : List Nd) (i : Nat) : Option Nat := upF l (nd l i).dp i
def natO : Option Nat → Int
  | some k => k
  | none => -1
theorem par_up {l : List Nd} {n : Int} (t : Tr l n) (d : Int) : ∀ m, m < l.length → d ≤ (nd l m).dp → parF l d m = upF l d m := by
  intro m
  induction m with
  | zero => intro _ _; rfl
  | succ m ih =>
    intro hm hd
    have h2 := t.st (m + 1) hm (by omega)
    simp at h2
    unfold parF upF
    by_cases h : (nd l m).dp < d
    · rw [if_pos h, if_pos (by omega)]
    · rw [if_neg h, if_neg (by omega)]
      exact ih (by omega) (by omega)
theorem upF_lt {l : List Nd} {d : Int} {p : Nat} : ∀ m, upF l d m = some p → p < m ∧ (nd l p).dp < d ∧ ∀ k, p < k → k < m → d ≤ (nd l k).dp := by
  intro m
  induction m with
  | zero => intro h; cases h
  | succ m ih =>
    intro h
    unfold upF at h
    split at h
    · cases h; rename_i h1; exact ⟨by omega, h1, fun k _ _ => by omega⟩
    · rename_i h1
      obtain ⟨a, b, c⟩ := ih h
      refine ⟨by omega, b, fun k hk hk' => ?_⟩
      by_cases e : k = m
      · subst e; omega
      · exact c k hk (by omega)
theorem upF_none {l : List Nd} {d : Int} : ∀ m, upF l d m = none → ∀ k, k < m → d ≤ (nd l k).dp := by
  intro m
  induction m with
  | zero => intro _ k hk; omega
  | succ m ih =>
    intro h k hk
    unfold upF at h
    split at h
    · cases h
    · by_cases e : k = m
      · subst e; omega
      · exact ih h k (by omega)

/-! ### Kids, leaves, paths -/
def kidG (l : List Nd) (d : Int) : Nat → Nat → List Nat
  | 0, _ => []
  | n + 1, k => if (nd l k).dp > d then (if (nd l k).dp = d + 1 then k :: kidG l d n (k + 1) else kidG l d n (k + 1)) else []
/-- Those within a node, from a place on, whose depth is one more. -/
def kidF (l : List Nd) (d : Int) (k : Nat) : List Nat := kidG l d (l.length - k) k
theorem kidF_stop {l : List Nd} {d : Int} {k : Nat} (h : k < l.length → ¬ (nd l k).dp > d) : kidF l d k = [] := by
  unfold kidF
  cases e : l.length - k with
  | zero => rfl
  | succ n => unfold kidG; rw [if_neg (h (by omega))]
theorem kidF_step {l : List Nd} {d : Int} {k : Nat} (h : k < l.length) (h1 : (nd l k).dp > d) : kidF l d k = if (nd l k).dp = d + 1 then k :: kidF l d (k + 1) else kidF l d (k + 1) := by
  unfold kidF
  obtain ⟨n, e⟩ : ∃ n, l.length - k = n + 1 := ⟨l.length - k - 1, by omega⟩
  rw [e, show l.length - (k + 1) = n by omega]
  conv => lhs; unfold kidG
  rw [if_pos h1]
def kids (l : List Nd) (i : Nat) : List Nat := kidF l (nd l i).dp (i + 1)
def isLeaf (l : List Nd) (i : Nat) : Bool := decide (i + 1 = l.length) || decide ((nd l (i + 1)).dp ≤ (nd l i).dp)
def leafG (l : List Nd) : Nat → Nat → List Nat
  | 0, _ => []
  | n + 1, k => if isLeaf l k then k :: leafG l n (k + 1) else leafG l n (k + 1)
def leafF (l : List Nd) (k : Nat) : List Nat := leafG l (l.length - k) k
theorem leafF_end {l : List Nd} {k : Nat} (h : l.length ≤ k) : leafF l k = [] := by
  unfold leafF; rw [show l.length - k = 0 by omega]; rfl
theorem leafF_step {l : List Nd} {k : Nat} (h : k < l.length) : leafF l k = if isLeaf l k then k :: leafF l (k + 1) else leafF l (k + 1) := by
  unfold leafF
  obtain ⟨n, e⟩ : ∃ n, l.length - k = n + 1 := ⟨l.length - k - 1, by omega⟩
  rw [e, show l.length - (k + 1) = n by omega]; rfl
def leavesN (l : List Nd) : List Nat := leafF l 0
def pathG (l : List Nd) : Nat → Option Nat → List Nat
  | 0, _ => []
  | _, none => []
  | n + 1, some i => i :: pathG l n (upN l i)
def pathO (l : List Nd) (o : Option Nat) : List Nat := pathG l (natO o + 1).toNat o
theorem pathG_more {l : List Nd} : ∀ (n : Nat) (o : Option Nat), (natO o + 1).toNat ≤ n → pathG l n o = pathO l o := by
  intro n
  induction n using Nat.strongRecOn with
  | _ n ih =>
    intro o h
    cases o with
    | none => cases n <;> rfl
    | some i =>
      simp only [natO] at h
      obtain ⟨m, rfl⟩ : ∃ m, n = m + 1 := ⟨n - 1, by omega⟩
      unfold pathO
      simp only [natO]
      rw [show ((i : Int) + 1).toNat = i + 1 by omega]
      simp only [pathG]
      have hu : (natO (upN l i) + 1).toNat ≤ i := by
        cases e : upN l i with
        | none => simp [natO]
        | some p => have := (upF_lt i e).1; simp [natO]; omega
      rw [ih m (by omega) _ (by omega)]
      by_cases hi : i = m
      · subst hi; rw [ih i (by omega) _ hu]
      · rw [ih i (by omega) _ hu]
@[simp] theorem pathO_none (l : List Nd) : pathO l none = [] := rfl
theorem pathO_some (l : List Nd) (i : Nat) : pathO l (some i) = i :: pathO l (upN l i) := by
  conv => lhs; unfold pathO
  simp only [natO]
  rw [show ((i : Int) + 1).toNat = i + 1 by omega]
  simp only [pathG]
  rw [pathG_more]
  cases e : upN l i with
  | none => simp [natO]
  | some p => have := (upF_lt i e).1; simp [natO]; omega

/-! ### The deepest node at a place -/
def atG (l : List Nd) (q : Int) : Nat → Nat → Nat → Nat
  | 0, _, b => b
  | n + 1, k, b => atG l q n (k + 1) (if (nd l k).fm ≤ q ∧ q ≤ (nd l k).to ∧ (nd l k).dp > (nd l b).dp then k else b)
def atF (l : List Nd) (q : Int) (k b : Nat) : Nat := atG l q (l.length - k) k b
theorem atF_end {l : List Nd} {q : Int} {k b : Nat} (h : l.length ≤ k) : atF l q k b = b := by
  unfold atF; rw [show l.length - k = 0 by omega]; rfl
theorem atF_step {l : List Nd} {q : Int} {k b : Nat} (h : k < l.length) : atF l q k b = atF l q (k + 1) (if (nd l k).fm ≤ q ∧ q ≤ (nd l k).to ∧ (nd l k).dp > (nd l b).dp then k else b) := by
  unfold atF
  obtain ⟨n, e⟩ : ∃ n, l.length - k = n + 1 := ⟨l.length - k - 1, by omega⟩
  rw [e, show l.length - (k + 1) = n by omega]; rfl
def atN (l : List Nd) (q : Int) : Nat := atF l q 0 0
theorem atN_one {l : List Nd} {n : Int} (t : Tr l n) (q : Int) : atF l q 1 0 = atN l q := by
  unfold atN
  rw [atF_step t.len]
  simp

/-! ### Sums -/
def eat1 (h b : Int) : Int := IntKind.u64.wrap (IntKind.u64.wrap (BitVec.ofInt 64 h ^^^ BitVec.ofInt 64 b).toNat * 1099511628211)
def eatF (x : Nat) : Nat → Nat → Int → Int
  | 0, _, h => h
  | n + 1, j, h => eatF x n (j + 1) (eat1 h ((x / 256 ^ j % 256 : Nat) : Int))
def eat (h : Int) (x : Nat) : Int := eatF x 8 0 h
def hash1 (h : Int) (x : Nd) (d f : Int) : Int := eat (eat (eat (eat h x.kind) (x.dp - d).toNat) (x.fm - f).toNat) (x.to - f).toNat
def hashG (l : List Nd) (d f : Int) : Nat → Nat → Int → Int
  | 0, _, h => h
  | n + 1, k, h => if (nd l k).dp > d then hashG l d f n (k + 1) (hash1 h (nd l k) d f) else h
def hashF (l : List Nd) (d f : Int) (k : Nat) (h : Int) : Int := hashG l d f (l.length - k) k h
theorem hashF_stop {l : List Nd} {d f : Int} {k : Nat} {h : Int} (hk : k < l.length → ¬ (nd l k).dp > d) : hashF l d f k h = h := by
  unfold hashF
  cases e : l.length - k with
  | zero => rfl
  | succ n => unfold hashG; rw [if_neg (hk (by omega))]
theorem hashF_step {l : List Nd} {d f : Int} {k : Nat} {h : Int} (hk : k < l.length) (h1 : (nd l k).dp > d) : hashF l d f k h = hashF l d f (k + 1) (hash1 h (nd l k) d f) := by
  unfold hashF
  obtain ⟨n, e⟩ : ∃ n, l.length - k = n + 1 := ⟨l.length - k - 1, by omega⟩
  rw [e, show l.length - (k + 1) = n by omega]
  conv => lhs; unfold hashG
  rw [if_pos h1]
def hashN (l : List Nd) (i : Nat) : Int := hashF l (nd l i).dp (nd l i).fm (i + 1) (hash1 14695981039346656037 (nd l i) (nd l i).dp (nd l i).fm)
end Go.Dm
