/- Links: the plain model of what stands at a place: code, addresses, characters' names, line ends that are kept. -/
import Derived.Test.YthclahlplcfdpaaGreatDoorMdE
import Derived.Lib.Split
set_option linter.unusedVariables false
set_option linter.unusedSimpArgs false
namespace Go.Dm
open Go.Proofs
/-! bytes -/
def isLet (c : UInt8) : Bool := (decide (97 ≤ c.toNat) && decide (c.toNat ≤ 122)) || (decide (65 ≤ c.toNat) && decide (c.toNat ≤ 90))
def isDig (c : UInt8) : Bool := decide (48 ≤ c.toNat) && decide (c.toNat ≤ 57)
/-! code -/
def accN (s : List UInt8) : Nat := (s.takeWhile (· == 96)).length
def codF (s : List UInt8) (n : Nat) : Nat → Nat → Nat
  | 0, _ => 0
  | f + 1, i => if i < s.length then (if accN (s.drop i) = n then i + n else codF s n f (i + max (accN (s.drop i)) 1)) else 0
def codL (s : List UInt8) : Nat := codF s (accN s) (s.length + 1) (accN s)
theorem codF_end (s : List UInt8) (n : Nat) : ∀ (f i : Nat), s.length ≤ i → codF s n f i = 0
  | 0, i, h => rfl
  | f + 1, i, h => by rw [codF, if_neg (by omega)]
theorem codF_fuel (s : List UInt8) (n : Nat) : ∀ (f f' i : Nat), s.length ≤ i + f → s.length ≤ i + f' → codF s n f i = codF s n f' i
  | 0, f', i, h, h' => by rw [codF_end s n f' i (by omega)]; rfl
  | f + 1, 0, i, h, h' => by rw [codF_end s n (f + 1) i (by omega)]; rfl
  | f + 1, f' + 1, i, h, h' => by
    rw [codF, codF, codF_fuel s n f f' _ (by omega) (by omega)]
theorem codF_step (s : List UInt8) (n f i : Nat) (hi : i < s.length) (hf : s.length ≤ i + f) : codF s n f i = if accN (s.drop i) = n then i + n else codF s n f (i + max (accN (s.drop i)) 1) := by
  cases f with
  | zero => omega
  | succ f => rw [codF, if_pos hi, codF_fuel s n f (f + 1) _ (by omega) (by omega)]
/-! pieces -/
/-- Pieces between bytes. -/
def splA (c : UInt8) (cur : List UInt8) : List UInt8 → List (List UInt8)
  | [] => [cur]
  | x :: r => if x = c then cur :: splA c [] r else splA c (cur ++ [x]) r
theorem splA_run (c : UInt8) : ∀ (a cur b : List UInt8), c ∉ a → splA c cur (a ++ b) = splA c (cur ++ a) b
  | [], cur, b, h => by simp
  | x :: a, cur, b, h => by
    rw [List.cons_append, splA, if_neg (fun q => h (by rw [← q]; exact List.mem_cons_self ..)), splA_run c a _ b fun q => h (List.mem_cons_of_mem _ q)]
    simp
theorem splA_none (c : UInt8) (a cur : List UInt8) (h : c ∉ a) : splA c cur a = [cur ++ a] := by
  have := splA_run c a cur [] h
  simpa [splA] using this
theorem splA_some (c : UInt8) (a cur b : List UInt8) (h : c ∉ a) : splA c cur (a ++ c :: b) = (cur ++ a) :: splA c [] b := by
  rw [splA_run c a cur _ h, splA, if_pos rfl]
theorem splA_app (c : UInt8) : ∀ (a cur b : List UInt8), splA c cur (a ++ c :: b) = splA c cur a ++ splA c [] b
  | [], cur, b => by simp [splA]
  | x :: a, cur, b => by
    rw [List.cons_append, splA, splA]
    split
    · rw [splA_app c a [] b]; rfl
    · exact splA_app c a _ b
theorem tw_nin (c : UInt8) (l : List UInt8) : c ∉ l.takeWhile (· != c) := by
  intro h
  have := List.all_eq_true.1 (List.all_takeWhile (p := (· != c)) (l := l)) c h
  simp at this
theorem tw_split (c : UInt8) (l : List UInt8) (h : (l.takeWhile (· != c)).length < l.length) : l = l.takeWhile (· != c) ++ c :: l.drop ((l.takeWhile (· != c)).length + 1) := by
  have h1 := List.getElem?_eq_getElem h
  have h2 : l[(l.takeWhile (· != c)).length] = c := by have := tw_at h1; simpa using this
  conv => lhs; rw [← List.take_append_drop (l.takeWhile (· != c)).length l]
  rw [List.drop_eq_getElem_cons h, h2]
  congr 1
  have := List.takeWhile_prefix (· != c) (l := l)
  exact (List.prefix_iff_eq_take.1 this).symm
theorem tw_all (c : UInt8) (l : List UInt8) (h : ¬ (l.takeWhile (· != c)).length < l.length) : l.takeWhile (· != c) = l := (List.takeWhile_prefix _).eq_of_length (by have := (List.takeWhile_sublist (· != c) (l := l)).length_le; omega)
theorem splitK_splA (c : UInt8) : ∀ (n : Nat) (l : List UInt8), l.length ≤ n → Lib.splitK [c] 0 (Lib.count l [c]) l = splA c [] l := by
  intro n
  induction n with
  | zero =>
    intro l hl
    obtain rfl : l = [] := List.length_eq_zero_iff.1 (by omega)
    rfl
  | succ n ih =>
    intro l hl
    have hi := Lib.index_one l c
    rw [ib_pos] at hi
    by_cases h : (l.takeWhile (· != c)).length < l.length
    · rw [if_pos h] at hi
      rw [Lib.count_hit (by simp) hi, Nat.add_comm 1, Lib.splitK, if_neg (by rw [hi]; simp), hi]
      simp only [Int.toNat_natCast, Nat.add_zero, List.length_singleton]
      rw [ih _ (by simp; omega)]
      conv => rhs; rw [tw_split c l h, splA_some c _ [] _ (tw_nin c l), List.nil_append]
      congr 1
      have := List.takeWhile_prefix (· != c) (l := l)
      exact (List.prefix_iff_eq_take.1 this).symm
    · rw [if_neg h] at hi
      rw [Lib.count_miss hi, Lib.splitK]
      have e := tw_all c l h
      rw [splA_none c l [] (e ▸ tw_nin c l), List.nil_append]
/-! addresses -/
def schOk (c : UInt8) : Bool := isLet c || isDig c || decide (c ∈ ([43, 46, 45] : List UInt8))
def resOk (c : UInt8) : Bool := decide (32 < c.toNat) && decide (c.toNat ≠ 60) && decide (c.toNat ≠ 127)
def schL (t : List UInt8) : Bool :=
  let k := (t.takeWhile (· != 58)).length
  decide (k < t.length) && decide (2 ≤ k) && decide (k ≤ 32) && isLet (bt t 0) && (t.take k).all schOk && (t.drop (k + 1)).all resOk
def malB : List UInt8 := [46, 33, 35, 36, 37, 38, 39, 42, 43, 47, 61, 63, 94, 95, 123, 124, 125, 126, 45]
def malOk (c : UInt8) : Bool := isLet c || isDig c || decide (c.toNat = 96) || decide (c ∈ malB)
def domOk (c : UInt8) : Bool := isLet c || isDig c || decide (c.toNat = 45)
def okDom (n : List UInt8) : Bool := decide (n ≠ []) && decide (n.length ≤ 63) && decide (bt n 0 ≠ 45) && decide (bt n (n.length - 1) ≠ 45) && n.all domOk
def malL (t : List UInt8) : Bool :=
  let k := (t.takeWhile (· != 64)).length
  decide (k < t.length) && decide (0 < k) && (t.take k).all malOk && (splA 46 [] (t.drop (k + 1))).all okDom
theorem okDom_bad {n : List UInt8} {c : UInt8} (h : c ∈ n) (hc : domOk c = false) : okDom n = false := by
  unfold okDom
  have : n.all domOk = false := by rw [List.all_eq_false]; exact ⟨c, h, by rw [hc]; decide⟩
  rw [this, Bool.and_false]
theorem dom_bad {c : UInt8} (hc : domOk c = false) : ∀ (l cur : List UInt8), c ∈ cur → (splA 46 cur l).all okDom = false
  | [], cur, h => by rw [splA, List.all_cons, okDom_bad h hc, Bool.false_and]
  | x :: r, cur, h => by
    rw [splA]
    split
    · rw [List.all_cons, okDom_bad h hc, Bool.false_and]
    · exact dom_bad hc r _ (List.mem_append_left _ h)
/-! characters' names -/
def hexOk (c : UInt8) : Bool := isDig c || (decide (97 ≤ c.toNat) && decide (c.toNat ≤ 102)) || (decide (65 ≤ c.toNat) && decide (c.toNat ≤ 70))
def numL (u : List UInt8) : Bool := if bt u 0 = 120 ∨ bt u 0 = 88 then decide (u.tail ≠ []) && decide (u.tail.length ≤ 6) && u.tail.all hexOk else decide (u ≠ []) && decide (u.length ≤ 7) && u.all isDig
def nmsL : List (List UInt8) := [[97, 109, 112], [108, 116], [103, 116], [113, 117, 111, 116], [110, 98, 115, 112], [99, 111, 112, 121], [114, 101, 103], [104, 101, 108, 108, 105, 112], [109, 100, 97, 115, 104], [110, 100, 97, 115, 104]]
def nmsT : List UInt8 := 32 :: nmsL.flatMap fun x => x ++ [32]
def entL (t : List UInt8) : Bool := if bt t 0 = 35 then numL t.tail else decide (t ∈ nmsL)
set_option maxRecDepth 100000 in
theorem names_in (t : List UInt8) : (t ≠ [] ∧ 32 ∉ t ∧ Lib.contains nmsT (32 :: (t ++ [32])) = true) ↔ t ∈ nmsL := by
  constructor
  · rintro ⟨h1, h2, h3⟩
    unfold Lib.contains at h3
    have h3 := of_decide_eq_true h3
    rcases Lib.index_spec nmsT (32 :: (t ++ [32])) with ⟨q, _⟩ | ⟨i, q1, q2, q3, _⟩
    · omega
    · unfold Lib.occAt at q3
      rw [List.isPrefixOf_iff_prefix] at q3
      obtain ⟨r, hr⟩ := q3
      have e : nmsT = nmsT.take i ++ 32 :: (t ++ 32 :: r) := by
        conv => lhs; rw [← List.take_append_drop i nmsT, ← hr]
        simp
      have hm : t ∈ splA 32 [] nmsT := by
        rw [e, splA_app, splA_some 32 t [] r h2]
        simp
      have hl : splA 32 [] nmsT = [] :: (nmsL ++ [[]]) := by decide +kernel
      rw [hl] at hm
      simp only [List.mem_cons, List.mem_append, List.not_mem_nil, or_false] at hm
      rcases hm with rfl | hm | rfl
      · exact absurd rfl h1
      · exact hm
      · exact absurd rfl h1
  · intro h
    simp only [nmsL, List.mem_cons, List.not_mem_nil, or_false] at h
    rcases h with rfl | rfl | rfl | rfl | rfl | rfl | rfl | rfl | rfl | rfl <;> decide +kernel
/-! what stands at a place -/
/-- What stands first, and how many bytes it has. 'last': up to the line's end; 'lf': the line has an LF. -/
def cdN (last lf : Bool) : List UInt8 → Nat × Nat
  | [] => (0, 0)
  | c :: u =>
    if c = 92 then (if u = [] then (if last then (91, 1) else (0, 1)) else if nxMk u then (90, 2) else (0, 1))
    else if c = 32 then (if last = true ∧ lf = true ∧ u ≠ [] ∧ u.all (· == 32) = true then (91, u.length + 1) else (0, 1))
    else if c = 96 then (if 0 < codL (c :: u) then (83, codL (c :: u)) else (0, accN (c :: u)))
    else if c = 60 then (if (u.takeWhile (· != 62)).length < u.length ∧ (schL (u.takeWhile (· != 62)) = true ∨ malL (u.takeWhile (· != 62)) = true) then (88, (u.takeWhile (· != 62)).length + 2) else (0, 1))
    else if c = 38 then (if (u.takeWhile (· != 59)).length < u.length ∧ entL (u.takeWhile (· != 59)) = true then (89, (u.takeWhile (· != 59)).length + 2) else (0, 1))
    else (0, 1)
theorem accN_le (s : List UInt8) : accN s ≤ s.length := (List.takeWhile_sublist _).length_le
theorem codF_le (s : List UInt8) (n : Nat) (hn : 0 < n) : ∀ (f i : Nat), codF s n f i = 0 ∨ (i + n ≤ codF s n f i ∧ codF s n f i ≤ s.length)
  | 0, i => .inl rfl
  | f + 1, i => by
    rw [codF]
    split
    · split
      · rename_i h1 h2
        have := accN_le (s.drop i)
        simp at this
        exact .inr ⟨by omega, by omega⟩
      · rcases codF_le s n hn f (i + max (accN (s.drop i)) 1) with h | h
        · exact .inl h
        · exact .inr (by omega)
    · exact .inl rfl
/-- At least one byte, and no more than there are. -/
theorem cdN_len (last lf : Bool) (c : UInt8) (u : List UInt8) : 1 ≤ (cdN last lf (c :: u)).2 ∧ (cdN last lf (c :: u)).2 ≤ u.length + 1 := by
  unfold cdN
  simp only
  split
  · split
    · split <;> simp
    · rename_i h
      have : 0 < u.length := List.length_pos_iff.2 h
      split <;> simp <;> omega
  · split
    · split <;> simp
    · split
      · rename_i h
        subst h
        have ha : 0 < accN (96 :: u) := by unfold accN; rw [List.takeWhile_cons_of_pos (by rfl)]; simp
        have hl := accN_le (96 :: u)
        split
        · rename_i h
          rcases codF_le (96 :: u) (accN (96 :: u)) ha ((96 :: u).length + 1) (accN (96 :: u)) with q | q
          · exact absurd q (by unfold codL at h; omega)
          · unfold codL at h ⊢
            simp only [List.length_cons] at q ⊢
            omega
        · simp at hl ⊢; omega
      · split
        · split <;> simp; omega
        · split
          · split <;> simp; omega
          · simp
end Go.Dm
