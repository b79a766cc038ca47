/- A label, folded: by runes and by bytes. -/
import Derived.Test.YthclahlplcfdpaaGreatDoorMdD
set_option linter.unusedVariables false
set_option linter.unusedSimpArgs false
namespace Go.Dm
open Go.Proofs
theorem fo_len : ∀ (l : List UInt8) (g s : Bool), (fo g s l).length ≤ l.length + (if g && s then 1 else 0)
  | [], g, s => by simp [fo]
  | c :: r, g, s => by
    unfold fo
    by_cases h : isB c = true
    · rw [if_pos h]
      have := fo_len r true s
      simp only [Bool.true_and] at this
      simp only [List.length_cons]
      split at this <;> split <;> omega
    · rw [if_neg h]
      have := fo_len r false true
      simp only [Bool.false_and, Bool.false_eq_true, if_false] at this
      simp only [List.length_append, List.length_cons]
      cases g <;> cases s <;> simp <;> omega
theorem foldL_len (l : List UInt8) : (foldL l).length ≤ l.length := by have := fo_len l false false; simpa [foldL] using this
theorem fo_run : ∀ (xs r : List UInt8), (∀ x ∈ xs, isB x = false) → fo false true (xs ++ r) = xs.map lowB ++ fo false true r
  | [], r, h => rfl
  | x :: xs, r, h => by
    rw [List.cons_append, fo, if_neg (by rw [h x (List.mem_cons_self ..)]; decide), fo_run xs r fun y hy => h y (List.mem_cons_of_mem _ hy)]
    simp
theorem fo_first (g : Bool) (x : UInt8) (xs r : List UInt8) (h : ∀ y ∈ x :: xs, isB y = false) : fo g g (x :: xs ++ r) = (if g then [32] else []) ++ (x :: xs).map lowB ++ fo false true r := by
  rw [List.cons_append, fo, if_neg (by rw [h x (List.mem_cons_self ..)]; decide), fo_run xs r fun y hy => h y (List.mem_cons_of_mem _ hy)]
  cases g <;> simp
set_option maxRecDepth 100000 in
set_option maxHeartbeats 2000000 in
theorem dec_hi (n b0 b1 b2 b3 : Nat) (h : 128 ≤ b0) : 128 ≤ (Lib.decodeN n b0 b1 b2 b3).1 ∧ 1 ≤ (Lib.decodeN n b0 b1 b2 b3).2 ∧ ((Lib.decodeN n b0 b1 b2 b3).2 = 1 ∨ (Lib.decodeN n b0 b1 b2 b3).2 ≤ n) ∧ (1 < (Lib.decodeN n b0 b1 b2 b3).2 → 128 ≤ b1) ∧ (2 < (Lib.decodeN n b0 b1 b2 b3).2 → 128 ≤ b2) ∧ (3 < (Lib.decodeN n b0 b1 b2 b3).2 → 128 ≤ b3) ∧ (Lib.decodeN n b0 b1 b2 b3).2 ≤ 4 := by
  unfold Lib.decodeN
  repeat' split
  all_goals first | (exfalso; omega) | (refine ⟨?_, ?_, ?_, ?_, ?_, ?_, ?_⟩ <;> simp only <;> (try intro _) <;> first | omega | exact .inl trivial | exact .inl rfl)
theorem isBl_byte (c : UInt8) : isBl c.toNat = isB c := by
  rw [isB_eq]; unfold isBl
  rw [Bool.eq_iff_iff]; simp
theorem isB_hi {c : UInt8} (h : 128 ≤ c.toNat) : isB c = false := by rw [isB_eq]; simp; omega
/-- One rune of a string, as bytes. -/
theorem dec_at (l : List UInt8) (p : Nat) (hp : p < l.length) : ∃ k, (Utf8.decode ⟨l.toArray⟩ p).2 = k ∧ 1 ≤ k ∧ p + k ≤ l.length ∧
    ((isBl (Utf8.decode ⟨l.toArray⟩ p).1 = true ∧ k = 1 ∧ isB (bt l p) = true) ∨ (isBl (Utf8.decode ⟨l.toArray⟩ p).1 = false ∧ ∀ j, j < k → isB (bt l (p + j)) = false)) := by
  have e : Utf8.decode ⟨l.toArray⟩ p = Lib.decodeN (l.length - p) (bt l p).toNat (bt l (p + 1)).toNat (bt l (p + 2)).toNat (bt l (p + 3)).toNat := Lib.decode_N ⟨l.toArray⟩ p
  by_cases hb : (bt l p).toNat < 128
  · rw [Lib.decodeN_ascii _ _ _ _ _ hb] at e
    rw [e]
    refine ⟨1, rfl, Nat.le_refl _, hp, ?_⟩
    rw [isBl_byte]
    cases h : isB (bt l p) with
    | true => exact .inl ⟨rfl, rfl, rfl⟩
    | false => exact .inr ⟨rfl, fun j hj => by obtain rfl : j = 0 := by omega
                                               exact h⟩
  · obtain ⟨h1, h2, h3, h4, h5, h6, h7⟩ := dec_hi (l.length - p) (bt l p).toNat (bt l (p + 1)).toNat (bt l (p + 2)).toNat (bt l (p + 3)).toNat (by omega)
    rw [e]
    refine ⟨_, rfl, h2, by omega, .inr ⟨?_, fun j hj => isB_hi ?_⟩⟩
    · unfold isBl; simp; omega
    · match j with
      | 0 => exact Nat.le_of_not_lt hb
      | 1 => exact h4 (by omega)
      | 2 => exact h5 (by omega)
      | 3 => exact h6 (by omega)
      | j + 4 => omega
def pcs (l : List UInt8) (acc : List (Nat × Nat)) : List (List UInt8) := acc.map fun x => (l.take x.2).drop x.1
/-- A word more. -/
theorem join_snoc (xs : List (List UInt8)) (x : List UInt8) : Lib.join (xs ++ [x]) [32] = (if xs = [] then x else Lib.join xs [32] ++ 32 :: x) := by
  cases xs with
  | nil => simp [Lib.join_one]
  | cons y ys =>
    rw [if_neg (by simp), List.cons_append, Lib.join_cons, Lib.join_cons]
    simp [Lib.joinTail]
theorem lowB32 : lowB 32 = 32 := by decide
theorem drop_take_app (l : List UInt8) {a p k : Nat} (h1 : a ≤ p) (h2 : p + k ≤ l.length) : (l.take (p + k)).drop a = (l.take p).drop a ++ (l.drop p).take k := by
  rw [List.take_add, List.drop_append_of_le_length (by rw [List.length_take]; omega)]
theorem run_of (l : List UInt8) {p k : Nat} (hp : p + k ≤ l.length) (h : ∀ j, j < k → isB (bt l (p + j)) = false) : ∀ y ∈ (l.drop p).take k, isB y = false := by
  intro y hy
  obtain ⟨j, hj, he⟩ := List.getElem_of_mem hy
  have hj' : j < k := by simp at hj; omega
  rw [List.getElem_take, List.getElem_drop] at he
  have := h j hj'
  unfold bt at this
  rw [List.getD_eq_getElem?_getD, List.getElem?_eq_getElem (by omega)] at this
  rw [← he]
  exact this
theorem spans_fo (l : List UInt8) : ∀ (f p : Nat) (st : Option Nat) (acc : List (Nat × Nat)), p ≤ l.length → l.length ≤ p + f → (∀ a, st = some a → a < p) →
    (Lib.join (pcs l (Lib.closeSpans ⟨l.toArray⟩ (Lib.spansFromP isBl ⟨l.toArray⟩ f p st acc))) [32]).map lowB =
      match st with
      | none => (Lib.join (pcs l acc) [32]).map lowB ++ fo (decide (acc ≠ [])) (decide (acc ≠ [])) (l.drop p)
      | some a => (Lib.join (pcs l (acc ++ [(a, p)])) [32]).map lowB ++ fo false true (l.drop p) := by
  have hsz : (⟨l.toArray⟩ : ByteArray).size = l.length := rfl
  intro f
  induction f with
  | zero =>
    intro p st acc hp hf hst
    obtain rfl : p = l.length := by omega
    unfold Lib.spansFromP Lib.closeSpans
    simp only [List.drop_length, fo, List.append_nil]
    cases st <;> rfl
  | succ f ih =>
    intro p st acc hp hf hst
    by_cases hlt : p < l.length
    · obtain ⟨k, hk, k1, k2, hc⟩ := dec_at l p hlt
      unfold Lib.spansFromP
      rw [if_pos (by rw [hsz]; exact hlt), hk]
      rcases hc with ⟨q1, rfl, q3⟩ | ⟨q1, q2⟩
      · rw [if_pos q1]
        have hd : l.drop p = bt l p :: l.drop (p + 1) := drop_bt hlt
        cases st with
        | some a =>
          simp only
          rw [ih (p + 1) none _ k2 (by omega) (fun a h => by cases h), hd]
          simp only [fo, q3, if_true]
          simp
        | none =>
          simp only
          rw [ih (p + 1) none _ k2 (by omega) (fun a h => by cases h), hd]
          simp only [fo, q3, if_true]
          by_cases ha : acc = []
          · subst ha
            simp only [ne_eq, not_true_eq_false, decide_false]
            congr 1
            have : ∀ (u : List UInt8), fo false false u = fo true false u := by
              intro u
              cases u with
              | nil => rfl
              | cons c u => unfold fo; simp
            exact this _
          · simp [ha]
      · rw [if_neg (by rw [q1]; decide)]
        have hrun := run_of l k2 q2
        have hd : l.drop p = (l.drop p).take k ++ l.drop (p + k) := by
          rw [← List.drop_drop]; exact (List.take_append_drop k (l.drop p)).symm
        have hne : (l.drop p).take k ≠ [] := by
          intro h
          have := congrArg List.length h
          simp at this
          omega
        cases st with
        | some a =>
          simp only
          rw [ih (p + k) (some a) _ k2 (by omega) (fun b h => by cases h; have := hst _ rfl; omega)]
          simp only
          conv => rhs; rw [hd, fo_run _ _ hrun]
          rw [← List.append_assoc]
          congr 1
          have e1 : pcs l (acc ++ [(a, p + k)]) = pcs l acc ++ [(l.take p).drop a ++ (l.drop p).take k] := by
            unfold pcs; rw [List.map_append]; simp only [List.map_cons, List.map_nil]; rw [drop_take_app l (Nat.le_of_lt (hst a rfl)) k2]
          have e2 : pcs l (acc ++ [(a, p)]) = pcs l acc ++ [(l.take p).drop a] := by unfold pcs; simp
          rw [e1, e2, join_snoc, join_snoc]
          split <;> simp
        | none =>
          simp only
          rw [ih (p + k) (some p) _ k2 (by omega) (fun b h => by cases h; omega)]
          simp only
          have e1 : pcs l (acc ++ [(p, p + k)]) = pcs l acc ++ [(l.drop p).take k] := by
            unfold pcs; rw [List.map_append]; simp only [List.map_cons, List.map_nil]; rw [drop_take_app l (Nat.le_refl p) k2, List.drop_eq_nil_of_le (by simp; omega), List.nil_append]
          rw [e1, join_snoc]
          conv => rhs; rw [hd]
          obtain ⟨x, xs, hx⟩ : ∃ x xs, (l.drop p).take k = x :: xs := List.exists_cons_of_ne_nil hne
          rw [hx] at hrun ⊢
          rw [fo_first _ _ _ _ hrun]
          have hpc : pcs l acc = [] ↔ acc = [] := by unfold pcs; simp
          by_cases ha : acc = []
          · rw [if_pos (hpc.2 ha)]; subst ha; simp [pcs, Lib.join_nil]
          · rw [if_neg (fun q => ha (hpc.1 q))]; simp [ha, lowB32]
    · obtain rfl : p = l.length := by omega
      rw [Lib.spansFromP_end _ _ _ _ _ _ (by rw [hsz]; omega)]
      unfold Lib.closeSpans
      simp only [List.drop_length, fo, List.append_nil]
      cases st <;> rfl
/-- The words of a label. -/
def wordsL (l : List UInt8) : List (List UInt8) := (Lib.goFieldsP isBl ⟨l.toArray⟩).map fun x => x.data.toList
theorem extract_data (l : List UInt8) (a b : Nat) : ((⟨l.toArray⟩ : ByteArray).extract a b).data.toList = (l.take b).drop a := by
  rw [Lib.extract_data]
  show (l.drop a).take (b - a) = _
  rw [List.drop_take]
theorem words_fold (l : List UInt8) : (Lib.join (wordsL l) [32]).map lowB = foldL l := by
  have h := spans_fo l l.length 0 none [] (Nat.zero_le _) (by omega) (fun a h => by cases h)
  have e : wordsL l = pcs l (Lib.closeSpans ⟨l.toArray⟩ (Lib.spansFromP isBl ⟨l.toArray⟩ l.length 0 none [])) := by
    unfold wordsL Lib.goFieldsP Lib.spansOfP pcs
    rw [List.map_map]
    apply List.map_congr_left
    intro x _
    exact extract_data l x.1 x.2
  rw [e, h]
  simp [pcs, Lib.join_nil, foldL]
theorem words_len (l : List UInt8) : (Lib.join (wordsL l) [32]).length ≤ l.length := by
  have := congrArg List.length (words_fold l)
  rw [List.length_map] at this
  rw [this]
  exact foldL_len l
end Go.Dm
