/- A tree's family, plainly. -/
import Derived.Test.YtnmfdjmejpioiaaDoorTrI
set_option linter.unusedVariables false
set_option linter.unusedSimpArgs false
namespace Go.Dm
theorem up_zero (l : List Nd) : upN l 0 = none := rfl
theorem up_some {l : List Nd} {n : Int} (t : Tr l n) {i : Nat} (hi : 0 < i) (h : i < l.length) : ∃ p, upN l i = some p ∧ p < i ∧ (nd l p).dp + 1 = (nd l i).dp ∧ ∀ k, p < k → k < i → (nd l i).dp ≤ (nd l k).dp := by
  have h1 := t.one i h hi
  cases e : upN l i with
  | none =>
    have := upF_none i e 0 hi
    rw [t.rt] at this
    simp [rootN] at this
    omega
  | some p =>
    obtain ⟨a, b, c⟩ := upF_lt i e
    refine ⟨p, rfl, a, ?_, c⟩
    have h2 := t.st (p + 1) (by omega) (by omega)
    simp at h2
    by_cases hp : p + 1 = i
    · rw [hp] at h2; omega
    · have := c (p + 1) (by omega) (by omega)
      omega
theorem path_len {l : List Nd} {n : Int} (t : Tr l n) : ∀ i, i < l.length → ((pathO l (some i)).length : Int) = (nd l i).dp + 1 ∧ (pathO l (some i))[(pathO l (some i)).length - 1]? = some 0 := by
  intro i
  induction i using Nat.strongRecOn with
  | _ i ih =>
    intro h
    rw [pathO_some]
    by_cases hi : i = 0
    · subst hi
      rw [up_zero, pathO_none, t.rt]
      simp [rootN]
    · obtain ⟨p, e, hp, hd, _⟩ := up_some t (by omega) h
      obtain ⟨a, b⟩ := ih p hp (by omega)
      rw [e]
      refine ⟨by simp; omega, ?_⟩
      have hl : 0 < (pathO l (some p)).length := by rw [pathO_some]; simp
      rw [List.length_cons, Nat.add_sub_cancel]
      obtain ⟨m, hm⟩ : ∃ m, (pathO l (some p)).length = m + 1 := ⟨(pathO l (some p)).length - 1, by omega⟩
      rw [hm] at b ⊢
      simpa using b
theorem kid_mem {l : List Nd} {d : Int} : ∀ (m a : Nat), l.length - a ≤ m → ∀ k, k ∈ kidF l d a ↔ (a ≤ k ∧ k < l.length ∧ (nd l k).dp = d + 1 ∧ ∀ j, a ≤ j → j ≤ k → (nd l j).dp > d) := by
  intro m
  induction m with
  | zero =>
    intro a ha k
    rw [kidF_stop (by omega)]
    simp
    omega
  | succ m ih =>
    intro a ha k
    by_cases h : a < l.length
    · by_cases h1 : (nd l a).dp > d
      · rw [kidF_step h h1]
        have hi := ih (a + 1) (by omega) k
        by_cases h2 : (nd l a).dp = d + 1
        · rw [if_pos h2, List.mem_cons, hi]
          constructor
          · rintro (rfl | ⟨p, q, r, s⟩)
            · refine ⟨Nat.le_refl _, h, h2, fun j hj hj2 => ?_⟩
              rw [Nat.le_antisymm hj2 hj]; exact h1
            · refine ⟨by omega, q, r, fun j hj hj2 => ?_⟩
              by_cases e : j = a
              · subst e; exact h1
              · exact s j (by omega) hj2
          · rintro ⟨p, q, r, s⟩
            by_cases e : k = a
            · exact .inl e
            · exact .inr ⟨by omega, q, r, fun j hj hj2 => s j (by omega) hj2⟩
        · rw [if_neg h2, hi]
          constructor
          · rintro ⟨p, q, r, s⟩
            refine ⟨by omega, q, r, fun j hj hj2 => ?_⟩
            by_cases e : j = a
            · subst e; exact h1
            · exact s j (by omega) hj2
          · rintro ⟨p, q, r, s⟩
            have e : k ≠ a := by rintro rfl; exact h2 r
            exact ⟨by omega, q, r, fun j hj hj2 => s j (by omega) hj2⟩
      · rw [kidF_stop (fun _ => h1)]
        simp
        intro p q r
        exact ⟨a, Nat.le_refl _, p, by omega⟩
    · rw [kidF_stop (by omega)]
      simp
      omega
theorem kid_ge {l : List Nd} {d : Int} {a k : Nat} (h : k ∈ kidF l d a) : a ≤ k := ((kid_mem _ a (Nat.le_refl _) k).1 h).1
theorem kid_sorted {l : List Nd} {d : Int} : ∀ (m a : Nat), l.length - a ≤ m → (kidF l d a).Pairwise (· < ·) := by
  intro m
  induction m with
  | zero => intro a ha; rw [kidF_stop (by omega)]; exact .nil
  | succ m ih =>
    intro a ha
    by_cases h : a < l.length
    · by_cases h1 : (nd l a).dp > d
      · rw [kidF_step h h1]
        split
        · exact .cons (fun k hk => by have := kid_ge hk; omega) (ih (a + 1) (by omega))
        · exact ih (a + 1) (by omega)
      · rw [kidF_stop (fun _ => h1)]; exact .nil
    · rw [kidF_stop (by omega)]; exact .nil
theorem kids_sorted (l : List Nd) (i : Nat) : (kids l i).Pairwise (· < ·) := kid_sorted _ _ (Nat.le_refl _)
theorem kids_next {l : List Nd} {i j a b : Nat} (h1 : (kids l i)[j]? = some a) (h2 : (kids l i)[j + 1]? = some b) : a < b := by
  obtain ⟨l1, e1⟩ := List.getElem?_eq_some_iff.1 h1
  obtain ⟨l2, e2⟩ := List.getElem?_eq_some_iff.1 h2
  have := List.pairwise_iff_getElem.1 (kids_sorted l i) j (j + 1) l1 l2 (by omega)
  omega
theorem kids_up {l : List Nd} {i k : Nat} (h : k ∈ kids l i) : i < k ∧ k < l.length ∧ upN l k = some i := by
  obtain ⟨a, b, c, d⟩ := (kid_mem _ _ (Nat.le_refl _) k).1 h
  refine ⟨by omega, b, ?_⟩
  have key : ∀ m, i < m → m ≤ k → upF l (nd l k).dp m = some i := by
    intro m
    induction m with
    | zero => intro h; omega
    | succ m ih =>
      intro h1 h2
      unfold upF
      by_cases e : m = i
      · subst e; rw [if_pos (by omega)]
      · rw [if_neg (by have := d m (by omega) (by omega); omega)]
        exact ih (by omega) (by omega)
  exact key k (by omega) (Nat.le_refl _)
theorem mem_kids {l : List Nd} {n : Int} (t : Tr l n) {i p : Nat} (hi : 0 < i) (h : i < l.length) (e : upN l i = some p) : i ∈ kids l p := by
  obtain ⟨p', e', hp, hd, hb⟩ := up_some t hi h
  rw [e] at e'
  cases e'
  refine (kid_mem _ _ (Nat.le_refl _) i).2 ⟨by omega, h, hd.symm, fun j hj hj2 => ?_⟩
  by_cases c : j = i
  · subst c; omega
  · have := hb j (by omega) (by omega); omega
theorem not_count : ∀ (L : List Nat) (a : Nat), ¬ a ∈ L → L.count a = 0
  | [], a, _ => rfl
  | x :: L, a, h => by
    have h1 : ¬ x = a := fun e => h (by rw [e]; exact List.mem_cons_self ..)
    rw [List.count_cons, not_count L a fun hm => h (List.mem_cons_of_mem _ hm)]
    simp [h1]
theorem sorted_count : ∀ (L : List Nat) (a : Nat), L.Pairwise (· < ·) → a ∈ L → L.count a = 1
  | [], a, _, h => by cases h
  | x :: L, a, hp, h => by
    cases hp with
    | cons h1 h2 =>
      by_cases e : x = a
      · subst e
        rw [List.count_cons, not_count L x fun hm => Nat.lt_irrefl _ (h1 x hm)]
        simp
      · rw [List.count_cons, sorted_count L a h2 ((List.mem_cons.1 h).resolve_left fun e' => e e'.symm)]
        simp [e]
theorem count_kids {l : List Nd} {n : Int} (t : Tr l n) {i p : Nat} (hi : 0 < i) (h : i < l.length) (e : upN l i = some p) : (kids l p).count i = 1 :=
  sorted_count _ _ (kids_sorted l p) (mem_kids t hi h e)
theorem kids_nil {l : List Nd} {n : Int} (t : Tr l n) {i : Nat} (h : i < l.length) : decide (kids l i = []) = isLeaf l i := by
  unfold isLeaf
  by_cases h1 : i + 1 = l.length
  · have : kids l i = [] := kidF_stop (by omega)
    simp [this, h1]
  by_cases h2 : (nd l (i + 1)).dp ≤ (nd l i).dp
  · have : kids l i = [] := kidF_stop (by omega)
    simp [this, h2]
  · have h3 := t.st (i + 1) (by omega) (by omega)
    simp at h3
    have : i + 1 ∈ kids l i := (kid_mem _ _ (Nat.le_refl _) _).2 ⟨Nat.le_refl _, by omega, by omega, fun j hj hj2 => by rw [Nat.le_antisymm hj2 hj]; omega⟩
    have h4 : kids l i ≠ [] := by intro e; rw [e] at this; cases this
    simp [h4, h1, h2]
theorem leaf_ge {l : List Nd} : ∀ (m a : Nat), l.length - a ≤ m → ∀ k, k ∈ leafF l a → a ≤ k := by
  intro m
  induction m with
  | zero => intro a ha k hk; rw [leafF_end (by omega)] at hk; cases hk
  | succ m ih =>
    intro a ha k hk
    by_cases h : a < l.length
    · rw [leafF_step h] at hk
      split at hk
      · rcases List.mem_cons.1 hk with rfl | hk
        · exact Nat.le_refl _
        · have := ih (a + 1) (by omega) k hk; omega
      · have := ih (a + 1) (by omega) k hk; omega
    · rw [leafF_end (by omega)] at hk; cases hk
/-- Is the next leaf that is told this node? -/
theorem leaf_at {l ls : List Nd} {L : List Nat} {a i : Nat} (h : i < l.length) (e : L.drop a = leafF l i) : (decide (a < L.length) && decide (L.getD a 0 = i)) = isLeaf l i ∧ L.drop (if isLeaf l i then a + 1 else a) = leafF l (i + 1) := by
  rw [leafF_step h] at e
  cases hl : isLeaf l i with
  | true =>
    rw [hl, if_pos rfl] at e
    have h1 : a < L.length := by
      rcases Nat.lt_or_ge a L.length with h1 | h1
      · exact h1
      · rw [List.drop_eq_nil_of_le h1] at e; cases e
    rw [List.drop_eq_getElem_cons h1] at e
    obtain ⟨e1, e2⟩ := List.cons.inj e
    refine ⟨by simp [h1, List.getD, e1], by simpa using e2⟩
  | false =>
    rw [hl, if_neg (by decide)] at e
    refine ⟨?_, by simpa using e⟩
    by_cases h1 : a < L.length
    · have h2 : L.getD a 0 ≠ i := by
        intro h3
        have : i ∈ leafF l (i + 1) := by
          rw [← e, List.drop_eq_getElem_cons h1]
          have : L[a] = i := by simpa [List.getD, h1] using h3
          rw [this]; exact List.mem_cons_self ..
        have := leaf_ge _ _ (Nat.le_refl _) _ this
        omega
      rw [decide_eq_false h2, Bool.and_false]
    · rw [decide_eq_false h1, Bool.false_and]
end Go.Dm
