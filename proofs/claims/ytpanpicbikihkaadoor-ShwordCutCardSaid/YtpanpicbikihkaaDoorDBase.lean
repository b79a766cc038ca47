/- The machine D, 1: a trie over numbers. -/
import Derived.RangeFuncLeaves
import Derived.KernelRfl
set_option linter.unusedVariables false
set_option linter.unusedSimpArgs false
namespace Go.Dm

/-- A map from numbers, that the kernel can reckon with. -/
inductive T (α : Type) where
  | leaf
  | node (l : T α) (v : Option α) (r : T α)

namespace T
variable {α : Type}
def get : T α → Nat → Option α
  | .leaf, _ => none
  | .node _ v _, 0 => v
  | .node l _ r, n + 1 => bif Nat.beq (n % 2) 0 then l.get (n / 2) else r.get (n / 2)
def lft : T α → T α
  | .leaf => .leaf
  | .node l _ _ => l
def rgt : T α → T α
  | .leaf => .leaf
  | .node _ _ r => r
def val : T α → Option α
  | .leaf => none
  | .node _ v _ => v
def setF : Nat → T α → Nat → Option α → T α
  | 0, t, _, _ => t
  | _ + 1, t, 0, x => .node t.lft x t.rgt
  | f + 1, t, n + 1, x => bif Nat.beq (n % 2) 0 then .node (setF f t.lft (n / 2) x) t.val t.rgt else .node t.lft t.val (setF f t.rgt (n / 2) x)
def set (t : T α) (n : Nat) (x : Option α) : T α := setF (n + 1) t n x

@[simp] theorem get_leaf (n : Nat) : (leaf : T α).get n = none := by cases n <;> rfl
theorem get_lft (t : T α) (n : Nat) : t.lft.get n = t.get (2 * n + 1) := by
  cases t with
  | leaf => simp [lft]
  | node l v r =>
    have h1 : (2 * n) % 2 = 0 := by omega
    have h2 : (2 * n) / 2 = n := by omega
    simp [lft, get, h1, h2]
theorem beq_ev {n : Nat} (h : n % 2 = 0) : Nat.beq (n % 2) 0 = true := by rw [h]; rfl
theorem beq_od {n : Nat} (h : n % 2 = 1) : Nat.beq (n % 2) 0 = false := by rw [h]; rfl
theorem get_rgt (t : T α) (n : Nat) : t.rgt.get n = t.get (2 * n + 2) := by
  cases t with
  | leaf => simp [rgt]
  | node l v r =>
    have h1 : Nat.beq ((2 * n + 1) % 2) 0 = false := beq_od (by omega)
    have h2 : (2 * n + 1) / 2 = n := by omega
    simp only [rgt, get, h1, h2, cond_false]
theorem get_val (t : T α) : t.val = t.get 0 := by cases t <;> rfl
theorem get_setF (f : Nat) : ∀ (t : T α) (n : Nat) (x : Option α) (m : Nat), n < f → (setF f t n x).get m = if m = n then x else t.get m := by
  induction f with
  | zero => intro t n x m h; omega
  | succ f ih =>
    intro t n x m h
    cases n with
    | zero =>
      cases m with
      | zero => simp [setF, get]
      | succ m =>
        rcases Nat.mod_two_eq_zero_or_one m with hm | hm
        · simp only [setF, get, beq_ev hm, cond_true, get_lft]
          rw [if_neg (by omega), show 2 * (m / 2) + 1 = m + 1 by omega]
        · simp only [setF, get, beq_od hm, cond_false, get_rgt]
          rw [if_neg (by omega), show 2 * (m / 2) + 2 = m + 1 by omega]
    | succ n =>
      rcases Nat.mod_two_eq_zero_or_one n with hn | hn
      · simp only [setF, beq_ev hn, cond_true]
        cases m with
        | zero => simp [get, get_val]
        | succ m =>
          rcases Nat.mod_two_eq_zero_or_one m with hm | hm
          · simp only [get, beq_ev hm, cond_true]
            rw [ih _ _ _ _ (by omega), get_lft]
            by_cases e : m / 2 = n / 2
            · rw [if_pos e, if_pos (by omega)]
            · rw [if_neg e, if_neg (by omega), show 2 * (m / 2) + 1 = m + 1 by omega]
          · simp only [get, beq_od hm, cond_false, get_rgt]
            rw [if_neg (by omega), show 2 * (m / 2) + 2 = m + 1 by omega]
      · simp only [setF, beq_od hn, cond_false]
        cases m with
        | zero => simp [get, get_val]
        | succ m =>
          rcases Nat.mod_two_eq_zero_or_one m with hm | hm
          · simp only [get, beq_ev hm, cond_true, get_lft]
            rw [if_neg (by omega), show 2 * (m / 2) + 1 = m + 1 by omega]
          · simp only [get, beq_od hm, cond_false]
            rw [ih _ _ _ _ (by omega), get_rgt]
            by_cases e : m / 2 = n / 2
            · rw [if_pos e, if_pos (by omega)]
            · rw [if_neg e, if_neg (by omega), show 2 * (m / 2) + 2 = m + 1 by omega]
theorem get_set (t : T α) (n : Nat) (x : Option α) (m : Nat) : (t.set n x).get m = if m = n then x else t.get m :=
  get_setF _ t n x m (Nat.lt_succ_self n)
@[simp] theorem get_set_self (t : T α) (n : Nat) (x : Option α) : (t.set n x).get n = x := by rw [get_set, if_pos rfl]
theorem get_set_ne (t : T α) {n m : Nat} (x : Option α) (h : m ≠ n) : (t.set n x).get m = t.get m := by rw [get_set, if_neg h]
end T

end Go.Dm
