/- Trees, plainly: the document's way to tell a tree and the program's come to the same. -/
import Derived.Test.YtdgclgfhcgdehaaDoorTrM
set_option linter.unusedVariables false
set_option linter.unusedSimpArgs false
namespace Go.Dm
/-- The document's lists beside the program's list. -/
structure RlC (l C : List Nd) (E : List Int) (O : List Nat) (i : Nat) : Prop where
  lenE : E.length = C.length
  lenO : O.length = C.length
  pos : 0 < C.length
  i0 : 0 < i
  dp : (nd l (i - 1)).dp + 1 = C.length
  it : ∀ j, j < C.length → O.getD j 0 < l.length ∧ (nd C j).to = (nd l (O.getD j 0)).to ∧ (j + 1 < C.length → (nd C j).fm = E.getD (j + 1) 0 ∧ (nd l (O.getD j 0)).fm ≤ E.getD (j + 1) 0) ∧ (j + 1 = C.length → (nd C j).fm = (nd l (O.getD j 0)).fm)
theorem getD_app_l {α : Type} (a b : List α) (j : Nat) (x : α) (h : j < a.length) : (a ++ b).getD j x = a.getD j x := by
  simp [List.getD, List.getElem?_append_left h]
theorem getD_take {α : Type} (a : List α) (k j : Nat) (x : α) (h : j < k) : (a.take k).getD j x = a.getD j x := by
  simp [List.getD, List.getElem?_take, h]
theorem getD_end {α : Type} (a : List α) (x y : α) (j : Nat) (h : j = a.length) : (a ++ [x]).getD j y = x := by
  subst h; simp [List.getD]
theorem nd_app_l (a b : List Nd) (j : Nat) (h : j < a.length) : nd (a ++ b) j = nd a j := getD_app_l _ _ _ _ h
theorem nd_take (a : List Nd) (k j : Nat) (h : j < k) : nd (a.take k) j = nd a j := getD_take _ _ _ _ h
theorem nd_app_r (a b : List Nd) (j : Nat) (h : a.length ≤ j) : nd (a ++ b) j = nd b (j - a.length) := by
  simp [nd, List.getD, List.getElem?_append_right h]
theorem rl_ok {l C : List Nd} {E : List Int} {O : List Nat} {i : Nat} (r : RlC l C E O i) {x : Nd} (h1 : 1 ≤ x.dp) (h2 : x.dp ≤ C.length) :
    (chkS C x).isSome = (decide ((nd l (O.getD (x.dp.toNat - 1) 0)).fm ≤ x.fm) && decide (x.fm ≤ x.to) && decide (x.to ≤ (nd l (O.getD (x.dp.toNat - 1) 0)).to) && !(decide (x.dp.toNat < C.length) && decide (x.fm < E.getD x.dp.toNat 0))) := by
  have hj : x.dp.toNat - 1 < C.length := by omega
  obtain ⟨a, b, c, d⟩ := r.it _ hj
  unfold chkS
  rw [if_pos ⟨h1, h2⟩, b]
  rw [show x.dp.toNat - 1 + 1 = x.dp.toNat by omega] at c d
  generalize O.getD (x.dp.toNat - 1) 0 = o at *
  generalize E.getD x.dp.toNat 0 = e at *
  generalize nd l o = p at *
  generalize (nd C (x.dp.toNat - 1)).fm = u at *
  by_cases h3 : x.dp.toNat < C.length
  · obtain ⟨c1, c2⟩ := c h3
    subst c1
    by_cases e1 : x.fm < u
    · rw [if_neg (by omega)]; simp [h3, e1]
    · have e4 : p.fm ≤ x.fm := by omega
      have e5 : u ≤ x.fm := by omega
      by_cases e2 : x.fm ≤ x.to <;> by_cases e3 : x.to ≤ p.to <;> simp [e1, e2, e3, e4, e5]
  · rw [d (by omega)]
    by_cases e1 : p.fm ≤ x.fm <;> by_cases e2 : x.fm ≤ x.to <;> by_cases e3 : x.to ≤ p.to <;> simp [e1, e2, e3, h3]
theorem rl_iff {l C : List Nd} {E : List Int} {O : List Nat} {i : Nat} (r : RlC l C E O i) {x : Nd} (h1 : 1 ≤ x.dp) (h2 : x.dp ≤ C.length) :
    (chkS C x).isSome = true ↔ ((nd l (O.getD (x.dp.toNat - 1) 0)).fm ≤ x.fm ∧ x.fm ≤ x.to ∧ x.to ≤ (nd l (O.getD (x.dp.toNat - 1) 0)).to ∧ ¬ (x.dp.toNat < C.length ∧ x.fm < E.getD x.dp.toNat 0)) := by
  rw [rl_ok r h1 h2]
  generalize O.getD (x.dp.toNat - 1) 0 = o
  generalize E.getD x.dp.toNat 0 = e
  simp only [Bool.and_eq_true, Bool.not_eq_true', Bool.and_eq_false_iff, decide_eq_true_eq, decide_eq_false_iff_not, and_assoc, Decidable.not_and_iff_or_not]
theorem rl_step {l C C' : List Nd} {E : List Int} {O : List Nat} {i : Nat} (r : RlC l C E O i) (hi : i < l.length) (h : chkS C (nd l i) = some C') :
    RlC l C' (E.take (nd l i).dp.toNat ++ [(nd l i).to]) (O.take (nd l i).dp.toNat ++ [i]) (i + 1) := by
  obtain ⟨h1, h2, h3⟩ := chkS_len h
  generalize hx : nd l i = x at *
  have hd : ∃ d, x.dp.toNat = d + 1 := ⟨x.dp.toNat - 1, by omega⟩
  obtain ⟨d, hd⟩ := hd
  have hj : d < C.length := by omega
  obtain ⟨a, b, c, e⟩ := r.it _ hj
  have lE := r.lenE
  have lO := r.lenO
  have hok := (rl_ok r h1 h2).symm.trans (by rw [h]; rfl : _ = true)
  simp only [hd, Nat.add_sub_cancel, Bool.and_eq_true, decide_eq_true_eq] at hok
  unfold chkS at h
  rw [if_pos ⟨h1, h2⟩, hd, Nat.add_sub_cancel] at h
  split at h
  · rename_i h4
    cases h
    rw [hd]
    refine ⟨by simp; omega, by simp; omega, by simp, by omega, ?_, fun j hjl => ?_⟩
    · simp [hx]; omega
    · have lt : (C.take d).length = d := by simp; omega
      have ltO : (O.take (d + 1)).length = d + 1 := by simp; omega
      have ltE : (E.take (d + 1)).length = d + 1 := by simp; omega
      simp only [List.length_append, lt, List.length_cons, List.length_nil] at hjl ⊢
      rcases Nat.lt_trichotomy j d with hlt | rfl | hgt
      · obtain ⟨a', b', c', e'⟩ := r.it j (by omega)
        have c1 := c' (by omega)
        rw [nd_app_l _ _ _ (by omega), nd_take _ _ _ hlt, getD_app_l _ _ _ _ (by omega), getD_take _ _ _ _ (by omega), getD_app_l _ _ _ _ (by omega), getD_take _ _ _ _ (by omega)]
        exact ⟨a', b', fun _ => c1, fun h => by omega⟩
      · rw [nd_app_r _ _ _ (by omega), lt, Nat.sub_self, nd_zero, getD_app_l _ _ _ _ (by omega), getD_take _ _ _ _ (by omega), getD_end _ _ _ _ ltE.symm]
        refine ⟨a, b, fun _ => ⟨rfl, ?_⟩, fun h => by omega⟩
        have := hok.1.1.1
        omega
      · have hjd : j = d + 1 := by omega
        subst hjd
        rw [nd_app_r _ _ _ (by omega), lt, show d + 1 - d = 1 by omega, nd_succ, nd_zero, getD_end _ _ _ _ ltO.symm, hx]
        exact ⟨hi, rfl, fun h => by omega, fun _ => rfl⟩
  · cases h
theorem rl_init {l : List Nd} {n : Int} (hl : 0 < l.length) (h0 : nd l 0 = rootN n) : RlC l [nd l 0] [0] [0] 1 := by
  refine ⟨rfl, rfl, by simp, by omega, by simp [h0, rootN], fun j hj => ?_⟩
  have : j = 0 := by simpa using hj
  subst this
  simp [hl]
end Go.Dm
