/- The machine D, 36: own slices whose block goes on behind them (as XTrA has them). -/
import Derived.Test.YthclahlplcfdpaaGreatDoorDGc
set_option linter.unusedVariables false
set_option linter.unusedSimpArgs false
namespace Go.Dm
@[simp] theorem nilCheck_ptr (a : Addr) : nilCheckD (.pointer (some a)) = some (.pointer (some a)) := _root_.id rfl
@[simp] theorem nilCheck_fn (f : FuncId) (a b : Array Value) : nilCheckD (.func (.func f) a b) = some (.func (.func f) a b) := _root_.id rfl
/-- A slice whose cells may go on behind it. -/
def SlC (ty : Option TypeId) (n B : Nat) (h : H) (v : Value) (cs : List Value) (len : Nat) : Prop :=
  ∃ g cap c, v = .slice (some ⟨g, 0, none⟩) len cap ∧ len ≤ cap ∧ B ≤ g ∧ g < h.next ∧ h.get g = some (.cells c n true 0 ty) ∧ c.length = cap * n ∧ c.take (len * n) = cs
theorem SlC.of_get {ty : Option TypeId} {n B : Nat} {h h' : H} {v : Value} {cs : List Value} {len : Nat} (s : SlC ty n B h v cs len) (hn : h.next ≤ h'.next) (hg : ∀ g, B ≤ g → g < h.next → h'.get g = h.get g) : SlC ty n B h' v cs len := by
  obtain ⟨g, cap, c, a1, a2, a3, a4, a5, a6, a7⟩ := s
  exact ⟨g, cap, c, a1, a2, a3, by omega, (hg g a3 a4).trans a5, a6, a7⟩
theorem setAt_eq : ∀ (vs c : List Value) (o : Nat), o + vs.length ≤ c.length → setAt c o vs = c.take o ++ vs ++ c.drop (o + vs.length)
  | [], c, o, h => by simp [setAt]
  | v :: vs, c, o, h => by
    simp only [List.length_cons] at h
    rw [setAt, setAt_eq vs _ _ (by simp; omega), List.take_succ_eq_append_getElem (by simp; omega)]
    simp only [List.getElem_set_self, List.take_set_of_le (Nat.le_refl o), List.append_assoc, List.cons_append, List.nil_append, List.length_cons]
    rw [List.drop_set_of_lt (by omega)]
    congr 4
    omega
/-- k elements are appended to it. -/
theorem SlC.app {ty ty0 : Option TypeId} {elem : TypeId} {n B : Nat} {h : H} {v : Value} {cs : List Value} {len : Nat} (s : SlC ty n B h v cs len) (h1 : h.one = []) (hB : B ≤ h.next) {k by' : Nat} {xs : List Value} (hx : xs.length = k * n) (hk : k ≠ 0) (hn : 0 < n)
    (hc : xs.all cellV = true) (hl : (len + k) * (by' + 1) ≤ 2 ^ 44) (hb : by' ≤ 2 ^ 32) (ht : ty = none ∨ ty = some elem) {K : VPost} (hK : ∀ v' h', SlC ty n B h' v' (cs ++ xs) (len + k) → Fr B h h' → h'.next ≤ h.next + 1 → (∀ b, b < h.next → (∀ g x y, v = .slice (some ⟨g, 0, none⟩) x y → g ≠ b) → h'.get b = h.get b) → (∀ g x y, v' = .slice (some ⟨g, 0, none⟩) x y → (∃ x y, v = .slice (some ⟨g, 0, none⟩) x y) ∨ g = h.next) → K v' h') : OptW (appS ty0 elem n by' v k xs h) K := by
  have hadr : h.addr = h.next := addr_one h h1
  obtain ⟨g, cap, c, rfl, a2, a3, a4, a5, a6, a7⟩ := s
  have hcl : len * n ≤ c.length := by rw [a6]; exact Nat.mul_le_mul_right _ a2
  have hcs : cs.length = len * n := by rw [← a7, List.length_take, Nat.min_eq_left hcl]
  rw [appS_some, if_neg hk]
  by_cases hcap : len + k ≤ cap
  · have hle : len * n + k * n ≤ c.length := by rw [a6, ← Nat.add_mul]; exact Nat.mul_le_mul_right _ hcap
    have hz : 0 + len * n = len * n := by omega
    have hq : (decide (0 + len * n + xs.length ≤ c.length) && decide (0 ≤ 0 + len * n) && xs.all cellV) = true := by
      rw [hc, hz, hx]; simp [hle]
    rw [if_pos hcap, stCells_eq, a5, stC_some, if_pos hq, roomC_some, OptW.some]
    refine hK _ _ ⟨g, cap, setAt c (0 + len * n) xs, rfl, hcap, a3, a4, by rw [H.get_put, if_pos rfl], by rw [setAt_length]; exact a6, ?_⟩ ((Fr.refl h1).put a3 _) (by simp [H.put]) (fun b hb hne => by
      have e5 : b ≠ g := fun e => hne g len cap rfl e.symm
      rw [H.get_put, if_neg e5]) (fun g' x y e => by cases e; exact .inl ⟨_, _, rfl⟩)
    rw [hz, setAt_eq _ _ _ (by rw [hx]; exact hle), a7, Nat.add_mul, ← hx, ← hcs, ← List.length_append, List.take_left]
  · rw [if_neg hcap, if_pos ⟨hl, hb, hc⟩, a5, growC_some]
    have e2 : n = n ∧ 0 + len * n ≤ c.length ∧ 0 ≤ 0 + len * n ∧ (ty = none ∨ ty = some elem ∧ 0 = 0) := ⟨rfl, by omega, by omega, ht.imp id fun x => ⟨x, rfl⟩⟩
    have e3 : (c.drop 0).take (len * n) = cs := by rw [List.drop_zero, a7]
    have h2 : (h.drop g).one = [] := h1
    rw [if_pos e2, OptW.some, e3, hadr, new_one _ _ h2]
    refine hK _ _ ⟨h.next, len + k, cs ++ xs, by simp, Nat.le_refl _, hB, by simp, by simp, by rw [List.length_append, hcs, hx, Nat.add_mul], List.take_of_length_le (by rw [List.length_append, hcs, hx, Nat.add_mul]; exact Nat.le_refl _)⟩
      (((Fr.refl h1).drop a3).nw (by simpa using hB) _) (by simp) (fun b hb hne => by
        have e5 : b ≠ g := fun e => hne g len cap rfl e.symm
        rw [get_nw, if_neg (by simp; omega), H.get_drop, if_neg e5]) (fun g' x y e => by cases e; exact .inr rfl)

end Go.Dm
