/- What a builder makes of sound events is a tree. -/
import Derived.Test.YtdgclgfhcgdehaaDoorSbN
set_option linter.unusedVariables false
set_option linter.unusedSimpArgs false
namespace Go.Dm
theorem chkR_snoc (x : Nd) : ∀ (l : List Nd) (C : List Nd), chkR C (l ++ [x]) = match chkR C l with
    | some D => chkS D x
    | none => none
  | [], C => by
    simp only [List.nil_append, chkR]
    cases chkS C x <;> rfl
  | y :: l, C => by
    simp only [List.cons_append, chkR]
    cases chkS C y with
    | none => rfl
    | some D => exact chkR_snoc x l D
def Inv0 (r : List Nd) (far : Int) : Prop := ∀ N, far ≤ N → ∃ C, chkR [rootN N] r = some C ∧ 1 ≤ C.length ∧ (nd C 0).fm ≤ far ∧ (nd C 0).to = N
def Inv1 (r : List Nd) (i : Nat) (far : Int) : Prop := i < r.length ∧ ∀ N T, far ≤ T → T ≤ N → ∃ C, chkR [rootN N] (r.set i { nd r i with to := T }) = some C ∧ 2 ≤ C.length ∧ (nd C 0).fm = T ∧ (nd C 0).to = N ∧ (nd C 1).fm ≤ far ∧ (nd C 1).to = T
/-- A builder whose nodes are a tree so far. -/
def BI (s : AB) : Prop := ∃ r, s.nodes = ⟨1, 0, 0, 0⟩ :: r ∧ 0 ≤ s.far ∧ ((s.opn = [0] ∧ Inv0 r s.far) ∨ ∃ i, s.opn = [0, i + 1] ∧ Inv1 r i s.far)
theorem bi_new : BI ⟨[⟨1, 0, 0, 0⟩], [0], 0⟩ := ⟨[], rfl, Int.le_refl _, .inl ⟨rfl, fun N h => ⟨_, rfl, by simp, h2 N, rfl⟩⟩⟩
where h2 (N : Int) : (nd [rootN N] 0).fm ≤ 0 := by simp [rootN]
theorem inv_leaf {r : List Nd} {far : Int} (h : Inv0 r far) {k : Nat} {a t : Int} (h1 : far ≤ a) (h2 : a ≤ t) : Inv0 (r ++ [⟨k, a, t, 1⟩]) t := by
  intro N hN
  obtain ⟨C, c1, c2, c3, c4⟩ := h N (by omega)
  rw [chkR_snoc, c1]
  simp only
  unfold chkS
  rw [if_pos (by simp only; omega), if_pos (by simp only [show (1 : Int).toNat - 1 = 0 from rfl]; omega)]
  exact ⟨_, rfl, by simp, by simp, by simpa using c4⟩
theorem inv_open {r : List Nd} {far : Int} (h : Inv0 r far) {k : Nat} {a : Int} (h1 : far ≤ a) : Inv1 (r ++ [⟨k, a, 0, 1⟩]) r.length a := by
  refine ⟨by simp, fun N T hT hN => ?_⟩
  obtain ⟨C, c1, c2, c3, c4⟩ := h N (by omega)
  have e : (r ++ [(⟨k, a, 0, 1⟩ : Nd)]).set r.length { nd (r ++ [⟨k, a, 0, 1⟩]) r.length with to := T } = r ++ [⟨k, a, T, 1⟩] := by
    rw [nd_last]; simp
  rw [e, chkR_snoc, c1]
  simp only
  unfold chkS
  rw [if_pos (by simp only; omega), if_pos (by simp only [show (1 : Int).toNat - 1 = 0 from rfl]; omega)]
  exact ⟨_, rfl, by simp, by simp, by simpa using c4, by simp, by simp⟩
theorem inv_leaf1 {r : List Nd} {i : Nat} {far : Int} (h : Inv1 r i far) {k : Nat} {a t : Int} (h1 : far ≤ a) (h2 : a ≤ t) : Inv1 (r ++ [⟨k, a, t, 2⟩]) i t := by
  obtain ⟨hi, h⟩ := h
  refine ⟨by simp; omega, fun N T hT hN => ?_⟩
  obtain ⟨C, c1, c2, c3, c4, c5, c6⟩ := h N T (by omega) hN
  rw [nd_app hi, List.set_append_left _ _ hi, chkR_snoc, c1]
  simp only
  unfold chkS
  rw [if_pos (by simp only; omega), if_pos (by simp only [show (2 : Int).toNat - 1 = 1 from rfl]; omega)]
  obtain ⟨p, q, D, rfl⟩ : ∃ p q D, C = p :: q :: D := by
    match C, c2 with
    | p :: q :: D, _ => exact ⟨p, q, D, rfl⟩
  exact ⟨_, rfl, by simp, by simpa using c3, by simpa using c4, by simp, by simpa using c6⟩
theorem inv_end {r : List Nd} {i : Nat} {far : Int} (h : Inv1 r i far) {a : Int} (h1 : far ≤ a) : Inv0 (r.set i { nd r i with to := a }) a := by
  intro N hN
  obtain ⟨C, c1, c2, c3, c4, c5, c6⟩ := h.2 N a h1 hN
  exact ⟨C, c1, by omega, by omega, c4⟩
theorem bi_step {b : Int} {e : ShE} {s : AB} {y : Int × Int} (hb : 0 ≤ b) (h : BI s) (hy : snd1 b s.far ((s.opn.length : Int) - 1) e = some y) : BI (stepB b s e) := by
  obtain ⟨r, hr, h0, hc⟩ := h
  obtain ⟨op, k, a, t⟩ := e
  unfold snd1 comeB at hy
  unfold stepB
  simp only at hy ⊢
  by_cases h1 : op = 1
  · rw [if_pos h1] at hy ⊢
    split at hy
    · rename_i hq
      obtain ⟨q1, _, q2⟩ := hq
      simp only [decide_eq_true_eq] at q2
      rcases hc with ⟨ho, hi⟩ | ⟨i, ho, hi⟩
      · refine ⟨r ++ [⟨k, a + b, 0, 1⟩], by rw [hr, ho]; rfl, by simp only; omega, .inr ⟨r.length, by simp [ho, hr], inv_open hi (by omega)⟩⟩
      · rw [ho] at q1; simp at q1
    · cases hy
  rw [if_neg h1] at hy ⊢
  by_cases h2 : op = 2
  · rw [if_pos h2] at hy ⊢
    split at hy
    · rename_i hq
      obtain ⟨q1, q3, _, q2⟩ := hq
      simp only [decide_eq_true_eq] at q2
      rcases hc with ⟨ho, hi⟩ | ⟨i, ho, hi⟩
      · rw [ho] at q1; simp at q1
      · refine ⟨r.set i { nd r i with to := a + b }, by simp [endB, hr, ho, q3], by simp only [endB]; omega, .inl ⟨by simp [endB, ho], inv_end hi (by omega)⟩⟩
    · cases hy
  rw [if_neg h2] at hy ⊢
  by_cases h3 : op = 3
  · rw [if_pos h3] at hy
    split at hy
    · rename_i hq
      simp only [decide_eq_true_eq] at hq
      rcases hc with ⟨ho, hi⟩ | ⟨i, ho, hi⟩
      · exact ⟨r ++ [⟨k, a + b, t + b, 1⟩], by rw [hr, ho]; rfl, by simp only; omega, .inl ⟨ho, inv_leaf hi (by omega) (by omega)⟩⟩
      · exact ⟨r ++ [⟨k, a + b, t + b, 2⟩], by rw [hr, ho]; rfl, by simp only; omega, .inr ⟨i, ho, inv_leaf1 hi (by omega) (by omega)⟩⟩
    · cases hy
  · rw [if_neg h3] at hy
    cases hy
theorem bi_run {b : Int} (hb : 0 ≤ b) : ∀ (l : List ShE) (s : AB) (y : Int × Int), BI s → sndR b l (s.far, (s.opn.length : Int) - 1) = some y → BI (runB b l s)
  | [], s, y, h, _ => h
  | e :: l, s, y, h, hy => by
    simp only [sndR] at hy
    split at hy
    · rename_i z hz
      obtain ⟨t1, t2, _⟩ := step_snd rfl rfl hz
      have hz2 : z = ((stepB b s e).far, ((stepB b s e).opn.length : Int) - 1) := Prod.ext t1 t2
      rw [hz2] at hy
      exact bi_run hb l (stepB b s e) y (bi_step hb h hz) hy
    · cases hy
/-- When all is closed the nodes are a tree. -/
theorem bi_tree {s : AB} (h : BI s) (ho : s.opn = [0]) {n : Int} (hn : s.far ≤ n) (hm : n ≤ 1048576) : chk (s.nodes.set 0 { nd s.nodes 0 with to := n }) n = true := by
  obtain ⟨r, hr, h0, hc⟩ := h
  rcases hc with ⟨_, hi⟩ | ⟨i, ho2, _⟩
  · obtain ⟨C, c1, _⟩ := hi n hn
    rw [hr]
    have e : (rootN n) = ⟨1, 0, n, 0⟩ := rfl
    simp only [List.set_cons_zero, nd_zero, chk]
    rw [← e]
    simp [c1]
    omega
  · rw [ho] at ho2; simp at ho2
end Go.Dm
