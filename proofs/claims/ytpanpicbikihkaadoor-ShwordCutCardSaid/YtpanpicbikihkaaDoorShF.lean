/- The shell's words: what the statements use beside. -/
import Derived.Test.YtpanpicbikihkaaDoorShE
import Derived.Test.YtpanpicbikihkaaDoorDEq
set_option linter.unusedVariables false
set_option linter.unusedSimpArgs false
namespace Go.Dm
open Go.Proofs
theorem eq_pc (p q : Pc) : eqD E0 10000 34 (.agg (encP p).toArray) (.agg (encP q).toArray) = some (decide (p = q)) := by
  obtain ⟨a1, a2, a3, a4, a5, a6⟩ := p
  obtain ⟨b1, b2, b3, b4, b5, b6⟩ := q
  simp [encP]
  rw [Bool.eq_iff_iff]
  simp
  constructor <;> (rintro ⟨h1, h2, h3, h4, h5, h6⟩; exact ⟨by omega, by omega, by omega, h4, h5, h6⟩)
theorem encs_get : ∀ (l : List Pc) (k : Nat) (hk : k < l.length), ((encs l).drop (k * 6)).take 6 = encP l[k] := by
  intro l
  induction l with
  | nil => intro k hk; simp at hk
  | cons p l ih =>
    intro k hk
    have e : encs (p :: l) = encP p ++ encs l := by simp [encs]
    have hp : (encP p).length = 6 := rfl
    cases k with
    | zero => rw [e]; simp [List.take_append, hp]
    | succ k =>
      rw [e, show (k + 1) * 6 = (encP p).length + k * 6 by rw [hp]; omega, List.drop_append]
      simp only [Nat.add_sub_cancel_left, List.drop_eq_nil_of_le (Nat.le_add_right _ _), List.nil_append]
      simpa using ih k (by simpa using hk)
theorem take_eq_succ {la lb : List Pc} {k : Nat} (h1 : k < la.length) (h2 : k < lb.length) (he : la.take k = lb.take k) : (la.take (k + 1) = lb.take (k + 1)) = (la[k] = lb[k]) := by
  rw [List.take_succ_eq_append_getElem h1, List.take_succ_eq_append_getElem h2, he, List.append_right_inj]
  simp
theorem same_sp (la lb : List Pc) (B B' : Nat) (sa sb : Value) (hl : la.length < 2 ^ 40) (h : H) (h1 : h.one = []) (ha : SlG none 6 B h sa (encs la) la.length) (hb : SlG none 6 B' h sb (encs lb) lb.length) :
    CallW E0 X0 (.fn 11) [sa, sb] h (fun v h' => v = .bool (decide (la = lb)) ∧ h' = h) := by
  refine CallW.body efn11 rfl rfl rfl [] (by kernel_rfl) ?_
  obtain ⟨a, rfl⟩ := ha.slice
  obtain ⟨b, rfl⟩ := hb.slice
  by_cases hn : la.length = lb.length
  · simp [Tryd.f11, h1, hn]
    refine wpd_loop (fun (k : Nat) fr h' => k ≤ la.length ∧ fr.get 5 = some (.int .i64 k) ∧ h' = h ∧ la.take k = lb.take k) (fun k => la.length - k) 0 ⟨by omega, by simp, rfl, by simp⟩ ?_
    rintro k fr h3 ⟨hk, hi, rfl, he⟩ hf
    have g0 := hf 0 rfl
    have g1 := hf 1 rfl
    simp at g0 g1
    by_cases hkl : k < lb.length
    · have hka : k < la.length := by omega
      rcases ha with ⟨e, _⟩ | ⟨_, _, ga, _, _, ea, hga⟩
      · omega
      rcases hb with ⟨e, _⟩ | ⟨_, _, gb, _, _, eb, hgb⟩
      · omega
      cases ea
      cases eb
      have q1 := encs_get la k hka
      have q2 := encs_get lb k hkl
      have l1 := encs_length la
      have l2 := encs_length lb
      have b1 : k * 6 + 6 ≤ (encs la).length := by omega
      have b2 : k * 6 + 6 ≤ (encs lb).length := by omega
      have hw1 := wrap_succ (show k < 9223372036854775807 by omega)
      by_cases hq : la[k] = lb[k]
      · simp [h1, hi, g0, g1, hkl, hka, hga, hgb, b1, b2, q1, q2, -eqD_succ, eq_pc, hq, hw1, hn]
        exact ⟨k + 1, by omega, by omega, by simp, by rw [take_eq_succ hka hkl he]; exact hq⟩
      · have hne : la ≠ lb := by rintro rfl; exact hq rfl
        simp [h1, hi, g0, g1, hkl, hka, hga, hgb, b1, b2, q1, q2, -eqD_succ, eq_pc, hq, hn, hne]
    · have hab : la = lb := by
        rw [List.take_of_length_le (by omega), List.take_of_length_le (by omega)] at he
        exact he
      simp [h1, hi, g0, hkl, hab]
  · have hne : la ≠ lb := by rintro rfl; exact hn rfl
    have hn' : ¬ ((la.length : Int) = (lb.length : Int)) := by omega
    simp [Tryd.f11, h1, hn, hn', hne]
theorem wk_read : rdAt [97, 32, 62, 39, 98, 32, 99, 39, 10] 0 0 = ([⟨51, 0, 1, [97], false, true⟩, ⟨52, 2, 3, [], false, false⟩, ⟨51, 3, 8, [98, 32, 99], true, true⟩], 0) := by kernel_rfl
theorem wk_op : opAt [60, 60, 45] 0 = 3 := by kernel_rfl
theorem wakes_sp (h : H) (h1 : h.one = []) (hg : Gl h) (hg0 : 0 < h.next) : CallW E0 X0 (.fn 8) [] h (fun v h' => v = .bool true ∧ Fr h.next h h') := by
  refine CallW.body efn8 rfl rfl rfl [] (by kernel_rfl) ?_
  simp [Tryd.f8, h1]
  refine (Read_sp [97, 32, 62, 39, 98, 32, 99, 39, 10] 0 0 (by simp) (by decide) h h1 hg hg0).mono ?_
  rintro v h2 ⟨sl, rfl, hs, hF⟩
  rw [wk_read] at hs ⊢
  rcases hs with ⟨e, _⟩ | ⟨_, _, g, _, _, rfl, hgg⟩
  · simp at e
  simp [encs, encP] at hgg
  have hg2 : Gl h2 := by unfold Gl; rw [hF.get _ hg0]; exact hg
  simp [hF.one, hgg]
  refine (Op_sp [60, 60, 45] 0 h2 hF.one hg2).mono ?_
  rintro _ h3 ⟨rfl, rfl⟩
  rw [wk_op]
  simp [hF.one]
  exact hF
end Go.Dm
