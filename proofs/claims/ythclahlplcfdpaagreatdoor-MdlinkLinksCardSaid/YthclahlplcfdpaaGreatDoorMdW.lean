/- What stands at a place: the code's addresses and names of characters. -/
import Derived.Test.YthclahlplcfdpaaGreatDoorMdV
set_option linter.unusedVariables false
set_option linter.unusedSimpArgs false
namespace Go.Dm
open Go.Proofs
section
variable {h : H}
theorem scheme_sp (t : List UInt8) (ht : t.length < 2 ^ 31) (h1 : h.one = []) (g : GmH h) : CallW E0 X0 (.fn 64) [str t] h (fun v h' => v = .bool (schL t) ∧ h' = h) := by
  refine CallW.body efn64 rfl rfl rfl [] (by kernel_rfl) ?_
  simp [Tryz.f64, h1]
  refine (Cut_sp t [58] ht g).mono ?_
  rintro _ h2 ⟨rfl, rfl⟩
  rw [cut_one]
  unfold schL
  simp only
  obtain ⟨k, hk⟩ : ∃ k, k = (t.takeWhile (· != 58)).length := ⟨_, rfl⟩
  have hsl := tw_le (· != 58) t
  rw [← hk] at hsl ⊢
  by_cases c1 : k < t.length
  rotate_left
  · rw [if_neg c1, decide_eq_false c1]
    simp [h1]
  rw [if_pos c1, decide_eq_true c1]
  have hl : (t.take k).length = k := by simp; omega
  by_cases c2 : k < 2
  · have c2' : (k : Int) < 2 := by omega
    rw [decide_eq_false (show ¬ 2 ≤ k by omega)]
    simp [h1, hl, c2, c2']
  by_cases c3 : 32 < k
  · have c2' : ¬ (k : Int) < 2 := by omega
    have c3' : (32 : Int) < k := by omega
    rw [decide_eq_false (show ¬ k ≤ 32 by omega)]
    simp [h1, hl, c2, c2', c3, c3']
  have c2' : ¬ (k : Int) < 2 := by omega
  have c3' : ¬ (32 : Int) < k := by omega
  rw [decide_eq_true (show 2 ≤ k by omega), decide_eq_true (show k ≤ 32 by omega)]
  have hi0 : idxB (t.take k) 0 = some (.int .u8 (bt t 0).toNat) := by
    have := idxB_nat (l := t.take k) (k := 0) (by omega)
    rw [show bt (t.take k) 0 = bt t 0 by unfold bt; rw [List.getD_eq_getElem?_getD, List.getD_eq_getElem?_getD, List.getElem?_take, if_pos (by omega)]] at this
    exact this
  have hmin : min k t.length = k := by omega
  simp [h1, hl, hmin, c2, c2', c3, c3', hi0]
  refine (let0_sp (bt t 0) h1).mono ?_
  rintro _ h3 ⟨rfl, rfl⟩
  cases hL : isLet (bt t 0) with
  | false => simp [h1]
  | true =>
    simp [h1]
    refine (count_sp (t.take k) (by omega) _ schOk sch1_sp h1).mono ?_
    rintro _ h4 ⟨rfl, rfl⟩
    have e1 := tw_len_all schOk (t.take k)
    rw [hl] at e1
    by_cases a1 : ((t.take k).takeWhile schOk).length = k
    · have a1' : (((t.take k).takeWhile schOk).length : Int) = k := by omega
      rw [e1.1 a1]
      simp [h1, hl, hmin, eq_true a1']
      refine (count_sp (t.drop (k + 1)) (by simp; omega) _ resOk sch2_sp h1).mono ?_
      rintro _ h5 ⟨rfl, rfl⟩
      have e2 := tw_len_all resOk (t.drop (k + 1))
      rw [List.length_drop] at e2
      have wl : ((t.length - (k + 1) : Nat) : Int) = ((t.length - (k + 1) : Nat) : Int) := rfl
      by_cases a2 : ((t.drop (k + 1)).takeWhile resOk).length = t.length - (k + 1)
      · have a2' : (((t.drop (k + 1)).takeWhile resOk).length : Int) = ((t.length - (k + 1) : Nat) : Int) := by omega
        rw [e2.1 a2]
        simp [h1, eq_true a2']
      · have a2' : ¬ (((t.drop (k + 1)).takeWhile resOk).length : Int) = ((t.length - (k + 1) : Nat) : Int) := by omega
        have e3 : (t.drop (k + 1)).all resOk = false := by
          cases q : (t.drop (k + 1)).all resOk with
          | false => rfl
          | true => exact absurd (e2.2 q) a2
        rw [e3]
        simp [h1, a2']
    · have a1' : ¬ (((t.take k).takeWhile schOk).length : Int) = k := by omega
      have e3 : (t.take k).all schOk = false := by
        cases q : (t.take k).all schOk with
        | false => rfl
        | true => exact absurd (e1.2 q) a1
      rw [e3]
      simp [h1, hl, hmin, a1']
theorem Split_sp (s : List UInt8) (c : UInt8) (hs : s.length < 2 ^ 31) (h1 : h.one = []) (g : GmH h) : CallW E0 X0 (.fn 105) [str s, str [c]] h (fun v h' => v = .slice (some ⟨h.next, 0, none⟩) (splA c [] s).length (splA c [] s).length ∧ h' = h.nw (.cells ((splA c [] s).map str) 1 true 0 none)) := by
  have hd := Lib.splitB_data ⟨[c].toArray⟩ 0 (Lib.countB ⟨s.toArray⟩ ⟨[c].toArray⟩) ⟨s.toArray⟩
  have hsp : (Lib.splitB ⟨[c].toArray⟩ 0 (Lib.countB ⟨s.toArray⟩ ⟨[c].toArray⟩) ⟨s.toArray⟩).map (·.data.toList) = splA c [] s := by
    rw [hd]
    exact splitK_splA c s.length s (Nat.le_refl _)
  have hl : (splA c [] s).length = Lib.countB ⟨s.toArray⟩ ⟨[c].toArray⟩ + 1 := by
    rw [← hsp, List.length_map]
    exact Lib.splitB_all _ (by simp [ByteArray.size]) 0 _ _ rfl
  have hm : (Lib.splitB ⟨[c].toArray⟩ 0 (Lib.countB ⟨s.toArray⟩ ⟨[c].toArray⟩) ⟨s.toArray⟩).map Value.string = (splA c [] s).map str := by
    rw [← hsp, List.map_map]
    exact List.map_congr_left fun x _ => rfl
  refine CallW.plug (v := .slice (some ⟨h.next, 0, none⟩) (splA c [] s).length (splA c [] s).length) (h' := h.nw (.cells ((splA c [] s).map str) 1 true 0 none)) ?_ ⟨rfl, rfl⟩
  show splP [str s, str [c]] h = _
  unfold splP str
  simp only
  rw [if_pos ⟨g.1, by rw [size_str]; omega, by simp [ByteArray.size]⟩, hm, ← hl, addr_one h h1, new_one _ _ h1]
  rfl
theorem splA_len (c : UInt8) : ∀ (l cur : List UInt8), (splA c cur l).length ≤ l.length + 1
  | [], cur => by simp [splA]
  | x :: r, cur => by
    rw [splA]
    split
    · have := splA_len c r []; simp; omega
    · have := splA_len c r (cur ++ [x]); simp; omega
theorem splA_le (c : UInt8) : ∀ (l cur : List UInt8) (x : List UInt8), x ∈ splA c cur l → x.length ≤ cur.length + l.length
  | [], cur, x, h => by simp [splA] at h; subst h; simp
  | y :: r, cur, x, h => by
    rw [splA] at h
    split at h
    · rcases List.mem_cons.1 h with rfl | h
      · simp
      · have := splA_le c r [] x h; simp at this ⊢; omega
    · have := splA_le c r _ x h; simp at this ⊢; omega
end
end Go.Dm
