/- A line's end; a part of a line; bytes. -/
import Derived.Test.YthclahlplcfdpaaGreatDoorMdX
set_option linter.unusedVariables false
set_option linter.unusedSimpArgs false
namespace Go.Dm
open Go.Proofs
theorem ib_pos (c : UInt8) : ∀ l : List UInt8, Lib.indexByte l c = if (l.takeWhile (· != c)).length < l.length then ((l.takeWhile (· != c)).length : Int) else -1
  | [] => rfl
  | b :: l => by
    have ih := ib_pos c l
    unfold Lib.indexByte
    by_cases h : b = c
    · subst h
      rw [if_pos (by simp), List.takeWhile_cons_of_neg (by simp)]
      simp
    · rw [if_neg (by simpa using h), List.takeWhile_cons_of_pos (by simpa using h), ih]
      split
      · rename_i h1
        simp only [List.length_cons]
        rw [if_neg (by simp), if_pos (by omega)]
        omega
      · rename_i h1
        simp only [List.length_cons]
        rw [if_pos (by simp)]
        split
        · omega
        · rfl
/-- Cut at a byte. -/
theorem cut_one (l : List UInt8) (c : UInt8) : Lib.cut l [c] = if (l.takeWhile (· != c)).length < l.length then (l.take (l.takeWhile (· != c)).length, l.drop ((l.takeWhile (· != c)).length + 1), true) else (l, [], false) := by
  unfold Lib.cut
  rw [Lib.index_one, ib_pos]
  split
  · rw [if_pos (by omega)]
    simp
  · rw [if_neg (by omega)]
def aL (l : List UInt8) : List UInt8 := l.take (eN l)
theorem aL_len (l : List UInt8) : (aL l).length = eN l := by unfold aL; rw [List.length_take]; have := eN_len l; omega
theorem nlf_eN {l : List UInt8} (h : 10 ∉ l) : eN l = l.length := by
  have h1 : lnN l = l.length := by
    unfold lnN
    have : ∀ m : List UInt8, (10 : UInt8) ∉ m → m.takeWhile (· != 10) = m := by
      intro m
      induction m with
      | nil => intro _; rfl
      | cons c m ih =>
        intro hm
        have h2 : c ≠ 10 := fun q => hm (by rw [q]; exact List.mem_cons_self ..)
        rw [List.takeWhile_cons_of_pos (by simpa using h2), ih fun q => hm (List.mem_cons_of_mem _ q)]
    rw [this l h]
  unfold eN
  rw [if_neg (by omega), h1]
theorem nlf_aL {l : List UInt8} (h : 10 ∉ l) : aL l = l := by unfold aL; rw [nlf_eN h, List.take_length]
theorem aL_nlf (l : List UInt8) : 10 ∉ aL l := by
  intro h
  unfold aL at h
  obtain ⟨i, hi, he⟩ := List.getElem_of_mem h
  rw [List.getElem_take] at he
  have h1 : i < lnN l := by have := eN_le l; simp at hi; omega
  obtain ⟨c, h2, h3⟩ := tw_ne h1
  rw [List.getElem?_eq_getElem (by simp at hi; omega), he] at h2
  cases h2
  simp at h3
theorem take_nlf {l : List UInt8} (h : 10 ∉ l) (k : Nat) : 10 ∉ l.take k := fun q => h (List.mem_of_mem_take q)
theorem drop_nlf {l : List UInt8} (h : 10 ∉ l) (k : Nat) : 10 ∉ l.drop k := fun q => h (List.mem_of_mem_drop q)
theorem suf13 (l : List UInt8) (k : Nat) (hk : k ≤ l.length) : Lib.trimSuffix (l.take k) [13] = if 0 < k ∧ l[k - 1]? = some 13 then l.take (k - 1) else l.take k := by
  unfold Lib.trimSuffix Lib.hasSuffix
  by_cases h0 : k = 0
  · subst h0
    simp
  · have hlt : k - 1 < l.length := by omega
    have e : l.take k = l.take (k - 1) ++ [l[k - 1]] := by
      have := List.take_succ_eq_append_getElem hlt
      rwa [show k - 1 + 1 = k by omega] at this
    have hl : (l.take k).length - 1 = k - 1 := by rw [List.length_take]; omega
    by_cases h : l[k - 1] = 13
    · have h1 : List.isSuffixOf [13] (l.take k) = true := by
        rw [List.isSuffixOf_iff_suffix, e, h]
        exact List.suffix_append _ _
      rw [if_pos h1, if_pos ⟨by omega, by rw [List.getElem?_eq_getElem hlt, h]⟩]
      show (l.take k).take ((l.take k).length - 1) = _
      rw [hl, List.take_take]
      congr 1
      omega
    · have h1 : ¬ List.isSuffixOf [13] (l.take k) = true := by
        rw [List.isSuffixOf_iff_suffix, e]
        rintro ⟨t, ht⟩
        have h2 := List.append_inj_right' ht rfl
        simp at h2
        exact h h2.symm
      rw [if_neg h1, if_neg]
      rintro ⟨_, q⟩
      rw [List.getElem?_eq_getElem hlt] at q
      exact h (Option.some.inj q)
/-- What is ahead of a line's end, as the code cuts it. -/
theorem cut_aL (l : List UInt8) : (if lnN l < l.length then Lib.trimSuffix (l.take (lnN l)) [13] else l) = aL l := by
  unfold aL eN
  by_cases h : lnN l < l.length
  · rw [if_pos h, suf13 _ _ (by omega)]
    by_cases h2 : 0 < lnN l ∧ l[lnN l - 1]? = some 13
    · rw [if_pos h2, if_pos ⟨h, h2⟩]
    · rw [if_neg h2, if_neg (fun q => h2 q.2)]
  · rw [if_neg h, if_neg (fun q => h q.1), List.take_of_length_le (by omega)]
/-- Where a part ends. -/
def eE (l : List UInt8) (e : Int) : Nat := (max 0 (min e (eN l : Int))).toNat
theorem eE_le (l : List UInt8) (e : Int) : eE l e ≤ eN l := by unfold eE; omega
theorem eE_len (l : List UInt8) (e : Int) : eE l e ≤ l.length := Nat.le_trans (eE_le l e) (eN_len l)
theorem eE_int (l : List UInt8) (e : Int) : ((eE l e : Nat) : Int) = max 0 (min e (eN l)) := by unfold eE; omega
/-- What a part is read of. -/
def pE (l : List UInt8) (e : Int) : List UInt8 := l.take (eE l e)
theorem pE_len (l : List UInt8) (e : Int) : (pE l e).length = eE l e := by unfold pE; rw [List.length_take]; have := eE_len l e; omega
theorem pE_nlf (l : List UInt8) (e : Int) : 10 ∉ pE l e := by
  have : pE l e = (aL l).take (eE l e) := by unfold pE aL; rw [List.take_take]; congr 1; have := eE_le l e; omega
  rw [this]
  exact take_nlf (aL_nlf l) _
theorem minI (a b : Int) : minD (.int .i64 a) (.int .i64 b) = some (.int .i64 (min a b)) := by
  unfold minD
  simp only [if_true]
  congr 2
  split <;> omega
theorem maxI (a b : Int) : maxD (.int .i64 a) (.int .i64 b) = some (.int .i64 (max a b)) := by
  unfold maxD
  simp only [if_true]
  congr 2
  split <;> omega
section
variable {h : H}
theorem End_sp (l : List UInt8) (hl : l.length < 2 ^ 31) (h1 : h.one = []) : CallW E0 X0 (.fn 16) [str l] h (fun v h' => v = .int .i64 (eN l : Nat) ∧ h' = h) := by
  refine CallW.body efn16 rfl rfl rfl [] (by kernel_rfl) ?_
  simp [Tryz.f16, h1]
  refine wpd_loop (fun (i : Nat) fr h' => fr.get 3 = some (.int .i64 i) ∧ h' = h ∧ i ≤ lnN l) (fun i => l.length - i) 0 ⟨by simp, rfl, Nat.zero_le _⟩ ?_
  rintro i fr h2 ⟨g3, rfl, hi⟩ hf
  have g0 := hf 0 rfl
  simp at g0
  have hle := lnN_le l
  by_cases hc : i < l.length
  · have hb : l[i]? = some (bt l i) := by unfold bt; rw [List.getD_eq_getElem?_getD, List.getElem?_eq_getElem hc]; rfl
    by_cases c : bt l i = 10
    · have hN : lnN l = i := tw_stop hi hb (by simp [c])
      have c' : ((bt l i).toNat : Int) = 10 := by rw [c]; rfl
      by_cases z : i = 0
      · subst z
        have c0 : bt l 0 = 10 := c
        have hx : idxB l 0 = some (.int .u8 (bt l 0).toNat) := idxB_nat (k := 0) hc
        simp [g0, g3, h1, hc, hx, c0]
        unfold eN; rw [if_neg (by omega)]; omega
      · have hp : i - 1 < l.length := by omega
        have hb1 : l[i - 1]? = some (bt l (i - 1)) := by unfold bt; rw [List.getD_eq_getElem?_getD, List.getElem?_eq_getElem hp]; rfl
        have z' : 0 < i := by omega
        have hw : IntKind.i64.wrap ((i : Int) - 1) = ((i - 1 : Nat) : Int) := wrap_pred z' (by omega)
        simp [g0, g3, h1, hc, idxB_nat hc, c, z', hw, idxB_nat hp]
        by_cases d : bt l (i - 1) = 13
        · simp [d, h1, g0, g3, hw]
          unfold eN; rw [if_pos ⟨by omega, by omega, by rw [hN, hb1, d]⟩, hN]
        · have d' : ¬ ((bt l (i - 1)).toNat = 13) := fun q => d (UInt8.toNat_inj.1 q)
          simp [d', h1, g0, g3]
          unfold eN; rw [if_neg (by rintro ⟨_, _, q⟩; rw [hN, hb1] at q; exact d (Option.some.inj q)), hN]
    · have c' : ¬ ((bt l i).toNat = 10) := fun q => c (UInt8.toNat_inj.1 q)
      simp [g0, g3, h1, hc, idxB_nat hc, c', wrap_succ (show i < 9223372036854775807 by omega)]
      exact ⟨i + 1, by omega, by omega, tw_succ hi hb (by simpa using c)⟩
  · have : lnN l = l.length := by omega
    simp [g0, g3, h1, hc]
    unfold eN; rw [if_neg (by omega)]; omega
end
end Go.Dm
