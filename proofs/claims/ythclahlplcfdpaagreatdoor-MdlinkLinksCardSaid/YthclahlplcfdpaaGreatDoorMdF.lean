/- A label, folded: the two functions. -/
import Derived.Test.YthclahlplcfdpaaGreatDoorMdI
set_option linter.unusedVariables false
set_option linter.unusedSimpArgs false
namespace Go.Dm
open Go.Proofs
def u8s (l : List UInt8) : List Value := l.map fun b => .int .u8 b.toNat
theorem u8s_length (l : List UInt8) : (u8s l).length = l.length := by simp [u8s]
theorem u8s_app (l m : List UInt8) : u8s l ++ u8s m = u8s (l ++ m) := by simp [u8s]
theorem u8s_snoc (l : List UInt8) (b : UInt8) : u8s l ++ [.int .u8 b.toNat] = u8s (l ++ [b]) := by simp [u8s]
theorem strsD_map : ∀ zs : List (List UInt8), strsD (zs.map str) = some zs
  | [] => rfl
  | z :: zs => by
    have := strsD_map zs
    show (strsD (zs.map str)).map _ = _
    rw [this]; rfl
theorem GmH.fr {h h' : H} (g : GmH h) {B : Nat} (f : Fr B h h') (hB : G0 ≤ B) : GmH h' := g.of f.next fun b hb => f.get b (by omega)
/-- The first i bytes are small. -/
def lowT (w : List UInt8) (i : Nat) : List UInt8 := (w.take i).map lowB ++ w.drop i
theorem lowT_zero (w : List UInt8) : lowT w 0 = w := by simp [lowT]
theorem lowT_len (w : List UInt8) (i : Nat) : (lowT w i).length = w.length := by simp [lowT]; omega
theorem lowT_all (w : List UInt8) {i : Nat} (h : w.length ≤ i) : lowT w i = w.map lowB := by simp [lowT, List.take_of_length_le h, List.drop_eq_nil_of_le h]
theorem lowT_bt (w : List UInt8) {i : Nat} (h : i < w.length) : (u8s (lowT w i))[i]? = some (.int .u8 (bt w i).toNat) := by
  unfold u8s lowT
  rw [List.getElem?_map, List.getElem?_append_right (by simp; omega), show i - ((w.take i).map lowB).length = 0 by simp; omega, drop_bt h]
  rfl
theorem lowT_succ (w : List UInt8) {i : Nat} (h : i < w.length) : u8s (lowT w (i + 1)) = (u8s (lowT w i)).set i (.int .u8 (lowB (bt w i)).toNat) := by
  unfold u8s lowT
  rw [drop_bt h, List.take_succ_eq_append_getElem h]
  have e : w[i] = bt w i := by unfold bt; rw [List.getD_eq_getElem?_getD, List.getElem?_eq_getElem h]; rfl
  rw [e]
  simp only [List.map_append, List.map_cons, List.map_nil, List.append_assoc, List.singleton_append]
  rw [List.set_append_right _ _ (by simp; omega)]
  congr 1
  rw [show i - (((w.take i).map lowB).map fun b => Value.int .u8 b.toNat).length = 0 by simp; omega]
  rfl
theorem lowT_same (w : List UInt8) {i : Nat} (h : i < w.length) (hb : lowB (bt w i) = bt w i) : lowT w (i + 1) = lowT w i := by
  unfold lowT
  rw [drop_bt h, List.take_succ_eq_append_getElem h]
  have e : w[i] = bt w i := by unfold bt; rw [List.getD_eq_getElem?_getD, List.getElem?_eq_getElem h]; rfl
  rw [e]
  simp [hb]
theorem join_cnt : ∀ (xs : List (List UInt8)), xs.length ≤ (Lib.join xs [32]).length + 1
  | [] => by simp
  | x :: xs => by
    have h : ∀ ys : List (List UInt8), ys.length ≤ (Lib.joinTail [32] ys).length := by
      intro ys
      induction ys with
      | nil => simp
      | cons y ys ih =>
        have e : Lib.joinTail [32] (y :: ys) = [32] ++ y ++ Lib.joinTail [32] ys := rfl
        rw [e]
        simp
        omega
    rw [Lib.join_cons]
    have := h xs
    simp
    omega
section
variable {h : H}
theorem FieldsFunc_sp (l : List UInt8) (hl : l.length < 2 ^ 31) (h1 : h.one = []) : CallW E0 X0 (.fn 82) [str l, .func (.func 83) #[] #[]] h (fun v h' => v = .slice (some ⟨h.next, 0, none⟩) (wordsL l).length (wordsL l).length ∧ h' = h.nw (.cells ((wordsL l).map str) 1 true 0 none)) := by
  have e1 : (Lib.goFieldsP isBl ⟨l.toArray⟩).map Value.string = (wordsL l).map str := by
    unfold wordsL
    rw [List.map_map]
    exact List.map_congr_left fun x _ => rfl
  have e2 : (Lib.goFieldsP isBl ⟨l.toArray⟩).length = (wordsL l).length := by unfold wordsL; simp
  refine CallW.plug (v := .slice (some ⟨h.next, 0, none⟩) (wordsL l).length (wordsL l).length) (h' := h.nw (.cells ((wordsL l).map str) 1 true 0 none)) ?_ ⟨rfl, rfl⟩
  show fieP [str l, .func (.func 83) #[] #[]] h = _
  unfold fieP str
  simp only [size_str]
  rw [if_pos (by refine ⟨?_, ?_, ?_, ?_⟩ <;> first | trivial | rfl | omega), e1, e2, addr_one h h1, new_one _ _ h1]
  rfl
theorem Join_sp (zs : List (List UInt8)) (p : List UInt8) (hn : zs.length < 2 ^ 32) (hj : (Lib.join zs p).length < 2 ^ 31) (b c : Nat) {ow : Bool} {fz : Nat} {ty : Option TypeId} (hb : h.get b = some (.cells (zs.map str) 1 ow fz ty)) : CallW E0 X0 (.fn 84) [.slice (some ⟨b, 0, none⟩) zs.length c, str p] h (fun v h' => v = str (Lib.join zs p) ∧ h' = h) := by
  refine CallW.plug (v := str (Lib.join zs p)) (h' := h) ?_ ⟨rfl, rfl⟩
  show joiP [.slice (some ⟨b, 0, none⟩) zs.length c, str p] h = _
  have e0 : (((zs.map str).drop 0).take zs.length) = zs.map str := by rw [List.drop_zero]; exact List.take_of_length_le (by simp)
  unfold joiP
  unfold str at hb e0 ⊢
  simp only [dat_str]
  by_cases h0 : zs.length = 0
  · rw [if_pos h0]
    have : zs = [] := List.length_eq_zero_iff.1 h0
    subst this
    rfl
  · rw [if_neg h0]
    simp only [hb, e0]
    have := strsD_map zs
    unfold str at this
    simp only [this]
    rw [if_pos ⟨trivial, by omega, by omega⟩]
theorem Fold_sp (l : List UInt8) (hl : l.length < 2 ^ 31) (h1 : h.one = []) : CallW E0 X0 (.fn 41) [str l] h (fun v h' => v = str (foldL l) ∧ Fr h.next h h' ∧ h'.next ≤ h.next + 2) := by
  refine CallW.body efn41 rfl rfl rfl [] (by kernel_rfl) ?_
  simp [Tryz.f41, h1]
  refine (FieldsFunc_sp l hl h1).mono ?_
  rintro _ h2 ⟨rfl, rfl⟩
  obtain ⟨zs, hzs⟩ : ∃ zs, zs = wordsL l := ⟨_, rfl⟩
  have hW := words_fold l
  have hWl := words_len l
  have hc := join_cnt zs
  rw [← hzs] at hW hWl ⊢
  simp
  refine (Join_sp zs [32] (by omega) (by omega) h.next zs.length (by simp; exact ⟨rfl, rfl, rfl⟩)).mono ?_
  rintro _ h3 ⟨rfl, rfl⟩
  obtain ⟨W, hWd⟩ : ∃ W, W = Lib.join zs [32] := ⟨_, rfl⟩
  rw [← hWd] at hW hWl hc ⊢
  simp [und5, show W.length ≤ 35184372088832 by omega]
  refine wpd_loop (fun (i : Nat) fr h' => fr.get 14 = some (.int .i64 i) ∧ i ≤ W.length ∧ h'.one = [] ∧ h'.next = h.next + 2 ∧ h'.get (h.next + 1) = some (.cells (u8s (lowT W i)) 1 true 0 none) ∧ Fr h.next h h') (fun i => W.length - i) 0 ⟨by simp, Nat.zero_le _, by simp, by simp, by simp [lowT_zero, u8s], ((Fr.refl h1).nw (Nat.le_refl _) _).nw (by simp) _⟩ ?_
  rintro i fr h4 ⟨g14, hi, h41, h4n, h4g, h4f⟩ hf
  have g4 := hf 4 rfl
  have g12 := hf 12 rfl
  have g13 := hf 13 rfl
  simp at g4 g12 g13
  have hcl : (u8s (lowT W i)).length = W.length := by rw [u8s_length, lowT_len]
  by_cases ci : i < W.length
  · have hb0 := lowT_bt W ci
    have hb : (u8s (lowT W i))[i]'(by omega) = .int .u8 (bt W i).toNat := by rw [List.getElem?_eq_getElem (by omega)] at hb0; exact Option.some.inj hb0
    have hw : IntKind.i64.wrap ((i : Int) + 1) = (i : Int) + 1 := wrap_succ (by omega)
    by_cases U : 65 ≤ (bt W i).toNat ∧ (bt W i).toNat ≤ 90
    · obtain ⟨U1, U2⟩ := U
      have hlo : (lowB (bt W i)).toNat = (bt W i).toNat + 32 := by
        unfold lowB
        rw [if_pos ⟨U1, U2⟩, UInt8.toNat_add]
        have : (32 : UInt8).toNat = 32 := rfl
        omega
      have hwb : IntKind.u8.wrap (((bt W i).toNat : Int) + 32) = ((lowB (bt W i)).toNat : Int) := by rw [hlo]; rw [wrap_u8 (by omega) (by omega)]; omega
      simp [h41, g4, g12, g13, g14, ci, h4g, hb, hcl, U1, U2, hwb, hw]
      exact ⟨by omega, i + 1, by omega, rfl, by omega, h4n, (lowT_succ W ci).symm, h4f.put (by omega) _⟩
    · have hlo : lowB (bt W i) = bt W i := by unfold lowB; rw [if_neg U]
      have hnx : i + 1 ≤ W.length ∧ h4.next = h.next + 2 ∧ lowT W i = lowT W (i + 1) ∧ Fr h.next h h4 := ⟨by omega, h4n, (lowT_same W ci hlo).symm, h4f⟩
      by_cases U1 : 65 ≤ (bt W i).toNat
      · have U2 : ¬ (bt W i).toNat ≤ 90 := fun q => U ⟨U1, q⟩
        simp [h41, g4, g12, g13, g14, ci, h4g, hb, hcl, U1, U2, hw]
        exact ⟨i + 1, by omega, rfl, by omega, h4n, by rw [← hnx.2.2.1], h4f⟩
      · simp [h41, g4, g12, g13, g14, ci, h4g, hb, hcl, U1, hw]
        exact ⟨i + 1, by omega, rfl, by omega, h4n, by rw [← hnx.2.2.1], h4f⟩
  · have hiw : i = W.length := by omega
    subst hiw
    rw [lowT_all W (Nat.le_refl _)] at h4g
    rw [hW] at h4g
    have hFl : (foldL l).length = W.length := by rw [← hW, List.length_map]
    have hq : (u8s (foldL l)).length = W.length := by rw [u8s_length, hFl]
    have ht : List.take W.length (u8s (foldL l)) = u8s (foldL l) := List.take_of_length_le (by omega)
    have hbd : bytesD (u8s (foldL l)) = some (foldL l) := bytesD_map _
    have hn2 : h4.next ≤ h.next + 2 := by omega
    by_cases h0 : W = []
    · have hf0 : foldL l = [] := List.eq_nil_of_length_eq_zero (by rw [hFl, h0]; rfl)
      simp [h41, g4, g12, g13, g14, h4g, und5, eq_true h0, hf0, h4f, hn2]
    · simp [h41, g4, g12, g13, g14, h4g, und5, h0, hq, ht, hbd, h4f, hn2]
theorem fo_gap (g s : Bool) (c : UInt8) (r : List UInt8) (h : isB c = true) : fo g s (c :: r) = fo true s r := by rw [fo, if_pos h]
theorem fo_byte (g s : Bool) (c : UInt8) (r : List UInt8) (h : isB c = false) : fo g s (c :: r) = (if g && s then [32] else []) ++ lowB c :: fo false true r := by rw [fo, if_neg (by rw [h]; decide)]
theorem lowB_nat (c : UInt8) : (lowB c).toNat = if 65 ≤ c.toNat ∧ c.toNat ≤ 90 then c.toNat + 32 else c.toNat := by
  unfold lowB
  split
  · rename_i h
    rw [UInt8.toNat_add]
    have : (32 : UInt8).toNat = 32 := rfl
    omega
  · rfl
theorem Fold17_sp (l : List UInt8) (hl : l.length < 2 ^ 31) (h1 : h.one = []) : CallW E0 X0 (.fn 45) [str l] h (fun v h' => v = str (foldL l) ∧ Fr h.next h h') := by
  refine CallW.body efn45 rfl rfl rfl [] (by kernel_rfl) ?_
  simp [Tryz.f45, h1]
  refine wpd_loop (fun (s : Nat × List UInt8 × Bool) fr h' => fr.get 5 = some (.int .i64 s.1) ∧ fr.get 4 = some (.bool s.2.2) ∧ (∃ v, fr.get 3 = some v ∧ SlG (some 5) 1 h.next h' v (u8s s.2.1) s.2.1.length) ∧ s.1 ≤ l.length ∧ Fr h.next h h' ∧ foldL l = s.2.1 ++ fo s.2.2 (decide (s.2.1 ≠ [])) (l.drop s.1)) (fun s => l.length - s.1) (0, [], false) ⟨by simp, by simp, ⟨_, by simp, SlG.nil _ _ _ _⟩, Nat.zero_le _, Fr.refl h1, by simp [foldL]⟩ ?_
  rintro ⟨i, acc, gap⟩ fr h4 ⟨g5, g4, ⟨v, g3, hs⟩, hi, hF, hI⟩ hf
  have g0 := hf 0 rfl
  simp at g0
  simp only at g5 g4 g3 hs hi hI
  have h41 := hF.one
  obtain ⟨av, rfl⟩ := hs.slice
  have hal : acc.length ≤ l.length := by
    have := congrArg List.length hI
    rw [List.length_append] at this
    have := foldL_len l
    omega
  by_cases ci : i < l.length
  · have hw : IntKind.i64.wrap ((i : Int) + 1) = (i : Int) + 1 := wrap_succ (by omega)
    rw [drop_bt ci] at hI
    simp [g0, g3, g4, g5, h41, ci, idxB_nat ci]
    refine (Blank_sp (bt l i) h41).mono ?_
    rintro _ h5 ⟨rfl, rfl⟩
    cases hB : isB (bt l i) with
    | true =>
      rw [fo_gap _ _ _ _ hB] at hI
      simp [g0, g3, g4, g5, h41, hw]
      exact ⟨i + 1, by omega, rfl, acc, hs, by omega, hF, by rw [hI]; simp⟩
    | false =>
      rw [fo_byte _ _ _ _ hB] at hI
      have hlow := lowB_nat (bt l i)
      have fin : ∀ (v' : Value) (h6 : H) (acc' : List UInt8), SlG (some 5) 1 h.next h6 v' (u8s acc') acc'.length → Fr h.next h h6 → acc' ≠ [] → foldL l = acc' ++ fo false true (l.drop (i + 1)) →
          ∃ a, l.length - a < l.length - i ∧ i + 1 = a ∧ ∃ a_1, SlG (some 5) 1 h.next h6 v' (u8s a_1) a_1.length ∧ a ≤ l.length ∧ Fr h.next h h6 ∧ foldL l = a_1 ++ fo false (!decide (a_1 = [])) (List.drop a l) := by
        intro v' h6 acc' q1 q2 q3 q4
        exact ⟨i + 1, by omega, rfl, acc', q1, by omega, q2, by rw [q4]; simp [q3]⟩
      by_cases hu1 : 65 ≤ (bt l i).toNat <;> by_cases hu2 : (bt l i).toNat ≤ 90 <;> (try (exfalso; omega))
      all_goals
       obtain ⟨y, hy⟩ : ∃ y, lowB (bt l i) = y := ⟨_, rfl⟩
       have hwb : 65 ≤ (bt l i).toNat → (bt l i).toNat ≤ 90 → IntKind.u8.wrap (((bt l i).toNat : Int) + 32) = (y.toNat : Int) := by
         intro u1 u2
         rw [← hy, hlow, if_pos ⟨u1, u2⟩, wrap_u8 (by omega) (by omega)]
         omega
       have hyn : ¬ (65 ≤ (bt l i).toNat ∧ (bt l i).toNat ≤ 90) → (bt l i).toNat = y.toNat := by
         intro u
         rw [← hy, hlow, if_neg u]
       have hz : ¬ (65 ≤ (bt l i).toNat ∧ (bt l i).toNat ≤ 90) → bt l i = y := fun u => UInt8.toNat_inj.1 (hyn u)
       rw [hy] at hI
       by_cases hg : gap = true ∧ acc ≠ []
       · obtain ⟨rfl, ha⟩ := hg
         rw [decide_eq_true ha] at hI
         have ha' : 0 < acc.length := List.length_pos_iff.2 ha
         simp [g0, g3, g4, g5, h41, ha, ha', zerosD, List.range, List.range.loop]
         have hn5 := hF.next
         refine ((hs.nw _).app (by simp) (by simp; omega) (by rfl) (by decide) (by simp) (by omega) (by decide) (.inr rfl) ?_)
         rintro v6 h6 hs6 hF6
         have hF7 := hF.trans (((Fr.refl h41).nw (by omega) _).trans hF6)
         have hn7 := hF7.next
         have e32 : u8s acc ++ [.int .u8 32] = u8s (acc ++ [32]) := u8s_snoc acc 32
         rw [e32] at hs6
         obtain ⟨av6, rfl⟩ := hs6.slice
         simp [hF7.one, g0, g5, hu1, hu2, hwb, hyn, zerosD, List.range, List.range.loop]
         have hs6' : SlG (some 5) 1 h.next h6 (.slice av6 (acc.length + 1) (acc.length + 1)) (u8s (acc ++ [32])) (acc ++ [32]).length := by simpa using hs6
         simp at hs6'
         refine ((hs6'.nw _).app (by simp) (by simp; omega) (by rfl) (by decide) (by simp) (by omega) (by decide) (.inr rfl) ?_)
         rintro v8 h8 hs8 hF8
         have hF9 := hF7.trans (((Fr.refl hF7.one).nw (by omega) _).trans hF8)
         rw [u8s_snoc] at hs8
         simp [hF9.one, g5, hw]
         try rw [hz (by omega)] at hs8
         exact fin v8 h8 (acc ++ [32] ++ [y]) (by simpa using hs8) hF9 (by simp) (by rw [hI]; simp)
       · have hn : (gap && decide (acc ≠ [])) = false := by
           cases gap with
           | false => rfl
           | true =>
             by_cases ha : acc = []
             · simp [ha]
             · exact absurd ⟨rfl, ha⟩ hg
         rw [hn] at hI
         have hn5 := hF.next
         cases gap with
         | false =>
           simp [g0, g3, g4, g5, h41, hu1, hu2, hwb, hyn, zerosD, List.range, List.range.loop]
           refine ((hs.nw _).app (by simp) (by simp; omega) (by rfl) (by decide) (by simp) (by omega) (by decide) (.inr rfl) ?_)
           rintro v8 h8 hs8 hF8
           have hF9 := hF.trans (((Fr.refl h41).nw (by omega) _).trans hF8)
           rw [u8s_snoc] at hs8
           simp [hF9.one, g5, hw]
           try rw [hz (by omega)] at hs8
           exact fin v8 h8 (acc ++ [y]) (by simpa using hs8) hF9 (by simp) (by rw [hI]; simp)
         | true =>
           have ha : acc = [] := Classical.byContradiction fun q => hg ⟨rfl, q⟩
           have ha' : acc.length = 0 := by rw [ha]; rfl
           simp [g0, g3, g4, g5, h41, eq_true ha, ha', hu1, hu2, hwb, hyn, zerosD, List.range, List.range.loop]
           rw [ha'] at hs
           refine ((hs.nw _).app (by simp) (by simp; omega) (by rfl) (by decide) (by simp) (by omega) (by decide) (.inr rfl) ?_)
           rintro v8 h8 hs8 hF8
           have hF9 := hF.trans (((Fr.refl h41).nw (by omega) _).trans hF8)
           rw [u8s_snoc] at hs8
           simp [hF9.one, g5, hw]
           try rw [hz (by omega)] at hs8
           exact fin v8 h8 (acc ++ [y]) (by simpa [ha'] using hs8) hF9 (by simp) (by rw [hI]; simp)
  · rw [List.drop_eq_nil_of_le (by omega)] at hI
    simp only [fo, List.append_nil] at hI
    have hst := hs.str und5
    simp [g0, g3, g4, g5, h41, ci, hst, hI, hF]
end
end Go.Dm
