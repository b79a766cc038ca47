/- What is mentioned: the program's function; texts that are compared. -/
import Derived.Test.YthclahlplcfdpaaGreatDoorMdVa
import Derived.Test.YthclahlplcfdpaaGreatDoorMdN
set_option linter.unusedVariables false
set_option linter.unusedSimpArgs false
namespace Go.Dm
open Go.Proofs
section
variable {h : H}
set_option maxHeartbeats 4000000 in
theorem texts_sp (l m : List (List UInt8)) (v w : Value) (hl : l.length < 2 ^ 31) (hr : RdS h v l) (hs : RdS h w m) (h1 : h.one = []) :
    CallW E0 X0 (.fn 15) [v, w] h (fun r h' => r = .bool (decide (l = m)) ∧ h' = h) := by
  refine CallW.body efn15 rfl rfl rfl [] (by kernel_rfl) ?_
  obtain ⟨a, c, rfl⟩ := hr.sl
  obtain ⟨a', c', rfl⟩ := hs.sl
  by_cases hn : l.length = m.length
  rotate_left
  · have hn' : ¬ (l.length : Int) = m.length := by omega
    have hne : l ≠ m := fun q => hn (q ▸ rfl)
    simp [Tryz.f15, h1, hn, hn', hne]
  have hr5 := fun (i : Nat) hi => hr.at (i := i) hi
  simp [-wpd_seq, Tryz.f15, h1]
  iterate ((repeat rw [wpd_seq]); simp [-wpd_seq, h1, hn])
  refine wpd_loop (fun (i : Nat) fr h' => fr.get 5 = some (.int .i64 i) ∧ i ≤ m.length ∧ h' = h ∧ l.take i = m.take i) (fun i => m.length - i) 0 ⟨by simp, Nat.zero_le _, rfl, rfl⟩ ?_
  rintro i fr h' ⟨g5, hi, rfl, hq⟩ hf
  have g0 := hf 0 rfl
  have g1 := hf 1 rfl
  simp at g0 g1
  clear hf
  by_cases ci' : i < m.length
  · have ci : i < l.length := by omega
    obtain ⟨gb, cap, cs, b1, b2, b3, b4, e1, b5, b6, b7⟩ := hr5 i ci
    cases e1
    obtain ⟨gb', cap', cs', b1', b2', b3', b4', e1, b5', b6', b7'⟩ := hs.at ci'
    cases e1
    have hw : IntKind.i64.wrap ((i : Int) + 1) = (i : Int) + 1 := wrap_succ (by omega)
    by_cases hx : l[i] = m[i]
    · simp [h1, g0, g1, g5, ci, ci', b5, b6, b5', b6', hw, hx]
      refine ⟨i + 1, by omega, by omega, by omega, ?_⟩
      rw [List.take_succ_eq_append_getElem ci, List.take_succ_eq_append_getElem ci', hq, hx]
    · have hne : l ≠ m := fun e => hx (by subst e; rfl)
      simp [h1, g0, g1, g5, ci, ci', b5, b6, b5', b6', hw, hne, hx]
  · have e : l = m := by
      have hm : i = m.length := by omega
      rw [hm, List.take_length, ← hn, List.take_length] at hq
      exact hq
    simp [h1, g0, g1, g5, ci', e, hn]
theorem Sort_sp (B : Nat) (v : Value) (ss : List (List UInt8)) (hl : ss.length < 2 ^ 31) (h1 : h.one = []) (s : SlG none 1 B h v (ss.map str) ss.length) :
    CallW E0 X0 (.fn 42) [v] h (fun r h' => r = .tuple #[] ∧ SlG none 1 B h' v ((srtS ss).map str) (srtS ss).length ∧ Fr B h h') := by
  have hsl := srtS_len ss
  rcases s with ⟨e0, rfl, _⟩ | ⟨e0, e1, g, a2, a3, rfl, a5⟩
  · obtain rfl := List.eq_nil_of_length_eq_zero e0
    refine CallW.plug (v := .tuple #[]) (h' := h) (by simp [X0, sortP]) ⟨rfl, ?_, Fr.refl h1⟩
    rw [show srtS [] = [] from List.mergeSort_nil]
    exact SlG.nil _ _ _ _
  · have hl0 : ¬ ss.length = 0 := by omega
    have htk : List.take ss.length (ss.map str) = ss.map str := List.take_of_length_le (by simp)
    refine CallW.plug (v := .tuple #[]) (h' := h.put g (.cells (setAt (ss.map str) 0 ((srtS ss).map str)) 1 true 0 none)) (by simp [X0, sortP, hl0, a5, htk, strsD_map]; omega) ⟨rfl, .inr ⟨by omega, by simp, g, a2, a3, by rw [hsl], ?_⟩, (Fr.refl h1).put a2 _⟩
    rw [H.get_put, if_pos rfl, setAt_eq _ _ _ (by simp [hsl])]
    simp [hsl]
theorem Compact_sp (B : Nat) (v : Value) (zs : List (List UInt8)) (hl : zs.length < 2 ^ 31) (h1 : h.one = []) (s : SlG none 1 B h v (zs.map str) zs.length) :
    CallW E0 X0 (.fn 43) [v] h (fun r h' => RdS h' r (Lib.compact zs) ∧ Fr B h h') := by
  have hcl := cpt_len zs
  rcases s with ⟨e0, rfl, _⟩ | ⟨e0, e1, g, a2, a3, rfl, a5⟩
  · obtain rfl := List.eq_nil_of_length_eq_zero e0
    exact CallW.plug (v := .slice none 0 0) (h' := h) (by simp [X0, cptP]) ⟨.inl ⟨none, rfl, rfl⟩, Fr.refl h1⟩
  · have hl0 : ¬ zs.length = 0 := by omega
    have htk : List.take zs.length (zs.map str) = zs.map str := List.take_of_length_le (by simp)
    obtain ⟨c2, hc2⟩ : ∃ c2, c2 = setAt (zs.map str) 0 ((Lib.compact zs ++ List.replicate (zs.length - (Lib.compact zs).length) []).map str) := ⟨_, rfl⟩
    refine CallW.plug (v := .slice (some ⟨g, 0, none⟩) (Lib.compact zs).length zs.length) (h' := h.put g (.cells c2 1 true 0 none)) (by simp [X0, cptP, hl0, a5, htk, strsD_map]; refine ⟨by omega, ?_⟩; rw [hc2]; simp) ⟨.inr ⟨g, zs.length, c2, 1, true, 0, none, rfl, hcl, by simp, a3, ?_, .inr rfl⟩, (Fr.refl h1).put a2 _⟩
    rw [hc2, setAt_eq _ _ _ (by simp; omega), List.take_zero, List.nil_append, List.map_append, List.append_assoc]
    rw [show (Lib.compact zs).length = ((Lib.compact zs).map str).length by simp, List.take_left]
set_option maxRecDepth 100000 in
set_option maxHeartbeats 4000000 in
theorem Mentions_sp (l : List UInt8) (hl : l.length < 2 ^ 30) (from_ e : Int) (h1 : h.one = []) (g : GmH h) :
    CallW E0 X0 (.fn 19) [str l, .int .i64 from_, .int .i64 e] h (fun v h' => RdS h' v (mtL (pE l e) from_) ∧ Fr h.next h h') := by
  refine CallW.body efn19 rfl rfl rfl [] (by kernel_rfl) ?_
  simp [Tryz.f19, h1]
  refine (ahead0_sp l (by omega) e h1 g).mono ?_
  rintro _ h2 ⟨rfl, rfl⟩
  obtain ⟨s, hs⟩ : ∃ s, s = pE l e := ⟨_, rfl⟩
  have hn : 10 ∉ s := hs ▸ pE_nlf l e
  have hsl : s.length < 2 ^ 30 := by have := pE_len l e; have := eE_len l e; rw [hs]; omega
  rw [← hs]
  simp [h1]
  refine wpd_loop (fun (i : Nat) fr h' => fr.get 9 = some (.int .i64 (from_ + i)) ∧ (∃ v, fr.get 8 = some v ∧ SlG none 1 h2.next h' v ((mtO s from_.toNat i).map str) (mtO s from_.toNat i).length) ∧ Fr h2.next h2 h' ∧ (i = 0 ∨ (0 ≤ from_ ∧ from_ + i ≤ s.length))) (fun i => ((s.length : Int) - (from_ + i)).toNat) 0 ⟨by simp, ⟨_, by simp, SlG.nil _ _ _ _⟩, Fr.refl h1, .inl rfl⟩ ?_
  rintro i fr h3 ⟨g9, ⟨v, g8, hv⟩, hF3, hi⟩ hf
  have g7 := hf 7 rfl
  simp at g7
  clear hf
  have h31 := hF3.one
  by_cases c : 0 ≤ from_ + i ∧ from_ + i < s.length
  · obtain ⟨ca, cb⟩ := c
    obtain ⟨a, ha⟩ : ∃ a : Nat, from_ + i = a := ⟨(from_ + i).toNat, by omega⟩
    have ha0 : 0 ≤ from_ := by omega
    have ha2 : from_.toNat + i = a := by omega
    rw [ha] at g9 ca cb
    have cb' : a < s.length := by omega
    have hsucc := mtO_succ s from_.toNat i
    rw [ha2] at hsucc
    have hw : IntKind.i64.wrap ((a : Int) + 1) = (a : Int) + 1 := wrap_succ (by omega)
    simp [g7, g8, g9, h31, cb']
    refine (Read_sp s (by omega) hn a h31 (GmH.fr g hF3 g.2)).mono ?_
    rintro _ h4 ⟨rfl, hF4⟩
    have h41 := hF4.one
    have hF04 := hF3.trans (hF4.mono hF3.next)
    have hv4 : SlG none 1 h2.next h4 v ((mtO s from_.toNat i).map str) (mtO s from_.toNat i).length := hv.of_get hF4.next fun gg _ q => hF4.get gg q
    cases hrd : rdL (s.drop a) with
    | none =>
      rw [hrd] at hsucc
      simp only [List.append_nil] at hsucc
      simp [nOk, g7, g8, g9, h41, hw]
      refine ⟨i + 1, by omega, by omega, ?_, hF04, by omega⟩
      rw [hsucc]
      exact hv4
    | some n =>
      rw [hrd] at hsucc
      simp only at hsucc
      have hle := rdL_le hrd
      simp at hle
      have w2 : IntKind.i64.wrap ((a : Int) + n - 1) = (a : Int) + n - 1 := wrap_i64 (by omega) (by omega)
      have b1 : (a : Int) + 1 ≤ (a : Int) + n - 1 := by omega
      have b2 : (a : Int) + n - 1 ≤ s.length := by omega
      have b4 : ((a : Int) + n - 1).toNat = a + n - 1 := by omega
      have b5 : a + 1 ≤ a + n - 1 := by omega
      have b6 : a + n - 1 ≤ s.length := by omega
      have b7 : (1 : Int) ≤ (a : Int) + n := by omega
      have hlab : List.drop (a + 1) (List.take (a + n - 1) s) = (List.take (n - 1) (s.drop a)).drop 1 := by
        rw [List.take_drop, List.drop_drop]
        congr 2
        omega
      have hfl : CallW E0 X0 (.fn 41) [str (List.drop (a + 1) (List.take (a + n - 1) s))] h4 (fun v h' => v = str (lab (s.drop a) n) ∧ Fr h4.next h4 h' ∧ h'.next ≤ h4.next + 2) := by
        rw [hlab]
        exact Fold_sp _ (by simp; omega) h41
      simp [nOk, g7, g8, g9, h41, hw, w2, b1, b2, b4, b5, b6, b7]
      refine hfl.mono ?_
      rintro _ h5 ⟨rfl, hF5, _⟩
      have h51 := hF5.one
      have hv5 : SlG none 1 h2.next h5 v ((mtO s from_.toNat i).map str) (mtO s from_.toNat i).length := hv4.of_get hF5.next fun gg _ q => hF5.get gg q
      have hF05 := hF04.trans (hF5.mono hF04.next)
      obtain ⟨va, rfl⟩ := hv5.slice
      simp [h51, zerosD, List.range, List.range.loop]
      have hml := mtO_len s from_.toNat i
      refine (hv5.nw _).app (by simp) (by have := hF05.next; simp; omega) (by rfl) (by decide) (by rfl) (by omega) (by decide) (.inl rfl) ?_
      intro v' h6 q1 q2
      have hF06 := hF05.trans (((Fr.refl h51).nw hF05.next _).trans q2)
      simp [q2.one, g9, hw]
      refine ⟨i + 1, by omega, by omega, ?_, hF06, by omega⟩
      rw [hsucc, List.map_append, List.length_append]
      exact q1
  · have hmt : mtA s from_ = mtO s from_.toNat i := by
      unfold mtA
      split
      · rcases hi with rfl | hi
        · rfl
        · omega
      · congr 1
        omega
    have hml := mtO_len s from_.toNat i
    have hil : i ≤ s.length := by omega
    unfold mtL
    rw [hmt]
    generalize mtO s from_.toNat i = ss at hv hml
    have hsl2 := srtS_len ss
    by_cases c1 : 0 ≤ from_ + i
    · have c2 : ¬ (from_ + i < s.length) := fun q => c ⟨c1, q⟩
      simp [g7, g8, g9, h31, c1, c2]
      refine (Sort_sp h2.next v ss (by omega) h31 hv).mono ?_
      rintro _ h4 ⟨rfl, hv4, hF4⟩
      simp [hF4.one, g8]
      refine (Compact_sp h2.next v (srtS ss) (by omega) hF4.one hv4).mono ?_
      rintro r h5 ⟨hr, hF5⟩
      simp [hF5.one]
      exact ⟨hr, (hF3.trans hF4).trans hF5⟩
    · simp [g7, g8, g9, h31, c1]
      refine (Sort_sp h2.next v ss (by omega) h31 hv).mono ?_
      rintro _ h4 ⟨rfl, hv4, hF4⟩
      simp [hF4.one, g8]
      refine (Compact_sp h2.next v (srtS ss) (by omega) hF4.one hv4).mono ?_
      rintro r h5 ⟨hr, hF5⟩
      simp [hF5.one]
      exact ⟨hr, (hF3.trans hF4).trans hF5⟩
end
end Go.Dm
