/- A link that is laid. -/
import Derived.Test.YthclahlplcfdpaaGreatDoorMdXb
import Derived.Test.YthclahlplcfdpaaGreatDoorMdN
set_option linter.unusedVariables false
set_option linter.unusedSimpArgs false
namespace Go.Dm
open Go.Proofs
/-- A text's letters, and blanks between. -/
def wordL (s : List UInt8) : List UInt8 := (s.take 40).filter isW
theorem word_P (s : List UInt8) : ∀ c ∈ wordL s, isP c = true := fun c h => isW_P (List.mem_filter.1 h).2
theorem word_10 (s : List UInt8) : 10 ∉ wordL s := fun h => by
  have := (List.mem_filter.1 h).2
  exact absurd this (by decide)
theorem lnN_line {s : List UInt8} (h : 10 ∉ s) : lnN (s ++ [10]) = s.length := by
  unfold lnN
  rw [List.takeWhile_append_of_pos (fun c hc => by simp; rintro rfl; exact h hc)]
  simp
theorem lks_line {p : List UInt8} (h : 10 ∉ p) (hl : p.length ≤ 900) (ns : List (List UInt8)) : lksOf (p ++ [32, 121] ++ [10]) 0 1000 ns = lksL (fun x => decide (x ∈ ns)) true true (p ++ [32, 121]) 0 := by
  have h10 : 10 ∉ p ++ [32, 121] := by simp [h]
  have e1 := lnN_line h10
  have e2 : eN (p ++ [32, 121] ++ [10]) = (p ++ [32, 121]).length := by
    unfold eN
    rw [e1, if_neg]
    rintro ⟨_, _, q⟩
    rw [List.getElem?_append_left (by simp)] at q
    simp at q
  have e3 : eE (p ++ [32, 121] ++ [10]) 1000 = (p ++ [32, 121]).length := by
    unfold eE
    rw [e2]
    simp
    omega
  have e4 : pE (p ++ [32, 121] ++ [10]) 1000 = p ++ [32, 121] := by
    unfold pE
    rw [e3, List.take_left]
  unfold lksOf
  rw [e1, e2, e3, e4, decide_eq_true rfl, decide_eq_true (by simp)]
theorem src_lk {B : Nat} {h : H} {v : Value} {W : List Lk} (s : SlG none 5 B h v (encLs W) W.length) : srcD 5 v h = some (W.length, encLs W) := by
  rcases s with ⟨e, rfl, q⟩ | ⟨e, e2, g, a1, a2, rfl, a3⟩
  · rw [srcD_nil, e, q]
  · rw [srcD_some, if_neg (by omega), readD_eq, a3]
    simp [e2]
    exact List.take_of_length_le (by omega)
theorem app_lk {h : H} {v x : Value} {W : List Lk} (r : srcD 5 x h = some (W.length, encLs W)) : appendD E0 [27, 27] v x h = appS none 33 5 40 v W.length (encLs W) h := by
  rw [appendD_eq]
  simp [r, encLs_len]
theorem word_len (s : List UInt8) : (wordL s).length ≤ 40 := by
  have h1 := List.length_filter_le isW (s.take 40)
  simp at h1
  unfold wordL
  omega
theorem bt_of {l : List UInt8} {i : Nat} (h : i < l.length) : l[i] = bt l i := by
  have := bt_get h
  rw [List.getElem?_eq_getElem h] at this
  exact Option.some.inj this
theorem Row.of_slg {n B : Nat} {h : H} {v : Value} {cs : List Value} {len : Nat} (s : SlG none n B h v cs len) : Row n B h v cs len := by
  rcases s with ⟨e, rfl, rfl⟩ | ⟨e, e2, g, a1, a2, rfl, a3⟩
  · exact .inl ⟨rfl, rfl, e⟩
  · exact .inr ⟨g, len, cs, rfl, Nat.le_refl _, a1, a2, a3, e2, List.take_of_length_le (by omega)⟩
theorem want_app {B : Nat} {h : H} {x : Lk} {W : List Lk} {wv : Value} (s : SlG none 5 B h wv (encLs W) W.length) (hl : W.length ≤ 1) (h1 : h.one = []) (hB : B ≤ h.next) {K : VPost}
    (hK : ∀ v' h', SlG none 5 h.next h' v' (encLs (x :: W)) (x :: W).length → Fr h.next h h' → K v' h') : OptW (appendD E0 [27, 27] (.slice (some ⟨h.next, 0, none⟩) 1 1) wv (h.nw (.cells (encLk x) 5 true 0 none))) K := by
  have hF : Fr h.next h (h.nw (.cells (encLk x) 5 true 0 none)) := (Fr.refl h1).nw (Nat.le_refl _) _
  have s2 : SlG none 5 B (h.nw (.cells (encLk x) 5 true 0 none)) wv (encLs W) W.length := s.nw _
  have sx : SlG none 5 h.next (h.nw (.cells (encLk x) 5 true 0 none)) (.slice (some ⟨h.next, 0, none⟩) 1 1) (encLk x) 1 := .inr ⟨by decide, rfl, h.next, Nat.le_refl _, by simp, rfl, by simp⟩
  rw [app_lk (src_lk s2)]
  refine sx.app (by' := 40) hF.one hF.next (encLs_len W) (by decide) ?_ (by omega) (by decide) (.inl rfl) ?_
  · rw [List.all_eq_true]
    intro y hy
    unfold encLs at hy
    obtain ⟨z, _, hz⟩ := List.mem_flatMap.1 hy
    simp [encLk] at hz
    rcases hz with rfl | rfl | rfl | rfl | rfl <;> rfl
  intro v' h' q1 q2
  refine hK v' h' ?_ (hF.trans (q2.mono (Nat.le_refl _)))
  rw [show 1 + W.length = (x :: W).length by simp; omega] at q1
  exact q1
theorem SlG.low {ty : Option TypeId} {n B B' : Nat} {h : H} {v : Value} {cs : List Value} {len : Nat} (s : SlG ty n B h v cs len) (hB : B' ≤ B) : SlG ty n B' h v cs len := by
  rcases s with s | ⟨s1, s2, g, s3, s4, s5, s6⟩
  · exact .inl s
  · exact .inr ⟨s1, s2, g, by omega, s4, s5, s6⟩
section
variable {h : H}
set_option maxHeartbeats 4000000 in
theorem word_sp (l : List UInt8) (h1 : h.one = []) : CallW E0 X0 (.fn 17) [str l] h (fun v h' => v = str (wordL l) ∧ h' = h) := by
  refine CallW.body efn17 rfl rfl rfl [] (by kernel_rfl) ?_
  simp [Tryz.f17, h1]
  refine wpd_loop (fun (i : Nat) fr h' => fr.get 4 = some (.int .i64 i) ∧ i ≤ l.length ∧ i ≤ 40 ∧ fr.get 3 = some (str ((l.take i).filter isW)) ∧ h' = h) (fun i => l.length - i) 0 ⟨by simp, Nat.zero_le _, Nat.zero_le _, by simp, rfl⟩ ?_
  rintro i fr h' ⟨g4, hi, h40, g3, rfl⟩ hf
  have g0 := hf 0 rfl
  simp at g0
  clear hf
  by_cases ci : i < l.length
  · by_cases c40 : i < 40
    · have hw : IntKind.i64.wrap ((i : Int) + 1) = (i : Int) + 1 := wrap_succ (by omega)
      have hts : (l.take (i + 1)).filter isW = (l.take i).filter isW ++ (if isW (bt l i) = true then [bt l i] else []) := by
        rw [List.take_succ_eq_append_getElem ci, List.filter_append, bt_of ci]
        congr 1
        by_cases q : isW (bt l i) = true <;> simp [q]
      have hsl : List.drop i (List.take (i + 1) l) = [bt l i] := by
        have hti : (l.take i).length = i := by rw [List.length_take]; omega
        rw [List.take_succ_eq_append_getElem ci, List.drop_append, hti, List.drop_of_length_le (by omega), bt_of ci]
        simp
      have hfl := List.length_filter_le isW (l.take i)
      simp only [List.length_take] at hfl
      have finT : isW (bt l i) = true → i + 1 ≤ l.length ∧ (List.filter isW (List.take i l)).length ≤ 4611686018427387903 ∧ ∃ s', l.length - s' < l.length - i ∧ i + 1 = s' ∧ s' ≤ l.length ∧ s' ≤ 40 ∧ str (List.filter isW (List.take i l) ++ [bt l i]) = str (List.filter isW (List.take s' l)) := fun hW => by
        rw [if_pos hW] at hts
        exact ⟨by omega, by omega, i + 1, by omega, rfl, by omega, by omega, by rw [hts]⟩
      have finF : isW (bt l i) = false → ∃ s', l.length - s' < l.length - i ∧ i + 1 = s' ∧ s' ≤ l.length ∧ s' ≤ 40 ∧ str (List.filter isW (List.take i l)) = str (List.filter isW (List.take s' l)) := fun hW => by
        rw [if_neg (by rw [hW]; decide), List.append_nil] at hts
        exact ⟨i + 1, by omega, rfl, by omega, by omega, by rw [hts]⟩
      have hiff : isW (bt l i) = ((decide (97 ≤ (bt l i).toNat) && decide ((bt l i).toNat ≤ 122)) || decide ((bt l i).toNat = 32) || decide ((bt l i).toNat = 42) || decide (128 ≤ (bt l i).toNat)) := rfl
      clear hts
      by_cases q1 : 97 ≤ (bt l i).toNat <;> by_cases q2 : (bt l i).toNat ≤ 122 <;> by_cases q3 : (bt l i).toNat = 32 <;> by_cases q4 : (bt l i).toNat = 42 <;> by_cases q5 : 128 ≤ (bt l i).toNat
      all_goals first
        | (exfalso; omega)
        | (have hW : isW (bt l i) = true := by rw [hiff]; simp [q1, q2, q3, q4, q5]
           simp [h1, g0, g3, g4, ci, c40, idxB_nat ci, eq_true q1, q2, q3, q4, q5, hw, hsl]
           exact finT hW)
        | (have hW : isW (bt l i) = false := by rw [hiff]; simp [q1, q2, q3, q4, q5]
           simp [h1, g0, g3, g4, ci, c40, idxB_nat ci, q1, q2, q3, q4, q5, hw, hsl]
           exact finF hW)
        | skip
    · have hl : wordL l = (l.take i).filter isW := by unfold wordL; rw [show i = 40 by omega]
      simp [h1, g0, g3, g4, ci, c40, hl]
  · have hl : wordL l = (l.take i).filter isW := by
      unfold wordL
      rw [List.take_of_length_le (by omega), List.take_of_length_le (by omega)]
    simp [h1, g0, g3, g4, ci, hl]
set_option maxRecDepth 100000 in
set_option maxHeartbeats 8000000 in
theorem law_Laid (a t n : List UInt8) (how : Int) (hw : (Lit.int .u8 how).wf = true) (image known : Bool) (h1 : h.one = []) (g : GmH h) :
    CallW E0 X0 (.fn 6) [str a, str t, str n, .int .u8 how, .bool image, .bool known] h (fun v _ => v = .bool true) := by
  refine CallW.body efn6 rfl rfl rfl [] (by kernel_rfl) ?_
  obtain ⟨k, hk, rfl⟩ : ∃ k : Nat, k < 256 ∧ how = k := by
    simp only [Lit.wf, Bool.and_eq_true, decide_eq_true_eq] at hw
    have q1 : (0 : Int) ≤ how := hw.1
    have q2 : how ≤ 255 := hw.2
    exact ⟨how.toNat, by omega, by omega⟩
  simp [-wpd_seq, Tryz.f6, h1]
  iterate ((repeat rw [wpd_seq]); simp [-wpd_seq, h1, zerosD, List.range, List.range.loop])
  obtain ⟨h2, hh2⟩ : ∃ h2, h2 = h.nw (.cells [str [40, 41], str [40, 47, 117, 41], str [40, 32, 60, 117, 32, 118, 62, 32, 41], str [40, 117, 40, 118, 41, 119, 32, 39, 120, 32, 121, 39, 41], str [40, 92, 41, 41], str [40, 117, 32, 34, 92, 34, 34, 41]] 1 true 0 none) := ⟨_, rfl⟩
  rw [← hh2]
  have hF2 : Fr h.next h h2 := by rw [hh2]; exact (Fr.refl h1).nw (Nat.le_refl _) _
  have hg2 : h2.get h.next = some (.cells (gls.map str) 1 true 0 none) := by rw [hh2]; simp; rfl
  have hn2 : h2.next = h.next + 1 := by rw [hh2]; simp
  have h21 := hF2.one
  clear hh2
  refine (word_sp a h21).mono ?_
  rintro _ h3 ⟨rfl, rfl⟩
  iterate 1 ((repeat rw [wpd_seq]); simp [-wpd_seq, h21])
  refine (word_sp t h21).mono ?_
  rintro _ h4 ⟨rfl, rfl⟩
  iterate 1 ((repeat rw [wpd_seq]); simp [-wpd_seq, h21])
  refine (word_sp n h21).mono ?_
  rintro _ h5 ⟨rfl, rfl⟩
  have hA := word_P a
  have hT := word_P t
  have hA10 := word_10 a
  have hT10 := word_10 t
  have hN10 := word_10 n
  have hN := word_P n
  have hAl := word_len a
  have hTl := word_len t
  have hNl := word_len n
  generalize wordL a = A at hA hAl hA10
  generalize wordL t = T at hT hTl hT10
  generalize wordL n = N at hN hNl hN10
  obtain ⟨i1, hi1⟩ : ∃ i1 : Nat, i1 = k % 6 := ⟨_, rfl⟩
  obtain ⟨i2, hi2⟩ : ∃ i2 : Nat, i2 = k / 12 % 6 := ⟨_, rfl⟩
  have b1 : i1 < gls.length := by rw [hi1]; show _ < 6; omega
  have b2 : i2 < gls.length := by rw [hi2]; show _ < 6; omega
  have e1 : ((k : Int)).tmod 6 = (i1 : Int) := by rw [hi1]; rfl
  have e2 : (IntKind.u8.wrap ((k : Int) / 12)).tmod 6 = (i2 : Int) := by rw [wrap_u8 (by omega) (by omega), hi2]; rfl
  have e4 : (IntKind.u8.wrap ((k : Int) / 6)).tmod 2 = ((k / 6 % 2 : Nat) : Int) := by rw [wrap_u8 (by omega) (by omega)]; rfl
  have b1' : i1 < 6 := b1
  have b2' : i2 < 6 := b2
  obtain ⟨G1, hge1, hG1⟩ : ∃ G1, gls[i1]'b1 = G1 ∧ G1 ∈ gls := ⟨gls[i1], rfl, List.getElem_mem b1⟩
  obtain ⟨G2, hge2, hG2⟩ : ∃ G2, gls[i2]'b2 = G2 ∧ G2 ∈ gls := ⟨gls[i2], rfl, List.getElem_mem b2⟩
  have hgi1 : (gls.map str)[i1]? = some (str G1) := by rw [List.getElem?_map, List.getElem?_eq_getElem b1, hge1]; rfl
  have hgi2 : (gls.map str)[i2]? = some (str G2) := by rw [List.getElem?_map, List.getElem?_eq_getElem b2, hge2]; rfl
  have hgl : ∀ x ∈ gls, x.length ≤ 13 := by decide
  have hm1 := hgl _ hG1
  have hm2 := hgl _ hG2
  iterate ((repeat rw [wpd_seq]); simp [-wpd_seq, h21])
  refine ⟨by omega, by omega, ?_⟩
  have e45 : (IntKind.u8.wrap ((k : Int) / 6)).tmod 2 = 0 ∨ (IntKind.u8.wrap ((k : Int) / 6)).tmod 2 = 1 := by rw [e4]; omega
  clear e4
  have w1 : IntKind.i64.wrap ((A.length : Int) + ((T.length : Int) + 1) + 2) = (A.length : Int) + ((T.length : Int) + 1) + 2 := wrap_i64 (by omega) (by omega)
  have w2 : IntKind.i64.wrap ((A.length : Int) + ((T.length : Int) + 1) + 2 + (N.length : Int)) = (A.length : Int) + ((T.length : Int) + 1) + 2 + (N.length : Int) := wrap_i64 (by omega) (by omega)
  obtain ⟨im, him⟩ : ∃ im, im = image := ⟨_, rfl⟩
  obtain ⟨L3, hL3⟩ : ∃ L3, L3 = A ++ 91 :: (T ++ (if image then 33 :: 91 :: (N ++ 93 :: G1) else [])) := ⟨_, rfl⟩
  obtain ⟨W3, hW3⟩ : ∃ W3 : List Lk, W3 = if image then [⟨((A.length + 1 + T.length : Nat) : Int), ((A.length + 1 + T.length + 2 : Nat) : Int), ((A.length + 1 + T.length + 2 + N.length : Nat) : Int), ((A.length + 1 + T.length + 2 + N.length + 1 + G1.length : Nat) : Int), true⟩] else [] := ⟨_, rfl⟩
  have hL3l : L3.length = A.length + 1 + T.length + (if image then N.length + 3 + G1.length else 0) := by rw [hL3]; cases image <;> simp <;> omega
  have hL3b : L3.length ≤ 200 := by rw [hL3l]; split <;> omega
  have hg10 : ∀ x ∈ gls, 10 ∉ x := by decide
  have hL10 : 10 ∉ L3 := by
    rw [hL3]
    have := hg10 _ hG1
    cases image <;> simp [hA10, hT10, hN10, this]
  have fin : ∀ (X : List UInt8) (ns : List (List UInt8)), (X ∈ gls ∨ (X = lbl ∧ ([113, 32, 114] ∈ ns ∨ ns = []))) → lksOf (L3 ++ 32 :: 122 :: 93 :: (X ++ [32, 121, 10])) 0 1000 ns =
      (if X ∈ gls ∨ [113, 32, 114] ∈ ns then [⟨(A.length : Int), (A.length : Int) + 1, (L3.length : Int) + 2, (L3.length : Int) + ((X.length : Int) + 3), false⟩] else []) ++ W3 := by
    intro X ns hX
    have hXl : X.length ≤ 13 := by rcases hX with q | ⟨rfl, _⟩; exact hgl _ q; decide
    have hX10 : 10 ∉ X := by rcases hX with q | ⟨rfl, _⟩; exact hg10 _ q; decide
    have hp10 : 10 ∉ L3 ++ 32 :: 122 :: 93 :: X := by simp [hL10, hX10]
    have hll := lks_line hp10 (by simp; omega) ns
    have e1 : L3 ++ 32 :: 122 :: 93 :: X ++ [32, 121] ++ [10] = L3 ++ 32 :: 122 :: 93 :: (X ++ [32, 121, 10]) := by simp
    have e2 : L3 ++ 32 :: 122 :: 93 :: X ++ [32, 121] = laidS A T N G1 X image := by rw [hL3]; unfold laidS; simp
    have hlm : laidM A T N G1 image = L3.length + 2 := by rw [hL3l]; unfold laidM; rfl
    have hlk := laid_links (fun x => decide (x ∈ ns)) A T N G1 X image hA hT hN hG1 (by
      rcases hX with q | ⟨q1, q2 | q2⟩
      · exact .inl q
      · exact .inr ⟨q1, .inl (decide_eq_true q2)⟩
      · exact .inr ⟨q1, .inr fun x => by rw [q2]; simp⟩)
    rw [e1, e2, hlk, ← hW3, hlm] at hll
    rw [hll]
    congr 1
    have e3 : ((L3.length + 2 : Nat) : Int) = (L3.length : Int) + 2 := by omega
    have e4 : ((L3.length + 2 + 1 + X.length : Nat) : Int) = (L3.length : Int) + ((X.length : Int) + 3) := by omega
    have e5 : ((A.length + 1 : Nat) : Int) = (A.length : Int) + 1 := by omega
    rw [e3, e4, e5]
    simp only [decide_eq_true_eq]
  cases image
  case' true =>
    simp only [if_true] at hL3 hW3
    iterate 2 ((repeat rw [wpd_seq]); simp [-wpd_seq, -List.getElem?_map, h21, e1, hg2, hgi1, hge1, b1, b1', w1, w2, zerosD, List.range, List.range.loop])
    repeat (refine And.intro (by omega) ?_)
    rw [← hL3]
    obtain ⟨wv, hwv⟩ : ∃ wv, wv = Value.slice (some ⟨h5.next + 1, 0, none⟩) 1 1 := ⟨_, rfl⟩
    rw [← hwv]
    obtain ⟨c6, hc6⟩ : ∃ c6 : List Value, c6 = [.int .i64 ((A.length : Int) + ((T.length : Int) + 1)), .int .i64 ((A.length : Int) + ((T.length : Int) + 1) + 2), .int .i64 ((A.length : Int) + ((T.length : Int) + 1) + 2 + (N.length : Int)), .int .i64 ((A.length : Int) + ((T.length : Int) + ((N.length : Int) + ((G1.length : Int) + 1) + 2) + 1)), .bool true] := ⟨_, rfl⟩
    rw [← hc6]
    obtain ⟨h6, hh6⟩ : ∃ h6, h6 = (h5.nw (.cells c6 5 true 0 none)).nw (.cells c6 5 true 0 none) := ⟨_, rfl⟩
    rw [← hh6]
    have hF6 : Fr h5.next h5 h6 := by rw [hh6]; exact ((Fr.refl h21).nw (Nat.le_refl _) _).nw (by simp) _
    have hw6 : SlG none 5 h5.next h6 wv (encLs W3) W3.length := by
      have hec : c6 = encLs W3 := by
        rw [hc6, hW3]
        simp [encLs, encLk]
        omega
      rw [← hec]
      exact .inr ⟨by rw [hW3]; simp, by rw [hc6, hW3]; rfl, h5.next + 1, by omega, by rw [hh6]; simp, by rw [hwv, hW3]; rfl, by rw [hh6]; simp⟩
    clear hh6 hwv hc6
  case' false =>
    simp only [Bool.false_eq_true, if_false, List.append_nil] at hL3 hW3
    iterate 1 ((repeat rw [wpd_seq]); simp [-wpd_seq, -List.getElem?_map, h21])
    repeat (refine And.intro (by omega) ?_)
    rw [← hL3]
    obtain ⟨h6, hh6⟩ : ∃ h6, h6 = h5 := ⟨_, rfl⟩
    have hF6 : Fr h5.next h5 h6 := by rw [hh6]; exact Fr.refl h21
    have hw6 : SlG none 5 h5.next h6 (.slice none 0 0) (encLs W3) W3.length := by rw [hW3]; exact SlG.nil _ _ _ _
    rw [← hh6]
    clear hh6
  all_goals
    have h61 := hF6.one
    have hFh6 : Fr h.next h h6 := hF2.trans (hF6.mono hF2.next)
    have hg6 := (hF6.get h.next (by omega)).trans hg2
    have wA : IntKind.i64.wrap (A.length : Int) = (A.length : Int) := wrap_i64 (by omega) (by omega)
    have hW3l : W3.length ≤ 1 := by rw [hW3]; first | (simp; done) | exact Nat.zero_le _
    rcases e45 with e45 | e45
    case' inl =>
      iterate ((repeat rw [wpd_seq]); simp [-wpd_seq, -appendD_eq, -List.getElem?_map, h61, e2, e45, hg6, hgi2, hge2, b2, b2', wA, zerosD, List.range, List.range.loop])
      repeat (refine And.intro (by omega) ?_)
      refine want_app (x := ⟨(A.length : Int), (A.length : Int) + 1, (L3.length : Int) + 2, (L3.length : Int) + ((G2.length : Int) + 3), false⟩) hw6 hW3l h61 hF6.next ?_
      intro v7 h7 hw7 hF7
      have h71 := hF7.one
      cases known
    case' inr =>
      cases known
      case' true =>
        iterate ((repeat rw [wpd_seq]); simp [-wpd_seq, -appendD_eq, h61, e45, wA, zerosD, List.range, List.range.loop])
        repeat (refine And.intro (by omega) ?_)
        refine want_app (x := ⟨(A.length : Int), (A.length : Int) + 1, (L3.length : Int) + 2, (L3.length : Int) + 10, false⟩) hw6 hW3l h61 hF6.next ?_
        intro v7 h7 hw7 hF7
        have h71 := hF7.one
      case' false =>
        iterate ((repeat rw [wpd_seq]); simp [-wpd_seq, -appendD_eq, h61, e45])
        repeat (refine And.intro (by omega) ?_)
    case' inr.false =>
      have hfin := fin lbl [] (.inr ⟨rfl, .inr rfl⟩)
      rw [if_neg (by rintro (q | q); exact absurd q (by decide); cases q), List.nil_append] at hfin
      have hr : RdS h6 (.slice none 0 0) [] := .inl ⟨none, rfl, rfl⟩
      have hwF := Row.of_slg (hw6.low hF2.next)
      have hL := Lks_sp (L3 ++ 32 :: 122 :: 93 :: (lbl ++ [32, 121, 10])) (by simp [lbl]; omega) 0 1000 [] (by decide) _ hr h61 (GmH.fr g hFh6 g.2)
      rw [hfin] at hL
      have hFz : Fr h.next h h6 := hFh6
      have hWl : W3.length < 2 ^ 31 := by omega
      obtain ⟨W4, hW4⟩ : ∃ W4, W4 = W3 := ⟨_, rfl⟩
      rw [← hW4] at hwF hL hWl
      refine hL.mono ?_
    case' inr.true =>
      have hfin := fin lbl [[111, 116, 104, 101, 114], [113, 32, 114]] (.inr ⟨rfl, .inl (by simp)⟩)
      rw [if_pos (.inr (by simp))] at hfin
      iterate ((repeat rw [wpd_seq]); simp [-wpd_seq, h71, zerosD, List.range, List.range.loop])
      repeat (refine And.intro (by omega) ?_)
      have hFz : Fr h.next h (h7.nw (.cells [str [111, 116, 104, 101, 114], str [113, 32, 114]] 1 true 0 none)) := (hFh6.trans (hF7.mono hFh6.next)).nw (Nat.le_trans hFh6.next hF7.next) _
      have hr : RdS (h7.nw (.cells [str [111, 116, 104, 101, 114], str [113, 32, 114]] 1 true 0 none)) (.slice (some ⟨h7.next, 0, none⟩) 2 2) [[111, 116, 104, 101, 114], [113, 32, 114]] := .inr ⟨h7.next, 2, [str [111, 116, 104, 101, 114], str [113, 32, 114]], 1, true, 0, none, rfl, Nat.le_refl _, by simp, by simp, rfl, .inr rfl⟩
      have hL := Lks_sp (L3 ++ 32 :: 122 :: 93 :: (lbl ++ [32, 121, 10])) (by simp [lbl]; omega) 0 1000 _ (by decide) _ hr hFz.one (GmH.fr g hFz g.2)
      rw [hfin] at hL
      have hwF := Row.of_slg ((hw7.nw (.cells [str [111, 116, 104, 101, 114], str [113, 32, 114]] 1 true 0 none)).low hFh6.next)
      obtain ⟨W4, hW4⟩ : ∃ W4, W4 = [(⟨(A.length : Int), (A.length : Int) + 1, (L3.length : Int) + 2, (L3.length : Int) + ((lbl.length : Int) + 3), false⟩ : Lk)] ++ W3 := ⟨_, rfl⟩
      have hWl : W4.length < 2 ^ 31 := by rw [hW4]; simp; omega
      rw [← hW4] at hL
      have hwF : Row 5 h.next (h7.nw (.cells [str [111, 116, 104, 101, 114], str [113, 32, 114]] 1 true 0 none)) v7 (encLs W4) W4.length := by rw [hW4]; exact hwF
      refine hL.mono ?_
    case' inl.false =>
      have hfin := fin G2 [] (.inl hG2)
      rw [if_pos (.inl hG2)] at hfin
      iterate ((repeat rw [wpd_seq]); simp [-wpd_seq, h71, zerosD, List.range, List.range.loop])
      repeat (refine And.intro (by omega) ?_)
      have hFz : Fr h.next h h7 := hFh6.trans (hF7.mono hFh6.next)
      have hr : RdS h7 (.slice none 0 0) [] := .inl ⟨none, rfl, rfl⟩
      have hL := Lks_sp (L3 ++ 32 :: 122 :: 93 :: (G2 ++ [32, 121, 10])) (by simp; omega) 0 1000 _ (by decide) _ hr hFz.one (GmH.fr g hFz g.2)
      rw [hfin] at hL
      obtain ⟨W4, hW4⟩ : ∃ W4, W4 = [(⟨(A.length : Int), (A.length : Int) + 1, (L3.length : Int) + 2, (L3.length : Int) + ((G2.length : Int) + 3), false⟩ : Lk)] ++ W3 := ⟨_, rfl⟩
      have hWl : W4.length < 2 ^ 31 := by rw [hW4]; simp; omega
      rw [← hW4] at hL
      have hwF : Row 5 h.next h7 v7 (encLs W4) W4.length := by rw [hW4]; exact Row.of_slg (hw7.low hFh6.next)
      refine hL.mono ?_
    case' inl.true =>
      have hfin := fin G2 [[111, 116, 104, 101, 114], [113, 32, 114]] (.inl hG2)
      rw [if_pos (.inl hG2)] at hfin
      iterate ((repeat rw [wpd_seq]); simp [-wpd_seq, h71, zerosD, List.range, List.range.loop])
      repeat (refine And.intro (by omega) ?_)
      have hFz : Fr h.next h (h7.nw (.cells [str [111, 116, 104, 101, 114], str [113, 32, 114]] 1 true 0 none)) := (hFh6.trans (hF7.mono hFh6.next)).nw (Nat.le_trans hFh6.next hF7.next) _
      have hr : RdS (h7.nw (.cells [str [111, 116, 104, 101, 114], str [113, 32, 114]] 1 true 0 none)) (.slice (some ⟨h7.next, 0, none⟩) 2 2) [[111, 116, 104, 101, 114], [113, 32, 114]] := .inr ⟨h7.next, 2, [str [111, 116, 104, 101, 114], str [113, 32, 114]], 1, true, 0, none, rfl, Nat.le_refl _, by simp, by simp, rfl, .inr rfl⟩
      have hL := Lks_sp (L3 ++ 32 :: 122 :: 93 :: (G2 ++ [32, 121, 10])) (by simp; omega) 0 1000 _ (by decide) _ hr hFz.one (GmH.fr g hFz g.2)
      rw [hfin] at hL
      obtain ⟨W4, hW4⟩ : ∃ W4, W4 = [(⟨(A.length : Int), (A.length : Int) + 1, (L3.length : Int) + 2, (L3.length : Int) + ((G2.length : Int) + 3), false⟩ : Lk)] ++ W3 := ⟨_, rfl⟩
      have hWl : W4.length < 2 ^ 31 := by rw [hW4]; simp; omega
      rw [← hW4] at hL
      have hwF : Row 5 h.next (h7.nw (.cells [str [111, 116, 104, 101, 114], str [113, 32, 114]] 1 true 0 none)) v7 (encLs W4) W4.length := by rw [hW4]; exact Row.of_slg ((hw7.nw (.cells [str [111, 116, 104, 101, 114], str [113, 32, 114]] 1 true 0 none)).low hFh6.next)
      refine hL.mono ?_
    all_goals
      rintro va h9 ⟨hra, hF9⟩
      have hwF9 := hwF.of_get hF9.next fun gg x y q => hF9.get gg (hwF.rng gg x y q).2
      have hF09 := hFz.trans (hF9.mono hFz.next)
      simp [hF9.one]
      refine (links_sp W4 W4 va _ hWl hra hwF9 hF9.one).mono ?_
      rintro _ h10 ⟨rfl, rfl⟩
      rw [decide_eq_true rfl]
      simp [hF9.one]
      refine (reads_sp hF9.one (GmH.fr g hF09 g.2)).mono ?_
      rintro _ h11 ⟨rfl, hF11⟩
      simp [hF11.one]
end
end Go.Dm
