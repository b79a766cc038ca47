/- What a text's end tells; two lists of events. -/
import Derived.Test.YtdgclgfhcgdehaaDoorSdC
set_option linter.unusedVariables false
set_option linter.unusedSimpArgs false
namespace Go.Dm
open Go.Proofs
def encEs (l : List ShE) : List Value := l.flatMap encE
theorem encEs_len (l : List ShE) : (encEs l).length = l.length * 4 := flat_len encE (fun _ => rfl) l
theorem encEs_mid (l : List ShE) {i : Nat} (hi : i < l.length) : ((encEs l).drop (i * 4)).take 4 = encE l[i] := flat_mid encE (fun _ => rfl) l hi
theorem encEs_snoc (l : List ShE) (e : ShE) : encEs l ++ encE e = encEs (l ++ [e]) := by simp [encEs]
theorem encEs_cells (l : List ShE) : (encEs l).all cellV = true := by simp [encEs, encE, List.all_flatMap]
theorem take_ev {la lb : List ShE} {k : Nat} (h1 : k < la.length) (h2 : k < lb.length) (he : la.take k = lb.take k) : (la.take (k + 1) = lb.take (k + 1)) = (la[k] = lb[k]) := by
  rw [List.take_succ_eq_append_getElem h1, List.take_succ_eq_append_getElem h2, he, List.append_right_inj]
  simp
set_option maxRecDepth 100000 in
set_option maxHeartbeats 4000000 in
theorem sameE_sp (la lb : List ShE) (B B' : Nat) (sa sb : Value) (hl : la.length < 2 ^ 40) (h : H) (h1 : h.one = []) (ha : SlG none 4 B h sa (encEs la) la.length) (hb : SlG none 4 B' h sb (encEs lb) lb.length) :
    CallW E0 X0 (.fn 12) [sa, sb] h (fun v h' => v = .bool (decide (la = lb)) ∧ h' = h) := by
  refine CallW.body efn12 rfl rfl rfl [] (by kernel_rfl) ?_
  obtain ⟨a, rfl⟩ := ha.slice
  obtain ⟨b, rfl⟩ := hb.slice
  by_cases hn : la.length = lb.length
  · have hnI : (la.length : Int) = lb.length := by omega
    simp [Tryd.f12, h1, hn, hnI]
    refine wpd_loop (fun (k : Nat) fr h' => k ≤ la.length ∧ fr.get 5 = some (.int .i64 k) ∧ h' = h ∧ la.take k = lb.take k) (fun k => la.length - k) 0 ⟨by omega, by simp, rfl, by simp⟩ ?_
    rintro k fr h3 ⟨hk, hi, rfl, he⟩ hf
    have g0 := hf 0 rfl
    have g1 := hf 1 rfl
    simp at g0 g1
    by_cases hkl : k < lb.length
    · have hka : k < la.length := by omega
      rcases ha with ⟨e, _⟩ | ⟨_, _, ga, _, _, ea, hga⟩
      · omega
      rcases hb with ⟨e, _⟩ | ⟨_, _, gb, _, _, eb, hgb⟩
      · omega
      cases ea
      cases eb
      have q1 := encEs_mid la hka
      have q2 := encEs_mid lb hkl
      have l1 := encEs_len la
      have l2 := encEs_len lb
      have b1 : k * 4 + 4 ≤ (encEs la).length := by omega
      have b2 : k * 4 + 4 ≤ (encEs lb).length := by omega
      have hw1 := wrap_succ (show k < 9223372036854775807 by omega)
      by_cases hq : la[k] = lb[k]
      · simp [h1, hi, g0, g1, hkl, hka, hga, hgb, b1, b2, q1, q2, -eqD_succ, eq_ev, hq, hw1, hn]
        exact ⟨k + 1, by omega, by omega, by simp, by rw [take_ev hka hkl he]; exact hq⟩
      · have hne : la ≠ lb := by rintro rfl; exact hq rfl
        simp [h1, hi, g0, g1, hkl, hka, hga, hgb, b1, b2, q1, q2, -eqD_succ, eq_ev, hq, hn, hne]
    · have hab : la = lb := by
        rw [List.take_of_length_le (by omega), List.take_of_length_le (by omega)] at he
        exact he
      simp [h1, hi, g0, hkl, hab]
  · have hnI : ¬ ((la.length : Int) = lb.length) := by omega
    have hne : ¬ (la = lb) := fun e => hn (by rw [e])
    simp [Tryd.f12, h1, hn, hnI, hne]
theorem zerE : zerosD [.int .u8 0, .int .u8 0, .int .i64 0, .int .i64 0] 4 = [.int .u8 0, .int .u8 0, .int .i64 0, .int .i64 0] := rfl
theorem zerE8 : zerosD [.int .u8 0, .int .u8 0, .int .i64 0, .int .i64 0] 8 = [.int .u8 0, .int .u8 0, .int .i64 0, .int .i64 0, .int .u8 0, .int .u8 0, .int .i64 0, .int .i64 0] := rfl
set_option maxRecDepth 100000 in
set_option maxHeartbeats 4000000 in
theorem leaf_sp (k a b : Nat) (h : H) (h1 : h.one = []) :
    CallW E0 X0 (.fn 27) [.int .u8 k, .int .i64 a, .int .i64 b] h (fun r h' => r = .agg (encE ⟨3, k, a, b⟩).toArray ∧ Fr h.next h h') := by
  refine CallW.body efn27 rfl rfl rfl [] (by kernel_rfl) ?_
  simp [Tryd.f27, h1, zerE]
  exact ⟨rfl, ((Fr.refl h1).nw (Nat.le_refl _) _).put (Nat.le_refl _) _⟩
def errE : ShE := ⟨3, 2, 0, 0⟩
set_option maxRecDepth 100000 in
set_option maxHeartbeats 4000000 in
theorem bad_sp (b B : Nat) (v : Value) (l : List ShE) (hl : l.length < 2 ^ 30) (h : H) (h1 : h.one = []) (hb : h.get b = some (.cells [v] 0 true 0 none)) (hbB : b < B) (hB : B ≤ h.next) (sl : SlG none 4 B h v (encEs l) l.length) :
    CallW E0 X0 (.fn 28) [.pointer (some ⟨b, 0, none⟩)] h (fun r h' => (∃ v', h'.get b = some (.cells [v'] 0 true 0 none) ∧ SlG none 4 B h' v' (encEs (l ++ [errE])) (l ++ [errE]).length) ∧ h'.one = [] ∧ h.next ≤ h'.next ∧ ∀ c, c < B → c ≠ b → h'.get c = h.get c) := by
  refine CallW.body efn28 rfl rfl rfl [] (by kernel_rfl) ?_
  simp [Tryd.f28, h1, hb, zerE, -appS_some]
  refine (sl.nw _).app (by simp) (by simp; omega) (by rfl) (by decide) (by rfl) (by omega) (by decide) (.inl rfl) ?_
  intro v5 h5 sl5 f5
  have n5 := f5.next
  simp at n5
  have pb : h5.get b = some (.cells [v] 0 true 0 none) := by rw [f5.get b hbB, get_nw, if_neg (by omega)]; exact hb
  obtain ⟨av, rfl⟩ := sl5.slice
  simp [f5.one, pb]
  refine ⟨?_, by omega, fun c hc hcb => ?_⟩
  · exact ((sl5.put hbB _).eq (by simp [encEs, encE, errE]) (by simp))
  · rw [if_neg hcb, f5.get c hc, get_nw, if_neg (by omega)]
set_option maxRecDepth 100000 in
set_option maxHeartbeats 4000000 in
theorem End_sp (s : ShS) (hs : s.ok) (h : H) (h1 : h.one = []) :
    CallW E0 X0 (.fn 15) [.agg (encS s).toArray] h (fun r h' => SlG none 4 h.next h' r (encEs (endN s)) (endN s).length ∧ Fr h.next h h') := by
  refine CallW.body efn15 rfl rfl rfl [] (by kernel_rfl) ?_
  have l82 := le_of82 hs (k := 82) (by decide)
  simp [Tryd.f15, h1, st_all hs, l82]
  refine (Own_sp s hs _ (by simp)).mono ?_
  rintro _ h2 ⟨rfl, f2⟩
  have n2 := f2.next
  simp at n2
  have q0 : h2.get h.next = some (.cells (encS s) 0 true 0 none) := (f2.get _ (by simp)).trans (by simp)
  have f12 : Fr h.next h h2 := ((Fr.refl h1).nw (Nat.le_refl _) _).trans (f2.mono (by simp))
  by_cases ho : ownN s = false
  · have he : endN s = [] := by unfold endN; rw [if_pos (.inl ho)]
    simp [f2.one, ho, he]
    exact ⟨SlG.nil .., f12⟩
  have ho : ownN s = true := by simpa using ho
  by_cases hm : s.mode = 0
  · have he : endN s = [] := by unfold endN; rw [if_pos (.inr hm)]
    simp [f2.one, ho, he, q0, st_mode hs, hm]
    exact ⟨SlG.nil .., f12⟩
  have hmI : ¬ (s.mode : Int) = 0 := by omega
  have hown := ho
  rw [own_eq] at hown
  simp only [Bool.and_eq_true, decide_eq_true_eq] at hown
  obtain ⟨hbare, hwait, _, hmode⟩ := hown
  simp [f2.one, ho, q0, st_mode hs, hm, hmI]
  generalize hH3 : H.nw h2 _ = h3
  have o3 : h3.one = [] := by rw [← hH3]; simp
  have n3 : h3.next = h2.next + 1 := by rw [← hH3]; simp
  have k3 : h3.get h2.next = some (.cells [.slice none 0 0] 0 true 0 none) := by rw [← hH3]; simp
  have p3 : ∀ c, c < h2.next → h3.get c = h2.get c := by intro c hc; rw [← hH3, get_nw, if_neg (by omega)]
  clear hH3
  refine (bad_sp h2.next (h2.next + 1) _ [] (by decide) h3 o3 k3 (by omega) (by omega) (SlG.nil ..)).mono ?_
  rintro r4 h4 ⟨⟨v4, k4, sl4⟩, o4, n4, p4⟩
  simp only [List.nil_append] at sl4
  simp [o4, k4, zerE, -appS_some]
  refine (sl4.nw _).app (by simp) (by simp; omega) (by rfl) (by decide) (by rfl) (by decide) (by decide) (.inl rfl) ?_
  intro v5 h5 sl5 f5
  have n5 := f5.next
  simp at n5
  have k5 : h5.get h2.next = some (.cells [v4] 0 true 0 none) := by rw [f5.get _ (by omega), get_nw, if_neg (by omega)]; exact k4
  obtain ⟨av, rfl⟩ := sl5.slice
  have q5 : h5.get h.next = some (.cells (encS s) 0 true 0 none) := by
    rw [f5.get _ (by omega), get_nw, if_neg (by omega), p4 _ (by omega) (by omega), p3 _ (by omega)]; exact q0
  simp [f5.one, k5, q5, st_wait hs, st_mode hs, show ¬ h.next = h2.next by omega]
  by_cases m2 : s.mode = 2
  · have hpos : 0 < s.wait := by
      unfold modeOk at hmode
      rw [if_neg hm, if_neg (by omega)] at hmode
      exact (of_decide_eq_true hmode).2.2
    have m2I : (s.mode : Int) = 2 := by omega
    have w1 : IntKind.i64.wrap (s.wait - 1) = s.wait - 1 := wrap_i64 (by omega) (by omega)
    obtain ⟨c, hc⟩ : ∃ c : Nat, s.wait - 1 = (c : Int) := ⟨(s.wait - 1).toNat, by omega⟩
    have he : endN s = [errE, ⟨2, 0, 0, 0⟩] ++ List.replicate c errE := by
      unfold endN
      rw [if_neg (by simp [ho, hm]), if_pos m2, hc]
      rfl
    have w2 : IntKind.i64.wrap (c : Int) = c := wrap_i64 (by omega) (by omega)
    simp [m2, w1, f5.one, hc, w2]
    generalize hF : (T.set _ 29 _ : T Value) = F
    generalize hH6 : H.put h5 _ _ = h6
    have g1 : F.get 4 = some (.func (.func 28) #[] #[.pointer (some ⟨h2.next, 0, none⟩)]) := by rw [← hF]; simp
    have g3 : F.get 3 = some (.pointer (some ⟨h2.next, 0, none⟩)) := by rw [← hF]; simp
    have g28 : F.get 28 = some (.int .i64 c) := by rw [← hF]; simp
    have g29 : F.get 29 = some (.int .i64 0) := by rw [← hF]; simp
    have o6 : h6.one = [] := by rw [← hH6]; simpa using f5.one
    have n6 : h6.next = h5.next := by rw [← hH6]; simp
    have k6 : h6.get h2.next = some (.cells [.slice av 2 2] 0 true 0 none) := by rw [← hH6]; simp
    have sl6 : SlG none 4 (h2.next + 1) h6 (.slice av 2 2) (encEs ([errE, ⟨2, 0, 0, 0⟩] ++ List.replicate 0 errE)) ([errE, ⟨2, 0, 0, 0⟩] ++ List.replicate 0 errE : List ShE).length := by
      rw [← hH6]; exact (sl5.put (by omega) _).eq (by simp [encEs, encE, errE]) (by simp)
    have p6 : ∀ x, x < h2.next → h6.get x = h2.get x := by
      intro x hx
      rw [← hH6, H.get_put, if_neg (by omega), f5.get _ (by omega), get_nw, if_neg (by omega), p4 _ (by omega) (by omega), p3 _ hx]
    clear hF hH6
    refine wpd_loop (fun (k : Nat) fr h' => fr.get 29 = some (.int .i64 k) ∧ k ≤ c ∧ h'.one = [] ∧ h6.next ≤ h'.next ∧ (∃ v, h'.get h2.next = some (.cells [v] 0 true 0 none) ∧ SlG none 4 (h2.next + 1) h' v (encEs ([errE, ⟨2, 0, 0, 0⟩] ++ List.replicate k errE)) ([errE, ⟨2, 0, 0, 0⟩] ++ List.replicate k errE : List ShE).length) ∧ ∀ x, x < h2.next → h'.get x = h2.get x) (fun k => c - k) 0 ⟨g29, by omega, o6, Nat.le_refl _, ⟨_, k6, sl6⟩, p6⟩ ?_
    rintro k fr h7 ⟨j29, hk, o7, n7, ⟨v7, k7, sl7⟩, p7⟩ hfe
    have j3 := hfe 3 rfl
    have j4 := hfe 4 rfl
    have j28 := hfe 28 rfl
    simp only [g1, g3, g28] at j3 j4 j28
    by_cases hkc : k < c
    · have hkc' : (k : Int) < c := by omega
      have w0 : IntKind.i64.wrap ((k : Int) + 1) = ((k + 1 : Nat) : Int) := wrap_succ (by omega)
      simp [j29, j28, j4, hkc, hkc', o7]
      refine (bad_sp h2.next (h2.next + 1) v7 _ (by simp; omega) h7 o7 k7 (by omega) (by omega) sl7).mono ?_
      rintro r8 h8 ⟨⟨v8, k8, sl8⟩, o8, n8, p8⟩
      simp [o8, j29, w0]
      refine ⟨k + 1, by omega, by simp, by omega, by omega, ⟨v8, k8, ?_⟩, fun x hx => (p8 x (by omega) (by omega)).trans (p7 x hx)⟩
      have e : [errE, (⟨2, 0, 0, 0⟩ : ShE)] ++ List.replicate (k + 1) errE = [errE, ⟨2, 0, 0, 0⟩] ++ List.replicate k errE ++ [errE] := by
        rw [List.replicate_succ', List.append_assoc]
      exact sl8.eq (by rw [← e]; rfl) (by simp)
    · have hkc' : ¬ (k : Int) < c := by omega
      obtain rfl : k = c := by omega
      simp [j29, j28, j3, o7, k7]
      rw [he]
      refine ⟨(sl7.of_base (by omega)).eq rfl (by simp), o7, by omega, fun x hx => ?_⟩
      rw [p7 x (by omega)]
      exact f12.get x hx
  · have m2I : ¬ (s.mode : Int) = 2 := by omega
    obtain ⟨c, hc⟩ : ∃ c : Nat, s.wait = (c : Int) := ⟨(s.wait).toNat, by omega⟩
    have he : endN s = [errE, ⟨2, 0, 0, 0⟩] ++ List.replicate c errE := by
      unfold endN
      rw [if_neg (by simp [ho, hm]), if_neg m2, Int.sub_zero, hc]
      rfl
    simp [m2, m2I, f5.one, hc]
    generalize hF : (T.set _ 29 _ : T Value) = F
    generalize hH6 : H.put h5 _ _ = h6
    have g1 : F.get 4 = some (.func (.func 28) #[] #[.pointer (some ⟨h2.next, 0, none⟩)]) := by rw [← hF]; simp
    have g3 : F.get 3 = some (.pointer (some ⟨h2.next, 0, none⟩)) := by rw [← hF]; simp
    have g28 : F.get 28 = some (.int .i64 c) := by rw [← hF]; simp
    have g29 : F.get 29 = some (.int .i64 0) := by rw [← hF]; simp
    have o6 : h6.one = [] := by rw [← hH6]; simpa using f5.one
    have n6 : h6.next = h5.next := by rw [← hH6]; simp
    have k6 : h6.get h2.next = some (.cells [.slice av 2 2] 0 true 0 none) := by rw [← hH6]; simp
    have sl6 : SlG none 4 (h2.next + 1) h6 (.slice av 2 2) (encEs ([errE, ⟨2, 0, 0, 0⟩] ++ List.replicate 0 errE)) ([errE, ⟨2, 0, 0, 0⟩] ++ List.replicate 0 errE : List ShE).length := by
      rw [← hH6]; exact (sl5.put (by omega) _).eq (by simp [encEs, encE, errE]) (by simp)
    have p6 : ∀ x, x < h2.next → h6.get x = h2.get x := by
      intro x hx
      rw [← hH6, H.get_put, if_neg (by omega), f5.get _ (by omega), get_nw, if_neg (by omega), p4 _ (by omega) (by omega), p3 _ hx]
    clear hF hH6
    refine wpd_loop (fun (k : Nat) fr h' => fr.get 29 = some (.int .i64 k) ∧ k ≤ c ∧ h'.one = [] ∧ h6.next ≤ h'.next ∧ (∃ v, h'.get h2.next = some (.cells [v] 0 true 0 none) ∧ SlG none 4 (h2.next + 1) h' v (encEs ([errE, ⟨2, 0, 0, 0⟩] ++ List.replicate k errE)) ([errE, ⟨2, 0, 0, 0⟩] ++ List.replicate k errE : List ShE).length) ∧ ∀ x, x < h2.next → h'.get x = h2.get x) (fun k => c - k) 0 ⟨g29, by omega, o6, Nat.le_refl _, ⟨_, k6, sl6⟩, p6⟩ ?_
    rintro k fr h7 ⟨j29, hk, o7, n7, ⟨v7, k7, sl7⟩, p7⟩ hfe
    have j3 := hfe 3 rfl
    have j4 := hfe 4 rfl
    have j28 := hfe 28 rfl
    simp only [g1, g3, g28] at j3 j4 j28
    by_cases hkc : k < c
    · have hkc' : (k : Int) < c := by omega
      have w0 : IntKind.i64.wrap ((k : Int) + 1) = ((k + 1 : Nat) : Int) := wrap_succ (by omega)
      simp [j29, j28, j4, hkc, hkc', o7]
      refine (bad_sp h2.next (h2.next + 1) v7 _ (by simp; omega) h7 o7 k7 (by omega) (by omega) sl7).mono ?_
      rintro r8 h8 ⟨⟨v8, k8, sl8⟩, o8, n8, p8⟩
      simp [o8, j29, w0]
      refine ⟨k + 1, by omega, by simp, by omega, by omega, ⟨v8, k8, ?_⟩, fun x hx => (p8 x (by omega) (by omega)).trans (p7 x hx)⟩
      have e : [errE, (⟨2, 0, 0, 0⟩ : ShE)] ++ List.replicate (k + 1) errE = [errE, ⟨2, 0, 0, 0⟩] ++ List.replicate k errE ++ [errE] := by
        rw [List.replicate_succ', List.append_assoc]
      exact sl8.eq (by rw [← e]; rfl) (by simp)
    · have hkc' : ¬ (k : Int) < c := by omega
      obtain rfl : k = c := by omega
      simp [j29, j28, j3, o7, k7]
      rw [he]
      refine ⟨(sl7.of_base (by omega)).eq rfl (by simp), o7, by omega, fun x hx => ?_⟩
      rw [p7 x (by omega)]
      exact f12.get x hx
set_option maxRecDepth 100000 in
set_option maxHeartbeats 4000000 in
theorem RefEnd_sp (s : ShS) (hs : s.ok) (h : H) (h1 : h.one = []) :
    CallW E0 X0 (.fn 16) [.agg (encS s).toArray] h (fun r h' => SlG none 4 h.next h' r (encEs (endN s)) (endN s).length ∧ Fr h.next h h') := by
  refine CallW.body efn16 rfl rfl rfl [] (by kernel_rfl) ?_
  have l82 := le_of82 hs (k := 82) (by decide)
  simp [Tryd.f16, h1, st_all hs, l82]
  refine (RefOwn_sp s hs _ (by simp)).mono ?_
  rintro _ h2 ⟨rfl, f2⟩
  have n2 := f2.next
  simp at n2
  have q0 : h2.get h.next = some (.cells (encS s) 0 true 0 none) := (f2.get _ (by simp)).trans (by simp)
  have f12 : Fr h.next h h2 := ((Fr.refl h1).nw (Nat.le_refl _) _).trans (f2.mono (by simp))
  by_cases ho : ownN s = false
  · have he : endN s = [] := by unfold endN; rw [if_pos (.inl ho)]
    simp [f2.one, ho, he]
    exact ⟨SlG.nil .., f12⟩
  have ho : ownN s = true := by simpa using ho
  by_cases hm : s.mode = 0
  · have he : endN s = [] := by unfold endN; rw [if_pos (.inr hm)]
    simp [f2.one, ho, he, q0, st_mode hs, hm]
    exact ⟨SlG.nil .., f12⟩
  have hmI : ¬ (s.mode : Int) = 0 := by omega
  have hown := ho
  rw [own_eq] at hown
  simp only [Bool.and_eq_true, decide_eq_true_eq] at hown
  obtain ⟨hbare, hwait, _, hmode⟩ := hown
  simp [f2.one, ho, q0, st_mode hs, hm, hmI]
  refine (leaf_sp 2 0 0 h2 f2.one).mono ?_
  rintro r3 h3 ⟨rfl, f3⟩
  have n3 := f3.next
  have q3 : h3.get h.next = some (.cells (encS s) 0 true 0 none) := (f3.get _ (by omega)).trans q0
  have f13 := f12.thn (Nat.le_refl _) f3
  by_cases m2 : s.mode = 2
  · have hpos : 0 < s.wait := by
      unfold modeOk at hmode
      rw [if_neg hm, if_neg (by omega)] at hmode
      exact (of_decide_eq_true hmode).2.2
    have m2I : (s.mode : Int) = 2 := by omega
    have w1 : IntKind.i64.wrap (s.wait - 1) = s.wait - 1 := wrap_i64 (by omega) (by omega)
    obtain ⟨c, hc⟩ : ∃ c : Nat, s.wait - 1 = (c : Int) := ⟨(s.wait - 1).toNat, by omega⟩
    have he : endN s = [errE, ⟨2, 0, 0, 0⟩] ++ List.replicate c errE := by
      unfold endN
      rw [if_neg (by simp [ho, hm]), if_pos m2, hc]
      rfl
    have w2 : IntKind.i64.wrap (c : Int) = c := wrap_i64 (by omega) (by omega)
    simp [f3.one, q3, st_wait hs, st_mode hs, show ¬ h.next = h3.next by omega, zerE, zerE8, encE, m2, w1, hc, w2]
    generalize hF : (T.set _ 5 _ : T Value) = F
    generalize hH6 : H.nw h3 _ = h6
    have g3 : F.get 3 = some (.slice (some ⟨h3.next, 0, none⟩) 2 2) := by rw [← hF]; simp
    have g4 : F.get 4 = some (.int .i64 c) := by rw [← hF]; simp
    have g5 : F.get 5 = some (.int .i64 0) := by rw [← hF]; simp
    have n6 : h6.next = h3.next + 1 := by rw [← hH6]; simp
    have f6 : Fr h.next h h6 := by rw [← hH6]; exact f13.nw (by omega) _
    have sl6 : SlG none 4 h.next h6 (.slice (some ⟨h3.next, 0, none⟩) 2 2) (encEs ([errE, ⟨2, 0, 0, 0⟩] ++ List.replicate 0 errE)) ([errE, ⟨2, 0, 0, 0⟩] ++ List.replicate 0 errE : List ShE).length := by
      rw [← hH6]; exact .inr ⟨by decide, rfl, h3.next, by omega, by simp, rfl, by simp [encEs, encE, errE]⟩
    clear hF hH6
    refine wpd_loop (fun (k : Nat) fr h' => fr.get 5 = some (.int .i64 k) ∧ k ≤ c ∧ (∃ v, fr.get 3 = some v ∧ SlG none 4 h.next h' v (encEs ([errE, ⟨2, 0, 0, 0⟩] ++ List.replicate k errE)) ([errE, ⟨2, 0, 0, 0⟩] ++ List.replicate k errE : List ShE).length) ∧ Fr h.next h h') (fun k => c - k) 0 ⟨g5, by omega, ⟨_, g3, sl6⟩, f6⟩ ?_
    rintro k fr h7 ⟨j5, hk, ⟨v7, j3, sl7⟩, f7⟩ hfe
    have j4 := hfe 4 rfl
    simp only [g4] at j4
    have n7 := f7.next
    by_cases hkc : k < c
    · have hkc' : (k : Int) < c := by omega
      have w0 : IntKind.i64.wrap ((k : Int) + 1) = ((k + 1 : Nat) : Int) := wrap_succ (by omega)
      simp [j5, j4, j3, hkc, hkc', f7.one]
      refine (leaf_sp 2 0 0 h7 f7.one).mono ?_
      rintro r8 h8 ⟨rfl, f8⟩
      have n8 := f8.next
      simp [f8.one, zerE, encE, -appS_some]
      refine ((sl7.of_get n8 (fun g _ hg => f8.get g hg)).nw _).app (by simp) (by simp; omega) (by rfl) (by decide) (by rfl) (by simp; omega) (by decide) (.inl rfl) ?_
      intro v9 h9 sl9 f9
      simp [f9.one, j5, w0]
      refine ⟨k + 1, by omega, by simp, by omega, ?_, ((f7.thn (Nat.le_refl _) f8).nw (by omega) _).trans (f9.mono (Nat.le_refl _))⟩
      have e : [errE, (⟨2, 0, 0, 0⟩ : ShE)] ++ List.replicate (k + 1) errE = [errE, ⟨2, 0, 0, 0⟩] ++ List.replicate k errE ++ [errE] := by
        rw [List.replicate_succ', List.append_assoc]
      exact sl9.eq (by show encEs ([errE, (⟨2, 0, 0, 0⟩ : ShE)] ++ List.replicate (k + 1) errE) = _; rw [e, ← encEs_snoc]; rfl) (by simp)
    · have hkc' : ¬ (k : Int) < c := by omega
      obtain rfl : k = c := by omega
      simp [j5, j4, j3, f7.one]
      rw [he]
      exact ⟨sl7.eq rfl (by simp), f7⟩
  · have m2I : ¬ (s.mode : Int) = 2 := by omega
    obtain ⟨c, hc⟩ : ∃ c : Nat, s.wait = (c : Int) := ⟨(s.wait).toNat, by omega⟩
    have he : endN s = [errE, ⟨2, 0, 0, 0⟩] ++ List.replicate c errE := by
      unfold endN
      rw [if_neg (by simp [ho, hm]), if_neg m2, Int.sub_zero, hc]
      rfl
    have w2 : IntKind.i64.wrap (c : Int) = c := wrap_i64 (by omega) (by omega)
    simp [f3.one, q3, st_wait hs, st_mode hs, show ¬ h.next = h3.next by omega, zerE, zerE8, encE, m2, m2I, hc, w2]
    generalize hF : (T.set _ 5 _ : T Value) = F
    generalize hH6 : H.nw h3 _ = h6
    have g3 : F.get 3 = some (.slice (some ⟨h3.next, 0, none⟩) 2 2) := by rw [← hF]; simp
    have g4 : F.get 4 = some (.int .i64 c) := by rw [← hF]; simp
    have g5 : F.get 5 = some (.int .i64 0) := by rw [← hF]; simp
    have n6 : h6.next = h3.next + 1 := by rw [← hH6]; simp
    have f6 : Fr h.next h h6 := by rw [← hH6]; exact f13.nw (by omega) _
    have sl6 : SlG none 4 h.next h6 (.slice (some ⟨h3.next, 0, none⟩) 2 2) (encEs ([errE, ⟨2, 0, 0, 0⟩] ++ List.replicate 0 errE)) ([errE, ⟨2, 0, 0, 0⟩] ++ List.replicate 0 errE : List ShE).length := by
      rw [← hH6]; exact .inr ⟨by decide, rfl, h3.next, by omega, by simp, rfl, by simp [encEs, encE, errE]⟩
    clear hF hH6
    refine wpd_loop (fun (k : Nat) fr h' => fr.get 5 = some (.int .i64 k) ∧ k ≤ c ∧ (∃ v, fr.get 3 = some v ∧ SlG none 4 h.next h' v (encEs ([errE, ⟨2, 0, 0, 0⟩] ++ List.replicate k errE)) ([errE, ⟨2, 0, 0, 0⟩] ++ List.replicate k errE : List ShE).length) ∧ Fr h.next h h') (fun k => c - k) 0 ⟨g5, by omega, ⟨_, g3, sl6⟩, f6⟩ ?_
    rintro k fr h7 ⟨j5, hk, ⟨v7, j3, sl7⟩, f7⟩ hfe
    have j4 := hfe 4 rfl
    simp only [g4] at j4
    have n7 := f7.next
    by_cases hkc : k < c
    · have hkc' : (k : Int) < c := by omega
      have w0 : IntKind.i64.wrap ((k : Int) + 1) = ((k + 1 : Nat) : Int) := wrap_succ (by omega)
      simp [j5, j4, j3, hkc, hkc', f7.one]
      refine (leaf_sp 2 0 0 h7 f7.one).mono ?_
      rintro r8 h8 ⟨rfl, f8⟩
      have n8 := f8.next
      simp [f8.one, zerE, encE, -appS_some]
      refine ((sl7.of_get n8 (fun g _ hg => f8.get g hg)).nw _).app (by simp) (by simp; omega) (by rfl) (by decide) (by rfl) (by simp; omega) (by decide) (.inl rfl) ?_
      intro v9 h9 sl9 f9
      simp [f9.one, j5, w0]
      refine ⟨k + 1, by omega, by simp, by omega, ?_, ((f7.thn (Nat.le_refl _) f8).nw (by omega) _).trans (f9.mono (Nat.le_refl _))⟩
      have e : [errE, (⟨2, 0, 0, 0⟩ : ShE)] ++ List.replicate (k + 1) errE = [errE, ⟨2, 0, 0, 0⟩] ++ List.replicate k errE ++ [errE] := by
        rw [List.replicate_succ', List.append_assoc]
      exact sl9.eq (by show encEs ([errE, (⟨2, 0, 0, 0⟩ : ShE)] ++ List.replicate (k + 1) errE) = _; rw [e, ← encEs_snoc]; rfl) (by simp)
    · have hkc' : ¬ (k : Int) < c := by omega
      obtain rfl : k = c := by omega
      simp [j5, j4, j3, f7.one]
      rw [he]
      exact ⟨sl7.eq rfl (by simp), f7⟩
end Go.Dm
