/- What is mentioned: the reference. -/
import Derived.Test.YthclahlplcfdpaaGreatDoorMdXc
import Derived.Sort.Walk0
set_option linter.unusedVariables false
set_option linter.unusedSimpArgs false
namespace Go.Dm
open Go.Proofs
theorem tw_iff {α : Type} (p : α → Bool) : ∀ (l : List α) (k : Nat), k ≤ (l.takeWhile p).length → (k < (l.takeWhile p).length ↔ ∃ h : k < l.length, p l[k] = true)
  | [], k, h => by simp
  | x :: l, 0, h => by by_cases c : p x = true <;> simp [List.takeWhile_cons, c]
  | x :: l, k + 1, h => by
    by_cases c : p x = true
    · simp [List.takeWhile_cons, c] at h ⊢
      have := tw_iff p l k h
      simpa using this
    · simp [List.takeWhile_cons, c] at h
theorem twh_le {α : Type} (p : α → Bool) (l : List α) : (l.takeWhile p).length ≤ l.length := (List.takeWhile_sublist _).length_le
theorem cv_str : ∀ l : List (List UInt8), (l.map str).all cellV = true
  | [] => rfl
  | x :: l => by rw [List.map_cons, List.all_cons, cv_str l]; rfl
theorem SlG.low {ty : Option TypeId} {n B B' : Nat} {h : H} {v : Value} {cs : List Value} {len : Nat} (s : SlG ty n B h v cs len) (hB : B' ≤ B) : SlG ty n B' h v cs len := by
  rcases s with s | ⟨s1, s2, g, s3, s4, s5, s6⟩
  · exact .inl s
  · exact .inr ⟨s1, s2, g, by omega, s4, s5, s6⟩
section
variable {h : H}
set_option maxRecDepth 100000 in
set_option maxHeartbeats 4000000 in
theorem Mentions22_sp (l : List UInt8) (hl : l.length < 2 ^ 30) (from_ e : Int) (h1 : h.one = []) :
    CallW E0 X0 (.fn 20) [str l, .int .i64 from_, .int .i64 e] h (fun v h' => RdS h' v (mtL (pE l e) from_) ∧ Fr h.next h h') := by
  refine CallW.body efn20 rfl rfl rfl [] (by kernel_rfl) ?_
  simp [-wpd_seq, Tryz.f20, h1]
  iterate ((repeat rw [wpd_seq]); simp [-wpd_seq, h1])
  refine (bound_sp l (by omega) e h1).mono ?_
  rintro _ h2 ⟨rfl, rfl⟩
  obtain ⟨s, hs⟩ : ∃ s, s = pE l e := ⟨_, rfl⟩
  have hE := eE_int l e
  have hsE : s.length = eE l e := by rw [hs, pE_len]
  have heE := eE_le l e
  have heL := eE_len l e
  have hsl : s.length < 2 ^ 30 := by omega
  rw [← hs]
  obtain ⟨E, hEE⟩ : ∃ E, E = min e (eN l : Int) := ⟨_, rfl⟩
  rw [← hEE] at hE ⊢
  clear hEE
  iterate ((repeat rw [wpd_seq]); simp [-wpd_seq, h1])
  refine wpd_loop (fun (i : Nat) fr h' => fr.get 9 = some (.int .i64 (from_ + i)) ∧ (∃ v, fr.get 8 = some v ∧ SlG none 1 h2.next h' v (((mtO s from_.toNat i).foldl insS []).map str) ((mtO s from_.toNat i).foldl insS []).length) ∧ Fr h2.next h2 h' ∧ (i = 0 ∨ (0 ≤ from_ ∧ from_ + i ≤ s.length))) (fun i => ((s.length : Int) - (from_ + i)).toNat) 0 ⟨by simp, ⟨_, by simp, SlG.nil _ _ _ _⟩, Fr.refl h1, .inl rfl⟩ ?_
  rintro i fr h3 ⟨g9, ⟨v, g8, hv⟩, hF3, hi⟩ hf
  have g0 := hf 0 rfl
  have g7 := hf 7 rfl
  simp at g0 g7
  clear hf
  have h31 := hF3.one
  have hml := mtO_len s from_.toNat i
  have hnl : ((mtO s from_.toNat i).foldl insS []).length ≤ (mtO s from_.toNat i).length := by rw [foldl_rise]; exact riseL_len _
  by_cases c : 0 ≤ from_ + i ∧ from_ + i < s.length
  rotate_left
  · have hmt : mtA s from_ = mtO s from_.toNat i := by
      unfold mtA
      split
      · rcases hi with rfl | hi
        · rfl
        · omega
      · congr 1
        omega
    have hre : RdS h3 v (mtL s from_) := by
      unfold mtL
      rw [hmt, ← foldl_rise]
      rcases hv with ⟨e0, rfl, _⟩ | ⟨e0, e1, gg, a2, a3, rfl, a5⟩
      · exact .inl ⟨none, rfl, List.eq_nil_of_length_eq_zero e0⟩
      · exact .inr ⟨gg, _, _, 1, true, 0, none, rfl, Nat.le_refl _, a5, a3, List.take_of_length_le (by simp), .inr rfl⟩
    by_cases c1 : 0 ≤ from_ + i
    · have c2 : ¬ (from_ + i < E) := fun q => c ⟨c1, by omega⟩
      simp [g7, g8, g9, h31, c1, c2]
      exact ⟨hre, hF3⟩
    · simp [g7, g8, g9, h31, c1]
      exact ⟨hre, hF3⟩
  obtain ⟨ca, cb⟩ := c
  obtain ⟨a, ha⟩ : ∃ a : Nat, from_ + i = a := ⟨(from_ + i).toNat, by omega⟩
  have ha0 : 0 ≤ from_ := by omega
  have ha2 : from_.toNat + i = a := by omega
  rw [ha] at g9 ca cb
  have cb' : a < s.length := by omega
  have hEs : E = (s.length : Int) := by omega
  subst hEs
  have hsucc := mtO_succ s from_.toNat i
  rw [ha2] at hsucc
  have hw : IntKind.i64.wrap ((a : Int) + 1) = (a : Int) + 1 := wrap_succ (by omega)
  iterate ((repeat rw [wpd_seq]); simp [-wpd_seq, g0, g7, g8, g9, h31, cb'])
  have hR := Read17_sp l (by omega) a s.length (by omega) h31
  have hsg : sg l a s.length = s.drop a := by rw [hs, sg_pE, pE_len]
  rw [hsg] at hR
  refine hR.mono ?_
  rintro _ h4 ⟨rfl, hF4⟩
  have h41 := hF4.one
  have hF04 := hF3.trans (hF4.mono hF3.next)
  generalize hns : (mtO s from_.toNat i).foldl insS [] = ns at hv hnl
  have hv4 : SlG none 1 h2.next h4 v (ns.map str) ns.length := hv.of_get hF4.next fun gg _ q => hF4.get gg q
  cases hrd : rdL (s.drop a) with
  | none =>
    rw [hrd] at hsucc
    simp only [List.append_nil] at hsucc
    simp [nOk, g7, g8, g9, h41, hw]
    refine ⟨i + 1, by omega, by omega, ?_, hF04, by omega⟩
    rw [hsucc, hns]
    exact hv4
  | some n =>
    rw [hrd] at hsucc
    simp only at hsucc
    have hle := rdL_le hrd
    simp at hle
    have w2 : IntKind.i64.wrap ((a : Int) + n - 1) = (a : Int) + n - 1 := wrap_i64 (by omega) (by omega)
    have b1 : (a : Int) + 1 ≤ (a : Int) + n - 1 := by omega
    have b2 : (a : Int) + n - 1 ≤ l.length := by omega
    have b4 : ((a : Int) + n - 1).toNat = a + n - 1 := by omega
    have b5 : a + 1 ≤ a + n - 1 := by omega
    have b6 : a + n - 1 ≤ l.length := by omega
    have b7 : (1 : Int) ≤ (a : Int) + n := by omega
    have hlab : List.drop (a + 1) (List.take (a + n - 1) l) = (List.take (n - 1) (s.drop a)).drop 1 := by
      rw [hs, pE, List.take_drop, List.drop_drop, List.take_take, Nat.min_eq_left (by omega)]
      congr 2
      omega
    have hfl : CallW E0 X0 (.fn 45) [str (List.drop (a + 1) (List.take (a + n - 1) l))] h4 (fun v h' => v = str (lab (s.drop a) n) ∧ Fr h4.next h4 h') := by
      rw [hlab]
      exact Fold17_sp _ (by simp; omega) h41
    iterate ((repeat rw [wpd_seq]); simp [-wpd_seq, nOk, g0, g7, g8, g9, h41, hw, w2, b1, b2, b4, b5, b6, b7])
    refine hfl.mono ?_
    rintro _ h5 ⟨rfl, hF5⟩
    have h51 := hF5.one
    have hv5 : SlG none 1 h2.next h5 v (ns.map str) ns.length := hv4.of_get hF5.next fun gg _ q => hF5.get gg q
    have hF05 := hF04.trans (hF5.mono hF04.next)
    generalize lab (s.drop a) n = x at hsucc
    have hins : (mtO s from_.toNat (i + 1)).foldl insS [] = insS ns x := by rw [hsucc, List.foldl_append, hns]; rfl
    clear hsucc hfl hlab
    iterate ((repeat rw [wpd_seq]); simp [-wpd_seq, h51])
    obtain ⟨K, hK⟩ : ∃ K, K = (ns.takeWhile fun y => decide (y < x)).length := ⟨_, rfl⟩
    have hKl : K ≤ ns.length := hK ▸ twh_le _ _
    have hKi : ∀ k, k ≤ K → (k < K ↔ ∃ h : k < ns.length, decide (ns[k] < x) = true) := fun k hk => by subst hK; exact tw_iff _ _ _ hk
    have hins2 : insS ns x = if ns[K]? = some x then ns else ns.take K ++ x :: ns.drop K := by subst hK; rfl
    clear hK
    obtain ⟨va, rfl⟩ := hv5.slice
    refine wpd_loop (fun (k : Nat) fr h' => fr.get 13 = some (.int .i64 k) ∧ k ≤ K ∧ h' = h5) (fun k => K - k) 0 ⟨by simp, Nat.zero_le _, rfl⟩ ?_
    rintro k fr2 h6 ⟨k13, hk, rfl⟩ hf2
    have k8 := hf2 8 rfl
    have k9 := hf2 9 rfl
    have k12 := hf2 12 rfl
    simp [g8, g9] at k8 k9 k12
    clear hf2
    have hki := hKi k hk
    have hwk : IntKind.i64.wrap ((k : Int) + 1) = (k : Int) + 1 := wrap_succ (by omega)
    have hat : ∀ (cl : k < ns.length), ∃ gg, va = some ⟨gg, 0, none⟩ ∧ h2.next ≤ gg ∧ gg < h6.next ∧ h6.get gg = some (.cells (ns.map str) 1 true 0 none) := by
      intro cl
      rcases hv5 with ⟨e0, _⟩ | ⟨_, e1, gg, a2, a3, ev, a5⟩
      · omega
      · cases ev; exact ⟨gg, rfl, a2, a3, a5⟩
    by_cases hlt : ∃ h : k < ns.length, ns[k] < x
    · obtain ⟨cl, cx⟩ := hlt
      obtain ⟨gg, rfl, a2, a3, a5⟩ := hat cl
      have hkK : k < K := hki.2 ⟨cl, by simpa using cx⟩
      simp [h51, k8, k12, k13, cl, a5, cx, hwk, bytesLess_eq]
      exact ⟨k + 1, by omega, rfl, by omega⟩
    have hkK : k = K := by
      have : ¬ k < K := fun q => hlt (by obtain ⟨q1, q2⟩ := hki.1 q; exact ⟨q1, by simpa using q2⟩)
      omega
    subst hkK
    by_cases heq : ∃ h : k < ns.length, ns[k] = x
    · obtain ⟨cl, cx⟩ := heq
      obtain ⟨gg, rfl, a2, a3, a5⟩ := hat cl
      have cx2 : ¬ ns[k] < x := fun q => hlt ⟨cl, q⟩
      rw [if_pos (by rw [List.getElem?_eq_getElem cl, cx])] at hins2
      have cx3 : ¬ x < x := by rw [cx] at cx2; exact cx2
      simp [h51, k8, k9, k12, k13, cl, a5, cx, cx3, hw, bytesLess_eq]
      refine ⟨i + 1, by omega, by omega, ?_, hF05, by omega⟩
      rw [hins, hins2]
      exact hv5
    have hne : ¬ ns[k]? = some x := fun q => heq (by obtain ⟨q1, q2⟩ := List.getElem?_eq_some_iff.1 q; exact ⟨q1, q2⟩)
    rw [if_neg hne] at hins2
    by_cases cl : k < ns.length
    · obtain ⟨gg, rfl, a2, a3, a5⟩ := hat cl
      have cx2 : ¬ ns[k] < x := fun q => hlt ⟨cl, q⟩
      have cx3 : ¬ ns[k] = x := fun q => heq ⟨cl, q⟩
      iterate ((repeat rw [wpd_seq]); simp [-wpd_seq, h51, k8, k9, k12, k13, cl, hKl, a5, cx2, cx3, hw, bytesLess_eq])
      have hif : (if k = 0 then some (0, []) else some (k, List.take k (List.map str ns))) = some (k, (ns.take k).map str) := by
        by_cases q : k = 0
        · subst q; rfl
        · rw [if_neg q, List.map_take]
      have hB : h2.next ≤ h6.next := hF05.next
      have hx7 : ((ns.take k).map str).length = k * 1 := by simp; omega
      rw [hif, appX_some, if_pos hx7]
      refine (SlG.nil none 1 h6.next h6).app (by' := 16) h51 (Nat.le_refl _) hx7 (by decide) (cv_str _) (by omega) (by decide) (.inl rfl) ?_
      intro v7 h7 q1 q2
      rw [List.nil_append, Nat.zero_add] at q1
      have h71 := q2.one
      obtain ⟨v7a, rfl⟩ := q1.slice
      iterate ((repeat rw [wpd_seq]); simp [-wpd_seq, h71, k12, zerosD, List.range, List.range.loop])
      refine (q1.nw _).app (by' := 16) (xs := [str x]) (by simp [h71]) (by have := q2.next; simp; omega) (by rfl) (by decide) (by rfl) (by omega) (by decide) (.inl rfl) ?_
      intro v8 h8 q3 q4
      have h81 := q4.one
      have hF68 : Fr h6.next h6 h8 := q2.trans (((Fr.refl h71).nw q2.next _).trans q4)
      have a58 := (hF68.get gg a3).trans a5
      obtain ⟨v8a, rfl⟩ := q3.slice
      iterate ((repeat rw [wpd_seq]); simp [-wpd_seq, h81, k8, k13, hKl, a58])
      have hif2 : (if ns.length - k = 0 then some (0, []) else some (ns.length - k, List.take (ns.length - k) (List.drop k (List.map str ns)))) = some (ns.length - k, (ns.drop k).map str) := by
        rw [if_neg (by omega), ← List.map_drop, List.take_of_length_le (by simp)]
      have hx8 : ((ns.drop k).map str).length = (ns.length - k) * 1 := by simp
      rw [hif2, appX_some, if_pos hx8]
      refine q3.app (by' := 16) h81 hF68.next hx8 (by decide) (cv_str _) (by omega) (by decide) (.inl rfl) ?_
      intro v9 h9 q5 q6
      have hF09 : Fr h2.next h2 h9 := hF05.trans ((hF68.trans q6).mono hB)
      simp [q6.one, k9, hw]
      refine ⟨i + 1, by omega, by omega, ?_, hF09, by omega⟩
      rw [hins, hins2]
      have e1 : (ns.take k).map str ++ [str x] ++ (ns.drop k).map str = (ns.take k ++ x :: ns.drop k).map str := by simp
      have e2 : k + 1 + (ns.length - k) = (ns.take k ++ x :: ns.drop k).length := by simp; omega
      rw [e1, e2] at q5
      exact q5.low hB
    · have hkn : k = ns.length := by omega
      subst hkn
      cases va with
      | none =>
        have hn0 : ns = [] := by
          rcases hv5 with ⟨e0, _⟩ | ⟨_, e1, gg, a2, a3, ev, a5⟩
          · exact List.eq_nil_of_length_eq_zero e0
          · cases ev
        subst hn0
        iterate ((repeat rw [wpd_seq]); simp [-wpd_seq, h51, k8, k9, k12, k13, cl, hw, zerosD, List.range, List.range.loop])
        have hFn : Fr h2.next h2 ((h6.nw (.cells [str x] 1 true 0 none)).nw (.cells [str x] 1 true 0 none)) := (hF05.nw hF05.next _).nw (by have := hF05.next; simp; omega) _
        refine ⟨i + 1, by omega, by omega, ?_, hFn, by omega⟩
        rw [hins, hins2]
        exact .inr ⟨by simp, by simp, h6.next + 1, by have := hF05.next; omega, by simp, rfl, by simp⟩
      | some aa =>
        rcases hv5 with ⟨e0, ev, _⟩ | ⟨e0, e1, gg, a2, a3, ev, a5⟩
        · cases ev
        cases ev
        iterate ((repeat rw [wpd_seq]); simp [-wpd_seq, h51, k8, k9, k12, k13, cl, a5, hw])
        have hn0 : ¬ ns = [] := fun q => by rw [q] at e0; simp at e0
        have hif : (if ns = [] then some (0, []) else some (ns.length, List.take ns.length (List.map str ns))) = some (ns.length, ns.map str) := by
          rw [if_neg hn0, List.take_of_length_le (by simp)]
        have hB : h2.next ≤ h6.next := hF05.next
        have hx7 : (ns.map str).length = ns.length * 1 := by simp
        rw [hif, appX_some, if_pos hx7]
        refine (SlG.nil none 1 h6.next h6).app (by' := 16) h51 (Nat.le_refl _) hx7 (by decide) (cv_str _) (by omega) (by decide) (.inl rfl) ?_
        intro v7 h7 q1 q2
        rw [List.nil_append, Nat.zero_add] at q1
        have h71 := q2.one
        obtain ⟨v7a, rfl⟩ := q1.slice
        iterate ((repeat rw [wpd_seq]); simp [-wpd_seq, h71, k12, zerosD, List.range, List.range.loop])
        refine (q1.nw _).app (by' := 16) (xs := [str x]) (by simp [h71]) (by have := q2.next; simp; omega) (by rfl) (by decide) (by rfl) (by omega) (by decide) (.inl rfl) ?_
        intro v8 h8 q3 q4
        have h81 := q4.one
        have hF68 : Fr h6.next h6 h8 := q2.trans (((Fr.refl h71).nw q2.next _).trans q4)
        have a58 := (hF68.get gg a3).trans a5
        obtain ⟨v8a, rfl⟩ := q3.slice
        iterate ((repeat rw [wpd_seq]); simp [-wpd_seq, h81, k8, k9, k13, a58, hw])
        refine q3.app (k := 0) (by' := 16) (xs := []) h81 hF68.next (by rfl) (by decide) (by rfl) (by omega) (by decide) (.inl rfl) ?_
        intro v9 h9 q5 q6
        have hF09 : Fr h2.next h2 h9 := hF05.trans ((hF68.trans q6).mono hB)
        simp [q6.one, k9, hw]
        refine ⟨i + 1, by omega, by omega, ?_, hF09, by omega⟩
        rw [hins, hins2, List.take_length, List.drop_length]
        have e1 : ns.map str ++ [str x] ++ [] = (ns ++ [x]).map str := by simp
        have e2 : ns.length + 1 + 0 = (ns ++ [x]).length := by simp
        rw [e1, e2] at q5
        exact q5.low hB
theorem mt_ab : mtL (pE [91, 66, 93, 32, 91, 97, 93] 9) 0 = [[97], [98]] := by unfold mtL; rw [← foldl_rise]; decide +kernel
set_option maxHeartbeats 4000000 in
theorem law_Mentions (l : List UInt8) (from_ e : Int) (h1 : h.one = []) (g : GmH h) :
    CallW E0 X0 (.fn 7) [str l, .int .i64 from_, .int .i64 e] h (fun v _ => v = .bool true) := by
  refine CallW.body efn7 rfl rfl rfl [] (by kernel_rfl) ?_
  by_cases c1 : 500 < l.length
  · simp [Tryz.f7, h1, c1]
  simp [-wpd_seq, Tryz.f7, h1]
  iterate ((repeat rw [wpd_seq]); simp [-wpd_seq, h1, c1])
  refine (Mentions_sp [91, 66, 93, 32, 91, 97, 93] (by decide) 0 9 h1 g).mono ?_
  rintro vm h2 ⟨hm, hF2⟩
  rw [mt_ab] at hm
  have g2 := GmH.fr g hF2 g.2
  iterate ((repeat rw [wpd_seq]); simp [-wpd_seq, hF2.one])
  refine (Mentions_sp l (by omega) from_ e hF2.one g2).mono ?_
  rintro va h3 ⟨ha, hF3⟩
  have hm3 := hm.fr hF3
  have hF03 := hF2.trans (hF3.mono hF2.next)
  simp [hF3.one]
  refine (Mentions22_sp l (by omega) from_ e hF3.one).mono ?_
  rintro vb h4 ⟨hb, hF4⟩
  have hm4 := hm3.fr hF4
  have ha4 := ha.fr hF4
  have hF04 := hF03.trans (hF4.mono hF03.next)
  have hlen : (mtL (pE l e) from_).length < 2 ^ 31 := by
    have h1 := riseL_len (mtA (pE l e) from_)
    have h2 : (mtA (pE l e) from_).length ≤ (pE l e).length := by
      unfold mtA
      split
      · simp
      · exact Nat.le_trans (mtO_len _ _ _) (by omega)
    have h3 := pE_len l e
    have h4 := eE_len l e
    unfold mtL
    omega
  generalize mtL (pE l e) from_ = M at ha4 hb hlen
  simp [hF4.one]
  refine (texts_sp M M va vb hlen ha4 hb hF4.one).mono ?_
  rintro _ h5 ⟨rfl, rfl⟩
  rw [decide_eq_true rfl]
  have hr4 : RdS (h5.nw (.cells [str [97], str [98]] 1 true 0 none)) (.slice (some ⟨h5.next, 0, none⟩) 2 2) [[97], [98]] := .inr ⟨h5.next, 2, [str [97], str [98]], 1, true, 0, none, rfl, Nat.le_refl _, by simp, by simp, rfl, .inr rfl⟩
  have hF5 : Fr h5.next h5 (h5.nw (.cells [str [97], str [98]] 1 true 0 none)) := (Fr.refl hF4.one).nw (Nat.le_refl _) _
  simp [hF4.one, zerosD, List.range, List.range.loop]
  refine (texts_sp [[97], [98]] [[97], [98]] vm _ (by decide) (hm4.fr hF5) hr4 hF5.one).mono ?_
  rintro _ h6 ⟨rfl, rfl⟩
  rw [decide_eq_true rfl]
  simp [hF4.one]
  refine (reads_sp hF5.one (GmH.fr g (hF04.trans (hF5.mono hF04.next)) g.2)).mono ?_
  rintro _ h7 ⟨rfl, hF7⟩
  simp [hF7.one]
end
end Go.Dm
