/- Links: the reference's function; links are the document's. -/
import Derived.Test.YthclahlplcfdpaaGreatDoorMdXb
import Derived.Test.YthclahlplcfdpaaGreatDoorMdXc
set_option linter.unusedVariables false
set_option linter.unusedSimpArgs false
namespace Go.Dm
open Go.Proofs
theorem tw_iff {α : Type} (p : α → Bool) : ∀ (l : List α) (k : Nat), k ≤ (l.takeWhile p).length → (k < (l.takeWhile p).length ↔ ∃ h : k < l.length, p l[k] = true)
  | [], k, h => by simp
  | x :: l, 0, h => by by_cases c : p x = true <;> simp [List.takeWhile_cons, c]
  | x :: l, k + 1, h => by
    by_cases c : p x = true
    · simp [List.takeWhile_cons, c] at h ⊢
      have := tw_iff p l k h
      simpa using this
    · simp [List.takeWhile_cons, c] at h
theorem twh_le {α : Type} (p : α → Bool) (l : List α) : (l.takeWhile p).length ≤ l.length := (List.takeWhile_sublist _).length_le
theorem cv_str : ∀ l : List (List UInt8), (l.map str).all cellV = true
  | [] => rfl
  | x :: l => by rw [List.map_cons, List.all_cons, cv_str l]; rfl
theorem SlG.low {ty : Option TypeId} {n B B' : Nat} {h : H} {v : Value} {cs : List Value} {len : Nat} (s : SlG ty n B h v cs len) (hB : B' ≤ B) : SlG ty n B' h v cs len := by
  rcases s with s | ⟨s1, s2, g, s3, s4, s5, s6⟩
  · exact .inl s
  · exact .inr ⟨s1, s2, g, by omega, s4, s5, s6⟩
section
variable {h : H}
set_option maxRecDepth 100000 in
set_option maxHeartbeats 4000000 in
theorem Mentions22_sp (l : List UInt8) (hl : l.length < 2 ^ 30) (from_ e : Int) (h1 : h.one = []) :
    CallW E0 X0 (.fn 20) [str l, .int .i64 from_, .int .i64 e] h (fun v h' => RdS h' v (mtL (pE l e) from_) ∧ Fr h.next h h') := by
  refine CallW.body efn20 rfl rfl rfl [] (by kernel_rfl) ?_
  simp [-wpd_seq, Tryz.f20, h1]
  iterate ((repeat rw [wpd_seq]); simp [-wpd_seq, h1])
  refine (bound_sp l (by omega) e h1).mono ?_
  rintro _ h2 ⟨rfl, rfl⟩
  obtain ⟨s, hs⟩ : ∃ s, s = pE l e := ⟨_, rfl⟩
  have hE := eE_int l e
  have hsE : s.length = eE l e := by rw [hs, pE_len]
  have heE := eE_le l e
  have heL := eE_len l e
  have hsl : s.length < 2 ^ 30 := by omega
  rw [← hs]
  obtain ⟨E, hEE⟩ : ∃ E, E = min e (eN l : Int) := ⟨_, rfl⟩
  rw [← hEE] at hE ⊢
  clear hEE
  iterate ((repeat rw [wpd_seq]); simp [-wpd_seq, h1])
  refine wpd_loop (fun (i : Nat) fr h' => fr.get 9 = some (.int .i64 (from_ + i)) ∧ (∃ v, fr.get 8 = some v ∧ SlG none 1 h2.next h' v (((mtO s from_.toNat i).foldl insS []).map str) ((mtO s from_.toNat i).foldl insS []).length) ∧ Fr h2.next h2 h' ∧ (i = 0 ∨ (0 ≤ from_ ∧ from_ + i ≤ s.length))) (fun i => ((s.length : Int) - (from_ + i)).toNat) 0 ⟨by simp, ⟨_, by simp, SlG.nil _ _ _ _⟩, Fr.refl h1, .inl rfl⟩ ?_
  rintro i fr h3 ⟨g9, ⟨v, g8, hv⟩, hF3, hi⟩ hf
  have g0 := hf 0 rfl
  have g7 := hf 7 rfl
  simp at g0 g7
  clear hf
  have h31 := hF3.one
  have hml := mtO_len s from_.toNat i
  have hnl : ((mtO s from_.toNat i).foldl insS []).length ≤ (mtO s from_.toNat i).length := by rw [foldl_rise]; exact riseL_len _
  by_cases c : 0 ≤ from_ + i ∧ from_ + i < s.length
  rotate_left
  · have hmt : mtA s from_ = mtO s from_.toNat i := by
      unfold mtA
      split
      · rcases hi with rfl | hi
        · rfl
        · omega
      · congr 1
        omega
    have hre : RdS h3 v (mtL s from_) := by
      unfold mtL
      rw [hmt, ← foldl_rise]
      rcases hv with ⟨e0, rfl, _⟩ | ⟨e0, e1, gg, a2, a3, rfl, a5⟩
      · exact .inl ⟨none, rfl, List.eq_nil_of_length_eq_zero e0⟩
      · exact .inr ⟨gg, _, _, 1, true, 0, none, rfl, Nat.le_refl _, a5, a3, List.take_of_length_le (by simp), .inr rfl⟩
    by_cases c1 : 0 ≤ from_ + i
    · have c2 : ¬ (from_ + i < E) := fun q => c ⟨c1, by omega⟩
      simp [g7, g8, g9, h31, c1, c2]
      exact ⟨hre, hF3⟩
    · simp [g7, g8, g9, h31, c1]
      exact ⟨hre, hF3⟩
  obtain ⟨ca, cb⟩ := c
  obtain ⟨a, ha⟩ : ∃ a : Nat, from_ + i = a := ⟨(from_ + i).toNat, by omega⟩
  have ha0 : 0 ≤ from_ := by omega
  have ha2 : from_.toNat + i = a := by omega
  rw [ha] at g9 ca cb
  have cb' : a < s.length := by omega
  have hEs : E = (s.length : Int) := by omega
  subst hEs
  have hsucc := mtO_succ s from_.toNat i
  rw [ha2] at hsucc
  have hw : IntKind.i64.wrap ((a : Int) + 1) = (a : Int) + 1 := wrap_succ (by omega)
  iterate ((repeat rw [wpd_seq]); simp [-wpd_seq, g0, g7, g8, g9, h31, cb'])
  have hR := Read17_sp l (by omega) a s.length (by omega) h31
  have hsg : sg l a s.length = s.drop a := by rw [hs, sg_pE, pE_len]
  rw [hsg] at hR
  refine hR.mono ?_
  rintro _ h4 ⟨rfl, hF4⟩
  have h41 := hF4.one
  have hF04 := hF3.trans (hF4.mono hF3.next)
  generalize hns : (mtO s from_.toNat i).foldl insS [] = ns at hv hnl
  have hv4 : SlG none 1 h2.next h4 v (ns.map str) ns.length := hv.of_get hF4.next fun gg _ q => hF4.get gg q
  cases hrd : rdL (s.drop a) with
  | none =>
    rw [hrd] at hsucc
    simp only [List.append_nil] at hsucc
    simp [nOk, g7, g8, g9, h41, hw]
    refine ⟨i + 1, by omega, by omega, ?_, hF04, by omega⟩
    rw [hsucc, hns]
    exact hv4
  | some n =>
    rw [hrd] at hsucc
    simp only at hsucc
    have hle := rdL_le hrd
    simp at hle
    have w2 : IntKind.i64.wrap ((a : Int) + n - 1) = (a : Int) + n - 1 := wrap_i64 (by omega) (by omega)
    have b1 : (a : Int) + 1 ≤ (a : Int) + n - 1 := by omega
    have b2 : (a : Int) + n - 1 ≤ l.length := by omega
    have b4 : ((a : Int) + n - 1).toNat = a + n - 1 := by omega
    have b5 : a + 1 ≤ a + n - 1 := by omega
    have b6 : a + n - 1 ≤ l.length := by omega
    have b7 : (1 : Int) ≤ (a : Int) + n := by omega
    have hlab : List.drop (a + 1) (List.take (a + n - 1) l) = (List.take (n - 1) (s.drop a)).drop 1 := by
      rw [hs, pE, List.take_drop, List.drop_drop, List.take_take, Nat.min_eq_left (by omega)]
      congr 2
      omega
    have hfl : CallW E0 X0 (.fn 45) [str (List.drop (a + 1) (List.take (a + n - 1) l))] h4 (fun v h' => v = str (lab (s.drop a) n) ∧ Fr h4.next h4 h') := by
      rw [hlab]
      exact Fold17_sp _ (by simp; omega) h41
    iterate ((repeat rw [wpd_seq]); simp [-wpd_seq, nOk, g0, g7, g8, g9, h41, hw, w2, b1, b2, b4, b5, b6, b7])
    refine hfl.mono ?_
    rintro _ h5 ⟨rfl, hF5⟩
    have h51 := hF5.one
    have hv5 : SlG none 1 h2.next h5 v (ns.map str) ns.length := hv4.of_get hF5.next fun gg _ q => hF5.get gg q
    have hF05 := hF04.trans (hF5.mono hF04.next)
    generalize lab (s.drop a) n = x at hsucc
    have hins : (mtO s from_.toNat (i + 1)).foldl insS [] = insS ns x := by rw [hsucc, List.foldl_append, hns]; rfl
    clear hsucc hfl hlab
    iterate ((repeat rw [wpd_seq]); simp [-wpd_seq, h51])
    obtain ⟨K, hK⟩ : ∃ K, K = (ns.takeWhile fun y => decide (y < x)).length := ⟨_, rfl⟩
    have hKl : K ≤ ns.length := hK ▸ twh_le _ _
    have hKi : ∀ k, k ≤ K → (k < K ↔ ∃ h : k < ns.length, decide (ns[k] < x) = true) := fun k hk => by subst hK; exact tw_iff _ _ _ hk
    have hins2 : insS ns x = if ns[K]? = some x then ns else ns.take K ++ x :: ns.drop K := by subst hK; rfl
    clear hK
    obtain ⟨va, rfl⟩ := hv5.slice
    refine wpd_loop (fun (k : Nat) fr h' => fr.get 13 = some (.int .i64 k) ∧ k ≤ K ∧ h' = h5) (fun k => K - k) 0 ⟨by simp, Nat.zero_le _, rfl⟩ ?_
    rintro k fr2 h6 ⟨k13, hk, rfl⟩ hf2
    have k8 := hf2 8 rfl
    have k9 := hf2 9 rfl
    have k12 := hf2 12 rfl
    simp [g8, g9] at k8 k9 k12
    clear hf2
    have hki := hKi k hk
    have hwk : IntKind.i64.wrap ((k : Int) + 1) = (k : Int) + 1 := wrap_succ (by omega)
    have hat : ∀ (cl : k < ns.length), ∃ gg, va = some ⟨gg, 0, none⟩ ∧ h2.next ≤ gg ∧ gg < h6.next ∧ h6.get gg = some (.cells (ns.map str) 1 true 0 none) := by
      intro cl
      rcases hv5 with ⟨e0, _⟩ | ⟨_, e1, gg, a2, a3, ev, a5⟩
      · omega
      · cases ev; exact ⟨gg, rfl, a2, a3, a5⟩
    by_cases hlt : ∃ h : k < ns.length, ns[k] < x
    · obtain ⟨cl, cx⟩ := hlt
      obtain ⟨gg, rfl, a2, a3, a5⟩ := hat cl
      have hkK : k < K := hki.2 ⟨cl, by simpa using cx⟩
      simp [h51, k8, k12, k13, cl, a5, cx, hwk, bytesLess_eq]
      exact ⟨k + 1, by omega, rfl, by omega⟩
    have hkK : k = K := by
      have : ¬ k < K := fun q => hlt (by obtain ⟨q1, q2⟩ := hki.1 q; exact ⟨q1, by simpa using q2⟩)
      omega
    subst hkK
    by_cases heq : ∃ h : k < ns.length, ns[k] = x
    · obtain ⟨cl, cx⟩ := heq
      obtain ⟨gg, rfl, a2, a3, a5⟩ := hat cl
      have cx2 : ¬ ns[k] < x := fun q => hlt ⟨cl, q⟩
      rw [if_pos (by rw [List.getElem?_eq_getElem cl, cx])] at hins2
      have cx3 : ¬ x < x := by rw [cx] at cx2; exact cx2
      simp [h51, k8, k9, k12, k13, cl, a5, cx, cx3, hw, bytesLess_eq]
      refine ⟨i + 1, by omega, by omega, ?_, hF05, by omega⟩
      rw [hins, hins2]
      exact hv5
    have hne : ¬ ns[k]? = some x := fun q => heq (by obtain ⟨q1, q2⟩ := List.getElem?_eq_some_iff.1 q; exact ⟨q1, q2⟩)
    rw [if_neg hne] at hins2
    by_cases cl : k < ns.length
    · obtain ⟨gg, rfl, a2, a3, a5⟩ := hat cl
      have cx2 : ¬ ns[k] < x := fun q => hlt ⟨cl, q⟩
      have cx3 : ¬ ns[k] = x := fun q => heq ⟨cl, q⟩
      iterate ((repeat rw [wpd_seq]); simp [-wpd_seq, h51, k8, k9, k12, k13, cl, hKl, a5, cx2, cx3, hw, bytesLess_eq])
      have hif : (if k = 0 then some (0, []) else some (k, List.take k (List.map str ns))) = some (k, (ns.take k).map str) := by
        by_cases q : k = 0
        · subst q; rfl
        · rw [if_neg q, List.map_take]
      have hB : h2.next ≤ h6.next := hF05.next
      have hx7 : ((ns.take k).map str).length = k * 1 := by simp; omega
      rw [hif, appX_some, if_pos hx7]
      refine (SlG.nil none 1 h6.next h6).app (by' := 16) h51 (Nat.le_refl _) hx7 (by decide) (cv_str _) (by omega) (by decide) (.inl rfl) ?_
      intro v7 h7 q1 q2
      rw [List.nil_append, Nat.zero_add] at q1
      have h71 := q2.one
      obtain ⟨v7a, rfl⟩ := q1.slice
      iterate ((repeat rw [wpd_seq]); simp [-wpd_seq, h71, k12, zerosD, List.range, List.range.loop])
      refine (q1.nw _).app (by' := 16) (xs := [str x]) (by simp [h71]) (by have := q2.next; simp; omega) (by rfl) (by decide) (by rfl) (by omega) (by decide) (.inl rfl) ?_
      intro v8 h8 q3 q4
      have h81 := q4.one
      have hF68 : Fr h6.next h6 h8 := q2.trans (((Fr.refl h71).nw q2.next _).trans q4)
      have a58 := (hF68.get gg a3).trans a5
      obtain ⟨v8a, rfl⟩ := q3.slice
      iterate ((repeat rw [wpd_seq]); simp [-wpd_seq, h81, k8, k13, hKl, a58])
      have hif2 : (if ns.length - k = 0 then some (0, []) else some (ns.length - k, List.take (ns.length - k) (List.drop k (List.map str ns)))) = some (ns.length - k, (ns.drop k).map str) := by
        rw [if_neg (by omega), ← List.map_drop, List.take_of_length_le (by simp)]
      have hx8 : ((ns.drop k).map str).length = (ns.length - k) * 1 := by simp
      rw [hif2, appX_some, if_pos hx8]
      refine q3.app (by' := 16) h81 hF68.next hx8 (by decide) (cv_str _) (by omega) (by decide) (.inl rfl) ?_
      intro v9 h9 q5 q6
      have hF09 : Fr h2.next h2 h9 := hF05.trans ((hF68.trans q6).mono hB)
      simp [q6.one, k9, hw]
      refine ⟨i + 1, by omega, by omega, ?_, hF09, by omega⟩
      rw [hins, hins2]
      have e1 : (ns.take k).map str ++ [str x] ++ (ns.drop k).map str = (ns.take k ++ x :: ns.drop k).map str := by simp
      have e2 : k + 1 + (ns.length - k) = (ns.take k ++ x :: ns.drop k).length := by simp; omega
      rw [e1, e2] at q5
      exact q5.low hB
    · have hkn : k = ns.length := by omega
      subst hkn
      cases va with
      | none =>
        have hn0 : ns = [] := by
          rcases hv5 with ⟨e0, _⟩ | ⟨_, e1, gg, a2, a3, ev, a5⟩
          · exact List.eq_nil_of_length_eq_zero e0
          · cases ev
        subst hn0
        iterate ((repeat rw [wpd_seq]); simp [-wpd_seq, h51, k8, k9, k12, k13, cl, hw, zerosD, List.range, List.range.loop])
        have hFn : Fr h2.next h2 ((h6.nw (.cells [str x] 1 true 0 none)).nw (.cells [str x] 1 true 0 none)) := (hF05.nw hF05.next _).nw (by have := hF05.next; simp; omega) _
        refine ⟨i + 1, by omega, by omega, ?_, hFn, by omega⟩
        rw [hins, hins2]
        exact .inr ⟨by simp, by simp, h6.next + 1, by have := hF05.next; omega, by simp, rfl, by simp⟩
      | some aa =>
        rcases hv5 with ⟨e0, ev, _⟩ | ⟨e0, e1, gg, a2, a3, ev, a5⟩
        · cases ev
        cases ev
        iterate ((repeat rw [wpd_seq]); simp [-wpd_seq, h51, k8, k9, k12, k13, cl, a5, hw])
        have hn0 : ¬ ns = [] := fun q => by rw [q] at e0; simp at e0
        have hif : (if ns = [] then some (0, []) else some (ns.length, List.take ns.length (List.map str ns))) = some (ns.length, ns.map str) := by
          rw [if_neg hn0, List.take_of_length_le (by simp)]
        have hB : h2.next ≤ h6.next := hF05.next
        have hx7 : (ns.map str).length = ns.length * 1 := by simp
        rw [hif, appX_some, if_pos hx7]
        refine (SlG.nil none 1 h6.next h6).app (by' := 16) h51 (Nat.le_refl _) hx7 (by decide) (cv_str _) (by omega) (by decide) (.inl rfl) ?_
        intro v7 h7 q1 q2
        rw [List.nil_append, Nat.zero_add] at q1
        have h71 := q2.one
        obtain ⟨v7a, rfl⟩ := q1.slice
        iterate ((repeat rw [wpd_seq]); simp [-wpd_seq, h71, k12, zerosD, List.range, List.range.loop])
        refine (q1.nw _).app (by' := 16) (xs := [str x]) (by simp [h71]) (by have := q2.next; simp; omega) (by rfl) (by decide) (by rfl) (by omega) (by decide) (.inl rfl) ?_
        intro v8 h8 q3 q4
        have h81 := q4.one
        have hF68 : Fr h6.next h6 h8 := q2.trans (((Fr.refl h71).nw q2.next _).trans q4)
        have a58 := (hF68.get gg a3).trans a5
        obtain ⟨v8a, rfl⟩ := q3.slice
        iterate ((repeat rw [wpd_seq]); simp [-wpd_seq, h81, k8, k9, k13, a58, hw])
        refine q3.app (k := 0) (by' := 16) (xs := []) h81 hF68.next (by rfl) (by decide) (by rfl) (by omega) (by decide) (.inl rfl) ?_
        intro v9 h9 q5 q6
        have hF09 : Fr h2.next h2 h9 := hF05.trans ((hF68.trans q6).mono hB)
        simp [q6.one, k9, hw]
        refine ⟨i + 1, by omega, by omega, ?_, hF09, by omega⟩
        rw [hins, hins2, List.take_length, List.drop_length]
        have e1 : ns.map str ++ [str x] ++ [] = (ns ++ [x]).map str := by simp
        have e2 : ns.length + 1 + 0 = (ns ++ [x]).length := by simp
        rw [e1, e2] at q5
        exact q5.low hB
theorem mt_ab : mtL (pE [91, 66, 93, 32, 91, 97, 93] 9) 0 = [[97], [98]] := by unfold mtL; rw [← foldl_rise]; decide +kernel
end
end Go.Dm
namespace Go.Dm
open Go.Proofs
/-- A row of own texts, or none yet. -/
def Gath (B : Nat) (h : H) (v : Value) (l : List (List UInt8)) : Prop := (v = .slice none 0 0 ∧ l = []) ∨ (l ≠ [] ∧ SlC none 1 B h v (l.map str) l.length)
theorem Gath.of_get {B : Nat} {h h' : H} {v : Value} {l : List (List UInt8)} (s : Gath B h v l) (hn : h.next ≤ h'.next) (hg : ∀ g, B ≤ g → g < h.next → h'.get g = h.get g) : Gath B h' v l := s.imp id fun ⟨a, b⟩ => ⟨a, b.of_get hn hg⟩
theorem Gath.rd {B : Nat} {h : H} {v : Value} {l : List (List UInt8)} (s : Gath B h v l) : RdS h v l := by
  rcases s with s | ⟨_, g, cap, c, a1, a2, a3, a4, a5, a6, a7⟩
  · exact .inl ⟨none, s⟩
  · rw [Nat.mul_one] at a7
    exact .inr ⟨g, cap, c, 1, true, 0, none, a1, a2, a5, a4, a7, .inr rfl⟩
theorem Gath.up {B C : Nat} {h : H} {v : Value} {l : List (List UInt8)} (g : Gath C h v l) (hb : B ≤ C) : Gath B h v l := g.imp id fun ⟨a, g, cp, c, s1, s2, s3, s4⟩ => ⟨a, g, cp, c, s1, s2, Nat.le_trans hb s3, s4⟩
theorem Gath.blk {B : Nat} {h : H} {v : Value} {l : List (List UInt8)} (s : Gath B h v l) : ∀ g x y, v = .slice (some ⟨g, 0, none⟩) x y → B ≤ g ∧ g < h.next := by
  intro g x y e
  rcases s with ⟨rfl, _⟩ | ⟨_, g', cap, c, a1, a2, a3, a4, _⟩
  · cases e
  · rw [a1] at e; cases e; exact ⟨a3, a4⟩
theorem RdS.of_blk {h h' : H} {v : Value} {l : List (List UInt8)} (r : RdS h v l) (hn : h.next ≤ h'.next) (hg : ∀ g x y, v = .slice (some ⟨g, 0, none⟩) x y → h'.get g = h.get g) : RdS h' v l := by
  rcases r with r | ⟨b, cap, c, st, own, fz, ty, a1, a2, a3, a4, a5⟩
  · exact .inl r
  · exact .inr ⟨b, cap, c, st, own, fz, ty, a1, a2, (hg b _ _ a1).trans a3, Nat.lt_of_lt_of_le a4 hn, a5⟩
theorem src_rd {h : H} {x : Value} {X : List (List UInt8)} (r : RdS h x X) : srcD 1 x h = some (X.length, X.map str) := by
  rcases r with ⟨a, rfl, rfl⟩ | ⟨b, cap, c, st, own, fz, ty, rfl, a2, a3, a4, a5, a6⟩
  · cases a <;> rfl
  · have hl := congrArg List.length a5
    simp at hl
    by_cases h0 : X.length = 0
    · have : X = [] := List.eq_nil_of_length_eq_zero h0
      subst this
      rfl
    · simp only [srcD_some, h0, if_false]
      rcases a6 with rfl | rfl <;> simp [readD, a3, a5, h0] <;> omega
theorem app_eq {h : H} {v x : Value} {X : List (List UInt8)} (r : srcD 1 x h = some (X.length, X.map str)) : appendD E0 [26, 26] v x h = appS none 9 1 16 v X.length (X.map str) h := by
  rw [appendD_eq]
  simp [r]
/-- Labels go behind those that came. -/
theorem app_gath {B : Nat} {h : H} {v x : Value} {O X : List (List UInt8)} (ga : Gath B h v O) (rx : srcD 1 x h = some (X.length, X.map str)) (h1 : h.one = []) (hB : B ≤ h.next) (hl : O.length + X.length < 2 ^ 30) {K : VPost}
    (hK : ∀ v' h', Gath B h' v' (O ++ X) → Fr B h h' → h'.next ≤ h.next + 1 → (∀ b, b < h.next → (∀ g x y, v = .slice (some ⟨g, 0, none⟩) x y → g ≠ b) → h'.get b = h.get b) → (∀ g x y, v' = .slice (some ⟨g, 0, none⟩) x y → (∃ x y, v = .slice (some ⟨g, 0, none⟩) x y) ∨ g = h.next) → K v' h') :
    OptW (appendD E0 [26, 26] v x h) K := by
  rw [app_eq rx]
  rcases ga with ⟨rfl, rfl⟩ | ⟨e0, sl⟩
  · rw [appS_nil]
    by_cases h0 : X.length = 0
    · have hX : X = [] := List.eq_nil_of_length_eq_zero h0
      subst hX
      rw [if_pos (show ([] : List (List UInt8)).length = 0 from rfl), OptW.some]
      exact hK _ _ (.inl ⟨rfl, rfl⟩) (Fr.refl h1) (Nat.le_succ _) (fun _ _ _ => rfl) (fun g x y e => by cases e)
    · rw [if_neg h0, if_pos ⟨by omega, by omega⟩, OptW.some, addr_one h h1, new_one _ _ h1]
      refine hK _ _ (.inr ⟨fun e => h0 (by rw [List.nil_append] at e; rw [e]; rfl), h.next, X.length, X.map str, rfl, Nat.le_refl _, hB, by simp, by simp, by simp, by rw [Nat.mul_one]; exact List.take_of_length_le (by simp)⟩) ((Fr.refl h1).nw hB _) (by simp) (fun b hb _ => by rw [get_nw, if_neg (by omega)]) (fun g x y e => by cases e; exact .inr rfl)
  · by_cases h0 : X.length = 0
    · have hX : X = [] := List.eq_nil_of_length_eq_zero h0
      subst hX
      obtain ⟨g, cap, c, rfl, s2, s3, s4, s5, s6, s7⟩ := id sl
      rw [appS_some, if_pos (show ([] : List (List UInt8)).length = 0 from rfl), OptW.some]
      refine hK _ _ (.inr ⟨by simpa using e0, by simpa using sl⟩) (Fr.refl h1) (Nat.le_succ _) (fun _ _ _ => rfl) (fun g x y e => by cases e; exact .inl ⟨_, _, rfl⟩)
    · refine SlC.app sl h1 hB (by simp) h0 (by simp) (by rw [List.all_map]; exact List.all_eq_true.2 fun _ _ => rfl) (by omega) (by omega) (.inl rfl) ?_
      intro v' h' q1 q2 q3 q4 q5
      refine hK v' h' (.inr ⟨fun e => e0 (List.append_eq_nil_iff.1 e).1, ?_⟩) q2 q3 q4 q5
      rw [List.length_append, List.map_append]
      exact q1
/-- Those of the known labels that are mentioned. -/
def fewL (M ks : List (List UInt8)) : List (List UInt8) := M.flatMap fun x => ks.filter fun y => decide (x = y)
def moreL (M ks os : List (List UInt8)) : List (List UInt8) := ks ++ os.filter fun o => !decide (o ∈ M)
theorem few_mem {M ks : List (List UInt8)} {x : List UInt8} (hx : x ∈ M) : x ∈ fewL M ks ↔ x ∈ ks := by
  unfold fewL
  simp only [List.mem_flatMap, List.mem_filter, decide_eq_true_eq]
  exact ⟨fun ⟨_, _, h, _⟩ => h, fun h => ⟨x, hx, h, rfl⟩⟩
theorem more_mem {M ks os : List (List UInt8)} {x : List UInt8} (hx : x ∈ M) : x ∈ moreL M ks os ↔ x ∈ ks := by
  unfold moreL
  simp only [List.mem_append, List.mem_filter, Bool.not_eq_true', decide_eq_false_iff_not]
  exact ⟨fun h => h.elim id fun ⟨_, q⟩ => absurd hx q, .inl⟩
theorem few_len (ks : List (List UInt8)) : ∀ M : List (List UInt8), (fewL M ks).length ≤ M.length * ks.length
  | [] => by simp [fewL]
  | x :: M => by
    have h1 := few_len ks M
    have h2 : (ks.filter fun y => decide (x = y)).length ≤ ks.length := List.length_filter_le _ _
    have h3 : (fewL (x :: M) ks).length = (ks.filter fun y => decide (x = y)).length + (fewL M ks).length := by simp [fewL]
    rw [h3, List.length_cons, Nat.succ_mul]
    omega
theorem lks_same {l : List UInt8} {a e : Int} {ks ns : List (List UInt8)} (h : ∀ x ∈ mtL (pE l e) a, x ∈ ns ↔ x ∈ ks) : lksOf l a e ns = lksOf l a e ks := by
  unfold lksOf
  refine lksL_congr fun h0 j n hj hr => ?_
  exact decide_eq_decide.2 (h _ ((mtL_mem _ _ _).2 ⟨h0, j, n, hj, hr, rfl⟩))
theorem mtL_len (l : List UInt8) (e a : Int) : (mtL (pE l e) a).length ≤ l.length := by
  have h1 := riseL_len (mtA (pE l e) a)
  have h2 : (mtA (pE l e) a).length ≤ (pE l e).length := by
    unfold mtA
    split
    · simp
    · exact Nat.le_trans (mtO_len _ _ _) (by omega)
  have h3 := pE_len l e
  have h4 := eE_len l e
  unfold mtL
  omega
section
variable {h : H}
end
end Go.Dm
namespace Go.Dm
open Go.Proofs
theorem pE_pE {l : List UInt8} {e : Int} : pE l (pE l e).length = pE l e ∧ eE l (pE l e).length = (pE l e).length := by
  have h1 := pE_len l e
  have h2 := eE_le l e
  have h3 : eE l (pE l e).length = (pE l e).length := by unfold eE; omega
  refine ⟨?_, h3⟩
  unfold pE at *
  rw [h3, h1]
theorem encLsAt : ∀ (l : List Lk) (i j : Nat) (hi : i < l.length), j < 5 → (encLs l)[i * 5 + j]? = (encLk l[i])[j]?
  | x :: l, 0, j, hi, hj => by
    show (encLk x ++ encLs l)[0 * 5 + j]? = _
    rw [show 0 * 5 + j = j by omega, List.getElem?_append_left (by simp [encLk]; omega)]
    rfl
  | x :: l, i + 1, j, hi, hj => by
    show (encLk x ++ encLs l)[(i + 1) * 5 + j]? = _
    have e : (i + 1) * 5 + j - (encLk x).length = i * 5 + j := by simp [encLk]; omega
    rw [List.getElem?_append_right (by simp [encLk]; omega), e, encLsAt l i j (by simpa using hi) hj]
    rfl
theorem encLs_cut (L : List Lk) (k : Nat) (h : k ≤ L.length) : (encLs L).take (k * 5) = encLs (L.take k) ∧ (encLs L).drop (k * 5) = encLs (L.drop k) := by
  have hl : (encLs (L.take k)).length = k * 5 := by rw [encLs_len, List.length_take, Nat.min_eq_left h]
  have e : encLs L = encLs (L.take k) ++ encLs (L.drop k) := by rw [← encLs_app, List.take_append_drop]
  rw [e, ← hl, List.take_left, List.drop_left]
  exact ⟨rfl, rfl⟩
theorem cv_lk (l : List Lk) : (encLs l).all cellV = true := by
  rw [List.all_eq_true]
  intro y hy
  unfold encLs at hy
  obtain ⟨z, _, hz⟩ := List.mem_flatMap.1 hy
  simp [encLk] at hz
  rcases hz with rfl | rfl | rfl | rfl | rfl <;> rfl
section
variable {h : H}
set_option maxHeartbeats 4000000 in
theorem among_sp (s : List UInt8) (ns : List (List UInt8)) (v : Value) (hl : ns.length < 2 ^ 31) (hr : RdS h v ns) (h1 : h.one = []) :
    CallW E0 X0 (.fn 81) [str s, v] h (fun r h' => r = .bool (decide (s ∈ ns)) ∧ h' = h) := by
  refine CallW.body efn81 rfl rfl rfl [] (by kernel_rfl) ?_
  obtain ⟨a, c, rfl⟩ := hr.sl
  simp [Tryz.f81, h1]
  refine wpd_loop (fun (i : Nat) fr h' => fr.get 5 = some (.int .i64 i) ∧ i ≤ ns.length ∧ h' = h ∧ s ∉ ns.take i) (fun i => ns.length - i) 0 ⟨by simp, Nat.zero_le _, rfl, by simp⟩ ?_
  rintro i fr h' ⟨g5, hi, rfl, hq⟩ hf
  have g0 := hf 0 rfl
  have g1 := hf 1 rfl
  simp at g0 g1
  clear hf
  by_cases ci : i < ns.length
  · obtain ⟨gb, cap, cs, b1, b2, b3, b4, e1, b5, b6, b7⟩ := hr.at ci
    cases e1
    have hw : IntKind.i64.wrap ((i : Int) + 1) = (i : Int) + 1 := wrap_succ (by omega)
    by_cases hx : ns[i] = s
    · have hm : s ∈ ns := by rw [← hx]; exact List.getElem_mem ci
      simp [h1, g0, g1, g5, ci, b5, b6, hx, hm]
    · simp [h1, g0, g1, g5, ci, b5, b6, hx, hw]
      refine ⟨i + 1, by omega, by omega, by omega, ?_⟩
      rw [List.take_succ_eq_append_getElem ci, List.mem_append, List.mem_singleton, not_or]
      exact ⟨hq, fun q => hx q.symm⟩
  · have hm : s ∉ ns := by rwa [show i = ns.length by omega, List.take_length] at hq
    simp [h1, g0, g1, g5, ci, hm]
set_option maxRecDepth 100000 in
set_option maxHeartbeats 4000000 in
theorem ends22_sp (l : List UInt8) (hl : l.length < 2 ^ 30) (e0 : Int) (s : List UInt8) (hs : s = pE l e0) (ns : List (List UInt8)) (hns : ns.length < 2 ^ 31) (kv : Value) (hk : RdS h kv ns) (k : Nat) (x : Opn) (hx : 1 ≤ x.o) (hxk : x.o ≤ k) (hkl : k < s.length) (h1 : h.one = []) :
    CallW E0 X0 (.fn 38) [str l, opV x, .int .i64 k, .int .i64 s.length, kv] h (fun v h' => v = .int .i64 (match endL (fun y => decide (y ∈ ns)) s x.o k with | some e => (e : Int) | none => -1) ∧ Fr h.next h h') := by
  refine CallW.body efn38 rfl rfl rfl [] (by kernel_rfl) ?_
  obtain ⟨p1, p2⟩ := pE_pE (l := l) (e := e0)
  rw [← hs] at p1 p2
  have hsl : s.length ≤ l.length := by have := eE_len l (s.length : Int); omega
  have hsN : s.length ≤ eN l := by have := eE_le l (s.length : Int); omega
  have hst : s = l.take s.length := by
    have : pE l (s.length : Int) = l.take s.length := by unfold pE; rw [p2]
    rw [← this, p1]
  have hsg : ∀ a, sg l a s.length = s.drop a := fun a => by unfold sg; rw [← hst]
  have wk : IntKind.i64.wrap ((k : Int) + 1) = ((k + 1 : Nat) : Int) := by rw [wrap_i64 (by omega) (by omega)]; omega
  obtain ⟨ka, kc, rfl⟩ := hk.sl
  simp [-wpd_seq, Tryz.f38, h1, opV]
  iterate 1 ((repeat rw [wpd_seq]); simp [-wpd_seq, h1])
  obtain ⟨h2, hh2⟩ : ∃ h2, h2 = h.nw (.cells [.int .i64 x.f, .int .i64 x.o, .bool x.img, .bool x.bar] 0 true 0 none) := ⟨_, rfl⟩
  rw [← hh2]
  have hF2 : Fr h.next h h2 := by rw [hh2]; exact (Fr.refl h1).nw (Nat.le_refl _) _
  have hx2 : h2.get h.next = some (.cells [.int .i64 x.f, .int .i64 x.o, .bool x.img, .bool x.bar] 0 true 0 none) := by rw [hh2]; simp
  have hn2 : h2.next = h.next + 1 := by rw [hh2]; simp
  clear hh2
  have h21 := hF2.one
  have hk2 := hk.fr hF2
  have wk1 : IntKind.i64.wrap ((k : Int) + 1) = (k : Int) + 1 := wrap_succ (by omega)
  have hT := Target22_sp l (by omega) ((k + 1 : Nat) : Int) s.length h21
  have ht : tgO (pE l s.length) ((k + 1 : Nat) : Int) = nOk (tgL (s.drop (k + 1))) (k + 1) := by
    rw [p1]
    unfold tgO
    rw [if_neg (by omega), Int.toNat_natCast]
  rw [ht, show ((k + 1 : Nat) : Int) = (k : Int) + 1 by omega] at hT
  have labs : ∀ a n, rdL (s.drop a) = some n → a < s.length → 2 ≤ n ∧ a + n ≤ s.length ∧ List.drop (a + 1) (List.take (a + n - 1) l) = (List.take (n - 1) (s.drop a)).drop 1 := fun a n hn ha => by
    have hle := rdL_le hn
    simp at hle
    refine ⟨hle.1, by omega, ?_⟩
    conv => rhs; rw [hst]
    rw [List.take_drop, List.drop_drop, List.take_take, Nat.min_eq_left (by omega)]
    congr 2
    omega
  have hR : ∀ (h' : H) (a : Nat), h'.one = [] → CallW E0 X0 (.fn 44) [str l, .int .i64 a, .int .i64 s.length] h' (fun v h'' => v = nOk (rdL (s.drop a)) a ∧ Fr h'.next h' h'') := fun h' a hh => by
    have := Read17_sp l (by omega) a s.length hsN hh
    rwa [hsg] at this
  have hR1 : ∀ h' : H, h'.one = [] → CallW E0 X0 (.fn 44) [str l, .int .i64 ((k : Int) + 1), .int .i64 s.length] h' (fun v h'' => v = nOk (rdL (s.drop (k + 1))) (k + 1) ∧ Fr h'.next h' h'') := fun h' hh => by
    have := hR h' (k + 1) hh
    rwa [show ((k + 1 : Nat) : Int) = (k : Int) + 1 by omega] at this
  iterate ((repeat rw [wpd_seq]); simp [-wpd_seq, h21, wk1])
  refine hT.mono ?_
  rintro _ h3 ⟨rfl, rfl⟩
  unfold endL
  cases htg : tgL (s.drop (k + 1)) with
  | some n =>
    simp [nOk, h21, hF2]
    try omega
  | none =>
    iterate ((repeat rw [wpd_seq]); simp [-wpd_seq, nOk, h21])
    refine (hR1 h3 h21).mono ?_
    rintro _ h4 ⟨rfl, hF4⟩
    have h41 := hF4.one
    have hF04 := hF2.trans (hF4.mono hF2.next)
    have hk4 := hk2.fr hF4
    have hx4 := (hF4.get h.next (by omega)).trans hx2
    cases hrd : rdL (s.drop (k + 1)) with
    | some n =>
      have hk1l : k + 1 < s.length := by
        have := rdL_le hrd
        simp at this
        omega
      obtain ⟨n2, n3, n4⟩ := labs (k + 1) n hrd hk1l
      have b0 : IntKind.i64.wrap ((k : Int) + 1 + 1) = (k : Int) + 1 + 1 := wrap_i64 (by omega) (by omega)
      have w2 : IntKind.i64.wrap ((k : Int) + 1 + n - 1) = (k : Int) + 1 + n - 1 := wrap_i64 (by omega) (by omega)
      have b1 : (k : Int) + 1 + 1 ≤ (k : Int) + 1 + n - 1 := by omega
      have b2 : (k : Int) + 1 + n - 1 ≤ l.length := by omega
      have b4 : ((k : Int) + 1 + n - 1).toNat = k + 1 + n - 1 := by omega
      have b4' : ((k : Int) + 1 + 1).toNat = k + 1 + 1 := by omega
      have b5 : k + 1 + 1 ≤ k + 1 + n - 1 := by omega
      have b6 : k + 1 + n - 1 ≤ l.length := by omega
      rw [show k + 1 + 1 = k + 2 by omega, show k + 1 + n - 1 = k + n by omega] at n4
      have hfl : CallW E0 X0 (.fn 45) [str (List.drop (k + 2) (List.take (k + n) l))] h4 (fun v h' => v = str (lab (s.drop (k + 1)) n) ∧ Fr h4.next h4 h') := by
        rw [n4]
        exact Fold17_sp _ (by simp; omega) h41
      iterate ((repeat rw [wpd_seq]); simp [-wpd_seq, nOk, h41, wk1, b0, w2, b1, b2, b4, b4', b5, b6])
      refine And.intro ⟨by omega, by omega⟩ ?_
      refine hfl.mono ?_
      rintro _ h5 ⟨rfl, hF5⟩
      have hF05 := hF04.trans (hF5.mono hF04.next)
      simp [hF5.one]
      refine (among_sp (lab (s.drop (k + 1)) n) ns _ hns (hk4.fr hF5) hF5.one).mono ?_
      rintro _ h6 ⟨rfl, rfl⟩
      by_cases q : lab (s.drop (k + 1)) n ∈ ns
      · simp [hF5.one, q]
        try exact ⟨by omega, hF05⟩
        try exact hF05
      · simp [hF5.one, q]
        exact hF05
    | none =>
      have wo : IntKind.i64.wrap ((x.o : Int) - 1) = ((x.o - 1 : Nat) : Int) := wrap_pred hx (by omega)
      iterate ((repeat rw [wpd_seq]); simp [-wpd_seq, nOk, h41, hx4, wo])
      refine (hR h4 (x.o - 1) h41).mono ?_
      rintro _ h5 ⟨rfl, hF5⟩
      have h51 := hF5.one
      have hF05 := hF04.trans (hF5.mono hF04.next)
      have hk5 := hk4.fr hF5
      have hx5 := (hF5.get h.next (by have := hF4.next; omega)).trans hx4
      cases hro : rdL (s.drop (x.o - 1)) with
      | none =>
        simp [nOk, h51]
        exact hF05
      | some n =>
        obtain ⟨n2, n3, n4⟩ := labs (x.o - 1) n hro (by omega)
        simp only [nOk]
        by_cases q : x.o - 1 + n = k + 1
        · have q' : (((x.o - 1 : Nat) : Int) + n) = (k : Int) + 1 := by omega
          rw [show x.o - 1 + 1 = x.o by omega, show x.o - 1 + n - 1 = k by omega] at n4
          have b1 : (x.o : Int) ≤ k := by omega
          have b2 : (k : Int) ≤ l.length := by omega
          have b3 : k ≤ l.length := by omega
          have hfl : CallW E0 X0 (.fn 45) [str (List.drop x.o (List.take k l))] h5 (fun v h' => v = str (lab (s.drop (x.o - 1)) n) ∧ Fr h5.next h5 h') := by
            rw [n4]
            exact Fold17_sp _ (by simp; omega) h51
          iterate 1 ((repeat rw [wpd_seq]); simp [-wpd_seq, h51, hx5, wk1, eq_true q, eq_true q', hxk, b1, b2, b3])
          iterate 1 ((repeat rw [wpd_seq]); simp [-wpd_seq, h51, hx5, wk1, eq_true q, eq_true q', hxk, b1, b2, b3])
          refine hfl.mono ?_
          rintro _ h6 ⟨rfl, hF6⟩
          have h61 := hF6.one
          have hF06 := hF05.trans (hF6.mono hF05.next)
          simp [-wpd_seq, h61]
          refine (among_sp (lab (s.drop (x.o - 1)) n) ns _ hns (hk5.fr hF6) h61).mono ?_
          rintro _ h7 ⟨rfl, rfl⟩
          by_cases c0 : lab (s.drop (x.o - 1)) n ∈ ns
          rotate_left
          · simp [h61, c0]
            exact hF06
          have wk2 : IntKind.i64.wrap ((k : Int) + 1 + 1) = ((k + 2 : Nat) : Int) := by rw [wrap_i64 (by omega) (by omega)]; omega
          have wk3 : IntKind.i64.wrap ((k : Int) + 1 + 2) = (k : Int) + 3 := by rw [wrap_i64 (by omega) (by omega)]; omega
          have wk22 : IntKind.i64.wrap ((k : Int) + 1 + 1) = (k : Int) + 2 := by rw [wk2]; omega
          simp [-wpd_seq, h61, c0]
          by_cases d1 : k + 2 < s.length
          · have ix1 := idxB_nat (l := l) (show k + 1 < l.length by omega)
            have ix2 := idxB_nat (l := l) (show k + 2 < l.length by omega)
            have hp := pfx_two 91 93 s (k + 1) (by omega)
            have d1' : (k : Int) + 2 < s.length := by omega
            have be1 : bt s (k + 1) = bt l (k + 1) := by rw [hs]; exact bt_pE (by rw [← pE_len, ← hs]; omega)
            have be2 : bt s (k + 1 + 1) = bt l (k + 2) := by rw [hs]; exact bt_pE (by rw [← pE_len, ← hs]; omega)
            rw [be1, be2] at hp
            rw [show ((k + 1 : Nat) : Int) = (k : Int) + 1 by omega] at ix1
            rw [show ((k + 2 : Nat) : Int) = (k : Int) + 2 by omega] at ix2
            by_cases d2 : (bt l (k + 1)).toNat = 91
            · have d22 : bt l (k + 1) = 91 := UInt8.toNat_inj.1 d2
              by_cases d3 : (bt l (k + 2)).toNat = 93
              · have d33 : bt l (k + 2) = 93 := UInt8.toNat_inj.1 d3
                rw [decide_eq_true ⟨d22, by omega, d33⟩] at hp
                simp [h61, wk1, wk22, wk3, d1, d1', ix1, ix2, eq_true d2, eq_true d3, hp]
                try exact hF06
              · have d33 : ¬ bt l (k + 2) = 93 := fun z => d3 (by rw [z]; rfl)
                rw [decide_eq_false fun z => d33 z.2.2] at hp
                simp [h61, wk1, wk22, wk3, d1, d1', ix1, ix2, eq_true d2, d3, hp]
                try exact hF06
            · have d22 : ¬ bt l (k + 1) = 91 := fun z => d2 (by rw [z]; rfl)
              rw [decide_eq_false fun z => d22 z.1] at hp
              simp [h61, wk1, wk22, wk3, d1, d1', ix1, ix2, d2, hp]
              try exact hF06
          · have d1' : ¬ (k : Int) + 2 < s.length := by omega
            have hp : Lib.hasPrefix (s.drop (k + 1)) [91, 93] = false := by
              by_cases z : k + 1 < s.length
              · rw [pfx_two 91 93 s (k + 1) z]
                exact decide_eq_false fun z => d1 z.2.1
              · rw [List.drop_eq_nil_of_le (by omega)]
                rfl
            simp [h61, wk1, wk22, wk3, d1, d1', hp]
            try exact hF06
        · have q' : ¬ (((x.o - 1 : Nat) : Int) + n) = (k : Int) + 1 := by omega
          simp [h51, wk1, q, q']
          exact hF05
set_option maxRecDepth 100000 in
set_option maxHeartbeats 4000000 in
theorem put22_sp {B : Nat} (L : List Lk) (x : Lk) (v : Value) (hl : L.length < 2 ^ 30) (hv : SlG none 5 B h v (encLs L) L.length) (h1 : h.one = []) :
    CallW E0 X0 (.fn 39) [v, .agg (encLk x).toArray] h (fun r h' => SlG none 5 h.next h' r (encLs (putL L x)) (putL L x).length ∧ Fr h.next h h') := by
  refine CallW.body efn39 rfl rfl rfl [] (by kernel_rfl) ?_
  obtain ⟨va, rfl⟩ := hv.slice
  have hx0 : encLk x = [.int .i64 x.f, .int .i64 x.o, .int .i64 x.m, .int .i64 x.t, .bool x.i] := rfl
  simp [-wpd_seq, Tryz.f39, h1, hx0]
  iterate 1 ((repeat rw [wpd_seq]); simp [-wpd_seq, h1])
  obtain ⟨h2, hh2⟩ : ∃ h2, h2 = h.nw (.cells [.int .i64 x.f, .int .i64 x.o, .int .i64 x.m, .int .i64 x.t, .bool x.i] 0 true 0 none) := ⟨_, rfl⟩
  rw [← hh2]
  have hF2 : Fr h.next h h2 := by rw [hh2]; exact (Fr.refl h1).nw (Nat.le_refl _) _
  have hx2 : h2.get h.next = some (.cells [.int .i64 x.f, .int .i64 x.o, .int .i64 x.m, .int .i64 x.t, .bool x.i] 0 true 0 none) := by rw [hh2]; simp
  have hn2 : h2.next = h.next + 1 := by rw [hh2]; simp
  have hvl := hv.lt
  have hv2 : SlG none 5 B h2 (.slice va L.length L.length) (encLs L) L.length := by rw [hh2]; exact hv.nw _
  clear hh2
  have h21 := hF2.one
  iterate ((repeat rw [wpd_seq]); simp [-wpd_seq, h21])
  obtain ⟨K, hK⟩ : ∃ K, K = (L.takeWhile fun z => decide (z.f < x.f)).length := ⟨_, rfl⟩
  have hKl : K ≤ L.length := hK ▸ twh_le _ _
  have hKi : ∀ k, k ≤ K → (k < K ↔ ∃ h : k < L.length, decide (L[k].f < x.f) = true) := fun k hk => by subst hK; exact tw_iff _ _ _ hk
  have hput : putL L x = L.take K ++ x :: L.drop K := by subst hK; rfl
  rw [hput]
  clear hK hput
  refine wpd_loop (fun (k : Nat) fr h' => fr.get 5 = some (.int .i64 k) ∧ k ≤ K ∧ h' = h2) (fun k => K - k) 0 ⟨by simp, Nat.zero_le _, rfl⟩ ?_
  rintro k fr h6 ⟨k5, hk, rfl⟩ hf2
  have k0 := hf2 0 rfl
  have k3 := hf2 3 rfl
  simp at k0 k3
  clear hf2
  have hki := hKi k hk
  have hwk : IntKind.i64.wrap ((k : Int) + 1) = (k : Int) + 1 := wrap_succ (by omega)
  have hat : ∀ (cl : k < L.length), ∃ gg, va = some ⟨gg, 0, none⟩ ∧ gg < h.next ∧ h6.get gg = some (.cells (encLs L) 5 true 0 none) := by
    intro cl
    rcases hv2 with ⟨e0, _⟩ | ⟨_, e1, gg, a2, a3, ev, a5⟩
    · omega
    · cases ev; exact ⟨gg, rfl, (hvl gg _ _ rfl).2, a5⟩
  have hel := encLs_len L
  have hfk : ∀ (cl : k < L.length), ∃ q : k * 5 < (encLs L).length, (encLs L)[k * 5]'q = .int .i64 L[k].f := by
    intro cl
    have q : k * 5 < (encLs L).length := by omega
    have h5 := encLsAt L k 0 cl (by decide)
    rw [Nat.add_zero, List.getElem?_eq_getElem q] at h5
    exact ⟨q, Option.some.inj h5⟩
  by_cases hlt : ∃ h : k < L.length, L[k].f < x.f
  · obtain ⟨cl, cx⟩ := hlt
    obtain ⟨gg, rfl, a2, a5⟩ := hat cl
    obtain ⟨q1, q2⟩ := hfk cl
    have hkK : k < K := hki.2 ⟨cl, by simpa using cx⟩
    simp [h21, k0, k3, k5, cl, a5, q1, q2, cx, hx2, hwk]
    exact ⟨k + 1, by omega, rfl, by omega⟩
  have hkK : k = K := by
    have : ¬ k < K := fun q => hlt (by obtain ⟨q1, q2⟩ := hki.1 q; exact ⟨q1, by simpa using q2⟩)
    omega
  subst hkK
  by_cases cl : k < L.length
  · obtain ⟨gg, rfl, a2, a5⟩ := hat cl
    obtain ⟨q1, q2⟩ := hfk cl
    have cx2 : ¬ L[k].f < x.f := fun q => hlt ⟨cl, q⟩
    obtain ⟨hct, hcd⟩ := encLs_cut L k hKl
    iterate ((repeat rw [wpd_seq]); simp [-wpd_seq, h21, k0, k3, k5, cl, hKl, a5, q1, q2, cx2, hx2])
    have hif : (if k = 0 then some (0, []) else if k * 5 ≤ (encLs L).length then some (k, List.take (k * 5) (encLs L)) else none) = some (k, encLs (L.take k)) := by
      by_cases q : k = 0
      · subst q; rfl
      · rw [if_neg q, if_pos (by omega), hct]
    have hx7 : (encLs (L.take k)).length = k * 5 := by rw [encLs_len, List.length_take, Nat.min_eq_left hKl]
    rw [hif, appX_some, if_pos hx7]
    refine (SlG.nil none 5 h6.next h6).app (by' := 40) h21 (Nat.le_refl _) hx7 (by decide) (cv_lk _) (by omega) (by decide) (.inl rfl) ?_
    intro v7 h7 q3 q4
    rw [List.nil_append, Nat.zero_add] at q3
    have h71 := q4.one
    have hx7' := (q4.get h.next (by omega)).trans hx2
    obtain ⟨v7a, rfl⟩ := q3.slice
    iterate ((repeat rw [wpd_seq]); simp [-wpd_seq, h71, k3, hx7', zerosD, List.range, List.range.loop])
    refine (q3.nw _).app (by' := 40) (xs := encLk x) (by simp [h71]) (by have := q4.next; simp; omega) (by rfl) (by decide) (by rfl) (by omega) (by decide) (.inl rfl) ?_
    intro v8 h8 q5 q6
    have h81 := q6.one
    have hF68 : Fr h6.next h6 h8 := q4.trans (((Fr.refl h71).nw q4.next _).trans q6)
    have a58 := (hF68.get gg (by omega)).trans a5
    obtain ⟨v8a, rfl⟩ := q5.slice
    have hx8 : (encLs (L.drop k)).length = (L.length - k) * 5 := by rw [encLs_len, List.length_drop]
    iterate ((repeat rw [wpd_seq]); simp [-wpd_seq, h81, k0, k5, hKl, a58])
    have hif2 : (if L.length - k = 0 then some (0, []) else if k * 5 + (L.length - k) * 5 ≤ (encLs L).length then some (L.length - k, List.take ((L.length - k) * 5) (List.drop (k * 5) (encLs L))) else none) = some (L.length - k, encLs (L.drop k)) := by
      rw [if_neg (by omega), if_pos (by omega), hcd, List.take_of_length_le (by omega)]
    rw [hif2, appX_some, if_pos hx8]
    refine q5.app (by' := 40) h81 hF68.next hx8 (by decide) (cv_lk _) (by omega) (by decide) (.inl rfl) ?_
    intro v9 h9 q7 q8
    have hF09 : Fr h.next h h9 := hF2.trans ((hF68.trans q8).mono hF2.next)
    simp [q8.one]
    refine ⟨?_, hF09⟩
    have e1 : encLs (L.take k) ++ encLk x ++ encLs (L.drop k) = encLs (L.take k ++ x :: L.drop k) := by rw [show L.take k ++ x :: L.drop k = L.take k ++ [x] ++ L.drop k by simp, encLs_app, encLs_app]; simp [encLs]
    have e2 : k + 1 + (L.length - k) = (L.take k ++ x :: L.drop k).length := by simp; omega
    have e3 : k + 1 + (L.length - k) = k + (L.length - k + 1) := by omega
    rw [e1, e3] at q7
    exact q7.low hF2.next
  · have hkn : k = L.length := by omega
    subst hkn
    cases va with
    | none =>
      have hn0 : L = [] := by
        rcases hv2 with ⟨e0, _⟩ | ⟨_, e1, gg, a2, a3, ev, a5⟩
        · exact List.eq_nil_of_length_eq_zero e0
        · cases ev
      subst hn0
      iterate ((repeat rw [wpd_seq]); simp [-wpd_seq, h21, k0, k3, k5, cl, hx2, zerosD, List.range, List.range.loop])
      exact ⟨.inr ⟨by decide, rfl, h6.next + 1, by omega, by simp, rfl, by simp; rfl⟩, (hF2.nw hF2.next _).nw (by simp; omega) _⟩
    | some aa =>
      rcases hv2 with ⟨e0, ev, _⟩ | ⟨e0, e1, gg, a2, a3, ev, a5⟩
      · cases ev
      cases ev
      iterate ((repeat rw [wpd_seq]); simp [-wpd_seq, h21, k0, k3, k5, cl, a5, hx2])
      have hn0 : ¬ L = [] := fun q => by rw [q] at e0; simp at e0
      have hif : (if L = [] then some (0, []) else if L.length * 5 ≤ (encLs L).length then some (L.length, List.take (L.length * 5) (encLs L)) else none) = some (L.length, encLs L) := by
        rw [if_neg hn0, if_pos (by omega), List.take_of_length_le (by omega)]
      have hgh : gg < h.next := (hvl gg _ _ rfl).2
      rw [hif, appX_some, if_pos hel]
      refine (SlG.nil none 5 h6.next h6).app (by' := 40) h21 (Nat.le_refl _) hel (by decide) (cv_lk _) (by omega) (by decide) (.inl rfl) ?_
      intro v7 h7 q3 q4
      rw [List.nil_append, Nat.zero_add] at q3
      have h71 := q4.one
      have hx7' := (q4.get h.next (by omega)).trans hx2
      obtain ⟨v7a, rfl⟩ := q3.slice
      iterate ((repeat rw [wpd_seq]); simp [-wpd_seq, h71, k3, hx7', zerosD, List.range, List.range.loop])
      refine (q3.nw _).app (by' := 40) (xs := encLk x) (by simp [h71]) (by have := q4.next; simp; omega) (by rfl) (by decide) (by rfl) (by omega) (by decide) (.inl rfl) ?_
      intro v8 h8 q5 q6
      have h81 := q6.one
      have hF68 : Fr h6.next h6 h8 := q4.trans (((Fr.refl h71).nw q4.next _).trans q6)
      have a58 := (hF68.get gg (by omega)).trans a5
      obtain ⟨v8a, rfl⟩ := q5.slice
      iterate ((repeat rw [wpd_seq]); simp [-wpd_seq, h81, k0, k5, a58])
      refine q5.app (k := 0) (by' := 40) (xs := []) h81 hF68.next (by rfl) (by decide) (by rfl) (by omega) (by decide) (.inl rfl) ?_
      intro v9 h9 q7 q8
      have hF09 : Fr h.next h h9 := hF2.trans ((hF68.trans q8).mono hF2.next)
      simp [q8.one]
      refine ⟨?_, hF09⟩
      have e1 : encLs L ++ encLk x ++ [] = encLs (L ++ [x]) := by rw [encLs_app, List.append_nil]; rfl
      have e2 : L.length + 1 + 0 = (L ++ [x]).length := by simp
      rw [e1, e2] at q7
      simpa using q7.low hF2.next
end
end Go.Dm
namespace Go.Dm
open Go.Proofs
theorem putL_len (l : List Lk) (x : Lk) : (putL l x).length = l.length + 1 := (putL_perm l x).length_eq
theorem insL_len (l : List Lk) : (insL l).length = l.length := by
  have : ∀ (l acc : List Lk), (l.foldl putL acc).length = acc.length + l.length := by
    intro l
    induction l with
    | nil => intro acc; rfl
    | cons x l ih => intro acc; rw [List.foldl_cons, ih, putL_len, List.length_cons]; omega
  unfold insL
  rw [this]
  simp
theorem barL_img (l : List Opn) : barL true l = l := by
  unfold barL
  induction l with
  | nil => rfl
  | cons x l ih => rw [List.map_cons, ih]; simp
theorem insL_snoc (l : List Lk) (x : Lk) : insL (l ++ [x]) = putL (insL l) x := by unfold insL; rw [List.foldl_append]; rfl
theorem SlG.of_blk {ty : Option TypeId} {n B : Nat} {h h' : H} {v : Value} {cs : List Value} {len : Nat} (s : SlG ty n B h v cs len) (hn : h.next ≤ h'.next) (hg : ∀ g x y, v = .slice (some ⟨g, 0, none⟩) x y → h'.get g = h.get g) : SlG ty n B h' v cs len := by
  rcases s with s | ⟨s1, s2, g, s3, s4, s5, s6⟩
  · exact .inl s
  · exact .inr ⟨s1, s2, g, s3, by omega, s5, (hg g _ _ s5).trans s6⟩
/-- What lies in memory. -/
structure Lr (B : Nat) (h : H) (vo vs : Value) (out : List Lk) (op : List Opn) : Prop where
  o : SlG none 5 B h vo (encLs (insL out)) (insL out).length
  p : Row 4 B h vs (encO op) op.length
  ne : ∀ g x y x' y', vo = .slice (some ⟨g, 0, none⟩) x y → vs = .slice (some ⟨g, 0, none⟩) x' y' → False
  one : h.one = []
theorem Lr.fr {B : Nat} {h h' : H} {vo vs : Value} {out : List Lk} {op : List Opn} (M : Lr B h vo vs out op) (f : Fr h.next h h') : Lr B h' vo vs out op :=
  ⟨M.o.of_blk f.next fun g x y e => f.get g (M.o.lt g x y e).2, M.p.of_get f.next fun g x y e => f.get g (M.p.rng g x y e).2, M.ne, f.one⟩
/-- What the loop keeps. -/
def LrI (B : Nat) (h2 : H) (s : List UInt8) (kn : List UInt8 → Bool) (last lf : Bool) (a : Int) (y : LS) (fr : T Value) (h' : H) : Prop :=
  ∃ (z : Int) (vo vs : Value), fr.get 12 = some (.int .i64 z) ∧ fr.get 10 = some vo ∧ fr.get 11 = some vs ∧ Lr B h' vo vs y.out y.op ∧ Fr B h2 h' ∧ y.out.length ≤ y.k ∧ y.op.length ≤ y.k ∧ y.out.length ≤ s.length ∧
    ((a < 0 ∧ z = a ∧ y = ⟨0, [], []⟩) ∨ (0 ≤ a ∧ z = (y.k : Int) ∧ LInv s a.toNat y ∧ lkRun kn last lf s s.length y = lkRun kn last lf s s.length ⟨a.toNat, [], []⟩))
theorem lr_done {kn : List UInt8 → Bool} {last lf : Bool} {s : List UInt8} {a : Int} {y : LS} {z : Int} (h : (a < 0 ∧ z = a ∧ y = ⟨0, [], []⟩) ∨ (0 ≤ a ∧ z = (y.k : Int) ∧ LInv s a.toNat y ∧ lkRun kn last lf s s.length y = lkRun kn last lf s s.length ⟨a.toNat, [], []⟩)) (hz : z < 0 ∨ (s.length : Int) ≤ z) : insL y.out = lksL kn last lf s a := by
  unfold lksL
  congr 1
  unfold lksO
  rcases h with ⟨h, _, rfl⟩ | ⟨h, hz', _, hr⟩
  · rw [if_pos h]
  · rw [if_neg (by omega), ← hr, lkRun_end _ _ _ _ _ (by omega)]
section
variable {h : H}
set_option maxRecDepth 100000 in
set_option maxHeartbeats 8000000 in
theorem Links22_sp (l : List UInt8) (hl : l.length < 2 ^ 30) (from_ e : Int) (ns : List (List UInt8)) (hns : ns.length < 2 ^ 31) (nv : Value) (hnv : RdS h nv ns) (h1 : h.one = []) :
    CallW E0 X0 (.fn 14) [str l, .int .i64 from_, .int .i64 e, nv] h (fun v h' => SlG none 5 h.next h' v (encLs (lksOf l from_ e ns)) (lksOf l from_ e ns).length ∧ Fr h.next h h') := by
  refine CallW.body efn14 rfl rfl rfl [] (by kernel_rfl) ?_
  obtain ⟨na, ncp, rfl⟩ := hnv.sl
  simp [-wpd_seq, Tryz.f14, h1]
  iterate 1 ((repeat rw [wpd_seq]); simp [-wpd_seq, h1])
  iterate 1 ((repeat rw [wpd_seq]); simp [-wpd_seq, h1])
  refine (bound_sp l (by omega) e h1).mono ?_
  rintro _ h2 ⟨rfl, rfl⟩
  obtain ⟨E, hEE⟩ : ∃ E, E = min e (eN l : Int) := ⟨_, rfl⟩
  rw [← hEE]
  have hE := eE_int l e
  rw [← hEE] at hE
  clear hEE
  iterate 1 ((repeat rw [wpd_seq]); simp [-wpd_seq, h1])
  iterate 1 ((repeat rw [wpd_seq]); simp [-wpd_seq, h1])
  iterate 1 ((repeat rw [wpd_seq]); simp [-wpd_seq, h1])
  iterate 1 ((repeat rw [wpd_seq]); simp [-wpd_seq, h1])
  obtain ⟨s, hs⟩ : ∃ s, s = pE l e := ⟨_, rfl⟩
  have hsE : s.length = eE l e := by rw [hs, pE_len]
  have hsl : s.length < 2 ^ 30 := by have := eE_len l e; omega
  have hsN : s.length ≤ eN l := by have := eE_le l e; omega
  have hsL : s.length ≤ l.length := by have := eE_len l e; omega
  obtain ⟨kn, hkn⟩ : ∃ kn : List UInt8 → Bool, kn = fun x => decide (x ∈ ns) := ⟨_, rfl⟩
  obtain ⟨last, hlast⟩ : ∃ last, last = decide (eE l e = eN l) := ⟨_, rfl⟩
  obtain ⟨lf, hlf⟩ : ∃ lf, lf = decide (lnN l < l.length) := ⟨_, rfl⟩
  have hL : lksOf l from_ e ns = lksL kn last lf s from_ := by rw [hkn, hlast, hlf, hs]; rfl
  rw [hL]
  clear hL
  obtain ⟨B, hB⟩ : ∃ B, B = h2.next := ⟨_, rfl⟩
  rw [← hB]
  (repeat rw [wpd_seq])
  refine wpd_loop (LrI B h2 s kn last lf from_) (fun y => s.length - y.k) ⟨from_.toNat, [], []⟩ ?_ ?_
  · refine ⟨from_, .slice none 0 0, .slice none 0 0, by simp, by simp, by simp, ⟨SlG.nil _ _ _ _, .inl ⟨rfl, rfl, rfl⟩, fun g x y x' y' e => (by cases e), h1⟩, by rw [hB]; exact Fr.refl h1, Nat.zero_le _, Nat.zero_le _, Nat.zero_le _, ?_⟩
    by_cases q : from_ < 0
    · exact .inl ⟨q, rfl, by rw [show from_.toNat = 0 by omega]⟩
    · exact .inr ⟨by omega, by simp only; omega, LInv.init s from_.toNat, rfl⟩
  rintro y fr2 h6 ⟨z, vo, vs, g12, g10, g11, M, hF6, ho1, ho2, ho3, hy⟩ hf2
  have k0 := hf2 0 rfl
  have k2 := hf2 2 rfl
  have k3 := hf2 3 rfl
  have k9 := hf2 9 rfl
  simp at k0 k2 k3 k9
  clear hf2
  have h61 := M.one
  by_cases run : 0 ≤ z ∧ z < s.length
  rotate_left
  · have hfin : insL y.out = lksL kn last lf s from_ := lr_done hy (by omega)
    have hMo := M.o
    rw [hfin] at hMo
    by_cases hz : 0 ≤ z
    · have hz2 : ¬ z < E := fun q => run ⟨hz, by omega⟩
      simp [hz, hz2, g12, g10, k9, h61]
      exact ⟨hMo, hF6⟩
    · simp [hz, g12, g10, k9, h61]
      exact ⟨hMo, hF6⟩
  obtain ⟨z0, z1⟩ := run
  have hy2 : 0 ≤ from_ ∧ z = (y.k : Int) ∧ LInv s from_.toNat y ∧ lkRun kn last lf s s.length y = lkRun kn last lf s s.length ⟨from_.toNat, [], []⟩ := by
    rcases hy with ⟨q1, q2, _⟩ | q
    · omega
    · exact q
  obtain ⟨hp, rfl, hI, hR⟩ := hy2
  have hk : y.k < s.length := by omega
  clear hy
  have hEs : E = (s.length : Int) := by omega
  subst hEs
  have nxt : ∀ (y' : LS) (fr' : T Value) (h' : H) (vo' vs' : Value), lkStep kn last lf s y = y' → fr'.get 12 = some (.int .i64 y'.k) → fr'.get 10 = some vo' → fr'.get 11 = some vs' → Lr B h' vo' vs' y'.out y'.op → Fr B h2 h' → y'.out.length ≤ y.out.length + 1 → y'.op.length ≤ y.op.length + 1 →
      ∃ s', s.length - s'.k < s.length - y.k ∧ LrI B h2 s kn last lf from_ s' fr' h' := by
    intro y' fr' h' vo' vs' q1 q2 q21 q22 q3 q4 q5 q6
    have q7 := lkStep_le kn last lf hk
    rw [q1] at q7
    refine ⟨y', by omega, y'.k, vo', vs', q2, q21, q22, q3, q4, by omega, by omega, by omega, .inr ⟨hp, rfl, ?_, ?_⟩⟩
    · rw [← q1]; exact hI.step kn last lf hk
    · rw [← q1, ← lkRun_step kn last lf s y hk]; exact hR
  have hkE : y.k < eE l e := by omega
  have hk0 : (0 : Int) ≤ y.k := by omega
  have hcr := Read20_sp l (by omega) y.k e hkE h61
  rw [← hlast, ← hlf] at hcr
  have hsg : sg l y.k (eE l e) = s.drop y.k := by rw [hs]; rfl
  rw [hsg] at hcr
  iterate ((repeat rw [wpd_seq]); simp [-wpd_seq, k0, k2, k9, g12, h61, hk])
  refine hcr.mono ?_
  rintro _ h7 ⟨rfl, hF7⟩
  have h71 := hF7.one
  have M7 := M.fr hF7
  have hB6 := hF6.next
  have hF07 : Fr B h2 h7 := hF6.trans (hF7.mono (by omega))
  obtain ⟨C, hC⟩ : ∃ C, C = cdN last lf (s.drop y.k) := ⟨_, rfl⟩
  have hCl : C.2 ≤ s.length := by
    have := cdN_len last lf (bt s y.k) (s.drop (y.k + 1))
    rw [← drop_bt hk, ← hC] at this
    simp at this
    omega
  rw [← hC]
  have hst : lkStep kn last lf s y = if C.1 = 0 ∧ C.2 = 1 then lkAt kn s y else ⟨y.k + C.2, y.out, y.op⟩ := by rw [hC]; rfl
  have wa : IntKind.i64.wrap ((y.k : Int) + 1) = (y.k : Int) + 1 := wrap_succ (by omega)
  have wa2 : IntKind.i64.wrap ((y.k : Int) + 2) = (y.k : Int) + 2 := wrap_i64 (by omega) (by omega)
  by_cases d1 : C.1 = 0
  rotate_left
  · rw [if_neg (fun q => d1 q.1)] at hst
    have d1' : ¬ (C.1 : Int) = 0 := by omega
    simp [cdV, h71, d1, d1', g12]
    exact nxt _ _ _ vo vs hst (by simp) (by simp [g10]) (by simp [g11]) M7 hF07 (by simp) (by simp)
  by_cases d2 : C.2 = 1
  rotate_left
  · rw [if_neg (fun q => d2 q.2)] at hst
    have d2' : ¬ (y.k : Int) + (C.2 : Nat) = (y.k : Int) + 1 := by omega
    simp [cdV, h71, d1, d2', g12, wa]
    exact nxt _ _ _ vo vs hst (by simp) (by simp [g10]) (by simp [g11]) M7 hF07 (by simp) (by simp)
  rw [if_pos ⟨d1, d2⟩] at hst
  have be : ∀ j, j < s.length → bt l j = bt s j := fun j hj => by rw [hs]; exact (bt_pE (by omega)).symm
  have ix0 := idxB_nat (l := l) (show y.k < l.length by omega)
  rw [be y.k hk] at ix0
  have hopl : y.op.length < 2 ^ 30 := by omega
  have hpush : ∀ (x : Opn) (xo : Int), xo = x.o → ∀ (K : VPost), (∀ v' h', Row 4 B h' v' (encO (y.op ++ [x])) (y.op ++ [x]).length → Lr B h' vo v' y.out (y.op ++ [x]) → Fr B h2 h' → K v' h') → OptW (appS none 73 4 24 vs 1 [.int .i64 x.f, .int .i64 xo, .bool x.img, .bool x.bar] (h7.nw (.cells [.int .i64 x.f, .int .i64 xo, .bool x.img, .bool x.bar] 4 true 0 none))) K := by
    intro x xo hxo K hK
    subst hxo
    have hFn : Fr h7.next h7 (h7.nw (.cells [.int .i64 x.f, .int .i64 x.o, .bool x.img, .bool x.bar] 4 true 0 none)) := (Fr.refl h71).nw (Nat.le_refl _) _
    have Mn := M7.fr hFn
    have hBn : B ≤ (h7.nw (.cells [.int .i64 x.f, .int .i64 x.o, .bool x.img, .bool x.bar] 4 true 0 none)).next := by have := hF07.next; simp; omega
    refine Row.app Mn.p hFn.one hBn rfl (by decide) (by rfl) (by omega) (by decide) rfl ?_
    intro v' h' q1 q2 q3 q4
    have hrow : Row 4 B h' v' (encO (y.op ++ [x])) (y.op ++ [x]).length := by rw [encO_app, List.length_append]; exact .inr q1
    have hB7 := hF07.next
    refine hK v' h' hrow ⟨Mn.o.of_blk q2.next fun g xx yy e => q3 g (Mn.o.lt g xx yy e).2 fun g' x' y' e' e2 => Mn.ne g xx yy x' y' e (e2 ▸ e'), hrow, fun g xx yy x' y' e1 e2 => ?_, q2.one⟩ ((hF07.trans (hFn.mono (by omega))).trans q2)
    rcases q4 g x' y' e2 with ⟨a, b, e3⟩ | e3
    · exact Mn.ne g xx yy a b e1 e3
    · have := (Mn.o.lt g xx yy e1).2
      omega
  iterate ((repeat rw [wpd_seq]); simp [-wpd_seq, cdV, h71, d1, d2, g12, wa])
  have hcase : (bt s y.k = 33 ∧ y.k + 1 < s.length ∧ bt s (y.k + 1) = 91) ∨ ¬ (bt s y.k).toNat = 33 ∨ ((bt s y.k).toNat = 33 ∧ ¬ y.k + 1 < s.length) ∨ ((bt s y.k).toNat = 33 ∧ y.k + 1 < s.length ∧ ¬ (bt s (y.k + 1)).toNat = 91) := by
    by_cases q1 : (bt s y.k).toNat = 33
    · by_cases q2 : y.k + 1 < s.length
      · by_cases q3 : (bt s (y.k + 1)).toNat = 91
        · exact .inl ⟨UInt8.toNat_inj.1 q1, q2, UInt8.toNat_inj.1 q3⟩
        · exact .inr (.inr (.inr ⟨q1, q2, q3⟩))
      · exact .inr (.inr (.inl ⟨q1, q2⟩))
    · exact .inr (.inl q1)
  have ix1 : y.k + 1 < s.length → idxB l ((y.k : Int) + 1) = some (.int .u8 (bt s (y.k + 1)).toNat) := fun q => by
    have := idxB_nat (l := l) (show y.k + 1 < l.length by omega)
    rw [be (y.k + 1) q] at this
    simpa using this
  rcases hcase with T | c33 | ⟨c33, n1⟩ | ⟨c33, n1, n2⟩
  case' inl =>
    obtain ⟨t1, t2, t3⟩ := T
    have hst2 : lkStep kn last lf s y = ⟨y.k + 2, y.out, y.op ++ [⟨y.k, y.k + 2, true, false⟩]⟩ := by rw [hst]; unfold lkAt; rw [if_pos ⟨t1, t2, t3⟩]
    have t1' : (bt s y.k).toNat = 33 := by rw [t1]; rfl
    have t3' : (bt s (y.k + 1)).toNat = 91 := by rw [t3]; rfl
    have t2' : (y.k : Int) + 1 < s.length := by omega
    have ix11 := ix1 t2
    iterate ((repeat rw [wpd_seq]); simp [-wpd_seq, h71, k0, k9, g12, g11, ix0, ix11, eq_true t1', eq_true t3', t2, t2', wa, wa2, zerosD, List.range, List.range.loop])
    refine hpush ⟨y.k, y.k + 2, true, false⟩ ((y.k : Int) + 2) (by simp) _ ?_
    intro v' h' _ q2 q3
    iterate ((repeat rw [wpd_seq]); simp [-wpd_seq, q2.one, g12, wa2])
    exact nxt _ _ _ vo v' hst2 (by simp) (by simp [g10]) (by simp) q2 q3 (by simp) (by simp)
  case' inr.inl =>
    have nT : ¬ (bt s y.k = 33 ∧ y.k + 1 < s.length ∧ bt s (y.k + 1) = 91) := fun q => c33 (by rw [q.1]; rfl)
    iterate 1 ((repeat rw [wpd_seq]); simp [-wpd_seq, h71, k0, k9, g12, ix0, c33, wa])
    clear c33
  case' inr.inr.inl =>
    have nT : ¬ (bt s y.k = 33 ∧ y.k + 1 < s.length ∧ bt s (y.k + 1) = 91) := fun q => n1 q.2.1
    have n1' : ¬ (y.k : Int) + 1 < s.length := by omega
    iterate 1 ((repeat rw [wpd_seq]); simp [-wpd_seq, h71, k0, k9, g12, ix0, eq_true c33, wa, n1, n1'])
    clear c33 n1 n1'
  case' inr.inr.inr =>
    have nT : ¬ (bt s y.k = 33 ∧ y.k + 1 < s.length ∧ bt s (y.k + 1) = 91) := fun q => n2 (by rw [q.2.2]; rfl)
    have n1' : (y.k : Int) + 1 < s.length := by omega
    have ix11 := ix1 n1
    iterate 1 ((repeat rw [wpd_seq]); simp [-wpd_seq, h71, k0, k9, g12, ix0, ix11, eq_true c33, wa, n1, n1', n2])
    clear c33 n1 n1' n2 ix11
  all_goals
    by_cases c91 : (bt s y.k).toNat = 91
    · have c91' : bt s y.k = 91 := UInt8.toNat_inj.1 c91
      have hst2 : lkStep kn last lf s y = ⟨y.k + 1, y.out, y.op ++ [⟨y.k, y.k + 1, false, false⟩]⟩ := by rw [hst]; unfold lkAt; rw [if_neg nT, if_pos c91']
      have c93 : ¬ (bt s y.k).toNat = 93 := by omega
      iterate ((repeat rw [wpd_seq]); simp [-wpd_seq, h71, k0, k9, g12, g11, ix0, eq_true c91, wa, zerosD, List.range, List.range.loop])
      refine hpush ⟨y.k, y.k + 1, false, false⟩ ((y.k : Int) + 1) (by simp) _ ?_
      intro v' h' _ q2 q3
      iterate ((repeat rw [wpd_seq]); simp [-wpd_seq, q2.one, k0, g12, ix0, c93, wa])
      exact nxt _ _ _ vo v' hst2 (by simp) (by simp [g10]) (by simp) q2 q3 (by simp) (by simp)
    have n91 : bt s y.k ≠ 91 := fun q => c91 (by rw [q]; rfl)
    by_cases c93 : (bt s y.k).toNat = 93
    rotate_left
    · have n93 : bt s y.k ≠ 93 := fun q => c93 (by rw [q]; rfl)
      have hst2 : lkStep kn last lf s y = ⟨y.k + 1, y.out, y.op⟩ := by rw [hst]; unfold lkAt; rw [if_neg nT, if_neg n91, if_neg n93]
      iterate ((repeat rw [wpd_seq]); simp [-wpd_seq, h71, k0, k9, g12, ix0, c91, c93, wa])
      exact nxt _ _ _ vo vs hst2 (by simp) (by simp [g10]) (by simp [g11]) M7 hF07 (by simp) (by simp)
    have c93' : bt s y.k = 93 := UInt8.toNat_inj.1 c93
    have hMo := M7.o
    have hMp := M7.p
    obtain ⟨sa, sc, rfl⟩ := hMp.sl
    rcases List.eq_nil_or_concat y.op with hop | ⟨op', x, hop⟩
    · have hst2 : lkStep kn last lf s y = ⟨y.k + 1, y.out, y.op⟩ := by rw [hst]; unfold lkAt; rw [if_neg nT, if_neg n91, if_pos c93', hop]; rfl
      have hz : y.op.length = 0 := by rw [hop]; rfl
      iterate ((repeat rw [wpd_seq]); simp [-wpd_seq, h71, k0, k9, g12, g11, ix0, c91, eq_true c93, wa, hz])
      exact nxt _ _ _ vo (.slice sa y.op.length sc) hst2 (by simp) (by simp [g10]) (by simp [g11]) M7 hF07 (by simp) (by simp)
    rw [List.concat_eq_append] at hop
    have hdl : y.op.dropLast = op' := by rw [hop]; simp
    have hgl : y.op.getLast? = some x := by rw [hop]; simp
    have hxo := hI.ops x (by rw [hop]; simp)
    have hx1 : 1 ≤ x.o := by have := hxo.o; split at this <;> omega
    have hx2 := hxo.l
    have hxk := hxo.k
    have hol : y.op.length = op'.length + 1 := by rw [hop]; simp
    have hpc := hMp
    rw [hop] at hpc
    rcases hpc with ⟨_, _, q⟩ | hpc
    · simp at q
    obtain ⟨gv, cap, c, ev, a2, a3, a4, a5, a6, a7⟩ := hpc
    have hll : (op' ++ [x]).length = op'.length + 1 := by simp
    rw [hll] at ev a2 a7
    obtain ⟨rfl, rfl⟩ : sa = some ⟨gv, 0, none⟩ ∧ sc = cap := by cases ev; exact ⟨rfl, rfl⟩
    clear ev
    rw [encO_app] at a7
    obtain ⟨htk, hdt'⟩ := cells_two (n := op'.length) (k := 4) a7 (encO_len op') rfl
    have hdt : List.take 4 (List.drop (op'.length * 4) c) = [.int .i64 x.f, .int .i64 x.o, .bool x.img, .bool x.bar] := hdt'
    have hcl : op'.length * 4 + 4 ≤ c.length := by rw [a6]; have := Nat.mul_le_mul_right 4 a2; omega
    have w0 : IntKind.i64.wrap (op'.length : Int) = (op'.length : Int) := wrap_i64 (by omega) (by omega)
    have w1 : IntKind.i64.wrap ((op'.length : Int) + 1 - 1) = (op'.length : Int) := by rw [wrap_i64 (by omega) (by omega)]; omega
    have b0 : (0 : Int) ≤ op'.length := by omega
    have b1 : (op'.length : Int) < (op'.length : Int) + 1 := by omega
    have b2 : (op'.length : Int) ≤ sc := by omega
    have b3 : op'.length ≤ sc := by omega
    have hgn : ¬ gv = h7.next := by omega
    have hgn2 : ¬ h7.next = gv := by omega
    have Mp : Lr B h7 vo (.slice (some ⟨gv, 0, none⟩) op'.length sc) y.out op' := ⟨hMo, .inr ⟨gv, sc, c, rfl, b3, a3, a4, a5, a6, htk⟩, fun g xx yy x' y' e1 e2 => by cases e2; exact M7.ne gv xx yy _ _ e1 rfl, h71⟩
    iterate 4 ((repeat rw [wpd_seq]); simp [-wpd_seq, h71, k0, k9, g12, g11, ix0, c91, eq_true c93, wa, hol, w0, w1, b0, b1, b2, b3, a5, hcl, hdt, hgn, hgn2, zerosD, List.range, List.range.loop])
    obtain ⟨h8, hh8⟩ : ∃ h8, h8 = (h7.nw (.cells [.int .i64 0, .int .i64 0, .bool false, .bool false] 0 true 0 none)).put h7.next (.cells [.int .i64 x.f, .int .i64 x.o, .bool x.img, .bool x.bar] 0 true 0 none) := ⟨_, rfl⟩
    rw [← hh8]
    have hF8 : Fr h7.next h7 h8 := by rw [hh8]; exact ((Fr.refl h71).nw (Nat.le_refl _) _).put (Nat.le_refl _) _
    have hx8 : h8.get h7.next = some (.cells [.int .i64 x.f, .int .i64 x.o, .bool x.img, .bool x.bar] 0 true 0 none) := by rw [hh8]; simp
    have hn8 : h8.next = h7.next + 1 := by rw [hh8]; simp
    clear hh8
    have h81 := hF8.one
    have M8 := Mp.fr hF8
    have hB7 := hF07.next
    have hF08 : Fr B h2 h8 := hF07.trans (hF8.mono (by omega))
    cases hbar : x.bar with
    | true =>
      have hst2 : lkStep kn last lf s y = ⟨y.k + 1, y.out, op'⟩ := by rw [hst]; unfold lkAt; rw [if_neg nT, if_neg n91, if_pos c93', hgl, hdl]; simp only; rw [if_pos hbar]
      rw [hbar] at hx8
      iterate ((repeat rw [wpd_seq]); simp [-wpd_seq, h81, hx8, g12, wa])
      exact nxt _ _ _ vo (.slice (some ⟨gv, 0, none⟩) op'.length sc) hst2 (by simp) (by simp [g10]) (by simp) M8 hF08 (by simp) (by simp; omega)
    | false =>
      have hnb : ¬ x.bar = true := by rw [hbar]; decide
      rw [hbar] at hx8
      have hk8 : RdS h8 (.slice na ns.length ncp) ns := hnv.of_get hF08.next fun b hb => hF08.get b (by omega)
      have he := ends22_sp l hl e s hs ns hns (.slice na ns.length ncp) hk8 y.k x hx1 hxk hk h81
      unfold opV at he
      rw [hbar, ← hkn] at he
      iterate ((repeat rw [wpd_seq]); simp [-wpd_seq, h81, hx8, k0, k3, k9, g12])
      refine he.mono ?_
      rintro _ h9 ⟨rfl, hF9⟩
      have M9 := M8.fr hF9
      have h91 := hF9.one
      have hF09 : Fr B h2 h9 := hF08.trans (hF9.mono (by omega))
      have hx9 := (hF9.get h7.next (by omega)).trans hx8
      have hn9 := hF9.next
      cases hen : endL kn s x.o y.k with
      | none =>
        have hst2 : lkStep kn last lf s y = ⟨y.k + 1, y.out, op'⟩ := by rw [hst]; unfold lkAt; rw [if_neg nT, if_neg n91, if_pos c93', hgl, hdl]; simp only; rw [if_neg hnb, hen]
        iterate ((repeat rw [wpd_seq]); simp [-wpd_seq, h91, g12, wa])
        exact nxt _ _ _ vo (.slice (some ⟨gv, 0, none⟩) op'.length sc) hst2 (by simp) (by simp [g10]) (by simp) M9 hF09 (by simp) (by simp; omega)
      | some e' =>
        have hst2 : lkStep kn last lf s y = ⟨e', y.out ++ [⟨x.f, x.o, y.k, e', x.img⟩], barL x.img op'⟩ := by rw [hst]; unfold lkAt; rw [if_neg nT, if_neg n91, if_pos c93', hgl, hdl]; simp only; rw [if_neg hnb, hen]
        have he0 : (0 : Int) ≤ e' := by omega
        have hpt := put22_sp (insL y.out) ⟨x.f, x.o, y.k, e', x.img⟩ vo (by rw [insL_len]; omega) M9.o h91
        rw [← insL_snoc] at hpt
        iterate ((repeat rw [wpd_seq]); simp [-wpd_seq, h91, g12, g10, hx9, he0])
        refine hpt.mono ?_
        rintro vo2 h10 ⟨ho10, hF10⟩
        have h101 := hF10.one
        have hn10 := hF10.next
        have hB9 : B ≤ h9.next := by have := hF09.next; omega
        have hF010 : Fr B h2 h10 := hF09.trans (hF10.mono hB9)
        have hx10 := (hF10.get h7.next (by omega)).trans hx9
        have M10 : Lr B h10 vo2 (.slice (some ⟨gv, 0, none⟩) op'.length sc) (y.out ++ [⟨x.f, x.o, y.k, e', x.img⟩]) op' := ⟨ho10.low hB9, (M9.fr hF10).p, fun g xx yy x' y' e1 e2 => by cases e2; have := (ho10.lt gv xx yy e1).1; omega, h101⟩
        iterate ((repeat rw [wpd_seq]); simp [-wpd_seq, h101])
        obtain ⟨out', hout'⟩ : ∃ out', out' = y.out ++ [(⟨x.f, x.o, y.k, e', x.img⟩ : Lk)] := ⟨_, rfl⟩
        rw [← hout'] at hst2 M10
        have hol2 : out'.length ≤ y.out.length + 1 := by rw [hout']; simp
        clear hpt ho10 hout'
        refine wpd_loop (fun (i : Nat) fr' h' => fr'.get 17 = some (.int .i64 i) ∧ i ≤ op'.length ∧ Lr B h' vo2 (.slice (some ⟨gv, 0, none⟩) op'.length sc) out' (barL x.img (op'.take i) ++ op'.drop i) ∧ Fr B h2 h' ∧ h'.get h7.next = some (.cells [.int .i64 x.f, .int .i64 x.o, .bool x.img, .bool false] 0 true 0 none) ∧ h7.next < h'.next) (fun i => op'.length - i) 0 ⟨by simp, Nat.zero_le _, by simpa [barL] using M10, hF010, hx10, by omega⟩ ?_
        rintro i fr3 h15 ⟨g17, hi, M15, hF15, hx15, hn15⟩ hf3
        have j10 := hf3 10 rfl
        have j11 := hf3 11 rfl
        have j15 := hf3 15 rfl
        have j16 := hf3 16 rfl
        simp at j10 j11 j15 j16
        clear hf3
        have h151 := M15.one
        by_cases ci : i < op'.length ∧ x.img = false
        rotate_left
        · have hbl : barL x.img (op'.take i) ++ op'.drop i = barL x.img op' := by
            by_cases q : i < op'.length
            · have him : x.img = true := by
                cases hq : x.img with
                | true => rfl
                | false => exact absurd ⟨q, hq⟩ ci
              rw [him, barL_img, barL_img, List.take_append_drop]
            · rw [List.take_of_length_le (by omega), List.drop_eq_nil_of_le (by omega), List.append_nil]
          rw [hbl] at M15
          by_cases q : i < op'.length
          · have him : x.img = true := by
              cases hq : x.img with
              | true => rfl
              | false => exact absurd ⟨q, hq⟩ ci
            rw [him] at hx15
            simp [h151, g17, j11, j15, j16, hx15, q]
            exact nxt _ _ _ vo2 (.slice (some ⟨gv, 0, none⟩) op'.length sc) hst2 (by simp) (by simp [j10]) (by simp [j11]) M15 hF15 hol2 (by simp [barL]; omega)
          · simp [h151, g17, j11, j15, j16, q]
            exact nxt _ _ _ vo2 (.slice (some ⟨gv, 0, none⟩) op'.length sc) hst2 (by simp) (by simp [j10]) (by simp [j11]) M15 hF15 hol2 (by simp [barL]; omega)
        obtain ⟨ci, him⟩ := ci
        have hlen := bar_len x.img op' i
        have hat := bar_at x.img op' i ci
        have hstp := bar_step x.img op' i ci
        have hp15 := M15.p
        obtain ⟨Li, hLi⟩ : ∃ Li, Li = barL x.img (op'.take i) ++ op'.drop i := ⟨_, rfl⟩
        rw [← hLi] at hlen hat hstp hp15
        rcases hp15 with ⟨q, _⟩ | hp15
        · cases q
        obtain ⟨gg', cap', c', ee, p2, p3, p4, p5, p6, p7⟩ := hp15
        rw [hlen] at ee p2 p7
        cases ee
        have hil : i < Li.length := by omega
        have hLi2 : Li[i] = op'[i] := by rw [List.getElem?_eq_getElem hil] at hat; exact Option.some.inj hat
        have hop4 : ∀ j, j < 4 → c'[i * 4 + j]? = (opC op'[i])[j]? := by
          intro j hj
          have h4 := encO_at Li i j hil hj
          rw [hLi2, ← p7, List.getElem?_take, if_pos (by omega)] at h4
          exact h4
        have hc3 : c'[i * 4 + 3]? = some (.bool op'[i].bar) := hop4 3 (by decide)
        have hc2 : c'[i * 4 + 2]? = some (.bool op'[i].img) := hop4 2 (by decide)
        have hcl3 : i * 4 + 3 < c'.length := by rw [p6]; have := Nat.mul_le_mul_right 4 p2; omega
        have hc3' : c'[i * 4 + 3]'hcl3 = .bool op'[i].bar := by rw [List.getElem?_eq_getElem hcl3] at hc3; exact Option.some.inj hc3
        have hcl2 : i * 4 + 2 < c'.length := by omega
        have hc2' : c'[i * 4 + 2]'hcl2 = .bool op'[i].img := by rw [List.getElem?_eq_getElem hcl2] at hc2; exact Option.some.inj hc2
        have hw : IntKind.i64.wrap ((i : Int) + 1) = (i : Int) + 1 := wrap_succ (by omega)
        have hnx2 : ∀ (b : Bool), b = (op'[i].bar || (!x.img && !op'[i].img)) → ∃ s', op'.length - s' < op'.length - i ∧ i + 1 = s' ∧ s' ≤ op'.length ∧ Lr B (h15.put gv (.cells (c'.set (i * 4 + 3) (.bool b)) 4 true 0 none)) vo2 (.slice (some ⟨gv, 0, none⟩) op'.length sc) out' (barL x.img (op'.take s') ++ op'.drop s') ∧ Fr B h2 (h15.put gv (.cells (c'.set (i * 4 + 3) (.bool b)) 4 true 0 none)) := by
          intro b hb
          have hset : Li.set i { op'[i] with bar := op'[i].bar || (!x.img && !op'[i].img) } = Li.set i { Li[i]'hil with bar := b } := by rw [hLi2, hb]
          refine ⟨i + 1, by omega, rfl, by omega, ⟨M15.o.of_blk (Nat.le_refl _) fun g xx yy e1 => ?_, .inr ⟨gv, sc, c'.set (i * 4 + 3) (.bool b), by rw [bar_len], by rw [bar_len]; exact p2, p3, p4, by rw [H.get_put, if_pos rfl], by rw [List.length_set]; exact p6, ?_⟩, M15.ne, h151⟩, hF15.put (by omega) _⟩
          · rw [H.get_put, if_neg (fun q => M15.ne g xx yy _ _ e1 (by rw [q]))]
          · rw [bar_len, hstp, hset, encO_set, ← p7, List.take_set]
        rw [him] at hx15
        cases hb0 : op'[i].bar with
        | true =>
          rw [hb0] at hc3'
          have hN := hnx2 true (by rw [hb0]; rfl)
          simp [h151, g17, j11, j15, hx15, ci, p5, hc3', hc2', hcl3, hcl2, hgn, hgn2, hw]
          obtain ⟨s', n1, n2, n3, n4, n5⟩ := hN
          exact ⟨by omega, s', n1, n2, n3, n4, n5, him, hn15⟩
        | false =>
          rw [hb0] at hc3'
          cases hi2 : op'[i].img with
          | true =>
            rw [hi2] at hc2'
            have hN := hnx2 false (by rw [hb0, him, hi2]; rfl)
            simp [h151, g17, j11, j15, hx15, ci, p5, hc3', hc2', hcl3, hcl2, hgn, hgn2, hw]
            obtain ⟨s', n1, n2, n3, n4, n5⟩ := hN
            exact ⟨by omega, s', n1, n2, n3, n4, n5, him, hn15⟩
          | false =>
            rw [hi2] at hc2'
            have hN := hnx2 true (by rw [hb0, him, hi2]; rfl)
            simp [h151, g17, j11, j15, hx15, ci, p5, hc3', hc2', hcl3, hcl2, hgn, hgn2, hw]
            obtain ⟨s', n1, n2, n3, n4, n5⟩ := hN
            exact ⟨by omega, s', n1, n2, n3, n4, n5, him, hn15⟩
end
end Go.Dm
namespace Go.Dm
open Go.Proofs
section
variable {h : H}
set_option maxRecDepth 100000 in
set_option maxHeartbeats 8000000 in
theorem law_Links (l : List UInt8) (from_ e : Int) (ns : List (List UInt8)) (nv : Value) (hnv : RdS h nv ns) (h1 : h.one = []) (g : GmH h) :
    CallW E0 X0 (.fn 4) [str l, .int .i64 from_, .int .i64 e, nv] h (fun v _ => v = .bool true) := by
  refine CallW.body efn4 rfl rfl rfl [] (by kernel_rfl) ?_
  obtain ⟨na, ncp, rfl⟩ := hnv.sl
  by_cases c1 : 300 < l.length
  · simp [Tryz.f4, h1, c1]
  by_cases c2 : 30 < ns.length
  · simp [Tryz.f4, h1, c1, c2]
  simp [-wpd_seq, Tryz.f4, h1]
  iterate ((repeat rw [wpd_seq]); simp [-wpd_seq, -appendD_eq, h1, c1, c2])
  refine app_gath (B := h.next) (O := []) (.inl ⟨rfl, rfl⟩) (src_rd hnv) h1 (Nat.le_refl _) (by simp; omega) ?_
  intro vi h2 hi2 hF2 _ _ _
  rw [List.nil_append] at hi2
  have h21 := hF2.one
  have hr2 := hi2.rd
  have hn2 := hnv.fr hF2
  have g2 := GmH.fr g hF2 g.2
  iterate ((repeat rw [wpd_seq]); simp [-wpd_seq, h21])
  refine (Lks_sp l (by omega) from_ e ns (by omega) _ hr2 h21 g2).mono ?_
  rintro va h3 ⟨hra, hF3⟩
  have h31 := hF3.one
  have hF23 := hF2.trans (hF3.mono hF2.next)
  have hr3 := hr2.fr hF3
  have hn3 := hn2.fr hF3
  iterate ((repeat rw [wpd_seq]); simp [-wpd_seq, h31])
  refine (Links22_sp l (by omega) from_ e ns (by omega) _ hn3 h31).mono ?_
  rintro vb h4 ⟨hrb, hF4⟩
  have hlL := lksOf_len l from_ e ns
  generalize lksOf l from_ e ns = L at hra hrb hlL
  have h41 := hF4.one
  have hF24 := hF23.trans (hF4.mono hF23.next)
  have hr4 := hr3.fr hF4
  have hn4 := hn3.fr hF4
  have hra4 : Row 5 h2.next h4 va (encLs L) L.length := hra.of_get hF4.next fun gg x y q => hF4.get gg (hra.rng gg x y q).2
  have g4 := GmH.fr g hF24 g.2
  obtain ⟨vaa, vac, rfl⟩ := hra4.sl
  obtain ⟨vba, rfl⟩ := hrb.slice
  iterate ((repeat rw [wpd_seq]); simp [-wpd_seq, h41])
  refine (texts_sp ns ns vi _ (by omega) hr4 hn4 h41).mono ?_
  rintro _ h5 ⟨rfl, rfl⟩
  rw [decide_eq_true rfl]
  iterate ((repeat rw [wpd_seq]); simp [-wpd_seq, h41])
  refine wpd_loop (fun (i : Nat) fr h' => fr.get 12 = some (.int .i64 i) ∧ i ≤ L.length ∧ h' = h5) (fun i => L.length - i) 0 ⟨by simp, Nat.zero_le _, rfl⟩ ?_
  rintro i fr h6 ⟨k12, hi, rfl⟩ hf
  have k10 := hf 10 rfl
  have k11 := hf 11 rfl
  simp at k10 k11
  clear hf
  by_cases ci : i < L.length
  rotate_left
  · simp [h41, k10, k12, ci]
    refine (reads_sp h41 g4).mono ?_
    rintro _ h7 ⟨rfl, hF7⟩
    simp [hF7.one]
  obtain ⟨gb, cap, cs, e1, b1, b2, b3, b4, b5, b6⟩ := hra4.at5 ci
  cases e1
  have hlb := hrb.lt
  rcases hrb with ⟨e0, _⟩ | ⟨_, e1, gg, a2, a3, ev, a5⟩
  · omega
  cases ev
  have hel := encLs_len L
  have hca : ∀ j v, (encLk L[i])[j]? = some v → ∃ q : i * 5 + j < cs.length, cs[i * 5 + j]'q = v := by
    intro j v hv
    have hj : j < 5 := by have := (List.getElem?_eq_some_iff.1 hv).1; simpa [encLk] using this
    have q : i * 5 + j < cs.length := by omega
    refine ⟨q, ?_⟩
    rw [← b5, List.getElem?_take, if_pos hj, List.getElem?_drop, List.getElem?_eq_getElem q] at hv
    exact Option.some.inj hv
  have hcb : ∀ j v, (encLk L[i])[j]? = some v → ∃ q : i * 5 + j < (encLs L).length, (encLs L)[i * 5 + j]'q = v := by
    intro j v hv
    have hj : j < 5 := by have := (List.getElem?_eq_some_iff.1 hv).1; simpa [encLk] using this
    have q : i * 5 + j < (encLs L).length := by omega
    refine ⟨q, ?_⟩
    rw [← encLsAt L i j ci hj, List.getElem?_eq_getElem q] at hv
    exact Option.some.inj hv
  obtain ⟨q0, v0⟩ := hca 0 _ rfl
  obtain ⟨q1, v1⟩ := hca 1 _ rfl
  obtain ⟨q2, v2⟩ := hca 2 _ rfl
  obtain ⟨q3, v3⟩ := hca 3 _ rfl
  obtain ⟨q4, v4⟩ := hca 4 _ rfl
  obtain ⟨p0, w0⟩ := hcb 0 _ rfl
  obtain ⟨p1, w1⟩ := hcb 1 _ rfl
  obtain ⟨p2, w2⟩ := hcb 2 _ rfl
  obtain ⟨p3, w3⟩ := hcb 3 _ rfl
  obtain ⟨p4, w4⟩ := hcb 4 _ rfl
  simp only [Nat.add_zero] at q0 v0 p0 w0
  clear hca hcb b5
  have hw : IntKind.i64.wrap ((i : Int) + 1) = (i : Int) + 1 := wrap_succ (by omega)
  simp [h41, k10, k11, k12, ci, b3, a5, q0, v0, q1, v1, q2, v2, q3, v3, q4, v4, p0, w0, p1, w1, p2, w2, p3, w3, p4, w4, hw]
  exact ⟨i + 1, by omega, rfl, by omega⟩
end
end Go.Dm
