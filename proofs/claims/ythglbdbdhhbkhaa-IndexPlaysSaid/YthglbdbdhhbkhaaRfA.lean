/- The reference's Rise. -/
import Derived.Test.YthglbdbdhhbkhaaIxG
import Derived.Sort.Walk0
set_option linter.unusedVariables false
set_option linter.unusedSimpArgs false
namespace Go.Dm
open Go.Proofs
theorem src_rd {h : H} {x : Value} {X : List (List UInt8)} (r : RdS h x X) : srcD 1 x h = some (X.length, X.map str) := by
  rcases r with ⟨a, rfl, rfl⟩ | ⟨b, cap, c, st, own, fz, ty, rfl, a2, a3, a4, a5, a6⟩
  · cases a <;> rfl
  · have hl := congrArg List.length a5
    simp at hl
    by_cases h0 : X.length = 0
    · have : X = [] := List.eq_nil_of_length_eq_zero h0
      subst this
      rfl
    · simp only [srcD_some, h0, if_false]
      rcases a6 with rfl | rfl <;> simp [readD, a3, a5, h0] <;> omega
theorem app_eq {h : H} {v x : Value} {X : List (List UInt8)} (r : srcD 1 x h = some (X.length, X.map str)) : appendD E0 [27, 27] v x h = appS none 9 1 16 v X.length (X.map str) h := by
  rw [appendD_eq]
  simp [r]
/-- Labels go behind those that came. -/
theorem app_gath {B : Nat} {h : H} {v x : Value} {O X : List (List UInt8)} (ga : Gath B h v O) (rx : srcD 1 x h = some (X.length, X.map str)) (h1 : h.one = []) (hB : B ≤ h.next) (hl : O.length + X.length < 2 ^ 30) {K : VPost}
    (hK : ∀ v' h', Gath B h' v' (O ++ X) → Fr B h h' → h'.next ≤ h.next + 1 → (∀ b, b < h.next → (∀ g x y, v = .slice (some ⟨g, 0, none⟩) x y → g ≠ b) → h'.get b = h.get b) → (∀ g x y, v' = .slice (some ⟨g, 0, none⟩) x y → (∃ x y, v = .slice (some ⟨g, 0, none⟩) x y) ∨ g = h.next) → K v' h') :
    OptW (appendD E0 [27, 27] v x h) K := by
  rw [app_eq rx]
  rcases ga with ⟨rfl, rfl⟩ | ⟨e0, sl⟩
  · rw [appS_nil]
    by_cases h0 : X.length = 0
    · have hX : X = [] := List.eq_nil_of_length_eq_zero h0
      subst hX
      rw [if_pos (show ([] : List (List UInt8)).length = 0 from rfl), OptW.some]
      exact hK _ _ (.inl ⟨rfl, rfl⟩) (Fr.refl h1) (Nat.le_succ _) (fun _ _ _ => rfl) (fun g x y e => by cases e)
    · rw [if_neg h0, if_pos ⟨by omega, by omega⟩, OptW.some, addr_one h h1, new_one _ _ h1]
      refine hK _ _ (.inr ⟨fun e => h0 (by rw [List.nil_append] at e; rw [e]; rfl), h.next, X.length, X.map str, rfl, Nat.le_refl _, hB, by simp, by simp, by simp, by rw [Nat.mul_one]; exact List.take_of_length_le (by simp)⟩) ((Fr.refl h1).nw hB _) (by simp) (fun b hb _ => by rw [get_nw, if_neg (by omega)]) (fun g x y e => by cases e; exact .inr rfl)
  · by_cases h0 : X.length = 0
    · have hX : X = [] := List.eq_nil_of_length_eq_zero h0
      subst hX
      obtain ⟨g, cap, c, rfl, s2, s3, s4, s5, s6, s7⟩ := id sl
      rw [appS_some, if_pos (show ([] : List (List UInt8)).length = 0 from rfl), OptW.some]
      refine hK _ _ (.inr ⟨by simpa using e0, by simpa using sl⟩) (Fr.refl h1) (Nat.le_succ _) (fun _ _ _ => rfl) (fun g x y e => by cases e; exact .inl ⟨_, _, rfl⟩)
    · refine SlC.app sl h1 hB (by simp) h0 (by simp) (by rw [List.all_map]; exact List.all_eq_true.2 fun _ _ => rfl) (by omega) (by omega) (.inl rfl) ?_
      intro v' h' q1 q2 q3 q4 q5
      refine hK v' h' (.inr ⟨fun e => e0 (List.append_eq_nil_iff.1 e).1, ?_⟩) q2 q3 q4 q5
      rw [List.length_append, List.map_append]
      exact q1
/-- Where a label goes in. -/
def insK (s : List UInt8) (O : List (List UInt8)) : Nat := (O.takeWhile fun x => decide (x < s)).length
def insU (s : List UInt8) (O : List (List UInt8)) (k : Nat) : List (List UInt8) := O.take k ++ [s] ++ O.drop k
theorem insU_up {s : List UInt8} {O : List (List UInt8)} {k : Nat} (u : Up O) (hs : s ∉ O) (h1 : ∀ i (hi : i < O.length), i < k → O[i] < s) (h2 : ∀ hk : k < O.length, ¬ O[k] < s) : Up (insU s O k) := by
  unfold insU Up
  have hlt : ∀ a ∈ O.take k, a < s := by
    intro a ha
    obtain ⟨i, hi, rfl⟩ := List.mem_iff_getElem.1 ha
    rw [List.getElem_take]
    have hi' : i < k ∧ i < O.length := by simp at hi; omega
    exact h1 i _ hi'.1
  have hgt : ∀ b ∈ O.drop k, s < b := by
    intro b hb
    obtain ⟨i, hi, rfl⟩ := List.mem_iff_getElem.1 hb
    rw [List.getElem_drop]
    have hi' : k + i < O.length := by simp at hi; omega
    have hk : k < O.length := by omega
    have hks : s ≤ O[k] := List.not_lt.1 (h2 hk)
    have hkn : s ≠ O[k] := fun e => hs (by rw [e]; exact List.getElem_mem hk)
    have hsk : s < O[k] := Classical.byContradiction fun q => hkn (List.le_antisymm hks (List.not_lt.1 q))
    by_cases hi0 : i = 0
    · subst hi0; simpa using hsk
    · exact List.lt_trans hsk (List.pairwise_iff_getElem.1 u k (k + i) hk hi' (by omega))
  have hcut : O.take k ++ O.drop k = O := List.take_append_drop k O
  have hu : (O.take k ++ O.drop k).Pairwise (· < ·) := by rw [hcut]; exact u
  obtain ⟨u1, u2, u3⟩ := List.pairwise_append.1 hu
  refine List.pairwise_append.2 ⟨List.pairwise_append.2 ⟨u1, List.pairwise_singleton .., fun a ha b hb => ?_⟩, u2, fun a ha b hb => ?_⟩
  · rw [List.mem_singleton.1 hb]; exact hlt a ha
  · rcases List.mem_append.1 ha with ha | ha
    · exact u3 a ha b hb
    · rw [List.mem_singleton.1 ha]; exact hgt b hb
theorem insU_mem (s : List UInt8) (O : List (List UInt8)) (k : Nat) (x : List UInt8) : x ∈ insU s O k ↔ x ∈ O ∨ x = s := by
  unfold insU
  have hcut : O.take k ++ O.drop k = O := List.take_append_drop k O
  have : x ∈ O ↔ x ∈ O.take k ∨ x ∈ O.drop k := by rw [← List.mem_append, hcut]
  rw [this, List.mem_append, List.mem_append, List.mem_singleton]
  constructor
  · rintro ((h | h) | h)
    · exact .inl (.inl h)
    · exact .inr h
    · exact .inl (.inr h)
  · rintro ((h | h) | h)
    · exact .inl (.inl h)
    · exact .inr h
    · exact .inl (.inr h)
theorem insU_len (s : List UInt8) (O : List (List UInt8)) (k : Nat) : (insU s O k).length = O.length + 1 := by
  unfold insU
  simp
  omega
set_option maxRecDepth 100000 in
set_option maxHeartbeats 8000000 in
theorem Rise_sp (v : Value) (l : List (List UInt8)) (hl : l.length < 2 ^ 24) (h : H) (h1 : h.one = []) (hr : RdS h v l) : CallW E0 X0 (.fn 28) [v] h (fun r h' => Gath h.next h' r (riseL l) ∧ Fr h.next h h') := by
  refine CallW.body efn28 rfl (xo (by decide) ..) rfl [] (by kernel_rfl) ?_
  obtain ⟨a, cap, rfl⟩ := hr.sl
  simp [Try.f28, h1]
  refine wpd_loop (fun (i : Nat) fr h' => fr.get 4 = some (.int .i64 (i : Int)) ∧ i ≤ l.length ∧ Fr h.next h h' ∧ ∃ vo O, fr.get 3 = some vo ∧ Gath h.next h' vo O ∧ Up O ∧ (∀ s, s ∈ O ↔ s ∈ l.take i)) (fun i => l.length - i) 0 ⟨by simp, by simp, Fr.refl h1, .slice none 0 0, [], by simp, .inl ⟨rfl, rfl⟩, List.Pairwise.nil, by simp⟩ ?_
  rintro i fr h' ⟨g4, hile, fh, vo, O, g3, ga, uo, hm⟩ hf
  have g0 := hf 0 rfl
  simp at g0
  have nh := fh.next
  by_cases hi : i < l.length
  · have hii : (i : Int) < l.length := by omega
    have hol : O.length ≤ l.length := by
      have := nodup_len uo.nodup fun s hs => (hm s).1 hs
      rw [List.length_take] at this
      omega
    have wi : IntKind.i64.wrap ((i : Int) + 1) = ((i + 1 : Nat) : Int) := by rw [wrap_i64 (by omega) (by omega)]; omega
    obtain ⟨b, cap2, c, st, own, fz, ty, e, e2, e3, e4⟩ := (hr.fr fh).at hi
    cases e
    obtain ⟨ao, ko, rfl⟩ := ga.rd.sl
    simp [g0, g3, g4, fh.one, hi, hii, e2, e3]
    refine (Within_sp l[i] _ O (by omega) h' fh.one ga.rd).mono ?_
    rintro _ h' ⟨rfl, rfl⟩
    by_cases hw : l[i] ∈ O
    · simp [g0, g3, g4, fh.one, hw, wi]
      refine ⟨i + 1, by omega, rfl, by omega, fh, O, ga, uo, fun s => ?_⟩
      rw [mem_take1 hi, hm]
      exact ⟨.inl, fun q => q.elim id fun q => by rw [q]; exact (hm _).1 hw⟩
    · simp [g0, g3, g4, fh.one, hw]
      have hgo : ∀ {j : Nat}, j < O.length → ∃ g cp, Value.slice ao O.length ko = .slice (some ⟨g, 0, none⟩) O.length cp ∧ SlC none 1 h.next h' (.slice ao O.length ko) (O.map str) O.length ∧ O ≠ [] := by
        intro j hj
        rcases ga with ⟨e, e0⟩ | ⟨e0, s⟩
        · rw [e0] at hj; simp at hj
        · obtain ⟨g, cp, cc, q1, _⟩ := id s
          exact ⟨g, cp, q1, s, e0⟩
      refine wpd_loop (fun (k : Nat) fr2 h5 => fr2.get 5 = some (.int .i64 (k : Int)) ∧ k ≤ O.length ∧ (∀ j (hj : j < O.length), j < k → O[j] < l[i]) ∧ h5 = h') (fun k => O.length - k) 0 ⟨by simp, by omega, fun j hj q => by omega, rfl⟩ ?_
      rintro k fr2 h' ⟨k5, hkl, hlt, rfl⟩ hf2
      have j0 := hf2 0 rfl
      have j3 := hf2 3 rfl
      have j4 := hf2 4 rfl
      simp [g0, g3, g4] at j0 j3 j4
      have htl : ∀ (h2 : ∀ hk : k < O.length, ¬ O[k] < l[i]), Up (insU l[i] O k) ∧ ∀ s, s ∈ insU l[i] O k ↔ s ∈ l.take (i + 1) := by
        intro h2
        refine ⟨insU_up uo hw hlt h2, fun s => ?_⟩
        rw [insU_mem, mem_take1 hi, hm]
      by_cases hk : k < O.length
      · have hki : (k : Int) < O.length := by omega
        obtain ⟨g, cp, e5, sl, e0⟩ := hgo hk
        cases e5
        obtain ⟨g', cap', c', q1, q2, q3, q4, q5, q6, q7⟩ := id sl
        cases q1
        have wk : IntKind.i64.wrap ((k : Int) + 1) = ((k + 1 : Nat) : Int) := by rw [wrap_i64 (by omega) (by omega)]; omega
        rw [Nat.mul_one] at q6 q7
        have hck : c'[k]? = some (str O[k]) := by
          have := congrArg (fun l => l[k]?) q7
          simp only [List.getElem?_take, hk, if_true, List.getElem?_map, List.getElem?_eq_getElem hk, Option.map_some] at this
          exact this
        have hbl := bytesLess_eq O[k] l[i]
        by_cases hlt2 : O[k] < l[i]
        · rw [decide_eq_true hlt2] at hbl
          simp [-Int.natCast_add, j0, j3, j4, k5, fh.one, hi, hii, hk, hki, e2, e3, q5, hck, hbl, wk]
          refine ⟨k + 1, by omega, rfl, by omega, fun j hj hjk => ?_⟩
          by_cases hjk2 : j = k
          · subst hjk2; exact hlt2
          · exact hlt j hj (by omega)
        · rw [decide_eq_false hlt2] at hbl
          obtain ⟨u2, m2⟩ := htl fun _ => hlt2
          have hkc : k ≤ ko := by omega
          have hol2 : O.length ≤ c'.length := by omega
          simp [-appendD_eq, j0, j3, j4, k5, fh.one, hi, hii, hk, hki, e2, e3, q5, hck, hbl, hkl, hkc]
          have hsrc : srcD 1 (.slice (some ⟨g, k, none⟩) (O.length - k) (ko - k)) h' = some ((O.drop k).length, (O.drop k).map str) := by
            have hnz : ¬ O.length - k = 0 := by omega
            rw [srcD_some, if_neg hnz]
            have hc2 : (c'.drop k).take (O.length - k) = (O.drop k).map str := by
              rw [← List.drop_take, q7, List.map_drop]
            simp [readD, q5, hc2]
            omega
          refine app_gath (B := h.next) (O := []) (X := O.drop k) (.inl ⟨rfl, rfl⟩) hsrc fh.one nh (by simp; omega) ?_
          intro v6 h6 ga6 f6 n6 k6 b6
          rw [List.nil_append] at ga6
          have nh6 := f6.next
          have q56 := (k6 g q4 (fun g x y e => by cases e)).trans q5
          have b56 := (k6 b (by omega) (fun g x y e => by cases e)).trans e2
          have hz1 : zerosD [str []] 1 = [str []] := rfl
          simp [-appendD_eq, -Int.natCast_add, j0, j3, j4, k5, f6.one, hi, hii, hkl, hkc, q56, b56, e3, hz1]
          obtain ⟨h7, hh7⟩ : ∃ h7, h7 = h6.nw (.cells [str l[i]] 1 true 0 none) := ⟨_, rfl⟩
          rw [← hh7]
          have n7 : h7.next = h6.next + 1 := by rw [hh7]; rfl
          have f7 : Fr h6.next h6 h7 := by rw [hh7]; exact (Fr.refl f6.one).nw (Nat.le_refl _) _
          have r7 : RdS h7 (.slice (some ⟨h6.next, 0, none⟩) 1 1) [l[i]] := .inr ⟨h6.next, 1, [str l[i]], 1, true, 0, none, rfl, Nat.le_refl _, by rw [hh7]; simp, by omega, rfl, .inr rfl⟩
          clear hh7
          have g6n : h'.next ≤ h6.next := by
            rcases Nat.lt_or_ge h6.next h'.next with q | q
            · rcases ga6 with ⟨_, e0⟩ | ⟨_, g6, cp6, c6, rfl, u2', u3, u4, u5, _, _⟩
              · rw [List.drop_eq_nil_iff] at e0; omega
              · rcases b6 g6 _ _ rfl with ⟨_, _, e⟩ | rfl
                · cases e
                · omega
            · exact q
          have s7 : SlC none 1 h.next h7 (.slice (some ⟨g, 0, none⟩) k ko) ((O.take k).map str) k := ⟨g, ko, c', rfl, hkc, q3, by omega, (f7.get _ (by omega)).trans q56, by rw [Nat.mul_one]; exact q6, by
            rw [Nat.mul_one, List.map_take, ← q7, List.take_take, Nat.min_eq_left (by omega)]⟩
          rw [app_eq (src_rd r7)]
          refine SlC.app s7 f7.one (by omega) (by simp) (by simp) (by simp) (by rfl) (by simp; omega) (by simp) (.inl rfl) ?_
          intro v8 h8 w1 w2 w3 w4 w5
          have n8 := w2.next
          have ga8 : Gath h.next h8 v8 (O.take k ++ [l[i]]) := .inr ⟨by simp, by
            rw [List.map_append, List.length_append, List.length_take, Nat.min_eq_left hkl]
            exact w1⟩
          have r6 : RdS h8 v6 (O.drop k) := by
            rcases ga6 with ⟨rfl, e0⟩ | ⟨_, g6, cp6, c6, rfl, u2', u3, u4, u5, u6, u7⟩
            · exact .inl ⟨none, rfl, e0⟩
            · rcases b6 g6 _ _ rfl with ⟨_, _, e⟩ | rfl
              · cases e
              · rw [Nat.mul_one] at u7
                exact .inr ⟨_, cp6, c6, 1, true, 0, none, rfl, u2', (w4 _ (by omega) (fun g x y e => by cases e; omega)).trans ((f7.get _ u4).trans u5), by omega, u7, .inr rfl⟩
          simp [-appendD_eq, w2.one]
          refine app_gath ga8 (src_rd r6) w2.one (by omega) (by simp; omega) ?_
          intro v9 h9 ga9 f9 n9 k9 b9
          simp [-Int.natCast_add, f9.one, j4, wi]
          exact ⟨i + 1, by omega, rfl, by omega, fh.trans (f6.trans ((f7.mono (by omega)).trans (w2.trans f9))), _, ga9, u2, m2⟩
      · have hki : ¬ (k : Int) < O.length := by omega
        obtain rfl : k = O.length := by omega
        obtain ⟨u2, m2⟩ := htl fun q => absurd q hk
        have hz1 : zerosD [str []] 1 = [str []] := rfl
        have htk : insU l[i] O O.length = O ++ [l[i]] := by unfold insU; simp
        rw [htk] at u2 m2
        rcases ga with ⟨e5, rfl⟩ | ⟨e0, sl⟩
        · cases e5
          simp [-Int.natCast_add, -appS_some, j0, j3, j4, k5, fh.one, hi, hii, e2, e3, hz1, wi]
          rw [appS_some, if_pos rfl, OptW.some]
          simp [-Int.natCast_add, j4, wi]
          refine ⟨i + 1, by omega, rfl, by omega, (fh.nw nh _).nw (by simp; omega) _, [l[i]], .inr ⟨by simp, ?_⟩, by simpa using u2, by simpa using m2⟩
          exact ⟨h'.next + 1, 1, [str l[i]], rfl, Nat.le_refl _, by omega, by simp, by simp, rfl, rfl⟩
        · obtain ⟨g, cap', c', q1, q2, q3, q4, q5, q6, q7⟩ := id sl
          cases q1
          have hkk : ¬ O.length < O.length := by omega
          simp [-appendD_eq, -Int.natCast_add, j0, j3, j4, k5, fh.one, hi, hii, e2, e3, q5, hz1, q2]
          have hsrc : srcD 1 (.slice (some ⟨g, O.length, none⟩) 0 (ko - O.length)) h' = some (([] : List (List UInt8)).length, ([] : List (List UInt8)).map str) := rfl
          rw [app_eq hsrc]
          simp [-appendD_eq, -appS_some, -Int.natCast_add, j0, j3, j4, k5, fh.one, hi, hii, e2, e3, q5, hz1, q2]
          obtain ⟨h7, hh7⟩ : ∃ h7, h7 = h'.nw (.cells [str l[i]] 1 true 0 none) := ⟨_, rfl⟩
          rw [← hh7]
          have n7 : h7.next = h'.next + 1 := by rw [hh7]; rfl
          have f7 : Fr h'.next h' h7 := by rw [hh7]; exact (Fr.refl fh.one).nw (Nat.le_refl _) _
          have r7 : RdS h7 (.slice (some ⟨h'.next, 0, none⟩) 1 1) [l[i]] := .inr ⟨h'.next, 1, [str l[i]], 1, true, 0, none, rfl, Nat.le_refl _, by rw [hh7]; simp, by omega, rfl, .inr rfl⟩
          clear hh7
          have s7 := sl.of_get f7.next fun g _ hg => f7.get g hg
          rw [app_eq (src_rd r7)]
          refine SlC.app s7 f7.one (by omega) (by simp) (by simp) (by simp) (by rfl) (by simp; omega) (by simp) (.inl rfl) ?_
          intro v8 h8 w1 w2 w3 w4 w5
          have n8 := w2.next
          have ga8 : Gath h.next h8 v8 (O ++ [l[i]]) := .inr ⟨by simp, by
            rw [List.map_append, List.length_append]
            exact w1⟩
          have hsrc8 : srcD 1 (.slice none 0 0) h8 = some (([] : List (List UInt8)).length, ([] : List (List UInt8)).map str) := rfl
          simp [-appendD_eq, w2.one]
          refine app_gath ga8 hsrc8 w2.one (by omega) (by simp; omega) ?_
          intro v9 h9 ga9 f9 n9 k9 b9
          rw [List.append_nil] at ga9
          simp [-Int.natCast_add, f9.one, j4, wi]
          exact ⟨i + 1, by omega, rfl, by omega, fh.trans ((f7.mono (by omega)).trans (w2.trans f9)), _, ga9, u2, m2⟩
  · have hii : ¬ (i : Int) < l.length := by omega
    obtain rfl : i = l.length := by omega
    rw [List.take_length] at hm
    have hO : O = riseL l := uo.ext (riseL_up l) fun s => by rw [hm, riseL_mem]
    simp [g0, g3, g4, fh.one]
    rw [← hO]
    exact ⟨ga, fh⟩
end Go.Dm
