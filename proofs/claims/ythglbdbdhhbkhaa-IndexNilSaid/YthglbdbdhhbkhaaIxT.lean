/- The law IndexTells, by the machine D. -/
import Derived.Test.YthglbdbdhhbkhaaIxG
import Derived.Sort.Walk0
set_option linter.unusedVariables false
set_option linter.unusedSimpArgs false
namespace Go.Dm
open Go.Proofs
def cntNot (l m : List (List UInt8)) : Nat := (l.filter fun s => decide (s ∉ m)).length
theorem cntNot_take {l m : List (List UInt8)} {i : Nat} (hi : i < l.length) : cntNot (l.take (i + 1)) m = cntNot (l.take i) m + if l[i] ∈ m then 0 else 1 := by
  unfold cntNot
  rw [List.take_succ_eq_append_getElem hi, List.filter_append, List.length_append]
  by_cases h : l[i] ∈ m <;> simp [h]
theorem cntNot_le (l m : List (List UInt8)) : cntNot l m ≤ l.length := List.length_filter_le ..
/-- What became known and what is known no more: so many are told. -/
theorem told_len {L L' : List En} : cntNot (knownL L) (knownL L') + cntNot (knownL L') (knownL L) = (toldL L L').length := by
  unfold cntNot
  rw [← List.length_append]
  refine List.Perm.length_eq ((List.perm_ext_iff_of_nodup ?_ (riseL_up _).nodup).2 fun s => ?_)
  · refine List.nodup_append.2 ⟨(known_up L).nodup.filter _, (known_up L').nodup.filter _, ?_⟩
    intro a ha b hb e
    subst e
    have h1 := (List.mem_filter.1 ha).1
    have h2 := (List.mem_filter.1 hb).2
    simp [h1] at h2
  · rw [show (s ∈ riseL _ ↔ _) from told_mem, List.mem_append, List.mem_filter, List.mem_filter]
    by_cases h1 : 0 < cntL L s <;> by_cases h2 : 0 < cntL L' s <;> simp [h1, h2, known_mem]
theorem told_tot {L L' : List En} (h : totL L < 2 ^ 20) (h' : totL L' < 2 ^ 20) : (knownL L).length < 2 ^ 20 ∧ (knownL L').length < 2 ^ 20 ∧ (toldL L L').length < 2 ^ 22 := by
  have k : ∀ M : List En, (knownL M).length ≤ totL M := by
    intro M
    refine Nat.le_trans (riseL_len _) ?_
    induction M with
    | nil => exact Nat.le_refl _
    | cons a M ih =>
      unfold totL at *
      simp only [List.flatMap_cons, List.length_append, List.map_cons, List.sum_cons] at *
      omega
  have k1 := k L
  have k2 := k L'
  have := told_len (L := L) (L' := L')
  have := cntNot_le (knownL L) (knownL L')
  have := cntNot_le (knownL L') (knownL L)
  exact ⟨by omega, by omega, by omega⟩
theorem sum_take_le : ∀ (l : List Nat) (k : Nat), (l.take k).sum ≤ l.sum
  | [], k => by simp
  | a :: l, 0 => by simp
  | a :: l, k + 1 => by have := sum_take_le l k; simp only [List.take_succ_cons, List.sum_cons]; omega
theorem up_lt {l : List (List UInt8)} (u : Up l) {i : Nat} (hi : i + 1 < l.length) : Op.bytesLess l[i] l[i + 1] = true := by
  rw [bytesLess_eq]
  exact decide_eq_true (List.pairwise_iff_getElem.1 u i (i + 1) (by omega) hi (by omega))
set_option maxRecDepth 100000 in
set_option maxHeartbeats 16000000 in
theorem law_Tells (v : Value) (l : List Ac) (hml : ∀ a ∈ l, ∀ s ∈ a.d, s.length ≤ maxLen) (h : H) (h1 : h.one = []) (hr : RdA h v l) : CallW E0 X0 (.fn 3) [v] h (fun r _ => r = .bool true) := by
  refine CallW.body efn3 rfl (xo (by decide) ..) rfl [15] (by kernel_rfl) ?_
  obtain ⟨a, cap, rfl⟩ := hr.sl
  simp [Try.f3, h1]
  refine (great_sp _ l h h1 hr).mono ?_
  rintro _ _ ⟨rfl, rfl⟩
  simp [h1]
  cases hg : greatB l with
  | true =>
    simp [h1]
    refine (wakes_sp _ h1).mono ?_
    rintro _ h2 ⟨rfl, f2⟩
    simp [f2.one]
  | false =>
    have hg' : ¬ (100 < l.length ∨ 600 < totA l) := by unfold greatB at hg; simpa using hg
    simp [h1]
    refine (New_sp _ h1).mono ?_
    rintro _ h2 ⟨xb, em, dm, mm, cm, rfl, rep, f2, lx, le, ld, lm, lc⟩
    simp [f2.one]
    rename_i h0
    refine wpd_loop (fun (i : Nat) fr h' => fr.get 4 = some (.int .i64 (i : Int)) ∧ i ≤ l.length ∧ Fr h0.next h0 h' ∧ ∃ f, Rep h' xb em dm mm cm (runL [] (l.take i)) f) (fun i => l.length - i) 0 ⟨by simp, by simp, f2, _, rep⟩ ?_
    rintro i fr h' ⟨g4, hile, fh, f, rep⟩ hf
    have g0 := hf 0 rfl
    have g3 := hf 3 rfl
    simp at g0 g3
    have nh := fh.next
    by_cases hi : i < l.length
    · have hii : (i : Int) < l.length := by omega
      have htk := totA_take hi
      have htl : totA (l.take (i + 1)) ≤ totA l := by
        unfold totA
        rw [List.map_take]
        exact sum_take_le _ _
      have hri : Ris (runL [] (l.take i)) := rep.ris
      have ht1 : totL (runL [] (l.take i)) ≤ totA (l.take i) := by have := run_tot (L := []) List.Pairwise.nil (l.take i); simpa [totL] using this
      have hrt := run_take [] hi
      obtain ⟨L1, hL1⟩ : ∃ L1, L1 = runL [] (l.take i) := ⟨_, rfl⟩
      rw [← hL1] at rep hri ht1 hrt
      have ht2 := act_tot hri l[i]
      simp [g0, g3, g4, fh.one, hi, hii]
      refine (Known_sp xb em dm mm cm L1 f h' fh.one rep (by omega)).mono ?_
      rintro v5 h3 ⟨ga5, f3⟩
      have rep3 := rep.fr f3
      have fh3 := fh.trans (f3.mono nh)
      obtain ⟨b, cap2, c, st, own, fz, ty, dv, mv, e, e2, e3, rd, rm, e4⟩ := (hr.fr fh3).at hi
      cases e
      obtain ⟨c0, c1, c2, c3, c4⟩ := four_at e3
      simp [g0, g3, g4, f3.one, hi, hii, e2, e3, c4]
      refine (done_sp xb em dm mm cm L1 f l[i] dv mv h3 f3.one rep3 rd rm (by omega) (hml l[i] (List.getElem_mem hi))).mono ?_
      rintro _ h4 ⟨rv, f', rfl, rdT, rep4, _, k4, n4, o4⟩
      have n3 := f3.next
      have fh4 : Fr h0.next h0 h4 := ⟨o4, by omega, fun x hx => (k4 x (by omega) (by omega) (by omega) (by omega) (by omega)).trans (fh3.get x hx)⟩
      have rdA4 : RdS h4 v5 (knownL L1) := ga5.rd.keep rep3 n4 k4
      obtain ⟨L2, hL2⟩ : ∃ L2, L2 = actL L1 l[i] := ⟨_, rfl⟩
      rw [← hL2] at rdT rep4 hrt ht2
      simp [o4, g3]
      refine (Known_sp xb em dm mm cm L2 f' h4 o4 rep4 (by omega)).mono ?_
      rintro v8 h5 ⟨ga8, f5⟩
      have rep5 := rep4.fr f5
      have fh5 := fh4.trans (f5.mono (by omega))
      have rT := rdT.fr f5
      have rA := rdA4.fr f5
      have rB := ga8.rd
      have o5 := f5.one
      obtain ⟨tA, tB, tT⟩ := told_tot (L := L1) (L' := L2) (by omega) (by omega)
      obtain ⟨aT, kT, rfl⟩ := rT.sl
      obtain ⟨aA, kA, rfl⟩ := rA.sl
      obtain ⟨aB, kB, rfl⟩ := rB.sl
      have uT : Up (toldL L1 L2) := riseL_up _
      have uB := known_up L2
      have hE : (actE l[i] = 0 ∧ (True = True) ∧ (True = True) ∧ (True = True)) ∨ (actE l[i] = 1 ∧ ((((toldL L1 L2).length : Int) = 0) = True) ∧ (((toldL L1 L2).length = 0) = True) ∧ ((toldL L1 L2 = []) = True)) := by
        unfold actE
        by_cases hn : l[i].n < 0
        · have hz : toldL L1 L2 = [] := by rw [hL2, actL, if_pos hn, told_self]
          exact .inr ⟨if_pos hn, eq_true (by rw [hz]; rfl), eq_true (by rw [hz]; rfl), eq_true hz⟩
        · exact .inl ⟨if_neg hn, rfl, rfl, rfl⟩
      clear c0 c1 c2 c3 c4 e2 e3 rd rm rep4 rep3 ga5 ga8 rdT rdA4 rep k4
      have hT12 : ∀ s ∈ toldL L1 L2, (decide (s ∈ knownL L1) == decide (s ∈ knownL L2)) = false := by
        intro s hs
        rcases told_mem.1 hs with ⟨q1, q2⟩ | ⟨q1, q2⟩
        · rw [decide_eq_true (known_mem.2 q1), decide_eq_false (fun e => q2 (known_mem.1 e))]; rfl
        · rw [decide_eq_false (fun e => q1 (known_mem.1 e)), decide_eq_true (known_mem.2 q2)]; rfl
      rcases hE with ⟨he, t1, t2, t3⟩ | ⟨he, t1, t2, t3⟩ <;> (
        simp [o5, he, t1, t2, t3]
        refine wpd_loop (fun (k : Nat) fr2 h6 => fr2.get 9 = some (.int .i64 (k : Int)) ∧ k ≤ (toldL L1 L2).length ∧ h6 = h5) (fun k => (toldL L1 L2).length - k) 0 ⟨by simp, by simp, rfl⟩ ?_
        rintro k fr2 h5 ⟨j9, hkle, rfl⟩ hf2
        have j0 := hf2 0 rfl
        have j3 := hf2 3 rfl
        have j4 := hf2 4 rfl
        have j5 := hf2 5 rfl
        have j6 := hf2 6 rfl
        have j8 := hf2 8 rfl
        simp [g0, g3, g4] at j0 j3 j4 j5 j6 j8
        by_cases hk : k < (toldL L1 L2).length
        · have hki : (k : Int) < (toldL L1 L2).length := by omega
          obtain ⟨b6, cap6, c6, st6, ow6, fz6, ty6, e, e2, e3, e4⟩ := rT.at hk
          cases e
          have hmem := hT12 _ (List.getElem_mem hk)
          have wA := Within_sp (toldL L1 L2)[k] _ (knownL L1) (by omega) h5 o5 rA
          have wB := Within_sp (toldL L1 L2)[k] _ (knownL L2) (by omega) h5 o5 rB
          have wk : IntKind.i64.wrap ((k : Int) + 1) = ((k + 1 : Nat) : Int) := by rw [wrap_i64 (by omega) (by omega)]; omega
          cases k with
          | zero =>
            simp [-decide_eq_decide, -Int.natCast_add, j5, j6, j8, j9, o5, hk, hki, e2, e3]
            refine ⟨laxW_of [(24, 20)] (by kernel_rfl) ?_, ?_⟩
            · simp [-decide_eq_decide, -Int.natCast_add, LaxP, j5, j6, j8, j9, o5, hk, hki, e2, e3]
              refine wA.mono ?_
              rintro _ h5 ⟨rfl, rfl⟩
              simp [-decide_eq_decide, -Int.natCast_add, j5, j6, j8, j9, o5, hk, hki, e2, e3, LaxG_load]
              exact decide_eq_true (rfl : (_ : ByteArray) = _)
            refine wA.mono ?_
            rintro _ h5 ⟨rfl, rfl⟩
            simp [-decide_eq_decide, -Int.natCast_add, j5, j6, j8, j9, o5, hk, hki, e2, e3]
            refine wB.mono ?_
            rintro _ h5 ⟨rfl, rfl⟩
            simp [-decide_eq_decide, -Int.natCast_add, j5, j6, j8, j9, o5, hk, hki, e2, e3, hmem, wk]
            exact ⟨1, by omega, by decide, by omega⟩
          | succ k0 =>
            have hk0 : k0 < (toldL L1 L2).length := by omega
            have hk0i : (k0 : Int) < (toldL L1 L2).length := by omega
            have hk1 : (0 : Int) < ((k0 + 1 : Nat) : Int) := by omega
            obtain ⟨b7, cap7, c7, st7, ow7, fz7, ty7, e', d2, d3, d4⟩ := rT.at hk0
            injection e' with e5 e6 e7
            injection e5 with e5
            injection e5 with e5
            subst e5
            rw [e2] at d2
            cases d2
            have hless := up_lt uT hk
            have wm : IntKind.i64.wrap (((k0 + 1 : Nat) : Int) - 1) = ((k0 : Nat) : Int) := by rw [wrap_i64 (by omega) (by omega)]; omega
            simp [-decide_eq_decide, -Int.natCast_add, j5, j6, j8, j9, o5, hk, hki, hk0, hk0i, hk1, e2, e3, d3, hless, wm]
            refine ⟨laxW_of [(24, 20)] (by kernel_rfl) ?_, ?_⟩
            · simp [-decide_eq_decide, -Int.natCast_add, LaxP, j5, j6, j8, j9, o5, hk, hki, hk0, hk0i, hk1, e2, e3, d3, hless, wm]
              refine wA.mono ?_
              rintro _ h5 ⟨rfl, rfl⟩
              simp [-decide_eq_decide, -Int.natCast_add, j5, j6, j8, j9, o5, hk, hki, hk0, hk0i, hk1, e2, e3, d3, hless, wm, LaxG_load]
              exact decide_eq_true (rfl : (_ : ByteArray) = _)
            refine wA.mono ?_
            rintro _ h5 ⟨rfl, rfl⟩
            simp [-decide_eq_decide, -Int.natCast_add, j5, j6, j8, j9, o5, hk, hki, hk0, hk0i, hk1, e2, e3, d3, hless, wm]
            refine wB.mono ?_
            rintro _ h5 ⟨rfl, rfl⟩
            simp [-decide_eq_decide, -Int.natCast_add, j5, j6, j8, j9, o5, hk, hki, hk0, hk0i, hk1, e2, e3, d3, hless, wm, hmem, wk]
            exact ⟨k0 + 2, by omega, rfl, by omega⟩
        have hki : ¬ (k : Int) < (toldL L1 L2).length := by omega
        simp [j6, j9, o5, hk, hki]
        clear hk hki hf2 j9
        refine wpd_loop (fun (k : Nat) fr3 h6 => fr3.get 11 = some (.int .i64 (k : Int)) ∧ fr3.get 10 = some (.int .i64 (cntNot ((knownL L1).take k) (knownL L2) : Int)) ∧ k ≤ (knownL L1).length ∧ h6 = h5) (fun k => (knownL L1).length - k) 0 ⟨by simp, by simp [cntNot], by simp, rfl⟩ ?_
        rintro k fr3 h5 ⟨m11, m10, hkle2, rfl⟩ hf3
        have m0 := hf3 0 rfl
        have m3 := hf3 3 rfl
        have m4 := hf3 4 rfl
        have m5 := hf3 5 rfl
        have m6 := hf3 6 rfl
        have m8 := hf3 8 rfl
        simp [j0, j3, j4, j5, j6, j8] at m0 m3 m4 m5 m6 m8
        by_cases hk : k < (knownL L1).length
        · have hki : (k : Int) < (knownL L1).length := by omega
          obtain ⟨b6, cap6, c6, st6, ow6, fz6, ty6, e, e2, e3, e4⟩ := rA.at hk
          cases e
          have wB := Within_sp (knownL L1)[k] _ (knownL L2) (by omega) h5 o5 rB
          have wk : IntKind.i64.wrap ((k : Int) + 1) = ((k + 1 : Nat) : Int) := by rw [wrap_i64 (by omega) (by omega)]; omega
          have hct := cntNot_take (m := knownL L2) hk
          have hcl := cntNot_le ((knownL L1).take k) (knownL L2)
          rw [List.length_take] at hcl
          have wn : IntKind.i64.wrap ((cntNot ((knownL L1).take k) (knownL L2) : Int) + 1) = ((cntNot ((knownL L1).take k) (knownL L2) + 1 : Nat) : Int) := by rw [wrap_i64 (by omega) (by omega)]; omega
          simp [-Int.natCast_add, m5, m8, m10, m11, o5, hk, hki, e2, e3]
          refine wB.mono ?_
          rintro _ h5 ⟨rfl, rfl⟩
          by_cases hm : (knownL L1)[k] ∈ knownL L2
          · rw [if_pos hm] at hct
            simp [-Int.natCast_add, m5, m8, m10, m11, o5, hm, wk]
            exact ⟨k + 1, by omega, rfl, by rw [hct]; rfl, by omega⟩
          · rw [if_neg hm] at hct
            simp [-Int.natCast_add, m5, m8, m10, m11, o5, hm, wk, wn]
            exact ⟨k + 1, by omega, rfl, by rw [hct], by omega⟩
        have hki : ¬ (k : Int) < (knownL L1).length := by omega
        obtain rfl : k = (knownL L1).length := by omega
        rw [List.take_length] at m10
        simp [m5, m11, o5]
        clear hki hf3 m11 j0 j3 j4 j5 j6 j8
        refine wpd_loop (fun (k : Nat) fr4 h6 => fr4.get 12 = some (.int .i64 (k : Int)) ∧ fr4.get 10 = some (.int .i64 ((cntNot (knownL L1) (knownL L2) + cntNot ((knownL L2).take k) (knownL L1) : Nat) : Int)) ∧ k ≤ (knownL L2).length ∧ h6 = h5) (fun k => (knownL L2).length - k) 0 ⟨by simp, by simp [m10]; rfl, by simp, rfl⟩ ?_
        rintro k fr4 h5 ⟨q11, q10, hkle3, rfl⟩ hf4
        have q0 := hf4 0 rfl
        have q3 := hf4 3 rfl
        have q4 := hf4 4 rfl
        have q5 := hf4 5 rfl
        have q6 := hf4 6 rfl
        have q8 := hf4 8 rfl
        simp [m0, m3, m4, m5, m6, m8] at q0 q3 q4 q5 q6 q8
        have hc1 := cntNot_le (knownL L1) (knownL L2)
        by_cases hk : k < (knownL L2).length
        · have hki : (k : Int) < (knownL L2).length := by omega
          obtain ⟨b6, cap6, c6, st6, ow6, fz6, ty6, e, e2, e3, e4⟩ := rB.at hk
          cases e
          have wA := Within_sp (knownL L2)[k] _ (knownL L1) (by omega) h5 o5 rA
          have hD := Defined_sp xb em dm mm cm L2 f' (knownL L2)[k] h5 o5 rep5
          have hcp := known_mem.1 (List.getElem_mem hk)
          have hpos : ¬ ((cntL L2 (knownL L2)[k] : Nat) : Int) < 1 := by omega
          have wk : IntKind.i64.wrap ((k : Int) + 1) = ((k + 1 : Nat) : Int) := by rw [wrap_i64 (by omega) (by omega)]; omega
          have hct := cntNot_take (m := knownL L1) hk
          have hcl := cntNot_le ((knownL L2).take k) (knownL L1)
          rw [List.length_take] at hcl
          obtain ⟨N, hN⟩ : ∃ N, N = cntNot (knownL L1) (knownL L2) + cntNot ((knownL L2).take k) (knownL L1) := ⟨_, rfl⟩
          rw [← hN] at q10
          have wn : IntKind.i64.wrap ((N : Int) + 1) = ((N + 1 : Nat) : Int) := by rw [wrap_i64 (by omega) (by omega)]; omega
          simp [-Int.natCast_add, q5, q8, q10, q11, o5, hk, hki, e2, e3]
          refine wA.mono ?_
          rintro _ h5 ⟨rfl, rfl⟩
          cases k with
          | zero =>
            by_cases hm : (knownL L2)[0] ∈ knownL L1
            · rw [if_pos hm] at hct
              simp [-decide_eq_decide, -Int.natCast_add, q3, q5, q8, q10, q11, o5, hk, hki, e2, e3, hpos, wk, wn, hm]
              refine hD.mono ?_
              rintro _ h5 ⟨rfl, rfl⟩
              simp [-decide_eq_decide, -Int.natCast_add, q3, q5, q8, q10, q11, o5, hk, hki, e2, e3, hpos, wk, wn, hm]
              exact ⟨1, by omega, by decide, by rw [hct, hN]; rfl, by omega⟩
            · rw [if_neg hm] at hct
              simp [-decide_eq_decide, -Int.natCast_add, q3, q5, q8, q10, q11, o5, hk, hki, e2, e3, hpos, wk, wn, hm]
              refine hD.mono ?_
              rintro _ h5 ⟨rfl, rfl⟩
              simp [-decide_eq_decide, -Int.natCast_add, q3, q5, q8, q10, q11, o5, hk, hki, e2, e3, hpos, wk, wn, hm]
              exact ⟨1, by omega, by decide, by rw [hct, hN, Nat.add_assoc], by omega⟩
          | succ k0 =>
            have hk0 : k0 < (knownL L2).length := by omega
            have hk0i : (k0 : Int) < (knownL L2).length := by omega
            have hk1 : (0 : Int) < ((k0 + 1 : Nat) : Int) := by omega
            obtain ⟨b7, cap7, c7, st7, ow7, fz7, ty7, e', d2, d3, d4⟩ := rB.at hk0
            injection e' with e5 e6 e7
            injection e5 with e5
            injection e5 with e5
            subst e5
            rw [e2] at d2
            cases d2
            have hless := up_lt uB hk
            have wm : IntKind.i64.wrap (((k0 + 1 : Nat) : Int) - 1) = ((k0 : Nat) : Int) := by rw [wrap_i64 (by omega) (by omega)]; omega
            by_cases hm : (knownL L2)[k0 + 1] ∈ knownL L1
            · rw [if_pos hm] at hct
              simp [-decide_eq_decide, -Int.natCast_add, q3, q5, q8, q10, q11, o5, hk, hki, e2, e3, hpos, wk, wn, hm, hk0, hk0i, hk1, d3, hless, wm]
              refine hD.mono ?_
              rintro _ h5 ⟨rfl, rfl⟩
              simp [-decide_eq_decide, -Int.natCast_add, q3, q5, q8, q10, q11, o5, hk, hki, e2, e3, hpos, wk, wn, hm, hk0, hk0i, hk1, d3, hless, wm]
              exact ⟨k0 + 2, by omega, rfl, by rw [hct, hN]; rfl, by omega⟩
            · rw [if_neg hm] at hct
              simp [-decide_eq_decide, -Int.natCast_add, q3, q5, q8, q10, q11, o5, hk, hki, e2, e3, hpos, wk, wn, hm, hk0, hk0i, hk1, d3, hless, wm]
              refine hD.mono ?_
              rintro _ h5 ⟨rfl, rfl⟩
              simp [-decide_eq_decide, -Int.natCast_add, q3, q5, q8, q10, q11, o5, hk, hki, e2, e3, hpos, wk, wn, hm, hk0, hk0i, hk1, d3, hless, wm]
              exact ⟨k0 + 2, by omega, rfl, by rw [hct, hN, Nat.add_assoc], by omega⟩
        have hki : ¬ (k : Int) < (knownL L2).length := by omega
        obtain rfl : k = (knownL L2).length := by omega
        rw [List.take_length, told_len] at q10
        have wi : IntKind.i64.wrap ((i : Int) + 1) = ((i + 1 : Nat) : Int) := by rw [wrap_i64 (by omega) (by omega)]; omega
        simp [-Int.natCast_add, q4, q6, q8, q10, q11, o5, wi]
        exact ⟨i + 1, by omega, rfl, by omega, fh5, f', by rw [hrt]; exact rep5⟩)
    · have hii : ¬ (i : Int) < l.length := by omega
      simp [g0, g3, g4, fh.one, hi, hii]
      refine (wakes_sp _ fh.one).mono ?_
      rintro _ h9 ⟨rfl, f9⟩
      simp [f9.one]
end Go.Dm
