/- The shell's words: the reference's Read. -/
import Derived.Test.YtdgclgfhcgdehaaDoorShD
set_option linter.unusedVariables false
set_option linter.unusedSimpArgs false
namespace Go.Dm
open Go.Proofs
structure ESt (h : H) (k mark : Nat) (acc : List Pc) (fr : T Value) (h' : H) : Prop where
  f1 : fr.get 1 = some (.int .i64 k)
  f2 : fr.get 2 = some (.int .u8 mark)
  tx : ∃ v, fr.get 9 = some v ∧ SlG none 6 h.next h' v (encs acc) acc.length
  al : acc.length ≤ k + 1
  fr : Fr h.next h h'
set_option maxHeartbeats 8000000 in
theorem RefRead_sp (line : List UInt8) (a : Int) (mark : Nat) (hs : line.length < 2 ^ 38) (hm : mark < 256) (h : H) (h1 : h.one = []) :
    CallW E0 X0 (.fn 25) [str line, .int .i64 a, .int .u8 mark] h (fun v h' => ∃ sl, v = .tuple #[sl, .int .u8 (rdAt line a mark).2] ∧ SlG none 6 h.next h' sl (encs (rdAt line a mark).1) (rdAt line a mark).1.length ∧ Fr h.next h h') := by
  refine CallW.body efn25 rfl rfl rfl [] (by kernel_rfl) ?_
  have hcl := ctn_length line
  have hle := ctnN_le line
  simp [Tryd.f25, h1]
  refine (Content_sp line (by omega) _ h1).mono ?_
  rintro v h ⟨rfl, rfl⟩
  by_cases c1 : a < 0
  · simp [h1, c1, rdAt]
    exact ⟨SlG.nil _ _ _ _, Fr.refl h1⟩
  obtain ⟨k, rfl⟩ : ∃ n : Nat, a = n := ⟨a.toNat, by omega⟩
  by_cases c2 : ctnN line < k
  · have c2' : (ctn line).length < k := by omega
    simp [h1, c1, c2, c2', rdAt]
    exact ⟨SlG.nil _ _ _ _, Fr.refl h1⟩
  have hrd : rdAt line k mark = readM (ctn line) (lfOf line) k mark := by
    unfold rdAt
    rw [if_neg (by omega)]
    rfl
  rw [hrd]
  by_cases c3 : mark = 39
  · subst c3
    have htot : readM (ctn line) (lfOf line) k 39 = rrun (ctn line) (lfOf line) (wpiece (ctn line) (lfOf line) k 39).2.2 (wpiece (ctn line) (lfOf line) k 39).2.1 [(wpiece (ctn line) (lfOf line) k 39).1] := by unfold readM; rw [if_pos (by decide)]
    rw [htot]
    generalize htt : rrun (ctn line) (lfOf line) (wpiece (ctn line) (lfOf line) k 39).2.2 (wpiece (ctn line) (lfOf line) k 39).2.1 [(wpiece (ctn line) (lfOf line) k 39).1] = tot
    simp [h1, c1, c2]
    refine (RefWord_sp line k 39 (by omega) (by omega) (by decide) _ h1).mono ?_
    rintro v h6 ⟨rfl, hF6⟩
    have h61 := hF6.one
    have hn6 := hF6.next
    have hwl := wpiece_le (ctn line) (lfOf line) k 39 (by omega)
    have hll := ctn_lf line
    have hto := wpiece_to (ctn line) (lfOf line) k 39
    generalize wpiece (ctn line) (lfOf line) k 39 = w at htt hwl hto ⊢
    obtain ⟨⟨kd, fm, to, tx, rw', wh'⟩, m', k'⟩ := w
    simp only at hwl hto htt
    subst hto
    have hne6 : h6.next ≠ h6.next + 1 := by omega
    have hne7 : h6.next ≠ h6.next + 2 := by omega
    have ho7 : ∀ (d1 d2 d3 d4 : DObj), Fr h.next h ((((h6.nw d1).put h6.next d2).nw d3).nw d4) := by
      intro d1 d2 d3 d4
      refine ⟨by simp, by simp <;> omega, fun b hb => ?_⟩
      have f1 : b ≠ h6.next := by omega
      have f2 : b ≠ h6.next + 1 := by omega
      have f3 : b ≠ h6.next + 2 := by omega
      simp [f1, f2, f3]
      exact hF6.get b hb
    simp [h61, encP, hne6, hne7, zerosD, List.range, List.range.loop]
    refine wpd_loop (fun (p : Nat × Nat × List Pc) fr h3 => ESt h p.1 p.2.1 p.2.2 fr h3 ∧ rrun (ctn line) (lfOf line) p.1 p.2.1 p.2.2 = tot ∧ p.1 ≤ line.length) (fun p => line.length - p.1) (to, m', [⟨kd, fm, to, tx, rw', wh'⟩]) ⟨⟨by simp, by simp, ⟨.slice (some ⟨h6.next + 2, 0, none⟩) 1 1, by simp, .inr ⟨by simp, by simp [encs_length], h6.next + 2, by omega, by simp, by simp, by simp [encs, encP]⟩⟩, by simp, ho7 _ _ _ _⟩, htt, by simp only; omega⟩ ?_
    rintro ⟨k, mk, acc⟩ fr h3 ⟨st, hw, hkn⟩ hf
    have h31 := st.fr.one
    have hnx := st.fr.next
    have g8 := hf 8 rfl
    have g0 := hf 0 rfl
    simp at g0 g8
    obtain ⟨v, hv, hsl⟩ := st.tx
    have hal := st.al
    have f1 := st.f1
    have f2 := st.f2
    simp only at hal f1 f2 hsl hv hw hkn
    have done : ∀ (h5 : H) (fr' : T Value) (v' : Value) (p : Pc) (k' mk' : Nat), rstep (ctn line) (lfOf line) k mk = some ([p], k', mk') → k < ctnN line → k' ≤ line.length → fr'.get 1 = some (.int .i64 k') → fr'.get 2 = some (.int .u8 mk') → fr'.get 9 = some v' →
        SlG none 6 h.next h5 v' (encs acc ++ encP p) (acc.length + 1) → Fr h.next h h5 →
        ∃ a, line.length - a < line.length - k ∧ ∃ a1 b, ESt h a a1 b fr' h5 ∧ rrun (ctn line) (lfOf line) a a1 b = tot ∧ a ≤ line.length := by
      intro h5 fr' v' p k' mk' hst hk hk' q1 q2 q9 hs5 hF
      have hgt := (rstep_k hst).1
      simp only at hgt
      refine ⟨k', by omega, mk', acc ++ [p], ⟨q1, q2, ⟨v', q9, by rw [← encs_snoc]; simpa using hs5⟩, by simp; omega, hF⟩, ?_, hk'⟩
      exact (rrun_some hst acc).symm.trans hw
    by_cases hyk : k < ctnN line
    · have hyk' : k < (ctn line).length := by omega
      have hix := idxB_nat (l := line) (k := k) (by omega)
      rw [← bt_ctn hyk] at hix
      have hw1 := wrap_succ (show k < 9223372036854775807 by omega)
      have hll := ctn_lf line
      cases hb : isBl (bt (ctn line) k) with
      | true =>
        have hst : rstep (ctn line) (lfOf line) k mk = some ([], k + 1, mk) := by unfold rstep; rw [if_neg (by omega), if_pos hb]
        have fin : ∀ fr' : T Value, fr'.get 1 = some (.int .i64 ((k : Int) + 1)) → fr'.get 2 = some (.int .u8 mk) → fr'.get 9 = some v → ∃ a, line.length - a < line.length - k ∧ ∃ a1 b, ESt h a a1 b fr' h3 ∧ rrun (ctn line) (lfOf line) a a1 b = tot ∧ a ≤ line.length := by
          intro fr' q1 q2 q9
          refine ⟨k + 1, by omega, mk, acc, ⟨q1, q2, ⟨v, q9, hsl⟩, by omega, st.fr⟩, ?_, by omega⟩
          have := (rrun_some hst acc).symm.trans hw
          simpa using this
        by_cases c1 : (bt (ctn line) k).toNat = 32
        · simp [h31, f1, f2, g0, g8, hyk, hix, eq_true c1, hw1]
          exact fin _ (by simp) (by simp [f2]) (by simp; exact hv)
        · have c2 : (bt (ctn line) k).toNat = 9 := by unfold isBl at hb; simp [c1] at hb; exact hb
          simp [h31, f1, f2, g0, g8, hyk, hix, c1, eq_true c2, hw1]
          exact fin _ (by simp) (by simp [f2]) (by simp; exact hv)
      | false =>
        have c32 : ¬ (bt (ctn line) k).toNat = 32 := by intro e; unfold isBl at hb; simp [e] at hb
        have c9 : ¬ (bt (ctn line) k).toNat = 9 := by intro e; unfold isBl at hb; simp [e] at hb
        have hop := fun (h4 : H) (h41 : h4.one = []) => RefOp_sp (line.take (ctnN line)) k (by simp; omega) h4 h41
        have hjn := fun (h4 : H) (h41 : h4.one = []) => RefJoin_sp line k hyk (by omega) h4 h41
        have hq : opAt (line.take (ctnN line)) k = opAt (ctn line) k := rfl
        have hjq : joinAt (line.take (ctnN line)) (decide (ctnN line < line.length)) k = joinAt (ctn line) (lfOf line) k := rfl
        by_cases c35 : (bt (ctn line) k).toNat = 35
        · have hst : rstep (ctn line) (lfOf line) k mk = some ([⟨53, k, (ctn line).length, [], false, false⟩], (ctn line).length, mk) := by unfold rstep; rw [if_neg (by omega), hb, if_neg (by decide), if_pos c35]
          rw [hcl] at hst
          simp [h31, f1, f2, g0, g8, hyk, hix, c32, c9, eq_true c35, hv, zerosD, List.range, List.range.loop]
          refine (hsl.of_get (by simp <;> omega) (fun g q1 q2 => (by
            have e1 : g ≠ h3.next := by omega
            have e2 : g ≠ h3.next + 1 := by omega
            simp [e1, e2]))).app2 (by simp [h31]) (by simp <;> omega) (by rfl) (by decide) (by simp) (by omega) (by decide) (.inl rfl) ?_
          rintro v' h5 hs' hF hF2
          have hp5 := hF2 h3.next (by simp <;> omega) (fun g x y e => by have := hsl.lt g x y e; omega)
          simp [] at hp5
          simp [hF.one, f1, f2, hp5]
          exact done h5 _ v' _ _ mk hst hyk (by omega) (by simp) (by simp [f2]) (by simp) hs' (Fr.trans ⟨by simp [h31], by simp <;> omega, fun b hb => by
            have e1 : b ≠ h3.next := by omega
            have e2 : b ≠ h3.next + 1 := by omega
            simp [e1, e2]; exact st.fr.get b hb⟩ hF)
        · simp [h31, f1, f2, g0, g8, hyk, hix, c32, c9, c35, hle]
          refine (hop _ (by simp [h31])).mono ?_
          rintro _ h4 ⟨rfl, hF4⟩
          rw [hq]
          have h41 := hF4.one
          have hn4 := hF4.next
          have hpc4 := hF4.get h3.next (by simp)
          simp at hn4 hpc4
          have hne : h3.next ≠ h4.next := by omega
          have ho4 : ∀ g, g < h3.next → h4.get g = h3.get g := fun g hg => by
            have := hF4.get g (by simp; omega)
            have e1 : g ≠ h3.next := by omega
            simpa [e1] using this
          by_cases ho : opAt (ctn line) k = 0
          · simp [h41, f1, f2, g0, g8, hyk, ho]
            refine (hjn _ h41).mono ?_
            rintro _ h4 ⟨rfl, rfl⟩
            rw [hjq]
            cases hj : joinAt (ctn line) (lfOf line) k with
            | true =>
              have hlf : lfOf line = true := by unfold joinAt at hj; simp at hj; exact hj.1.1
              rw [hlf] at hll
              have hll2 : (line.length : Int) = (ctnN line : Int) + 1 := by simp at hll; omega
              have hst : rstep (ctn line) (lfOf line) k mk = some ([⟨54, k, (ctn line).length + 1, [], false, false⟩], (ctn line).length + 1, mk) := by unfold rstep; rw [if_neg (by omega), hb, if_neg (by decide), if_neg c35, if_neg (by omega), if_pos hj]
              rw [hcl] at hst
              simp at hll
              simp [h41, f1, f2, g0, g8, hyk, hpc4, hv, hll2, hne, zerosD, List.range, List.range.loop]
              refine (hsl.of_get (by simp <;> omega) (fun g q1 q2 => (by
                have e1 : g ≠ h3.next := by omega
                have e2 : g ≠ h4.next := by omega
                simp [e1, e2]; exact ho4 g q2))).app2 (by simp [h41]) (by simp <;> omega) (by rfl) (by decide) (by simp) (by omega) (by decide) (.inl rfl) ?_
              rintro v' h5 hs' hF hF2
              have hp5 := hF2 h3.next (by simp <;> omega) (fun g x y e => by have := hsl.lt g x y e; omega)
              simp [hne, hpc4] at hp5
              simp [hF.one, f1, f2, hp5]
              exact done h5 _ v' _ _ mk hst hyk (by omega) (by simp) (by simp [f2]) (by simp) hs' (Fr.trans ⟨by simp [h41], by simp <;> omega, fun b hb => by
                have e1 : b ≠ h3.next := by omega
                have e2 : b ≠ h4.next := by omega
                simp [e1, e2]; exact (ho4 b (by omega)).trans (st.fr.get b hb)⟩ hF)
            | false =>
              have hns : stopAt (ctn line) (lfOf line) k = false := by unfold stopAt; simp [hb, ho, hj]; omega
              have hst : rstep (ctn line) (lfOf line) k mk = some ([(wpiece (ctn line) (lfOf line) k 0).1], (wpiece (ctn line) (lfOf line) k 0).2.2, (wpiece (ctn line) (lfOf line) k 0).2.1) := by unfold rstep; rw [if_neg (by omega), hb, if_neg (by decide), if_neg c35, if_neg (by omega), hj, if_neg (by decide)]
              have hwl := wpiece_le (ctn line) (lfOf line) k 0 (by omega)
              have hto := wpiece_to (ctn line) (lfOf line) k 0
              simp [h41, f1, f2, g0, g8]
              refine (RefWord_sp line k 0 (by omega) (by omega) (.inl rfl) _ h41).mono ?_
              rintro _ h6 ⟨rfl, hF6⟩
              generalize wpiece (ctn line) (lfOf line) k 0 = w at hst hwl hto ⊢
              obtain ⟨⟨kd, fm, to, tx, rw', wh'⟩, m', k'⟩ := w
              simp only at hwl hto hst
              subst hto
              have h61 := hF6.one
              have hn6 := hF6.next
              have hpc6 := (hF6.get h3.next (by omega)).trans hpc4
              have hne6 : h3.next ≠ h6.next := by omega
              simp [h61, f1, f2, encP, hpc6, hne6, hv, zerosD, List.range, List.range.loop]
              refine (hsl.of_get (by simp <;> omega) (fun g q1 q2 => (by
                have e1 : g ≠ h3.next := by omega
                have e2 : g ≠ h6.next := by omega
                simp [e1, e2]; exact (hF6.get g (by omega)).trans (ho4 g q2)))).app2 (by simp [h61]) (by simp <;> omega) (by rfl) (by decide) (by simp) (by omega) (by decide) (.inl rfl) ?_
              rintro v' h5 hs' hF hF2
              have hp5 := hF2 h3.next (by simp <;> omega) (fun g x y e => by have := hsl.lt g x y e; omega)
              simp [hne6, hpc6] at hp5
              simp [hF.one, f1, f2, hp5]
              exact done h5 _ v' ⟨kd, fm, to, tx, rw', wh'⟩ to m' hst hyk (by omega) (by simp) (by simp [f2]) (by simp) hs' (Fr.trans ⟨by simp [h61], by simp <;> omega, fun b hb => by
                have e1 : b ≠ h3.next := by omega
                have e2 : b ≠ h6.next := by omega
                simp [e1, e2]; exact ((hF6.get b (by omega)).trans (ho4 b (by omega))).trans (st.fr.get b hb)⟩ hF)
          · have ho2 : 0 < opAt (ctn line) k := by omega
            have hol : k + opAt (ctn line) k ≤ (ctn line).length := opAt_le _ _ (by omega)
            have hw3 := wrap_add (a := k) (b := opAt (ctn line) k) (by omega)
            have hst : rstep (ctn line) (lfOf line) k mk = some ([⟨52, k, k + opAt (ctn line) k, [], false, false⟩], k + opAt (ctn line) k, mk) := by unfold rstep; rw [if_neg (by omega), hb, if_neg (by decide), if_neg c35, if_pos ho]
            simp [h41, f1, f2, g0, g8, ho2, hpc4, hle]
            refine (hop _ (by simp [h41])).mono ?_
            rintro _ h6 ⟨rfl, hF6⟩
            rw [hq]
            have h61 := hF6.one
            have hn6 := hF6.next
            have hpc6 := hF6.get h3.next (by simp <;> omega)
            simp at hpc6 hn6
            have hne6 : h3.next ≠ h6.next := by omega
            have ho6 : ∀ g, g < h3.next → h6.get g = h4.get g := fun g hg => by
              have := hF6.get g (by simp <;> omega)
              have e1 : g ≠ h3.next := by omega
              simpa [e1] using this
            simp [h61, f1, f2, hw3, hpc6, hne6, hv, zerosD, List.range, List.range.loop]
            refine (hsl.of_get (by simp <;> omega) (fun g q1 q2 => (by
              have e1 : g ≠ h3.next := by omega
              have e2 : g ≠ h6.next := by omega
              simp [e1, e2]; exact (ho6 g q2).trans (ho4 g q2)))).app2 (by simp [h61]) (by simp <;> omega) (by rfl) (by decide) (by simp) (by omega) (by decide) (.inl rfl) ?_
            rintro v' h5 hs' hF hF2
            have hp5 := hF2 h3.next (by simp <;> omega) (fun g x y e => by have := hsl.lt g x y e; omega)
            simp [hne6, hpc6] at hp5
            simp [hF.one, f1, f2, hp5]
            exact done h5 _ v' _ _ mk hst hyk (by omega) (by simp) (by simp [f2]) (by simp) hs' (Fr.trans ⟨by simp [h61], by simp <;> omega, fun b hb => by
              have e1 : b ≠ h3.next := by omega
              have e2 : b ≠ h6.next := by omega
              simp [e1, e2]; exact ((ho6 b (by omega)).trans (ho4 b (by omega))).trans (st.fr.get b hb)⟩ hF)
    · have hst : rstep (ctn line) (lfOf line) k mk = none := by unfold rstep; rw [if_pos (by omega)]
      simp [h31, f1, f2, g8, hyk, hv]
      have htt2 : tot = (acc, mk) := hw.symm.trans (rrun_none hst acc)
      rw [htt2]
      exact ⟨v, ⟨rfl, rfl⟩, hsl, st.fr⟩
  by_cases c4 : mark = 34
  · subst c4
    have htot : readM (ctn line) (lfOf line) k 34 = rrun (ctn line) (lfOf line) (wpiece (ctn line) (lfOf line) k 34).2.2 (wpiece (ctn line) (lfOf line) k 34).2.1 [(wpiece (ctn line) (lfOf line) k 34).1] := by unfold readM; rw [if_pos (by decide)]
    rw [htot]
    generalize htt : rrun (ctn line) (lfOf line) (wpiece (ctn line) (lfOf line) k 34).2.2 (wpiece (ctn line) (lfOf line) k 34).2.1 [(wpiece (ctn line) (lfOf line) k 34).1] = tot
    simp [h1, c1, c2]
    refine (RefWord_sp line k 34 (by omega) (by omega) (by decide) _ h1).mono ?_
    rintro v h6 ⟨rfl, hF6⟩
    have h61 := hF6.one
    have hn6 := hF6.next
    have hwl := wpiece_le (ctn line) (lfOf line) k 34 (by omega)
    have hll := ctn_lf line
    have hto := wpiece_to (ctn line) (lfOf line) k 34
    generalize wpiece (ctn line) (lfOf line) k 34 = w at htt hwl hto ⊢
    obtain ⟨⟨kd, fm, to, tx, rw', wh'⟩, m', k'⟩ := w
    simp only at hwl hto htt
    subst hto
    have hne6 : h6.next ≠ h6.next + 1 := by omega
    have hne7 : h6.next ≠ h6.next + 2 := by omega
    have ho7 : ∀ (d1 d2 d3 d4 : DObj), Fr h.next h ((((h6.nw d1).put h6.next d2).nw d3).nw d4) := by
      intro d1 d2 d3 d4
      refine ⟨by simp, by simp <;> omega, fun b hb => ?_⟩
      have f1 : b ≠ h6.next := by omega
      have f2 : b ≠ h6.next + 1 := by omega
      have f3 : b ≠ h6.next + 2 := by omega
      simp [f1, f2, f3]
      exact hF6.get b hb
    simp [h61, encP, hne6, hne7, zerosD, List.range, List.range.loop]
    refine wpd_loop (fun (p : Nat × Nat × List Pc) fr h3 => ESt h p.1 p.2.1 p.2.2 fr h3 ∧ rrun (ctn line) (lfOf line) p.1 p.2.1 p.2.2 = tot ∧ p.1 ≤ line.length) (fun p => line.length - p.1) (to, m', [⟨kd, fm, to, tx, rw', wh'⟩]) ⟨⟨by simp, by simp, ⟨.slice (some ⟨h6.next + 2, 0, none⟩) 1 1, by simp, .inr ⟨by simp, by simp [encs_length], h6.next + 2, by omega, by simp, by simp, by simp [encs, encP]⟩⟩, by simp, ho7 _ _ _ _⟩, htt, by simp only; omega⟩ ?_
    rintro ⟨k, mk, acc⟩ fr h3 ⟨st, hw, hkn⟩ hf
    have h31 := st.fr.one
    have hnx := st.fr.next
    have g8 := hf 8 rfl
    have g0 := hf 0 rfl
    simp at g0 g8
    obtain ⟨v, hv, hsl⟩ := st.tx
    have hal := st.al
    have f1 := st.f1
    have f2 := st.f2
    simp only at hal f1 f2 hsl hv hw hkn
    have done : ∀ (h5 : H) (fr' : T Value) (v' : Value) (p : Pc) (k' mk' : Nat), rstep (ctn line) (lfOf line) k mk = some ([p], k', mk') → k < ctnN line → k' ≤ line.length → fr'.get 1 = some (.int .i64 k') → fr'.get 2 = some (.int .u8 mk') → fr'.get 9 = some v' →
        SlG none 6 h.next h5 v' (encs acc ++ encP p) (acc.length + 1) → Fr h.next h h5 →
        ∃ a, line.length - a < line.length - k ∧ ∃ a1 b, ESt h a a1 b fr' h5 ∧ rrun (ctn line) (lfOf line) a a1 b = tot ∧ a ≤ line.length := by
      intro h5 fr' v' p k' mk' hst hk hk' q1 q2 q9 hs5 hF
      have hgt := (rstep_k hst).1
      simp only at hgt
      refine ⟨k', by omega, mk', acc ++ [p], ⟨q1, q2, ⟨v', q9, by rw [← encs_snoc]; simpa using hs5⟩, by simp; omega, hF⟩, ?_, hk'⟩
      exact (rrun_some hst acc).symm.trans hw
    by_cases hyk : k < ctnN line
    · have hyk' : k < (ctn line).length := by omega
      have hix := idxB_nat (l := line) (k := k) (by omega)
      rw [← bt_ctn hyk] at hix
      have hw1 := wrap_succ (show k < 9223372036854775807 by omega)
      have hll := ctn_lf line
      cases hb : isBl (bt (ctn line) k) with
      | true =>
        have hst : rstep (ctn line) (lfOf line) k mk = some ([], k + 1, mk) := by unfold rstep; rw [if_neg (by omega), if_pos hb]
        have fin : ∀ fr' : T Value, fr'.get 1 = some (.int .i64 ((k : Int) + 1)) → fr'.get 2 = some (.int .u8 mk) → fr'.get 9 = some v → ∃ a, line.length - a < line.length - k ∧ ∃ a1 b, ESt h a a1 b fr' h3 ∧ rrun (ctn line) (lfOf line) a a1 b = tot ∧ a ≤ line.length := by
          intro fr' q1 q2 q9
          refine ⟨k + 1, by omega, mk, acc, ⟨q1, q2, ⟨v, q9, hsl⟩, by omega, st.fr⟩, ?_, by omega⟩
          have := (rrun_some hst acc).symm.trans hw
          simpa using this
        by_cases c1 : (bt (ctn line) k).toNat = 32
        · simp [h31, f1, f2, g0, g8, hyk, hix, eq_true c1, hw1]
          exact fin _ (by simp) (by simp [f2]) (by simp; exact hv)
        · have c2 : (bt (ctn line) k).toNat = 9 := by unfold isBl at hb; simp [c1] at hb; exact hb
          simp [h31, f1, f2, g0, g8, hyk, hix, c1, eq_true c2, hw1]
          exact fin _ (by simp) (by simp [f2]) (by simp; exact hv)
      | false =>
        have c32 : ¬ (bt (ctn line) k).toNat = 32 := by intro e; unfold isBl at hb; simp [e] at hb
        have c9 : ¬ (bt (ctn line) k).toNat = 9 := by intro e; unfold isBl at hb; simp [e] at hb
        have hop := fun (h4 : H) (h41 : h4.one = []) => RefOp_sp (line.take (ctnN line)) k (by simp; omega) h4 h41
        have hjn := fun (h4 : H) (h41 : h4.one = []) => RefJoin_sp line k hyk (by omega) h4 h41
        have hq : opAt (line.take (ctnN line)) k = opAt (ctn line) k := rfl
        have hjq : joinAt (line.take (ctnN line)) (decide (ctnN line < line.length)) k = joinAt (ctn line) (lfOf line) k := rfl
        by_cases c35 : (bt (ctn line) k).toNat = 35
        · have hst : rstep (ctn line) (lfOf line) k mk = some ([⟨53, k, (ctn line).length, [], false, false⟩], (ctn line).length, mk) := by unfold rstep; rw [if_neg (by omega), hb, if_neg (by decide), if_pos c35]
          rw [hcl] at hst
          simp [h31, f1, f2, g0, g8, hyk, hix, c32, c9, eq_true c35, hv, zerosD, List.range, List.range.loop]
          refine (hsl.of_get (by simp <;> omega) (fun g q1 q2 => (by
            have e1 : g ≠ h3.next := by omega
            have e2 : g ≠ h3.next + 1 := by omega
            simp [e1, e2]))).app2 (by simp [h31]) (by simp <;> omega) (by rfl) (by decide) (by simp) (by omega) (by decide) (.inl rfl) ?_
          rintro v' h5 hs' hF hF2
          have hp5 := hF2 h3.next (by simp <;> omega) (fun g x y e => by have := hsl.lt g x y e; omega)
          simp [] at hp5
          simp [hF.one, f1, f2, hp5]
          exact done h5 _ v' _ _ mk hst hyk (by omega) (by simp) (by simp [f2]) (by simp) hs' (Fr.trans ⟨by simp [h31], by simp <;> omega, fun b hb => by
            have e1 : b ≠ h3.next := by omega
            have e2 : b ≠ h3.next + 1 := by omega
            simp [e1, e2]; exact st.fr.get b hb⟩ hF)
        · simp [h31, f1, f2, g0, g8, hyk, hix, c32, c9, c35, hle]
          refine (hop _ (by simp [h31])).mono ?_
          rintro _ h4 ⟨rfl, hF4⟩
          rw [hq]
          have h41 := hF4.one
          have hn4 := hF4.next
          have hpc4 := hF4.get h3.next (by simp)
          simp at hn4 hpc4
          have hne : h3.next ≠ h4.next := by omega
          have ho4 : ∀ g, g < h3.next → h4.get g = h3.get g := fun g hg => by
            have := hF4.get g (by simp; omega)
            have e1 : g ≠ h3.next := by omega
            simpa [e1] using this
          by_cases ho : opAt (ctn line) k = 0
          · simp [h41, f1, f2, g0, g8, hyk, ho]
            refine (hjn _ h41).mono ?_
            rintro _ h4 ⟨rfl, rfl⟩
            rw [hjq]
            cases hj : joinAt (ctn line) (lfOf line) k with
            | true =>
              have hlf : lfOf line = true := by unfold joinAt at hj; simp at hj; exact hj.1.1
              rw [hlf] at hll
              have hll2 : (line.length : Int) = (ctnN line : Int) + 1 := by simp at hll; omega
              have hst : rstep (ctn line) (lfOf line) k mk = some ([⟨54, k, (ctn line).length + 1, [], false, false⟩], (ctn line).length + 1, mk) := by unfold rstep; rw [if_neg (by omega), hb, if_neg (by decide), if_neg c35, if_neg (by omega), if_pos hj]
              rw [hcl] at hst
              simp at hll
              simp [h41, f1, f2, g0, g8, hyk, hpc4, hv, hll2, hne, zerosD, List.range, List.range.loop]
              refine (hsl.of_get (by simp <;> omega) (fun g q1 q2 => (by
                have e1 : g ≠ h3.next := by omega
                have e2 : g ≠ h4.next := by omega
                simp [e1, e2]; exact ho4 g q2))).app2 (by simp [h41]) (by simp <;> omega) (by rfl) (by decide) (by simp) (by omega) (by decide) (.inl rfl) ?_
              rintro v' h5 hs' hF hF2
              have hp5 := hF2 h3.next (by simp <;> omega) (fun g x y e => by have := hsl.lt g x y e; omega)
              simp [hne, hpc4] at hp5
              simp [hF.one, f1, f2, hp5]
              exact done h5 _ v' _ _ mk hst hyk (by omega) (by simp) (by simp [f2]) (by simp) hs' (Fr.trans ⟨by simp [h41], by simp <;> omega, fun b hb => by
                have e1 : b ≠ h3.next := by omega
                have e2 : b ≠ h4.next := by omega
                simp [e1, e2]; exact (ho4 b (by omega)).trans (st.fr.get b hb)⟩ hF)
            | false =>
              have hns : stopAt (ctn line) (lfOf line) k = false := by unfold stopAt; simp [hb, ho, hj]; omega
              have hst : rstep (ctn line) (lfOf line) k mk = some ([(wpiece (ctn line) (lfOf line) k 0).1], (wpiece (ctn line) (lfOf line) k 0).2.2, (wpiece (ctn line) (lfOf line) k 0).2.1) := by unfold rstep; rw [if_neg (by omega), hb, if_neg (by decide), if_neg c35, if_neg (by omega), hj, if_neg (by decide)]
              have hwl := wpiece_le (ctn line) (lfOf line) k 0 (by omega)
              have hto := wpiece_to (ctn line) (lfOf line) k 0
              simp [h41, f1, f2, g0, g8]
              refine (RefWord_sp line k 0 (by omega) (by omega) (.inl rfl) _ h41).mono ?_
              rintro _ h6 ⟨rfl, hF6⟩
              generalize wpiece (ctn line) (lfOf line) k 0 = w at hst hwl hto ⊢
              obtain ⟨⟨kd, fm, to, tx, rw', wh'⟩, m', k'⟩ := w
              simp only at hwl hto hst
              subst hto
              have h61 := hF6.one
              have hn6 := hF6.next
              have hpc6 := (hF6.get h3.next (by omega)).trans hpc4
              have hne6 : h3.next ≠ h6.next := by omega
              simp [h61, f1, f2, encP, hpc6, hne6, hv, zerosD, List.range, List.range.loop]
              refine (hsl.of_get (by simp <;> omega) (fun g q1 q2 => (by
                have e1 : g ≠ h3.next := by omega
                have e2 : g ≠ h6.next := by omega
                simp [e1, e2]; exact (hF6.get g (by omega)).trans (ho4 g q2)))).app2 (by simp [h61]) (by simp <;> omega) (by rfl) (by decide) (by simp) (by omega) (by decide) (.inl rfl) ?_
              rintro v' h5 hs' hF hF2
              have hp5 := hF2 h3.next (by simp <;> omega) (fun g x y e => by have := hsl.lt g x y e; omega)
              simp [hne6, hpc6] at hp5
              simp [hF.one, f1, f2, hp5]
              exact done h5 _ v' ⟨kd, fm, to, tx, rw', wh'⟩ to m' hst hyk (by omega) (by simp) (by simp [f2]) (by simp) hs' (Fr.trans ⟨by simp [h61], by simp <;> omega, fun b hb => by
                have e1 : b ≠ h3.next := by omega
                have e2 : b ≠ h6.next := by omega
                simp [e1, e2]; exact ((hF6.get b (by omega)).trans (ho4 b (by omega))).trans (st.fr.get b hb)⟩ hF)
          · have ho2 : 0 < opAt (ctn line) k := by omega
            have hol : k + opAt (ctn line) k ≤ (ctn line).length := opAt_le _ _ (by omega)
            have hw3 := wrap_add (a := k) (b := opAt (ctn line) k) (by omega)
            have hst : rstep (ctn line) (lfOf line) k mk = some ([⟨52, k, k + opAt (ctn line) k, [], false, false⟩], k + opAt (ctn line) k, mk) := by unfold rstep; rw [if_neg (by omega), hb, if_neg (by decide), if_neg c35, if_pos ho]
            simp [h41, f1, f2, g0, g8, ho2, hpc4, hle]
            refine (hop _ (by simp [h41])).mono ?_
            rintro _ h6 ⟨rfl, hF6⟩
            rw [hq]
            have h61 := hF6.one
            have hn6 := hF6.next
            have hpc6 := hF6.get h3.next (by simp <;> omega)
            simp at hpc6 hn6
            have hne6 : h3.next ≠ h6.next := by omega
            have ho6 : ∀ g, g < h3.next → h6.get g = h4.get g := fun g hg => by
              have := hF6.get g (by simp <;> omega)
              have e1 : g ≠ h3.next := by omega
              simpa [e1] using this
            simp [h61, f1, f2, hw3, hpc6, hne6, hv, zerosD, List.range, List.range.loop]
            refine (hsl.of_get (by simp <;> omega) (fun g q1 q2 => (by
              have e1 : g ≠ h3.next := by omega
              have e2 : g ≠ h6.next := by omega
              simp [e1, e2]; exact (ho6 g q2).trans (ho4 g q2)))).app2 (by simp [h61]) (by simp <;> omega) (by rfl) (by decide) (by simp) (by omega) (by decide) (.inl rfl) ?_
            rintro v' h5 hs' hF hF2
            have hp5 := hF2 h3.next (by simp <;> omega) (fun g x y e => by have := hsl.lt g x y e; omega)
            simp [hne6, hpc6] at hp5
            simp [hF.one, f1, f2, hp5]
            exact done h5 _ v' _ _ mk hst hyk (by omega) (by simp) (by simp [f2]) (by simp) hs' (Fr.trans ⟨by simp [h61], by simp <;> omega, fun b hb => by
              have e1 : b ≠ h3.next := by omega
              have e2 : b ≠ h6.next := by omega
              simp [e1, e2]; exact ((ho6 b (by omega)).trans (ho4 b (by omega))).trans (st.fr.get b hb)⟩ hF)
    · have hst : rstep (ctn line) (lfOf line) k mk = none := by unfold rstep; rw [if_pos (by omega)]
      simp [h31, f1, f2, g8, hyk, hv]
      have htt2 : tot = (acc, mk) := hw.symm.trans (rrun_none hst acc)
      rw [htt2]
      exact ⟨v, ⟨rfl, rfl⟩, hsl, st.fr⟩
  have htot : readM (ctn line) (lfOf line) k mark = rrun (ctn line) (lfOf line) k 0 [] := by unfold readM; rw [if_neg (by omega)]
  rw [htot]
  generalize htt : rrun (ctn line) (lfOf line) k 0 [] = tot
  simp [h1, c1, c2, c3, c4]
  refine wpd_loop (fun (p : Nat × Nat × List Pc) fr h3 => ESt h p.1 p.2.1 p.2.2 fr h3 ∧ rrun (ctn line) (lfOf line) p.1 p.2.1 p.2.2 = tot ∧ p.1 ≤ line.length) (fun p => line.length - p.1) (k, 0, []) ⟨⟨by simp, by simp, ⟨.slice none 0 0, by simp, SlG.nil _ _ _ _⟩, by simp, Fr.refl h1⟩, htt, by simp only; omega⟩ ?_
  rintro ⟨k, mk, acc⟩ fr h3 ⟨st, hw, hkn⟩ hf
  have h31 := st.fr.one
  have hnx := st.fr.next
  have g8 := hf 8 rfl
  have g0 := hf 0 rfl
  simp at g0 g8
  obtain ⟨v, hv, hsl⟩ := st.tx
  have hal := st.al
  have f1 := st.f1
  have f2 := st.f2
  simp only at hal f1 f2 hsl hv hw hkn
  have done : ∀ (h5 : H) (fr' : T Value) (v' : Value) (p : Pc) (k' mk' : Nat), rstep (ctn line) (lfOf line) k mk = some ([p], k', mk') → k < ctnN line → k' ≤ line.length → fr'.get 1 = some (.int .i64 k') → fr'.get 2 = some (.int .u8 mk') → fr'.get 9 = some v' →
      SlG none 6 h.next h5 v' (encs acc ++ encP p) (acc.length + 1) → Fr h.next h h5 →
      ∃ a, line.length - a < line.length - k ∧ ∃ a1 b, ESt h a a1 b fr' h5 ∧ rrun (ctn line) (lfOf line) a a1 b = tot ∧ a ≤ line.length := by
    intro h5 fr' v' p k' mk' hst hk hk' q1 q2 q9 hs5 hF
    have hgt := (rstep_k hst).1
    simp only at hgt
    refine ⟨k', by omega, mk', acc ++ [p], ⟨q1, q2, ⟨v', q9, by rw [← encs_snoc]; simpa using hs5⟩, by simp; omega, hF⟩, ?_, hk'⟩
    exact (rrun_some hst acc).symm.trans hw
  by_cases hyk : k < ctnN line
  · have hyk' : k < (ctn line).length := by omega
    have hix := idxB_nat (l := line) (k := k) (by omega)
    rw [← bt_ctn hyk] at hix
    have hw1 := wrap_succ (show k < 9223372036854775807 by omega)
    have hll := ctn_lf line
    cases hb : isBl (bt (ctn line) k) with
    | true =>
      have hst : rstep (ctn line) (lfOf line) k mk = some ([], k + 1, mk) := by unfold rstep; rw [if_neg (by omega), if_pos hb]
      have fin : ∀ fr' : T Value, fr'.get 1 = some (.int .i64 ((k : Int) + 1)) → fr'.get 2 = some (.int .u8 mk) → fr'.get 9 = some v → ∃ a, line.length - a < line.length - k ∧ ∃ a1 b, ESt h a a1 b fr' h3 ∧ rrun (ctn line) (lfOf line) a a1 b = tot ∧ a ≤ line.length := by
        intro fr' q1 q2 q9
        refine ⟨k + 1, by omega, mk, acc, ⟨q1, q2, ⟨v, q9, hsl⟩, by omega, st.fr⟩, ?_, by omega⟩
        have := (rrun_some hst acc).symm.trans hw
        simpa using this
      by_cases c1 : (bt (ctn line) k).toNat = 32
      · simp [h31, f1, f2, g0, g8, hyk, hix, eq_true c1, hw1]
        exact fin _ (by simp) (by simp [f2]) (by simp; exact hv)
      · have c2 : (bt (ctn line) k).toNat = 9 := by unfold isBl at hb; simp [c1] at hb; exact hb
        simp [h31, f1, f2, g0, g8, hyk, hix, c1, eq_true c2, hw1]
        exact fin _ (by simp) (by simp [f2]) (by simp; exact hv)
    | false =>
      have c32 : ¬ (bt (ctn line) k).toNat = 32 := by intro e; unfold isBl at hb; simp [e] at hb
      have c9 : ¬ (bt (ctn line) k).toNat = 9 := by intro e; unfold isBl at hb; simp [e] at hb
      have hop := fun (h4 : H) (h41 : h4.one = []) => RefOp_sp (line.take (ctnN line)) k (by simp; omega) h4 h41
      have hjn := fun (h4 : H) (h41 : h4.one = []) => RefJoin_sp line k hyk (by omega) h4 h41
      have hq : opAt (line.take (ctnN line)) k = opAt (ctn line) k := rfl
      have hjq : joinAt (line.take (ctnN line)) (decide (ctnN line < line.length)) k = joinAt (ctn line) (lfOf line) k := rfl
      by_cases c35 : (bt (ctn line) k).toNat = 35
      · have hst : rstep (ctn line) (lfOf line) k mk = some ([⟨53, k, (ctn line).length, [], false, false⟩], (ctn line).length, mk) := by unfold rstep; rw [if_neg (by omega), hb, if_neg (by decide), if_pos c35]
        rw [hcl] at hst
        simp [h31, f1, f2, g0, g8, hyk, hix, c32, c9, eq_true c35, hv, zerosD, List.range, List.range.loop]
        refine (hsl.of_get (by simp <;> omega) (fun g q1 q2 => (by
          have e1 : g ≠ h3.next := by omega
          have e2 : g ≠ h3.next + 1 := by omega
          simp [e1, e2]))).app2 (by simp [h31]) (by simp <;> omega) (by rfl) (by decide) (by simp) (by omega) (by decide) (.inl rfl) ?_
        rintro v' h5 hs' hF hF2
        have hp5 := hF2 h3.next (by simp <;> omega) (fun g x y e => by have := hsl.lt g x y e; omega)
        simp [] at hp5
        simp [hF.one, f1, f2, hp5]
        exact done h5 _ v' _ _ mk hst hyk (by omega) (by simp) (by simp [f2]) (by simp) hs' (Fr.trans ⟨by simp [h31], by simp <;> omega, fun b hb => by
          have e1 : b ≠ h3.next := by omega
          have e2 : b ≠ h3.next + 1 := by omega
          simp [e1, e2]; exact st.fr.get b hb⟩ hF)
      · simp [h31, f1, f2, g0, g8, hyk, hix, c32, c9, c35, hle]
        refine (hop _ (by simp [h31])).mono ?_
        rintro _ h4 ⟨rfl, hF4⟩
        rw [hq]
        have h41 := hF4.one
        have hn4 := hF4.next
        have hpc4 := hF4.get h3.next (by simp)
        simp at hn4 hpc4
        have hne : h3.next ≠ h4.next := by omega
        have ho4 : ∀ g, g < h3.next → h4.get g = h3.get g := fun g hg => by
          have := hF4.get g (by simp; omega)
          have e1 : g ≠ h3.next := by omega
          simpa [e1] using this
        by_cases ho : opAt (ctn line) k = 0
        · simp [h41, f1, f2, g0, g8, hyk, ho]
          refine (hjn _ h41).mono ?_
          rintro _ h4 ⟨rfl, rfl⟩
          rw [hjq]
          cases hj : joinAt (ctn line) (lfOf line) k with
          | true =>
            have hlf : lfOf line = true := by unfold joinAt at hj; simp at hj; exact hj.1.1
            rw [hlf] at hll
            have hll2 : (line.length : Int) = (ctnN line : Int) + 1 := by simp at hll; omega
            have hst : rstep (ctn line) (lfOf line) k mk = some ([⟨54, k, (ctn line).length + 1, [], false, false⟩], (ctn line).length + 1, mk) := by unfold rstep; rw [if_neg (by omega), hb, if_neg (by decide), if_neg c35, if_neg (by omega), if_pos hj]
            rw [hcl] at hst
            simp at hll
            simp [h41, f1, f2, g0, g8, hyk, hpc4, hv, hll2, hne, zerosD, List.range, List.range.loop]
            refine (hsl.of_get (by simp <;> omega) (fun g q1 q2 => (by
              have e1 : g ≠ h3.next := by omega
              have e2 : g ≠ h4.next := by omega
              simp [e1, e2]; exact ho4 g q2))).app2 (by simp [h41]) (by simp <;> omega) (by rfl) (by decide) (by simp) (by omega) (by decide) (.inl rfl) ?_
            rintro v' h5 hs' hF hF2
            have hp5 := hF2 h3.next (by simp <;> omega) (fun g x y e => by have := hsl.lt g x y e; omega)
            simp [hne, hpc4] at hp5
            simp [hF.one, f1, f2, hp5]
            exact done h5 _ v' _ _ mk hst hyk (by omega) (by simp) (by simp [f2]) (by simp) hs' (Fr.trans ⟨by simp [h41], by simp <;> omega, fun b hb => by
              have e1 : b ≠ h3.next := by omega
              have e2 : b ≠ h4.next := by omega
              simp [e1, e2]; exact (ho4 b (by omega)).trans (st.fr.get b hb)⟩ hF)
          | false =>
            have hns : stopAt (ctn line) (lfOf line) k = false := by unfold stopAt; simp [hb, ho, hj]; omega
            have hst : rstep (ctn line) (lfOf line) k mk = some ([(wpiece (ctn line) (lfOf line) k 0).1], (wpiece (ctn line) (lfOf line) k 0).2.2, (wpiece (ctn line) (lfOf line) k 0).2.1) := by unfold rstep; rw [if_neg (by omega), hb, if_neg (by decide), if_neg c35, if_neg (by omega), hj, if_neg (by decide)]
            have hwl := wpiece_le (ctn line) (lfOf line) k 0 (by omega)
            have hto := wpiece_to (ctn line) (lfOf line) k 0
            simp [h41, f1, f2, g0, g8]
            refine (RefWord_sp line k 0 (by omega) (by omega) (.inl rfl) _ h41).mono ?_
            rintro _ h6 ⟨rfl, hF6⟩
            generalize wpiece (ctn line) (lfOf line) k 0 = w at hst hwl hto ⊢
            obtain ⟨⟨kd, fm, to, tx, rw', wh'⟩, m', k'⟩ := w
            simp only at hwl hto hst
            subst hto
            have h61 := hF6.one
            have hn6 := hF6.next
            have hpc6 := (hF6.get h3.next (by omega)).trans hpc4
            have hne6 : h3.next ≠ h6.next := by omega
            simp [h61, f1, f2, encP, hpc6, hne6, hv, zerosD, List.range, List.range.loop]
            refine (hsl.of_get (by simp <;> omega) (fun g q1 q2 => (by
              have e1 : g ≠ h3.next := by omega
              have e2 : g ≠ h6.next := by omega
              simp [e1, e2]; exact (hF6.get g (by omega)).trans (ho4 g q2)))).app2 (by simp [h61]) (by simp <;> omega) (by rfl) (by decide) (by simp) (by omega) (by decide) (.inl rfl) ?_
            rintro v' h5 hs' hF hF2
            have hp5 := hF2 h3.next (by simp <;> omega) (fun g x y e => by have := hsl.lt g x y e; omega)
            simp [hne6, hpc6] at hp5
            simp [hF.one, f1, f2, hp5]
            exact done h5 _ v' ⟨kd, fm, to, tx, rw', wh'⟩ to m' hst hyk (by omega) (by simp) (by simp [f2]) (by simp) hs' (Fr.trans ⟨by simp [h61], by simp <;> omega, fun b hb => by
              have e1 : b ≠ h3.next := by omega
              have e2 : b ≠ h6.next := by omega
              simp [e1, e2]; exact ((hF6.get b (by omega)).trans (ho4 b (by omega))).trans (st.fr.get b hb)⟩ hF)
        · have ho2 : 0 < opAt (ctn line) k := by omega
          have hol : k + opAt (ctn line) k ≤ (ctn line).length := opAt_le _ _ (by omega)
          have hw3 := wrap_add (a := k) (b := opAt (ctn line) k) (by omega)
          have hst : rstep (ctn line) (lfOf line) k mk = some ([⟨52, k, k + opAt (ctn line) k, [], false, false⟩], k + opAt (ctn line) k, mk) := by unfold rstep; rw [if_neg (by omega), hb, if_neg (by decide), if_neg c35, if_pos ho]
          simp [h41, f1, f2, g0, g8, ho2, hpc4, hle]
          refine (hop _ (by simp [h41])).mono ?_
          rintro _ h6 ⟨rfl, hF6⟩
          rw [hq]
          have h61 := hF6.one
          have hn6 := hF6.next
          have hpc6 := hF6.get h3.next (by simp <;> omega)
          simp at hpc6 hn6
          have hne6 : h3.next ≠ h6.next := by omega
          have ho6 : ∀ g, g < h3.next → h6.get g = h4.get g := fun g hg => by
            have := hF6.get g (by simp <;> omega)
            have e1 : g ≠ h3.next := by omega
            simpa [e1] using this
          simp [h61, f1, f2, hw3, hpc6, hne6, hv, zerosD, List.range, List.range.loop]
          refine (hsl.of_get (by simp <;> omega) (fun g q1 q2 => (by
            have e1 : g ≠ h3.next := by omega
            have e2 : g ≠ h6.next := by omega
            simp [e1, e2]; exact (ho6 g q2).trans (ho4 g q2)))).app2 (by simp [h61]) (by simp <;> omega) (by rfl) (by decide) (by simp) (by omega) (by decide) (.inl rfl) ?_
          rintro v' h5 hs' hF hF2
          have hp5 := hF2 h3.next (by simp <;> omega) (fun g x y e => by have := hsl.lt g x y e; omega)
          simp [hne6, hpc6] at hp5
          simp [hF.one, f1, f2, hp5]
          exact done h5 _ v' _ _ mk hst hyk (by omega) (by simp) (by simp [f2]) (by simp) hs' (Fr.trans ⟨by simp [h61], by simp <;> omega, fun b hb => by
            have e1 : b ≠ h3.next := by omega
            have e2 : b ≠ h6.next := by omega
            simp [e1, e2]; exact ((ho6 b (by omega)).trans (ho4 b (by omega))).trans (st.fr.get b hb)⟩ hF)
  · have hst : rstep (ctn line) (lfOf line) k mk = none := by unfold rstep; rw [if_pos (by omega)]
    simp [h31, f1, f2, g8, hyk, hv]
    have htt2 : tot = (acc, mk) := hw.symm.trans (rrun_none hst acc)
    rw [htt2]
    exact ⟨v, ⟨rfl, rfl⟩, hsl, st.fr⟩
end Go.Dm
