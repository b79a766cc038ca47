/- The shell's words: Read. -/
import Derived.Test.YtdgclgfhcgdehaaDoorShR
set_option linter.unusedVariables false
set_option linter.unusedSimpArgs false
namespace Go.Dm
open Go.Proofs
theorem wpiece_to (s : List UInt8) (lf : Bool) (k mark : Nat) : (wpiece s lf k mark).1.to = (wpiece s lf k mark).2.2 := by
  unfold wpiece
  simp only
  split <;> rfl
theorem opN_le (s : List UInt8) : opN s ≤ s.length := by
  unfold opN
  split
  · rename_i o ho
    have := List.find?_some ho
    rw [List.isPrefixOf_iff_prefix] at this
    exact this.length_le
  · omega
theorem opAt_le (s : List UInt8) (k : Nat) (hk : k ≤ s.length) : k + opAt s k ≤ s.length := by
  rw [opAt_in (by omega) (by omega)]
  have := opN_le (s.drop (k : Int).toNat)
  simp at this
  simp
  omega
theorem SlG.of_base {ty : Option TypeId} {n B B' : Nat} {h : H} {v : Value} {cs : List Value} {len : Nat} (s : SlG ty n B h v cs len) (hB : B' ≤ B) : SlG ty n B' h v cs len := by
  rcases s with s | ⟨s1, s2, g, s3, s4, s5, s6⟩
  · exact .inl s
  · exact .inr ⟨s1, s2, g, by omega, s4, s5, s6⟩
structure DSt (s : List UInt8) (lf : Bool) (rb : Nat) (h : H) (k mark : Nat) (acc : List Pc) (fr : T Value) (h' : H) : Prop where
  f2 : fr.get 2 = some (.int .u8 mark)
  tx : ∃ v, fr.get 11 = some v ∧ SlG none 6 (h.next + 1) h' v (encs acc) acc.length
  one : h'.one = []
  nx : h.next + 1 ≤ h'.next
  rd : Rd h' h.next s lf k
  al : acc.length ≤ k + 1
  kl : k ≤ s.length + 1
  old : ∀ b, b < h.next → h'.get b = h.get b
theorem DSt.app {s : List UInt8} {lf : Bool} {rb : Nat} {h : H} {k mark : Nat} {acc : List Pc} {fr fr' : T Value} {h3 h4 : H} (st : DSt s lf rb h k mark acc fr h3) {k' mark' : Nat} {acc' : List Pc} {v : Value} (f2 : fr'.get 2 = some (.int .u8 mark')) (hv : fr'.get 11 = some v)
    (hs : SlG none 6 (h.next + 1) h4 v (encs acc') acc'.length) (rd : Rd h4 h.next s lf k') (al : acc'.length ≤ k' + 1) (kl : k' ≤ s.length + 1) (one : h4.one = []) (nx : h.next + 1 ≤ h4.next) (old : ∀ b, b < h.next → h4.get b = h3.get b) : DSt s lf rb h k' mark' acc' fr' h4 :=
  ⟨f2, ⟨v, hv, hs⟩, one, nx, rd, al, kl, fun b hb => (old b hb).trans (st.old b hb)⟩
set_option maxHeartbeats 8000000 in
theorem Read_sp (line : List UInt8) (a : Int) (mark : Nat) (hs : line.length < 2 ^ 38) (hm : mark < 256) (h : H) (h1 : h.one = []) (hg : Gl h) (hg0 : 0 < h.next) :
    CallW E0 X0 (.fn 41) [str line, .int .i64 a, .int .u8 mark] h (fun v h' => ∃ sl, v = .tuple #[sl, .int .u8 (rdAt line a mark).2] ∧ SlG none 6 h.next h' sl (encs (rdAt line a mark).1) (rdAt line a mark).1.length ∧ Fr h.next h h') := by
  refine CallW.body efn41 rfl rfl rfl [19] (by kernel_rfl) ?_
  have hcl := ctn_length line
  have hle := ctnN_le line
  simp [Tryd.f41, h1]
  refine (CutSuffix_sp line [10] (by omega) _ h1).mono ?_
  rintro v h ⟨rfl, rfl⟩
  rw [cut_ctn, suffix_lf]
  by_cases c1 : a < 0
  · simp [h1, c1, rdAt]
    exact ⟨SlG.nil _ _ _ _, Fr.refl h1⟩
  obtain ⟨k, rfl⟩ : ∃ n : Nat, a = n := ⟨a.toNat, by omega⟩
  by_cases c2 : (ctn line).length < k
  · simp [h1, c1, c2, rdAt]
    exact ⟨SlG.nil _ _ _ _, Fr.refl h1⟩
  have hrd : rdAt line k mark = readM (ctn line) (lfOf line) k mark := by
    unfold rdAt
    rw [if_neg (by omega)]
    rfl
  rw [hrd]
  have entry : ∀ (mk : Nat), (mk = 39 ∨ mk = 34) → CallW E0 X0 (.fn 51) [.pointer (some ⟨h.next, 0, none⟩), .int .u8 mk] (h.nw (.cells [str (ctn line), .bool (lfOf line), .int .i64 k] 0 true 0 none)) (fun v h' => v = .tuple #[.agg (encP (wpiece (ctn line) (lfOf line) k mk).1).toArray, .int .u8 (wpiece (ctn line) (lfOf line) k mk).2.1] ∧ Rd h' h.next (ctn line) (lfOf line) (wpiece (ctn line) (lfOf line) k mk).2.2 ∧ h'.one = [] ∧ h.next + 1 ≤ h'.next ∧ ∀ b, b < h.next → h'.get b = h.get b) := by
    intro mk hmk
    refine (word_sp (ctn line) (lfOf line) k mk h.next (by omega) (by omega) (.inr hmk) _ (by simp) (by unfold Gl at hg ⊢; rw [get_nw, if_neg (by omega)]; exact hg) (by unfold Rd; simp) (by simp) (by simp <;> omega)).mono ?_
    rintro v h3 ⟨q1, q2, q3, q4, q5⟩
    exact ⟨q1, q2, q3, by simpa using q4, fun b hb => by rw [q5 b (by simp <;> omega) (by omega), get_nw, if_neg (by omega)]⟩
  by_cases c3 : mark = 39
  · subst c3
    have htot : readM (ctn line) (lfOf line) k 39 = rrun (ctn line) (lfOf line) (wpiece (ctn line) (lfOf line) k 39).2.2 (wpiece (ctn line) (lfOf line) k 39).2.1 [(wpiece (ctn line) (lfOf line) k 39).1] := by unfold readM; rw [if_pos (by decide)]
    rw [htot]
    generalize htt : rrun (ctn line) (lfOf line) (wpiece (ctn line) (lfOf line) k 39).2.2 (wpiece (ctn line) (lfOf line) k 39).2.1 [(wpiece (ctn line) (lfOf line) k 39).1] = tot
    simp [h1, c1, c2]
    refine (entry 39 (by decide)).mono ?_
    rintro v h6 ⟨rfl, hR6, h61, hn6, ho6⟩
    have hwl := wpiece_le (ctn line) (lfOf line) k 39 (by omega)
    have hbl : (lfOf line).toNat ≤ 1 := by cases lfOf line <;> simp
    have hto := wpiece_to (ctn line) (lfOf line) k 39
    generalize wpiece (ctn line) (lfOf line) k 39 = w at htt hwl hto hR6 ⊢
    obtain ⟨⟨kd, fm, to, tx, rw', wh'⟩, m', k'⟩ := w
    simp only at hwl hto hR6 htt
    subst hto
    unfold Rd at hR6
    have e1 : h.next ≠ h6.next := by omega
    have e2 : h.next ≠ h6.next + 1 := by omega
    have e3 : h.next ≠ h6.next + 2 := by omega
    have ho7 : ∀ (d1 d2 d3 d4 : DObj) b, b < h.next → ((((h6.nw d1).put h6.next d2).nw d3).nw d4).get b = h.get b := by
      intro d1 d2 d3 d4 b hb
      have f1 : b ≠ h6.next := by omega
      have f2 : b ≠ h6.next + 1 := by omega
      have f3 : b ≠ h6.next + 2 := by omega
      simp [f1, f2, f3]
      exact ho6 b hb
    simp [h61, encP, zerosD, List.range, List.range.loop]
    refine wpd_loop (fun (p : Nat × Nat × List Pc) fr h3 => DSt (ctn line) (lfOf line) h.next h p.1 p.2.1 p.2.2 fr h3 ∧ rrun (ctn line) (lfOf line) p.1 p.2.1 p.2.2 = tot) (fun p => (ctn line).length + 1 - p.1) (to, m', [⟨kd, fm, to, tx, rw', wh'⟩]) ⟨⟨by simp, ⟨.slice (some ⟨h6.next + 2, 0, none⟩) 1 1, by simp, .inr ⟨by simp, by simp [encs_length], h6.next + 2, by omega, by simp, by simp, by simp [encs, encP]⟩⟩, by simp, by simp <;> omega, by unfold Rd; simp [e1, e2, e3, hR6], by simp, by simp only; omega, ho7 _ _ _ _⟩, htt⟩ ?_
    rintro ⟨k, mk, acc⟩ fr h3 ⟨st, hw⟩ hf
    have h31 := st.one
    have hnx := st.nx
    have g8 := hf 8 rfl
    have g10 := hf 10 rfl
    have g0 := hf 0 rfl
    simp at g0 g8 g10
    obtain ⟨v, hv, hsl⟩ := st.tx
    have hrd := st.rd
    unfold Rd at hrd
    have hal := st.al
    have f2 := st.f2
    simp only at hrd hal f2 hsl hv hw
    have hgl : Gl h3 := by unfold Gl; rw [st.old _ hg0]; exact hg
    have done : ∀ (H0 h5 : H) (fr' : T Value) (v' : Value) (p : Pc) (k' mk' : Nat), rstep (ctn line) (lfOf line) k mk = some ([p], k', mk') → k < (ctn line).length → k' ≤ (ctn line).length + 1 → fr'.get 2 = some (.int .u8 mk') → fr'.get 11 = some v' →
        SlG none 6 (h.next + 1) h5 v' (encs acc ++ encP p) (acc.length + 1) → Fr (h.next + 1) H0 h5 → H0.get h.next = some (.cells [str (ctn line), .bool (lfOf line), .int .i64 k'] 0 true 0 none) → (∀ b, b < h.next → H0.get b = h3.get b) → h.next + 1 ≤ H0.next →
        ∃ a, (ctn line).length + 1 - a < (ctn line).length + 1 - k ∧ ∃ a1 b, DSt (ctn line) (lfOf line) h.next h a a1 b fr' h5 ∧ rrun (ctn line) (lfOf line) a a1 b = tot := by
      intro H0 h5 fr' v' p k' mk' hst hk hk' q2 q11 hs5 hF hR hold hn0
      have hgt := (rstep_k hst).1
      simp only at hgt
      refine ⟨k', by omega, mk', acc ++ [p], st.app q2 q11 (by rw [← encs_snoc]; simpa using hs5) ?_ (by simp; omega) hk' hF.one (Nat.le_trans hn0 hF.next) (fun b hb => (hF.get b (by omega)).trans (hold b hb)), ?_⟩
      · unfold Rd; rw [hF.get _ (by omega)]; exact hR
      · exact (rrun_some hst acc).symm.trans hw
    simp [h31, g10]
    refine (more_sp (ctn line) (lfOf line) k h.next h3 h31 st.rd).mono ?_
    rintro _ h3 ⟨rfl, rfl⟩
    by_cases hyk : k < (ctn line).length
    · have hix := idxB_nat hyk
      have hw1 := wrap_succ (show k < 9223372036854775807 by omega)
      simp [h31, g10, hyk]
      refine (blank_sp (ctn line) (lfOf line) k h.next hyk h3 h31 st.rd).mono ?_
      rintro _ h3 ⟨rfl, rfl⟩
      cases hb : isBl (bt (ctn line) k) with
      | true =>
        have hst : rstep (ctn line) (lfOf line) k mk = some ([], k + 1, mk) := by unfold rstep; rw [if_neg (by omega), if_pos hb]
        simp [h31, g10, nilCheckD, hrd, hw1]
        refine ⟨k + 1, by omega, mk, acc, st.app (by simp [f2]) (by simp; exact hv) (hsl.put (by omega) _) (by unfold Rd; simp) (by omega) (by omega) h31 hnx (fun b hb => by rw [H.get_put, if_neg (by omega)]), ?_⟩
        have := (rrun_some hst acc).symm.trans hw
        simpa using this
      | false =>
        have hne : h.next ≠ h3.next := by omega
        have hne1 : h.next ≠ h3.next + 1 := by omega
        have hne2 : h3.next ≠ h.next := by omega
        have hg3 : (0 : Nat) ≠ h3.next := by omega
        simp [h31, g10, g8, nilCheckD, hrd, hne, hne1]
        refine (Op_sp (ctn line) k _ (by simp [h31]) (by unfold Gl at hgl ⊢; simp [hg3]; exact hgl)).mono ?_
        rintro _ h4 ⟨rfl, rfl⟩
        have hgg : ∀ g, h.next + 1 ≤ g → g < h3.next → g ≠ h3.next ∧ g ≠ h3.next + 1 ∧ g ≠ h.next := fun g q1 q2 => ⟨by omega, by omega, by omega⟩
        have hbb : ∀ b, b < h.next → b ≠ h3.next ∧ b ≠ h3.next + 1 ∧ b ≠ h.next := fun g q => ⟨by omega, by omega, by omega⟩
        by_cases c35 : (bt (ctn line) k).toNat = 35
        · have hst : rstep (ctn line) (lfOf line) k mk = some ([⟨53, k, (ctn line).length, [], false, false⟩], (ctn line).length, mk) := by unfold rstep; rw [if_neg (by omega), hb, if_neg (by decide), if_pos c35]
          simp [h31, g10, g8, nilCheckD, hrd, hne, hne1, hne2, hix, eq_true c35, hv, zerosD, List.range, List.range.loop]
          refine (hsl.of_get (by simp <;> omega) (fun g q1 q2 => by obtain ⟨e1, e2, e3⟩ := hgg g q1 q2; simp [e1, e2, e3])).app (by simp [h31]) (by simp <;> omega) (by rfl) (by decide) (by simp) (by omega) (by decide) (.inl rfl) ?_
          rintro v' h5 hs' hF
          simp [hF.one, f2]
          exact done _ h5 _ v' _ _ mk hst hyk (by omega) (by simp [f2]) (by simp) hs' hF (by simp [hne, hne1, hrd]) (fun b hb => by obtain ⟨e1, e2, e3⟩ := hbb b hb; simp [e1, e2, e3]) (by simp <;> omega)
        · by_cases ho : opAt (ctn line) k = 0
          · simp [h31, g10, g8, nilCheckD, hrd, hne, hne1, hne2, hix, c35, ho]
            refine (join_sp (ctn line) (lfOf line) k h.next hyk (by omega) _ (by simp [h31]) (by unfold Rd; simp [hne]; exact hrd)).mono ?_
            rintro _ h4 ⟨rfl, rfl⟩
            cases hj : joinAt (ctn line) (lfOf line) k with
            | true =>
              have hlf : lfOf line = true := by unfold joinAt at hj; simp at hj; exact hj.1.1
              have hll := ctn_lf line
              rw [hlf] at hll
              have hll2 : (line.length : Int) = ((ctn line).length : Int) + 1 := by simp at hll; omega
              have hst : rstep (ctn line) (lfOf line) k mk = some ([⟨54, k, (ctn line).length + 1, [], false, false⟩], (ctn line).length + 1, mk) := by unfold rstep; rw [if_neg (by omega), hb, if_neg (by decide), if_neg c35, if_neg (by omega), if_pos hj]
              simp [h31, g10, g8, g0, nilCheckD, hrd, hne, hne1, hne2, hv, hll2, zerosD, List.range, List.range.loop]
              refine (hsl.of_get (by simp <;> omega) (fun g q1 q2 => by obtain ⟨e1, e2, e3⟩ := hgg g q1 q2; simp [e1, e2, e3])).app (by simp [h31]) (by simp <;> omega) (by rfl) (by decide) (by simp) (by omega) (by decide) (.inl rfl) ?_
              rintro v' h5 hs' hF
              simp [hF.one, f2]
              exact done _ h5 _ v' _ _ mk hst hyk (by omega) (by simp [f2]) (by simp) hs' hF (by simp [hne, hne1, hrd]) (fun b hb => by obtain ⟨e1, e2, e3⟩ := hbb b hb; simp [e1, e2, e3]) (by simp <;> omega)
            | false =>
              have hns : stopAt (ctn line) (lfOf line) k = false := by unfold stopAt; simp [hb, ho, hj]; omega
              have hst : rstep (ctn line) (lfOf line) k mk = some ([(wpiece (ctn line) (lfOf line) k 0).1], (wpiece (ctn line) (lfOf line) k 0).2.2, (wpiece (ctn line) (lfOf line) k 0).2.1) := by unfold rstep; rw [if_neg (by omega), hb, if_neg (by decide), if_neg c35, if_neg (by omega), hj, if_neg (by decide)]
              have hwl := wpiece_le (ctn line) (lfOf line) k 0 (by omega)
              have hbl : (lfOf line).toNat ≤ 1 := by cases lfOf line <;> simp
              have hto := wpiece_to (ctn line) (lfOf line) k 0
              simp [h31, g10]
              refine (word_sp (ctn line) (lfOf line) k 0 h.next (by omega) (by omega) (.inl rfl) _ (by simp [h31]) (by unfold Gl at hgl ⊢; simp [hg3]; exact hgl) (by unfold Rd; simp [hne]; exact hrd) (by simp <;> omega) (by simp <;> omega)).mono ?_
              rintro _ h6 ⟨rfl, hR6, h61, hn6, ho6⟩
              generalize wpiece (ctn line) (lfOf line) k 0 = w at hst hwl hto hR6 ⊢
              obtain ⟨⟨kd, fm, to, tx, rw', wh'⟩, m', k'⟩ := w
              simp only at hwl hto hR6 hst
              subst hto
              have hpg := ho6 h3.next (by simp) (by omega)
              simp at hpg hn6
              unfold Rd at hR6
              have hn7 : h.next ≠ h6.next := by omega
              have hn8 : h3.next ≠ h6.next := by omega
              have hn9 : h.next ≠ h6.next + 1 := by omega
              have hsl6 : SlG none 6 (h.next + 1) h6 v (encs acc) acc.length := hsl.of_get (by omega) fun g q1 q2 => by
                have e1 := ho6 g (by simp; omega) (by omega)
                have e2 : g ≠ h3.next := by omega
                simpa [e2] using e1
              have hgg6 : ∀ g, h.next + 1 ≤ g → g < h6.next → g ≠ h6.next := fun g q1 q2 => by omega
              have ho7 : ∀ b, b < h.next → h6.get b = h3.get b := fun b hb => by
                have e1 := ho6 b (by simp; omega) (by omega)
                have e2 : b ≠ h3.next := by omega
                simpa [e2] using e1
              simp [h61, g10, encP, hpg, nilCheckD, hR6, hne, hne1, hne2, hn7, hn8, hn9, hv, zerosD, List.range, List.range.loop]
              have ho8 : ∀ g, h.next + 1 ≤ g → g < h3.next → h6.get g = h3.get g := fun g q1 q2 => by
                have e1 := ho6 g (by simp; omega) (by omega)
                have e2 : g ≠ h3.next := by omega
                simpa [e2] using e1
              refine (hsl.of_get (by simp <;> omega) (fun g q1 q2 => (by
                have e1 : g ≠ h3.next := by omega
                have e2 : g ≠ h6.next := by omega
                simp [e1, e2]; exact ho8 g q1 q2))).app (by simp [h61]) (by simp <;> omega) (by rfl) (by decide) (by simp) (by omega) (by decide) (.inl rfl) ?_
              rintro v' h5 hs' hF
              simp [hF.one]
              exact done _ h5 _ v' ⟨kd, fm, to, tx, rw', wh'⟩ to m' hst hyk (by omega) (by simp) (by simp) hs' hF (by simp [hne, hn7, hR6]) (fun b hb => by
                have e1 : b ≠ h3.next := by omega
                have e2 : b ≠ h6.next := by omega
                simp [e1, e2]; exact ho7 b hb) (by simp <;> omega)
          · have ho2 : 0 < opAt (ctn line) k := by omega
            have hol : k + opAt (ctn line) k ≤ (ctn line).length := opAt_le _ _ (by omega)
            have hw3 := wrap_add (a := k) (b := opAt (ctn line) k) (by omega)
            have hst : rstep (ctn line) (lfOf line) k mk = some ([⟨52, k, k + opAt (ctn line) k, [], false, false⟩], k + opAt (ctn line) k, mk) := by unfold rstep; rw [if_neg (by omega), hb, if_neg (by decide), if_neg c35, if_pos ho]
            simp [h31, g10, g8, nilCheckD, hrd, hne, hne1, hne2, hix, c35, ho2]
            refine ⟨laxW_of [(4, 11)] (by kernel_rfl) ?_, ?_⟩
            · simp [LaxP, h31, g10, nilCheckD, hrd, hne, hne1, hne2]
            · simp [h31, g10, g8, nilCheckD, hrd, hne, hne1, hne2, hw3, hv, zerosD, List.range, List.range.loop]
              refine (hsl.of_get (by simp <;> omega) (fun g q1 q2 => by obtain ⟨e1, e2, e3⟩ := hgg g q1 q2; simp [e1, e2, e3])).app (by simp [h31]) (by simp <;> omega) (by rfl) (by decide) (by simp) (by omega) (by decide) (.inl rfl) ?_
              rintro v' h5 hs' hF
              simp [hF.one, f2]
              exact done _ h5 _ v' _ _ mk hst hyk (by omega) (by simp [f2]) (by simp) hs' hF (by simp [hne, hne1, hrd]) (fun b hb => by obtain ⟨e1, e2, e3⟩ := hbb b hb; simp [e1, e2, e3]) (by simp <;> omega)
    · have hst : rstep (ctn line) (lfOf line) k mk = none := by unfold rstep; rw [if_pos (by omega)]
      simp [h31, g10, hyk, hv, f2]
      have htt2 : tot = (acc, mk) := hw.symm.trans (rrun_none hst acc)
      rw [htt2]
      exact ⟨v, ⟨rfl, rfl⟩, hsl.of_base (by omega), ⟨h31, by omega, st.old⟩⟩
  by_cases c4 : mark = 34
  · subst c4
    have htot : readM (ctn line) (lfOf line) k 34 = rrun (ctn line) (lfOf line) (wpiece (ctn line) (lfOf line) k 34).2.2 (wpiece (ctn line) (lfOf line) k 34).2.1 [(wpiece (ctn line) (lfOf line) k 34).1] := by unfold readM; rw [if_pos (by decide)]
    rw [htot]
    generalize htt : rrun (ctn line) (lfOf line) (wpiece (ctn line) (lfOf line) k 34).2.2 (wpiece (ctn line) (lfOf line) k 34).2.1 [(wpiece (ctn line) (lfOf line) k 34).1] = tot
    simp [h1, c1, c2]
    refine (entry 34 (by decide)).mono ?_
    rintro v h6 ⟨rfl, hR6, h61, hn6, ho6⟩
    have hwl := wpiece_le (ctn line) (lfOf line) k 34 (by omega)
    have hbl : (lfOf line).toNat ≤ 1 := by cases lfOf line <;> simp
    have hto := wpiece_to (ctn line) (lfOf line) k 34
    generalize wpiece (ctn line) (lfOf line) k 34 = w at htt hwl hto hR6 ⊢
    obtain ⟨⟨kd, fm, to, tx, rw', wh'⟩, m', k'⟩ := w
    simp only at hwl hto hR6 htt
    subst hto
    unfold Rd at hR6
    have e1 : h.next ≠ h6.next := by omega
    have e2 : h.next ≠ h6.next + 1 := by omega
    have e3 : h.next ≠ h6.next + 2 := by omega
    have ho7 : ∀ (d1 d2 d3 d4 : DObj) b, b < h.next → ((((h6.nw d1).put h6.next d2).nw d3).nw d4).get b = h.get b := by
      intro d1 d2 d3 d4 b hb
      have f1 : b ≠ h6.next := by omega
      have f2 : b ≠ h6.next + 1 := by omega
      have f3 : b ≠ h6.next + 2 := by omega
      simp [f1, f2, f3]
      exact ho6 b hb
    simp [h61, encP, zerosD, List.range, List.range.loop]
    refine wpd_loop (fun (p : Nat × Nat × List Pc) fr h3 => DSt (ctn line) (lfOf line) h.next h p.1 p.2.1 p.2.2 fr h3 ∧ rrun (ctn line) (lfOf line) p.1 p.2.1 p.2.2 = tot) (fun p => (ctn line).length + 1 - p.1) (to, m', [⟨kd, fm, to, tx, rw', wh'⟩]) ⟨⟨by simp, ⟨.slice (some ⟨h6.next + 2, 0, none⟩) 1 1, by simp, .inr ⟨by simp, by simp [encs_length], h6.next + 2, by omega, by simp, by simp, by simp [encs, encP]⟩⟩, by simp, by simp <;> omega, by unfold Rd; simp [e1, e2, e3, hR6], by simp, by simp only; omega, ho7 _ _ _ _⟩, htt⟩ ?_
    rintro ⟨k, mk, acc⟩ fr h3 ⟨st, hw⟩ hf
    have h31 := st.one
    have hnx := st.nx
    have g8 := hf 8 rfl
    have g10 := hf 10 rfl
    have g0 := hf 0 rfl
    simp at g0 g8 g10
    obtain ⟨v, hv, hsl⟩ := st.tx
    have hrd := st.rd
    unfold Rd at hrd
    have hal := st.al
    have f2 := st.f2
    simp only at hrd hal f2 hsl hv hw
    have hgl : Gl h3 := by unfold Gl; rw [st.old _ hg0]; exact hg
    have done : ∀ (H0 h5 : H) (fr' : T Value) (v' : Value) (p : Pc) (k' mk' : Nat), rstep (ctn line) (lfOf line) k mk = some ([p], k', mk') → k < (ctn line).length → k' ≤ (ctn line).length + 1 → fr'.get 2 = some (.int .u8 mk') → fr'.get 11 = some v' →
        SlG none 6 (h.next + 1) h5 v' (encs acc ++ encP p) (acc.length + 1) → Fr (h.next + 1) H0 h5 → H0.get h.next = some (.cells [str (ctn line), .bool (lfOf line), .int .i64 k'] 0 true 0 none) → (∀ b, b < h.next → H0.get b = h3.get b) → h.next + 1 ≤ H0.next →
        ∃ a, (ctn line).length + 1 - a < (ctn line).length + 1 - k ∧ ∃ a1 b, DSt (ctn line) (lfOf line) h.next h a a1 b fr' h5 ∧ rrun (ctn line) (lfOf line) a a1 b = tot := by
      intro H0 h5 fr' v' p k' mk' hst hk hk' q2 q11 hs5 hF hR hold hn0
      have hgt := (rstep_k hst).1
      simp only at hgt
      refine ⟨k', by omega, mk', acc ++ [p], st.app q2 q11 (by rw [← encs_snoc]; simpa using hs5) ?_ (by simp; omega) hk' hF.one (Nat.le_trans hn0 hF.next) (fun b hb => (hF.get b (by omega)).trans (hold b hb)), ?_⟩
      · unfold Rd; rw [hF.get _ (by omega)]; exact hR
      · exact (rrun_some hst acc).symm.trans hw
    simp [h31, g10]
    refine (more_sp (ctn line) (lfOf line) k h.next h3 h31 st.rd).mono ?_
    rintro _ h3 ⟨rfl, rfl⟩
    by_cases hyk : k < (ctn line).length
    · have hix := idxB_nat hyk
      have hw1 := wrap_succ (show k < 9223372036854775807 by omega)
      simp [h31, g10, hyk]
      refine (blank_sp (ctn line) (lfOf line) k h.next hyk h3 h31 st.rd).mono ?_
      rintro _ h3 ⟨rfl, rfl⟩
      cases hb : isBl (bt (ctn line) k) with
      | true =>
        have hst : rstep (ctn line) (lfOf line) k mk = some ([], k + 1, mk) := by unfold rstep; rw [if_neg (by omega), if_pos hb]
        simp [h31, g10, nilCheckD, hrd, hw1]
        refine ⟨k + 1, by omega, mk, acc, st.app (by simp [f2]) (by simp; exact hv) (hsl.put (by omega) _) (by unfold Rd; simp) (by omega) (by omega) h31 hnx (fun b hb => by rw [H.get_put, if_neg (by omega)]), ?_⟩
        have := (rrun_some hst acc).symm.trans hw
        simpa using this
      | false =>
        have hne : h.next ≠ h3.next := by omega
        have hne1 : h.next ≠ h3.next + 1 := by omega
        have hne2 : h3.next ≠ h.next := by omega
        have hg3 : (0 : Nat) ≠ h3.next := by omega
        simp [h31, g10, g8, nilCheckD, hrd, hne, hne1]
        refine (Op_sp (ctn line) k _ (by simp [h31]) (by unfold Gl at hgl ⊢; simp [hg3]; exact hgl)).mono ?_
        rintro _ h4 ⟨rfl, rfl⟩
        have hgg : ∀ g, h.next + 1 ≤ g → g < h3.next → g ≠ h3.next ∧ g ≠ h3.next + 1 ∧ g ≠ h.next := fun g q1 q2 => ⟨by omega, by omega, by omega⟩
        have hbb : ∀ b, b < h.next → b ≠ h3.next ∧ b ≠ h3.next + 1 ∧ b ≠ h.next := fun g q => ⟨by omega, by omega, by omega⟩
        by_cases c35 : (bt (ctn line) k).toNat = 35
        · have hst : rstep (ctn line) (lfOf line) k mk = some ([⟨53, k, (ctn line).length, [], false, false⟩], (ctn line).length, mk) := by unfold rstep; rw [if_neg (by omega), hb, if_neg (by decide), if_pos c35]
          simp [h31, g10, g8, nilCheckD, hrd, hne, hne1, hne2, hix, eq_true c35, hv, zerosD, List.range, List.range.loop]
          refine (hsl.of_get (by simp <;> omega) (fun g q1 q2 => by obtain ⟨e1, e2, e3⟩ := hgg g q1 q2; simp [e1, e2, e3])).app (by simp [h31]) (by simp <;> omega) (by rfl) (by decide) (by simp) (by omega) (by decide) (.inl rfl) ?_
          rintro v' h5 hs' hF
          simp [hF.one, f2]
          exact done _ h5 _ v' _ _ mk hst hyk (by omega) (by simp [f2]) (by simp) hs' hF (by simp [hne, hne1, hrd]) (fun b hb => by obtain ⟨e1, e2, e3⟩ := hbb b hb; simp [e1, e2, e3]) (by simp <;> omega)
        · by_cases ho : opAt (ctn line) k = 0
          · simp [h31, g10, g8, nilCheckD, hrd, hne, hne1, hne2, hix, c35, ho]
            refine (join_sp (ctn line) (lfOf line) k h.next hyk (by omega) _ (by simp [h31]) (by unfold Rd; simp [hne]; exact hrd)).mono ?_
            rintro _ h4 ⟨rfl, rfl⟩
            cases hj : joinAt (ctn line) (lfOf line) k with
            | true =>
              have hlf : lfOf line = true := by unfold joinAt at hj; simp at hj; exact hj.1.1
              have hll := ctn_lf line
              rw [hlf] at hll
              have hll2 : (line.length : Int) = ((ctn line).length : Int) + 1 := by simp at hll; omega
              have hst : rstep (ctn line) (lfOf line) k mk = some ([⟨54, k, (ctn line).length + 1, [], false, false⟩], (ctn line).length + 1, mk) := by unfold rstep; rw [if_neg (by omega), hb, if_neg (by decide), if_neg c35, if_neg (by omega), if_pos hj]
              simp [h31, g10, g8, g0, nilCheckD, hrd, hne, hne1, hne2, hv, hll2, zerosD, List.range, List.range.loop]
              refine (hsl.of_get (by simp <;> omega) (fun g q1 q2 => by obtain ⟨e1, e2, e3⟩ := hgg g q1 q2; simp [e1, e2, e3])).app (by simp [h31]) (by simp <;> omega) (by rfl) (by decide) (by simp) (by omega) (by decide) (.inl rfl) ?_
              rintro v' h5 hs' hF
              simp [hF.one, f2]
              exact done _ h5 _ v' _ _ mk hst hyk (by omega) (by simp [f2]) (by simp) hs' hF (by simp [hne, hne1, hrd]) (fun b hb => by obtain ⟨e1, e2, e3⟩ := hbb b hb; simp [e1, e2, e3]) (by simp <;> omega)
            | false =>
              have hns : stopAt (ctn line) (lfOf line) k = false := by unfold stopAt; simp [hb, ho, hj]; omega
              have hst : rstep (ctn line) (lfOf line) k mk = some ([(wpiece (ctn line) (lfOf line) k 0).1], (wpiece (ctn line) (lfOf line) k 0).2.2, (wpiece (ctn line) (lfOf line) k 0).2.1) := by unfold rstep; rw [if_neg (by omega), hb, if_neg (by decide), if_neg c35, if_neg (by omega), hj, if_neg (by decide)]
              have hwl := wpiece_le (ctn line) (lfOf line) k 0 (by omega)
              have hbl : (lfOf line).toNat ≤ 1 := by cases lfOf line <;> simp
              have hto := wpiece_to (ctn line) (lfOf line) k 0
              simp [h31, g10]
              refine (word_sp (ctn line) (lfOf line) k 0 h.next (by omega) (by omega) (.inl rfl) _ (by simp [h31]) (by unfold Gl at hgl ⊢; simp [hg3]; exact hgl) (by unfold Rd; simp [hne]; exact hrd) (by simp <;> omega) (by simp <;> omega)).mono ?_
              rintro _ h6 ⟨rfl, hR6, h61, hn6, ho6⟩
              generalize wpiece (ctn line) (lfOf line) k 0 = w at hst hwl hto hR6 ⊢
              obtain ⟨⟨kd, fm, to, tx, rw', wh'⟩, m', k'⟩ := w
              simp only at hwl hto hR6 hst
              subst hto
              have hpg := ho6 h3.next (by simp) (by omega)
              simp at hpg hn6
              unfold Rd at hR6
              have hn7 : h.next ≠ h6.next := by omega
              have hn8 : h3.next ≠ h6.next := by omega
              have hn9 : h.next ≠ h6.next + 1 := by omega
              have hsl6 : SlG none 6 (h.next + 1) h6 v (encs acc) acc.length := hsl.of_get (by omega) fun g q1 q2 => by
                have e1 := ho6 g (by simp; omega) (by omega)
                have e2 : g ≠ h3.next := by omega
                simpa [e2] using e1
              have hgg6 : ∀ g, h.next + 1 ≤ g → g < h6.next → g ≠ h6.next := fun g q1 q2 => by omega
              have ho7 : ∀ b, b < h.next → h6.get b = h3.get b := fun b hb => by
                have e1 := ho6 b (by simp; omega) (by omega)
                have e2 : b ≠ h3.next := by omega
                simpa [e2] using e1
              simp [h61, g10, encP, hpg, nilCheckD, hR6, hne, hne1, hne2, hn7, hn8, hn9, hv, zerosD, List.range, List.range.loop]
              have ho8 : ∀ g, h.next + 1 ≤ g → g < h3.next → h6.get g = h3.get g := fun g q1 q2 => by
                have e1 := ho6 g (by simp; omega) (by omega)
                have e2 : g ≠ h3.next := by omega
                simpa [e2] using e1
              refine (hsl.of_get (by simp <;> omega) (fun g q1 q2 => (by
                have e1 : g ≠ h3.next := by omega
                have e2 : g ≠ h6.next := by omega
                simp [e1, e2]; exact ho8 g q1 q2))).app (by simp [h61]) (by simp <;> omega) (by rfl) (by decide) (by simp) (by omega) (by decide) (.inl rfl) ?_
              rintro v' h5 hs' hF
              simp [hF.one]
              exact done _ h5 _ v' ⟨kd, fm, to, tx, rw', wh'⟩ to m' hst hyk (by omega) (by simp) (by simp) hs' hF (by simp [hne, hn7, hR6]) (fun b hb => by
                have e1 : b ≠ h3.next := by omega
                have e2 : b ≠ h6.next := by omega
                simp [e1, e2]; exact ho7 b hb) (by simp <;> omega)
          · have ho2 : 0 < opAt (ctn line) k := by omega
            have hol : k + opAt (ctn line) k ≤ (ctn line).length := opAt_le _ _ (by omega)
            have hw3 := wrap_add (a := k) (b := opAt (ctn line) k) (by omega)
            have hst : rstep (ctn line) (lfOf line) k mk = some ([⟨52, k, k + opAt (ctn line) k, [], false, false⟩], k + opAt (ctn line) k, mk) := by unfold rstep; rw [if_neg (by omega), hb, if_neg (by decide), if_neg c35, if_pos ho]
            simp [h31, g10, g8, nilCheckD, hrd, hne, hne1, hne2, hix, c35, ho2]
            refine ⟨laxW_of [(4, 11)] (by kernel_rfl) ?_, ?_⟩
            · simp [LaxP, h31, g10, nilCheckD, hrd, hne, hne1, hne2]
            · simp [h31, g10, g8, nilCheckD, hrd, hne, hne1, hne2, hw3, hv, zerosD, List.range, List.range.loop]
              refine (hsl.of_get (by simp <;> omega) (fun g q1 q2 => by obtain ⟨e1, e2, e3⟩ := hgg g q1 q2; simp [e1, e2, e3])).app (by simp [h31]) (by simp <;> omega) (by rfl) (by decide) (by simp) (by omega) (by decide) (.inl rfl) ?_
              rintro v' h5 hs' hF
              simp [hF.one, f2]
              exact done _ h5 _ v' _ _ mk hst hyk (by omega) (by simp [f2]) (by simp) hs' hF (by simp [hne, hne1, hrd]) (fun b hb => by obtain ⟨e1, e2, e3⟩ := hbb b hb; simp [e1, e2, e3]) (by simp <;> omega)
    · have hst : rstep (ctn line) (lfOf line) k mk = none := by unfold rstep; rw [if_pos (by omega)]
      simp [h31, g10, hyk, hv, f2]
      have htt2 : tot = (acc, mk) := hw.symm.trans (rrun_none hst acc)
      rw [htt2]
      exact ⟨v, ⟨rfl, rfl⟩, hsl.of_base (by omega), ⟨h31, by omega, st.old⟩⟩
  have htot : readM (ctn line) (lfOf line) k mark = rrun (ctn line) (lfOf line) k 0 [] := by unfold readM; rw [if_neg (by omega)]
  rw [htot]
  generalize htt : rrun (ctn line) (lfOf line) k 0 [] = tot
  simp [h1, c1, c2, c3, c4]
  refine wpd_loop (fun (p : Nat × Nat × List Pc) fr h3 => DSt (ctn line) (lfOf line) h.next h p.1 p.2.1 p.2.2 fr h3 ∧ rrun (ctn line) (lfOf line) p.1 p.2.1 p.2.2 = tot) (fun p => (ctn line).length + 1 - p.1) (k, 0, []) ⟨⟨by simp, ⟨_, by simp, SlG.nil _ _ _ _⟩, by simp, by simp, by unfold Rd; simp, by simp, by simp only; omega, fun b hb => by rw [get_nw, if_neg (by omega)]⟩, htt⟩ ?_
  rintro ⟨k, mk, acc⟩ fr h3 ⟨st, hw⟩ hf
  have h31 := st.one
  have hnx := st.nx
  have g8 := hf 8 rfl
  have g10 := hf 10 rfl
  have g0 := hf 0 rfl
  simp at g0 g8 g10
  obtain ⟨v, hv, hsl⟩ := st.tx
  have hrd := st.rd
  unfold Rd at hrd
  have hal := st.al
  have f2 := st.f2
  simp only at hrd hal f2 hsl hv hw
  have hgl : Gl h3 := by unfold Gl; rw [st.old _ hg0]; exact hg
  have done : ∀ (H0 h5 : H) (fr' : T Value) (v' : Value) (p : Pc) (k' mk' : Nat), rstep (ctn line) (lfOf line) k mk = some ([p], k', mk') → k < (ctn line).length → k' ≤ (ctn line).length + 1 → fr'.get 2 = some (.int .u8 mk') → fr'.get 11 = some v' →
      SlG none 6 (h.next + 1) h5 v' (encs acc ++ encP p) (acc.length + 1) → Fr (h.next + 1) H0 h5 → H0.get h.next = some (.cells [str (ctn line), .bool (lfOf line), .int .i64 k'] 0 true 0 none) → (∀ b, b < h.next → H0.get b = h3.get b) → h.next + 1 ≤ H0.next →
      ∃ a, (ctn line).length + 1 - a < (ctn line).length + 1 - k ∧ ∃ a1 b, DSt (ctn line) (lfOf line) h.next h a a1 b fr' h5 ∧ rrun (ctn line) (lfOf line) a a1 b = tot := by
    intro H0 h5 fr' v' p k' mk' hst hk hk' q2 q11 hs5 hF hR hold hn0
    have hgt := (rstep_k hst).1
    simp only at hgt
    refine ⟨k', by omega, mk', acc ++ [p], st.app q2 q11 (by rw [← encs_snoc]; simpa using hs5) ?_ (by simp; omega) hk' hF.one (Nat.le_trans hn0 hF.next) (fun b hb => (hF.get b (by omega)).trans (hold b hb)), ?_⟩
    · unfold Rd; rw [hF.get _ (by omega)]; exact hR
    · exact (rrun_some hst acc).symm.trans hw
  simp [h31, g10]
  refine (more_sp (ctn line) (lfOf line) k h.next h3 h31 st.rd).mono ?_
  rintro _ h3 ⟨rfl, rfl⟩
  by_cases hyk : k < (ctn line).length
  · have hix := idxB_nat hyk
    have hw1 := wrap_succ (show k < 9223372036854775807 by omega)
    simp [h31, g10, hyk]
    refine (blank_sp (ctn line) (lfOf line) k h.next hyk h3 h31 st.rd).mono ?_
    rintro _ h3 ⟨rfl, rfl⟩
    cases hb : isBl (bt (ctn line) k) with
    | true =>
      have hst : rstep (ctn line) (lfOf line) k mk = some ([], k + 1, mk) := by unfold rstep; rw [if_neg (by omega), if_pos hb]
      simp [h31, g10, nilCheckD, hrd, hw1]
      refine ⟨k + 1, by omega, mk, acc, st.app (by simp [f2]) (by simp; exact hv) (hsl.put (by omega) _) (by unfold Rd; simp) (by omega) (by omega) h31 hnx (fun b hb => by rw [H.get_put, if_neg (by omega)]), ?_⟩
      have := (rrun_some hst acc).symm.trans hw
      simpa using this
    | false =>
      have hne : h.next ≠ h3.next := by omega
      have hne1 : h.next ≠ h3.next + 1 := by omega
      have hne2 : h3.next ≠ h.next := by omega
      have hg3 : (0 : Nat) ≠ h3.next := by omega
      simp [h31, g10, g8, nilCheckD, hrd, hne, hne1]
      refine (Op_sp (ctn line) k _ (by simp [h31]) (by unfold Gl at hgl ⊢; simp [hg3]; exact hgl)).mono ?_
      rintro _ h4 ⟨rfl, rfl⟩
      have hgg : ∀ g, h.next + 1 ≤ g → g < h3.next → g ≠ h3.next ∧ g ≠ h3.next + 1 ∧ g ≠ h.next := fun g q1 q2 => ⟨by omega, by omega, by omega⟩
      have hbb : ∀ b, b < h.next → b ≠ h3.next ∧ b ≠ h3.next + 1 ∧ b ≠ h.next := fun g q => ⟨by omega, by omega, by omega⟩
      by_cases c35 : (bt (ctn line) k).toNat = 35
      · have hst : rstep (ctn line) (lfOf line) k mk = some ([⟨53, k, (ctn line).length, [], false, false⟩], (ctn line).length, mk) := by unfold rstep; rw [if_neg (by omega), hb, if_neg (by decide), if_pos c35]
        simp [h31, g10, g8, nilCheckD, hrd, hne, hne1, hne2, hix, eq_true c35, hv, zerosD, List.range, List.range.loop]
        refine (hsl.of_get (by simp <;> omega) (fun g q1 q2 => by obtain ⟨e1, e2, e3⟩ := hgg g q1 q2; simp [e1, e2, e3])).app (by simp [h31]) (by simp <;> omega) (by rfl) (by decide) (by simp) (by omega) (by decide) (.inl rfl) ?_
        rintro v' h5 hs' hF
        simp [hF.one, f2]
        exact done _ h5 _ v' _ _ mk hst hyk (by omega) (by simp [f2]) (by simp) hs' hF (by simp [hne, hne1, hrd]) (fun b hb => by obtain ⟨e1, e2, e3⟩ := hbb b hb; simp [e1, e2, e3]) (by simp <;> omega)
      · by_cases ho : opAt (ctn line) k = 0
        · simp [h31, g10, g8, nilCheckD, hrd, hne, hne1, hne2, hix, c35, ho]
          refine (join_sp (ctn line) (lfOf line) k h.next hyk (by omega) _ (by simp [h31]) (by unfold Rd; simp [hne]; exact hrd)).mono ?_
          rintro _ h4 ⟨rfl, rfl⟩
          cases hj : joinAt (ctn line) (lfOf line) k with
          | true =>
            have hlf : lfOf line = true := by unfold joinAt at hj; simp at hj; exact hj.1.1
            have hll := ctn_lf line
            rw [hlf] at hll
            have hll2 : (line.length : Int) = ((ctn line).length : Int) + 1 := by simp at hll; omega
            have hst : rstep (ctn line) (lfOf line) k mk = some ([⟨54, k, (ctn line).length + 1, [], false, false⟩], (ctn line).length + 1, mk) := by unfold rstep; rw [if_neg (by omega), hb, if_neg (by decide), if_neg c35, if_neg (by omega), if_pos hj]
            simp [h31, g10, g8, g0, nilCheckD, hrd, hne, hne1, hne2, hv, hll2, zerosD, List.range, List.range.loop]
            refine (hsl.of_get (by simp <;> omega) (fun g q1 q2 => by obtain ⟨e1, e2, e3⟩ := hgg g q1 q2; simp [e1, e2, e3])).app (by simp [h31]) (by simp <;> omega) (by rfl) (by decide) (by simp) (by omega) (by decide) (.inl rfl) ?_
            rintro v' h5 hs' hF
            simp [hF.one, f2]
            exact done _ h5 _ v' _ _ mk hst hyk (by omega) (by simp [f2]) (by simp) hs' hF (by simp [hne, hne1, hrd]) (fun b hb => by obtain ⟨e1, e2, e3⟩ := hbb b hb; simp [e1, e2, e3]) (by simp <;> omega)
          | false =>
            have hns : stopAt (ctn line) (lfOf line) k = false := by unfold stopAt; simp [hb, ho, hj]; omega
            have hst : rstep (ctn line) (lfOf line) k mk = some ([(wpiece (ctn line) (lfOf line) k 0).1], (wpiece (ctn line) (lfOf line) k 0).2.2, (wpiece (ctn line) (lfOf line) k 0).2.1) := by unfold rstep; rw [if_neg (by omega), hb, if_neg (by decide), if_neg c35, if_neg (by omega), hj, if_neg (by decide)]
            have hwl := wpiece_le (ctn line) (lfOf line) k 0 (by omega)
            have hbl : (lfOf line).toNat ≤ 1 := by cases lfOf line <;> simp
            have hto := wpiece_to (ctn line) (lfOf line) k 0
            simp [h31, g10]
            refine (word_sp (ctn line) (lfOf line) k 0 h.next (by omega) (by omega) (.inl rfl) _ (by simp [h31]) (by unfold Gl at hgl ⊢; simp [hg3]; exact hgl) (by unfold Rd; simp [hne]; exact hrd) (by simp <;> omega) (by simp <;> omega)).mono ?_
            rintro _ h6 ⟨rfl, hR6, h61, hn6, ho6⟩
            generalize wpiece (ctn line) (lfOf line) k 0 = w at hst hwl hto hR6 ⊢
            obtain ⟨⟨kd, fm, to, tx, rw', wh'⟩, m', k'⟩ := w
            simp only at hwl hto hR6 hst
            subst hto
            have hpg := ho6 h3.next (by simp) (by omega)
            simp at hpg hn6
            unfold Rd at hR6
            have hn7 : h.next ≠ h6.next := by omega
            have hn8 : h3.next ≠ h6.next := by omega
            have hn9 : h.next ≠ h6.next + 1 := by omega
            have hsl6 : SlG none 6 (h.next + 1) h6 v (encs acc) acc.length := hsl.of_get (by omega) fun g q1 q2 => by
              have e1 := ho6 g (by simp; omega) (by omega)
              have e2 : g ≠ h3.next := by omega
              simpa [e2] using e1
            have hgg6 : ∀ g, h.next + 1 ≤ g → g < h6.next → g ≠ h6.next := fun g q1 q2 => by omega
            have ho7 : ∀ b, b < h.next → h6.get b = h3.get b := fun b hb => by
              have e1 := ho6 b (by simp; omega) (by omega)
              have e2 : b ≠ h3.next := by omega
              simpa [e2] using e1
            simp [h61, g10, encP, hpg, nilCheckD, hR6, hne, hne1, hne2, hn7, hn8, hn9, hv, zerosD, List.range, List.range.loop]
            have ho8 : ∀ g, h.next + 1 ≤ g → g < h3.next → h6.get g = h3.get g := fun g q1 q2 => by
              have e1 := ho6 g (by simp; omega) (by omega)
              have e2 : g ≠ h3.next := by omega
              simpa [e2] using e1
            refine (hsl.of_get (by simp <;> omega) (fun g q1 q2 => (by
              have e1 : g ≠ h3.next := by omega
              have e2 : g ≠ h6.next := by omega
              simp [e1, e2]; exact ho8 g q1 q2))).app (by simp [h61]) (by simp <;> omega) (by rfl) (by decide) (by simp) (by omega) (by decide) (.inl rfl) ?_
            rintro v' h5 hs' hF
            simp [hF.one]
            exact done _ h5 _ v' ⟨kd, fm, to, tx, rw', wh'⟩ to m' hst hyk (by omega) (by simp) (by simp) hs' hF (by simp [hne, hn7, hR6]) (fun b hb => by
              have e1 : b ≠ h3.next := by omega
              have e2 : b ≠ h6.next := by omega
              simp [e1, e2]; exact ho7 b hb) (by simp <;> omega)
        · have ho2 : 0 < opAt (ctn line) k := by omega
          have hol : k + opAt (ctn line) k ≤ (ctn line).length := opAt_le _ _ (by omega)
          have hw3 := wrap_add (a := k) (b := opAt (ctn line) k) (by omega)
          have hst : rstep (ctn line) (lfOf line) k mk = some ([⟨52, k, k + opAt (ctn line) k, [], false, false⟩], k + opAt (ctn line) k, mk) := by unfold rstep; rw [if_neg (by omega), hb, if_neg (by decide), if_neg c35, if_pos ho]
          simp [h31, g10, g8, nilCheckD, hrd, hne, hne1, hne2, hix, c35, ho2]
          refine ⟨laxW_of [(4, 11)] (by kernel_rfl) ?_, ?_⟩
          · simp [LaxP, h31, g10, nilCheckD, hrd, hne, hne1, hne2]
          · simp [h31, g10, g8, nilCheckD, hrd, hne, hne1, hne2, hw3, hv, zerosD, List.range, List.range.loop]
            refine (hsl.of_get (by simp <;> omega) (fun g q1 q2 => by obtain ⟨e1, e2, e3⟩ := hgg g q1 q2; simp [e1, e2, e3])).app (by simp [h31]) (by simp <;> omega) (by rfl) (by decide) (by simp) (by omega) (by decide) (.inl rfl) ?_
            rintro v' h5 hs' hF
            simp [hF.one, f2]
            exact done _ h5 _ v' _ _ mk hst hyk (by omega) (by simp [f2]) (by simp) hs' hF (by simp [hne, hne1, hrd]) (fun b hb => by obtain ⟨e1, e2, e3⟩ := hbb b hb; simp [e1, e2, e3]) (by simp <;> omega)
  · have hst : rstep (ctn line) (lfOf line) k mk = none := by unfold rstep; rw [if_pos (by omega)]
    simp [h31, g10, hyk, hv, f2]
    have htt2 : tot = (acc, mk) := hw.symm.trans (rrun_none hst acc)
    rw [htt2]
    exact ⟨v, ⟨rfl, rfl⟩, hsl.of_base (by omega), ⟨h31, by omega, st.old⟩⟩
end Go.Dm
