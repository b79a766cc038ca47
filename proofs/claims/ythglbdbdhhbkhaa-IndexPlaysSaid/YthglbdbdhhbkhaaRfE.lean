/- The law IndexPlays, by the machine D. -/
import Derived.Test.YthglbdbdhhbkhaaRfD
import Derived.Test.YthglbdbdhhbkhaaIxH
set_option linter.unusedVariables false
set_option linter.unusedSimpArgs false
namespace Go.Dm
open Go.Proofs
theorem run_len (l : List Ac) : ∀ {L : List En}, Ris L → (runL L l).length ≤ L.length + l.length := by
  induction l with
  | nil => intro L _; exact Nat.le_add_right ..
  | cons a l ih =>
    intro L r
    have h1 := ih (act_ris r a)
    have h2 : (actL L a).length ≤ L.length + 1 := by
      unfold actL
      split
      · omega
      · split <;> exact putG_len _ r _
    show (runL (actL L a) l).length ≤ _
    simp only [List.length_cons]
    omega
set_option maxRecDepth 100000 in
set_option maxHeartbeats 40000000 in
theorem law_Plays (v : Value) (l : List Ac) (hml : ∀ a ∈ l, ∀ s ∈ a.d, s.length ≤ maxLen) (lb : List UInt8) (nq : Int) (h : H) (h1 : h.one = []) (hr : RdA h v l) : CallW E0 X0 (.fn 4) [v, str lb, .int .i64 nq] h (fun r _ => r = .bool true) := by
  refine CallW.body efn4 rfl (xo (by decide) ..) rfl [27] (by kernel_rfl) ?_
  obtain ⟨a, cap, rfl⟩ := hr.sl
  simp [Try.f4, h1]
  refine (great_sp _ l h h1 hr).mono ?_
  rintro _ _ ⟨rfl, rfl⟩
  simp [h1]
  cases hg : greatB l with
  | true =>
    simp [h1]
    refine (wakes_sp _ h1).mono ?_
    rintro _ h2 ⟨rfl, f2⟩
    simp [f2.one]
  | false =>
    have hg' : ¬ (100 < l.length ∨ 600 < totA l) := by unfold greatB at hg; simpa using hg
    simp [h1]
    refine (New_sp _ h1).mono ?_
    rintro _ h2 ⟨xb, em, dm, mm, cm, rfl, repx, f2, lx, le, ld, lm, lc⟩
    simp [f2.one]
    rename_i h0
    obtain ⟨h3, hh3⟩ : ∃ h3, h3 = h2.nw (.cells [.slice none 0 0] 0 true 0 none) := ⟨_, rfl⟩
    rw [← hh3]
    have f3 : Fr h2.next h2 h3 := by rw [hh3]; exact (Fr.refl f2.one).nw (Nat.le_refl _) _
    have w3 : h3.get h2.next = some (.cells [.slice none 0 0] 0 true 0 none) := by rw [hh3]; simp
    have n3 : h3.next = h2.next + 1 := by rw [hh3]; rfl
    clear hh3
    have n2 := f2.next
    obtain ⟨wb, hwb⟩ : ∃ wb, wb = h2.next := ⟨_, rfl⟩
    rw [← hwb] at w3 ⊢
    have hxw : xb ≠ wb := by have := repx.xlt; omega
    have rr3 : RRep h3 wb [] (fun b => b < h3.next) := ⟨⟨_, w3, [], rfl, (fun t ht => by cases ht), .inl ⟨rfl, rfl⟩⟩, by omega, by omega⟩
    refine wpd_loop (fun (i : Nat) fr h' => fr.get 9 = some (.int .i64 (i : Int)) ∧ i ≤ l.length ∧ Fr h0.next h0 h' ∧ (∃ f, Rep h' xb em dm mm cm (runL [] (l.take i)) f) ∧ RRep h' wb (runL [] (l.take i)) (fun b => b < h'.next)) (fun i => l.length - i) 0 ⟨by simp, by simp, f2.trans (f3.mono n2), ⟨_, repx.fr f3⟩, rr3⟩ ?_
    rintro i fr h' ⟨g9, hile, fh, ⟨f, rep⟩, rr⟩ hf
    have g0 := hf 0 rfl
    have g1 := hf 1 rfl
    have g2 := hf 2 rfl
    have g7 := hf 7 rfl
    have g8 := hf 8 rfl
    simp at g0 g1 g2 g7 g8
    have nh := fh.next
    have ht0 : ∀ j, totL (runL [] (l.take j)) ≤ totA l := fun j => by
      have h1 := run_tot (L := []) List.Pairwise.nil (l.take j)
      have h2 : totA (l.take j) ≤ totA l := by
        unfold totA
        rw [List.map_take]
        exact sum_take _ _
      have h3 : totL ([] : List En) = 0 := rfl
      omega
    have hl0 : ∀ j, (runL [] (l.take j)).length ≤ 100 := fun j => by
      have h1 := run_len (l.take j) (L := []) List.Pairwise.nil
      simp only [List.length_take, List.length_nil] at h1
      omega
    by_cases hi : i < l.length
    · have hii : (i : Int) < l.length := by omega
      have wi : IntKind.i64.wrap ((i : Int) + 1) = ((i + 1 : Nat) : Int) := by rw [wrap_i64 (by omega) (by omega)]; omega
      have htk := totA_take hi
      have hta := totA_mem (List.getElem_mem hi)
      have hrt := run_take [] hi
      have hris : Ris (runL [] (l.take i)) := rep.ris
      have hl1 := ht0 i
      have hl2 := ht0 (i + 1)
      have hk1 := hl0 i
      have hk2 := hl0 (i + 1)
      obtain ⟨L1, hL1⟩ : ∃ L1, L1 = runL [] (l.take i) := ⟨_, rfl⟩
      obtain ⟨L2, hL2⟩ : ∃ L2, L2 = actL L1 l[i] := ⟨_, rfl⟩
      rw [← hL1] at rep rr hris hl1 hk1 hrt
      rw [← hL2] at hrt
      rw [hrt] at hl2 hk2
      obtain ⟨b, cap2, c, st, own, fz, ty, dv, mv, e, e2, e3, rd, rm, e4⟩ := (hr.fr fh).at hi
      cases e
      obtain ⟨c0, c1, c2, c3, c4⟩ := four_at e3
      obtain ⟨a1, k1, rfl⟩ := rd.sl
      obtain ⟨a2, k2, rfl⟩ := rm.sl
      iterate 2 ((repeat rw [wpd_seq]); simp [-wpd_seq, g0, g9, fh.one, hi, hii, e2, e3, c4])
      rw [wpd_seq]
      simp [-wpd_seq, g0, g9, fh.one, hi, hii, e2, e3, c4]
      obtain ⟨h4, hh4⟩ : ∃ h4, h4 = (h'.nw (.cells [.int .i64 0, .int .i64 0, .slice none 0 0, .slice none 0 0] 0 true 0 none)).put h'.next (.cells [.int .i64 l[i].w, .int .i64 l[i].n, .slice a1 l[i].d.length k1, .slice a2 l[i].m.length k2] 0 true 0 none) := ⟨_, rfl⟩
      rw [← hh4]
      have f4 : Fr h'.next h' h4 := by rw [hh4]; exact ((Fr.refl fh.one).nw (Nat.le_refl _) _).put (Nat.le_refl _) _
      have p4 : h4.get h'.next = some (.cells [.int .i64 l[i].w, .int .i64 l[i].n, .slice a1 l[i].d.length k1, .slice a2 l[i].m.length k2] 0 true 0 none) := by rw [hh4]; simp
      have n4 : h4.next = h'.next + 1 := by rw [hh4]; rfl
      clear hh4
      have fh4 : Fr h0.next h0 h4 := fh.trans (f4.mono nh)
      have rep4 := rep.fr f4
      have rr4 := rr.fr f4
      have rd4 := rd.fr f4
      have rm4 := rm.fr f4
      iterate 2 (rw [wpd_seq]; simp [-wpd_seq, f4.one])
      refine wpd_cut (fun fr' h9 => ∃ va vb f', fr'.get 11 = some va ∧ fr'.get 12 = some vb ∧ fr'.get 13 = some (.int .i64 (actE l[i])) ∧ fr'.get 14 = some (.int .i64 (actE l[i])) ∧ RdS h9 va (toldL L1 L2) ∧ RdS h9 vb (toldL L1 L2) ∧ Rep h9 xb em dm mm cm L2 f' ∧ RRep h9 wb L2 (fun b => b < h9.next) ∧ Fr h0.next h0 h9) ?_ ?_
      · by_cases hw0 : l[i].w = 0
        · have hLL : L2 = if l[i].n < 0 then L1 else putL L1 l[i].n (riseL []) (riseL []) := by
            rw [hL2, actL, riseL_nil]
            by_cases hn : l[i].n < 0
            · rw [if_pos hn, if_pos hn]
            · rw [if_neg hn, if_neg hn, if_pos hw0]
          simp [f4.one, p4, hw0, g7]
          refine (Drop_done xb em dm mm cm L1 f l[i] hw0 h4 f4.one rep4 (by omega)).mono ?_
          rintro _ h5 ⟨rv, f', rfl, rdT, rep5, _, k5, n5, o5⟩
          rw [← hL2] at rdT rep5
          have rr5 := RRep.keepx rep4 rr4 n5 k5
          have p5 : h5.get h'.next = _ := (k5 h'.next (by omega) (by have := rep.elt; omega) (by have := rep.dlt; omega) (by have := rep.mlt; omega) (by have := rep.clt; omega)).trans p4
          simp [o5, p5, g8]
          refine (RPut_all wb L1 _ l[i].n _ _ [] [] h5 o5 rr5 hris (rdn h5) (rdn h5) (by simp; omega) (by omega)).mono ?_
          rintro _ h6 ⟨rv2, L', hL', rfl, rdT2, rr6, k6, n6, o6⟩
          rw [← hLL] at hL'
          subst hL'
          obtain ⟨lv5, q1, q2⟩ := rr5.cell
          obtain ⟨lv6, q3, q4⟩ := rr6.cell
          simp [o6, actE]
          refine ⟨rdT.keepw q1 q2 q3 n6 k6, rdT2.1, ⟨f', rep5.keepw rr5 hxw n6 k6⟩, rr6.of_get (Nat.le_refl _) (fun _ _ _ _ _ _ => rfl) (fun b hb => ?_), ⟨o6, by omega, fun b hb => ?_⟩⟩
          · rcases hb with hb | hb
            · omega
            · exact hb.2
          · rw [k6 b (by omega) (by omega), k5 b (by omega) (by omega) (by omega) (by omega) (by omega)]
            exact fh4.get b hb
        · have hLL : L2 = if l[i].n < 0 then L1 else putL L1 l[i].n (riseL l[i].d) (riseL l[i].m) := by
            rw [hL2, actL]
            by_cases hn : l[i].n < 0
            · rw [if_pos hn, if_pos hn]
            · rw [if_neg hn, if_neg hn, if_neg hw0]
          simp [-appendD_eq, f4.one, p4, hw0]
          refine app_gath (B := h4.next) (O := []) (X := l[i].d) (.inl ⟨rfl, rfl⟩) (src_rd rd4) f4.one (Nat.le_refl _) (by simp; omega) ?_
          intro vd h5 gd f5 n5' k5 b5
          rw [List.nil_append] at gd
          have n5 := f5.next
          have p5 := (f5.get h'.next (by omega)).trans p4
          simp [-appendD_eq, f5.one, p5]
          refine app_gath (B := h5.next) (O := []) (X := l[i].m) (.inl ⟨rfl, rfl⟩) (src_rd (rm4.fr f5)) f5.one (Nat.le_refl _) (by simp; omega) ?_
          intro vm h6 gm f6 n6' k6 b6
          rw [List.nil_append] at gm
          have n6 := f6.next
          have p6 := (f6.get h'.next (by omega)).trans p5
          have rep6 := (rep4.fr f5).fr f6
          have rr6 := (rr4.fr f5).fr f6
          have gd6 : Gath h4.next h6 vd l[i].d := gd.of_get n6 fun g _ hg => f6.get g hg
          simp [-appendD_eq, f6.one, p6, g7]
          refine (Put_done xb em dm mm cm L1 f l[i] hw0 vd vm h6 f6.one rep6 gd6.rd gm.rd (by omega) (hml l[i] (List.getElem_mem hi))).mono ?_
          rintro _ h7 ⟨rv, f', rfl, rdT, rep7, hown, k7, n7, o7⟩
          rw [← hL2] at rdT rep7
          have rr7 := RRep.keepx rep6 rr6 n7 k7
          have p7 := (k7 h'.next (by omega) (by have := rep.elt; omega) (by have := rep.dlt; omega) (by have := rep.mlt; omega) (by have := rep.clt; omega)).trans p6
          have rdD7 := ((rd4.fr f5).fr f6).keep rep6 n7 k7
          have rmD7 := ((rm4.fr f5).fr f6).keep rep6 n7 k7
          have rvd7 := gd6.rd.keep rep6 n7 k7
          have rvm7 := gm.rd.keep rep6 n7 k7
          simp [o7, p7, g8]
          refine (RPut_all wb L1 _ l[i].n _ _ l[i].d l[i].m h7 o7 rr7 hris rdD7 rmD7 (by omega) (by omega)).mono ?_
          rintro _ h8 ⟨rv2, L', hL', rfl, rdT2, rr8, k8, n8, o8⟩
          rw [← hLL] at hL'
          subst hL'
          obtain ⟨lv7, q1, q2⟩ := rr7.cell
          obtain ⟨lv8, q3, q4⟩ := rr8.cell
          have rep8 := rep7.keepw rr7 hxw n8 k8
          have hwl := rr.lt
          have p8 := (k8 h'.next (by omega) (by omega)).trans p7
          have rdD8 := rdD7.keepw q1 q2 q3 n8 k8
          have rmD8 := rmD7.keepw q1 q2 q3 n8 k8
          have rvd8 := rvd7.keepw q1 q2 q3 n8 k8
          have rvm8 := rvm7.keepw q1 q2 q3 n8 k8
          simp [o8, p8]
          refine (Same_sp vd _ l[i].d l[i].d (by omega) (by omega) h8 o8 rvd8 rdD8).mono ?_
          rintro _ h8 ⟨rfl, rfl⟩
          simp [o8, p8]
          refine (Same_sp vm _ l[i].m l[i].m (by omega) (by omega) h8 o8 rvm8 rmD8).mono ?_
          rintro _ h8 ⟨rfl, rfl⟩
          have fh8 : Fr h0.next h0 h8 := ⟨o8, by omega, fun b hb => by
            rw [k8 b (by omega) (by omega), k7 b (by omega) (by omega) (by omega) (by omega) (by omega), f6.get b (by omega), f5.get b (by omega)]
            exact fh4.get b hb⟩
          have rdTa := rdT.keepw q1 q2 q3 n8 k8
          have rr8b : RRep h8 wb L' (fun b => (b < h4.next ∨ h7.next ≤ b) ∧ b < h8.next) := rr8.bnd.of_get (Nat.le_refl _) (fun _ _ _ _ _ _ => rfl) (fun b hb => ⟨hb.1.imp (fun q => by omega) (fun q => q.1), hb.2⟩)
          simp [o8]
          rcases gd6 with ⟨rfl, e0⟩ | ⟨e0, g, cpd, cd, rfl, s2, s3, s4, s5, s6, s7⟩
          · refine wpd_loop (fun (k : Nat) fr2 h9 => k = 0 ∧ fr2.get 17 = some (.int .i64 0) ∧ h9 = h8) (fun k => k) 0 ⟨rfl, by simp, rfl⟩ ?_
            rintro k fr2 h8 ⟨rfl, j17, rfl⟩ hf2
            have j11 := hf2 11 rfl
            have j12 := hf2 12 rfl
            have j13 := hf2 13 rfl
            have j14 := hf2 14 rfl
            have j15 := hf2 15 rfl
            simp at j11 j12 j13 j14 j15
            simp [j11, j12, j13, j14, j15, j17, o8, actE]
            exact ⟨rdTa, rdT2.1, ⟨f', rep8⟩, rr8b.of_get (Nat.le_refl _) (fun _ _ _ _ _ _ => rfl) (fun b hb => hb.2), fh8⟩
          · have g8' : h8.get g = some (.cells cd 1 true 0 none) := by
              have e7 : h7.get g = h6.get g := k7 g s4 (by rintro rfl; exact rep6.e.nc _ _ _ _ _ s5) (by rintro rfl; exact rep6.d.nc _ _ _ _ _ s5) (by rintro rfl; exact rep6.m.nc _ _ _ _ _ s5) (by rintro rfl; exact rep6.c.nc _ _ _ _ _ s5)
              rw [k8 g (by omega) (by omega), e7]
              exact s5
            have hcd : l[i].d.length ≤ cd.length := by omega
            refine wpd_loop (fun (k : Nat) fr2 h9 => fr2.get 17 = some (.int .i64 (k : Int)) ∧ k ≤ l[i].d.length ∧ h9.next = h8.next ∧ h9.one = [] ∧ (∀ b, b ≠ g → h9.get b = h8.get b) ∧ ∃ c9, h9.get g = some (.cells c9 1 true 0 none) ∧ c9.length = cd.length) (fun k => l[i].d.length - k) 0 ⟨by simp, by simp, rfl, o8, fun _ _ => rfl, cd, g8', rfl⟩ ?_
            rintro k fr2 h9 ⟨j17, hkl, n9, o9, k9, c9, q9, l9⟩ hf2
            have j11 := hf2 11 rfl
            have j12 := hf2 12 rfl
            have j13 := hf2 13 rfl
            have j14 := hf2 14 rfl
            have j15 := hf2 15 rfl
            simp at j11 j12 j13 j14 j15
            by_cases hk : k < l[i].d.length
            · have hki : (k : Int) < l[i].d.length := by omega
              have wk : IntKind.i64.wrap ((k : Int) + 1) = ((k + 1 : Nat) : Int) := by rw [wrap_i64 (by omega) (by omega)]; omega
              have hkc : k < c9.length := by omega
              have hkc1 : k + 1 ≤ c9.length := by omega
              simp [-Int.natCast_add, j15, j17, o9, hk, hki, q9, wk, hkc, hkc1]
              exact ⟨k + 1, by omega, rfl, by omega, n9, fun b hb => by rw [if_neg hb]; exact k9 b hb, l9⟩
            · have hki : ¬ (k : Int) < l[i].d.length := by omega
              simp [j11, j12, j13, j14, j15, j17, o9, hk, hki, actE]
              refine ⟨rdTa.keepz hown.2 g (by omega) (by omega) k9, rdT2.1.keepz rdT2.2 g (by omega) (by omega) k9, ⟨f', rep8.keepz g g8' (by have := rep.xlt; omega) (fun q => ?_) (by omega) fun b _ hb => k9 b hb⟩, rr8b.of_get (by omega) (fun b _ _ hb _ _ => k9 b (by rintro rfl; omega)) (fun b hb => by have := hb.2; omega), ⟨o9, by have := fh8.next; omega, fun b hb => (k9 b (by omega)).trans (fh8.get b hb)⟩⟩
              rcases hown.1 q with o | o
              · rw [o]
                exact (rep.own q).wid fun b hb => by have := hb.1; omega
              · exact o.wid fun b hb => by omega
      rintro fr4 h9 hf4 ⟨va, vb, f', j11, j12, j13, j14, rda, rdb, rep9, rr9, fh9⟩
      have j0 := hf4 0 rfl
      have j1 := hf4 1 rfl
      have j2 := hf4 2 rfl
      have j7 := hf4 7 rfl
      have j8 := hf4 8 rfl
      have j9 := hf4 9 rfl
      simp [g0, g1, g2, g7, g8, g9] at j0 j1 j2 j7 j8 j9
      clear hf4 hf
      have n9 := fh9.next
      have kln : (knownL L2).length < 2 ^ 40 := by
        have h1 : (knownL L2).length ≤ (L2.flatMap (·.d)).length := riseL_len _
        have h2 := flat_len L2
        omega
      have wln : (whoP L2 lb).length < 2 ^ 40 := by have := who_len L2 lb; omega
      have tln : (toldL L1 L2).length < 2 ^ 40 := by
        have h1 : (toldL L1 L2).length ≤ (knownL L1 ++ knownL L2).length := Nat.le_trans (riseL_len _) (List.length_filter_le ..)
        have h2 : (knownL L1).length ≤ (L1.flatMap (·.d)).length := riseL_len _
        have h3 : (knownL L2).length ≤ (L2.flatMap (·.d)).length := riseL_len _
        have h4 := flat_len L1
        have h5 := flat_len L2
        rw [List.length_append] at h1
        omega
      simp [j1, j2, j7, fh9.one]
      refine (Has_sp xb em dm mm cm L2 f' nq lb h9 fh9.one rep9).mono ?_
      rintro _ h10 ⟨rfl, f10⟩
      have rr10 := rr9.fr f10
      have n10 := f10.next
      simp [j1, j2, j8, f10.one]
      refine (RHas_sp wb L2 _ nq lb h10 f10.one rr10 (by omega) (by omega)).mono ?_
      rintro _ h10 ⟨rfl, rfl⟩
      simp [j7, f10.one]
      refine (Known_sp xb em dm mm cm L2 f' h10 f10.one (rep9.fr f10) (by omega)).mono ?_
      rintro v22 h11 ⟨ga11, f11⟩
      have n11 := f11.next
      have rep11 := (rep9.fr f10).fr f11
      have rr11 := rr10.fr f11
      simp [f11.one, j11, j12, j13, j14]
      have ra11 := (rda.fr f10).fr f11
      have rb11 := (rdb.fr f10).fr f11
      obtain ⟨lv11, q11, ql11⟩ := rr11.w
      obtain ⟨aw, cw, rfl⟩ := ql11.sl
      refine ⟨laxW_of [(51, 47)] (by kernel_rfl) ?_, ?_⟩
      · simp [LaxP, j11, j12, j13, j14, f11.one]
        refine (Same_sp va vb _ _ tln tln h11 f11.one ra11 rb11).mono ?_
        rintro _ h11 ⟨rfl, rfl⟩
        simp [f11.one, j8]
        refine (RKnown_sp wb L2 _ h11 f11.one rr11 (by omega) (by omega)).mono ?_
        rintro v12 h12 ⟨ga12, f12⟩
        have n12 := f12.next
        have rep12 := rep11.fr f12
        have rr12 := rr11.fr f12
        simp [f12.one]
        refine (Same_sp v22 v12 _ _ kln kln h12 f12.one (ga11.rd.fr f12) ga12.rd).mono ?_
        rintro _ h12 ⟨rfl, rfl⟩
        simp [f12.one, j7, j1]
        refine (Defined_sp xb em dm mm cm L2 f' lb h12 f12.one rep12).mono ?_
        rintro _ h12 ⟨rfl, rfl⟩
        simp [f12.one, j8, j1]
        refine (RDefined_sp wb L2 _ lb h12 f12.one rr12 (by omega) (by omega)).mono ?_
        rintro _ h12 ⟨rfl, rfl⟩
        simp [f12.one, j7, j1]
        refine (Who_sp xb em dm mm cm L2 f' lb h12 f12.one rep12 (by omega)).mono ?_
        rintro v13 h13 ⟨ri13, f13⟩
        have n13 := f13.next
        have rep13 := rep12.fr f13
        have rr13 := rr12.fr f13
        simp [f13.one, j8, j1]
        refine (RWho_sp wb L2 _ lb h13 f13.one rr13 (by omega) (by omega)).mono ?_
        rintro v14 h14 ⟨ri14, f14⟩
        have n14 := f14.next
        have rep14 := rep13.fr f14
        have rr14 := rr13.fr f14
        simp [f14.one]
        refine (Ints_sp v13 v14 _ _ wln wln h14 f14.one (ri13.fr f14) ri14).mono ?_
        rintro _ h14 ⟨rfl, rfl⟩
        have q14 := (f14.get wb rr13.lt).trans ((f13.get wb rr12.lt).trans ((f12.get wb rr11.lt).trans q11))
        simp [f14.one, j7, j8]
        have hev : ∀ (x : Option Addr) (p q : Nat), eqv (.slice x p q) (.slice x p q) = true := fun x p q => by simp [eqv, eqv0]
        refine (Len_sp xb em dm mm cm L2 f' h14 f14.one rep14).mono ?_
        rintro _ h14 ⟨rfl, rfl⟩
        simp [f14.one, j8, q14, LaxG_load, hev, j11, j12, j13, j14, f11.one]
        have q14a := q14
        clear q14 ri13 ri14 ga12
        refine (Same_sp va vb _ _ tln tln h11 f11.one ra11 rb11).mono ?_
        rintro _ h11 ⟨rfl, rfl⟩
        simp [f11.one, j8, q14a]
        refine (RKnown_sp wb L2 _ h11 f11.one rr11 (by omega) (by omega)).mono ?_
        rintro v12 h12 ⟨ga12, f12⟩
        have n12 := f12.next
        have rep12 := rep11.fr f12
        have rr12 := rr11.fr f12
        simp [f12.one]
        refine (Same_sp v22 v12 _ _ kln kln h12 f12.one (ga11.rd.fr f12) ga12.rd).mono ?_
        rintro _ h12 ⟨rfl, rfl⟩
        simp [f12.one, j7, j1]
        refine (Defined_sp xb em dm mm cm L2 f' lb h12 f12.one rep12).mono ?_
        rintro _ h12 ⟨rfl, rfl⟩
        simp [f12.one, j8, j1]
        refine (RDefined_sp wb L2 _ lb h12 f12.one rr12 (by omega) (by omega)).mono ?_
        rintro _ h12 ⟨rfl, rfl⟩
        simp [f12.one, j7, j1]
        refine (Who_sp xb em dm mm cm L2 f' lb h12 f12.one rep12 (by omega)).mono ?_
        rintro v13 h13 ⟨ri13, f13⟩
        have n13 := f13.next
        have rep13 := rep12.fr f13
        have rr13 := rr12.fr f13
        simp [f13.one, j8, j1]
        refine (RWho_sp wb L2 _ lb h13 f13.one rr13 (by omega) (by omega)).mono ?_
        rintro v14 h14 ⟨ri14, f14⟩
        have n14 := f14.next
        have rep14 := rep13.fr f14
        have rr14 := rr13.fr f14
        simp [f14.one]
        refine (Ints_sp v13 v14 _ _ wln wln h14 f14.one (ri13.fr f14) ri14).mono ?_
        rintro _ h14 ⟨rfl, rfl⟩
        have q14 := (f14.get wb rr13.lt).trans ((f13.get wb rr12.lt).trans ((f12.get wb rr11.lt).trans q11))
        simp [f14.one, j7, j8]
        refine ⟨.slice aw L2.length cw, by simp [q14a], .slice aw L2.length cw, by simp [q14], hev aw L2.length cw⟩
      refine (Same_sp va vb _ _ tln tln h11 f11.one ra11 rb11).mono ?_
      rintro _ h11 ⟨rfl, rfl⟩
      simp [f11.one, j8]
      refine (RKnown_sp wb L2 _ h11 f11.one rr11 (by omega) (by omega)).mono ?_
      rintro v12 h12 ⟨ga12, f12⟩
      have n12 := f12.next
      have rep12 := rep11.fr f12
      have rr12 := rr11.fr f12
      simp [f12.one]
      refine (Same_sp v22 v12 _ _ kln kln h12 f12.one (ga11.rd.fr f12) ga12.rd).mono ?_
      rintro _ h12 ⟨rfl, rfl⟩
      simp [f12.one, j7, j1]
      refine (Defined_sp xb em dm mm cm L2 f' lb h12 f12.one rep12).mono ?_
      rintro _ h12 ⟨rfl, rfl⟩
      simp [f12.one, j8, j1]
      refine (RDefined_sp wb L2 _ lb h12 f12.one rr12 (by omega) (by omega)).mono ?_
      rintro _ h12 ⟨rfl, rfl⟩
      simp [f12.one, j7, j1]
      refine (Who_sp xb em dm mm cm L2 f' lb h12 f12.one rep12 (by omega)).mono ?_
      rintro v13 h13 ⟨ri13, f13⟩
      have n13 := f13.next
      have rep13 := rep12.fr f13
      have rr13 := rr12.fr f13
      simp [f13.one, j8, j1]
      refine (RWho_sp wb L2 _ lb h13 f13.one rr13 (by omega) (by omega)).mono ?_
      rintro v14 h14 ⟨ri14, f14⟩
      have n14 := f14.next
      have rep14 := rep13.fr f14
      have rr14 := rr13.fr f14
      simp [f14.one]
      refine (Ints_sp v13 v14 _ _ wln wln h14 f14.one (ri13.fr f14) ri14).mono ?_
      rintro _ h14 ⟨rfl, rfl⟩
      have q14 := (f14.get wb rr13.lt).trans ((f13.get wb rr12.lt).trans ((f12.get wb rr11.lt).trans q11))
      simp [f14.one, j7, j8]
      refine (Len_sp xb em dm mm cm L2 f' h14 f14.one rep14).mono ?_
      rintro _ h14 ⟨rfl, rfl⟩
      simp [f14.one, j8, q14]
      have fh14 : Fr h0.next h0 h14 := fh9.trans ((f10.mono n9).trans ((f11.mono (by omega)).trans ((f12.mono (by omega)).trans ((f13.mono (by omega)).trans (f14.mono (by omega))))))
      have wln22 : (knownL L2).length < 2 ^ 40 := kln
      have ga22 : Gath h10.next h14 v22 (knownL L2) := ga11.of_get (by omega) fun g _ hg => ((f14.get g (by omega)).trans (f13.get g (by omega))).trans (f12.get g hg)
      rcases ga22 with ⟨rfl, e0⟩ | ⟨e0, g, cpd, cd, rfl, s2, s3, s4, s5, s6, s7⟩
      · refine wpd_loop (fun (k : Nat) fr2 h15 => k = 0 ∧ fr2.get 23 = some (.int .i64 0) ∧ h15 = h14) (fun k => k) 0 ⟨rfl, by simp, rfl⟩ ?_
        rintro k fr2 h14 ⟨rfl, m23, rfl⟩ hf2
        have m22 := hf2 22 rfl
        have m9 := hf2 9 rfl
        simp [j9] at m22 m9
        simp [-Int.natCast_add, m9, m22, m23, f14.one, wi]
        exact ⟨i + 1, by omega, rfl, by omega, fh14, ⟨f', by rw [hrt]; exact rep14⟩, by rw [hrt]; exact rr14.bnd.of_get (Nat.le_refl _) (fun _ _ _ _ _ _ => rfl) (fun b hb => hb.2)⟩
      · have hcd : (knownL L2).length ≤ cd.length := by omega
        refine wpd_loop (fun (k : Nat) fr2 h15 => fr2.get 23 = some (.int .i64 (k : Int)) ∧ k ≤ (knownL L2).length ∧ h15.next = h14.next ∧ h15.one = [] ∧ (∀ b, b ≠ g → h15.get b = h14.get b) ∧ ∃ c15, h15.get g = some (.cells c15 1 true 0 none) ∧ c15.length = cd.length) (fun k => (knownL L2).length - k) 0 ⟨by simp, by simp, rfl, f14.one, fun _ _ => rfl, cd, s5, rfl⟩ ?_
        rintro k fr2 h15 ⟨m23, hkl, n15, o15, k15, c15, q15, l15⟩ hf2
        have m22 := hf2 22 rfl
        have m9 := hf2 9 rfl
        simp [j9] at m22 m9
        by_cases hk : k < (knownL L2).length
        · have hki : (k : Int) < (knownL L2).length := by omega
          have wk : IntKind.i64.wrap ((k : Int) + 1) = ((k + 1 : Nat) : Int) := by rw [wrap_i64 (by omega) (by omega)]; omega
          have hkc : k < c15.length := by omega
          have hkc1 : k + 1 ≤ c15.length := by omega
          simp [-Int.natCast_add, m22, m23, o15, hk, hki, q15, wk, hkc, hkc1]
          exact ⟨k + 1, by omega, rfl, by omega, n15, fun b hb => by rw [if_neg hb]; exact k15 b hb, l15⟩
        · have hki : ¬ (k : Int) < (knownL L2).length := by omega
          simp [-Int.natCast_add, m9, m22, m23, o15, hk, hki, wi]
          refine ⟨i + 1, by omega, rfl, by omega, ⟨o15, by have := fh14.next; omega, fun b hb => (k15 b (by omega)).trans (fh14.get b hb)⟩, ⟨f', ?_⟩, ?_⟩
          · rw [hrt]
            exact rep14.keepz g s5 (by have := rep9.xlt; omega) (fun q => (rep9.own q).wid fun b hb => by have := hb.1; omega) (by omega) fun b _ hb => k15 b hb
          · rw [hrt]
            have rrz : RRep h14 wb L2 (fun b => b < h9.next) := rr14
            exact rrz.of_get (by omega) (fun b _ _ hb _ _ => k15 b (by rintro rfl; omega)) (fun b hb => by omega)
    · have hii : ¬ (i : Int) < l.length := by omega
      obtain rfl : i = l.length := by omega
      rw [List.take_length] at rep rr
      have hT := ht0 l.length
      have hLn := hl0 l.length
      rw [List.take_length] at hT hLn
      have kln : (knownL (runL [] l)).length < 2 ^ 40 := by
        have h1 : (knownL (runL [] l)).length ≤ ((runL [] l).flatMap (·.d)).length := riseL_len _
        have h2 := flat_len (runL [] l)
        omega
      simp [g0, g7, g9, fh.one, hi, hii]
      refine (Known_sp xb em dm mm cm _ f h' fh.one rep (by omega)).mono ?_
      rintro v5 h5 ⟨ga5, f5⟩
      simp [f5.one, g8]
      refine (RKnown_sp wb _ _ h5 f5.one (rr.fr f5) (by omega) (by omega)).mono ?_
      rintro v6 h6 ⟨ga6, f6⟩
      simp [f6.one]
      refine (Same_sp v5 v6 _ _ kln kln h6 f6.one (ga5.rd.fr f6) ga6.rd).mono ?_
      rintro _ h6 ⟨rfl, rfl⟩
      simp [f6.one]
      refine (wakes_sp _ f6.one).mono ?_
      rintro _ h7 ⟨rfl, f7⟩
      simp [f7.one]
end Go.Dm
