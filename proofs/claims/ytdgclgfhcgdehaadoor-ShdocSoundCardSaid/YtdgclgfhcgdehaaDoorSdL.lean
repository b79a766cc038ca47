/- The document's answer: a line of commands. -/
import Derived.Test.YtdgclgfhcgdehaaDoorSdK
set_option linter.unusedVariables false
set_option linter.unusedSimpArgs false
namespace Go.Dm
open Go.Proofs
structure RI (B sb : Nat) (h2 : H) (line : List UInt8) (l : List Pc) (x0 : PS) (i : Nat) (x : PS) (fr : T Value) (h' : H) : Prop where
  f11 : fr.get 11 = some (.int .i64 i)
  f8 : fr.get 8 = some (.bool x.opn)
  f10 : fr.get 10 = some (.int .i64 x.fin)
  f9 : ∃ v, fr.get 9 = some v ∧ RSc B sb h' x.st v x.ev
  le : i ≤ l.length
  run : prun line (l.drop i) x = prun line l x0
  ok : x.st.ok
  wt : 0 ≤ x.st.wait ∧ x.st.wait ≤ 4
  ev : x.ev.length ≤ 2 * i
  kp : Kp B sb h2 h'
set_option maxRecDepth 100000 in
set_option maxHeartbeats 16000000 in
theorem RefScan_sp (s : ShS) (hs : s.ok) (line : List UInt8) (hl : line.length < 2 ^ 30) (h : H) (h1 : h.one = []) :
    CallW E0 X0 (.fn 11) [.agg (encS s).toArray, str line] h (fun r h' => ∃ v, r = .tuple #[v, .agg (encS (scanN s line).2).toArray] ∧ SlG none 4 h.next h' v (encEs (scanN s line).1) (scanN s line).1.length ∧ Fr h.next h h') := by
  refine CallW.body efn11 rfl rfl rfl [] (by kernel_rfl) ?_
  obtain ⟨T, hT⟩ : ∃ T, T = scanN s line := ⟨_, rfl⟩
  rw [← hT]
  have hTok : T.2.ok := hT ▸ scanN_ok hs line
  simp [Tryd.f11, h1, -wpd_seq]
  iterate 1 (rw [wpd_seq]; simp [-wpd_seq, h1])
  have hb := base_ok hs
  have hob := own_base s
  have ho := own_spec hob
  refine wpd_cut (fun fr' h' => h'.get h.next = some (.cells (encS (base s)) 0 true 0 none) ∧ h'.get (h.next + 1) = some (.cells (encS zS) 0 true 0 none) ∧ Fr h.next h h' ∧ h.next + 2 ≤ h'.next) ?_ ?_
  · obtain ⟨h2, hh2⟩ : ∃ h2, h2 = (h.nw (.cells (encS s) 0 true 0 none)).nw (.cells Tryd.zeroCells29.toList 0 true 0 none) := ⟨_, rfl⟩
    rw [← hh2]
    have b2 : h2.get h.next = some (.cells (encS s) 0 true 0 none) := by rw [hh2]; simp
    have b3 : h2.get (h.next + 1) = some (.cells (encS zS) 0 true 0 none) := by rw [hh2, zcells]; simp
    have n2 : h2.next = h.next + 2 := by rw [hh2]; rfl
    have o2 : h2.one = [] := by rw [hh2]; rfl
    have f2 : Fr h.next h h2 := by rw [hh2]; exact ((Fr.refl h1).nw (Nat.le_refl _) _).nw (by simp) _
    clear hh2
    simp [b2, o2, st_le hs, st_all hs]
    refine (RefOwn_sp s hs h2 o2).mono ?_
    rintro _ h3 ⟨rfl, f3⟩
    have b4 := (f3.get _ (by omega)).trans b2
    have b5 := (f3.get _ (by omega)).trans b3
    have n3 := f3.next
    have f4 : Fr h.next h h3 := f2.trans (f3.mono (by omega))
    cases hw : ownN s with
    | true =>
      have e : base s = s := by unfold base; rw [if_pos hw]
      simp [f3.one, e]
      exact ⟨b4, b5, f4, by omega⟩
    | false =>
      have e : base s = zS := by unfold base; rw [if_neg (by rw [hw]; decide)]
      have hz : (encS zS).length = 82 := encS_len zS_ok
      have hcv : ∀ x ∈ encS zS, cellV x = true := st_cv zS
      have hle : 82 ≤ (encS s).length := st_le hs
      simp [f3.one, e, zcells, b4, hz, hle, eq_true hcv, st_over hs zS_ok]
      exact ⟨b5, f4.put (Nat.le_refl _) _, by omega⟩
  rintro fr3 h3 hf3 ⟨b2, b3, f3, n3⟩
  have o3 := f3.one
  have p1 := hf3 1 rfl
  have p2 := hf3 2 rfl
  have p4 := hf3 4 rfl
  have p5 := hf3 5 rfl
  simp at p1 p2 p4 p5
  have hcv : ∀ x ∈ encS T.2, cellV x = true := st_cv _
  have stR : ∀ x : ShS, x.ok → setAt (encS zS) 0 (encS x) = encS x := fun x hx => st_over zS_ok hx
  have hz82 := st_le zS_ok
  rw [wpd_seq]
  by_cases hne : line = []
  · have e : T = ([], base s) := by rw [hT]; unfold scanN; rw [if_pos hne]
    subst hne
    rw [e]
    simp [p1, p2, p5, o3, b2, b3, st_le hb, st_all hb, encS_len hb, eq_true (st_cv (base s)), stR _ hb, hz82]
    exact ⟨SlG.nil .., f3.put (Nat.le_succ _) _⟩
  have hlp : 0 < line.length := List.length_pos_iff.2 hne
  have hlp2 : ¬ line.length = 0 := by omega
  (repeat rw [wpd_seq]); simp [-wpd_seq, p1, o3, hne]
  repeat rw [wpd_seq]
  by_cases hm2 : (base s).mode = 2
  · have e : T = textN (base s) line := by rw [hT]; unfold scanN; rw [if_neg hne, if_pos hm2]
    simp [p1, p2, o3, b2, st_mode hb, hm2, st_le hb, st_all hb]
    refine (RefText_sp _ hb hob hm2 line hl h3 o3).mono ?_
    rintro _ h4 ⟨v, rfl, sl, f4⟩
    rw [← e] at sl
    have b5 := (f4.get _ (by omega)).trans b3
    simp [f4.one, p5, b5, ← e, encS_len hTok, eq_true hcv, stR _ hTok, hz82, st_all hTok, st_le hTok]
    exact ⟨(sl.mono (B' := h.next + 2) (by omega) |>.put (by omega) _).mono (by omega), (f3.trans (f4.mono (by omega))).put (Nat.le_succ _) _⟩
  have e : T = piecesN (base s) line := by rw [hT]; unfold scanN; rw [if_neg hne, if_neg hm2]
  have hm2' : ¬ ((base s).mode : Int) = 2 := by omega
  (repeat rw [wpd_seq]); simp [-wpd_seq, p1, p2, o3, b2, st_mode hb, hm2, hm2']
  iterate 1 ((repeat rw [wpd_seq]); simp [-wpd_seq, p1, p2, o3, b2, st_mark hb])
  refine (RefRead_sp line 0 (base s).mark (by omega) ho.2.1 h3 o3).mono ?_
  rintro _ h2 ⟨sl, rfl, hsl, f2⟩
  have n2 := f2.next
  have c2 := (f2.get _ (by omega)).trans b2
  have c3 := (f2.get _ (by omega)).trans b3
  have hbnd := pc_bnd line (base s).mark
  have hopI := op_in line (base s).mark
  have hmk := mark_bnd line (base s).mark
  have hlen := len_bnd line (base s).mark
  obtain ⟨l, hll⟩ : ∃ l, l = (rdAt line 0 (base s).mark).1 := ⟨_, rfl⟩
  obtain ⟨mk, hmm⟩ : ∃ mk, mk = (rdAt line 0 (base s).mark).2 := ⟨_, rfl⟩
  obtain ⟨x0, hx0⟩ : ∃ x0 : PS, x0 = ⟨[], base s, decide ((base s).mode = 1), 0, false⟩ := ⟨_, rfl⟩
  have hP : T = (if mk ≠ 0 ∨ (prun line l x0).jnd = true then ((prun line l x0).ev, { (prun line l x0).st with mode := 1, mark := mk })
      else ((prun line l x0).ev ++ (if (prun line l x0).opn then [⟨2, 0, (prun line l x0).fin, 0⟩] else []) ++ docEv line (prun line l x0).st, docSt (prun line l x0).st)) := by rw [e, hll, hmm, hx0]; rfl
  rw [← hll] at hsl hbnd hlen hopI
  rw [← hmm] at hmk ⊢
  clear hll hmm e
  have b1 : (((base s).mode : Int) = 1) = ((base s).mode = 1) := by rw [eq_iff_iff]; omega
  obtain ⟨av, rfl⟩ := hsl.slice
  have o2 := f2.one
  simp [-wpd_seq, o2]
  iterate 4 ((repeat rw [wpd_seq]); simp [-wpd_seq, o2, p2, c2, st_mode hb, b1])
  have f02 : Fr h.next h h2 := f3.trans (f2.mono (by omega))
  refine wpd_loop (fun (q : Nat × PS) fr h' => RI h2.next h.next h2 line l x0 q.1 q.2 fr h') (fun q => l.length - q.1) (0, x0) ?_ ?_
  · subst hx0
    exact ⟨by simp, by simp, by simp, ⟨_, by simp, c2, SlG.nil ..⟩, Nat.zero_le _, rfl, hb, ho.1, Nat.le_refl _, Kp.refl o2⟩
  rintro ⟨i, x⟩ fr h4 st hfe
  have j1 := hfe 1 rfl
  have j2 := hfe 2 rfl
  have j5 := hfe 5 rfl
  have j6 := hfe 6 rfl
  have j7 := hfe 7 rfl
  simp [p1, p2, p5] at j1 j2 j5 j6 j7
  clear hfe
  have f11 := st.f11
  have f8 := st.f8
  have f10 := st.f10
  obtain ⟨v9, f9, x4⟩ := st.f9
  have hrun := st.run
  have hok := st.ok
  have hwt := st.wt
  have hev := st.ev
  have kp4 := st.kp
  have hil := st.le
  simp only at f11 f8 f10 f9 x4 hrun hok hwt hev kp4 hil
  clear st
  have o4 := kp4.one
  have n4 := kp4.next
  by_cases hi : i < l.length
  · have hi' : (i : Int) < l.length := by omega
    obtain ⟨p, hp⟩ : ∃ p, p = l[i] := ⟨_, rfl⟩
    have hdrop : l.drop i = p :: l.drop (i + 1) := by rw [hp]; exact List.drop_eq_getElem_cons hi
    have hpm : p ∈ l := by rw [hp]; exact List.getElem_mem ..
    have hpb := hbnd p hpm
    have hop := hopI p hpm
    rcases hsl with ⟨e, _⟩ | ⟨_, _, g, g1, g2, ea, hga⟩
    · omega
    cases ea
    have hg4 : h4.get g = some (.cells (encs l) 6 true 0 none) := (kp4.get g g2 (by omega)).trans hga
    have hmid : ((encs l).drop (i * 6)).take 6 = encP p := by
      rw [encs_split, hdrop]
      show (encP p ++ encs (l.drop (i + 1))).take 6 = _
      rw [List.take_append_of_le_length (show 6 ≤ (encP p).length from Nat.le_refl 6), List.take_of_length_le (show (encP p).length ≤ 6 from Nat.le_refl 6)]
    have hle6 : i * 6 + 6 ≤ (encs l).length := by rw [encs_length]; omega
    have hep : encP p = [.int .u8 p.kind, .int .i64 p.fm, .int .i64 p.to, str p.text, .bool p.raw, .bool p.whole] := rfl
    rw [hep] at hmid
    have w0 : IntKind.i64.wrap ((i : Int) + 1) = ((i + 1 : Nat) : Int) := wrap_succ (by omega)
    have k53 : ((p.kind : Int) = 53) = (p.kind = 53) := by rw [eq_iff_iff]; omega
    have k52 : ((p.kind : Int) = 52) = (p.kind = 52) := by rw [eq_iff_iff]; omega
    iterate 3 ((repeat rw [wpd_seq]); simp [-wpd_seq, f11, j6, hi, hi', o4, hg4, hmid, hle6])
    obtain ⟨h5, hh5⟩ : ∃ h5, h5 = (h4.nw (.cells [.int .u8 0, .int .i64 0, .int .i64 0, str [], .bool false, .bool false] 0 true 0 none)).put h4.next (.cells [.int .u8 p.kind, .int .i64 p.fm, .int .i64 p.to, str p.text, .bool p.raw, .bool p.whole] 0 true 0 none) := ⟨_, rfl⟩
    rw [← hh5]
    have o5 : h5.one = [] := by rw [hh5]; rfl
    have n5 : h5.next = h4.next + 1 := by rw [hh5]; rfl
    have b5 : h5.get h4.next = some (.cells [.int .u8 p.kind, .int .i64 p.fm, .int .i64 p.to, str p.text, .bool p.raw, .bool p.whole] 0 true 0 none) := by rw [hh5]; simp
    have f45 : Fr h4.next h4 h5 := ⟨o5, by omega, fun c hc => by rw [hh5]; simp [show ¬ c = h4.next by omega]⟩
    have x5 : RSc h2.next h.next h5 x.st v9 x.ev := x4.fr (by omega) f45
    have kp5 : Kp h2.next h.next h2 h5 := kp4.trans (Kp.of_fr f45 (by omega))
    have pn : h4.next ≠ h.next := by omega
    clear hh5
    refine wpd_cut (fun fr' h' => fr'.get 8 = some (.bool (x.opn || decide (p.kind ≠ 53))) ∧ (∃ v, fr'.get 9 = some v ∧ RSc h2.next h.next h' x.st v (x.ev ++ (if x.opn = false ∧ p.kind ≠ 53 then [⟨1, 50, p.fm, 0⟩] else []))) ∧ Kp h2.next h.next h5 h') ?_ ?_
    · cases hon : x.opn with
      | true => simp [f8, f9, hon, o5]; exact ⟨x5, Kp.refl o5⟩
      | false =>
        by_cases hk : p.kind = 53
        · simp [f8, f9, hon, hk, o5, b5]; exact ⟨x5, Kp.refl o5⟩
        · simp [f8, f9, hon, hk, o5, b5, k53, zerE, -appS_some]
          refine x5.app ⟨1, 50, p.fm, 0⟩ (by omega) (by omega) o5 (by omega) rfl ?_
          intro v' h6 x6 kp6
          simp [kp6.one]
          exact ⟨x6, kp6⟩
    rintro fr6 h6 hf6 ⟨q8, ⟨v6, q9, x6⟩, kp6⟩
    generalize hev6 : x.ev ++ (if x.opn = false ∧ p.kind ≠ 53 then [⟨1, 50, p.fm, 0⟩] else []) = ev6 at x6
    have evl : ev6.length ≤ 2 * i + 1 := by rw [← hev6]; split <;> simp <;> omega
    have q1 := hf6 1 rfl
    have q2 := hf6 2 rfl
    have q6 := hf6 6 rfl
    have q10 := hf6 10 rfl
    have q11 := hf6 11 rfl
    have q12 := hf6 12 rfl
    simp [j1, j2, j6, f10, f11] at q1 q2 q6 q10 q11 q12
    have b6 := kp6.st0 _ _ _ _ _ (by omega) pn b5
    have o6 := kp6.one
    have n6 := kp6.next
    have ft1 : (p.fm : Int) ≤ p.to := by omega
    have ft2 : (p.to : Int) ≤ line.length := by omega
    have hopT : (line.take p.to).drop p.fm = opT line p := rfl
    iterate 2 ((repeat rw [wpd_seq]); simp [-wpd_seq, q1, q12, b6, o6, ft1, ft2, hpb.1, hpb.2, hopT])
    refine wpd_cut (fun fr' h' => fr'.get 13 = some (.int .u8 (kindN line p (l.drop (i + 1)) x.st).1) ∧ RSc h2.next h.next h' (kindN line p (l.drop (i + 1)) x.st).2 v6 ev6 ∧ Kp h2.next h.next h6 h') ?_ ?_
    · by_cases hk : p.kind = 52
      · have hpre := ask_ref (hop hk)
        refine wpd_cut (fun fr' h' => fr'.get 81 = some (.bool ([60, 60].isPrefixOf (opT line p))) ∧ h' = h6) ?_ ?_
        · rw [hpre]
          by_cases o1 : opT line p = [60, 60]
          · simp [k52, hk, o1, o6]
          · by_cases o2 : opT line p = [60, 60, 45]
            · simp [k52, hk, o2, o6]
            · simp [k52, hk, o1, o2, o6]
        rintro fr7 hy hf7 ⟨r81, hyx⟩
        rw [hyx]
        clear hyx hy
        have r1 := hf7 1 rfl
        have r2 := hf7 2 rfl
        have r6 := hf7 6 rfl
        have r11 := hf7 11 rfl
        have r13 := hf7 13 rfl
        have r14 := hf7 14 rfl
        simp [q1, q2, q6, q11] at r1 r2 r6 r11 r13 r14
        cases hpr : [60, 60].isPrefixOf (opT line p) with
        | false =>
          rw [hpr] at r81
          have e1 : kindN line p (l.drop (i + 1)) x.st = (52, x.st) := by unfold kindN isAsk; simp [hk, hpr]
          simp [r81, r13, e1, hk]
          exact ⟨x6, Kp.refl o6⟩
        | true =>
          rw [hpr] at r81
          have hg6 : h6.get g = some (.cells (encs l) 6 true 0 none) := (kp6.get g g2 (by omega)).trans ((f45.get g (by omega)).trans hg4)
          obtain ⟨c6, sl6⟩ := x6
          have hwi := st_wait hok
          simp [-wpd_seq, r81]
          refine wpd_cut (fun fr' h' => fr'.get 128 = some (.bool (asksN (opT line p) (l.drop (i + 1)) x.st).isSome) ∧ h' = h6) ?_ ?_
          · cases hd : l.drop (i + 1) with
            | nil =>
              have hn : ¬ i + 1 < l.length := by
                intro q
                have := congrArg List.length hd
                simp at this
                omega
              have hn' : ¬ ((i + 1 : Nat) : Int) < l.length := by omega
              simp [r11, r6, r2, w0, hn, hn', o6, asksN]
            | cons q r =>
              have hn : i + 1 < l.length := by
                have := congrArg List.length hd
                simp at this
                omega
              have hn' : ((i + 1 : Nat) : Int) < l.length := by omega
              have hC : ((encs l).drop ((i + 1) * 6)).take ((q :: r).length * 6) = encs (q :: r) := by
                rw [encs_split, hd]; exact List.take_of_length_le (by rw [encs_length]; exact Nat.le_refl _)
              have d0 := RdP.at0 hC (j := 0) (by decide)
              have d3 := RdP.at0 hC (j := 3) (by decide)
              have d5 := RdP.at0 hC (j := 5) (by decide)
              simp only [encP, Nat.add_zero] at d0 d3 d5
              simp at d0 d3 d5
              by_cases d1 : q.kind = 51
              · cases d2 : q.whole with
                | false => simp [r11, r6, r2, w0, hn, hn', o6, hg6, d0, d3, d5, d1, d2, asksN, docOk]
                | true =>
                  by_cases d4 : q.text.length ≤ 64
                  · have d4' : (q.text.length : Int) ≤ 64 := by omega
                    simp [r11, r6, r2, w0, hn, hn', o6, hg6, d0, d3, d5, d1, d2, d4, d4', asksN, docOk]
                    refine (lf_sp q.text (by omega) h6 o6).mono ?_
                    rintro _ h' ⟨rfl, rfl⟩
                    cases d6 : q.text.contains 10 with
                    | true =>
                      have d6m : 10 ∈ q.text := by simpa using d6
                      simp [o6, r2, c6, hwi, d6m]
                    | false =>
                      have d6m : ¬ 10 ∈ q.text := by simpa using d6
                      by_cases d7 : x.st.wait < 4
                      · simp [o6, r2, c6, hwi, d6m, d7]
                      · simp [o6, r2, c6, hwi, d6m, d7]
                  · have d4' : ¬ (q.text.length : Int) ≤ 64 := by omega
                    simp [r11, r6, r2, w0, hn, hn', o6, hg6, d0, d3, d5, d1, d2, d4, d4', asksN, docOk]
              · have d1' : ¬ (q.kind : Int) = 51 := by omega
                simp [r11, r6, r2, w0, hn, hn', o6, hg6, d0, d3, d5, d1, d1', asksN, docOk]
          rintro fr8 hy hf8 ⟨t128, hyx⟩
          rw [hyx]
          clear hyx hy
          have t1 := hf8 1 rfl
          have t2 := hf8 2 rfl
          have t6 := hf8 6 rfl
          have t11 := hf8 11 rfl
          have t14 := hf8 14 rfl
          simp [r1, r2, r6, r11, r14] at t1 t2 t6 t11 t14
          cases has : asksN (opT line p) (l.drop (i + 1)) x.st with
          | none =>
            rw [has] at t128
            have e1 : kindN line p (l.drop (i + 1)) x.st = (2, x.st) := by unfold kindN isAsk; simp [hk, hpr, has]
            simp at t128
            simp [t128, e1, o6]
            exact ⟨⟨c6, sl6⟩, Kp.refl o6⟩
          | some s7 =>
            rw [has] at t128
            have e1 : kindN line p (l.drop (i + 1)) x.st = (52, s7) := by unfold kindN isAsk; simp [hk, hpr, has]
            simp at t128
            cases hd : l.drop (i + 1) with
            | nil => rw [hd] at has; cases has
            | cons q r =>
              have hn : i + 1 < l.length := by
                have := congrArg List.length hd
                simp at this
                omega
              have hn' : ((i + 1 : Nat) : Int) < l.length := by omega
              have hC : ((encs l).drop ((i + 1) * 6)).take ((q :: r).length * 6) = encs (q :: r) := by
                rw [encs_split, hd]; exact List.take_of_length_le (by rw [encs_length]; exact Nat.le_refl _)
              have d3 := RdP.at0 hC (j := 3) (by decide)
              have d4 := RdP.at0 hC (j := 4) (by decide)
              simp only [encP] at d3 d4
              simp at d3 d4
              rw [hd] at has e1
              simp only [asksN] at has
              split at has
              rotate_left
              · cases has
              rename_i hdo
              have hs7 := (Option.some.inj has).symm
              clear has
              generalize x.st = S at hwi hs7 hok hwt c6 sl6 e1 hdo ⊢
              unfold docOk at hdo
              simp only [Bool.and_eq_true, decide_eq_true_eq] at hdo
              obtain ⟨w, hw⟩ : ∃ w : Nat, S.wait = w := ⟨S.wait.toNat, by omega⟩
              have hw4 : w < 4 := by omega
              have hw4' : (w : Int) < 4 := by omega
              have k1 : (((encS S).set (69 + w * 3) (str q.text)).set (69 + w * 3 + 1) (.bool (decide (opT line p = [60, 60, 45])))).set (69 + w * 3 + 2) (.bool q.raw) = _ := stm_doc hok hw4 ⟨q.text, decide (opT line p = [60, 60, 45]), q.raw⟩
              have hs1 : ShS.ok { S with docs := S.docs.set w ⟨q.text, decide (opT line p = [60, 60, 45]), q.raw⟩ } := ⟨hok.stk, by simp [hok.docs]⟩
              have k2 := stm_wait hs1 ((w : Int) + 1)
              have kw := st_wait hs1
              simp only [hw] at kw
              have m1 : 69 + w * 3 + 3 ≤ (encS S).length := by rw [encS_len hok]; omega
              have m2 := st_le hs1
              simp only [hw] at hwi
              have ww : IntKind.i64.wrap ((w : Int) + 1) = (w : Int) + 1 := wrap_i64 (by omega) (by omega)
              have e7 : s7 = { S with docs := S.docs.set w ⟨q.text, decide (opT line p = [60, 60, 45]), q.raw⟩, wait := (w : Int) + 1 } := by rw [hs7]; unfold putDoc; rw [hw]; rfl
              rw [hw] at k1 k2 m2
              have r13' : fr8.get 13 = some (.int .u8 52) := by have := hf8 13 rfl; rw [r13, hk] at this; exact this
              simp [o6, t128, t1, t2, t6, t11, t14, r13', w0, ww, hn, hn', hg6, d3, d4, c6, hwi, hw4, hw4', k1, kw, m1, m2, k2, e1, e7]
              exact ⟨⟨by simp, (sl6.put (by omega) _).put (by omega) _⟩, ⟨by simpa using o6, by simp, fun c q1 q2 => by simp [q2], fun c C own fz ty q1 q2 q3 => by simpa [q2] using q3⟩⟩
      · have e1 : kindN line p (l.drop (i + 1)) x.st = (p.kind, x.st) := by unfold kindN isAsk; simp [hk]
        simp [o6, k52, hk, e1]
        exact ⟨x6, Kp.refl o6⟩
    rintro fr7 h7 hf7 ⟨q13, x7, kp7⟩
    have z8 := hf7 8 rfl
    have z9 := hf7 9 rfl
    have z10 := hf7 10 rfl
    have z11 := hf7 11 rfl
    have z12 := hf7 12 rfl
    simp [q8, q9, q10, q11, q12] at z8 z9 z10 z11 z12
    have o7 := kp7.one
    have n7 := kp7.next
    have b7 := kp7.st0 _ _ _ _ _ (by omega) pn b6
    have hok7 := kind_ok line p (l.drop (i + 1)) hok hwt
    iterate 1 ((repeat rw [wpd_seq]); simp [-wpd_seq, z9, z12, q13, b7, o7])
    refine (leaf_sp _ _ _ h7 o7).mono ?_
    rintro _ h8 ⟨rfl, f8⟩
    have x8 := x7.fr (by omega) f8
    have n8 := f8.next
    simp [-wpd_seq, f8.one, zerE, encE, -appS_some]
    refine x8.app ⟨3, (kindN line p (l.drop (i + 1)) x.st).1, p.fm, p.to⟩ (by omega) (by omega) f8.one (by omega) rfl ?_
    intro v9 h9 x9 kp9
    have kp79 : Kp h2.next h.next h7 h9 := (Kp.of_fr f8 (by omega)).trans kp9
    have b9 := kp79.st0 _ _ _ _ _ (by omega) pn b7
    simp [z12, z11, kp9.one, b9, w0]
    rw [hdrop] at hrun
    have hq : prun line (l.drop (i + 1)) (pstep line p (l.drop (i + 1)) x) = prun line l x0 := hrun
    have hst : pstep line p (l.drop (i + 1)) x = ⟨ev6 ++ [⟨3, (kindN line p (l.drop (i + 1)) x.st).1, p.fm, p.to⟩], (kindN line p (l.drop (i + 1)) x.st).2, x.opn || decide (p.kind ≠ 53), p.to, decide (p.kind = 54)⟩ := by unfold pstep; rw [← hev6]
    refine ⟨i + 1, by omega, pstep line p (l.drop (i + 1)) x, ⟨by simp, by rw [hst]; simp [z8], by rw [hst]; simp, ⟨v9, by simp, by rw [hst]; exact x9⟩, hi, hq, by rw [hst]; exact hok7.1, by rw [hst]; exact hok7.2, by rw [hst]; simp; omega, kp5.trans (kp6.trans (kp7.trans kp79))⟩⟩
  · have hi' : ¬ (i : Int) < l.length := by omega
    have hend : x = prun line l x0 := by rw [← hrun, List.drop_eq_nil_of_le (by omega)]; rfl
    have hj : x.jnd = true ↔ ∃ hne : l ≠ [], (l.getLast hne).kind = 54 := by
      by_cases hne : l = []
      · subst hne
        have : x.jnd = false := by rw [hend, hx0]; rfl
        simp [this]
      · rw [hend, prun_jnd line l x0 hne]; simp [hne]
    rw [← hend] at hP
    clear hrun hend
    have c4 := kp4.st0 _ _ _ _ _ (by omega) (by omega) c3
    obtain ⟨cs4, sl4⟩ := x4
    iterate 1 ((repeat rw [wpd_seq]); simp [-wpd_seq, f11, j6, hi, hi', o4])
    have j9 : ∀ (C : List Value) (q : ShS), q.ok → C = encS q → C.length = 82 ∧ 82 ≤ C.length ∧ C.take 82 = C ∧ (∀ x ∈ C, cellV x = true) ∧ setAt (encS zS) 0 C = C := by
      intro C q hq e
      subst e
      exact ⟨encS_len hq, st_le hq, st_all hq, st_cv q, stR q hq⟩
    have hmI : ((mk : Int) = 0) = (mk = 0) := by rw [eq_iff_iff]; omega
    rw [wpd_seq]
    refine wpd_cut (fun fr' h' => fr'.get 179 = some (.bool (decide (mk ≠ 0 ∨ x.jnd = true))) ∧ h' = h4) ?_ ?_
    · by_cases hm0 : mk = 0
      · subst hm0
        by_cases hne : l = []
        · have hjf : x.jnd = false := by
            cases q : x.jnd with
            | false => rfl
            | true => exact absurd hne (hj.1 q).1
          have hl0 : l.length = 0 := by rw [hne]; rfl
          simp [j7, j6, hl0, o4, hjf]
        · have hlp : 0 < l.length := List.length_pos_iff.2 hne
          have hlp' : (0 : Int) < l.length := by omega
          rcases hsl with ⟨e, _⟩ | ⟨_, _, g, g1, g2, ea, hga⟩
          · omega
          cases ea
          have hg4 : h4.get g = some (.cells (encs l) 6 true 0 none) := (kp4.get g g2 (by omega)).trans hga
          have hC : ((encs l).drop ((l.length - 1) * 6)).take ([l.getLast hne].length * 6) = encs [l.getLast hne] := by
            have hd : l.drop (l.length - 1) = [l.getLast hne] := by
              rw [List.drop_eq_getElem_cons (by omega), List.getLast_eq_getElem]
              congr 1
              exact List.drop_eq_nil_of_le (by omega)
            rw [encs_split, hd]; exact List.take_of_length_le (by rw [encs_length]; exact Nat.le_refl _)
          have d0 := RdP.at0 hC (j := 0) (by decide)
          simp only [encP, Nat.add_zero] at d0
          simp at d0
          have w1 : IntKind.i64.wrap ((l.length : Int) - 1) = ((l.length - 1 : Nat) : Int) := wrap_pred (by omega) (by omega)
          have e1 : ((l.length - 1 : Nat) : Int) < l.length := by omega
          have e2 : l.length - 1 < l.length := by omega
          by_cases hk : (l.getLast hne).kind = 54
          · have hjt : x.jnd = true := hj.2 ⟨hne, hk⟩
            simp [j7, j6, o4, hjt, hlp, hlp', w1, e1, e2, hg4, d0, hk]
          · have hjf : x.jnd = false := by
              cases q : x.jnd with
              | false => rfl
              | true => exact absurd (hj.1 q).2 hk
            have hk' : ¬ ((l.getLast hne).kind : Int) = 54 := by omega
            simp [j7, j6, o4, hjf, hlp, hlp', w1, e1, e2, hg4, d0, hk, hk']
      · simp [j7, j6, o4, hm0, hmI]
    rintro fr5 hy hf5 ⟨q179, hyx⟩
    rw [hyx]
    clear hyx hy hj
    have q1 := hf5 1 rfl
    have q2 := hf5 2 rfl
    have q5 := hf5 5 rfl
    have q7 := hf5 7 rfl
    have q8 := hf5 8 rfl
    have q9 := hf5 9 rfl
    have q10 := hf5 10 rfl
    simp [j1, j2, j5, j7, f8, f9, f10] at q1 q2 q5 q7 q8 q9 q10
    clear hf5
    have fx : ∀ h', h'.one = [] → h4.next ≤ h'.next → (∀ c, c < h.next → h'.get c = h4.get c) → Fr h.next h h' := fun h' a b c => ⟨a, by omega, fun d hd => by rw [c d hd, kp4.get d (by omega) (by omega)]; exact f02.get d hd⟩
    by_cases hmj : mk ≠ 0 ∨ x.jnd = true
    · rw [if_pos hmj] at hP
      rw [decide_eq_true hmj] at q179
      generalize x.st = S at hP hok hwt cs4
      have k1 : (encS S).set 65 (.int .u8 1) = encS { S with mode := 1 } := stm_mode hok 1
      have hs1 : ShS.ok { S with mode := 1 } := ⟨hok.stk, hok.docs⟩
      have k2 : (encS { S with mode := 1 }).set 66 (.int .u8 mk) = encS { S with mode := 1, mark := mk } := stm_mark hs1 mk
      have hs2 : ShS.ok { S with mode := 1, mark := mk } := ⟨hok.stk, hok.docs⟩
      have l1 := st_le hok
      have l2 := st_le hs1
      have l1' : 66 ≤ (encS S).length := by omega
      have l2' : 67 ≤ (encS { S with mode := 1 }).length := by omega
      simp [q179, q2, q5, q7, q9, o4, cs4, k1, k2, l1', l2', st_all hs2, st_le hs2, encS_len hs2, eq_true (st_cv { S with mode := 1, mark := mk }), c4, hz82, stR _ hs2]
      rw [hP]
      exact ⟨_, ⟨rfl, rfl⟩, (((sl4.put (by omega) _).put (by omega) _).put (by omega) _).mono (by omega), fx _ (by simp [o4]) (by simp) fun c hc => by simp [show ¬ c = h.next by omega, show ¬ c = h.next + 1 by omega]⟩
    · rw [if_neg hmj] at hP
      rw [decide_eq_false hmj] at q179
      iterate 2 ((repeat rw [wpd_seq]); simp [-wpd_seq, q179, q8, o4])
      refine BrC.join (fun fr' h' => (∃ v, fr'.get 9 = some v ∧ RSc h2.next h.next h' x.st v (x.ev ++ (if x.opn = true then [(⟨2, 0, x.fin, 0⟩ : ShE)] else []))) ∧ Kp h2.next h.next h4 h') ?_ ?_
      · cases hon : x.opn with
        | false => simp [q9]; exact ⟨⟨cs4, sl4⟩, Kp.refl o4⟩
        | true =>
          simp [q9, q10, o4, zerE, -appS_some]
          refine RSc.app (B := h2.next) (sb := h.next) (s := x.st) ⟨cs4, sl4⟩ ⟨2, 0, x.fin, 0⟩ (by omega) (by omega) o4 (by omega) rfl ?_
          intro v' h6 x6 kp6
          simp [kp6.one]
          exact ⟨x6, kp6⟩
      rintro fr6 h6 hf6 ⟨⟨v6, r9, x6⟩, kp6⟩
      have r1 := hf6 1 rfl
      have r2 := hf6 2 rfl
      have r5 := hf6 5 rfl
      simp [q1, q2, q5] at r1 r2 r5
      clear hf6
      have evl : (x.ev ++ (if x.opn = true then [(⟨2, 0, x.fin, 0⟩ : ShE)] else [])).length < 2 ^ 33 := by
        rw [List.length_append]; split <;> simp <;> omega
      generalize x.ev ++ (if x.opn = true then [(⟨2, 0, x.fin, 0⟩ : ShE)] else []) = ev6 at x6 hP evl
      generalize x.st = S at hP hok hwt cs4 x6
      have o6 := kp6.one
      have n6 := kp6.next
      have c6 := kp6.st0 _ _ _ _ _ (by omega) (by omega) c4
      have k1 : (encS S).set 66 (.int .u8 0) = encS { S with mark := 0 } := stm_mark hok 0
      have hs1 : ShS.ok { S with mark := 0 } := ⟨hok.stk, hok.docs⟩
      have k2 : (encS { S with mark := 0 }).set 65 (.int .u8 0) = encS { S with mark := 0, mode := 0 } := stm_mode hs1 0
      have hs2 : ShS.ok { S with mark := 0, mode := 0 } := ⟨hok.stk, hok.docs⟩
      have k3 : (encS { S with mark := 0, mode := 0 }).set 65 (.int .u8 2) = encS { S with mark := 0, mode := 2 } := stm_mode hs2 2
      have hs3 : ShS.ok { S with mark := 0, mode := 2 } := ⟨hok.stk, hok.docs⟩
      have l1 : 67 ≤ (encS S).length := by rw [encS_len hok]; omega
      have l2 : 66 ≤ (encS { S with mark := 0 }).length := by rw [encS_len hs1]; omega
      have l3 : 66 ≤ (encS { S with mark := 0, mode := 0 }).length := by rw [encS_len hs2]; omega
      have kw := st_wait hs2
      obtain ⟨d6, sl6⟩ := x6
      have gx : ∀ h', h'.one = [] → h6.next ≤ h'.next → (∀ c, c < h.next → h'.get c = h6.get c) → Fr h.next h h' := fun h' a b c => fx h' a (by omega) fun d hd => (c d hd).trans (kp6.get d (by omega) (by omega))
      iterate 3 ((repeat rw [wpd_seq]); simp [-wpd_seq, r2, o6, d6, k1, k2, l1, l2])
      obtain ⟨h7, hh7⟩ : ∃ h7, h7 = (h6.put h.next (.cells (encS { S with mark := 0 }) 0 true 0 none)).put h.next (.cells (encS { S with mark := 0, mode := 0 }) 0 true 0 none) := ⟨_, rfl⟩
      rw [← hh7]
      have o7 : h7.one = [] := by rw [hh7]; exact o6
      have n7 : h7.next = h6.next := by rw [hh7]; rfl
      have d7 : h7.get h.next = some (.cells (encS { S with mark := 0, mode := 0 }) 0 true 0 none) := by rw [hh7]; simp
      have c7 : h7.get (h.next + 1) = some (.cells (encS zS) 0 true 0 none) := by rw [hh7]; simp [c6]
      have sl7 : SlG none 4 h2.next h7 v6 (encEs ev6) ev6.length := by rw [hh7]; exact (sl6.put (by omega) _).put (by omega) _
      have fx7 : ∀ h', h'.one = [] → h7.next ≤ h'.next → (∀ c, c < h.next → h'.get c = h7.get c) → Fr h.next h h' := fun h' a b c => gx h' a (by omega) fun d hd => by rw [c d hd, hh7]; simp [show ¬ d = h.next by omega]
      clear hh7
      rw [hP]
      by_cases hw : 0 < S.wait
      · have e1 : docSt S = { S with mark := 0, mode := 2 } := by unfold docSt; rw [if_pos hw]
        have e2 : docEv line S = [⟨1, 55, line.length, 0⟩] := by unfold docEv; rw [if_pos hw]
        rw [e1, e2]
        have kw' : (encS { S with mark := 0, mode := 0 })[81]? = some (.int .i64 S.wait) := kw
        simp [r1, r2, r9, o7, d7, kw', hw, k3, l3, zerE, -appS_some]
        refine RSc.app (B := h2.next) (sb := h.next) (s := { S with mark := 0, mode := 2 }) ⟨by simp, sl7.put (by omega) _⟩ ⟨1, 55, line.length, 0⟩ (by omega) (by simp; omega) (by simpa using o7) evl rfl ?_
        intro v8 h8 x8 kp8
        obtain ⟨d8, sl8⟩ := x8
        have c8 := kp8.st0 (h.next + 1) _ _ _ _ (by simp; omega) (by omega) (by simpa using c7)
        have n8 := kp8.next
        simp at n8
        simp [kp8.one, r2, r5, d8, c8, st_all hs3, st_le hs3, encS_len hs3, eq_true (st_cv { S with mark := 0, mode := 2 }), hz82, stR _ hs3]
        exact ⟨((sl8.put (by omega) _).mono (by omega)).eq (by rfl) (by simp), fx7 _ (by simp [kp8.one]) (by simp; omega) fun c hc => by simp [show ¬ c = h.next + 1 by omega, kp8.get c (by omega) (by omega), show ¬ c = h.next by omega]⟩
      · have e1 : docSt S = { S with mark := 0, mode := 0 } := by unfold docSt; rw [if_neg hw]
        have e2 : docEv line S = [] := by unfold docEv; rw [if_neg hw]
        rw [e1, e2]
        have kw' : (encS { S with mark := 0, mode := 0 })[81]? = some (.int .i64 S.wait) := kw
        iterate 2 ((repeat rw [wpd_seq]); simp [-wpd_seq, r2, o7, d7, kw', hw])
        simp [r1, r2, r5, r9, o7, d7, c7, st_all hs2, st_le hs2, encS_len hs2, eq_true (st_cv { S with mark := 0, mode := 0 }), hz82, stR _ hs2]
        exact ⟨(sl7.put (by omega) _).mono (by omega), fx7 _ (by simp [o7]) (by simp) fun c hc => by simp [show ¬ c = h.next + 1 by omega]⟩
end Go.Dm
