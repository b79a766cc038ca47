/- The scanner: a line of a document. -/
import Derived.Test.YtdgclgfhcgdehaaDoorSdF
set_option linter.unusedVariables false
set_option linter.unusedSimpArgs false
namespace Go.Dm
open Go.Proofs
set_option maxRecDepth 100000 in
set_option maxHeartbeats 4000000 in
theorem TrimSuffix_sp (line : List UInt8) (hs : line.length < 2 ^ 40) (h : H) (h1 : h.one = []) :
    CallW E0 X0 (.fn 46) [str line, str [10]] h (fun r h' => r = str (ctn line) ∧ h' = h) := by
  refine CallW.body efn46 rfl rfl rfl [] (by kernel_rfl) ?_
  simp [Tryd.f46, h1]
  have hI : CallW E0 X0 (.fn 58) [str line, str [10]] h (fun r h' => r = str (ctn line) ∧ h' = h) := by
    refine CallW.body efn58 rfl rfl rfl [] (by kernel_rfl) ?_
    simp [Tryd.f58, h1]
    refine (HasSuffix0_sp line [10] (by omega) h h1).mono ?_
    rintro _ h2 ⟨rfl, rfl⟩
    have hc := cut_ctn line
    unfold cutS at hc
    cases hb : [10].isSuffixOf line with
    | false =>
      rw [hb] at hc
      simp [h1]
      exact congrArg str (by simpa using hc)
    | true =>
      rw [hb] at hc
      have hl : 1 ≤ line.length := by
        rw [List.isSuffixOf_iff_suffix] at hb; exact hb.length_le
      have w0 : IntKind.i64.wrap ((line.length : Int) - 1) = ((line.length - 1 : Nat) : Int) := by rw [wrap_i64 (by omega) (by omega)]; omega
      have e1 : ((line.length - 1 : Nat) : Int) ≤ line.length := by omega
      simp [h1, w0, e1]
      exact congrArg str (by simpa using hc)
  refine hI.mono ?_
  rintro _ h2 ⟨rfl, rfl⟩
  simp [h1]
theorem tabsN_le : ∀ (t : List UInt8), tabsN t ≤ t.length
  | [] => Nat.le_refl _
  | c :: r => by unfold tabsN; have := tabsN_le r; split <;> simp; omega
set_option maxRecDepth 100000 in
set_option maxHeartbeats 4000000 in
theorem TrimLeft_sp (t : List UInt8) (hs : t.length < 2 ^ 40) (h : H) (h1 : h.one = []) :
    CallW E0 X0 (.fn 47) [str t, str [9]] h (fun r h' => r = str (t.drop (tabsN t)) ∧ h' = h) := by
  refine CallW.body efn47 rfl rfl rfl [] (by kernel_rfl) ?_
  by_cases ht : t = []
  · subst ht
    simp [Tryd.f47, h1]
  have hbt : idxB [9] 0 = some (.int .u8 ((9 : UInt8).toNat : Nat)) := rfl
  have hI : CallW E0 X0 (.fn 59) [str t, .int .u8 9] h (fun r h' => r = str (t.drop (tabsN t)) ∧ h' = h) := by
    refine CallW.body efn59 rfl rfl rfl [] (by kernel_rfl) ?_
    simp [Tryd.f59, h1]
    refine wpd_loop (fun (u : List UInt8) fr h' => fr.get 0 = some (str u) ∧ h' = h ∧ u.drop (tabsN u) = t.drop (tabsN t) ∧ u.length ≤ t.length) (fun u => u.length) t ⟨by simp, rfl, rfl, Nat.le_refl _⟩ ?_
    rintro u fr h2 ⟨g0, rfl, hu, hul⟩ hf
    have g1 := hf 1 rfl
    simp at g1
    cases u with
    | nil =>
      simp [g0, h1]
      rw [← hu]; rfl
    | cons c u =>
      have hix : idxB (c :: u) 0 = some (.int .u8 (c.toNat : Nat)) := idxB_nat (l := c :: u) (k := 0) (by simp)
      have hp : (0 : Int) < (u.length : Int) + 1 := by omega
      by_cases c9 : c = 9
      · subst c9
        have e1 : (1 : Int) ≤ (u.length : Int) + 1 := by omega
        simp [g0, g1, h1, hix, hp, e1]
        exact ⟨u, by omega, rfl, by rw [← hu]; simp [tabsN], by simp at hul; omega⟩
      · have c9' : ¬ ((c.toNat : Int) = 9) := by
          intro q; apply c9; apply UInt8.toNat_inj.1; show c.toNat = 9; omega
        simp [g0, g1, h1, hix, hp, c9']
        rw [← hu]
        simp [tabsN, c9]
  simp [Tryd.f47, h1, ht, hbt]
  refine hI.mono ?_
  rintro _ h2 ⟨rfl, rfl⟩
  simp [h1]
theorem setAt_mid : ∀ (vs pre mid post : List Value), mid.length = vs.length → setAt (pre ++ (mid ++ post)) pre.length vs = pre ++ (vs ++ post)
  | [], pre, [], post, _ => rfl
  | v :: vs, pre, x :: mid, post, hl => by
    show setAt ((pre ++ (x :: mid ++ post)).set pre.length v) (pre.length + 1) vs = _
    have e2 : (pre ++ (x :: mid ++ post)).set pre.length v = (pre ++ [v]) ++ (mid ++ post) := by rw [List.cons_append, set_k rfl]; simp
    have := setAt_mid vs (pre ++ [v]) mid post (by simpa using hl)
    rw [e2, show pre.length + 1 = (pre ++ [v]).length by simp, this]
    simp
  | [], pre, x :: mid, post, h => by simp at h
  | v :: vs, pre, [], post, h => by simp at h
theorem set_docs3 {s : ShS} (h : s.ok) (r : List Value) (d : List ShD) (hd : d.length = 3) : setAt (scS { s with docs := List.replicate 4 zD } r) 69 (encDs d) = scS { s with docs := d ++ [zD] } r := by
  have e : ∀ q : List ShD, scS { s with docs := q ++ [zD] } r = (encK s.stk ++ [.int .i64 s.dep, .int .u8 s.mode, .int .u8 s.mark, .int .u8 s.flags, .int .i64 s.cnt]) ++ (encDs q ++ (encDs [zD] ++ ([.int .i64 s.wait] ++ r))) := by
    intro q; unfold scS; rw [encS_eq]; simp [encDs_app]
  have e2 := e (List.replicate 3 zD)
  have := setAt_mid (encDs d) (encK s.stk ++ [.int .i64 s.dep, .int .u8 s.mode, .int .u8 s.mark, .int .u8 s.flags, .int .i64 s.cnt]) (encDs (List.replicate 3 zD)) (encDs [zD] ++ ([.int .i64 s.wait] ++ r)) (by rw [encDs_len, encDs_len, hd]; rfl)
  rw [e d, show (List.replicate 4 zD) = List.replicate 3 zD ++ [zD] from rfl, e2, ← this]
  congr 1
  simp [encK_len, h.stk]
theorem copy_docs {s : ShS} (hs : s.ok) (r : List Value) (cb g : Nat) (h : H) (h1 : h.get cb = some (.cells (scS { s with docs := [zD, zD, zD, zD] } r) 0 true 0 none)) (h2 : h.get g = some (.cells (encDs s.docs) 0 true 0 none)) :
    copyD E0 [89, 89] (.slice (some ⟨cb, 69, none⟩) 4 4) (.slice (some ⟨g, 3, none⟩) 3 3) h = some (intV 3, h.put cb (.cells (scS { s with docs := s.docs.tail ++ [zD] } r) 0 true 0 none)) := by
  have hdl : (encDs s.docs).length = 12 := by rw [encDs_len, hs.docs]
  have hd1 : (s.docs.tail).length = 3 := by rw [List.length_tail, hs.docs]
  have e1 : ((encDs s.docs).drop 3).take 9 = encDs (s.docs.tail) := by
    have e : s.docs = s.docs.take 1 ++ s.docs.tail := by rw [← List.drop_one]; exact (List.take_append_drop ..).symm
    have h3 : (encDs (s.docs.take 1)).length = 3 := by rw [encDs_len, List.length_take, hs.docs]; rfl
    conv => lhs; rw [e, encDs_app, List.drop_append_of_le_length (by omega), List.drop_eq_nil_of_le (by omega), List.nil_append]
    exact List.take_of_length_le (by rw [encDs_len, hd1]; omega)
  have hsz : ShS.ok { s with docs := [zD, zD, zD, zD] } := ⟨hs.stk, rfl⟩
  have hle : 69 + 9 ≤ (scS { s with docs := [zD, zD, zD, zD] } r).length := by rw [scS_len hsz]; omega
  have hcv := encDs_cells (s.docs.tail)
  have h9 : (encDs (s.docs.tail)).length = 9 := by rw [encDs_len, hd1]
  have hst : setAt (scS { s with docs := [zD, zD, zD, zD] } r) 69 (encDs (s.docs.tail)) = scS { s with docs := s.docs.tail ++ [zD] } r := set_docs3 hs r _ hd1
  have ht9 : (encDs (s.docs.tail)).take 9 = encDs (s.docs.tail) := List.take_of_length_le (by omega)
  have hu := und89
  have hsi := siz26
  unfold copyD srcD readD stCells
  simp only [hu, hsi, h2, h1]
  have hcv2 : ∀ x ∈ encDs s.docs.tail, cellV x = true := List.all_eq_true.1 hcv
  simp [hdl, e1, h9, ht9, hle, hst, h1, eq_true hcv2]
theorem setAt_one (c : List Value) (o : Nat) (v : Value) : setAt c o [v] = c.set o v := rfl
def zL12 : List Value := [str [], .bool false, .bool false, str [], .bool false, .bool false, str [], .bool false, .bool false, str [], .bool false, .bool false]
set_option maxRecDepth 100000 in
set_option maxHeartbeats 8000000 in
theorem text_sp (B cb : Nat) (s : ShS) (hs : s.ok) (hw : 0 < s.wait ∧ s.wait ≤ 4) (line : List UInt8) (hl : line.length < 2 ^ 38) (h : H) (h1 : h.one = []) (hcb : cb < B) (hB : B ≤ h.next) (x : Scn B cb h s line []) :
    CallW E0 X0 (.fn 32) [.pointer (some ⟨cb, 0, none⟩)] h (fun r h' => Scn B cb h' (textN s line).2 line (textN s line).1 ∧ Kp B cb h h') := by
  refine CallW.body efn32 rfl rfl rfl [] (by kernel_rfl) ?_
  obtain ⟨ve, hc, sl⟩ := x
  have hdoc := scS_doc hs [str line, ve] (i := 0) (by decide)
  have hd0 : encD (docK s 0) = [str (docK s 0).word, .bool (docK s 0).strip, .bool (docK s 0).raw] := rfl
  have le72 : 69 + 0 * 3 + 3 ≤ (scS s [str line, ve]).length := sc_le hs _ _ (by omega)
  simp only [Nat.zero_mul, Nat.add_zero] at hdoc le72
  rw [hd0] at hdoc
  simp [Tryd.f32, nil_ptr, h1, hc, hdoc, le72, sc_line hs, show ¬ cb = h.next by omega]
  refine (TrimSuffix_sp line (by omega) _ (by simp)).mono ?_
  rintro _ h2 ⟨rfl, rfl⟩
  have hcl : (ctn line).length = ctnN line := ctn_length line
  have hcle := ctnN_le line
  generalize hH : H.put (H.nw h _) h.next _ = h2
  have o2 : h2.one = [] := by rw [← hH]; simp
  have n2 : h2.next = h.next + 1 := by rw [← hH]; simp
  have q0 : h2.get h.next = some (.cells [str (docK s 0).word, .bool (docK s 0).strip, .bool (docK s 0).raw] 0 true 0 none) := by rw [← hH]; simp
  have qc : h2.get cb = some (.cells (scS s [str line, ve]) 0 true 0 none) := by rw [← hH]; simp [show ¬ cb = h.next by omega]; exact hc
  have f2 : Fr h.next h h2 := by rw [← hH]; exact ((Fr.refl h1).nw (Nat.le_refl _) _).put (Nat.le_refl _) _
  have sl2 : SlG none 4 B h2 ve (encEs []) ([] : List ShE).length := sl.of_get f2.next fun g _ hg => f2.get g hg
  clear hH
  have kp2 : Kp B cb h h2 := Kp.of_fr f2 hB
  obtain ⟨s', hs'⟩ : ∃ s' : ShS, s' = { s with docs := s.docs.tail ++ [zD], wait := s.wait - 1 } := ⟨_, rfl⟩
  cases hst : (docK s 0).strip with
  | true =>
    simp [o2, q0, hst]
    refine (TrimLeft_sp (ctn line) (by omega) h2 o2).mono ?_
    rintro _ h3 ⟨rfl, e3⟩
    obtain rfl : h2 = h3 := e3.symm
    simp [o2, q0]
    have hfl : tabsN (ctn line) ≤ (ctn line).length := tabsN_le _
    have hUl : (List.drop (tabsN (ctn line)) (ctn line)).length = ctnN line - tabsN (ctn line) := by rw [List.length_drop, hcl]
    by_cases hq : List.drop (tabsN (ctn line)) (ctn line) = (docK s 0).word
    · have ht : textN s line = ([⟨3, 57, tabsN (ctn line), ctnN line⟩, ⟨2, 0, line.length, 0⟩] ++ docEv line s', docSt s') := by
        unfold textN
        simp only [hst]
        rw [if_neg (by simpa using hq)]
        subst hs'
        simp only [if_true, Bool.false_eq_true, if_false, List.drop_one]
        rfl
      have w1 : IntKind.i64.wrap ((ctnN line : Int) - ((List.drop (tabsN (ctn line)) (ctn line)).length : Nat)) = (tabsN (ctn line) : Nat) := by
        rw [wrap_i64 (by omega) (by omega)]; omega
      have w0 : IntKind.i64.wrap ((ctnN line : Int) - ((ctnN line - tabsN (ctn line) : Nat) : Int)) = (tabsN (ctn line) : Nat) := by rw [wrap_i64 (by omega) (by omega)]; omega
      simp [o2, q0, eq_true hq, hcl, w0, show IntKind.i64.wrap 0 = 0 from by decide]
      refine (put_sp B cb 3 57 (tabsN (ctn line)) (ctnN line) s hs line [] (by decide) h2 o2 hcb (by omega) ⟨ve, qc, sl2⟩).mono ?_
      rintro r5 h5 ⟨x5, kp5⟩
      have n5 := kp5.next
      simp only [List.nil_append] at x5
      obtain ⟨v5, c5, sl5⟩ := x5
      simp [kp5.one, nil_ptr, c5, sc_line hs]
      refine (put_sp B cb 2 0 line.length 0 s hs line _ (by simp) h5 kp5.one hcb (by omega) ⟨v5, c5, sl5⟩).mono ?_
      rintro r6 h6 ⟨⟨v6, c6, sl6⟩, kp6⟩
      have n6 := kp6.next
      have hdl : (encDs s.docs).length = 12 := by rw [encDs_len, hs.docs]
      have hov : setAt zL12 0 (encDs s.docs) = encDs s.docs := setAt_over _ _ (by rw [hdl]; rfl)
      have hz := set_docs hs [str line, v6] (List.replicate 4 zD) rfl
      have hz : setAt (scS s [str line, v6]) 69 zL12 = scS { s with docs := List.replicate 4 zD } [str line, v6] := hz
      have hsz : ShS.ok { s with docs := List.replicate 4 zD } := ⟨hs.stk, rfl⟩
      have hcv : ∀ x ∈ encDs s.docs, cellV x = true := List.all_eq_true.1 (encDs_cells _)
      simp only [zL12] at hov hz
      simp [kp6.one, nil_ptr, c6, scS_docs hs, hdl, hov, hz, sc_le hs, sc_le hsz, eq_true hcv, setAt_one, -setAt, show ¬ cb = h6.next by omega]
      rw [copy_docs hs [str line, v6] cb h6.next _ (by simp) (by simp [show ¬ h6.next = cb by omega])]
      have hs4 : ShS.ok { s with docs := s.docs.tail ++ [zD] } := ⟨hs.stk, by simp [hs.docs]⟩
      have w1 : IntKind.i64.wrap (s.wait - 1) = s.wait - 1 := wrap_i64 (by omega) (by omega)
      have k5 := set_wait hs4 [str line, v6] (s.wait - 1)
      have hs5 : s'.ok := by rw [hs']; exact ⟨hs.stk, by simp [hs.docs]⟩
      simp [nil_ptr, scS_wait hs4, w1, sc_le hs4, k5, ← hs']
      refine (doc_sp B cb s' hs5 line _ (by simp) _ (by simp) hcb (by simp; omega) ⟨v6, by simp, sl6.of_get (by simp) (fun g q1 q2 => by simp [show ¬ g = cb by omega, show ¬ g = h6.next by omega])⟩).mono ?_
      rintro r7 h7 ⟨x7, kp7⟩
      simp [kp7.one]
      rw [ht]
      have n7 := kp7.next
      simp at n7
      refine ⟨x7, kp2.trans (kp5.trans (kp6.trans ⟨kp7.one, by omega, fun c q1 q2 => ?_, fun c C own fz ty q1 q2 q3 => ?_⟩))⟩
      · rw [kp7.get c q1 q2]
        simp [q2, show ¬ c = h6.next by omega]
      · exact kp7.st0 c C own fz ty (by simp; omega) q2 (by simpa [q2, show ¬ c = h6.next by omega] using q3)
    · have ht : textN s line = ([⟨3, 56, 0, line.length⟩], s) := by
        unfold textN
        simp only [hst]
        rw [if_pos (by simpa using hq)]
      simp [o2, q0, hq, nil_ptr, qc, sc_line hs]
      refine (put_sp B cb 3 56 0 line.length s hs line [] (by decide) h2 o2 hcb (by omega) ⟨ve, qc, sl2⟩).mono ?_
      rintro r h5 ⟨x5, kp⟩
      simp [kp.one]
      rw [ht]
      exact ⟨x5, kp2.trans kp⟩
  | false =>
    simp [o2, q0, hst]
    have hfl : 0 ≤ (ctn line).length := Nat.zero_le _
    have hUl : (ctn line).length = ctnN line - 0 := by rw [hcl, Nat.sub_zero]
    by_cases hq : ctn line = (docK s 0).word
    · have ht : textN s line = ([⟨3, 57, 0, ctnN line⟩, ⟨2, 0, line.length, 0⟩] ++ docEv line s', docSt s') := by
        unfold textN
        simp only [hst]
        rw [if_neg (by simpa using hq)]
        subst hs'
        simp only [if_true, Bool.false_eq_true, if_false, List.drop_one]
        rfl
      have w1 : IntKind.i64.wrap ((ctnN line : Int) - ((ctn line).length : Nat)) = (0 : Nat) := by
        rw [wrap_i64 (by omega) (by omega)]; omega
      have w0 : IntKind.i64.wrap ((ctnN line : Int) - ((ctnN line - 0 : Nat) : Int)) = (0 : Nat) := by rw [wrap_i64 (by omega) (by omega)]; omega
      simp [o2, q0, eq_true hq, hcl, w0, show IntKind.i64.wrap 0 = 0 from by decide]
      refine (put_sp B cb 3 57 0 (ctnN line) s hs line [] (by decide) h2 o2 hcb (by omega) ⟨ve, qc, sl2⟩).mono ?_
      rintro r5 h5 ⟨x5, kp5⟩
      have n5 := kp5.next
      simp only [List.nil_append] at x5
      obtain ⟨v5, c5, sl5⟩ := x5
      simp [kp5.one, nil_ptr, c5, sc_line hs]
      refine (put_sp B cb 2 0 line.length 0 s hs line _ (by simp) h5 kp5.one hcb (by omega) ⟨v5, c5, sl5⟩).mono ?_
      rintro r6 h6 ⟨⟨v6, c6, sl6⟩, kp6⟩
      have n6 := kp6.next
      have hdl : (encDs s.docs).length = 12 := by rw [encDs_len, hs.docs]
      have hov : setAt zL12 0 (encDs s.docs) = encDs s.docs := setAt_over _ _ (by rw [hdl]; rfl)
      have hz := set_docs hs [str line, v6] (List.replicate 4 zD) rfl
      have hz : setAt (scS s [str line, v6]) 69 zL12 = scS { s with docs := List.replicate 4 zD } [str line, v6] := hz
      have hsz : ShS.ok { s with docs := List.replicate 4 zD } := ⟨hs.stk, rfl⟩
      have hcv : ∀ x ∈ encDs s.docs, cellV x = true := List.all_eq_true.1 (encDs_cells _)
      simp only [zL12] at hov hz
      simp [kp6.one, nil_ptr, c6, scS_docs hs, hdl, hov, hz, sc_le hs, sc_le hsz, eq_true hcv, setAt_one, -setAt, show ¬ cb = h6.next by omega]
      rw [copy_docs hs [str line, v6] cb h6.next _ (by simp) (by simp [show ¬ h6.next = cb by omega])]
      have hs4 : ShS.ok { s with docs := s.docs.tail ++ [zD] } := ⟨hs.stk, by simp [hs.docs]⟩
      have w1 : IntKind.i64.wrap (s.wait - 1) = s.wait - 1 := wrap_i64 (by omega) (by omega)
      have k5 := set_wait hs4 [str line, v6] (s.wait - 1)
      have hs5 : s'.ok := by rw [hs']; exact ⟨hs.stk, by simp [hs.docs]⟩
      simp [nil_ptr, scS_wait hs4, w1, sc_le hs4, k5, ← hs']
      refine (doc_sp B cb s' hs5 line _ (by simp) _ (by simp) hcb (by simp; omega) ⟨v6, by simp, sl6.of_get (by simp) (fun g q1 q2 => by simp [show ¬ g = cb by omega, show ¬ g = h6.next by omega])⟩).mono ?_
      rintro r7 h7 ⟨x7, kp7⟩
      simp [kp7.one]
      rw [ht]
      have n7 := kp7.next
      simp at n7
      refine ⟨x7, kp2.trans (kp5.trans (kp6.trans ⟨kp7.one, by omega, fun c q1 q2 => ?_, fun c C own fz ty q1 q2 q3 => ?_⟩))⟩
      · rw [kp7.get c q1 q2]
        simp [q2, show ¬ c = h6.next by omega]
      · exact kp7.st0 c C own fz ty (by simp; omega) q2 (by simpa [q2, show ¬ c = h6.next by omega] using q3)
    · have ht : textN s line = ([⟨3, 56, 0, line.length⟩], s) := by
        unfold textN
        simp only [hst]
        rw [if_pos (by simpa using hq)]
      simp [o2, q0, hq, nil_ptr, qc, sc_line hs]
      refine (put_sp B cb 3 56 0 line.length s hs line [] (by decide) h2 o2 hcb (by omega) ⟨ve, qc, sl2⟩).mono ?_
      rintro r h5 ⟨x5, kp⟩
      simp [kp.one]
      rw [ht]
      exact ⟨x5, kp2.trans kp⟩
end Go.Dm
