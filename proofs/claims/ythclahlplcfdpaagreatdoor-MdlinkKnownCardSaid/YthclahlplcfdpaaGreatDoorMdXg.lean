/- The chapter's examples. -/
import Derived.Test.YthclahlplcfdpaaGreatDoorMdXb
import Derived.Test.YthclahlplcfdpaaGreatDoorMdXc
import Derived.Test.YthclahlplcfdpaaGreatDoorDMid
set_option linter.unusedVariables false
set_option linter.unusedSimpArgs false
namespace Go.Dm
open Go.Proofs
def tabK : List (List UInt8 × List Lk) := [([91, 97, 93, 40, 98, 41], [⟨0, 1, 2, 6, false⟩]),
  ([91, 97, 93, 40, 60, 98, 32, 99, 62, 32, 34, 116, 34, 41], [⟨0, 1, 2, 14, false⟩]),
  ([91, 120, 93, 40, 98, 40, 99, 41, 100, 41], [⟨0, 1, 2, 10, false⟩]),
  ([91, 120, 93, 40, 98, 40, 99, 41], []),
  ([91, 120, 93, 40, 98, 40, 99, 32, 41], []),
  ([91, 120, 93, 40, 32, 41], [⟨0, 1, 2, 6, false⟩]),
  ([91, 120, 93, 40, 98, 32, 99, 41], []),
  ([91, 97, 93, 40, 98, 32, 99, 41], [⟨0, 1, 2, 3, false⟩]),
  ([91, 120, 93, 40, 98, 34, 116, 34, 41], [⟨0, 1, 2, 9, false⟩]),
  ([91, 120, 93, 40, 60, 98, 41, 99, 41], []),
  ([91, 120, 93, 40, 92, 40, 41], [⟨0, 1, 2, 7, false⟩]),
  ([91, 120, 93, 40, 98, 32, 39, 116, 39, 32, 41], [⟨0, 1, 2, 11, false⟩]),
  ([91, 120, 93, 40, 98, 32, 39, 116, 41], []),
  ([91, 120, 93, 40, 60, 98, 62, 39, 116, 39, 41], []),
  ([91, 120, 93, 40, 98, 9, 9, 41], [⟨0, 1, 2, 8, false⟩]),
  ([91, 97, 93], [⟨0, 1, 2, 3, false⟩]),
  ([91, 65, 93, 91, 93], [⟨0, 1, 2, 5, false⟩]),
  ([91, 120, 93, 91, 66, 93], [⟨0, 1, 2, 6, false⟩]),
  ([91, 97, 93, 91, 99, 93], []),
  ([91, 99, 93, 91, 97, 93], [⟨0, 1, 2, 6, false⟩]),
  ([91, 120, 93, 91, 93], []),
  ([91, 97, 93, 32, 91, 98, 93], [⟨0, 1, 2, 3, false⟩, ⟨4, 5, 6, 7, false⟩]),
  ([91, 97, 93, 91, 32, 93], [⟨0, 1, 2, 3, false⟩]),
  ([91, 93], []),
  ([93, 97, 91], []),
  ([91, 97, 91, 98, 93, 93], [⟨2, 3, 4, 5, false⟩]),
  ([91, 97, 93, 91, 99, 93, 91, 98, 93], [⟨3, 4, 5, 9, false⟩]),
  ([33, 91, 97, 93, 40, 98, 41], [⟨0, 2, 3, 7, true⟩]),
  ([33, 91, 97, 93], [⟨0, 2, 3, 4, true⟩]),
  ([91, 120, 32, 33, 91, 121, 93, 40, 99, 41, 32, 100, 93, 40, 101, 41], [⟨0, 1, 12, 16, false⟩, ⟨3, 5, 6, 10, true⟩]),
  ([91, 120, 32, 91, 121, 93, 40, 99, 41, 32, 100, 93, 40, 101, 41], [⟨3, 4, 5, 9, false⟩]),
  ([33, 91, 120, 32, 91, 121, 93, 40, 99, 41, 32, 100, 93, 40, 101, 41], [⟨0, 2, 12, 16, true⟩, ⟨4, 5, 6, 10, false⟩]),
  ([91, 120, 32, 33, 91, 121, 32, 91, 97, 93, 32, 122, 93, 40, 99, 41, 32, 100, 93, 40, 101, 41], [⟨3, 5, 12, 16, true⟩, ⟨7, 8, 9, 10, false⟩]),
  ([33, 92, 91, 97, 93], []),
  ([92, 33, 91, 97, 93], [⟨2, 3, 4, 5, false⟩]),
  ([33, 32, 91, 97, 93], [⟨2, 3, 4, 5, false⟩]),
  ([91, 97, 92, 93, 40, 98, 41], []),
  ([91, 97, 96, 93, 40, 98, 41, 96], []),
  ([91, 97, 60, 120, 120, 58, 93, 40, 98, 41, 62], []),
  ([91, 97, 93, 40, 98, 96, 41, 96], [⟨0, 1, 2, 7, false⟩]),
  ([96, 91, 97, 93, 96], []),
  ([91, 97, 93, 10, 40, 98, 41], [⟨0, 1, 2, 3, false⟩]),
  ([91, 97, 93, 40, 10, 98, 41], [⟨0, 1, 2, 3, false⟩]),
  ([], [])]
/-- A table's rows, as they lie. -/
def TabOk (h : H) : List (List UInt8 × List Lk) → List Value → Prop
  | [], [] => True
  | r :: t, a :: b :: c => a = str r.1 ∧ Row 5 0 h b (encLs r.2) r.2.length ∧ TabOk h t c
  | _, _ => False
theorem TabOk.at {h : H} : ∀ {t : List (List UInt8 × List Lk)} {c : List Value}, TabOk h t c → c.length = t.length * 2 ∧ ∀ (i : Nat) (hi : i < t.length), c[i * 2]? = some (str t[i].1) ∧ ∃ b, c[i * 2 + 1]? = some b ∧ Row 5 0 h b (encLs t[i].2) t[i].2.length
  | [], [], _ => ⟨rfl, fun i hi => by simp at hi⟩
  | r :: t, a :: b :: c, h => by
    obtain ⟨h1, h2, h3⟩ := h
    obtain ⟨q1, q2⟩ := TabOk.at h3
    refine ⟨by simp [q1]; omega, fun i hi => ?_⟩
    cases i with
    | zero => exact ⟨by rw [h1]; rfl, b, rfl, h2⟩
    | succ i =>
      have := q2 i (by simpa using hi)
      rw [show (i + 1) * 2 = i * 2 + 1 + 1 by omega]
      simpa using this
  | [], _ :: _, h => h.elim
  | _ :: _, [], h => h.elim
  | _ :: _, [_], h => h.elim
theorem TabOk.cons {h : H} {r : List UInt8 × List Lk} {t : List (List UInt8 × List Lk)} {a b : Value} {c : List Value} (ha : a = str r.1) (h2 : Row 5 0 h b (encLs r.2) r.2.length) (h3 : TabOk h t c) : TabOk h (r :: t) (a :: b :: c) := ⟨ha, h2, h3⟩
theorem Row.of_cells {h : H} {g n : Nat} {L : List Lk} (hn : n = L.length) (hg : h.get g = some (.cells (encLs L) 5 true 0 none)) (hl : g < h.next) : Row 5 0 h (.slice (some ⟨g, 0, none⟩) n n) (encLs L) L.length := by
  subst hn
  exact .inr ⟨g, L.length, encLs L, rfl, Nat.le_refl _, Nat.zero_le _, hl, hg, encLs_len L, List.take_of_length_le (by rw [encLs_len]; exact Nat.le_refl _)⟩
theorem tabK_ok : ∀ r ∈ tabK, lksOf r.1 0 99 [[98], [97]] = r.2 ∧ r.1.length < 100 ∧ r.2.length < 100 := by decide +kernel
theorem kA : lksOf [91, 97, 96, 93, 96, 93] 0 99 [[97, 96]] = [] := by decide +kernel
theorem kB : lksOf [91, 97, 93, 40, 98, 41] (-1) 9 [] = [] := by decide +kernel
theorem kC : lksOf [120, 91, 97, 93, 40, 98, 41] 1 5 [[97]] = [⟨1, 2, 3, 4, false⟩] := by decide +kernel
theorem kD : mtL (pE [91, 66, 93, 32, 91, 97, 32, 98, 93, 91, 67, 93, 32, 91, 93, 32, 91, 100, 91, 101, 93, 32, 91, 96, 102, 93, 96] 99) 0 = [[96, 102], [97, 32, 98], [98], [99], [101]] := by unfold mtL; rw [← foldl_rise]; decide +kernel
theorem kE : mtL (pE [91, 97, 93] 2) 0 = [] := by unfold mtL; rw [← foldl_rise]; decide +kernel
theorem kF : mtL (pE [91, 97, 93] 9) (-1) = [] := by unfold mtL; rw [← foldl_rise]; decide +kernel
theorem kG : tgO (pE [40, 97, 41] 2) 0 = .tuple #[.int .i64 0, .bool false] := rfl
theorem kH : tgO (pE [40, 97, 41] 9) (-1) = .tuple #[.int .i64 0, .bool false] := rfl
section
variable {h : H}
set_option maxRecDepth 100000 in
set_option maxHeartbeats 16000000 in
theorem law_Known (h1 : h.one = []) (g : GmH h) :
    CallW E0 X0 (.fn 9) [] h (fun v _ => v = .bool true) := by
  refine CallW.body efn9 rfl rfl rfl [6] (by kernel_rfl) ?_
  simp [-wpd_seq, Tryz.f9, h1]
  iterate 1 ((repeat rw [wpd_seq]); simp [-wpd_seq, h1, zerosD, List.range, List.range.loop, bytesD, strB])
  iterate 1 ((repeat rw [wpd_seq]); simp [-wpd_seq, h1, zerosD, List.range, List.range.loop, bytesD, strB])
  refine wpd_cut (fun fr h' => fr.get 1 = some (str [96]) ∧ fr.get 2 = some (.slice (some ⟨h.next + 29, 0, none⟩) 44 44) ∧ (∃ c, h'.get (h.next + 29) = some (.cells c 2 true 0 none) ∧ TabOk h' tabK c) ∧ h.next + 29 < h'.next ∧ Fr h.next h h') ?_ ?_
  · simp [-wpd_seq, h1, zerosD, List.range, List.range.loop]
    refine ⟨?_, ?_⟩
    · unfold tabK
      repeat (refine TabOk.cons rfl (by first | exact .inl ⟨rfl, rfl, rfl⟩ | exact Row.of_cells rfl (by simp; rfl) (by simp)) ?_)
      exact trivial
    · repeat (first | exact Fr.refl h1 | refine Fr.nw ?_ (by simp) _)
  intro fr h2 _ ⟨g1, g2, ⟨c, hc, ht⟩, hcn, hF2⟩
  obtain ⟨hcl, hat⟩ := ht.at
  clear ht
  have hcl : c.length = 88 := hcl
  have htl : tabK.length = 44 := rfl
  have h21 := hF2.one
  have g22 := GmH.fr g hF2 g.2
  have hB2 := hF2.next
  iterate ((repeat rw [wpd_seq]); simp [-wpd_seq, h21])
  refine wpd_loop (fun (i : Nat) fr h' => fr.get 3 = some (.int .i64 i) ∧ i ≤ 44 ∧ Fr h2.next h2 h') (fun i => 44 - i) 0 ⟨by simp, Nat.zero_le _, Fr.refl h21⟩ ?_
  rintro i fr3 h3 ⟨k3, hi, hF3⟩ hf
  have k1 := hf 1 rfl
  have k2 := hf 2 rfl
  simp [g1, g2] at k1 k2
  clear hf
  have h31 := hF3.one
  have hc3 := (hF3.get (h.next + 29) hcn).trans hc
  have hF23 := hF3.next
  by_cases ci : i < 44
  · have hw : IntKind.i64.wrap ((i : Int) + 1) = (i : Int) + 1 := wrap_succ (by omega)
    obtain ⟨r1, wv, r2, hrow⟩ := hat i (by omega)
    obtain ⟨t1, t2, t3⟩ := tabK_ok tabK[i] (List.getElem_mem _)
    generalize tabK[i] = row at r1 hrow t1 t2 t3
    obtain ⟨ln, wn⟩ := row
    simp only at r1 hrow t1 t2 t3
    obtain ⟨wa, wcp, rfl⟩ := hrow.sl
    have h29 : ¬ h.next + 29 = h3.next := by omega
    have e1 : i * 2 + 2 ≤ c.length := by omega
    have e2 : i * 2 < c.length := by omega
    have e3 : i * 2 + 1 < c.length := by omega
    have r1' : c[i * 2] = str ln := by rw [List.getElem?_eq_getElem e2] at r1; exact Option.some.inj r1
    have r2' : c[i * 2 + 1] = .slice wa wn.length wcp := by rw [List.getElem?_eq_getElem e3] at r2; exact Option.some.inj r2
    iterate ((repeat rw [wpd_seq]); simp [-wpd_seq, h31, k1, k2, k3, ci])
    have hFk : Fr h2.next h3 (h3.nw (.cells [str [98], str [97]] 1 true 0 none)) := (Fr.refl h31).nw hF23 _
    have hrk : RdS (h3.nw (.cells [str [98], str [97]] 1 true 0 none)) (.slice (some ⟨h3.next, 0, none⟩) 2 2) [[98], [97]] := .inr ⟨h3.next, 2, [str [98], str [97]], 1, true, 0, none, rfl, Nat.le_refl _, by simp, by simp, rfl, .inr rfl⟩
    have hck : (h3.nw (.cells [str [98], str [97]] 1 true 0 none)).get (h.next + 29) = some (.cells c 2 true 0 none) := by rw [get_nw, if_neg (by omega)]; exact hc3
    have hF4 := hF3.trans hFk
    have hL := Lks_sp ln (by omega) 0 99 [[98], [97]] (by decide) _ hrk hFk.one (GmH.fr g22 hF4 g22.2)
    rw [t1] at hL
    refine ⟨laxW_of [(11, 6)] (by kernel_rfl) ?_, ?_⟩
    · simp [LaxP, h31, hc3, k2, k3, ci, e1, e2, e3, r1', r2', zerosD, List.range, List.range.loop]
      refine hL.mono ?_
      rintro va h5 ⟨hra, hF5⟩
      have hc5 := (hF5.get (h.next + 29) (by have := hFk.next; omega)).trans hck
      simp [hF5.one, k2, k3, ci, hc3, hc5, e1, e2, e3, r2', h29, zerosD, List.range, List.range.loop, LaxG_load, eqv, eqv0]
    · simp [-wpd_seq, h31, hc3, e1, e2, e3, r1', zerosD, List.range, List.range.loop]
      refine hL.mono ?_
      rintro va h5 ⟨hra, hF5⟩
      have hc5 := (hF5.get (h.next + 29) (by have := hFk.next; omega)).trans hck
      simp [-wpd_seq, hF5.one, k2, k3, ci, hc5, e1, e2, e3, r2']
      have hF25 := hF4.trans (hF5.mono hF4.next)
      have hrow5 : Row 5 0 h5 (.slice wa wn.length wcp) (encLs wn) wn.length := hrow.of_get hF25.next fun gg x y q => hF25.get gg (hrow.rng gg x y q).2
      refine (links_sp wn wn va _ (by omega) hra hrow5 hF5.one).mono ?_
      rintro _ h6 ⟨rfl, rfl⟩
      rw [decide_eq_true rfl]
      simp [hF5.one, k3, hw]
      exact ⟨i + 1, by omega, by omega, by omega, hF25⟩
  have him : i = 44 := by omega
  subst him
  iterate ((repeat rw [wpd_seq]); simp [-wpd_seq, h31, k1, k2, k3, zerosD, List.range, List.range.loop])
  have hFa : Fr h2.next h3 (h3.nw (.cells [str [97, 96]] 1 true 0 none)) := (Fr.refl h31).nw hF23 _
  have hra : RdS (h3.nw (.cells [str [97, 96]] 1 true 0 none)) (.slice (some ⟨h3.next, 0, none⟩) 1 1) [[97, 96]] := .inr ⟨h3.next, 1, [str [97, 96]], 1, true, 0, none, rfl, Nat.le_refl _, by simp, by simp, rfl, .inr rfl⟩
  have hF4 := hF3.trans hFa
  have hL := Lks_sp [91, 97, 96, 93, 96, 93] (by decide) 0 99 [[97, 96]] (by decide) _ hra hFa.one (GmH.fr g22 hF4 g22.2)
  rw [kA] at hL
  refine hL.mono ?_
  rintro va h5 ⟨hra, hF5⟩
  have hF25 := hF4.trans (hF5.mono hF4.next)
  obtain ⟨va1, va2, rfl⟩ := hra.sl
  clear hL hra
  iterate ((repeat rw [wpd_seq]); simp [-wpd_seq, hF5.one])
  refine (Target_sp [40, 97, 41] (by decide) 0 2 hF5.one (GmH.fr g22 hF25 g22.2)).mono ?_
  rintro _ h6 ⟨rfl, hF6⟩
  have hF26 := hF25.trans (hF6.mono hF25.next)
  rw [kG]
  iterate ((repeat rw [wpd_seq]); simp [-wpd_seq, hF6.one])
  refine (Target_sp [40, 97, 41] (by decide) (-1) 9 hF6.one (GmH.fr g22 hF26 g22.2)).mono ?_
  rintro _ h7 ⟨rfl, hF7⟩
  have hF27 := hF26.trans (hF7.mono hF26.next)
  rw [kH]
  iterate ((repeat rw [wpd_seq]); simp [-wpd_seq, hF7.one])
  have hr0 : ∀ h' : H, RdS h' (.slice none 0 0) [] := fun h' => .inl ⟨none, rfl, rfl⟩
  have hL := Lks_sp [91, 97, 93, 40, 98, 41] (by decide) (-1) 9 [] (by decide) _ (hr0 h7) hF7.one (GmH.fr g22 hF27 g22.2)
  rw [kB] at hL
  refine hL.mono ?_
  rintro vb h8 ⟨hrb, hF8⟩
  have hF28 := hF27.trans (hF8.mono hF27.next)
  obtain ⟨vb1, vb2, rfl⟩ := hrb.sl
  clear hL hrb
  simp [hF8.one, zerosD, List.range, List.range.loop]
  have hFc : Fr h2.next h8 (h8.nw (.cells [str [97]] 1 true 0 none)) := (Fr.refl hF8.one).nw hF28.next _
  have hrc : RdS (h8.nw (.cells [str [97]] 1 true 0 none)) (.slice (some ⟨h8.next, 0, none⟩) 1 1) [[97]] := .inr ⟨h8.next, 1, [str [97]], 1, true, 0, none, rfl, Nat.le_refl _, by simp, by simp, rfl, .inr rfl⟩
  have hF29 := hF28.trans hFc
  have hL := Lks_sp [120, 91, 97, 93, 40, 98, 41] (by decide) 1 5 [[97]] (by decide) _ hrc hFc.one (GmH.fr g22 hF29 g22.2)
  rw [kC] at hL
  refine hL.mono ?_
  rintro vc h9 ⟨hrc, hF9⟩
  have hF29 := hF29.trans (hF9.mono hF29.next)
  simp [hF9.one, zerosD, List.range, List.range.loop]
  have hFd : Fr h9.next h9 (h9.nw (.cells [.int .i64 1, .int .i64 2, .int .i64 3, .int .i64 4, .bool false] 5 true 0 none)) := (Fr.refl hF9.one).nw (Nat.le_refl _) _
  have hrd : Row 5 0 (h9.nw (.cells [.int .i64 1, .int .i64 2, .int .i64 3, .int .i64 4, .bool false] 5 true 0 none)) (.slice (some ⟨h9.next, 0, none⟩) 1 1) (encLs [⟨1, 2, 3, 4, false⟩]) 1 := Row.of_cells (L := [⟨1, 2, 3, 4, false⟩]) rfl (by simp; rfl) (by simp)
  have hrc2 := hrc.of_get hFd.next fun gg x y q => hFd.get gg (hrc.rng gg x y q).2
  refine (links_sp [⟨1, 2, 3, 4, false⟩] [⟨1, 2, 3, 4, false⟩] vc _ (by decide) hrc2 hrd hFd.one).mono ?_
  rintro _ h10 ⟨rfl, rfl⟩
  rw [decide_eq_true rfl]
  have hF2d := hF29.trans (hFd.mono hF29.next)
  clear hL hrc hrc2 hrd
  simp [hF9.one, zerosD, List.range, List.range.loop]
  generalize (h9.nw (.cells [.int .i64 1, .int .i64 2, .int .i64 3, .int .i64 4, .bool false] 5 true 0 none)) = h11 at hF2d hFd
  have o11 := hFd.one
  clear hF9 hFd
  simp [o11, k1]
  have hM := Mentions_sp [91, 66, 93, 32, 91, 97, 32, 98, 93, 91, 67, 93, 32, 91, 93, 32, 91, 100, 91, 101, 93, 32, 91, 96, 102, 93, 96] (by decide) 0 99 o11 (GmH.fr g22 hF2d g22.2)
  rw [kD] at hM
  refine hM.mono ?_
  rintro vd h12 ⟨hrd, hF12⟩
  have hF2e := hF2d.trans (hF12.mono hF2d.next)
  simp [hF12.one, k1, zerosD, List.range, List.range.loop]
  have hFe : Fr h12.next h12 (h12.nw (.cells [str [96, 102], str [97, 32, 98], str [98], str [99], str [101]] 1 true 0 none)) := (Fr.refl hF12.one).nw (Nat.le_refl _) _
  have hre : RdS (h12.nw (.cells [str [96, 102], str [97, 32, 98], str [98], str [99], str [101]] 1 true 0 none)) (.slice (some ⟨h12.next, 0, none⟩) 5 5) [[96, 102], [97, 32, 98], [98], [99], [101]] := .inr ⟨h12.next, 5, [str [96, 102], str [97, 32, 98], str [98], str [99], str [101]], 1, true, 0, none, rfl, Nat.le_refl _, by simp, by simp, rfl, .inr rfl⟩
  refine (texts_sp _ _ vd _ (by decide) (hrd.fr hFe) hre hFe.one).mono ?_
  rintro _ h13 ⟨rfl, rfl⟩
  rw [decide_eq_true rfl]
  have hF2f := hF2e.trans (hFe.mono hF2e.next)
  generalize (h12.nw (.cells [str [96, 102], str [97, 32, 98], str [98], str [99], str [101]] 1 true 0 none)) = h14 at hF2f hFe
  have o14 := hFe.one
  clear hF12 hFe hre hM hrd
  simp [o14]
  have hM := Mentions_sp [91, 97, 93] (by decide) 0 2 o14 (GmH.fr g22 hF2f g22.2)
  rw [kE] at hM
  refine hM.mono ?_
  rintro ve h15 ⟨hre, hF15⟩
  have hF2g := hF2f.trans (hF15.mono hF2f.next)
  obtain ⟨ve1, ve2, rfl⟩ := hre.sl
  clear hM hre
  simp [hF15.one]
  have hM := Mentions_sp [91, 97, 93] (by decide) (-1) 9 hF15.one (GmH.fr g22 hF2g g22.2)
  rw [kF] at hM
  refine hM.mono ?_
  rintro vf h16 ⟨hrf, hF16⟩
  have hF2h := hF2g.trans (hF16.mono hF2g.next)
  obtain ⟨vf1, vf2, rfl⟩ := hrf.sl
  clear hM hrf
  simp [hF16.one]
  refine (reads_sp hF16.one (GmH.fr g22 hF2h g22.2)).mono ?_
  rintro _ h17 ⟨rfl, hF17⟩
  simp [hF17.one]
end
end Go.Dm
