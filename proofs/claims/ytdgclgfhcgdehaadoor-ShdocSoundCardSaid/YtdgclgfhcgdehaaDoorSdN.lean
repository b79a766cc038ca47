/- ShdocScans and ShdocEnds answer true. -/
import Derived.Test.YtdgclgfhcgdehaaDoorSdL
set_option linter.unusedVariables false
set_option linter.unusedSimpArgs false
namespace Go.Dm
open Go.Proofs
theorem ge_of {l : List Value} {k : Nat} {v : Value} (e : l[k]? = some v) (h : k < l.length) : l[k]'h = v := by rw [List.getElem?_eq_getElem h] at e; exact Option.some.inj e
section
variable {s : ShS} (ok : s.ok)
include ok
theorem ge_mode (h : 65 < (encS s).length) : (encS s)[65]'h = .int .u8 s.mode := ge_of (st_mode ok) h
theorem ge_wait (h : 81 < (encS s).length) : (encS s)[81]'h = .int .i64 s.wait := ge_of (st_wait ok) h
theorem ge_word0 (h : 69 < (encS s).length) : (encS s)[69]'h = str (docK s 0).word := ge_of (st_word ok (i := 0) (by decide)) h
end
def wkS : ShS := { zS with mode := 2, wait := 1, docs := [⟨[69], false, false⟩, zD, zD, zD] }
def wkE : List ShE := [⟨1, 50, 0, 0⟩, ⟨3, 51, 0, 3⟩, ⟨3, 52, 4, 6⟩, ⟨3, 51, 6, 7⟩, ⟨2, 0, 7, 0⟩, ⟨1, 55, 8, 0⟩]
theorem wk_scan : scanN zS [99, 97, 116, 32, 60, 60, 69, 10] = (wkE, wkS) := by kernel_rfl
theorem wk_own : ownN wkS = true := by kernel_rfl
theorem wk_end : endN wkS = [⟨3, 2, 0, 0⟩, ⟨2, 0, 0, 0⟩] := by kernel_rfl
theorem wkS_ok : wkS.ok := ⟨rfl, rfl⟩
/-- Two events held against each other. -/
theorem eqv_ev (a b c d a' b' c' d' : Nat) : eqD E0 10000 41 (.agg #[.int .u8 a, .int .u8 b, .int .i64 c, .int .i64 d]) (.agg #[.int .u8 a', .int .u8 b', .int .i64 c', .int .i64 d']) = some (decide ((⟨a, b, c, d⟩ : ShE) = ⟨a', b', c', d'⟩)) := eq_ev ⟨a, b, c, d⟩ ⟨a', b', c', d'⟩
set_option maxRecDepth 100000 in
set_option maxHeartbeats 8000000 in
theorem wakes_sp (h : H) (h1 : h.one = []) (hg : Gl h) (hg0 : 0 < h.next) :
    CallW E0 X0 (.fn 9) [] h (fun r h' => r = .bool true ∧ Fr h.next h h') := by
  refine CallW.body efn9 rfl rfl rfl [] (by kernel_rfl) ?_
  simp [-wpd_seq, Tryd.f9, h1, zcells]
  iterate 2 ((repeat rw [wpd_seq]); simp [-wpd_seq, h1, zcells])
  refine (Scan_sp zS zS_ok [99, 97, 116, 32, 60, 60, 69, 10] (by decide) h h1 hg hg0).mono ?_
  rintro _ h2 ⟨v, rfl, sl, f2⟩
  rw [wk_scan] at sl ⊢
  rcases sl with ⟨e, _⟩ | ⟨_, _, g, g1, g2, rfl, hgg⟩
  · cases e
  have ok := wkS_ok
  have m1 : (encS wkS)[65]? = some (.int .u8 (2 : Nat)) := st_mode ok
  have m2 : (encS wkS)[81]? = some (.int .i64 1) := st_wait ok
  have m3 : (encS wkS)[69]? = some (str [69]) := st_word ok (i := 0) (by decide)
  have l1 : wkE.length = 6 := rfl
  have c1 : encEs wkE = [.int .u8 1, .int .u8 50, .int .i64 0, .int .i64 0, .int .u8 3, .int .u8 51, .int .i64 0, .int .i64 3, .int .u8 3, .int .u8 52, .int .i64 4, .int .i64 6, .int .u8 3, .int .u8 51, .int .i64 6, .int .i64 7, .int .u8 2, .int .u8 0, .int .i64 7, .int .i64 0, .int .u8 1, .int .u8 55, .int .i64 8, .int .i64 0] := rfl
  have gn : ¬ g = h2.next := by omega
  rw [c1] at hgg
  have st1 : setAt (encS zS) 0 (encS wkS) = encS wkS := st_over zS_ok ok
  have zl := encS_len zS_ok
  simp [-wpd_seq, f2.one, l1, zcells, encS_len ok, zl, eq_true (st_cv wkS), st1]
  obtain ⟨h3, hh3⟩ : ∃ h3, h3 = (h2.nw (.cells (encS zS) 0 true 0 none)).put h2.next (.cells (encS wkS) 0 true 0 none) := ⟨_, rfl⟩
  rw [← hh3]
  have o3 : h3.one = [] := by rw [hh3]; rfl
  have f3 : Fr h.next h h3 := by rw [hh3]; exact (f2.nw f2.next _).put f2.next _
  have b3 : h3.get h2.next = some (.cells (encS wkS) 0 true 0 none) := by rw [hh3]; simp
  have n3 : h3.next = h2.next + 1 := by rw [hh3]; rfl
  have g3 : h3.get g = _ := (by rw [hh3]; simp [gn] : h3.get g = h2.get g).trans hgg
  clear hh3
  have d0 : (docK wkS 0).word = [69] := rfl
  have d1 : wkS.wait = 1 := rfl
  have d2 : wkS.mode = 2 := rfl
  simp [o3, g3, b3, m1, m2, m3, st_all ok, st_le ok]
  refine (Own_sp wkS ok h3 o3).mono ?_
  rintro _ h4 ⟨rfl, f4⟩
  have b4 := (f4.get _ (by omega)).trans b3
  simp [f4.one, wk_own, b4, st_all ok, st_le ok]
  refine (End_sp wkS ok h4 f4.one).mono ?_
  rintro _ h5 ⟨sl5, f5⟩
  rw [wk_end] at sl5
  obtain ⟨a5, rfl⟩ := sl5.slice
  simp [f5.one]
  exact f3.thn (Nat.le_refl _) (f4.thn (Nat.le_refl _) f5)
theorem prun_len (line : List UInt8) : ∀ (l : List Pc) (x : PS), (prun line l x).ev.length ≤ x.ev.length + 2 * l.length
  | [], x => by simp [prun]
  | p :: r, x => by
    have := prun_len line r (pstep line p r x)
    have h2 : (pstep line p r x).ev.length ≤ x.ev.length + 2 := by unfold pstep; simp only [List.length_append]; split <;> simp
    simp only [prun, List.length_cons] at this ⊢
    omega
theorem scan_len (s : ShS) (line : List UInt8) : (scanN s line).1.length ≤ 2 * line.length + 8 := by
  have h1 := prun_len line (rdAt line 0 (base s).mark).1 ⟨[], base s, decide ((base s).mode = 1), 0, false⟩
  have h2 := len_bnd line (base s).mark
  unfold scanN
  split
  · simp
  · split
    · unfold textN
      generalize (if (docK (base s) 0).strip then tabsN (ctn line) else 0) = f
      simp only
      split
      · simp
      · split <;> simp <;> omega
    · unfold piecesN
      simp only [List.length_nil] at h1
      simp only
      split
      · dsimp only; omega
      · simp only [List.length_append]
        have h3 : ∀ b : Bool, ∀ n : Nat, (if b then [(⟨2, 0, n, 0⟩ : ShE)] else []).length ≤ 1 := by intro b n; cases b <;> simp
        have h4 := h3 (prun line (rdAt line 0 (base s).mark).1 ⟨[], base s, decide ((base s).mode = 1), 0, false⟩).opn (prun line (rdAt line 0 (base s).mark).1 ⟨[], base s, decide ((base s).mode = 1), 0, false⟩).fin
        have h5 : ∀ q, (docEv line q).length ≤ 1 := by intro q; unfold docEv; split <;> simp
        have h6 := h5 (prun line (rdAt line 0 (base s).mark).1 ⟨[], base s, decide ((base s).mode = 1), 0, false⟩).st
        omega
theorem Gl.fr {B : Nat} {h h' : H} (g : Gl h) (f : Fr B h h') (hB : 0 < B) : Gl h' := (f.get _ hB).trans g
set_option maxRecDepth 100000 in
set_option maxHeartbeats 8000000 in
theorem law_Scans (s : ShS) (hs : s.ok) (line : List UInt8) (h : H) (h1 : h.one = []) (hg : Gl h) (hg0 : 0 < h.next) :
    CallW E0 X0 (.fn 3) [.agg (encS s).toArray, str line] h (fun r _ => r = .bool true) := by
  refine CallW.body efn3 rfl rfl rfl [] (by kernel_rfl) ?_
  have f1 : Fr h.next h (h.nw (.cells (encS s) 0 true 0 none)) := (Fr.refl h1).nw (Nat.le_refl _) _
  by_cases hl : 16384 < line.length
  · have hl' : (16384 : Int) < line.length := by omega
    simp [Tryd.f3, h1, hl, hl']
    refine (wakes_sp _ (by simp) (hg.fr f1 hg0) (by simp)).mono ?_
    rintro _ h2 ⟨rfl, f2⟩
    simp [f2.one]
  have hl' : ¬ (16384 : Int) < line.length := by omega
  have hl2 : line.length ≤ 16384 := by omega
  obtain ⟨h2, hh2⟩ : ∃ h2, h2 = h.nw (.cells (encS s) 0 true 0 none) := ⟨_, rfl⟩
  have b2 : h2.get h.next = some (.cells (encS s) 0 true 0 none) := by rw [hh2]; simp
  have o2 : h2.one = [] := by rw [hh2]; rfl
  have n2 : h2.next = h.next + 1 := by rw [hh2]; rfl
  rw [← hh2] at f1
  have g2 := hg.fr f1 hg0
  have hT := scanN_ok hs line
  have sp1 := Scan_sp s hs line (by omega) h2 o2 g2 (by omega)
  have sp2 := fun h h1 => RefScan_sp s hs line (by omega) h h1
  have hlen0 := scan_len s line
  generalize scanN s line = T at hT sp1 sp2 hlen0
  have hcv := st_cv T.2
  have hz : setAt (encS zS) 0 (encS T.2) = encS T.2 := st_over zS_ok hT
  have hzl := encS_len zS_ok
  have hTl := encS_len hT
  simp [-wpd_seq, Tryd.f3, h1]
  iterate 2 ((repeat rw [wpd_seq]); simp [-wpd_seq, h1, hl, hl'])
  rw [← hh2]
  iterate 1 ((repeat rw [wpd_seq]); simp [-wpd_seq, o2, b2, st_all hs, st_le hs])
  refine sp1.mono ?_
  rintro _ h3 ⟨v3, rfl, sl3, f3⟩
  have n3 := f3.next
  have b3 := (f3.get _ (by omega)).trans b2
  simp [-wpd_seq, f3.one, zcells, hTl, eq_true hcv, hz, hzl]
  obtain ⟨h4, hh4⟩ : ∃ h4, h4 = (h3.nw (.cells (encS zS) 0 true 0 none)).put h3.next (.cells (encS T.2) 0 true 0 none) := ⟨_, rfl⟩
  rw [← hh4]
  have b4 : h4.get h.next = some (.cells (encS s) 0 true 0 none) := by rw [hh4]; simp [show ¬ h.next = h3.next by omega, b3]
  have c4 : h4.get h3.next = some (.cells (encS T.2) 0 true 0 none) := by rw [hh4]; simp
  have o4 : h4.one = [] := by rw [hh4]; rfl
  have n4 : h4.next = h3.next + 1 := by rw [hh4]; rfl
  have f4 : Fr h.next h h4 := by rw [hh4]; exact ((f1.trans (f3.mono (by omega))).nw (by omega) _).put (by omega) _
  have sl4 : SlG none 4 h2.next h4 v3 (encEs T.1) T.1.length := by rw [hh4]; exact sl3.of_get (by simp) fun g _ hg => by simp [show ¬ g = h3.next by omega]
  clear hh4
  iterate 1 ((repeat rw [wpd_seq]); simp [-wpd_seq, o4, b4, st_all hs, st_le hs])
  refine (sp2 h4 o4).mono ?_
  rintro _ h5 ⟨v5, rfl, sl5, f5⟩
  have n5 := f5.next
  have c5 := (f5.get _ (by omega)).trans c4
  have sl45 : SlG none 4 h2.next h5 v3 (encEs T.1) T.1.length := sl4.of_get n5 fun g _ hg => f5.get g hg
  simp [-wpd_seq, f5.one, zcells, hTl, eq_true hcv, hz, hzl]
  obtain ⟨h6, hh6⟩ : ∃ h6, h6 = (h5.nw (.cells (encS zS) 0 true 0 none)).put h5.next (.cells (encS T.2) 0 true 0 none) := ⟨_, rfl⟩
  rw [← hh6]
  have c6 : h6.get h3.next = some (.cells (encS T.2) 0 true 0 none) := by rw [hh6]; simp [show ¬ h3.next = h5.next by omega, c5]
  have d6 : h6.get h5.next = some (.cells (encS T.2) 0 true 0 none) := by rw [hh6]; simp
  have o6 : h6.one = [] := by rw [hh6]; rfl
  have n6 : h6.next = h5.next + 1 := by rw [hh6]; rfl
  have f6 : Fr h.next h h6 := by rw [hh6]; exact ((f4.trans (f5.mono (by omega))).nw (by omega) _).put (by omega) _
  have sl6 : SlG none 4 h4.next h6 v5 (encEs T.1) T.1.length := by rw [hh6]; exact sl5.of_get (by simp) fun g _ hg => by simp [show ¬ g = h5.next by omega]
  have sl36 : SlG none 4 h2.next h6 v3 (encEs T.1) T.1.length := by rw [hh6]; exact sl45.of_get (by simp) fun g _ hg => by simp [show ¬ g = h5.next by omega]
  clear hh6
  have hlen : T.1.length < 2 ^ 40 := by omega
  simp [o6]
  refine (sameE_sp T.1 T.1 _ _ v3 v5 hlen h6 o6 sl36 sl6).mono ?_
  rintro _ h7 ⟨rfl, rfl⟩
  simp [o6, c6, d6, st_all hT, st_le hT, -eqD_succ, eq_st hT hT]
  refine (wakes_sp h7 o6 (hg.fr f6 hg0) (by omega)).mono ?_
  rintro _ h8 ⟨rfl, f8⟩
  simp [f8.one]
theorem end_len (s : ShS) : (endN s).length ≤ (s.wait + 3).toNat + 3 := by
  unfold endN
  split
  · simp
  · simp only [List.length_append, List.length_replicate, List.length_cons, List.length_nil]
    split <;> omega
set_option maxRecDepth 100000 in
set_option maxHeartbeats 8000000 in
theorem law_Ends (s : ShS) (hs : s.ok) (h : H) (h1 : h.one = []) (hg : Gl h) (hg0 : 0 < h.next) :
    CallW E0 X0 (.fn 4) [.agg (encS s).toArray] h (fun r _ => r = .bool true) := by
  refine CallW.body efn4 rfl rfl rfl [1] (by kernel_rfl) ?_
  obtain ⟨h2, hh2⟩ : ∃ h2, h2 = h.nw (.cells (encS s) 0 true 0 none) := ⟨_, rfl⟩
  have b2 : h2.get h.next = some (.cells (encS s) 0 true 0 none) := by rw [hh2]; simp
  have o2 : h2.one = [] := by rw [hh2]; rfl
  have n2 : h2.next = h.next + 1 := by rw [hh2]; rfl
  have f2 : Fr h.next h h2 := by rw [hh2]; exact (Fr.refl h1).nw (Nat.le_refl _) _
  simp [-wpd_seq, Tryd.f4, h1]
  iterate 1 ((repeat rw [wpd_seq]); simp [-wpd_seq, h1])
  rw [← hh2]
  clear hh2
  have hend : (endN s).length < 2 ^ 40 := by
    by_cases ho : ownN s = true
    · have := end_len s; have := (own_spec ho).1; omega
    · unfold endN; rw [if_pos (.inl (by simpa using ho))]; simp
  have hle := st_le hs
  have hta := st_all hs
  have c1 : ∀ {K : VPost}, (∀ h3, h3.one = [] → h3.get h.next = some (.cells (encS s) 0 true 0 none) → Fr h.next h h3 → h.next < h3.next → K (.bool (ownN s)) h3) → CallW E0 X0 (.fn 13) [.agg (encS s).toArray] h2 K := fun k =>
    (Own_sp s hs h2 o2).mono fun r h3 ⟨e, f⟩ => by subst e; exact k h3 f.one ((f.get _ (by omega)).trans b2) (f2.trans (f.mono (by omega))) (by have := f.next; omega)
  have c2 : ∀ {K : VPost} h3, h3.one = [] → h3.get h.next = some (.cells (encS s) 0 true 0 none) → Fr h.next h h3 → h.next < h3.next → (∀ h4, h4.one = [] → h4.get h.next = some (.cells (encS s) 0 true 0 none) → Fr h.next h h4 → h.next < h4.next → K (.bool (ownN s)) h4) → CallW E0 X0 (.fn 14) [.agg (encS s).toArray] h3 K := fun h3 o3 b3 f3 n3 k =>
    (RefOwn_sp s hs h3 o3).mono fun r h4 ⟨e, f⟩ => by subst e; exact k h4 f.one ((f.get _ (by omega)).trans b3) (f3.trans (f.mono (by omega))) (by have := f.next; omega)
  have c3 : ∀ {K : VPost} h4, h4.one = [] → h4.get h.next = some (.cells (encS s) 0 true 0 none) → Fr h.next h h4 → h.next < h4.next → (∀ v h5, SlG none 4 h4.next h5 v (encEs (endN s)) (endN s).length → h5.one = [] → h5.get h.next = some (.cells (encS s) 0 true 0 none) → Fr h.next h h5 → h.next < h5.next → K v h5) → CallW E0 X0 (.fn 15) [.agg (encS s).toArray] h4 K := fun h4 o4 b4 f4 n4 k =>
    (End_sp s hs h4 o4).mono fun r h5 ⟨sl, f⟩ => k r h5 sl f.one ((f.get _ (by omega)).trans b4) (f4.trans (f.mono (by omega))) (by have := f.next; omega)
  have z : eqvL (encS s) (encS s) = true := eqv_encS s
  (repeat rw [wpd_seq]); simp
  refine ⟨laxW_of [(2, 1), (8, 7)] (by kernel_rfl) ?_, ?_⟩
  · intro p hp
    simp only [List.mem_cons, List.not_mem_nil, or_false] at hp
    rcases hp with rfl | rfl
    · simp [LaxP, o2, b2, hle, hta]
      refine c1 ?_
      intro h3 o3 b3 f3 n3
      simp [o2, o3, b2, b3, hle, hta, LaxG_load, z]
    · simp [LaxP, o2, b2, hle, hta]
      refine c1 ?_
      intro h3 o3 b3 f3 n3
      simp [o3, b3, hle, hta]
      refine c2 h3 o3 b3 f3 n3 ?_
      intro h4 o4 b4 f4 n4
      simp [o4, b4, hle, hta]
      refine c3 h4 o4 b4 f4 n4 ?_
      intro v5 h5 sl5 o5 b5 f5 n5
      simp [o2, o5, b5, b2, hle, hta]
      refine c1 ?_
      intro h3 o3 b3 f3 n3
      simp [o3, b3, hle, hta]
      refine c2 h3 o3 b3 f3 n3 ?_
      intro h4 o4 b4 f4 n4
      simp [o4, b4, b5, hle, hta, LaxG_load, z]
  simp [b2, o2, hle, hta]
  refine c1 ?_
  intro h3 o3 b3 f3 n3
  simp [o3, b3, hle, hta]
  refine c2 h3 o3 b3 f3 n3 ?_
  intro h4 o4 b4 f4 n4
  simp [o4, b4, hle, hta]
  refine c3 h4 o4 b4 f4 n4 ?_
  intro v5 h5 sl5 o5 b5 f5 n5
  simp [o5, b5, hle, hta]
  refine (RefEnd_sp s hs h5 o5).mono ?_
  rintro v6 h6 ⟨sl6, f6⟩
  have n6 := f6.next
  simp [f6.one]
  refine (sameE_sp _ _ _ _ v5 v6 hend h6 f6.one (sl5.of_get n6 fun g _ hg => f6.get g hg) sl6).mono ?_
  rintro _ h7 ⟨rfl, rfl⟩
  have f7 : Fr h.next h h7 := f5.trans (f6.mono (by omega))
  simp [f6.one]
  refine (wakes_sp h7 f6.one (hg.fr f7 hg0) (by omega)).mono ?_
  rintro _ h8 ⟨rfl, f8⟩
  simp [f8.one]
end Go.Dm
