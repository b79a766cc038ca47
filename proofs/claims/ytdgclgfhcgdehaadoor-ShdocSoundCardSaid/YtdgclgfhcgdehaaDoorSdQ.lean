/- ShdocLines answers true. -/
import Derived.Test.YtdgclgfhcgdehaaDoorSdN
set_option linter.unusedVariables false
set_option linter.unusedSimpArgs false
namespace Go.Dm
open Go.Proofs
/-- A slice of strings that is only read. -/
def RdS (h : H) (v : Value) (l : List (List UInt8)) : Prop := (v = .slice none 0 0 ∧ l = []) ∨ ∃ b cap st own fz ty, v = .slice (some ⟨b, 0, none⟩) l.length cap ∧ l.length ≤ cap ∧ h.get b = some (.cells (l.map str) st own fz ty) ∧ (st = 0 ∨ st = 1) ∧ b < h.next
theorem RdS.fr {h h' : H} {v : Value} {l : List (List UInt8)} (r : RdS h v l) (f : Fr h.next h h') : RdS h' v l := by
  rcases r with r | ⟨b, cap, st, own, fz, ty, a1, a2, a3, a4, a5⟩
  · exact .inl r
  · exact .inr ⟨b, cap, st, own, fz, ty, a1, a2, (f.get b a5).trans a3, a4, Nat.lt_of_lt_of_le a5 f.next⟩
theorem RdS.sl {h : H} {v : Value} {l : List (List UInt8)} (r : RdS h v l) : ∃ a cap, v = .slice a l.length cap := by
  rcases r with ⟨rfl, rfl⟩ | ⟨b, cap, st, own, fz, ty, rfl, _⟩
  · exact ⟨none, 0, rfl⟩
  · exact ⟨_, _, rfl⟩
theorem RdS.at {h : H} {v : Value} {l : List (List UInt8)} (r : RdS h v l) {i : Nat} (hi : i < l.length) : ∃ b cap st own fz ty, v = .slice (some ⟨b, 0, none⟩) l.length cap ∧ h.get b = some (.cells (l.map str) st own fz ty) ∧ (l.map str)[i]? = some (str l[i]) ∧ b < h.next := by
  rcases r with ⟨rfl, rfl⟩ | ⟨b, cap, st, own, fz, ty, rfl, _, a3, _, a5⟩
  · simp at hi
  · exact ⟨b, cap, st, own, fz, ty, rfl, a3, by simp [hi], a5⟩
structure LnI (h : H) (l : List (List UInt8)) (i : Nat) (S : ShS) (fr : T Value) (h' : H) : Prop where
  f5 : fr.get 5 = some (.int .i64 i)
  le : i ≤ l.length
  ok : S.ok
  sa : h'.get h.next = some (.cells (encS S) 0 true 0 none)
  sb : h'.get (h.next + 1) = some (.cells (encS S) 0 true 0 none)
  fr : Fr h.next h h'
  nx : h.next + 2 ≤ h'.next
set_option maxRecDepth 100000 in
set_option maxHeartbeats 16000000 in
theorem law_Lines (l : List (List UInt8)) (v : Value) {h : H} (hr : RdS h v l) (h1 : h.one = []) (hg : Gl h) (hg0 : 0 < h.next) :
    CallW E0 X0 (.fn 5) [v] h (fun r _ => r = .bool true) := by
  refine CallW.body efn5 rfl rfl rfl [15] (by kernel_rfl) ?_
  obtain ⟨a, cap, hv⟩ := hr.sl
  by_cases hl : 200 < l.length
  · have hl' : (200 : Int) < l.length := by omega
    subst hv
    simp [Tryd.f5, h1, hl, hl']
    refine (wakes_sp h h1 hg hg0).mono ?_
    rintro _ h2 ⟨rfl, f2⟩
    simp [f2.one]
  have hl' : ¬ (200 : Int) < l.length := by omega
  have hzl := encS_len zS_ok
  simp [-wpd_seq, Tryd.f5, h1]
  iterate 3 ((repeat rw [wpd_seq]); simp [-wpd_seq, h1, hv, hl, hl', zcells])
  iterate 1 ((repeat rw [wpd_seq]); simp [-wpd_seq])
  obtain ⟨h2, hh2⟩ : ∃ h2, h2 = (h.nw (.cells (encS zS) 0 true 0 none)).nw (.cells (encS zS) 0 true 0 none) := ⟨_, rfl⟩
  rw [← hh2]
  refine wpd_loop (fun (q : Nat × ShS) fr h' => LnI h l q.1 q.2 fr h') (fun q => l.length - q.1) (0, zS) ?_ ?_
  · exact ⟨by simp, Nat.zero_le _, zS_ok, by rw [hh2]; simp, by rw [hh2]; simp, by rw [hh2]; exact ((Fr.refl h1).nw (Nat.le_refl _) _).nw (by simp) _, by rw [hh2]; simp⟩
  clear hh2 h2
  rintro ⟨i, S⟩ fr h2 st hfe
  have g0 := hfe 0 rfl
  have g3 := hfe 3 rfl
  have g4 := hfe 4 rfl
  simp at g0 g3 g4
  clear hfe
  obtain ⟨f5, hil, hok, sa, sb, f2, n2⟩ := st
  simp only at f5 hil hok sa sb f2 n2
  have o2 := f2.one
  by_cases hi : i < l.length
  · obtain ⟨b, cap', st, own, fz, ty, e, hb, hat, hbn⟩ := hr.at hi
    rw [hv] at e
    obtain ⟨rfl, rfl⟩ : a = some ⟨b, 0, none⟩ ∧ cap = cap' := by cases e; exact ⟨rfl, rfl⟩
    have hb2 := (f2.get b hbn).trans hb
    have hi' : (i : Int) < l.length := by omega
    have w0 : IntKind.i64.wrap ((i : Int) + 1) = ((i + 1 : Nat) : Int) := wrap_succ (by omega)
    iterate 3 ((repeat rw [wpd_seq]); simp [-wpd_seq, -List.getElem?_map, f5, g0, hv, hi, hi', o2, hb2, hat])
    by_cases hlong : 4096 < l[i].length
    · simp [hlong, o2]
      refine (wakes_sp h2 o2 (hg.fr f2 hg0) (by omega)).mono ?_
      rintro _ h3 ⟨rfl, f3⟩
      simp [f3.one]
    simp [-wpd_seq, hlong]
    have hT := scanN_ok hok l[i]
    have hlen := scan_len S l[i]
    have sp1 := Scan_sp S hok l[i] (by omega) h2 o2 (hg.fr f2 hg0) (by omega)
    have sp2 := fun h h1 => RefScan_sp S hok l[i] (by omega) h h1
    generalize scanN S l[i] = T at hT sp1 sp2 hlen
    have hTl := encS_len hT
    have hz : setAt (encS zS) 0 (encS T.2) = encS T.2 := st_over zS_ok hT
    have hz2 : setAt (encS S) 0 (encS T.2) = encS T.2 := st_over hok hT
    iterate 1 ((repeat rw [wpd_seq]); simp [-wpd_seq, -List.getElem?_map, f5, g0, g3, hv, hi, hi', o2, hb2, hat, sa, st_all hok, st_le hok])
    refine sp1.mono ?_
    rintro _ h3 ⟨v3, rfl, sl3, f3⟩
    have n3 := f3.next
    have f03 := f2.trans (f3.mono (by omega))
    simp [-wpd_seq, f3.one, zcells, hTl, eq_true (st_cv T.2), hz, hzl]
    obtain ⟨h4, hh4⟩ : ∃ h4, h4 = (h3.nw (.cells (encS zS) 0 true 0 none)).put h3.next (.cells (encS T.2) 0 true 0 none) := ⟨_, rfl⟩
    rw [← hh4]
    have o4 : h4.one = [] := by rw [hh4]; rfl
    have n4 : h4.next = h3.next + 1 := by rw [hh4]; rfl
    have c4 : h4.get h3.next = some (.cells (encS T.2) 0 true 0 none) := by rw [hh4]; simp
    have f34 : Fr h3.next h3 h4 := by rw [hh4]; exact ((Fr.refl f3.one).nw (Nat.le_refl _) _).put (Nat.le_refl _) _
    have f24 : Fr h2.next h2 h4 := f3.trans (f34.mono (by omega))
    have sl4 : SlG none 4 h2.next h4 v3 (encEs T.1) T.1.length := by rw [hh4]; exact sl3.of_get (by simp) fun g _ hg => by simp [show ¬ g = h3.next by omega]
    clear hh4
    have hb4 := (f24.get b (by have := f2.next; omega)).trans hb2
    have sb4 := (f24.get (h.next + 1) (by omega)).trans sb
    iterate 1 ((repeat rw [wpd_seq]); simp [-wpd_seq, -List.getElem?_map, f5, g0, g4, hv, hi, hi', o4, hb4, hat, sb4, st_all hok, st_le hok])
    refine (sp2 h4 o4).mono ?_
    rintro _ h5 ⟨v5, rfl, sl5, f45⟩
    have n5 := f45.next
    have c5 := (f45.get _ (by omega)).trans c4
    have sl45 : SlG none 4 h2.next h5 v3 (encEs T.1) T.1.length := sl4.of_get n5 fun g _ hg => f45.get g hg
    have f25 : Fr h2.next h2 h5 := f24.trans (f45.mono (by omega))
    simp [-wpd_seq, f45.one, zcells, hTl, eq_true (st_cv T.2), hz, hzl]
    obtain ⟨h6, hh6⟩ : ∃ h6, h6 = (h5.nw (.cells (encS zS) 0 true 0 none)).put h5.next (.cells (encS T.2) 0 true 0 none) := ⟨_, rfl⟩
    rw [← hh6]
    have c6 : h6.get h3.next = some (.cells (encS T.2) 0 true 0 none) := by rw [hh6]; simp [show ¬ h3.next = h5.next by omega, c5]
    have d6 : h6.get h5.next = some (.cells (encS T.2) 0 true 0 none) := by rw [hh6]; simp
    have o6 : h6.one = [] := by rw [hh6]; rfl
    have n6 : h6.next = h5.next + 1 := by rw [hh6]; rfl
    have f56 : Fr h5.next h5 h6 := by rw [hh6]; exact ((Fr.refl f45.one).nw (Nat.le_refl _) _).put (Nat.le_refl _) _
    have f26 : Fr h2.next h2 h6 := f25.trans (f56.mono (by omega))
    have sl6 : SlG none 4 h4.next h6 v5 (encEs T.1) T.1.length := by rw [hh6]; exact sl5.of_get (by simp) fun g _ hg => by simp [show ¬ g = h5.next by omega]
    have sl36 : SlG none 4 h2.next h6 v3 (encEs T.1) T.1.length := by rw [hh6]; exact sl45.of_get (by simp) fun g _ hg => by simp [show ¬ g = h5.next by omega]
    clear hh6
    have sa6 := (f26.get _ (by omega)).trans sa
    have sb6 := (f26.get _ (by omega)).trans sb
    (repeat rw [wpd_seq]); simp [o6]
    refine (sameE_sp T.1 T.1 _ _ v3 v5 (by omega) h6 o6 sl36 sl6).mono ?_
    rintro _ h7 ⟨rfl, rfl⟩
    have x1 : ¬ h3.next = h.next := by omega
    have x2 : ¬ h5.next = h.next := by omega
    have x3 : ¬ h5.next = h.next + 1 := by omega
    simp [o6, c6, d6, st_all hT, st_le hT, -eqD_succ, eq_st hT hT, g3, g4, sa6, sb6, x1, x2, x3, hTl, eq_true (st_cv T.2), st_le hok, hz2, f5, w0]
    refine ⟨i + 1, by omega, T.2, ⟨by simp, hi, hT, by simp [show ¬ h.next = h.next + 1 by omega], by simp, ?_, by simp; omega⟩⟩
    exact ((f2.trans (f26.mono (by omega))).put (Nat.le_refl _) _).put (by omega) _
  · have hi' : ¬ (i : Int) < l.length := by omega
    have hendl := end_len S
    have hendl2 : (endN S).length < 2 ^ 40 := by
      by_cases ho : ownN S = true
      · have := (own_spec ho).1; omega
      · unfold endN; rw [if_pos (.inl (by simpa using ho))]; simp
    have c1 : ∀ {K : VPost}, (∀ v h3, SlG none 4 h2.next h3 v (encEs (endN S)) (endN S).length → h3.one = [] → h3.get (h.next + 1) = some (.cells (encS S) 0 true 0 none) → Fr h2.next h2 h3 → K v h3) → CallW E0 X0 (.fn 15) [.agg (encS S).toArray] h2 K := fun k =>
      (End_sp S hok h2 o2).mono fun r h3 ⟨sl, f⟩ => k r h3 sl f.one ((f.get _ (by omega)).trans sb) f
    have z := eqv_encS S
    have hle := st_le hok
    have hta := st_all hok
    simp [f5, g0, hv, hi, hi', o2]
    refine ⟨laxW_of [(2, 1)] (by kernel_rfl) ?_, ?_⟩
    · simp [LaxP, o2, g3, sa, hle, hta]
      refine c1 ?_
      intro v3 h3 sl3 o3 b3 f3
      simp [o2, o3, g3, g4, sa, sb, b3, hle, hta, LaxG_load, z]
    simp [g3, sa, hle, hta, o2]
    refine c1 ?_
    intro v3 h3 sl3 o3 b3 f3
    simp [o3, g4, b3, hle, hta]
    refine (RefEnd_sp S hok h3 o3).mono ?_
    rintro v4 h4 ⟨sl4, f4⟩
    have n4 := f4.next
    simp [f4.one]
    refine (sameE_sp _ _ _ _ v3 v4 hendl2 h4 f4.one (sl3.of_get n4 fun g _ hg => f4.get g hg) sl4).mono ?_
    rintro _ h5 ⟨rfl, rfl⟩
    have n3 := f3.next
    have f7 : Fr h.next h h5 := (f2.trans (f3.mono (by omega))).trans (f4.mono (by omega))
    simp [f4.one]
    refine (wakes_sp h5 f4.one (hg.fr f7 hg0) (by omega)).mono ?_
    rintro _ h8 ⟨rfl, f8⟩
    simp [f8.one]
end Go.Dm
