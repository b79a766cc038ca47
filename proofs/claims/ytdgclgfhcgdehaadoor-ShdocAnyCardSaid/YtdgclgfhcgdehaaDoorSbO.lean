/- The law of any state. -/
import Derived.Test.YtdgclgfhcgdehaaDoorSbF
import Derived.Test.YtdgclgfhcgdehaaDoorSbN
import Derived.Test.YtdgclgfhcgdehaaDoorSdQ
set_option linter.unusedVariables false
set_option linter.unusedSimpArgs false
namespace Go.Dm
open Go.Proofs
set_option maxRecDepth 100000 in
set_option maxHeartbeats 16000000 in
theorem law_Any (s : ShS) (hs : s.ok) (line : List UInt8) (h : H) (h1 : h.one = []) (hg : Gl h) (hg0 : 0 < h.next) :
    CallW E0 X0 (.fn 7) [.agg (encS s).toArray, str line] h (fun r _ => r = .bool true) := by
  refine CallW.body efn7 rfl rfl rfl [] (by kernel_rfl) ?_
  obtain ⟨h2, hh2⟩ : ∃ h2, h2 = h.nw (.cells (encS s) 0 true 0 none) := ⟨_, rfl⟩
  have b2 : h2.get h.next = some (.cells (encS s) 0 true 0 none) := by rw [hh2]; simp
  have o2 : h2.one = [] := by rw [hh2]; rfl
  have n2 : h2.next = h.next + 1 := by rw [hh2]; rfl
  have f2 : Fr h.next h h2 := by rw [hh2]; exact (Fr.refl h1).nw (Nat.le_refl _) _
  have hg2 : Gl h2 := hg.fr f2 hg0
  simp [-wpd_seq, Tryd.f7, h1]
  iterate 1 ((repeat rw [wpd_seq]); simp [-wpd_seq, h1])
  rw [← hh2]
  clear hh2
  by_cases hlong : 16384 < line.length
  · have hlong' : (16384 : Int) < line.length := by omega
    simp [hlong, hlong', o2]
    refine (wakes_sp h2 o2 hg2 (by omega)).mono ?_
    rintro _ h3 ⟨rfl, f3⟩
    simp [f3.one]
  have hlong' : ¬ (16384 : Int) < line.length := by omega
  have hzl := encS_len zS_ok
  have hbok := base_ok hs
  have hT := scanN_ok hs line
  have hTown := own_scan hs line
  have hTlen := scan_len s line
  have sp1 := Scan_sp s hs line (by omega) h2 o2 hg2 (by omega)
  have sp2 := fun h h1 hg hg0 => Scan_sp zS zS_ok line (by omega) h h1 hg hg0
  have hbT : ownN s = false → scanN zS line = scanN s line := fun e => by rw [← base_not e, scan_base]
  have hsn : ∀ f : Int, f ≤ 0 → ∃ f', sndR 0 (scanN s line).1 (f, if (base s).mode = 0 then 0 else 1) = some (f', if (scanN s line).2.mode = 0 then 0 else 1) ∧ f' ≤ (0 : Int) + line.length := fun f hf => by
    rw [← scan_base]; exact snd_scan (own_base s) line 0 f hf (by omega)
  generalize scanN s line = T at hT hTown hTlen sp1 hbT hsn
  have hTl := encS_len hT
  have hz : setAt (encS zS) 0 (encS T.2) = encS T.2 := st_over zS_ok hT
  iterate 2 ((repeat rw [wpd_seq]); simp [-wpd_seq, o2, hlong, hlong', b2, st_all hs, st_le hs])
  refine sp1.mono ?_
  rintro _ h3 ⟨v3, rfl, sl3, f3⟩
  obtain ⟨a3, rfl⟩ := sl3.slice
  have n3 := f3.next
  simp [-wpd_seq, f3.one, zcells, hTl, eq_true (st_cv T.2), hz, hzl]
  obtain ⟨h4, hh4⟩ : ∃ h4, h4 = (h3.nw (.cells (encS zS) 0 true 0 none)).put h3.next (.cells (encS T.2) 0 true 0 none) := ⟨_, rfl⟩
  rw [← hh4]
  have o4 : h4.one = [] := by rw [hh4]; rfl
  have n4 : h4.next = h3.next + 1 := by rw [hh4]; rfl
  have c4 : h4.get h3.next = some (.cells (encS T.2) 0 true 0 none) := by rw [hh4]; simp
  have f34 : Fr h3.next h3 h4 := by rw [hh4]; exact ((Fr.refl f3.one).nw (Nat.le_refl _) _).put (Nat.le_refl _) _
  have f24 : Fr h2.next h2 h4 := f3.trans (f34.mono (by omega))
  have sl4 : SlG none 4 h2.next h4 (.slice a3 T.1.length T.1.length) (encEs T.1) T.1.length := by rw [hh4]; exact sl3.of_get (by simp) fun g _ hg => by simp [show ¬ g = h3.next by omega]
  clear hh4
  have b4 := (f24.get _ (by omega)).trans b2
  have f04 := f2.trans (f24.mono (by omega))
  refine wpd_cut (fun fr' h' => h'.get h.next = some (.cells (encS (base s)) 0 true 0 none) ∧ h'.get h3.next = some (.cells (encS T.2) 0 true 0 none) ∧ SlG none 4 h2.next h' (.slice a3 T.1.length T.1.length) (encEs T.1) T.1.length ∧ Fr h.next h h' ∧ h3.next < h'.next) ?_ ?_
  · (repeat rw [wpd_seq]); simp [-wpd_seq, o4, b4, st_all hs, st_le hs]
    refine (Own_sp s hs h4 o4).mono ?_
    rintro _ h6 ⟨rfl, f6⟩
    have n6 := f6.next
    have b6 := (f6.get _ (by omega)).trans b4
    have c6 := (f6.get _ (by omega)).trans c4
    have sl6 : SlG none 4 h2.next h6 (.slice a3 T.1.length T.1.length) (encEs T.1) T.1.length := sl4.of_get f6.next fun g _ hg => f6.get g hg
    have f06 := f04.trans (f6.mono (by omega))
    have o6 := f6.one
    cases hw : ownN s with
    | true =>
      simp [o6]
      exact ⟨by rw [base_own hw]; exact b6, c6, sl6, f06, by omega⟩
    | false =>
      have hTs := hbT hw
      have sp3 := sp2 h6 o6 (hg.fr f06 hg0) (by omega)
      rw [hTs] at sp3
      have hend : endN s = [] := by unfold endN; rw [if_pos (.inl hw)]
      have hE := End_sp s hs
      rw [hend] at hE
      iterate 2 ((repeat rw [wpd_seq]); simp [-wpd_seq, o6, zcells])
      refine sp3.mono ?_
      rintro _ h7 ⟨v7, rfl, sl7, f7⟩
      have n7 := f7.next
      obtain ⟨a7, rfl⟩ := sl7.slice
      simp [-wpd_seq, f7.one, zcells, hTl, eq_true (st_cv T.2), hz, hzl]
      obtain ⟨h8, hh8⟩ : ∃ h8, h8 = (h7.nw (.cells (encS zS) 0 true 0 none)).put h7.next (.cells (encS T.2) 0 true 0 none) := ⟨_, rfl⟩
      rw [← hh8]
      have o8 : h8.one = [] := by rw [hh8]; rfl
      have n8 : h8.next = h7.next + 1 := by rw [hh8]; rfl
      have c8 : h8.get h7.next = some (.cells (encS T.2) 0 true 0 none) := by rw [hh8]; simp
      have f78 : Fr h7.next h7 h8 := by rw [hh8]; exact ((Fr.refl f7.one).nw (Nat.le_refl _) _).put (Nat.le_refl _) _
      have f68 : Fr h6.next h6 h8 := f7.trans (f78.mono (by omega))
      have sl8 : SlG none 4 h6.next h8 (.slice a7 T.1.length T.1.length) (encEs T.1) T.1.length := sl7.of_get (by omega) fun g _ hg => f78.get g hg
      have sl38 : SlG none 4 h2.next h8 (.slice a3 T.1.length T.1.length) (encEs T.1) T.1.length := sl6.of_get (by omega) fun g _ hg => f68.get g hg
      have b8 := (f68.get _ (by omega)).trans b6
      have d8 := (f68.get _ (by omega)).trans c6
      have f08 := f06.trans (f68.mono (by omega))
      clear hh8
      iterate 1 ((repeat rw [wpd_seq]); simp [-wpd_seq, o8, c8, d8, b8, st_all hT, st_le hT, st_all hs, st_le hs, -eqD_succ, eq_st hT hT])
      refine (hE h8 o8).mono ?_
      rintro w9 h9 ⟨sl9, f9⟩
      obtain ⟨a9, rfl⟩ := sl9.slice
      have o9 := f9.one
      have n9 := f9.next
      have b9 := (f9.get _ (by omega)).trans b8
      have d9 := (f9.get _ (by omega)).trans d8
      have sl79 : SlG none 4 h6.next h9 (.slice a7 T.1.length T.1.length) (encEs T.1) T.1.length := sl8.of_get f9.next fun g _ hg => f9.get g hg
      have sl39 : SlG none 4 h2.next h9 (.slice a3 T.1.length T.1.length) (encEs T.1) T.1.length := sl38.of_get f9.next fun g _ hg => f9.get g hg
      have f09 := f08.trans (f9.mono (by omega))
      simp [-wpd_seq, o9]
      iterate 1 ((repeat rw [wpd_seq]); simp [-wpd_seq, o9])
      refine wpd_loop (fun (k : Nat) fr h' => k ≤ T.1.length ∧ fr.get 9 = some (.int .i64 k) ∧ h' = h9) (fun k => T.1.length - k) 0 ⟨by omega, by simp, rfl⟩ ?_
      rintro k fr h10 ⟨hk, hi, rfl⟩ hf
      have g7 := hf 7 rfl
      have g5 := hf 5 rfl
      have g2 := hf 2 rfl
      simp at g7 g5 g2
      clear hf
      by_cases hkl : k < T.1.length
      · have hkl' : (k : Int) < T.1.length := by omega
        rcases sl79 with ⟨e, _⟩ | ⟨_, _, ga, _, _, ea, hga⟩
        · omega
        rcases sl39 with ⟨e, _⟩ | ⟨_, _, gb, _, _, eb, hgb⟩
        · omega
        cases ea
        cases eb
        have q1 := encEs_mid T.1 hkl
        have l1 := encEs_len T.1
        have b1 : k * 4 + 4 ≤ (encEs T.1).length := by omega
        have hw1 := wrap_succ (show k < 9223372036854775807 by omega)
        simp [o9, hi, g7, g5, hkl, hkl', hga, hgb, b1, q1, -eqD_succ, eq_ev, hw1]
        omega
      · have hkl' : ¬ (k : Int) < T.1.length := by omega
        have hle : 82 ≤ (encS s).length := st_le hs
        simp [hi, g7, g2, hkl, hkl', o9, zcells, b9, hzl, hle, eq_true (st_cv zS), st_over hs zS_ok, base_not hw]
        exact ⟨by simp [show ¬ h3.next = h.next by omega, d9], sl39.of_get (Nat.le_refl _) fun g hg _ => by simp [show ¬ g = h.next by omega], f09.put (Nat.le_refl _) _, by omega⟩
  · rintro fr5 h5 hf ⟨b5, c5, sl5, f5, n5⟩
    have g1 := hf 1 rfl
    have g2 := hf 2 rfl
    have g5 := hf 5 rfl
    have g6 := hf 6 rfl
    simp at g1 g2 g5 g6
    clear hf
    have o5 := f5.one
    have hg5 := hg.fr f5 hg0
    iterate 1 ((repeat rw [wpd_seq]); simp [-wpd_seq, o5])
    refine (New_sp h5 o5).mono ?_
    rintro _ h6 ⟨bb, O, rfl, x6, hO6, f6⟩
    have o6 := f6.one
    have n6 := f6.next
    simp [-wpd_seq, o6]
    have b6 := (f6.get _ (by omega)).trans b5
    have c6 := (f6.get _ (by omega)).trans c5
    have f06 := f5.trans (f6.mono (by have := f5.next; omega))
    have sl6 : SlG none 4 h2.next h6 (.slice a3 T.1.length T.1.length) (encEs T.1) T.1.length := sl5.of_get f6.next fun g _ hg => f6.get g hg
    have hm256 := own_spec (own_base s)
    obtain ⟨⟨hw1, hw2⟩, hmk, hmd⟩ := hm256
    have hmdT := (own_spec hTown).2.2
    refine wpd_cut (fun fr' h' => ∃ S O', BS bb h' S O' ∧ (∀ c, O' c → h5.next ≤ c) ∧ S.opn.length = (if (base s).mode = 0 then 1 else 2) ∧ S.far = 0 ∧ S.nodes.length ≤ 2 ∧ h'.one = [] ∧ h6.next ≤ h'.next ∧ (∀ c, c < h5.next → h'.get c = h5.get c)) ?_ ?_
    · by_cases hm0 : (base s).mode = 0
      · simp [o6, g2, b6, st_mode hbok, hm0]
        exact ⟨newB, O, x6, hO6, rfl, rfl, by decide, fun c hc => f6.get c hc⟩
      · have hm0' : (0 : Int) < (base s).mode := by omega
        have hm0'' : 0 < (base s).mode := by omega
        simp [o6, g2, b6, st_mode hbok, hm0, hm0', hm0'', zerE]
        obtain ⟨h7, hh7⟩ : ∃ h7, h7 = h6.nw (.cells [.int .u8 1, .int .u8 50, .int .i64 0, .int .i64 0] 4 true 0 none) := ⟨_, rfl⟩
        rw [← hh7]
        have n7 : h7.next = h6.next + 1 := by rw [hh7]; rfl
        have f67 : Fr h6.next h6 h7 := by rw [hh7]; exact (Fr.refl o6).nw (Nat.le_refl _) _
        have e7 : h7.get h6.next = some (.cells [.int .u8 1, .int .u8 50, .int .i64 0, .int .i64 0] 4 true 0 none) := by rw [hh7]; simp
        clear hh7
        have hs0 : sndR 0 [⟨1, 50, 0, 0⟩] (0, 0) = some (0, 1) := by rfl
        refine (Put_sp bb 0 [⟨1, 50, 0, 0⟩] _ newB O h7 f67.one (x6.fr f67) (.inr ⟨h6.next, 1, _, _, _, rfl, e7, by omega⟩) (by decide) (by omega) (by omega) (by decide) (by decide) (by decide) (by decide) _ hs0 (sndR_bnd (Int.le_refl 0) _ _ _ hs0)).mono ?_
        rintro _ h8 ⟨rfl, O8, x8, b8⟩
        have n8 := b8.next
        simp [b8.one]
        exact ⟨_, O8, x8, fun c hc => (b8.new c hc).elim (hO6 c) fun z => by omega, rfl, rfl, by decide, by omega, fun c hc => (b8.keep c (by omega) fun z => by have := hO6 c z; omega).trans ((f67.get c (by omega)).trans (f6.get c hc))⟩
    · rintro fr7 h7 hf ⟨S, O', x7, hO7, hop7, hfar7, hnod7, o7, n7, hk7⟩
      have y1 := hf 1 rfl
      have y5 := hf 5 rfl
      have y6 := hf 6 rfl
      have y10 := hf 10 rfl
      simp [g1, g5, g6] at y1 y5 y6 y10
      clear hf
      have hr7 : RdE h7 (.slice a3 T.1.length T.1.length) T.1 := RdE.of (sl5.of_get (by omega) fun g _ hg => hk7 g hg)
      obtain ⟨f', hs1, hs2⟩ := hsn 0 (Int.le_refl _)
      have hs1g := sndR_ge (Int.le_refl 0) _ _ _ (Int.le_refl 0) hs1
      simp only at hs1g
      have hpb := sndR_bnd (Int.le_refl 0) _ _ _ hs1
      have hop8 : (S.opn.length : Int) - 1 = if (base s).mode = 0 then 0 else 1 := by rw [hop7]; split <;> rfl
      have p1 := Put_sp bb 0 T.1 (.slice a3 T.1.length T.1.length) S O' h7 o7 x7 hr7 (by omega) (by omega) (by omega) (by omega) (by omega) (by rw [hop7]; split <;> omega) (by omega) _ (by rw [hfar7, hop8]; exact hs1) hpb
      iterate 1 ((repeat rw [wpd_seq]); simp [-wpd_seq, o7, y1, y5, y6, y10])
      refine p1.mono ?_
      rintro _ h8 ⟨rfl, O8, x8, b8⟩
      have n8 := b8.next
      have o8 := b8.one
      obtain ⟨r1, r2, r3⟩ := run_snd T.1 S _ (by rw [hfar7, hop8]; exact hs1)
      generalize runB 0 T.1 S = S8 at x8 r1 r2 r3
      rw [Prod.mk.injEq] at r1
      obtain ⟨r1, r4⟩ := r1
      have hO8 : ∀ c, O8 c → h5.next ≤ c := fun c hc => (b8.new c hc).elim (hO7 c) fun z => by omega
      have hk8 : ∀ c, c < h5.next → h8.get c = h5.get c := fun c hc => (b8.keep c (by omega) fun z => by have := hO7 c z; omega).trans (hk7 c hc)
      have b8' := (hk8 _ (by omega)).trans b5
      have c8' := (hk8 _ (by omega)).trans c5
      have hfl : ¬ (line.length : Int) < S8.far := by omega
      simp [o8, y10]
      refine (Far_sp bb S8 O8 h8 o8 x8).mono ?_
      rintro _ h9 ⟨rfl, rfl⟩
      simp [o8, y1, y6, hfl, c8', st_all hT, st_le hT]
      refine (Own_sp T.2 hT h9 o8).mono ?_
      rintro _ h10 ⟨rfl, f10⟩
      have o10 := f10.one
      have n10 := f10.next
      rw [hTown]
      simp [-wpd_seq, o10]
      have x10 := x8.fr f10
      have b10 := (f10.get _ (by omega)).trans b8'
      have c10 := (f10.get _ (by omega)).trans c8'
      iterate 1 ((repeat rw [wpd_seq]); simp [-wpd_seq, o10])
      refine wpd_cut (fun fr' h' => fr'.get 11 = some (.int .i64 ((if T.2.mode = 0 then 0 else 1 : Int))) ∧ h' = h10) ?_ ?_
      · by_cases hm0 : T.2.mode = 0
        · simp [o10, y6, c10, st_mode hT, hm0]
        · have hm0' : (0 : Int) < T.2.mode := by omega
          have hm0'' : 0 < T.2.mode := by omega
          simp [o10, y6, c10, st_mode hT, hm0, hm0', hm0'']
      rintro fr11 h11 hf ⟨w11, rfl⟩
      have z1 := hf 1 rfl
      have z6 := hf 6 rfl
      have z10 := hf 10 rfl
      simp [y1, y6, y10] at z1 z6 z10
      clear hf
      have hop10 : (S8.opn.length : Int) - 1 = if T.2.mode = 0 then 0 else 1 := r4.symm
      have hol : S8.opn.length < 2 ^ 40 := by split at hop10 <;> omega
      simp [o10, z10]
      refine (Open_sp bb S8 O8 h11 o10 x10 hol).mono ?_
      rintro _ h12 ⟨rfl, rfl⟩
      simp [o10, w11, z6, z10, z1, hop10, c10, st_all hT, st_le hT]
      refine (End_sp T.2 hT h12 o10).mono ?_
      rintro w13 h13 ⟨sl13, f13⟩
      have o13 := f13.one
      have n13 := f13.next
      have x13 := x10.fr f13
      obtain ⟨f'', hs3, hs4⟩ := snd_end hTown line.length S8.far (by omega) (by omega)
      have hel := end_len T.2
      have hwT := (own_spec hTown).1
      obtain ⟨rr1, rr2, rr3⟩ := run_snd (endN T.2) S8 _ (by rw [hop10]; exact hs3)
      have p2 := Put_sp bb line.length (endN T.2) w13 S8 O8 h13 o13 x13 (RdE.of sl13) (by omega) (by omega) (by omega) (by omega) (by omega) (by split at hop10 <;> omega) (by omega) _ (by rw [hop10]; exact hs3) (sndR_bnd (by omega) _ _ _ hs3)
      simp [o13, z10, z1]
      refine p2.mono ?_
      rintro _ h14 ⟨rfl, O14, x14, b14⟩
      generalize runB line.length (endN T.2) S8 = S14 at x14 rr1 rr2 rr3
      rw [Prod.mk.injEq] at rr1
      have o14 := b14.one
      simp [o14, z10]
      refine (Open_sp bb S14 O14 h14 o14 x14 (by omega)).mono ?_
      rintro _ h15 ⟨rfl, rfl⟩
      rw [← rr1.2]
      simp [o14]
      refine (wakes_sp h15 o14 ?_ ?_).mono ?_
      · have hk14 : ∀ c, c < h.next → h15.get c = h.get c := fun c hc => by
          have := f5.next
          have n8x := b8.next
          rw [b14.keep c (by omega) fun z => by have := hO8 c z; omega, f13.get c (by omega), f10.get c (by omega), hk8 c (by omega), f5.get c hc]
        exact (hk14 _ hg0).trans hg
      · have := b14.next
        have := f5.next
        omega
      · rintro _ h16 ⟨rfl, f16⟩
        simp [f16.one]
end Go.Dm
