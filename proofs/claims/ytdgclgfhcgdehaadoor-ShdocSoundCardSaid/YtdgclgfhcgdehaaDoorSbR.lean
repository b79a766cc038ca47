/- The law of soundness: whatever lines, what they tell is a tree. -/
import Derived.Test.YtdgclgfhcgdehaaDoorSbQ
import Derived.Test.YtdgclgfhcgdehaaDoorSdQ
set_option linter.unusedVariables false
set_option linter.unusedSimpArgs false
namespace Go.Dm
open Go.Proofs
structure SnI (h : H) (l : List (List UInt8)) (bb : Nat) (i : Nat) (S : ShS) (a : Nat) (fr : T Value) (h' : H) : Prop where
  f6 : fr.get 6 = some (.int .i64 i)
  f5 : fr.get 5 = some (.int .i64 a)
  le : i ≤ l.length
  ok : S.ok
  own : ownN S = true
  al : a ≤ 4096 * i
  sa : h'.get h.next = some (.cells (encS S) 0 true 0 none)
  bld : ∃ B O, BS bb h' B O ∧ (∀ c, O c → h.next + 1 ≤ c) ∧ BI B ∧ (B.opn.length : Int) - 1 = (if S.mode = 0 then 0 else 1) ∧ B.far ≤ a ∧ B.nodes.length ≤ 1 + 8200 * i
  fr : Fr h.next h h'
  nx : h.next + 1 ≤ h'.next
theorem BS.put {bb : Nat} {h : H} {s : AB} {O : Nat → Prop} (x : BS bb h s O) {c : Nat} (C : DObj) (hc : ¬ O c) : BS bb (h.put c C) s O := by
  obtain ⟨ad, vn, vo, x, rfl⟩ := x
  refine ⟨ad, vn, vo, ⟨?_, x.bb, x.sn.put C (fun g y1 y2 e e2 => hc (.inr (.inl ⟨y1, y2, e2 ▸ e⟩))), x.so.put C (fun g y1 y2 e e2 => hc (.inr (.inr (.inl ⟨y1, y2, e2 ▸ e⟩)))), x.ap, x.len, ?_, x.inj, x.op⟩, rfl⟩
  · rw [H.get_put, if_neg fun e => hc (.inl e.symm)]; exact x.blk
  · intro i hi
    rw [H.get_put, if_neg fun e => hc (.inr (.inr (.inr (by rw [← e]; simp [List.getD, hi]))))]
    exact x.nod i hi
theorem scan_nil {S : ShS} (ho : ownN S = true) {line : List UInt8} (he : line.length = 0) : scanN S line = ([], S) := by
  unfold scanN; rw [if_pos (List.eq_nil_of_length_eq_zero he), base_own ho]
set_option maxRecDepth 100000 in
set_option maxHeartbeats 16000000 in
theorem law_Sound (l : List (List UInt8)) (v : Value) {h : H} (hr : RdS h v l) (h1 : h.one = []) (hg : Gl h) (hg0 : 0 < h.next) :
    CallW E0 X0 (.fn 8) [v] h (fun r _ => r = .bool true) := by
  refine CallW.body efn8 rfl rfl rfl [12] (by kernel_rfl) ?_
  obtain ⟨a, cap, hv⟩ := hr.sl
  by_cases hl : 200 < l.length
  · have hl' : (200 : Int) < l.length := by omega
    subst hv
    simp [Tryd.f8, h1, hl, hl']
    refine (wakes_sp h h1 hg hg0).mono ?_
    rintro _ h2 ⟨rfl, f2⟩
    simp [f2.one]
  have hl' : ¬ (200 : Int) < l.length := by omega
  have hzl := encS_len zS_ok
  simp [-wpd_seq, Tryd.f8, h1]
  iterate 3 ((repeat rw [wpd_seq]); simp [-wpd_seq, h1, hv, hl, hl', zcells])
  obtain ⟨h2, hh2⟩ : ∃ h2, h2 = h.nw (.cells (encS zS) 0 true 0 none) := ⟨_, rfl⟩
  have n2 : h2.next = h.next + 1 := by rw [hh2]; rfl
  have o2 : h2.one = [] := by rw [hh2]; rfl
  have f2 : Fr h.next h h2 := by rw [hh2]; exact (Fr.refl h1).nw (Nat.le_refl _) _
  have e2 : h2.get h.next = some (.cells (encS zS) 0 true 0 none) := by rw [hh2]; simp
  iterate 1 ((repeat rw [wpd_seq]); simp [-wpd_seq, h1, o2])
  try rw [← hh2]
  clear hh2
  refine (New_sp h2 o2).mono ?_
  rintro _ h3 ⟨bb, O, rfl, x3, hO3, f3⟩
  have o3 := f3.one
  have n3 := f3.next
  iterate 3 ((repeat rw [wpd_seq]); simp [-wpd_seq, o3])
  refine wpd_loop (fun (q : Nat × (ShS × Nat)) fr h' => SnI h l bb q.1 q.2.1 q.2.2 fr h') (fun q => l.length - q.1) (0, (zS, 0)) ?_ ?_
  · exact ⟨by simp, by simp, Nat.zero_le _, zS_ok, own_zS, by simp, (f3.get _ (by omega)).trans e2, ⟨newB, O, x3, fun c hc => by have := hO3 c hc; omega, bi_new, rfl, Int.le_refl _, by decide⟩, f2.trans (f3.mono (by omega)), by omega⟩
  clear x3 hO3 f3 o3 n3 h3 e2 f2 o2 n2 h2
  rintro ⟨i, S, at_⟩ fr h2 st hfe
  have g0 := hfe 0 rfl
  have g3 := hfe 3 rfl
  have g4 := hfe 4 rfl
  simp at g0 g3 g4
  clear hfe
  obtain ⟨i6, i5, hil, hok, hown, hal, sa, ⟨B, O, x2, hO, hBI, hBo, hBf, hBn⟩, f2, n2⟩ := st
  simp only at i6 i5 hil hok hown hal sa hBo hBf hBn
  have o2 := f2.one
  have hBf0 : 0 ≤ B.far := by obtain ⟨_, _, z, _⟩ := hBI; exact z
  have hBol : B.opn.length ≤ 2 := by split at hBo <;> omega
  by_cases hi : i < l.length
  · obtain ⟨b, cap', st, own, fz, ty, e, hb, hat, hbn⟩ := hr.at hi
    rw [hv] at e
    obtain ⟨rfl, rfl⟩ : a = some ⟨b, 0, none⟩ ∧ cap = cap' := by cases e; exact ⟨rfl, rfl⟩
    have hb2 := (f2.get b hbn).trans hb
    have hi' : (i : Int) < l.length := by omega
    have w0 : IntKind.i64.wrap ((i : Int) + 1) = ((i + 1 : Nat) : Int) := wrap_succ (by omega)
    iterate 3 ((repeat rw [wpd_seq]); simp [-wpd_seq, -List.getElem?_map, i6, g0, hv, hi, hi', o2, hb2, hat])
    by_cases hlong : 4096 < l[i].length
    · simp [hlong, o2]
      refine (wakes_sp h2 o2 (hg.fr f2 hg0) (by omega)).mono ?_
      rintro _ h3 ⟨rfl, f3⟩
      simp [f3.one]
    simp [-wpd_seq, hlong]
    have hT := scanN_ok hok l[i]
    have hlen := scan_len S l[i]
    have hTown := own_scan hok l[i]
    have sp1 := Scan_sp S hok l[i] (by omega) h2 o2 (hg.fr f2 hg0) (by omega)
    have hTe : l[i].length = 0 → (scanN S l[i]).1.length = 0 ∧ (scanN S l[i]).2 = S := fun e => by rw [scan_nil hown e]; exact ⟨rfl, rfl⟩
    have hat2 : ((at_ : Int)) ≤ 815104 := by omega
    have hsn := snd_scan hown l[i] (at_ : Int) B.far hBf (by omega)
    rw [← hBo] at hsn
    obtain ⟨f', hs1, hs2⟩ := hsn
    generalize scanN S l[i] = T at hT sp1 hlen hTown hTe hs1
    obtain ⟨r1, r2, r3⟩ := run_snd T.1 B _ hs1
    have hBI' := bi_run (by omega) T.1 B _ hBI hs1
    have hTl := encS_len hT
    have hz : setAt (encS zS) 0 (encS T.2) = encS T.2 := st_over zS_ok hT
    have hz2 : setAt (encS S) 0 (encS T.2) = encS T.2 := st_over hok hT
    iterate 1 ((repeat rw [wpd_seq]); simp [-wpd_seq, -List.getElem?_map, i6, g0, g3, hv, hi, hi', o2, hb2, hat, sa, st_all hok, st_le hok])
    refine sp1.mono ?_
    rintro _ h3 ⟨v3, rfl, sl3, f3⟩
    obtain ⟨a3, rfl⟩ := sl3.slice
    have n3 := f3.next
    have f03 := f2.trans (f3.mono (by omega))
    simp [-wpd_seq, f3.one, zcells, hTl, eq_true (st_cv T.2), hz, hzl]
    obtain ⟨h4, hh4⟩ : ∃ h4, h4 = (h3.nw (.cells (encS zS) 0 true 0 none)).put h3.next (.cells (encS T.2) 0 true 0 none) := ⟨_, rfl⟩
    rw [← hh4]
    have o4 : h4.one = [] := by rw [hh4]; rfl
    have n4 : h4.next = h3.next + 1 := by rw [hh4]; rfl
    have c4 : h4.get h3.next = some (.cells (encS T.2) 0 true 0 none) := by rw [hh4]; simp
    have f34 : Fr h3.next h3 h4 := by rw [hh4]; exact ((Fr.refl f3.one).nw (Nat.le_refl _) _).put (Nat.le_refl _) _
    have f24 : Fr h2.next h2 h4 := f3.trans (f34.mono (by omega))
    have sl4 : SlG none 4 h2.next h4 (.slice a3 T.1.length T.1.length) (encEs T.1) T.1.length := by rw [hh4]; exact sl3.of_get (by simp) fun g _ hg => by simp [show ¬ g = h3.next by omega]
    clear hh4
    have f04 : Fr h.next h h4 := f2.trans (f24.mono (by omega))
    have sa4 := (f24.get _ (by omega)).trans sa
    have hb4 := (f24.get _ (by have := f2.next; omega)).trans hb2
    have x4 := x2.fr f24
    have hlt4 : ∀ c, O c → c < h2.next := fun c hc => x2.lt hc
    rw [Prod.mk.injEq] at r1
    obtain ⟨r1, r4⟩ := r1
    have hs1g := sndR_ge (by omega) _ _ _ hBf0 hs1
    simp only at hs1g
    have hr4 : RdE h4 (.slice a3 T.1.length T.1.length) T.1 := RdE.of sl4
    have cO : ∀ {K : VPost}, (∀ h5, Fr h4.next h4 h5 → K (.bool true) h5) → CallW E0 X0 (.fn 13) [.agg (encS T.2).toArray] h4 K := fun k =>
      (Own_sp T.2 hT h4 o4).mono fun r h5 ⟨e, f⟩ => by subst e; rw [hTown]; exact k h5 f
    have cP0 := fun h5 (f5 : Fr h4.next h4 h5) => Put_sp bb at_ T.1 (.slice a3 T.1.length T.1.length) B O h5 f5.one (x4.fr f5) (hr4.fr f5) (by omega) (by omega) (by omega) hBf0 (by omega) (by omega) (by omega) _ hs1 (sndR_bnd (by omega) _ _ _ hs1)
    generalize runB at_ T.1 B = B6 at r1 r2 r3 r4 hBI' cP0
    obtain ⟨G, hG⟩ : ∃ G : H → Prop, G = fun h6 => h6.one = [] ∧ (∃ O6, BS bb h6 B6 O6 ∧ ∀ c, O6 c → h.next + 1 ≤ c) ∧ (∀ c, c < h4.next → ¬ O c → h6.get c = h4.get c) ∧ h4.next ≤ h6.next := ⟨_, rfl⟩
    have cP : ∀ {K : VPost} h5, Fr h4.next h4 h5 → (∀ h6, G h6 → K (.int .i64 0) h6) → CallW E0 X0 (.fn 18) [.pointer (some ⟨bb, 0, none⟩), .slice a3 T.1.length T.1.length, .int .i64 at_] h5 K := fun h5 f5 k =>
      (cP0 h5 f5).mono fun r h6 ⟨e, O6, x6, b6⟩ => by
        subst e
        refine k h6 ?_
        have := f5.next
        have := b6.next
        rw [hG]
        exact ⟨b6.one, ⟨O6, x6, fun c hc => (b6.new c hc).elim (hO c) fun z => by omega⟩, fun c hc hn => (b6.keep c (by omega) hn).trans (f5.get c hc), by omega⟩
    have cF : ∀ {K : VPost} h6, G h6 → K (.int .i64 B6.far) h6 → CallW E0 X0 (.fn 19) [.pointer (some ⟨bb, 0, none⟩)] h6 K := fun h6 g k => by
      rw [hG] at g
      obtain ⟨g1, ⟨O6, x6, _⟩, _⟩ := g
      exact (Far_sp bb B6 O6 h6 g1 x6).mono fun r h7 ⟨e, e2⟩ => by subst e; subst e2; exact k
    have gO : ∀ h6, G h6 → h6.one = [] := fun h6 g => by rw [hG] at g; exact g.1
    have gB : ∀ h6, G h6 → h6.get b = some (.cells (l.map str) st own fz ty) := fun h6 g => by
      rw [hG] at g; exact (g.2.2.1 b (by have := f2.next; omega) fun z => by have := hO b z; omega).trans hb4
    have gT : ∀ h6, G h6 → h6.get h3.next = some (.cells (encS T.2) 0 true 0 none) := fun h6 g => by
      rw [hG] at g; exact (g.2.2.1 _ (by omega) fun z => by have := hlt4 _ z; omega).trans c4
    have gS : ∀ h6, G h6 → h6.get h.next = some (.cells (encS S) 0 true 0 none) := fun h6 g => by
      rw [hG] at g; exact (g.2.2.1 _ (by omega) fun z => by have := hO _ z; omega).trans sa4
    have wA : IntKind.i64.wrap ((at_ : Int) + (l[i].length : Int)) = (at_ : Int) + (l[i].length : Int) := wrap_i64 (by omega) (by omega)
    have hFl : ¬ ((at_ : Int) + (l[i].length : Int) < B6.far) := by omega
    have tA := st_all hT
    have tL := st_le hT
    have sA := st_all hok
    have sL := st_le hok
    have h4b : ∀ h5, Fr h4.next h4 h5 → h5.one = [] ∧ h5.get b = some (.cells (l.map str) st own fz ty) ∧ h5.get h3.next = some (.cells (encS T.2) 0 true 0 none) ∧ h5.get h.next = some (.cells (encS S) 0 true 0 none) := fun h5 f5 => ⟨f5.one, (f5.get _ (by have := f2.next; omega)).trans hb4, (f5.get _ (by omega)).trans c4, (f5.get _ (by omega)).trans sa4⟩
    clear cP0
    refine wpd_cut (fun fr' h' => G h') ?_ ?_
    · (repeat rw [wpd_seq]); simp [-wpd_seq]
      by_cases hemp : l[i].length = 0
      · have hemp' := hTe hemp
        obtain ⟨hem1, hem2⟩ := hemp'
        simp only [hem1] at cP
        simp only [hem2] at c4 tA tL cO h4b
        have wA0 : IntKind.i64.wrap (at_ : Int) = at_ := wrap_nat (by omega)
        have hF0 : ¬ ((at_ : Int) < B6.far) := by omega
        refine ⟨laxW_of [(35, 30)] (by kernel_rfl) ?_, ?_⟩
        · simp [-List.getElem?_map, LaxP, o4, c4, tA, tL]
          refine cO ?_
          intro h5 f5
          obtain ⟨o5, b5, t5, s5⟩ := h4b h5 f5
          simp [-List.getElem?_map, g0, g3, g4, i6, i5, hv, hi, hi', hat, o5, b5, t5, s5, tA, tL, sA, sL, hemp, hem1, -eqD_succ, eq_st hok hok, hem2]
          refine cP h5 f5 ?_
          intro h6 g6
          have o6 := gO h6 g6
          have b6 := gB h6 g6
          simp [-List.getElem?_map, g0, g3, g4, i6, i5, hv, hi, hi', hat, o6, b5, b6, hemp, hem1, -eqD_succ, eq_st hok hok, hem2]
          refine cF h6 g6 ?_
          simp [-List.getElem?_map, g0, g3, g4, i6, i5, hv, hi, hi', hat, o6, b6, hemp, hem1, -eqD_succ, eq_st hok hok, hem2, wA0, hF0, LaxG_load, o4, c4, tA, tL]
          refine cO ?_
          intro h5' f5'
          obtain ⟨o5', b5', t5', s5'⟩ := h4b h5' f5'
          simp [-List.getElem?_map, g0, g3, g4, i6, i5, hv, hi, hi', hat, o5', b5', t5', s5', tA, tL, sA, sL, hemp, hem1, -eqD_succ, eq_st hok hok, hem2]
          refine cP h5' f5' ?_
          intro h6' g6'
          have o6' := gO h6' g6'
          have b6' := gB h6' g6'
          simp [-List.getElem?_map, g0, g3, g4, i6, i5, hv, hi, hi', hat, o6', b6', hemp, hem1, -eqD_succ, eq_st hok hok, hem2, LaxG_load]
          exact ⟨str l[i], by simp [-List.getElem?_map, b6, hat], (decide_eq_true rfl : decide ((⟨l[i].toArray⟩ : ByteArray) = ⟨l[i].toArray⟩) = true)⟩
        · simp [-List.getElem?_map, o4, c4, tA, tL]
          refine cO ?_
          intro h5 f5
          obtain ⟨o5, b5, t5, s5⟩ := h4b h5 f5
          simp [-List.getElem?_map, g0, g3, g4, i6, i5, hv, hi, hi', hat, o5, b5, t5, s5, tA, tL, sA, sL, hemp, hem1, -eqD_succ, eq_st hok hok, hem2]
          refine cP h5 f5 ?_
          intro h6 g6
          have o6 := gO h6 g6
          have b6 := gB h6 g6
          simp [-List.getElem?_map, g0, g3, g4, i6, i5, hv, hi, hi', hat, o6, b5, b6, hemp, hem1, -eqD_succ, eq_st hok hok, hem2]
          refine cF h6 g6 ?_
          simp [-List.getElem?_map, g0, g3, g4, i6, i5, hv, hi, hi', hat, o6, b6, hemp, hem1, -eqD_succ, eq_st hok hok, hem2, wA0, hF0]
          exact g6
      · have hempI : ¬ (l[i].length : Int) = 0 := by omega
        refine ⟨laxW_of [(35, 30)] (by kernel_rfl) ?_, ?_⟩
        · simp [-List.getElem?_map, LaxP, o4, c4, tA, tL]
          refine cO ?_
          intro h5 f5
          obtain ⟨o5, b5, t5, s5⟩ := h4b h5 f5
          simp [-List.getElem?_map, g0, g3, g4, i6, i5, hv, hi, hi', hat, o5, b5, t5, s5, tA, tL, sA, sL, hemp, hempI]
          refine cP h5 f5 ?_
          intro h6 g6
          have o6 := gO h6 g6
          have b6 := gB h6 g6
          simp [-List.getElem?_map, g0, g3, g4, i6, i5, hv, hi, hi', hat, o6, b5, b6, hemp, hempI]
          refine cF h6 g6 ?_
          simp [-List.getElem?_map, g0, g3, g4, i6, i5, hv, hi, hi', hat, o6, b6, hemp, hempI, wA, hFl, LaxG_load, o4, c4, tA, tL]
          refine cO ?_
          intro h5' f5'
          obtain ⟨o5', b5', t5', s5'⟩ := h4b h5' f5'
          simp [-List.getElem?_map, g0, g3, g4, i6, i5, hv, hi, hi', hat, o5', b5', t5', s5', tA, tL, sA, sL, hemp, hempI]
          refine cP h5' f5' ?_
          intro h6' g6'
          have o6' := gO h6' g6'
          have b6' := gB h6' g6'
          simp [-List.getElem?_map, g0, g3, g4, i6, i5, hv, hi, hi', hat, o6', b6', hemp, hempI, LaxG_load]
          exact ⟨str l[i], by simp [-List.getElem?_map, b6, hat], (decide_eq_true rfl : decide ((⟨l[i].toArray⟩ : ByteArray) = ⟨l[i].toArray⟩) = true)⟩
        · simp [-List.getElem?_map, o4, c4, tA, tL]
          refine cO ?_
          intro h5 f5
          obtain ⟨o5, b5, t5, s5⟩ := h4b h5 f5
          simp [-List.getElem?_map, g0, g3, g4, i6, i5, hv, hi, hi', hat, o5, b5, t5, s5, tA, tL, sA, sL, hemp, hempI]
          refine cP h5 f5 ?_
          intro h6 g6
          have o6 := gO h6 g6
          have b6 := gB h6 g6
          simp [-List.getElem?_map, g0, g3, g4, i6, i5, hv, hi, hi', hat, o6, b5, b6, hemp, hempI]
          refine cF h6 g6 ?_
          simp [-List.getElem?_map, g0, g3, g4, i6, i5, hv, hi, hi', hat, o6, b6, hemp, hempI, wA, hFl]
          exact g6
    · rintro fr7 h6 hf g6
      have y0 := hf 0 rfl
      have y3 := hf 3 rfl
      have y4 := hf 4 rfl
      have y5 := hf 5 rfl
      have y6 := hf 6 rfl
      have y8 := hf 8 rfl
      simp [g0, g3, g4, i5, i6, hv] at y0 y3 y4 y5 y6 y8
      clear hf
      have o6 := gO h6 g6
      have b6 := gB h6 g6
      have t6 := gT h6 g6
      have s6 := gS h6 g6
      iterate 1 ((repeat rw [wpd_seq]); simp [-wpd_seq, o6])
      refine wpd_cut (fun fr' h' => fr'.get 9 = some (.int .i64 ((if T.2.mode = 0 then 0 else 1 : Int))) ∧ h' = h6) ?_ ?_
      · by_cases hm0 : T.2.mode = 0
        · simp [o6, y8, t6, st_mode hT, hm0]
        · have hm0' : (0 : Int) < T.2.mode := by omega
          have hm0'' : 0 < T.2.mode := by omega
          simp [o6, y8, t6, st_mode hT, hm0, hm0', hm0'']
      rintro fr8 h7 hf ⟨z9, rfl⟩
      have z0 := hf 0 rfl
      have z3 := hf 3 rfl
      have z4 := hf 4 rfl
      have z5 := hf 5 rfl
      have z6 := hf 6 rfl
      have z8 := hf 8 rfl
      simp [y0, y3, y4, y5, y6, y8] at z0 z3 z4 z5 z6 z8
      clear hf
      rw [hG] at g6
      obtain ⟨_, ⟨O6, x6, hO6⟩, hk6, n6⟩ := g6
      have hop : (B6.opn.length : Int) - 1 = if T.2.mode = 0 then 0 else 1 := r4.symm
      (repeat rw [wpd_seq]); simp [-wpd_seq, o6, z4]
      refine (Open_sp bb B6 O6 h7 o6 x6 (by omega)).mono ?_
      rintro _ h8 ⟨rfl, rfl⟩
      simp [-List.getElem?_map, o6, z9, hop, z0, z3, z4, z5, z6, z8, b6, hi, hi', hat, t6, s6, tA, tL, sA, sL, wA, eq_true (st_cv T.2), hTl, hz2, w0]
      have hfr8 : Fr h.next h h8 := ⟨o6, by omega, fun c hc => (hk6 c (by have := f2.next; omega) fun z => by have := hO c z; omega).trans (f04.get c hc)⟩
      refine ⟨i + 1, by omega, T.2, at_ + l[i].length, ⟨by simp, by simp, hi, hT, hTown, by omega, by simp, ⟨B6, O6, x6.put _ fun z => by have := hO6 _ z; omega, hO6, hBI', hop, by omega, by omega⟩, hfr8.put (Nat.le_refl _) _, by show h.next + 1 ≤ h8.next; omega⟩⟩
  · have hi' : ¬ (i : Int) < l.length := by omega
    have hie : i = l.length := by omega
    have g0 := g0
    have hendl := end_len S
    have hwS := (own_spec hown).1
    have hatb : (at_ : Int) ≤ 819200 := by omega
    obtain ⟨f', hs1, hs2⟩ := snd_end hown (at_ : Int) B.far hBf (by omega)
    rw [← hBo] at hs1
    obtain ⟨r1, r2, r3⟩ := run_snd (endN S) B _ hs1
    have hBI' := bi_run (by omega) (endN S) B _ hBI hs1
    have hle := st_le hok
    have hta := st_all hok
    iterate 2 ((repeat rw [wpd_seq]); simp [-wpd_seq, i6, i5, g0, g3, g4, hv, hi, hi', o2, sa, hle, hta])
    refine (End_sp S hok h2 o2).mono ?_
    rintro w3 h3 ⟨sl3, f3⟩
    have o3 := f3.one
    have n3 := f3.next
    have x3 := x2.fr f3
    simp [-wpd_seq, o3, g4, i5]
    refine (Put_sp bb at_ (endN S) w3 B O h3 o3 x3 (RdE.of sl3) (by omega) (by omega) (by omega) hBf0 (by omega) (by omega) (by omega) _ hs1 (sndR_bnd (by omega) _ _ _ hs1)).mono ?_
    rintro _ h4 ⟨rfl, O4, x4, b4⟩
    have n4 := b4.next
    have o4 := b4.one
    generalize runB at_ (endN S) B = B4 at r1 r2 r3 hBI' x4
    rw [Prod.mk.injEq] at r1
    obtain ⟨r1, r4⟩ := r1
    simp [-wpd_seq, o4, g4]
    refine (Open_sp bb B4 O4 h4 o4 x4 (by omega)).mono ?_
    rintro _ h5 ⟨rfl, rfl⟩
    rw [← r4]
    simp [-wpd_seq, o4, g4, i5]
    have hopn : B4.opn = [0] := by
      obtain ⟨r, _, _, ⟨e, _⟩ | ⟨j, e, _⟩⟩ := hBI'
      · exact e
      · rw [e] at r4; simp at r4
    have hpos : 0 < B4.nodes.length := by obtain ⟨r, e, _⟩ := hBI'; rw [e]; simp
    have htree := bi_tree hBI' hopn (n := at_) (by omega) (by omega)
    iterate 1 ((repeat rw [wpd_seq]); simp [-wpd_seq, o4, g4, i5])
    refine (Done_sp bb at_ B4 O4 h5 o4 x4 (by omega) hpos hopn (by omega) (by omega)).mono ?_
    rintro _ h6 ⟨v6, rfl, rd6, f6⟩
    have o6 := f6.one
    simp [o6, i5]
    refine (check_sp _ at_ v6 (by simp; omega) h6 o6 rd6).mono ?_
    rintro _ h7 ⟨rfl, f7⟩
    rw [htree]
    have o7 := f7.one
    simp [o7]
    have hk7 : ∀ c, c < h.next → h7.get c = h.get c := fun c hc => by
      have := f2.next
      have := f6.next
      rw [f7.get c (by omega), f6.get c (by omega), b4.keep c (by omega) fun z => by have := hO c z; omega, f3.get c (by omega), f2.get c hc]
    refine (wakes_sp h7 o7 ((hk7 _ hg0).trans hg) ?_).mono ?_
    · have := f2.next
      have := f6.next
      have := f7.next
      omega
    · rintro _ h8 ⟨rfl, f8⟩
      simp [f8.one]
end Go.Dm
