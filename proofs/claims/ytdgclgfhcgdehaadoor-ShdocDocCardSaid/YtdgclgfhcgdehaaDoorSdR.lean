/- ShdocDoc answers true. -/
import Derived.Test.YtdgclgfhcgdehaaDoorSdQ
import Derived.Test.YtdgclgfhcgdehaaDoorSdO
set_option linter.unusedVariables false
set_option linter.unusedSimpArgs false
namespace Go.Dm
open Go.Proofs
theorem bt_get {l : List UInt8} {k : Nat} (h : k < l.length) : bt l k = l[k] := by simp [bt, h]
theorem allLet {w : List UInt8} (h : ∀ j, j < w.length → letN (bt w j) = true) : w.all letN = true := by
  rw [List.all_eq_true]
  intro c hc
  obtain ⟨j, hj, rfl⟩ := List.getElem_of_mem hc
  have := h j hj
  rwa [bt_get hj] at this
set_option maxRecDepth 100000 in
set_option maxHeartbeats 16000000 in
theorem law_Doc (w : List UInt8) (strip : Bool) (l : List (List UInt8)) (v : Value) {h : H} (hr : RdS h v l) (h1 : h.one = []) (hg : Gl h) (hg0 : 0 < h.next) :
    CallW E0 X0 (.fn 6) [str w, .bool strip, v] h (fun r _ => r = .bool true) := by
  refine CallW.body efn6 rfl rfl rfl [] (by kernel_rfl) ?_
  obtain ⟨a, cap, hv⟩ := hr.sl
  have hzl := encS_len zS_ok
  have wk : ∀ {K : VPost} h2, Fr h.next h h2 → (∀ h3, h3.one = [] → K (.bool true) h3) → CallW E0 X0 (.fn 9) [] h2 K := fun h2 f2 k =>
    (wakes_sp h2 f2.one (hg.fr f2 hg0) (by have := f2.next; omega)).mono fun r h3 ⟨e, f⟩ => by subst e; exact k h3 f.one
  simp [-wpd_seq, Tryd.f6, h1]
  iterate 1 ((repeat rw [wpd_seq]); simp [-wpd_seq, h1])
  rw [wpd_seq, wpd_seq]
  refine wpd_mid (fun fr' h' => fr'.get 29 = some (.bool (decide (w.length < 1 ∨ 64 < w.length ∨ 100 < l.length))) ∧ h' = h) ?_ ?_
  · by_cases c1 : w.length < 1
    · have c0 : w = [] := List.eq_nil_of_length_eq_zero (by omega)
      subst c0
      simp [h1, hv]
    · have c1' : ¬ (w.length : Int) < 1 := by omega
      have c1'' : 1 ≤ w.length := by omega
      by_cases c2 : 64 < w.length
      · have c2' : (64 : Int) < w.length := by omega
        simp [h1, hv, c1, c1', c2, c2']
      · have c2' : ¬ (64 : Int) < w.length := by omega
        by_cases c3 : 100 < l.length
        · have c3' : (100 : Int) < l.length := by omega
          simp [h1, hv, c1, c1', c2, c2', c3, c3']
        · have c3' : ¬ (100 : Int) < l.length := by omega
          simp [h1, hv, c1, c1', c2, c2', c3, c3']
  intro fr1 hy hf1 hy2
  obtain ⟨q29, hyx⟩ := hy2
  rw [hyx]
  clear hyx hy
  have q0 := hf1 0 rfl
  have q1 := hf1 1 rfl
  have q2 := hf1 2 rfl
  simp at q0 q1 q2
  clear hf1
  by_cases hc : w.length < 1 ∨ 64 < w.length ∨ 100 < l.length
  · rw [decide_eq_true hc] at q29
    simp [q29, h1]
    refine wk h (Fr.refl h1) ?_
    intro h3 o3
    simp [o3]
  rw [decide_eq_false hc] at q29
  have hw0 : 0 < w.length := by omega
  have hw1 : w.length ≤ 64 := by omega
  have hl100 : l.length ≤ 100 := by omega
  simp [-wpd_seq, q29]
  iterate 1 ((repeat rw [wpd_seq]); simp [-wpd_seq, h1])
  refine wpd_loop (fun (k : Nat) fr h' => fr.get 7 = some (.int .i64 k) ∧ k ≤ w.length ∧ (∀ j, j < k → letN (bt w j) = true) ∧ h' = h) (fun k => w.length - k) 0 ⟨by simp, Nat.zero_le _, by omega, rfl⟩ ?_
  rintro k fr hx ⟨g7, hk, hlet, hxe⟩ hfe
  rw [hxe]
  clear hxe hx
  have g0 := hfe 0 rfl
  have g1 := hfe 1 rfl
  have g2 := hfe 2 rfl
  simp [q0, q1, q2] at g0 g1 g2
  clear hfe q0 q1 q2 q29
  by_cases hkw : k < w.length
  · have hkw' : (k : Int) < w.length := by omega
    have w0 : IntKind.i64.wrap ((k : Int) + 1) = ((k + 1 : Nat) : Int) := wrap_succ (by omega)
    have hix := idxB_nat (l := w) (k := k) hkw
    by_cases hc2 : letN (bt w k) = true
    · have hc3 := hc2
      simp only [letN, Bool.and_eq_true, decide_eq_true_eq] at hc3
      have e1 : ¬ ((bt w k).toNat : Int) < 97 := by omega
      have e2 : ¬ (122 : Int) < (bt w k).toNat := by omega
      have e3 : 97 ≤ (bt w k).toNat := by omega
      have e4 : ¬ 122 < (bt w k).toNat := by omega
      have e5 : ¬ (bt w k).toNat < 97 := by omega
      simp [g7, g0, h1, hkw, hkw', hix, e1, e2, e4, e5, w0]
      refine ⟨k + 1, by omega, by simp, hkw, fun j hj => ?_⟩
      rcases Nat.lt_succ_iff_lt_or_eq.1 hj with q | q
      · exact hlet j q
      · subst q; exact hc2
    · have hc3 : (bt w k).toNat < 97 ∨ 122 < (bt w k).toNat := by
        simp only [letN, Bool.and_eq_true, decide_eq_true_eq] at hc2
        omega
      by_cases e : (bt w k).toNat < 97
      · have e1 : ((bt w k).toNat : Int) < 97 := by omega
        simp [g7, g0, h1, hkw, hkw', hix, e, e1]
        refine wk h (Fr.refl h1) ?_
        intro h3 o3
        simp [o3]
      · have e1 : ¬ ((bt w k).toNat : Int) < 97 := by omega
        have e2 : (122 : Int) < (bt w k).toNat := by omega
        have e3 : 122 < (bt w k).toNat := by omega
        simp [g7, g0, h1, hkw, hkw', hix, e, e1, e2, e3]
        refine wk h (Fr.refl h1) ?_
        intro h3 o3
        simp [o3]
  have hkw' : ¬ (k : Int) < w.length := by omega
  have hL : w.all letN = true := allLet fun j hj => hlet j (by omega)
  iterate 1 ((repeat rw [wpd_seq]); simp [-wpd_seq, g7, g0, h1, hkw, hkw'])
  iterate 1 ((repeat rw [wpd_seq]); simp [-wpd_seq, h1])
  rw [wpd_seq]
  refine wpd_mid (fun fr' h' => fr'.get 8 = some (str (askO strip)) ∧ h' = h) ?_ ?_
  · cases strip <;> simp [g1, h1, askO] <;> rfl
  intro fr2 hy hf2 hy2
  obtain ⟨r8, hyx⟩ := hy2
  rw [hyx]
  clear hyx hy
  have r0 := hf2 0 rfl
  have r1 := hf2 1 rfl
  have r2 := hf2 2 rfl
  simp [g0, g1, g2] at r0 r1 r2
  clear hf2 g0 g1 g2 g7
  have hol : (askO strip).length ≤ 3 := by cases strip <;> decide
  simp [-wpd_seq]
  iterate 1 ((repeat rw [wpd_seq]); simp [-wpd_seq, h1, r0, r8, zcells])
  refine ⟨by omega, by omega, by omega, by omega, ?_⟩
  rw [show (99 :: 97 :: 116 :: 32 :: (askO strip ++ 32 :: (w ++ [10])) : List UInt8) = askL strip w ++ [10] by simp [askL]]
  obtain ⟨ev, hev, hsc⟩ := scan_ask strip hw0 hw1 hL
  have hll : (askL strip w ++ [10]).length ≤ 75 := by simp [askL]; omega
  refine (Scan_sp zS zS_ok (askL strip w ++ [10]) (by omega) h h1 hg hg0).mono ?_
  rintro _ h2 ⟨v3, rfl, sl3, f2⟩
  rw [hsc] at sl3 ⊢
  have n2 := f2.next
  obtain ⟨A, hA⟩ : ∃ A, A = askS strip w := ⟨_, rfl⟩
  have hAok : A.ok := hA ▸ askS_ok strip w
  have dA : (docK A 0) = ⟨w, strip, false⟩ := by rw [hA]; rfl
  have mA : (encS A)[65]? = some (.int .u8 (2 : Nat)) := by rw [hA]; exact st_mode (askS_ok strip w)
  have wA : (encS A)[81]? = some (.int .i64 1) := by rw [hA]; exact st_wait (askS_ok strip w)
  have kA := st_doc hAok (i := 0) (by decide)
  rw [dA] at kA
  simp only [Nat.zero_mul, Nat.add_zero, encD] at kA
  rw [← hA]
  have hAl := encS_len hAok
  have hAz : setAt (encS zS) 0 (encS A) = encS A := st_over zS_ok hAok
  obtain ⟨a3, rfl⟩ := sl3.slice
  simp [-wpd_seq, f2.one, zcells, hzl, hAl, eq_true (st_cv A), hAz]
  obtain ⟨h3, hh3⟩ : ∃ h3, h3 = (h2.nw (.cells (encS zS) 0 true 0 none)).put h2.next (.cells (encS A) 0 true 0 none) := ⟨_, rfl⟩
  rw [← hh3]
  have o3 : h3.one = [] := by rw [hh3]; rfl
  have n3 : h3.next = h2.next + 1 := by rw [hh3]; rfl
  have c3 : h3.get h2.next = some (.cells (encS A) 0 true 0 none) := by rw [hh3]; simp
  have f3 : Fr h.next h h3 := by rw [hh3]; exact (f2.nw (by omega) _).put (by omega) _
  clear hh3
  have zb : ∀ C : List Value, (encS A).length = C.length → True := fun _ _ => trivial
  have ha72 : 72 ≤ (encS A).length := by omega
  rw [wpd_seq]
  refine wpd_mid (fun fr' h' => h' = h3) ?_ ?_
  · simp [hev, o3, c3, mA, wA, kA, ha72, r0, r1]
  intro fr3 hy hf3 hyx
  rw [hyx]
  clear hyx hy
  have s0 := hf3 0 rfl
  have s1 := hf3 1 rfl
  have s2 := hf3 2 rfl
  have s10 := hf3 10 rfl
  simp [r0, r1, r2] at s0 s1 s2 s10
  clear hf3 r0 r1 r2 r8 sl3
  obtain ⟨b0, hb0⟩ : ∃ b0, b0 = h2.next := ⟨_, rfl⟩
  rw [← hb0] at c3 s10 n3
  have hb0h : h.next ≤ b0 := by omega
  clear hb0 n2 f2 h2
  simp [-wpd_seq]
  iterate 1 ((repeat rw [wpd_seq]); simp [-wpd_seq, o3])
  refine wpd_loop (fun (i : Nat) fr h' => fr.get 11 = some (.int .i64 i) ∧ i ≤ l.length ∧ h'.get b0 = some (.cells (encS A) 0 true 0 none) ∧ Fr h.next h h' ∧ b0 < h'.next) (fun i => l.length - i) 0 ⟨by simp, Nat.zero_le _, c3, f3, by omega⟩ ?_
  clear f3 c3 o3 n3 h3
  rintro i fr h2 ⟨g11, hil, c2, f2, n2⟩ hfe
  have g0 := hfe 0 rfl
  have g1 := hfe 1 rfl
  have g2 := hfe 2 rfl
  have g10 := hfe 10 rfl
  simp [s0, s1, s2, s10] at g0 g1 g2 g10
  clear hfe s0 s1 s2 s10 fr3
  have o2 := f2.one
  by_cases hi : i < l.length
  · obtain ⟨b, cap', st, own, fz, ty, e, hb, hat, hbn⟩ := hr.at hi
    rw [hv] at e
    obtain ⟨rfl, rfl⟩ : a = some ⟨b, 0, none⟩ ∧ cap = cap' := by cases e; exact ⟨rfl, rfl⟩
    obtain ⟨t, ht⟩ : ∃ t, t = l[i] := ⟨_, rfl⟩
    rw [← ht] at hat
    have hb2 := (f2.get b hbn).trans hb
    have hi' : (i : Int) < l.length := by omega
    have w0 : IntKind.i64.wrap ((i : Int) + 1) = ((i + 1 : Nat) : Int) := wrap_succ (by omega)
    iterate 3 ((repeat rw [wpd_seq]); simp [-wpd_seq, -List.getElem?_map, g11, g2, hv, hi, hi', o2, hb2, hat, ← ht])
    by_cases hlong : 4096 < t.length
    · simp [hlong, o2]
      refine wk h2 f2 ?_
      intro h3 o3
      simp [o3]
    simp [-wpd_seq, hlong, o2]
    iterate 2 ((repeat rw [wpd_seq]); simp [-wpd_seq, -List.getElem?_map, g11, g2, hv, hi, hi', o2, hb2, hat, ← ht])
    refine ⟨by omega, ?_⟩
    refine wpd_loop (fun (k : Nat) fr h' => fr.get 13 = some (.int .i64 k) ∧ k ≤ t.length ∧ h' = h2) (fun k => t.length - k) 0 ⟨by simp, Nat.zero_le _, rfl⟩ ?_
    rintro k fr4 hx ⟨k13, hk, hxe⟩ hfe
    rw [hxe]
    clear hxe hx
    have k0 := hfe 0 rfl
    have k1 := hfe 1 rfl
    have k2 := hfe 2 rfl
    have k10 := hfe 10 rfl
    have k11 := hfe 11 rfl
    have k12 := hfe 12 rfl
    simp [g0, g1, g2, g10, g11, hv] at k0 k1 k2 k10 k11 k12
    clear hfe g0 g1 g10 g11 g2
    by_cases hkt : k < t.length
    · have hkt' : (k : Int) < t.length := by omega
      have w1 : IntKind.i64.wrap ((k : Int) + 1) = ((k + 1 : Nat) : Int) := wrap_succ (by omega)
      have hix := idxB_nat (l := t) (k := k) hkt
      by_cases h10 : bt t k = 10
      · rw [h10] at hix
        simp [-List.getElem?_map, k13, k2, k11, hi, hi', o2, hb2, hat, ← ht, hkt, hkt', hix]
        refine wk h2 f2 ?_
        intro h3 o3
        simp [o3]
      · have h10' : ¬ ((bt t k).toNat : Int) = 10 := by
          intro q; apply h10; apply UInt8.toNat_inj.1; show (bt t k).toNat = 10; omega
        simp [-List.getElem?_map, k13, k2, k11, hi, hi', o2, hb2, hat, ← ht, hkt, hkt', hix, h10', w1]
        exact ⟨k + 1, by omega, by simp, by omega⟩
    have hkt' : ¬ (k : Int) < t.length := by omega
    iterate 2 ((repeat rw [wpd_seq]); simp [-wpd_seq, -List.getElem?_map, k13, k2, k11, k10, k12, hi, hi', o2, hb2, hat, ← ht, hkt, hkt', c2, st_all hAok, st_le hAok])
    have hsl := scan_line strip hw1 t
    rw [← hA] at hsl
    refine (Scan_sp A hAok (t ++ [10]) (by simp; omega) h2 o2 (hg.fr f2 hg0) (by omega)).mono ?_
    rintro _ h3 ⟨v5, rfl, sl5, f3⟩
    rw [hsl] at sl5 ⊢
    have n3 := f3.next
    have hb3 := (f3.get b (by have := f2.next; omega)).trans hb2
    have c3 := (f3.get b0 (by omega)).trans c2
    have f03 := f2.trans (f3.mono (by omega))
    obtain ⟨F, hF⟩ : ∃ F, F = fromN strip t := ⟨_, rfl⟩
    rw [← hF] at sl5 ⊢
    have hFle : F ≤ t.length := by rw [hF]; unfold fromN; split; exact tabsN_le t; omega
    obtain ⟨Q, hQ⟩ : ∃ Q : ShS, Q = (if t.drop F = w then zS else A) := ⟨_, rfl⟩
    obtain ⟨V, hV⟩ : ∃ V : List ShE, V = (if t.drop F = w then [⟨3, 57, F, t.length⟩, ⟨2, 0, t.length + 1, 0⟩] else [⟨3, 56, 0, t.length + 1⟩]) := ⟨_, rfl⟩
    have hR : (if t.drop F = w then (([⟨3, 57, F, t.length⟩, ⟨2, 0, t.length + 1, 0⟩] : List ShE), zS) else ([⟨3, 56, 0, t.length + 1⟩], A)) = (V, Q) := by rw [hV, hQ]; split <;> rfl
    rw [hR] at sl5 ⊢
    have hQok : Q.ok := by rw [hQ]; split; exact zS_ok; exact hAok
    have hQl := encS_len hQok
    have hQz : setAt (encS zS) 0 (encS Q) = encS Q := st_over zS_ok hQok
    simp [-wpd_seq, f3.one, zcells, hzl, hQl, eq_true (st_cv Q), hQz]
    obtain ⟨h4, hh4⟩ : ∃ h4, h4 = (h3.nw (.cells (encS zS) 0 true 0 none)).put h3.next (.cells (encS Q) 0 true 0 none) := ⟨_, rfl⟩
    rw [← hh4]
    have o4 : h4.one = [] := by rw [hh4]; rfl
    have n4 : h4.next = h3.next + 1 := by rw [hh4]; rfl
    have d4 : h4.get h3.next = some (.cells (encS Q) 0 true 0 none) := by rw [hh4]; simp
    have f34 : Fr h3.next h3 h4 := by rw [hh4]; exact ((Fr.refl f3.one).nw (Nat.le_refl _) _).put (Nat.le_refl _) _
    have sl4 : SlG none 4 h2.next h4 v5 (encEs V) V.length := by rw [hh4]; exact sl5.of_get (by simp) fun g _ hg => by simp [show ¬ g = h3.next by omega]
    clear hh4
    have hb4 := (f34.get b (by have := f2.next; omega)).trans hb3
    have c4 := (f34.get b0 (by omega)).trans c3
    have f04 := f03.trans (f34.mono (by omega))
    iterate 1 ((repeat rw [wpd_seq]); simp [-wpd_seq, o4])
    rw [wpd_seq]
    rw [wpd_block]
    refine wpd_loop (fun (f : Nat) fr h' => fr.get 16 = some (.int .i64 f) ∧ f ≤ F ∧ h' = h4) (fun f => F - f) 0 ⟨by simp, Nat.zero_le _, rfl⟩ ?_
    rintro f fr5 hx ⟨f16, hf, hxe⟩ hfe
    rw [hxe]
    clear hxe hx
    have m0 := hfe 0 rfl
    have m1 := hfe 1 rfl
    have m2 := hfe 2 rfl
    have m10 := hfe 10 rfl
    have m11 := hfe 11 rfl
    have m12 := hfe 12 rfl
    have m14 := hfe 14 rfl
    have m15 := hfe 15 rfl
    simp [k0, k1, k2, k10, k11, k12] at m0 m1 m2 m10 m11 m12 m14 m15
    clear hfe k0 k1 k2 k10 k11 k12
    unfold fromN at hF
    by_cases hlt : f < F
    · have hst : strip = true := by
        cases h : strip with
        | true => rfl
        | false => rw [h] at hF; simp at hF; omega
      rw [hst, if_pos rfl] at hF
      have ⟨t1, t2⟩ := tabs_lt (t := t) (f := f) (by omega)
      have hix := idxB_nat (l := t) (k := f) t1
      rw [t2] at hix
      have e1 : (f : Int) < t.length := by omega
      have w1 : IntKind.i64.wrap ((f : Int) + 1) = ((f + 1 : Nat) : Int) := wrap_succ (by omega)
      simp [-List.getElem?_map, f16, m1, m2, m11, hst, hi, hi', o4, hb4, hat, ← ht, t1, e1, hix, w1]
      exact ⟨f + 1, by omega, by simp, by omega⟩
    have hfF : f = F := by omega
    rw [wpd_seq, wpd_seq]
    refine wpd_mid (fun fr' h'' => fr'.get 141 = some (.bool false) ∧ h'' = h4) ?_ ?_
    · cases hst : strip with
      | false => simp [m1, hst, o4]
      | true =>
        rw [hst, if_pos rfl] at hF
        by_cases e2 : f < t.length
        · have t2 := tabs_at (t := t) (by omega)
          rw [← hF, ← hfF] at t2
          have hix := idxB_nat (l := t) (k := f) e2
          have t3 : ¬ ((bt t f).toNat : Int) = 9 := by
            intro q; apply t2; apply UInt8.toNat_inj.1; show (bt t f).toNat = 9; omega
          have e1 : (f : Int) < t.length := by omega
          simp [-List.getElem?_map, f16, m1, m2, m11, hst, hi, hi', o4, hb4, hat, ← ht, e2, e1, hix, t3]
        · have e1 : ¬ (f : Int) < t.length := by omega
          simp [-List.getElem?_map, f16, m1, m2, m11, hst, hi, hi', o4, hb4, hat, ← ht, e2, e1]
    intro fr6 hx hf6 hxx
    obtain ⟨u141, hxe⟩ := hxx
    rw [hxe]
    clear hxe hx
    have u0 := hf6 0 rfl
    have u1 := hf6 1 rfl
    have u2 := hf6 2 rfl
    have u10 := hf6 10 rfl
    have u11 := hf6 11 rfl
    have u12 := hf6 12 rfl
    have u14 := hf6 14 rfl
    have u15 := hf6 15 rfl
    have u16 := hf6 16 rfl
    rw [m0] at u0
    rw [m1] at u1
    rw [m2] at u2
    rw [m10] at u10
    rw [m11] at u11
    rw [m12] at u12
    rw [m14] at u14
    rw [m15] at u15
    rw [f16, hfF] at u16
    clear hf6 m0 m1 m2 m10 m11 m12 m14 m15 f16
    have e1 : (F : Int) ≤ t.length := by omega
    have hzz := st_all hQok
    have hzle := st_le hQok
    have hzle0 := st_le zS_ok
    have eS : ∀ x : ShS, x.ok → eqD E0 10000 29 (.agg (encS Q).toArray) (.agg (encS x).toArray) = some (decide (Q = x)) := fun x hx => eq_st hQok hx
    simp [-wpd_seq, u141]
    by_cases hw : t.drop F = w
    · rw [if_pos hw] at hQ hV
      have hV2 : V.length = 2 := by rw [hV]; rfl
      rw [hV2] at sl4
      rcases sl4 with ⟨e, _⟩ | ⟨_, _, g, g1', g2', rfl, hgg⟩
      · cases e
      rw [hV] at hgg
      simp only [encEs, List.flatMap_cons, List.flatMap_nil, encE, List.append_nil, List.cons_append, List.nil_append] at hgg
      have q1 : eqD E0 10000 41 (.agg #[.int .u8 3, .int .u8 57, .int .i64 F, .int .i64 t.length]) (.agg #[.int .u8 3, .int .u8 57, .int .i64 F, .int .i64 t.length]) = some true := (eqv_ev 3 57 F t.length 3 57 F t.length).trans (by simp)
      have q2 : eqD E0 10000 41 (.agg #[.int .u8 2, .int .u8 0, .int .i64 ((t.length : Int) + 1), .int .i64 0]) (.agg #[.int .u8 2, .int .u8 0, .int .i64 ((t.length : Int) + 1), .int .i64 0]) = some true := (eqv_ev 2 0 (t.length + 1) 0 2 0 (t.length + 1) 0).trans (by simp)
      have eZ := eS zS zS_ok
      rw [decide_eq_true hQ] at eZ
      simp [-List.getElem?_map, -eqD_succ, q1, q2, u0, u2, u11, u12, u14, u15, u16, hi, hi', o4, hb4, hat, ← ht, e1, hFle, hw, hgg, d4, hzz, hzle, eZ, zcells]
      refine wk h4 f04 ?_
      intro h5 o5
      simp [o5]
    · rw [if_neg hw] at hQ hV
      have hV2 : V.length = 1 := by rw [hV]; rfl
      rw [hV2] at sl4
      rcases sl4 with ⟨e, _⟩ | ⟨_, _, g, g1', g2', rfl, hgg⟩
      · cases e
      rw [hV] at hgg
      simp only [encEs, List.flatMap_cons, List.flatMap_nil, encE, List.append_nil, List.cons_append, List.nil_append] at hgg
      have q1 : eqD E0 10000 41 (.agg #[.int .u8 3, .int .u8 56, .int .i64 0, .int .i64 ((t.length : Int) + 1)]) (.agg #[.int .u8 3, .int .u8 56, .int .i64 0, .int .i64 ((t.length : Int) + 1)]) = some true := (eqv_ev 3 56 0 (t.length + 1) 3 56 0 (t.length + 1)).trans (by simp)
      have eZ := eS A hAok
      rw [decide_eq_true hQ] at eZ
      simp [-List.getElem?_map, -eqD_succ, q1, u0, u2, u10, u11, u12, u14, u15, u16, hi, hi', o4, hb4, hat, ← ht, e1, hFle, hw, hgg, d4, c4, hzz, hzle, st_all hAok, st_le hAok, eZ, w0]
      exact ⟨i + 1, by omega, rfl, hi, f04, by omega⟩
  · have hi' : ¬ (i : Int) < l.length := by omega
    iterate 2 ((repeat rw [wpd_seq]); simp [-wpd_seq, g11, g2, hv, hi, hi', o2])
    simp [g10, c2, st_all hAok, st_le hAok, o2]
    refine (End_sp A hAok h2 o2).mono ?_
    rintro v3 h3 ⟨sl3, f3⟩
    have he := end_ask strip hw1
    rw [← hA] at he
    rw [he] at sl3
    obtain ⟨a5, rfl⟩ := sl3.slice
    simp [f3.one]
    refine wk h3 (f2.trans (f3.mono (by have := f2.next; omega))) ?_
    intro h4 o4
    simp [o4]
end Go.Dm
