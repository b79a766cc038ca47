/- TreeFamily answers true. -/
import Derived.Test.YtnmfdjmejpioiaaDoorTrT
set_option linter.unusedVariables false
set_option linter.unusedSimpArgs false
namespace Go.Dm
open Go.Proofs
theorem encK_getD {L : List Nat} {i x : Nat} (h : L[i]? = some x) : (encK L)[i]? = some (.int .i64 (x : Int)) := by simp [encK, h]
theorem kid_facts {l : List Nd} (hf : fitN l = true) {i : Nat} {K : List Nat} (hK : kids l i = K) : ∀ k, k < K.length → upV l ((K.getD k 0 : Nat) : Int) = ((i : Int), 0) := by
  intro k hk
  have hm : K.getD k 0 ∈ kids l i := by
    rw [hK, show K.getD k 0 = K[k] by simp [List.getD, hk]]
    exact List.getElem_mem ..
  obtain ⟨a, b, c⟩ := kids_up hm
  unfold upV
  rw [if_pos (wrong_zero hf b), if_neg (by omega), Int.toNat_natCast, c]
  rfl
theorem kid_inc {l : List Nd} {i : Nat} {K : List Nat} (hK : kids l i = K) : ∀ k, k + 1 < K.length → K.getD k 0 < K.getD (k + 1) 0 := by
  intro k hk
  subst hK
  exact kids_next (l := l) (i := i) (j := k) (by simp [List.getD, show k < (kids l i).length by omega]) (by simp [List.getD, hk])
theorem count_take {L : List Nat} {i j : Nat} (h : j < L.length) : (L.take (j + 1)).count i = (L.take j).count i + (if L.getD j 0 = i then 1 else 0) := by
  rw [List.take_succ_eq_append_getElem h, List.count_append]
  simp [List.count_cons, List.getD, h]
theorem SlG.blk {n B : Nat} {h : H} {v : Value} {cs : List Value} {len : Nat} {ty : Option TypeId} (s : SlG ty n B h v cs len) (hl : 0 < len) : ∃ g, v = .slice (some ⟨g, 0, none⟩) len len ∧ h.get g = some (.cells cs n true 0 ty) ∧ g < h.next := by
  rcases s with ⟨e, _⟩ | ⟨_, _, g, _, s4, s5, s6⟩
  · omega
  · exact ⟨g, s5, s6, s4⟩
theorem RdK.tail {h : H} {g : Nat} {x : Nat} {L : List Nat} (hg : h.get g = some (.cells (encK (x :: L)) 1 true 0 none)) (hn : g < h.next) (n c : Nat) (hl : n = L.length) : RdK h (.slice (some ⟨g, 1, none⟩) n c) L := by
  subst hl
  refine .inr ⟨g, 1, c, _, 1, true, 0, none, rfl, hg, hn, fun i hi => ?_⟩
  have := encK_at (l := x :: L) (i := 1 + i) (by simp; omega)
  rw [this]
  simp [List.getD, Nat.add_comm 1 i]
set_option maxRecDepth 100000 in
set_option maxHeartbeats 32000000 in
theorem law_Family (l : List Nd) (hk : ∀ x ∈ l, x.kind < 256) (v : Value) (h : H) (h1 : h.one = []) (hr : RdN h v l) :
    CallW E0 X0 (.fn 8) [v] h (fun r _ => r = .bool true) := by
  refine CallW.body efn8 rfl rfl rfl [] (by kernel_rfl) ?_
  have hr' := hr
  obtain ⟨a, cap, rfl⟩ := hr.sl
  by_cases hl : 300 < l.length
  · have hl' : (300 : Int) < l.length := by omega
    simp [Tryd.f8, h1, hl']
    refine (wakes_sp h h1).mono ?_
    rintro _ h2 ⟨rfl, f1⟩
    simp [f1.one]
  have hl' : ¬ (300 : Int) < l.length := by omega
  have hl2 : l.length < 2 ^ 20 := by omega
  simp [Tryd.f8, h1, hl']
  refine (own_sp l _ hl2 h h1 hr').mono ?_
  rintro v2 h2 ⟨r2, f2⟩
  simp [f2.one]
  refine (Leaves_sp l v2 hl2 h2 f2.one r2).mono ?_
  rintro _ h3 ⟨sv, rfl, slv, f3⟩
  have r3 := (hr'.mono f2).mono f3
  by_cases hf : fitN l = true
  · have t := Tr.of_fit hf
    have hl1 := fit_len hf
    simp only [if_pos hf] at slv
    have hv3 := RdK.of slv
    have hLl := leaves_len l
    have hL0 : (leavesN l).drop 0 = leafF l 0 := rfl
    obtain ⟨av, cv, hsv⟩ := hv3.sl
    simp [f3.one, hf]
    refine wpd_loop (fun (s : Nat × Nat) fr h4 => fr.get 6 = some (.int .i64 (s.1 : Int)) ∧ fr.get 5 = some (.int .i64 (s.2 : Int)) ∧ s.1 ≤ l.length ∧ s.2 ≤ (leavesN l).length ∧ (leavesN l).drop s.2 = leafF l s.1 ∧ Fr h3.next h3 h4) (fun s => l.length - s.1) (0, 0) ⟨by simp, by simp, by omega, by omega, hL0, Fr.refl f3.one⟩ ?_
    rintro ⟨i, m⟩ fr h4 ⟨f6, f5, hi, hm, hdr, hf4⟩ hfe
    have g0 := hfe 0 rfl
    have g3 := hfe 3 rfl
    simp only at f6 f5 hi hm hdr
    simp at g0 g3
    have r4 := r3.mono hf4
    have hv4 := hv3.mono hf4
    by_cases hil : i < l.length
    · have e1 : (i : Int) < l.length := by omega
      have hw0 : wrongN l (i : Int) = 0 := wrong_zero hf hil
      have hwi : IntKind.i64.wrap ((i : Int) + 1) = ((i + 1 : Nat) : Int) := wrap_succ (by omega)
      simp [f6, g0, e1, hf4.one]
      refine (Kids_sp l i _ hl2 h4 hf4.one r4).mono ?_
      rintro _ h5 ⟨sk, rfl, slk, f7⟩
      have r5 := r4.mono f7
      simp [f7.one, f6, g0]
      refine (Path_sp l i _ hl2 h5 f7.one r5).mono ?_
      rintro _ h6 ⟨sp, rfl, slp, f8⟩
      have r6 := r5.mono f8
      simp only [if_pos hw0, Int.toNat_natCast] at slk slp
      have hkn := kids_nil t hil
      have hkl := kids_len l i
      obtain ⟨hpl, hpe⟩ := path_len t i hil
      have hps := pathO_some l i
      have hpl2 := path_le (l := l) (i + 1) i (by omega)
      have hdi := t.dpn hil hl2
      have rdi := rd_dp hil
      have hwd : IntKind.i64.wrap ((nd l i).dp + 1) = (nd l i).dp + 1 := wrap_i64 (by omega) (by omega)
      obtain ⟨hla, hlb⟩ := leaf_at (ls := l) hil hdr
      obtain ⟨gp, rfl, hgp, hgn⟩ := slp.blk (by rw [hps]; simp)
      generalize hP : pathO l (some i) = P at *
      have hP0 : 0 < P.length := by rw [hps]; simp
      have hpi0 : (encK P)[0]? = some (.int .i64 (i : Int)) := encK_getD (by rw [hps]; rfl)
      have hpiN : (encK P)[P.length - 1]? = some (.int .i64 0) := encK_getD hpe
      have hwp : IntKind.i64.wrap ((P.length : Int) - 1) = ((P.length - 1 : Nat) : Int) := wrap_pred hP0 (by omega)
      have hwd' : IntKind.i64.wrap ((nd l i).dp + 1) = (P.length : Int) := by rw [hwd]; exact hpl.symm
      obtain ⟨hb0, hpi0'⟩ := List.getElem?_eq_some_iff.1 hpi0
      obtain ⟨hbN, hpiN'⟩ := List.getElem?_eq_some_iff.1 hpiN
      have hP1 : P.length - 1 < P.length := by omega
      have hP2 : ((P.length - 1 : Nat) : Int) < (P.length : Int) := by omega
      have hP3 : (0 : Int) < (P.length : Int) := by omega
      have hv6 := (hv4.mono f7).mono f8
      obtain ⟨b, cap', st, own, fz, ty, eb, a2, a3, a4, a5⟩ := r6.ne hl1
      cases eb
      obtain ⟨ak, rfl⟩ := slk.slice
      have hkd := RdK.of slk
      have hk6 := hkd.mono f8
      have hinc := kid_inc (l := l) (i := i) rfl
      have hkf := kid_facts hf (i := i) rfl
      generalize hK : kids l i = K at *
      have hKz : ∀ x : Bool, decide (K = []) = x → decide ((K.length : Int) = 0) = x := by
        intro x hx
        rw [← hx]
        congr 1
        rw [eq_iff_iff]
        constructor
        · intro e; exact List.eq_nil_of_length_eq_zero (by omega)
        · intro e; rw [e]; rfl
      have hKz' := hKz _ hkn
      have hF6 := (hf4.trans (f7.mono hf4.next)).trans (f8.mono (Nat.le_trans hf4.next f7.next))
      have hw01 : IntKind.i64.wrap ((m : Int) + 1) = ((m + 1 : Nat) : Int) := wrap_succ (by omega)
      by_cases hat : m < (leavesN l).length
      · have hat' : (m : Int) < ((leavesN l).length : Int) := by omega
        rcases hv6 with ⟨_, e⟩ | ⟨b6, o6, c6, l6, s6, w6, z6, t6, q1, q2, q3, q4⟩
        · rw [e] at hat; simp at hat
        have q5 := q4 m hat
        subst q1
        cases hsv
        by_cases hlf : (leavesN l).getD m 0 = i
        · have hlt : isLeaf l i = true := by rw [← hla, decide_eq_true hat, decide_eq_true hlf]; rfl
          rw [hlf] at q5
          rw [hlt] at hKz' hlb
          have hKl : (K.length : Int) = 0 := of_decide_eq_true hKz'
          have hK0 : K = [] := List.eq_nil_of_length_eq_zero (by omega)
          simp [f6, f5, g0, g3, f8.one, hw0, hwd', e1, hil, a3, rdi, hgp, hpi0, hpiN, hpi0', hpiN', hwp, hP0, hP1, hP2, hP3, hat, hat', q2, q5, hKl, hK0, hw01]
          simp at hlb
          refine wpd_loop (fun (k : Nat) fr2 h7 => k ≤ K.length ∧ fr2.get 12 = some (.int .i64 (k : Int)) ∧ Fr h6.next h6 h7) (fun k => K.length - k) 0 ⟨by omega, by simp, Fr.refl f8.one⟩ ?_
          rintro k fr2 h7 ⟨hk7, f12, hf7⟩ hfe2
          have j0 := hfe2 0 rfl
          have j3 := hfe2 3 rfl
          have j5 := hfe2 5 rfl
          have j6 := hfe2 6 rfl
          have j7 := hfe2 7 rfl
          have j9 := hfe2 9 rfl
          simp [f5, f6, g0, g3] at j0 j3 j5 j6 j7 j9
          have r7 := r6.mono hf7
          have hk7' := hk6.mono hf7
          by_cases hkK : k < K.length
          · exact absurd hkK (by rw [hK0]; simp)
          · have ek : ¬ (k : Int) < K.length := by omega
            by_cases i0 : i = 0
            · subst i0
              have hw1 : IntKind.i64.wrap 1 = 1 := wrap_i64 (by decide) (by decide)
              simp [j0, j5, j6, j7, f12, ek, hkK, hf7.one, hw1]
              exact ⟨1, by omega, rfl, by omega, by omega, hlb, hF6.trans (hf7.mono (by have := f7.next; have := f8.next; have := hf4.next; omega))⟩
            · have i1 : ¬ (i : Int) = 0 := by omega
              obtain ⟨p, hp, hplt, _⟩ := up_some t (by omega) hil
              have hup : upV l (i : Int) = ((p : Int), 0) := by unfold upV; rw [if_pos hw0, if_neg i1, Int.toNat_natCast, hp]; rfl
              have hwp0 : wrongN l (p : Int) = 0 := wrong_zero hf (by omega)
              have hcnt := count_kids t (by omega) hil hp
              have hklp := kids_len l p
              have hplp := path_le (l := l) (p + 1) p (by omega)
              simp [j0, j6, j7, f12, ek, hkK, hf7.one, i0, i1]
              refine (Up_sp l _ _ hl2 h7 hf7.one r7).mono ?_
              rintro _ h8 ⟨rfl, f9⟩
              have r8 := r7.mono f9
              simp [hup, f9.one, j0, j6]
              refine (Path_sp l p _ hl2 h8 f9.one r8).mono ?_
              rintro _ h9 ⟨sa, rfl, sla, f10⟩
              have r9 := r8.mono f10
              simp [f10.one, j0]
              refine (Kids_sp l p _ hl2 h9 f10.one r9).mono ?_
              rintro _ h10 ⟨sm, rfl, slm, f11⟩
              simp only [if_pos hwp0, Int.toNat_natCast] at sla slm
              have hka := (RdK.of sla).mono f11
              have hkm := RdK.of slm
              obtain ⟨am, rfl⟩ := slm.slice
              generalize hM : kids l p = M at *
              have f67 := hf7.next
              have f89 := f9.next
              have f90 := f10.next
              have f01 := f11.next
              have hf10 : Fr h6.next h6 h10 := ((hf7.trans (f9.mono f67)).trans (f10.mono (by omega))).trans (f11.mono (by omega))
              simp [f11.one]
              refine wpd_loop (fun (q : Nat) fr3 h11 => q ≤ M.length ∧ fr3.get 22 = some (.int .i64 (q : Int)) ∧ fr3.get 21 = some (.int .i64 (((M.take q).count i : Nat) : Int)) ∧ h11 = h10) (fun q => M.length - q) 0 ⟨by omega, by simp, by simp, rfl⟩ ?_
              rintro q fr3 h11 ⟨hq, f22, f21, rfl⟩ hfe3
              have d0 := hfe3 0 rfl
              have d3 := hfe3 3 rfl
              have d5 := hfe3 5 rfl
              have d6 := hfe3 6 rfl
              have d9 := hfe3 9 rfl
              have d16 := hfe3 16 rfl
              have d17 := hfe3 17 rfl
              have d18 := hfe3 18 rfl
              have d19 := hfe3 19 rfl
              have d20 := hfe3 20 rfl
              simp [j0, j3, j5, j6, j9, hup, hwp0] at d0 d3 d5 d6 d9 d16 d17 d18 d19 d20
              by_cases hqM : q < M.length
              · have eq1 : (q : Int) < M.length := by omega
                have hwq : IntKind.i64.wrap ((q : Int) + 1) = ((q + 1 : Nat) : Int) := wrap_succ (by omega)
                have hct := count_take (L := M) (i := i) hqM
                have hcl : (M.take q).count i ≤ M.length := Nat.le_trans List.count_le_length (by simp; omega)
                rcases hkm with ⟨_, e⟩ | ⟨bk, ok, ck, lk, ss, ww, zz, tt, u1, u2, u3, u4⟩
                · rw [e] at hqM; simp at hqM
                cases u1
                have m1 := u4 q hqM
                generalize M.getD q 0 = x at *
                generalize hcz : (M.take q).count i = z at *
                have hwz : IntKind.i64.wrap ((z : Int) + 1) = ((z + 1 : Nat) : Int) := wrap_succ (by omega)
                by_cases hxi : x = i
                · have hxi' : (x : Int) = (i : Int) := by omega
                  rw [if_pos hxi] at hct
                  simp [d6, d19, f22, f21, eq1, hqM, u2, m1, hxi', hxi, f11.one, hwq, hwz]
                  exact ⟨q + 1, by omega, by omega, rfl, by omega⟩
                · have hxi' : ¬ (x : Int) = (i : Int) := by omega
                  rw [if_neg hxi] at hct
                  simp [d6, d19, f22, f21, eq1, hqM, u2, m1, hxi', hxi, f11.one, hwq]
                  exact ⟨q + 1, by omega, by omega, rfl, by omega⟩
              · have eq1 : ¬ (q : Int) < M.length := by omega
                rw [List.take_of_length_le (by omega), hcnt] at f21
                have hgp10 := (hf10.get gp (Nat.lt_of_lt_of_le hgn (Nat.le_refl _))).trans hgp
                have hP1' : 1 ≤ P.length := hP0
                simp [d0, d9, d16, d17, d18, d19, d20, f22, f21, eq1, f11.one, hgp10, hP1']
                have hgp11 : h11.get gp = some (.cells (encK (i :: pathO l (some p))) 1 true 0 none) := by rw [hgp10, hps, hp]
                refine (Ints_sp (pathO l (some p)) (pathO l (some p)) sa _ (by omega) h11 f11.one hka (RdK.tail hgp11 (by omega) _ _ (by rw [hps, hp]; simp))).mono ?_
                rintro _ h12 ⟨rfl, rfl⟩
                simp [f11.one, d5, d6, hwi]
                exact ⟨i + 1, by omega, rfl, by omega, by omega, hlb, hF6.trans (hf10.mono (by have := f7.next; have := f8.next; have := hf4.next; omega))⟩
        · have hlt : isLeaf l i = false := by rw [← hla, decide_eq_false hlf, Bool.and_false]
          have hlf' : ¬ (((leavesN l).getD m 0 : Nat) : Int) = (i : Int) := by omega
          rw [hlt] at hKz' hlb
          have hKl : ¬ (K.length : Int) = 0 := of_decide_eq_false hKz'
          have hK0 : ¬ K = [] := by intro e; rw [e] at hKl; exact hKl rfl
          generalize (leavesN l).getD m 0 = y at *
          simp [f6, f5, g0, g3, f8.one, hw0, hwd', e1, hil, a3, rdi, hgp, hpi0, hpiN, hpi0', hpiN', hwp, hP0, hP1, hP2, hP3, hat, hat', q2, q5, hlf', hlf, hKl, hK0]
          simp at hlb
          refine wpd_loop (fun (k : Nat) fr2 h7 => k ≤ K.length ∧ fr2.get 12 = some (.int .i64 (k : Int)) ∧ Fr h6.next h6 h7) (fun k => K.length - k) 0 ⟨by omega, by simp, Fr.refl f8.one⟩ ?_
          rintro k fr2 h7 ⟨hk7, f12, hf7⟩ hfe2
          have j0 := hfe2 0 rfl
          have j3 := hfe2 3 rfl
          have j5 := hfe2 5 rfl
          have j6 := hfe2 6 rfl
          have j7 := hfe2 7 rfl
          have j9 := hfe2 9 rfl
          simp [f5, f6, g0, g3] at j0 j3 j5 j6 j7 j9
          have r7 := r6.mono hf7
          have hk7' := hk6.mono hf7
          by_cases hkK : k < K.length
          · have ek : (k : Int) < K.length := by omega
            have hwk : IntKind.i64.wrap ((k : Int) + 1) = ((k + 1 : Nat) : Int) := wrap_succ (by omega)
            have hu := hkf k hkK
            have hin := fun (k0 : 0 < k) => hinc (k - 1) (by omega)
            rcases hk7' with ⟨_, e⟩ | ⟨bk, ok, ck, lk, ss, ww, zz, tt, u1, u2, u3, u4⟩
            · rw [e] at hkK; simp at hkK
            cases u1
            have m1 := u4 k hkK
            obtain ⟨x, hx⟩ : ∃ x, x = K.getD k 0 := ⟨_, rfl⟩
            rw [← hx] at m1 hu
            simp [j0, j6, j7, f12, ek, hkK, u2, m1, hf7.one]
            refine (Up_sp l _ _ hl2 h7 hf7.one r7).mono ?_
            rintro _ h8 ⟨rfl, f9⟩
            have u5 := (f9.get bk u3).trans u2
            have hf9 := hf7.trans (f9.mono hf7.next)
            by_cases k0 : k = 0
            · subst k0
              have hw1 : IntKind.i64.wrap 1 = 1 := wrap_i64 (by decide) (by decide)
              simp [hu, f9.one, j6, f12, hw1]
              exact ⟨1, by omega, by omega, rfl, hf9⟩
            · have k1 : (0 : Int) < k := by omega
              have k2 : 0 < k := by omega
              have hwp1 : IntKind.i64.wrap ((k : Int) - 1) = ((k - 1 : Nat) : Int) := wrap_pred k2 (by omega)
              have m2 := u4 (k - 1) (by omega)
              have hin' := hin k2
              obtain ⟨y, hy⟩ : ∃ y, y = K.getD (k - 1) 0 := ⟨_, rfl⟩
              rw [show k - 1 + 1 = k by omega, ← hx, ← hy] at hin'
              rw [← hy] at m2
              have k3 : k - 1 < K.length := by omega
              have k4 : ((k - 1 : Nat) : Int) < (K.length : Int) := by omega
              have hxy : ¬ x ≤ y := by omega
              have hxy' : ¬ (x : Int) ≤ (y : Int) := by omega
              simp [hu, f9.one, j6, j7, f12, hwk, k1, k2, ek, hkK, u5, m1, m2, hwp1, k3, k4, hxy, hxy']
              exact ⟨k + 1, by omega, by omega, rfl, hf9⟩
          · have ek : ¬ (k : Int) < K.length := by omega
            by_cases i0 : i = 0
            · subst i0
              have hw1 : IntKind.i64.wrap 1 = 1 := wrap_i64 (by decide) (by decide)
              simp [j0, j5, j6, j7, f12, ek, hkK, hf7.one, hw1]
              exact ⟨1, by omega, rfl, m, by omega, by omega, by omega, hlb, hF6.trans (hf7.mono (by have := f7.next; have := f8.next; have := hf4.next; omega))⟩
            · have i1 : ¬ (i : Int) = 0 := by omega
              obtain ⟨p, hp, hplt, _⟩ := up_some t (by omega) hil
              have hup : upV l (i : Int) = ((p : Int), 0) := by unfold upV; rw [if_pos hw0, if_neg i1, Int.toNat_natCast, hp]; rfl
              have hwp0 : wrongN l (p : Int) = 0 := wrong_zero hf (by omega)
              have hcnt := count_kids t (by omega) hil hp
              have hklp := kids_len l p
              have hplp := path_le (l := l) (p + 1) p (by omega)
              simp [j0, j6, j7, f12, ek, hkK, hf7.one, i0, i1]
              refine (Up_sp l _ _ hl2 h7 hf7.one r7).mono ?_
              rintro _ h8 ⟨rfl, f9⟩
              have r8 := r7.mono f9
              simp [hup, f9.one, j0, j6]
              refine (Path_sp l p _ hl2 h8 f9.one r8).mono ?_
              rintro _ h9 ⟨sa, rfl, sla, f10⟩
              have r9 := r8.mono f10
              simp [f10.one, j0]
              refine (Kids_sp l p _ hl2 h9 f10.one r9).mono ?_
              rintro _ h10 ⟨sm, rfl, slm, f11⟩
              simp only [if_pos hwp0, Int.toNat_natCast] at sla slm
              have hka := (RdK.of sla).mono f11
              have hkm := RdK.of slm
              obtain ⟨am, rfl⟩ := slm.slice
              generalize hM : kids l p = M at *
              have f67 := hf7.next
              have f89 := f9.next
              have f90 := f10.next
              have f01 := f11.next
              have hf10 : Fr h6.next h6 h10 := ((hf7.trans (f9.mono f67)).trans (f10.mono (by omega))).trans (f11.mono (by omega))
              simp [f11.one]
              refine wpd_loop (fun (q : Nat) fr3 h11 => q ≤ M.length ∧ fr3.get 22 = some (.int .i64 (q : Int)) ∧ fr3.get 21 = some (.int .i64 (((M.take q).count i : Nat) : Int)) ∧ h11 = h10) (fun q => M.length - q) 0 ⟨by omega, by simp, by simp, rfl⟩ ?_
              rintro q fr3 h11 ⟨hq, f22, f21, rfl⟩ hfe3
              have d0 := hfe3 0 rfl
              have d3 := hfe3 3 rfl
              have d5 := hfe3 5 rfl
              have d6 := hfe3 6 rfl
              have d9 := hfe3 9 rfl
              have d16 := hfe3 16 rfl
              have d17 := hfe3 17 rfl
              have d18 := hfe3 18 rfl
              have d19 := hfe3 19 rfl
              have d20 := hfe3 20 rfl
              simp [j0, j3, j5, j6, j9, hup, hwp0] at d0 d3 d5 d6 d9 d16 d17 d18 d19 d20
              by_cases hqM : q < M.length
              · have eq1 : (q : Int) < M.length := by omega
                have hwq : IntKind.i64.wrap ((q : Int) + 1) = ((q + 1 : Nat) : Int) := wrap_succ (by omega)
                have hct := count_take (L := M) (i := i) hqM
                have hcl : (M.take q).count i ≤ M.length := Nat.le_trans List.count_le_length (by simp; omega)
                rcases hkm with ⟨_, e⟩ | ⟨bk, ok, ck, lk, ss, ww, zz, tt, u1, u2, u3, u4⟩
                · rw [e] at hqM; simp at hqM
                cases u1
                have m1 := u4 q hqM
                generalize M.getD q 0 = x at *
                generalize hcz : (M.take q).count i = z at *
                have hwz : IntKind.i64.wrap ((z : Int) + 1) = ((z + 1 : Nat) : Int) := wrap_succ (by omega)
                by_cases hxi : x = i
                · have hxi' : (x : Int) = (i : Int) := by omega
                  rw [if_pos hxi] at hct
                  simp [d6, d19, f22, f21, eq1, hqM, u2, m1, hxi', hxi, f11.one, hwq, hwz]
                  exact ⟨q + 1, by omega, by omega, rfl, by omega⟩
                · have hxi' : ¬ (x : Int) = (i : Int) := by omega
                  rw [if_neg hxi] at hct
                  simp [d6, d19, f22, f21, eq1, hqM, u2, m1, hxi', hxi, f11.one, hwq]
                  exact ⟨q + 1, by omega, by omega, rfl, by omega⟩
              · have eq1 : ¬ (q : Int) < M.length := by omega
                rw [List.take_of_length_le (by omega), hcnt] at f21
                have hgp10 := (hf10.get gp (Nat.lt_of_lt_of_le hgn (Nat.le_refl _))).trans hgp
                have hP1' : 1 ≤ P.length := hP0
                simp [d0, d9, d16, d17, d18, d19, d20, f22, f21, eq1, f11.one, hgp10, hP1']
                have hgp11 : h11.get gp = some (.cells (encK (i :: pathO l (some p))) 1 true 0 none) := by rw [hgp10, hps, hp]
                refine (Ints_sp (pathO l (some p)) (pathO l (some p)) sa _ (by omega) h11 f11.one hka (RdK.tail hgp11 (by omega) _ _ (by rw [hps, hp]; simp))).mono ?_
                rintro _ h12 ⟨rfl, rfl⟩
                simp [f11.one, d5, d6, hwi]
                exact ⟨i + 1, by omega, rfl, m, by omega, by omega, by omega, hlb, hF6.trans (hf10.mono (by have := f7.next; have := f8.next; have := hf4.next; omega))⟩
      · have hat' : ¬ (m : Int) < ((leavesN l).length : Int) := by omega
        have hlt : isLeaf l i = false := by rw [← hla, decide_eq_false hat, Bool.false_and]
        rw [hlt] at hKz' hlb
        have hKl : ¬ (K.length : Int) = 0 := of_decide_eq_false hKz'
        have hK0 : ¬ K = [] := by intro e; rw [e] at hKl; exact hKl rfl
        simp [f6, f5, g0, g3, f8.one, hw0, hwd', e1, hil, a3, rdi, hgp, hpi0, hpiN, hpi0', hpiN', hwp, hP0, hP1, hP2, hP3, hat, hat', hsv, hKl, hK0]
        simp at hlb
        refine wpd_loop (fun (k : Nat) fr2 h7 => k ≤ K.length ∧ fr2.get 12 = some (.int .i64 (k : Int)) ∧ Fr h6.next h6 h7) (fun k => K.length - k) 0 ⟨by omega, by simp, Fr.refl f8.one⟩ ?_
        rintro k fr2 h7 ⟨hk7, f12, hf7⟩ hfe2
        have j0 := hfe2 0 rfl
        have j3 := hfe2 3 rfl
        have j5 := hfe2 5 rfl
        have j6 := hfe2 6 rfl
        have j7 := hfe2 7 rfl
        have j9 := hfe2 9 rfl
        simp [f5, f6, g0, g3] at j0 j3 j5 j6 j7 j9
        have r7 := r6.mono hf7
        have hk7' := hk6.mono hf7
        by_cases hkK : k < K.length
        · have ek : (k : Int) < K.length := by omega
          have hwk : IntKind.i64.wrap ((k : Int) + 1) = ((k + 1 : Nat) : Int) := wrap_succ (by omega)
          have hu := hkf k hkK
          have hin := fun (k0 : 0 < k) => hinc (k - 1) (by omega)
          rcases hk7' with ⟨_, e⟩ | ⟨bk, ok, ck, lk, ss, ww, zz, tt, u1, u2, u3, u4⟩
          · rw [e] at hkK; simp at hkK
          cases u1
          have m1 := u4 k hkK
          obtain ⟨x, hx⟩ : ∃ x, x = K.getD k 0 := ⟨_, rfl⟩
          rw [← hx] at m1 hu
          simp [j0, j6, j7, f12, ek, hkK, u2, m1, hf7.one]
          refine (Up_sp l _ _ hl2 h7 hf7.one r7).mono ?_
          rintro _ h8 ⟨rfl, f9⟩
          have u5 := (f9.get bk u3).trans u2
          have hf9 := hf7.trans (f9.mono hf7.next)
          by_cases k0 : k = 0
          · subst k0
            have hw1 : IntKind.i64.wrap 1 = 1 := wrap_i64 (by decide) (by decide)
            simp [hu, f9.one, j6, f12, hw1]
            exact ⟨1, by omega, by omega, rfl, hf9⟩
          · have k1 : (0 : Int) < k := by omega
            have k2 : 0 < k := by omega
            have hwp1 : IntKind.i64.wrap ((k : Int) - 1) = ((k - 1 : Nat) : Int) := wrap_pred k2 (by omega)
            have m2 := u4 (k - 1) (by omega)
            have hin' := hin k2
            obtain ⟨y, hy⟩ : ∃ y, y = K.getD (k - 1) 0 := ⟨_, rfl⟩
            rw [show k - 1 + 1 = k by omega, ← hx, ← hy] at hin'
            rw [← hy] at m2
            have k3 : k - 1 < K.length := by omega
            have k4 : ((k - 1 : Nat) : Int) < (K.length : Int) := by omega
            have hxy : ¬ x ≤ y := by omega
            have hxy' : ¬ (x : Int) ≤ (y : Int) := by omega
            simp [hu, f9.one, j6, j7, f12, hwk, k1, k2, ek, hkK, u5, m1, m2, hwp1, k3, k4, hxy, hxy']
            exact ⟨k + 1, by omega, by omega, rfl, hf9⟩
        · have ek : ¬ (k : Int) < K.length := by omega
          by_cases i0 : i = 0
          · subst i0
            have hw1 : IntKind.i64.wrap 1 = 1 := wrap_i64 (by decide) (by decide)
            simp [j0, j5, j6, j7, f12, ek, hkK, hf7.one, hw1]
            exact ⟨1, by omega, rfl, m, by omega, by omega, by omega, hlb, hF6.trans (hf7.mono (by have := f7.next; have := f8.next; have := hf4.next; omega))⟩
          · have i1 : ¬ (i : Int) = 0 := by omega
            obtain ⟨p, hp, hplt, _⟩ := up_some t (by omega) hil
            have hup : upV l (i : Int) = ((p : Int), 0) := by unfold upV; rw [if_pos hw0, if_neg i1, Int.toNat_natCast, hp]; rfl
            have hwp0 : wrongN l (p : Int) = 0 := wrong_zero hf (by omega)
            have hcnt := count_kids t (by omega) hil hp
            have hklp := kids_len l p
            have hplp := path_le (l := l) (p + 1) p (by omega)
            simp [j0, j6, j7, f12, ek, hkK, hf7.one, i0, i1]
            refine (Up_sp l _ _ hl2 h7 hf7.one r7).mono ?_
            rintro _ h8 ⟨rfl, f9⟩
            have r8 := r7.mono f9
            simp [hup, f9.one, j0, j6]
            refine (Path_sp l p _ hl2 h8 f9.one r8).mono ?_
            rintro _ h9 ⟨sa, rfl, sla, f10⟩
            have r9 := r8.mono f10
            simp [f10.one, j0]
            refine (Kids_sp l p _ hl2 h9 f10.one r9).mono ?_
            rintro _ h10 ⟨sm, rfl, slm, f11⟩
            simp only [if_pos hwp0, Int.toNat_natCast] at sla slm
            have hka := (RdK.of sla).mono f11
            have hkm := RdK.of slm
            obtain ⟨am, rfl⟩ := slm.slice
            generalize hM : kids l p = M at *
            have f67 := hf7.next
            have f89 := f9.next
            have f90 := f10.next
            have f01 := f11.next
            have hf10 : Fr h6.next h6 h10 := ((hf7.trans (f9.mono f67)).trans (f10.mono (by omega))).trans (f11.mono (by omega))
            simp [f11.one]
            refine wpd_loop (fun (q : Nat) fr3 h11 => q ≤ M.length ∧ fr3.get 22 = some (.int .i64 (q : Int)) ∧ fr3.get 21 = some (.int .i64 (((M.take q).count i : Nat) : Int)) ∧ h11 = h10) (fun q => M.length - q) 0 ⟨by omega, by simp, by simp, rfl⟩ ?_
            rintro q fr3 h11 ⟨hq, f22, f21, rfl⟩ hfe3
            have d0 := hfe3 0 rfl
            have d3 := hfe3 3 rfl
            have d5 := hfe3 5 rfl
            have d6 := hfe3 6 rfl
            have d9 := hfe3 9 rfl
            have d16 := hfe3 16 rfl
            have d17 := hfe3 17 rfl
            have d18 := hfe3 18 rfl
            have d19 := hfe3 19 rfl
            have d20 := hfe3 20 rfl
            simp [j0, j3, j5, j6, j9, hup, hwp0] at d0 d3 d5 d6 d9 d16 d17 d18 d19 d20
            by_cases hqM : q < M.length
            · have eq1 : (q : Int) < M.length := by omega
              have hwq : IntKind.i64.wrap ((q : Int) + 1) = ((q + 1 : Nat) : Int) := wrap_succ (by omega)
              have hct := count_take (L := M) (i := i) hqM
              have hcl : (M.take q).count i ≤ M.length := Nat.le_trans List.count_le_length (by simp; omega)
              rcases hkm with ⟨_, e⟩ | ⟨bk, ok, ck, lk, ss, ww, zz, tt, u1, u2, u3, u4⟩
              · rw [e] at hqM; simp at hqM
              cases u1
              have m1 := u4 q hqM
              generalize M.getD q 0 = x at *
              generalize hcz : (M.take q).count i = z at *
              have hwz : IntKind.i64.wrap ((z : Int) + 1) = ((z + 1 : Nat) : Int) := wrap_succ (by omega)
              by_cases hxi : x = i
              · have hxi' : (x : Int) = (i : Int) := by omega
                rw [if_pos hxi] at hct
                simp [d6, d19, f22, f21, eq1, hqM, u2, m1, hxi', hxi, f11.one, hwq, hwz]
                exact ⟨q + 1, by omega, by omega, rfl, by omega⟩
              · have hxi' : ¬ (x : Int) = (i : Int) := by omega
                rw [if_neg hxi] at hct
                simp [d6, d19, f22, f21, eq1, hqM, u2, m1, hxi', hxi, f11.one, hwq]
                exact ⟨q + 1, by omega, by omega, rfl, by omega⟩
            · have eq1 : ¬ (q : Int) < M.length := by omega
              rw [List.take_of_length_le (by omega), hcnt] at f21
              have hgp10 := (hf10.get gp (Nat.lt_of_lt_of_le hgn (Nat.le_refl _))).trans hgp
              have hP1' : 1 ≤ P.length := hP0
              simp [d0, d9, d16, d17, d18, d19, d20, f22, f21, eq1, f11.one, hgp10, hP1']
              have hgp11 : h11.get gp = some (.cells (encK (i :: pathO l (some p))) 1 true 0 none) := by rw [hgp10, hps, hp]
              refine (Ints_sp (pathO l (some p)) (pathO l (some p)) sa _ (by omega) h11 f11.one hka (RdK.tail hgp11 (by omega) _ _ (by rw [hps, hp]; simp))).mono ?_
              rintro _ h12 ⟨rfl, rfl⟩
              simp [f11.one, d5, d6, hwi]
              exact ⟨i + 1, by omega, rfl, m, by omega, by omega, by omega, hlb, hF6.trans (hf10.mono (by have := f7.next; have := f8.next; have := hf4.next; omega))⟩
    · have e1 : ¬ (i : Int) < l.length := by omega
      have hil' : i = l.length := by omega
      rw [hil', leafF_end (Nat.le_refl _), List.drop_eq_nil_iff] at hdr
      have e2 : (m : Int) = ((leavesN l).length : Int) := by omega
      simp [f6, f5, g0, g3, hf4.one, e1, e2, hsv]
      refine (wakes_sp _ hf4.one).mono ?_
      rintro _ h15 ⟨rfl, f15⟩
      simp [f15.one]
  · simp [f3.one, hf]
    refine (wakes_sp _ f3.one).mono ?_
    rintro _ h15 ⟨rfl, f15⟩
    simp [f15.one]
end Go.Dm
