/- Sums: what 'Hash' comes to, the program's and the document's. -/
import Derived.Test.YtnmfdjmejpioiaaDoorTrE
set_option linter.unusedVariables false
set_option linter.unusedSimpArgs false
namespace Go.Dm
open Go.Proofs
set_option maxRecDepth 100000 in
set_option maxHeartbeats 8000000 in
theorem RefHash_sp (l : List Nd) (n : Int) (t : Tr l n) (hk : ∀ x ∈ l, x.kind < 256) (i : Nat) (hi : i < l.length) (v : Value) (hl : l.length < 2 ^ 20) (h : H) (h1 : h.one = []) (hr : RdN h v l) :
    CallW E0 X0 (.fn 20) [v, .int .i64 i] h (fun r h' => r = .int .u64 (sumN l i) ∧ h' = h) := by
  refine CallW.body efn20 rfl rfl rfl [] (by kernel_rfl) ?_
  obtain ⟨b, cap, st, own, fz, ty, rfl, a2, a3, a4, a5⟩ := hr.ne (by omega)
  simp [Tryd.f20, h1]
  refine wpd_loop (fun (k : Nat) fr h3 => fr.get 6 = some (.int .i64 (k : Int)) ∧ i ≤ k ∧ k ≤ l.length ∧ (∃ s, fr.get 5 = some (.int .u64 s) ∧ SumAt l i k s) ∧ h3 = h) (fun k => l.length - k) i ⟨by simp, Nat.le_refl _, by omega, ⟨sum0, by simp [sum0], .inl ⟨rfl, rfl⟩⟩, rfl⟩ ?_
  rintro k fr h3 ⟨f6, hik, hkl, ⟨s, f5, hs⟩, rfl⟩ hf
  have g0 := hf 0 rfl
  have g1 := hf 1 rfl
  simp at g0 g1
  by_cases hkl' : k < l.length
  · have e1 : (k : Int) < l.length := by omega
    have e2 : (i : Int) < l.length := by omega
    have hw : IntKind.i64.wrap ((k : Int) + 1) = ((k + 1 : Nat) : Int) := wrap_succ (by omega)
    have rk0 := rd_kind hkl'
    have b0 : k * 4 < (encsN l).length := by simp; omega
    have rk0' : (encsN l)[k * 4] = .int .u8 (nd l k).kind := Option.some.inj ((List.getElem?_eq_getElem b0).symm.trans rk0)
    have rk1 := rd_fm hkl'
    have rk2 := rd_to hkl'
    have rk3 := rd_dp hkl'
    have ri1 := rd_fm hi
    have ri3 := rd_dp hi
    have d1 := t.fm k hkl'
    have d2 := t.to k hkl'
    have d3 := t.mx k hkl'
    have d4 := t.n1
    have d5 := t.fm i hi
    have d6 := t.to i hi
    have d7 := t.mx i hi
    have d8 := t.pos k hkl'
    have d9 := t.pos i hi
    have hkk : (nd l k).kind < 256 := hk _ (by rw [← nd_get hkl']; exact List.getElem_mem ..)
    have w0 : IntKind.u64.wrap ((nd l k).kind : Int) = ((nd l k).kind : Int) := wrap_u64 (by omega) (by omega)
    have w1 : IntKind.i64.wrap ((nd l k).dp - (nd l i).dp) = (nd l k).dp - (nd l i).dp := wrap_i64 (by omega) (by omega)
    have w2 : IntKind.i64.wrap ((nd l k).fm - (nd l i).fm) = (nd l k).fm - (nd l i).fm := wrap_i64 (by omega) (by omega)
    have w3 : IntKind.i64.wrap ((nd l k).to - (nd l i).fm) = (nd l k).to - (nd l i).fm := wrap_i64 (by omega) (by omega)
    have w4 := wrap_u64_mod ((nd l k).dp - (nd l i).dp)
    have w5 := wrap_u64_mod ((nd l k).fm - (nd l i).fm)
    have w6 := wrap_u64_mod ((nd l k).to - (nd l i).fm)
    by_cases hd : k = i ∨ (nd l i).dp < (nd l k).dp
    · have hst := hs.step hkl' hd
      rcases hd with rfl | hd
      · simp [f6, f5, g0, g1, a3, h1, e1, hkl', rk0, rk0', w0]
        refine (RefEat_sp _ (nd l k).kind (by omega) _ h1).mono ?_
        rintro _ h6 ⟨rfl, rfl⟩
        simp [-Int.sub_self, f6, g0, g1, a3, h1, e1, hkl', rk0, rk1, rk2, rk3, w0, w1, w2, w3, w4, w5, w6, hw]
        refine (RefEat_sp _ _ (u64n_lt _) _ h1).mono ?_
        rintro _ h7 ⟨rfl, rfl⟩
        simp [-Int.sub_self, f6, g0, g1, a3, h1, e1, hkl', rk0, rk1, rk2, rk3, w0, w1, w2, w3, w4, w5, w6, hw]
        refine (RefEat_sp _ _ (u64n_lt _) _ h1).mono ?_
        rintro _ h8 ⟨rfl, rfl⟩
        simp [-Int.sub_self, f6, g0, g1, a3, h1, e1, hkl', rk0, rk1, rk2, rk3, w0, w1, w2, w3, w4, w5, w6, hw]
        refine (RefEat_sp _ _ (u64n_lt _) _ h1).mono ?_
        rintro _ h9 ⟨rfl, rfl⟩
        simp [-Int.sub_self, f6, g0, g1, a3, h1, e1, hkl', rk0, rk1, rk2, rk3, w0, w1, w2, w3, w4, w5, w6, hw]
        exact ⟨k + 1, by omega, rfl, by omega, by omega, hst⟩
      · by_cases hki : k = i
        · subst hki; omega
        have hki' : ¬ (k : Int) = (i : Int) := by omega
        simp [f6, f5, g0, g1, a3, h1, e1, e2, hkl', hi, hki, hki', hd, rk0, rk0', rk3, ri3, w0]
        refine (RefEat_sp _ (nd l k).kind (by omega) _ h1).mono ?_
        rintro _ h6 ⟨rfl, rfl⟩
        simp [f6, g0, g1, a3, h1, e1, e2, hkl', hi, rk0, rk1, rk2, rk3, ri1, ri3, w0, w1, w2, w3, w4, w5, w6, hw]
        refine (RefEat_sp _ _ (u64n_lt _) _ h1).mono ?_
        rintro _ h7 ⟨rfl, rfl⟩
        simp [f6, g0, g1, a3, h1, e1, e2, hkl', hi, rk0, rk1, rk2, rk3, ri1, ri3, w0, w1, w2, w3, w4, w5, w6, hw]
        refine (RefEat_sp _ _ (u64n_lt _) _ h1).mono ?_
        rintro _ h8 ⟨rfl, rfl⟩
        simp [f6, g0, g1, a3, h1, e1, e2, hkl', hi, rk0, rk1, rk2, rk3, ri1, ri3, w0, w1, w2, w3, w4, w5, w6, hw]
        refine (RefEat_sp _ _ (u64n_lt _) _ h1).mono ?_
        rintro _ h9 ⟨rfl, rfl⟩
        simp [f6, g0, g1, a3, h1, e1, e2, hkl', hi, rk0, rk1, rk2, rk3, ri1, ri3, w0, w1, w2, w3, w4, w5, w6, hw]
        exact ⟨k + 1, by omega, rfl, by omega, by omega, hst⟩
    · have hki : ¬ k = i := fun e => hd (.inl e)
      have hki' : ¬ (k : Int) = (i : Int) := by omega
      have hd2 : ¬ (nd l i).dp < (nd l k).dp := fun e => hd (.inr e)
      have hfin := hs.fin (by omega) (fun _ => by omega)
      simp [f6, f5, g0, g1, a3, h1, e1, e2, hkl', hi, hki, hki', hd2, rk3, ri3, hfin]
  · have e1 : ¬ (k : Int) < l.length := by omega
    have hfin := hs.fin (by omega) (fun h => absurd h hkl')
    simp [f6, f5, g0, g1, h1, e1, hfin]
theorem wrong_ok' {l : List Nd} {i : Int} (h : wrongN l i = 0) : fitN l = true ∧ 0 ≤ i ∧ i < l.length := by
  unfold wrongN at h
  by_cases hf : fitN l = true
  · rw [if_pos hf] at h
    split at h
    · cases h
    · exact ⟨hf, by omega, by omega⟩
  · rw [if_neg hf] at h; cases h
theorem wrong_zero' {l : List Nd} {i : Nat} (hf : fitN l = true) (h : i < l.length) : wrongN l i = 0 := by
  unfold wrongN
  rw [if_pos hf, if_neg (by omega)]
/-- What 'Hash' tells. -/
def hashV (l : List Nd) (i : Int) : Int := if wrongN l i = 0 then sumN l i.toNat else 0
set_option maxRecDepth 100000 in
set_option maxHeartbeats 16000000 in
theorem Hash_sp (l : List Nd) (hk : ∀ x ∈ l, x.kind < 256) (i : Int) (v : Value) (hl : l.length < 2 ^ 20) (h : H) (h1 : h.one = []) (hr : RdN h v l) :
    CallW E0 X0 (.fn 18) [v, .int .i64 i] h (fun r h' => r = .tuple #[.int .u64 (hashV l i), .int .i64 (wrongN l i)] ∧ Fr h.next h h') := by
  refine CallW.body efn18 rfl rfl rfl [] (by kernel_rfl) ?_
  have hr0 : RdN ((h.nw (.cells [v] 0 true 0 none)).nw (.cells [.int .i64 i] 0 true 0 none)) v l := hr.mono (((Fr.refl h1).nw (Nat.le_refl _) _).nw (by simp) _)
  have hcv : v.cells.toList = [v] := by obtain ⟨a, cap, rfl⟩ := hr.sl; rfl
  simp [Tryd.f18, h1, hcv]
  refine (fit_sp l i _ hl _ (by simp) hr0).mono ?_
  rintro _ h2 ⟨rfl, hf2⟩
  have n2 := hf2.next
  simp at n2
  have hfr : Fr h.next h h2 := (((Fr.refl h1).nw (Nat.le_refl _) _).nw (by simp) _).trans (hf2.mono (by simp))
  by_cases hw : wrongN l i = 0
  · obtain ⟨hf, i0, i1⟩ := wrong_ok' hw
    obtain ⟨k, rfl⟩ := Int.eq_ofNat_of_zero_le i0
    have hv : hashV l (k : Int) = sumN l k := by unfold hashV; rw [if_pos hw]; rfl
    have x1 : ¬ h.next = h2.next := by omega
    have x2 : ¬ h.next = h2.next + 1 := by omega
    have x3 : ¬ h.next + 1 = h2.next := by omega
    have x4 : ¬ h.next + 1 = h2.next + 1 := by omega
    have x3' : ¬ h.next = h2.next + 1 + 1 := by omega
    have y1 : h2.get h.next = some (.cells [v] 0 true 0 none) := (hf2.get h.next (by simp)).trans (by simp)
    have y2 : h2.get (h.next + 1) = some (.cells [.int .i64 k] 0 true 0 none) := (hf2.get (h.next + 1) (by simp)).trans (by simp)
    simp [hf2.one, hw, hv, x1, x2, x3, x4, y1, y2]
    refine (within_sp v hcv k _ (by simp [hf2.one])).mono ?_
    rintro _ h3 ⟨rfl, rfl⟩
    simp
    generalize hF : (T.set _ 20 _ : T Value) = F
    generalize hH : (H.nw (H.nw (H.put _ _ _) _) _) = h4
    have g2 : F.get 2 = some (.pointer (some ⟨h.next, 0, none⟩)) := by rw [← hF]; simp
    have g3 : F.get 3 = some (.pointer (some ⟨h.next + 1, 0, none⟩)) := by rw [← hF]; simp
    have g7 : F.get 7 = some (.pointer (some ⟨h2.next, 0, none⟩)) := by rw [← hF]; simp
    have g8 : F.get 8 = some (.pointer (some ⟨h2.next + 1, 0, none⟩)) := by rw [← hF]; simp
    have g20 : F.get 20 = some (.func (.func 49) #[] #[.pointer (some ⟨h2.next + 2 + 1, 0, none⟩), .pointer (some ⟨h2.next + 2, 0, none⟩)]) := by rw [← hF]; simp
    have n4 : h4.next = h2.next + 4 := by rw [← hH]; simp
    have o4 : h4.one = [] := by rw [← hH]; simp
    have k7 : h4.get h2.next = some (.cells [.int .u64 sum0] 0 true 0 none) := by rw [← hH]; simp [sum0]
    have k8 : h4.get (h2.next + 1) = some (.cells [.func (.func 37) #[] #[.pointer (some ⟨h2.next, 0, none⟩)]] 0 true 0 none) := by rw [← hH]; simp
    have kl : h4.get (h2.next + 2) = some (.cells [v] 0 true 0 none) := by rw [← hH]; simp
    have ki : h4.get (h2.next + 3) = some (.cells [.int .i64 k] 0 true 0 none) := by rw [← hH]; simp
    have kold : ∀ b, b < h2.next → h4.get b = h2.get b := by
      intro b hb
      rw [← hH]
      simp [show ¬ b = h2.next by omega, show ¬ b = h2.next + 1 by omega, show ¬ b = h2.next + 1 + 1 by omega, show ¬ b = h2.next + 2 by omega, show ¬ b = h2.next + 3 by omega, show ¬ b = h2.next + 2 + 1 by omega]
    clear hF hH
    refine wpd_range (g := 49) (first := #[]) (cap := #[.pointer (some ⟨h2.next + 2 + 1, 0, none⟩), .pointer (some ⟨h2.next + 2, 0, none⟩)]) o4 (by simp [g20]) ?_
    generalize hL : (Lp.mk LoopState.ready none F _ _ _) = L
    have hk1 : k < l.length := by omega
    have hkold : ∀ h' : H, (∀ b, b < h4.next → b ≠ h2.next → h'.get b = h4.get b) → ∀ b, b < h2.next → h'.get b = h2.get b := fun h' hh b hb => (hh b (by omega) (by omega)).trans (kold b hb)
    have hrd : ∀ h' : H, h2.next ≤ h'.next → (∀ b, b < h2.next → h'.get b = h2.get b) → RdN h' v l := by
      intro h' hn hh
      rcases hr with r | ⟨b, cap, st, own, fz, ty, a1, a2, a3, a4, a5⟩
      · exact .inl r
      · exact .inr ⟨b, cap, st, own, fz, ty, a1, a2, (hh b (by omega)).trans ((hfr.get b a5).trans a3), a4, by omega⟩
    refine (within1_sp l k hk1 hl (h2.next + 2) (h2.next + 3) h4.next v (fun j h' => ∃ s, SumAt l k j s ∧ h'.one = [] ∧ h4.next < h'.next ∧ h'.get h4.next = some (.loop L) ∧ h'.get h2.next = some (.cells [.int .u64 s] 0 true 0 none) ∧ (∀ b, b < h4.next → b ≠ h2.next → h'.get b = h4.get b)) ?_ ?_ (h4.nw (.loop L)) ?_).mono ?_
    · rintro j h' ⟨s, _, o, hn, _, _, hh⟩
      exact ⟨o, ⟨_, _, _, _, (hh _ (by omega) (by omega)).trans kl⟩, ⟨_, _, _, _, (hh _ (by omega) (by omega)).trans ki⟩, hrd h' (by omega) (hkold h' hh)⟩
    · rintro j h' hj hd ⟨s, hs, o, hn, hgL, hg7, hh⟩
      have hst := hs.step hj hd
      rw [← hL] at hgL
      refine CallW.yd (fr0 := (F.set 21 (some (.int .i64 j))).set 22 (some (.agg (encN (nd l j)).toArray))) hgL rfl [] [] (by kernel_rfl) (by kernel_rfl) ?_
      have rk0 := hk (nd l j) (by rw [← nd_get hj]; exact List.getElem_mem ..)
      have t := Tr.of_fit hf
      have d1 := t.fm j hj
      have d2 := t.to j hj
      have d3 := t.mx j hj
      have d4 := t.n1
      have d5 := t.fm k hk1
      have d6 := t.to k hk1
      have d7 := t.mx k hk1
      have d8 := t.pos j hj
      have d9 := t.pos k hk1
      have ri1 := rd_fm hk1
      have ri3 := rd_dp hk1
      have c8 := (hh _ (by omega) (by omega)).trans k8
      have c2 := (hkold h' hh h.next (by omega)).trans y1
      have c3 := (hkold h' hh (h.next + 1) (by omega)).trans y2
      have w1 : IntKind.i64.wrap ((nd l j).dp - (nd l k).dp) = (nd l j).dp - (nd l k).dp := wrap_i64 (by omega) (by omega)
      have w2 : IntKind.i64.wrap ((nd l j).fm - (nd l k).fm) = (nd l j).fm - (nd l k).fm := wrap_i64 (by omega) (by omega)
      have w3 : IntKind.i64.wrap ((nd l j).to - (nd l k).fm) = (nd l j).to - (nd l k).fm := wrap_i64 (by omega) (by omega)
      generalize hx : nd l j = x at *
      obtain ⟨xk, xf, xt, xd⟩ := x
      have w0 : IntKind.i64.wrap (xk : Int) = (xk : Int) := wrap_i64 (by omega) (by simp only at rk0; omega)
      have e1 : ¬ h4.next = h'.next := by omega
      have e2 : ¬ h2.next + 1 = h4.next := by omega
      have e3 : ¬ h2.next + 1 = h'.next := by omega
      have e4 : ¬ h'.next = h4.next := by omega
      have e5 : ¬ h2.next = h4.next := by omega
      have e6 : ¬ h2.next = h'.next := by omega
      have e7 : ¬ h.next = h'.next := by omega
      have e8 : ¬ h.next = h4.next := by omega
      have e9 : ¬ h.next + 1 = h'.next := by omega
      have e10 : ¬ h.next + 1 = h4.next := by omega
      have e11 : h.next ≠ h2.next := by omega
      have e12 : h.next + 1 ≠ h2.next := by omega
      have e13 : h'.next ≠ h2.next := by omega
      obtain ⟨b, cap, st, own, fz, ty, rfl, a2, a3, a4, a5⟩ := hr.ne (by omega)
      have cb := (hkold h' hh b (by omega)).trans ((hfr.get b a5).trans a3)
      have e14 : ¬ b = h'.next := by omega
      have e15 : ¬ b = h4.next := by omega
      have e16 : b ≠ h2.next := by omega
      have ek : (k : Int) < l.length := by omega
      simp [g8, encN, hgL, o, e1, e2, e3, e4, c8, w0]
      generalize hA0 : (H.put (H.put (H.nw h' _) _ _) _ _) = hA
      have A1 : hA.one = [] := by rw [← hA0]; simp
      have A2 : hA.next = h'.next + 1 := by rw [← hA0]; simp
      have A7 : hA.get h2.next = some (.cells [.int .u64 s] 0 true 0 none) := by rw [← hA0]; simp [e5, e6, hg7]
      have A8 : hA.get (h2.next + 1) = some (.cells [.func (.func 37) #[] #[.pointer (some ⟨h2.next, 0, none⟩)]] 0 true 0 none) := by rw [← hA0]; simp [e2, e3, c8]
      have Ax : hA.get h'.next = some (.cells [.int .u8 xk, .int .i64 xf, .int .i64 xt, .int .i64 xd] 0 true 0 none) := by rw [← hA0]; simp [e4]
      have Ay : ∃ r2 : Lp, hA.get h4.next = some (.loop r2) ∧ ({ r2 with state := .ready, pending := none } : Lp) = L := by
        rw [← hA0]
        simp
        rw [← hL]
      have Al : hA.get h.next = some (.cells [.slice (some ⟨b, 0, none⟩) l.length cap] 0 true 0 none) := by rw [← hA0]; simp [e7, e8, c2]
      have Ai : hA.get (h.next + 1) = some (.cells [.int .i64 k] 0 true 0 none) := by rw [← hA0]; simp [e9, e10, c3]
      have Ab : hA.get b = some (.cells (encsN l) st own fz ty) := by rw [← hA0]; simp [e14, e15, cb]
      have Ah : ∀ c, c < h4.next → c ≠ h2.next → hA.get c = h4.get c := by
        intro c hc hc2
        rw [← hA0, H.get_put, if_neg (by omega), H.get_put, if_neg (by omega), get_nw, if_neg (by omega)]
        exact hh c hc hc2
      clear hA0
      refine (eat_sp xk h2.next s 0 0 none hA A1 A7).mono ?_
      rintro _ hB ⟨B7, B⟩
      have B8 := (B.get _ (by omega)).trans A8
      have Bx := (B.get _ e13).trans Ax
      have Bl := (B.get _ e11).trans Al
      have Bi := (B.get _ e12).trans Ai
      have Bb := (B.get _ e16).trans Ab
      simp [g8, g2, g3, B.one, B8, Bx, Bl, Bi, Bb, ri3, hk1, ek, w1]
      refine (eat_sp _ h2.next _ 0 0 none hB B.one B7).mono ?_
      rintro _ hC ⟨C7, C⟩
      have C8 := (C.get _ (by omega)).trans B8
      have Cx := (C.get _ e13).trans Bx
      have Cl := (C.get _ e11).trans Bl
      have Ci := (C.get _ e12).trans Bi
      have Cb := (C.get _ e16).trans Bb
      simp [g8, g2, g3, C.one, C8, Cx, Cl, Ci, Cb, ri1, hk1, ek, w2]
      refine (eat_sp _ h2.next _ 0 0 none hC C.one C7).mono ?_
      rintro _ hD ⟨D7, D⟩
      have D8 := (D.get _ (by omega)).trans C8
      have Dx := (D.get _ e13).trans Cx
      have Dl := (D.get _ e11).trans Cl
      have Di := (D.get _ e12).trans Ci
      have Db := (D.get _ e16).trans Cb
      simp [g8, g2, g3, D.one, D8, Dx, Dl, Di, Db, ri1, hk1, ek, w3]
      refine (eat_sp _ h2.next _ 0 0 none hD D.one D7).mono ?_
      rintro _ hE ⟨E7, Ee⟩
      obtain ⟨r2, hr2, hr3⟩ := Ay
      have hE2 : hE.get h4.next = some (.loop r2) := (Ee.get _ (by omega)).trans ((D.get _ (by omega)).trans ((C.get _ (by omega)).trans ((B.get _ (by omega)).trans hr2)))
      have hEn : hE.next = h'.next + 1 := by rw [Ee.next, D.next, C.next, B.next, A2]
      simp [Ee.one, hE2]
      rw [hr3]
      refine ⟨_, hst, by omega, rfl, ?_, fun c hc hc2 => ?_⟩
      · rw [if_neg e5, E7]
        have hkk : u64n (xk : Int) = xk := by unfold u64n; simp only at rk0; omega
        rw [hkk]
        rfl
      · rw [if_neg (by omega), Ee.get c hc2, D.get c hc2, C.get c hc2, B.get c hc2]
        exact Ah c hc hc2
    · exact ⟨sum0, .inl ⟨rfl, rfl⟩, rfl, by simp, by simp, by simp [k7, show ¬ h2.next = h4.next by omega], fun b hb _ => by rw [get_nw, if_neg (by omega)]⟩
    · rintro r h' ⟨j, hj, ⟨s, hs, o, hn, hgL, hg7, hh⟩, hstop⟩
      have hfin := hs.fin hj hstop
      subst hfin
      refine ⟨L, .normal, hgL, by rw [← hL]; exact LoopState.noConfusion, by rw [← hL]; rfl, ?_⟩
      have x7 : ¬ h2.next = h4.next := by omega
      simp [g7, hg7, o, x7]
      exact ⟨o, by simp; omega, fun b hb => by rw [H.get_put, if_neg (by omega)]; exact (hkold h' hh b (by omega)).trans (hfr.get b hb)⟩
  · have hv : hashV l i = 0 := by unfold hashV; rw [if_neg hw]
    simp [hf2.one, hw, hv]
    exact hfr
end Go.Dm
