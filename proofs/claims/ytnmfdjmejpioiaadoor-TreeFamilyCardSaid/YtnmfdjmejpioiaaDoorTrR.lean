/- Trees: what the program's 'Kids' comes to. -/
import Derived.Test.YtnmfdjmejpioiaaDoorTrN
import Derived.Test.YtnmfdjmejpioiaaDoorTrW
set_option linter.unusedVariables false
set_option linter.unusedSimpArgs false
namespace Go.Dm
open Go.Proofs
set_option maxRecDepth 100000 in
set_option maxHeartbeats 16000000 in
theorem Kids_sp (l : List Nd) (i : Int) (v : Value) (hl : l.length < 2 ^ 20) (h : H) (h1 : h.one = []) (hr : RdN h v l) :
    CallW E0 X0 (.fn 22) [v, .int .i64 i] h (fun r h' => ∃ s, r = .tuple #[s, .int .i64 (wrongN l i)] ∧ SlG none 1 h.next h' s (encK (if wrongN l i = 0 then kids l i.toNat else [])) (if wrongN l i = 0 then kids l i.toNat else []).length ∧ Fr h.next h h') := by
  refine CallW.body efn22 rfl rfl rfl [] (by kernel_rfl) ?_
  have hr0 : RdN ((h.nw (.cells [v] 0 true 0 none)).nw (.cells [.int .i64 i] 0 true 0 none)) v l := hr.mono (((Fr.refl h1).nw (Nat.le_refl _) _).nw (by simp) _)
  have hcv : v.cells.toList = [v] := by obtain ⟨a, cap, rfl⟩ := hr.sl; rfl
  simp [Tryd.f22, h1, hcv]
  refine (fit_sp l i _ hl _ (by simp) hr0).mono ?_
  rintro _ h2 ⟨rfl, hf2⟩
  have n2 := hf2.next
  simp at n2
  have hfr : Fr h.next h h2 := (((Fr.refl h1).nw (Nat.le_refl _) _).nw (by simp) _).trans (hf2.mono (by simp))
  by_cases hw : wrongN l i = 0
  · obtain ⟨hf, i0, i1⟩ := wrong_ok' hw
    obtain ⟨k, rfl⟩ := Int.eq_ofNat_of_zero_le i0
    have x1 : ¬ h.next = h2.next := by omega
    have x3 : ¬ h.next + 1 = h2.next := by omega
    have y1 : h2.get h.next = some (.cells [v] 0 true 0 none) := (hf2.get h.next (by simp)).trans (by simp)
    have y2 : h2.get (h.next + 1) = some (.cells [.int .i64 k] 0 true 0 none) := (hf2.get (h.next + 1) (by simp)).trans (by simp)
    simp [hf2.one, hw, x1, x3, y1, y2]
    refine (within_sp v hcv k _ (by simp [hf2.one])).mono ?_
    rintro _ h3 ⟨rfl, rfl⟩
    simp
    generalize hF : (T.set _ 18 _ : T Value) = F
    generalize hH : (H.nw (H.nw (H.nw _ _) _) _) = h4
    have g2 : F.get 2 = some (.pointer (some ⟨h.next, 0, none⟩)) := by rw [← hF]; simp
    have g3 : F.get 3 = some (.pointer (some ⟨h.next + 1, 0, none⟩)) := by rw [← hF]; simp
    have g7 : F.get 7 = some (.pointer (some ⟨h2.next, 0, none⟩)) := by rw [← hF]; simp
    have g18 : F.get 18 = some (.func (.func 49) #[] #[.pointer (some ⟨h2.next + 1 + 1, 0, none⟩), .pointer (some ⟨h2.next + 1, 0, none⟩)]) := by rw [← hF]; simp
    have n4 : h4.next = h2.next + 3 := by rw [← hH]; simp
    have o4 : h4.one = [] := by rw [← hH]; simp
    have k7 : h4.get h2.next = some (.cells [.slice none 0 0] 0 true 0 none) := by rw [← hH]; simp
    have kl : h4.get (h2.next + 1) = some (.cells [v] 0 true 0 none) := by rw [← hH]; simp
    have ki : h4.get (h2.next + 2) = some (.cells [.int .i64 k] 0 true 0 none) := by rw [← hH]; simp
    have kold : ∀ b, b < h2.next → h4.get b = h2.get b := by
      intro b hb
      rw [← hH]
      simp [show ¬ b = h2.next by omega, show ¬ b = h2.next + 1 by omega, show ¬ b = h2.next + 1 + 1 by omega, show ¬ b = h2.next + 2 by omega]
    clear hF hH
    refine wpd_range (g := 49) (first := #[]) (cap := #[.pointer (some ⟨h2.next + 1 + 1, 0, none⟩), .pointer (some ⟨h2.next + 1, 0, none⟩)]) o4 (by simp [g18]) ?_
    generalize hL : (Lp.mk LoopState.ready none F _ _ _) = L
    have hk1 : k < l.length := by omega
    have t := Tr.of_fit hf
    have hkold : ∀ h' : H, (∀ b, b < h4.next → b ≠ h2.next → h'.get b = h4.get b) → ∀ b, b < h2.next → h'.get b = h2.get b := fun h' hh b hb => (hh b (by omega) (by omega)).trans (kold b hb)
    have hrd : ∀ h' : H, h2.next ≤ h'.next → (∀ b, b < h2.next → h'.get b = h2.get b) → RdN h' v l := by
      intro h' hn hh
      rcases hr with r | ⟨b, cap, st, own, fz, ty, a1, a2, a3, a4, a5⟩
      · exact .inl r
      · exact .inr ⟨b, cap, st, own, fz, ty, a1, a2, (hh b (by omega)).trans ((hfr.get b a5).trans a3), a4, by omega⟩
    refine (within1_sp l k hk1 hl (h2.next + 1) (h2.next + 2) h4.next v (fun j h' => ∃ P vb, KidAt l k j P ∧ h'.one = [] ∧ h4.next < h'.next ∧ h'.get h4.next = some (.loop L) ∧ h'.get h2.next = some (.cells [vb] 0 true 0 none) ∧ SlG none 1 (h4.next + 1) h' vb (encK P) P.length ∧ (∀ b, b < h4.next → b ≠ h2.next → h'.get b = h4.get b)) ?_ ?_ (h4.nw (.loop L)) ?_).mono ?_
    · rintro j h' ⟨P, vb, _, o, hn, _, _, _, hh⟩
      exact ⟨o, ⟨_, _, _, _, (hh _ (by omega) (by omega)).trans kl⟩, ⟨_, _, _, _, (hh _ (by omega) (by omega)).trans ki⟩, hrd h' (by omega) (hkold h' hh)⟩
    · rintro j h' hj hd ⟨P, vb, hs, o, hn, hgL, hg7, sl, hh⟩
      have hPl := hs.len
      have hst := hs.step hj hd
      rw [← hL] at hgL
      refine CallW.yd (fr0 := (F.set 19 (some (.int .i64 j))).set 20 (some (.agg (encN (nd l j)).toArray))) hgL rfl [] [] (by kernel_rfl) (by kernel_rfl) ?_
      have ri3 := rd_dp hk1
      have hdk := t.dpn hk1 hl
      have c2 := (hkold h' hh h.next (by omega)).trans y1
      have c3 := (hkold h' hh (h.next + 1) (by omega)).trans y2
      have hwd : IntKind.i64.wrap ((nd l k).dp + 1) = (nd l k).dp + 1 := wrap_i64 (by omega) (by omega)
      generalize hx : nd l j = x at *
      obtain ⟨xk, xf, xt, xd⟩ := x
      simp only at hst
      have e1 : ¬ h4.next = h'.next := by omega
      have e4 : ¬ h'.next = h4.next := by omega
      have e5 : ¬ h2.next = h4.next := by omega
      have e6 : ¬ h2.next = h'.next := by omega
      have e7 : ¬ h.next = h'.next := by omega
      have e8 : ¬ h.next = h4.next := by omega
      have e9 : ¬ h.next + 1 = h'.next := by omega
      have e10 : ¬ h.next + 1 = h4.next := by omega
      obtain ⟨b, cap, st, own, fz, ty, rfl, a2, a3, a4, a5⟩ := hr.ne (by omega)
      have cb := (hkold h' hh b (by omega)).trans ((hfr.get b a5).trans a3)
      have e14 : ¬ b = h'.next := by omega
      have e15 : ¬ b = h4.next := by omega
      have ek : (k : Int) < l.length := by omega
      have z1 : zerosD [.int .i64 0] 1 = [.int .i64 0] := rfl
      by_cases c : xd = (nd l k).dp + 1
      · rw [if_pos c] at hst
        simp [encN, hgL, o, e1, e4, e5, e6, e7, e8, e9, e10, e14, e15, g2, g3, g7, c2, c3, cb, ri3, hk1, ek, hwd, c, hg7, z1, -appS_some]
        refine (sl.of_get (by simp) (fun g hg hg2 => by rw [get_nw, if_neg (by simp; omega), H.get_put, if_neg (by omega), H.get_put, if_neg (by omega), get_nw, if_neg (by omega)])).app (by simp) (by simp; omega) (by rfl) (by decide) (by rfl) (by omega) (by decide) (.inl rfl) ?_
        intro v5 h5 sl5 fr5
        have n5 := fr5.next
        simp at n5
        have p7 : h5.get h2.next = some (.cells [vb] 0 true 0 none) := (fr5.get _ (by omega)).trans (by simp [e5, e6, hg7, show ¬ h2.next = h'.next + 1 by omega])
        have pL : ∃ r2 : Lp, h5.get h4.next = some (.loop r2) ∧ ({ r2 with state := .ready, pending := none } : Lp) = L := by
          refine ⟨_, (fr5.get _ (by omega)).trans (by simp [show ¬ h4.next = h'.next + 1 by omega]; rfl), ?_⟩
          rw [← hL]
        have pO : ∀ c, c < h4.next → c ≠ h2.next → h5.get c = h4.get c := by
          intro c hc hc2
          rw [fr5.get c (by omega), get_nw, if_neg (by simp; omega), H.get_put, if_neg (by omega), H.get_put, if_neg (by omega), get_nw, if_neg (by omega)]
          exact hh c hc hc2
        obtain ⟨r2, pL, pR⟩ := pL
        obtain ⟨av, rfl⟩ := sl5.slice
        simp [fr5.one, g7, p7, show ¬ h4.next = h2.next by omega, pL]
        rw [pR]
        refine ⟨P ++ [j], hst, by omega, rfl, .slice av (P.length + 1) (P.length + 1), by rw [if_neg e5], ?_, fun c hc hc2 => ?_⟩
        · have q := sl5.of_get (h' := (h5.put h2.next (.cells [.slice av (P.length + 1) (P.length + 1)] 0 true 0 none)).put h4.next (.loop L)) (by simp) (fun g hg hg2 => by rw [H.get_put, if_neg (by omega), H.get_put, if_neg (by omega)])
          exact q.eq (by simp [encK]) (by simp)
        · rw [if_neg (by omega), if_neg hc2]
          exact pO c hc hc2
      · rw [if_neg c] at hst
        simp [encN, hgL, o, e1, e4, e5, e6, e7, e8, e9, e10, e14, e15, g2, g3, g7, c2, c3, cb, ri3, hk1, ek, hwd, c, hg7]
        refine ⟨P, hst, by omega, by rw [← hL], sl.of_get (by simp) (fun g hg hg2 => by rw [H.get_put, if_neg (by omega), H.get_put, if_neg (by omega), H.get_put, if_neg (by omega), get_nw, if_neg (by omega)]), fun c hc hc2 => ?_⟩
        rw [if_neg (by omega), if_neg (by omega), if_neg (by omega), if_neg (by omega)]
        exact hh c hc hc2
    · exact ⟨[], .slice none 0 0, .inl ⟨rfl, rfl⟩, rfl, by simp, by simp, by simp [k7, show ¬ h2.next = h4.next by omega], SlG.nil .., fun b hb _ => by rw [get_nw, if_neg (by omega)]⟩
    · rintro r h' ⟨j, hj, ⟨P, vb, hs, o, hn, hgL, hg7, sl, hh⟩, hstop⟩
      have hfin := hs.fin hj hstop
      subst hfin
      refine ⟨L, .normal, hgL, by rw [← hL]; exact LoopState.noConfusion, by rw [← hL]; rfl, ?_⟩
      have x7 : ¬ h2.next = h4.next := by omega
      simp [g7, hg7, o, x7]
      refine ⟨(sl.put (by omega) _).mono (by omega), o, by simp; omega, fun b hb => by rw [H.get_put, if_neg (by omega)]; exact (hkold h' hh b (by omega)).trans (hfr.get b hb)⟩
  · simp [hf2.one, hw]
    exact ⟨SlG.nil .., hfr⟩
end Go.Dm
