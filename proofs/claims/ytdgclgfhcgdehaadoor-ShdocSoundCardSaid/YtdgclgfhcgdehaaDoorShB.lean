/- The shell's words: the reader's word. -/
import Derived.Test.YtdgclgfhcgdehaaDoorShA
import Derived.Test.YtdgclgfhcgdehaaDoorBld
import Derived.Test.YtdgclgfhcgdehaaDoorDEq
set_option linter.unusedVariables false
set_option linter.unusedSimpArgs false
namespace Go.Dm
open Go.Proofs
theorem ix_esc (d : UInt8) : decide (Lib.indexByte [92, 34, 36, 96] d < 0) = !qEsc d := by
  have h : ((List.range 256).all fun n => decide (Lib.indexByte [92, 34, 36, 96] (UInt8.ofNat n) < 0) == !qEsc (UInt8.ofNat n)) = true := by decide +kernel
  have := List.all_eq_true.1 h d.toNat (List.mem_range.2 d.toNat_lt)
  simpa using this
structure Pc where
  kind : Nat
  fm : Nat
  to : Nat
  text : List UInt8
  raw : Bool
  whole : Bool
  deriving DecidableEq
def encP (p : Pc) : List Value := [.int .u8 p.kind, .int .i64 p.fm, .int .i64 p.to, str p.text, .bool p.raw, .bool p.whole]
/-- A word, the mark behind it, the place behind it. -/
def wpiece (s : List UInt8) (lf : Bool) (k mark : Nat) : Pc × Nat × Nat :=
  let x := wrun s lf ⟨k, mark, [], decide (mark ≠ 0)⟩
  if x.mark = 0 then (⟨51, k, x.k, x.text, x.raw, decide (mark = 0)⟩, 0, x.k)
  else (⟨51, k, x.k + lf.toNat, x.text ++ (if lf then [10] else []), x.raw, false⟩, x.mark, x.k + lf.toNat)
structure WSt (s : List UInt8) (lf : Bool) (rb : Nat) (h : H) (k0 : Nat) (wh : Bool) (x : WS) (fr : T Value) (h' : H) : Prop where
  f0 : fr.get 0 = some (.pointer (some ⟨rb, 0, none⟩))
  f4 : fr.get 4 = some (.pointer (some ⟨h.next, 0, none⟩))
  f6 : fr.get 6 = some (.pointer (some ⟨h.next + 1, 0, none⟩))
  f7 : fr.get 7 = some (.pointer (some ⟨h.next + 2, 0, none⟩))
  f8 : fr.get 8 = some (.func (.func 64) #[.pointer (some ⟨h.next + 2, 0, none⟩)] #[])
  one : h'.one = []
  res : h'.get h.next = some (.cells [.int .u8 0, .int .i64 0, .int .i64 0, str [], .bool false, .bool false] 0 true 0 none)
  pc : h'.get (h.next + 1) = some (.cells [.int .u8 51, .int .i64 k0, .int .i64 0, str [], .bool x.raw, .bool wh] 0 true 0 none)
  bld : Bld (h.next + 3) h' (h.next + 2) x.text
  rd : Rd h' rb s lf x.k
  le : x.k ≤ s.length
  tl : x.text.length ≤ x.k
  old : ∀ b, b < h.next → b ≠ rb → h'.get b = h.get b
section
variable {s : List UInt8} {lf : Bool} {rb : Nat} {h : H} {k0 : Nat} {wh : Bool} {y : WS} {fr fr' : T Value} {h3 h4 : H}
theorem WSt.chg (st : WSt s lf rb h k0 wh y fr h3) (g0 : fr'.get 0 = fr.get 0) (g4 : fr'.get 4 = fr.get 4) (g6 : fr'.get 6 = fr.get 6) (g7 : fr'.get 7 = fr.get 7) (g8 : fr'.get 8 = fr.get 8) : WSt s lf rb h k0 wh y fr' h3 :=
  { st with f0 := g0.trans st.f0, f4 := g4.trans st.f4, f6 := g6.trans st.f6, f7 := g7.trans st.f7, f8 := g8.trans st.f8 }
theorem WSt.mk0 (st : WSt s lf rb h k0 wh y fr h3) (m : Nat) : WSt s lf rb h k0 wh { y with mark := m } fr h3 := { st with }
theorem WSt.adv (st : WSt s lf rb h k0 wh y fr h3) (hrb : rb < h.next) {k' : Nat} {i : Int} (hi : i = (k' : Int)) (hk : k' ≤ s.length) (hy : y.k ≤ k') : WSt s lf rb h k0 wh { y with k := k' } fr (h3.put rb (.cells [str s, .bool lf, .int .i64 i] 0 true 0 none)) := by
  subst hi
  have e1 : h.next ≠ rb := by omega
  have e2 : h.next + 1 ≠ rb := by omega
  have e3 : h.next + 2 ≠ rb := by omega
  refine { st with one := by simp [st.one], res := by simp [e1, st.res], pc := by simp [e2, st.pc], bld := st.bld.of_get (by simp) (by simp [e3]) (fun g hg _ => by rw [H.get_put, if_neg (by omega)]), rd := by unfold Rd; simp, le := hk, tl := Nat.le_trans st.tl hy, old := fun b hb hne => by rw [H.get_put, if_neg hne]; exact st.old b hb hne }
theorem WSt.raw (st : WSt s lf rb h k0 wh y fr h3) (hrb : rb < h.next) : WSt s lf rb h k0 wh { y with raw := true } fr (h3.put (h.next + 1) (.cells [.int .u8 51, .int .i64 k0, .int .i64 0, str [], .bool true, .bool wh] 0 true 0 none)) := by
  have e1 : h.next ≠ h.next + 1 := by omega
  have e2 : rb ≠ h.next + 1 := by omega
  have e3 : h.next + 2 ≠ h.next + 1 := by omega
  have hrd := st.rd
  unfold Rd at hrd
  refine { st with one := by simp [st.one], res := by simp [e1, st.res], pc := by simp, bld := st.bld.of_get (by simp) (by simp [e3]) (fun g hg _ => by rw [H.get_put, if_neg (by omega)]), rd := by unfold Rd; simp [e2, hrd], old := fun b hb hne => by rw [H.get_put, if_neg (by omega)]; exact st.old b hb hne }
theorem WSt.wrote (st : WSt s lf rb h k0 wh y fr h3) (hrb : rb < h.next) {c : UInt8} (hB : Bld (h.next + 3) h4 (h.next + 2) (y.text ++ [c])) (hF : FrB (h.next + 3) (h.next + 2) h3 h4) (room : y.text.length + 1 ≤ y.k) : WSt s lf rb h k0 wh { y with text := y.text ++ [c] } fr h4 := by
  have hrd := st.rd
  unfold Rd at hrd
  refine { st with one := hF.one, res := by rw [hF.get _ (by omega) (by omega)]; exact st.res, pc := by rw [hF.get _ (by omega) (by omega)]; exact st.pc, bld := hB, rd := by unfold Rd; rw [hF.get _ (by omega) (by omega)]; exact hrd, tl := by simpa using room, old := fun b hb hne => by rw [hF.get _ (by omega) (by omega)]; exact st.old b hb hne }
end
def WI (s : List UInt8) (lf : Bool) (rb : Nat) (h h2 : H) (k0 : Nat) (wh : Bool) (fr0 : T Value) (x0 : WS) : Option Nat → WS × Nat → T Value → H → Prop
  | none, (x, g), fr, h' => g = 2 ∧ fr = fr0 ∧ h' = h2 ∧ x = x0
  | some l, (x, g), fr, h' => WSt s lf rb h k0 wh x fr h' ∧ wrun s lf x = wrun s lf x0 ∧ ((l = 0 ∧ g = 1 ∧ x.mark = 39) ∨ (l = 1 ∧ g = 1 ∧ x.mark = 34) ∨ (l = 2 ∧ g = 1 ∧ x.mark = 0) ∨ (l = 3 ∧ g = 0 ∧ x.mark ≠ 0 ∧ x.k = s.length ∧ fr.get 1 = some (.int .u8 x.mark)))
set_option maxHeartbeats 8000000 in
theorem word_sp (s : List UInt8) (lf : Bool) (k mark rb : Nat) (hs : s.length < 2 ^ 39) (hk : k ≤ s.length) (hm : mark = 0 ∨ mark = 39 ∨ mark = 34) (h : H) (h1 : h.one = []) (hg : Gl h) (hr : Rd h rb s lf k) (hrb : rb < h.next) (hg0 : 0 < h.next) :
    CallW E0 X0 (.fn 51) [.pointer (some ⟨rb, 0, none⟩), .int .u8 mark] h (fun v h' => v = .tuple #[.agg (encP (wpiece s lf k mark).1).toArray, .int .u8 (wpiece s lf k mark).2.1] ∧ Rd h' rb s lf (wpiece s lf k mark).2.2 ∧ h'.one = [] ∧ h.next ≤ h'.next ∧ ∀ b, b < h.next → b ≠ rb → h'.get b = h.get b) := by
  refine CallW.body efn51 rfl rfl rfl [20, 43] (by kernel_rfl) ?_
  have hgr : 0 ≠ rb := by
    rintro e
    unfold Rd at hr; unfold Gl at hg
    rw [e, hr] at hg
    cases hg
  simp [Tryd.f51, h1]
  generalize hfr : (((T.leaf.set 0 (some (Value.pointer (some ⟨rb, 0, none⟩)))).set 1 (some (.int .u8 mark))).set 4 (some (.pointer (some ⟨h.next, 0, none⟩)))).set 5 (some (.int .u8 0)) = fr0
  generalize hh2 : h.nw _ = h2
  obtain ⟨x0, hx0⟩ : ∃ x0 : WS, x0 = ⟨k, mark, [], decide (mark ≠ 0)⟩ := ⟨_, rfl⟩
  have hwp : wpiece s lf k mark = (if (wrun s lf x0).mark = 0 then (⟨51, k, (wrun s lf x0).k, (wrun s lf x0).text, (wrun s lf x0).raw, decide (mark = 0)⟩, 0, (wrun s lf x0).k)
    else (⟨51, k, (wrun s lf x0).k + lf.toNat, (wrun s lf x0).text ++ (if lf then [10] else []), (wrun s lf x0).raw, false⟩, (wrun s lf x0).mark, (wrun s lf x0).k + lf.toNat)) := by rw [hx0]; rfl
  refine wpd_scope (WI s lf rb h h2 k (decide (mark = 0)) fr0 x0) (fun p => 3 * (s.length - p.1.k) + p.2) (x0, 2) ⟨rfl, rfl, rfl, rfl⟩ ?_
  rintro sk ⟨x, g⟩ fr h' hI hf
  have hrb' : rb ≠ h.next := by omega
  have hrb2 : rb ≠ h.next + 1 := by omega
  have hrb3 : rb ≠ h.next + 2 := by omega
  have hr' := hr
  unfold Rd at hr'
  have ini : ∀ fr h3, fr.get 0 = some (.pointer (some ⟨rb, 0, none⟩)) → fr.get 4 = some (.pointer (some ⟨h.next, 0, none⟩)) → fr.get 6 = some (.pointer (some ⟨h.next + 1, 0, none⟩)) → fr.get 7 = some (.pointer (some ⟨h.next + 2, 0, none⟩)) →
      fr.get 8 = some (.func (.func 64) #[.pointer (some ⟨h.next + 2, 0, none⟩)] #[]) → h3.one = [] → h3.next = h.next + 3 → h3.get h.next = some (.cells [.int .u8 0, .int .i64 0, .int .i64 0, str [], .bool false, .bool false] 0 true 0 none) →
      h3.get (h.next + 1) = some (.cells [.int .u8 51, .int .i64 k, .int .i64 0, str [], .bool (decide (mark ≠ 0)), .bool (decide (mark = 0))] 0 true 0 none) → h3.get (h.next + 2) = some (.cells [.pointer none, .slice none 0 0] 0 true 0 (some 109)) → (∀ b, b < h.next → h3.get b = h.get b) →
      WSt s lf rb h k (decide (mark = 0)) x0 fr h3 := by
    intro fr h3 g0 g4 g6 g7 g8 a1 a2 a3 a4 a5 a6
    subst hx0
    refine ⟨g0, g4, g6, g7, g8, a1, a3, a4, ⟨by omega, by omega, .pointer none, .slice none 0 0, a5, .inl rfl, .inl ⟨rfl, rfl⟩⟩, ?_, hk, by simp, fun b hb _ => a6 b hb⟩
    unfold Rd; rw [a6 rb hrb]; exact hr'
  have old : ∀ (d1 d2 d3 d4 : DObj) b, b < h.next → ((((h.nw d1).nw d2).put (h.next + 1) d3).nw d4).get b = h.get b := by
    intro d1 d2 d3 d4 b hb
    have e1 : b ≠ h.next := by omega
    have e2 : b ≠ h.next + 1 := by omega
    have e3 : b ≠ h.next + 2 := by omega
    simp [e1, e2, e3]
  cases sk with
  | none =>
    obtain ⟨rfl, rfl, rfl, rfl⟩ := hI
    subst hfr
    rcases hm with rfl | rfl | rfl
    · subst hh2
      simp [h1, hr', nilCheckD, hrb', hrb2, hrb3]
      refine wpd_loop (fun (y : WS) fr1 h3 => WSt s lf rb h k true y fr1 h3 ∧ wrun s lf y = wrun s lf x ∧ y.mark = 0 ∧ x.k ≤ y.k) (fun y => s.length - y.k) x ⟨ini _ _ (by simp) (by simp) (by simp) (by simp) (by simp) (by simp) (by simp) (by simp) (by simp) (by simp) (old _ _ _ _), rfl, by rw [hx0], Nat.le_refl _⟩ ?_
      rintro y fr1 h3 ⟨st, hw, hmk, hle⟩ hf1
      have h31 := st.one
      have hrd := st.rd
      have htl := st.tl
      have hle2 := st.le
      have hpc3 := st.pc
      unfold Rd at hrd
      have hgl : Gl h3 := by unfold Gl; rw [st.old _ hg0 hgr]; exact hg
      have hst0 : stopAt s lf y.k = true → wstep s lf y = none := by
        intro hh
        unfold wstep
        by_cases q : s.length ≤ y.k
        · rw [if_pos q]
        · rw [if_neg q, if_neg (by omega), if_neg (by omega), if_pos hh]
      simp [h31, st.f0]
      refine (more_sp s lf y.k rb h3 h31 st.rd).mono ?_
      rintro _ h3 ⟨rfl, rfl⟩
      by_cases hyk : y.k < s.length
      · have hix := idxB_nat hyk
        have hw1 := wrap_succ (show y.k < 9223372036854775807 by omega)
        have hbk := blank_sp s lf y.k rb hyk h3 h31 st.rd
        have hopk := Op_sp s y.k h3 h31 hgl
        have hjk := join_sp s lf y.k rb hyk (by omega) h3 h31 st.rd
        cases hb : isBl (bt s y.k) with
        | true =>
          have hstop : wstep s lf y = none := hst0 (by unfold stopAt; simp [hb])
          rw [hb] at hbk
          simp [h31, st.f0, hyk]
          refine hbk.mono ?_
          rintro _ h3 ⟨rfl, rfl⟩
          simp [h31, st.f0, nilCheckD, hrd, st.f7]
          refine ⟨laxW_of [(3, 6)] (by kernel_rfl) ?_, ?_⟩
          · simp [LaxP, h31, st.f0, st.f7, st.f6, nilCheckD, hrd]
            refine (String_sp (h.next + 3) (h.next + 2) y.text (by omega) h3 h31 st.bld).mono ?_
            rintro _ h4 ⟨rfl, hF, hbg⟩
            have e1 : h4.get rb = h3.get rb := hF.get _ (by omega) (by omega)
            simp [hF.one, st.f6, e1, hrd, h31]
          · refine (String_sp (h.next + 3) (h.next + 2) y.text (by omega) h3 h31 st.bld).mono ?_
            rintro _ h4 ⟨rfl, hF, hbg⟩
            have e1 : h4.get rb = h3.get rb := hF.get _ (by omega) (by omega)
            have e2 : h4.get (h.next + 1) = _ := (hF.get _ (by omega) (by omega)).trans st.pc
            have e3 : h4.get h.next = _ := (hF.get _ (by omega) (by omega)).trans st.res
            simp [hF.one, st.f6, e2, e3, st.f4]
            have hx : wrun s lf x = y := by rw [← hw]; exact wrun_none hstop
            rw [hwp, hx, if_pos hmk]
            have hnx := st.bld.2.1
            have hnx2 := hF.next
            simp [encP, hmk]
            refine ⟨?_, by omega, ?_⟩
            · unfold Rd
              simp [hrb', hrb2]
              exact e1.trans hrd
            · intro b hb hne
              have g1 : b ≠ h.next := by omega
              have g2 : b ≠ h.next + 1 := by omega
              simp [g1, g2]
              exact (hF.get b (by omega) (by omega)).trans (st.old b hb hne)
        | false =>
          rw [hb] at hbk
          simp [h31, st.f0, hyk]
          refine hbk.mono ?_
          rintro _ h3 ⟨rfl, rfl⟩
          simp [h31, st.f0, nilCheckD, hrd]
          refine hopk.mono ?_
          rintro _ h3 ⟨rfl, rfl⟩
          by_cases ho : opAt s y.k = 0
          · simp [h31, st.f0, ho]
            refine hjk.mono ?_
            rintro _ h3 ⟨rfl, rfl⟩
            cases hj : joinAt s lf y.k with
            | true =>
              have hstop : wstep s lf y = none := hst0 (by unfold stopAt; simp [hj])
              simp [h31, st.f0, nilCheckD, hrd, st.f7]
              refine ⟨laxW_of [(3, 6)] (by kernel_rfl) ?_, ?_⟩
              · simp [LaxP, h31, st.f0, st.f7, st.f6, nilCheckD, hrd]
                refine (String_sp (h.next + 3) (h.next + 2) y.text (by omega) h3 h31 st.bld).mono ?_
                rintro _ h4 ⟨rfl, hF, hbg⟩
                have e1 : h4.get rb = h3.get rb := hF.get _ (by omega) (by omega)
                simp [hF.one, st.f6, e1, hrd, h31]
              · refine (String_sp (h.next + 3) (h.next + 2) y.text (by omega) h3 h31 st.bld).mono ?_
                rintro _ h4 ⟨rfl, hF, hbg⟩
                have e1 : h4.get rb = h3.get rb := hF.get _ (by omega) (by omega)
                have e2 : h4.get (h.next + 1) = _ := (hF.get _ (by omega) (by omega)).trans st.pc
                have e3 : h4.get h.next = _ := (hF.get _ (by omega) (by omega)).trans st.res
                simp [hF.one, st.f6, e2, e3, st.f4]
                have hx : wrun s lf x = y := by rw [← hw]; exact wrun_none hstop
                rw [hwp, hx, if_pos hmk]
                have hnx := st.bld.2.1
                have hnx2 := hF.next
                simp [encP, hmk]
                refine ⟨?_, by omega, ?_⟩
                · unfold Rd
                  simp [hrb', hrb2]
                  exact e1.trans hrd
                · intro b hb hne
                  have g1 : b ≠ h.next := by omega
                  have g2 : b ≠ h.next + 1 := by omega
                  simp [g1, g2]
                  exact (hF.get b (by omega) (by omega)).trans (st.old b hb hne)
            | false =>
              have hns : stopAt s lf y.k = false := by
                unfold stopAt
                simp only [hb, ho, hj, Bool.or_false, decide_eq_false_iff_not, ne_eq, not_true_eq_false, decide_false, Bool.or_eq_false_iff, and_true]
                omega
              have hstq : wstep s lf y = if (bt s y.k).toNat = 39 then some { y with k := y.k + 1, mark := 39, raw := true } else if (bt s y.k).toNat = 34 then some { y with k := y.k + 1, mark := 34, raw := true }
                  else if (bt s y.k).toNat = 92 then (if y.k + 1 < s.length then some { y with k := y.k + 2, raw := true, text := y.text ++ [bt s (y.k + 1)] } else some { y with k := y.k + 1, raw := true, text := y.text ++ [bt s y.k] })
                  else some { y with k := y.k + 1, text := y.text ++ [bt s y.k] } := by
                unfold wstep
                rw [if_neg (by omega), if_neg (by omega), if_neg (by omega), hns, if_neg (by decide)]
              have st2 := st.adv hrb (k' := y.k + 1) (i := (y.k : Int) + 1) rfl (by omega) (by omega)
              have e4 : h.next + 1 ≠ rb := by omega
              by_cases hc : (bt s y.k).toNat = 39
              · rw [if_pos hc] at hstq
                simp [h31, st.f0, st.f6, nilCheckD, hrd, hix, hw1, hc, hpc3, e4]
                exact ⟨_, 1, by simp only; omega, ((st2.raw hrb).mk0 39).chg (by simp) (by simp) (by simp) (by simp) (by simp), (wrun_some hstq).symm.trans hw, .inl ⟨rfl, rfl, rfl⟩⟩
              · rw [if_neg hc] at hstq
                by_cases hc2 : (bt s y.k).toNat = 34
                · rw [if_pos hc2] at hstq
                  simp [h31, st.f0, st.f6, nilCheckD, hrd, hix, hw1, hc, hc2, hpc3, e4]
                  exact ⟨_, 1, by simp only; omega, ((st2.raw hrb).mk0 34).chg (by simp) (by simp) (by simp) (by simp) (by simp), (wrun_some hstq).symm.trans hw, .inr (.inl ⟨rfl, rfl, rfl⟩)⟩
                · rw [if_neg hc2] at hstq
                  by_cases hc3 : (bt s y.k).toNat = 92
                  · rw [if_pos hc3] at hstq
                    have st3 := st2.raw hrb
                    simp [h31, st.f0, st.f6, nilCheckD, hrd, hix, hw1, hc, hc2, hc3, hpc3, e4]
                    generalize hh5 : (h3.put rb (.cells [str s, .bool lf, .int .i64 (y.k + 1)] 0 true 0 none)).put (h.next + 1) (.cells [.int .u8 51, .int .i64 k, .int .i64 0, str [], .bool true, .bool true] 0 true 0 none) = h5 at st3 ⊢
                    refine (more_sp s lf (y.k + 1) rb h5 st3.one st3.rd).mono ?_
                    rintro _ h6 ⟨rfl, rfl⟩
                    have hrd3 := st3.rd
                    unfold Rd at hrd3
                    by_cases hk2 : y.k + 1 < s.length
                    · rw [if_pos hk2] at hstq
                      have hix2 := idxB_succ hk2
                      have hw2 : IntKind.i64.wrap ((y.k : Int) + 1 + 1) = ((y.k + 2 : Nat) : Int) := wrap_i64 (by omega) (by omega)
                      have st4 := st3.adv hrb (k' := y.k + 2) (i := ((y.k + 2 : Nat) : Int)) rfl (by omega) (by simp)
                      have hcast : ((y.k + 1 : Nat) : Int) = (y.k : Int) + 1 := rfl
                      simp only [hcast] at hrd3
                      simp [st3.one, st.f0, st.f8, nilCheckD, hrd3, hix2, hk2, hw2]
                      refine (WriteByte_sp (h.next + 3) (h.next + 2) y.text (bt s (y.k + 1)) (by omega) _ st4.one st4.bld).mono ?_
                      rintro _ h9 ⟨rfl, hB, hF⟩
                      have st5 := st4.wrote hrb hB hF (by simp only; omega)
                      simp [hF.one]
                      exact ⟨_, by simp only; omega, st5.chg (by simp) (by simp) (by simp) (by simp) (by simp), (wrun_some hstq).symm.trans hw, hmk, by simp only; omega⟩
                    · rw [if_neg hk2] at hstq
                      simp [st3.one, st.f0, st.f8, hk2]
                      have hW := WriteByte_sp (h.next + 3) (h.next + 2) y.text (bt s y.k) (by omega) _ st3.one st3.bld
                      rw [hc3] at hW
                      refine hW.mono ?_
                      rintro _ h9 ⟨rfl, hB, hF⟩
                      have st5 := st3.wrote hrb hB hF (by simp only; omega)
                      simp [hF.one]
                      exact ⟨_, by simp only; omega, st5.chg (by simp) (by simp) (by simp) (by simp) (by simp), (wrun_some hstq).symm.trans hw, hmk, by simp only; omega⟩
                  · rw [if_neg hc3] at hstq
                    simp [h31, st.f0, st.f6, st.f8, nilCheckD, hrd, hix, hw1, hc, hc2, hc3]
                    refine (WriteByte_sp (h.next + 3) (h.next + 2) y.text (bt s y.k) (by omega) _ st2.one st2.bld).mono ?_
                    rintro _ h9 ⟨rfl, hB, hF⟩
                    have st5 := st2.wrote hrb hB hF (by simp only; omega)
                    simp [hF.one]
                    exact ⟨_, by simp only; omega, st5.chg (by simp) (by simp) (by simp) (by simp) (by simp), (wrun_some hstq).symm.trans hw, hmk, by simp only; omega⟩
          · have hstop : wstep s lf y = none := hst0 (by unfold stopAt; simp [ho])
            simp [h31, st.f0, nilCheckD, hrd, st.f7, ho]
            refine ⟨laxW_of [(3, 6)] (by kernel_rfl) ?_, ?_⟩
            · simp [LaxP, h31, st.f0, st.f7, st.f6, nilCheckD, hrd]
              refine (String_sp (h.next + 3) (h.next + 2) y.text (by omega) h3 h31 st.bld).mono ?_
              rintro _ h4 ⟨rfl, hF, hbg⟩
              have e1 : h4.get rb = h3.get rb := hF.get _ (by omega) (by omega)
              simp [hF.one, st.f6, e1, hrd, h31]
            · refine (String_sp (h.next + 3) (h.next + 2) y.text (by omega) h3 h31 st.bld).mono ?_
              rintro _ h4 ⟨rfl, hF, hbg⟩
              have e1 : h4.get rb = h3.get rb := hF.get _ (by omega) (by omega)
              have e2 : h4.get (h.next + 1) = _ := (hF.get _ (by omega) (by omega)).trans st.pc
              have e3 : h4.get h.next = _ := (hF.get _ (by omega) (by omega)).trans st.res
              simp [hF.one, st.f6, e2, e3, st.f4]
              have hx : wrun s lf x = y := by rw [← hw]; exact wrun_none hstop
              rw [hwp, hx, if_pos hmk]
              have hnx := st.bld.2.1
              have hnx2 := hF.next
              simp [encP, hmk]
              refine ⟨?_, by omega, ?_⟩
              · unfold Rd
                simp [hrb', hrb2]
                exact e1.trans hrd
              · intro b hb hne
                have g1 : b ≠ h.next := by omega
                have g2 : b ≠ h.next + 1 := by omega
                simp [g1, g2]
                exact (hF.get b (by omega) (by omega)).trans (st.old b hb hne)
      · have hstop : wstep s lf y = none := hst0 (by unfold stopAt; simp; omega)
        simp [h31, st.f0, nilCheckD, hrd, st.f7, hyk]
        refine ⟨laxW_of [(3, 6)] (by kernel_rfl) ?_, ?_⟩
        · simp [LaxP, h31, st.f0, st.f7, st.f6, nilCheckD, hrd]
          refine (String_sp (h.next + 3) (h.next + 2) y.text (by omega) h3 h31 st.bld).mono ?_
          rintro _ h4 ⟨rfl, hF, hbg⟩
          have e1 : h4.get rb = h3.get rb := hF.get _ (by omega) (by omega)
          simp [hF.one, st.f6, e1, hrd, h31]
        · refine (String_sp (h.next + 3) (h.next + 2) y.text (by omega) h3 h31 st.bld).mono ?_
          rintro _ h4 ⟨rfl, hF, hbg⟩
          have e1 : h4.get rb = h3.get rb := hF.get _ (by omega) (by omega)
          have e2 : h4.get (h.next + 1) = _ := (hF.get _ (by omega) (by omega)).trans st.pc
          have e3 : h4.get h.next = _ := (hF.get _ (by omega) (by omega)).trans st.res
          simp [hF.one, st.f6, e2, e3, st.f4]
          have hx : wrun s lf x = y := by rw [← hw]; exact wrun_none hstop
          rw [hwp, hx, if_pos hmk]
          have hnx := st.bld.2.1
          have hnx2 := hF.next
          simp [encP]
          refine ⟨?_, by omega, ?_⟩
          · unfold Rd
            simp [hrb', hrb2]
            exact e1.trans hrd
          · intro b hb hne
            have g1 : b ≠ h.next := by omega
            have g2 : b ≠ h.next + 1 := by omega
            simp [g1, g2]
            exact (hF.get b (by omega) (by omega)).trans (st.old b hb hne)
    · subst hh2
      simp [h1, hr', nilCheckD, hrb', hrb2, hrb3]
      exact ⟨x, 1, by omega, ini _ _ (by simp) (by simp) (by simp) (by simp) (by simp) (by simp) (by simp) (by simp) (by simp) (by simp) (old _ _ _ _), rfl, .inl ⟨rfl, rfl, by rw [hx0]⟩⟩
    · subst hh2
      simp [h1, hr', nilCheckD, hrb', hrb2, hrb3]
      exact ⟨x, 1, by omega, ini _ _ (by simp) (by simp) (by simp) (by simp) (by simp) (by simp) (by simp) (by simp) (by simp) (by simp) (old _ _ _ _), rfl, .inr (.inl ⟨rfl, rfl, by rw [hx0]⟩)⟩
  | some l =>
    obtain ⟨st, hw, hl⟩ := hI
    have h1' := st.one
    have hpc := st.pc
    have hrd := st.rd
    unfold Rd at hrd
    rcases hl with ⟨rfl, rfl, hmk⟩ | ⟨rfl, rfl, hmk⟩ | ⟨rfl, rfl, hmk⟩ | ⟨rfl, rfl, hmk, hxk, hf1⟩
    · -- in single quotes
      simp
      refine wpd_loop (fun (y : WS) fr1 h3 => WSt s lf rb h k (decide (mark = 0)) y fr1 h3 ∧ wrun s lf y = wrun s lf x0 ∧ y.mark = 39 ∧ x.k ≤ y.k) (fun y => s.length - y.k) x ⟨st, hw, hmk, Nat.le_refl _⟩ ?_
      rintro y fr1 h3 ⟨st, hw, hmk, hle⟩ hf1
      have h31 := st.one
      have hrd := st.rd
      unfold Rd at hrd
      simp [h31, st.f0]
      refine (more_sp s lf y.k rb h3 h31 st.rd).mono ?_
      rintro _ h3 ⟨rfl, rfl⟩
      by_cases hyk : y.k < s.length
      · have hix := idxB_nat hyk
        have hw1 := wrap_succ (show y.k < 9223372036854775807 by omega)
        by_cases hc : (bt s y.k).toNat = 39
        · simp [h31, st.f0, hyk, nilCheckD, hrd, hix, hc, hw1]
          have hst : wstep s lf y = some { y with k := y.k + 1, mark := 0 } := by unfold wstep; rw [if_neg (by omega), if_pos hmk, if_pos hc]
          exact ⟨{ y with k := y.k + 1, mark := 0 }, 1, by simp only; omega, ((st.adv hrb (k' := y.k + 1) rfl (by omega) (by omega)).mk0 0).chg (by simp) (by simp) (by simp) (by simp) (by simp), (wrun_some hst).symm.trans hw, .inr (.inr (.inl ⟨rfl, rfl, rfl⟩))⟩
        · simp [h31, st.f0, st.f8, hyk, nilCheckD, hrd, hix, hc, hw1]
          have hst : wstep s lf y = some { y with k := y.k + 1, text := y.text ++ [bt s y.k] } := by unfold wstep; rw [if_neg (by omega), if_pos hmk, if_neg hc]
          have st2 := st.adv hrb (k' := y.k + 1) (i := (y.k : Int) + 1) rfl (by omega) (by omega)
          have htl := st.tl
          refine (WriteByte_sp (h.next + 3) (h.next + 2) y.text (bt s y.k) (by omega) _ st2.one st2.bld).mono ?_
          rintro _ h4 ⟨rfl, hB, hF⟩
          have st3 := st2.wrote hrb hB hF (by simp only; omega)
          simp [hF.one]
          exact ⟨{ y with k := y.k + 1, text := y.text ++ [bt s y.k] }, by simp only; omega, st3.chg (by simp) (by simp) (by simp) (by simp) (by simp), (wrun_some hst).symm.trans hw, hmk, by simp only; omega⟩
      · simp [h31, st.f0, hyk]
        have hle2 := st.le
        exact ⟨y, 0, by omega, st.chg (by simp) (by simp) (by simp) (by simp) (by simp), hw, .inr (.inr (.inr ⟨rfl, rfl, by omega, by omega, by simp [hmk]⟩))⟩
    · -- in double quotes
      simp
      refine wpd_loop (fun (y : WS) fr1 h3 => WSt s lf rb h k (decide (mark = 0)) y fr1 h3 ∧ wrun s lf y = wrun s lf x0 ∧ y.mark = 34 ∧ x.k ≤ y.k) (fun y => s.length - y.k) x ⟨st, hw, hmk, Nat.le_refl _⟩ ?_
      rintro y fr1 h3 ⟨st, hw, hmk, hle⟩ hf1
      have h31 := st.one
      have hrd := st.rd
      have htl := st.tl
      unfold Rd at hrd
      simp [h31, st.f0]
      refine (more_sp s lf y.k rb h3 h31 st.rd).mono ?_
      rintro _ h3 ⟨rfl, rfl⟩
      by_cases hyk : y.k < s.length
      · have hix := idxB_nat hyk
        have hw1 := wrap_succ (show y.k < 9223372036854775807 by omega)
        have st2 := st.adv hrb (k' := y.k + 1) (i := (y.k : Int) + 1) rfl (by omega) (by omega)
        by_cases hc : (bt s y.k).toNat = 34
        · simp [h31, st.f0, hyk, nilCheckD, hrd, hix, hc, hw1]
          have hst : wstep s lf y = some { y with k := y.k + 1, mark := 0 } := by unfold wstep; rw [if_neg (by omega), if_neg (by omega), if_pos hmk, if_pos hc]
          exact ⟨{ y with k := y.k + 1, mark := 0 }, 1, by simp only; omega, (st2.mk0 0).chg (by simp) (by simp) (by simp) (by simp) (by simp), (wrun_some hst).symm.trans hw, .inr (.inr (.inl ⟨rfl, rfl, rfl⟩))⟩
        · by_cases hd : (bt s y.k).toNat = 92
          · have hrd2 := st2.rd
            unfold Rd at hrd2
            have h32 := st2.one
            simp [h31, st.f0, st.f8, hyk, nilCheckD, hrd, hix, hc, hw1, hd]
            generalize hh5 : h3.put rb (.cells [str s, .bool lf, .int .i64 (y.k + 1)] 0 true 0 none) = h5 at st2 hrd2 h32 ⊢
            refine (more_sp s lf (y.k + 1) rb h5 h32 st2.rd).mono ?_
            rintro _ h6 ⟨rfl, rfl⟩
            by_cases hk2 : y.k + 1 < s.length
            · have hix2 := idxB_succ hk2
              have hw2 : IntKind.i64.wrap ((y.k : Int) + 1 + 1) = ((y.k + 2 : Nat) : Int) := wrap_i64 (by omega) (by omega)
              have st3 := st2.adv hrb (k' := y.k + 2) (i := ((y.k + 2 : Nat) : Int)) rfl (by omega) (by simp)
              have hcast : ((y.k + 1 : Nat) : Int) = (y.k : Int) + 1 := rfl
              rw [hcast] at hrd2
              have hst : wstep s lf y = some { y with k := y.k + 2, text := y.text ++ (if qEsc (bt s (y.k + 1)) then [bt s (y.k + 1)] else [bt s y.k, bt s (y.k + 1)]) } := by
                unfold wstep; rw [if_neg (by omega), if_neg (by omega), if_pos hmk, if_neg hc, if_pos ⟨hd, hk2⟩]
              simp [h32, st.f0, st.f8, nilCheckD, hrd2, hix2, hk2, hw2]
              generalize hh7 : h6.put rb (.cells [str s, .bool lf, .int .i64 (y.k + 2)] 0 true 0 none) = h7
              have st3' : WSt s lf rb h k (decide (mark = 0)) { y with k := y.k + 2 } fr1 h7 := by subst hh7; exact st3
              refine (IndexByte_sp [92, 34, 36, 96] (bt s (y.k + 1)) h7 st3'.one).mono ?_
              rintro _ h8 ⟨rfl, rfl⟩
              have hesc := ix_esc (bt s (y.k + 1))
              cases hq : qEsc (bt s (y.k + 1)) with
              | true =>
                rw [hq] at hesc hst
                simp [st3'.one, hesc, st.f8]
                refine (WriteByte_sp (h.next + 3) (h.next + 2) y.text (bt s (y.k + 1)) (by omega) _ st3'.one st3'.bld).mono ?_
                rintro _ h9 ⟨rfl, hB, hF⟩
                have st4 := st3'.wrote hrb hB hF (by simp only; omega)
                simp [hF.one]
                exact ⟨_, by simp only; omega, st4.chg (by simp) (by simp) (by simp) (by simp) (by simp), (wrun_some hst).symm.trans hw, hmk, by simp only; omega⟩
              | false =>
                rw [hq] at hesc hst
                simp [st3'.one, hesc, st.f8, hd]
                have hW := WriteByte_sp (h.next + 3) (h.next + 2) y.text (bt s y.k) (by omega) _ st3'.one st3'.bld
                rw [hd] at hW
                refine hW.mono ?_
                rintro _ h9 ⟨rfl, hB, hF⟩
                have st4 := st3'.wrote hrb hB hF (by simp only; omega)
                simp [hF.one, st.f8]
                refine (WriteByte_sp (h.next + 3) (h.next + 2) _ (bt s (y.k + 1)) (by simp; omega) _ st4.one st4.bld).mono ?_
                rintro _ h10 ⟨rfl, hB2, hF2⟩
                have st5 := st4.wrote hrb hB2 hF2 (by simp only [List.length_append, List.length_singleton]; omega)
                simp [hF2.one]
                refine ⟨_, by simp only; omega, st5.chg (by simp) (by simp) (by simp) (by simp) (by simp), ?_, hmk, by simp only; omega⟩
                refine Eq.trans ?_ ((wrun_some hst).symm.trans hw)
                simp
            · have hst : wstep s lf y = some { y with k := y.k + 1, text := y.text ++ [bt s y.k] } := by
                unfold wstep; rw [if_neg (by omega), if_neg (by omega), if_pos hmk, if_neg hc, if_neg (fun hh => hk2 hh.2)]
              simp [h32, st.f8, hk2]
              have hW := WriteByte_sp (h.next + 3) (h.next + 2) y.text (bt s y.k) (by omega) _ h32 st2.bld
              rw [hd] at hW
              refine hW.mono ?_
              rintro _ h9 ⟨rfl, hB, hF⟩
              have st4 := st2.wrote hrb hB hF (by simp only; omega)
              simp [hF.one]
              exact ⟨_, by simp only; omega, st4.chg (by simp) (by simp) (by simp) (by simp) (by simp), (wrun_some hst).symm.trans hw, hmk, by simp only; omega⟩
          · have hst : wstep s lf y = some { y with k := y.k + 1, text := y.text ++ [bt s y.k] } := by
              unfold wstep; rw [if_neg (by omega), if_neg (by omega), if_pos hmk, if_neg hc, if_neg (fun hh => hd hh.1)]
            simp [h31, st.f0, st.f8, hyk, nilCheckD, hrd, hix, hc, hw1, hd]
            refine (WriteByte_sp (h.next + 3) (h.next + 2) y.text (bt s y.k) (by omega) _ st2.one st2.bld).mono ?_
            rintro _ h4 ⟨rfl, hB, hF⟩
            have st3 := st2.wrote hrb hB hF (by simp only; omega)
            simp [hF.one]
            exact ⟨_, by simp only; omega, st3.chg (by simp) (by simp) (by simp) (by simp) (by simp), (wrun_some hst).symm.trans hw, hmk, by simp only; omega⟩
      · have hle2 := st.le
        have hmk0 : y.mark ≠ 0 := by omega
        have hxk : y.k = s.length := by omega
        cases lf with
        | false =>
          simp [h31, st.f0, hyk, nilCheckD, hrd, st.f7]
          refine ⟨laxW_of [(3, 6)] (by kernel_rfl) ?_, ?_⟩
          · simp [LaxP, h31, st.f0, st.f7, st.f6, nilCheckD, hrd]
            refine (String_sp (h.next + 3) (h.next + 2) y.text (by omega) h3 h31 st.bld).mono ?_
            rintro _ h4 ⟨rfl, hF, hbg⟩
            have e1 : h4.get rb = h3.get rb := hF.get _ (by omega) (by omega)
            simp [hF.one, st.f6, e1, hrd, h31]
          · refine (String_sp (h.next + 3) (h.next + 2) y.text (by omega) h3 h31 st.bld).mono ?_
            rintro _ h4 ⟨rfl, hF, hbg⟩
            have e1 : h4.get rb = h3.get rb := hF.get _ (by omega) (by omega)
            have e2 : h4.get (h.next + 1) = _ := (hF.get _ (by omega) (by omega)).trans st.pc
            have e3 : h4.get h.next = _ := (hF.get _ (by omega) (by omega)).trans st.res
            simp [hF.one, st.f6, e2, e3, st.f4, hmk]
            have hx : wrun s false x0 = y := by rw [← hw]; exact wrun_none (by unfold wstep; rw [if_pos (by omega)])
            rw [hwp, hx, if_neg hmk0]
            have hnx := st.bld.2.1
            have hnx2 := hF.next
            simp [encP, hmk]
            refine ⟨?_, by omega, ?_⟩
            · unfold Rd
              simp [hrb', hrb2]
              exact e1.trans hrd
            · intro b hb hne
              have g1 : b ≠ h.next := by omega
              have g2 : b ≠ h.next + 1 := by omega
              simp [g1, g2]
              exact (hF.get b (by omega) (by omega)).trans (st.old b hb hne)
        | true =>
          simp [h31, st.f0, st.f8, hyk, nilCheckD, hrd]
          refine (WriteByte_sp (h.next + 3) (h.next + 2) y.text 10 (by omega) _ h31 st.bld).mono ?_
          rintro _ h5 ⟨rfl, hB5, hF5⟩
          have e1 : h5.get rb = h3.get rb := hF5.get _ (by omega) (by omega)
          have hw1 := wrap_succ (show y.k < 9223372036854775807 by omega)
          have hadr : h.next + 2 ≠ rb := by omega
          have hB6 : Bld (h.next + 3) (h5.put rb (.cells [str s, .bool true, .int .i64 (y.k + 1)] 0 true 0 none)) (h.next + 2) (y.text ++ [10]) := hB5.of_get (by simp) (by simp [hadr]) (fun g hg _ => by rw [H.get_put, if_neg (by omega)])
          have h61 : (h5.put rb (.cells [str s, .bool true, .int .i64 (y.k + 1)] 0 true 0 none)).one = [] := hF5.one
          simp [hF5.one, st.f0, nilCheckD, e1, hrd, hw1, st.f7]
          generalize hh6 : h5.put rb (.cells [str s, .bool true, .int .i64 (y.k + 1)] 0 true 0 none) = h6 at hB6 h61 ⊢
          have hr6 : h6.get rb = some (.cells [str s, .bool true, .int .i64 (y.k + 1)] 0 true 0 none) := by subst hh6; simp
          have hg6 : ∀ b, b < h.next + 3 → b ≠ h.next + 2 → b ≠ rb → h6.get b = h3.get b := by
            intro b b1 b2 b3
            subst hh6
            rw [H.get_put, if_neg b3]
            exact hF5.get b b1 b2
          refine ⟨laxW_of [(3, 6)] (by kernel_rfl) ?_, ?_⟩
          · simp [LaxP, h61, st.f0, st.f7, st.f6, nilCheckD, hr6]
            refine (String_sp (h.next + 3) (h.next + 2) (y.text ++ [10]) (by simp; omega) h6 h61 hB6).mono ?_
            rintro _ h4 ⟨rfl, hF, hbg⟩
            have e1 : h4.get rb = h6.get rb := hF.get _ (by omega) (by omega)
            simp [hF.one, st.f6, e1, hr6, h61]
          · refine (String_sp (h.next + 3) (h.next + 2) (y.text ++ [10]) (by simp; omega) h6 h61 hB6).mono ?_
            rintro _ h4 ⟨rfl, hF, hbg⟩
            have e1 : h4.get rb = h6.get rb := hF.get _ (by omega) (by omega)
            have e2 : h4.get (h.next + 1) = _ := (hF.get _ (by omega) (by omega)).trans ((hg6 _ (by omega) (by omega) (by omega)).trans st.pc)
            have e3 : h4.get h.next = _ := (hF.get _ (by omega) (by omega)).trans ((hg6 _ (by omega) (by omega) (by omega)).trans st.res)
            simp [hF.one, st.f6, e2, e3, st.f4, hmk]
            have hx : wrun s true x0 = y := by rw [← hw]; exact wrun_none (by unfold wstep; rw [if_pos (by omega)])
            rw [hwp, hx, if_neg hmk0]
            have hnx := hB6.2.1
            have hnx2 := hF.next
            simp [encP, hmk]
            refine ⟨?_, by omega, ?_⟩
            · unfold Rd
              simp [hrb', hrb2]
              exact e1.trans hr6
            · intro b hb hne
              have g1 : b ≠ h.next := by omega
              have g2 : b ≠ h.next + 1 := by omega
              simp [g1, g2]
              exact (hF.get b (by omega) (by omega)).trans ((hg6 b (by omega) (by omega) hne).trans (st.old b hb hne))
    · -- out of quotes
      simp
      refine wpd_loop (fun (y : WS) fr1 h3 => WSt s lf rb h k (decide (mark = 0)) y fr1 h3 ∧ wrun s lf y = wrun s lf x0 ∧ y.mark = 0 ∧ x.k ≤ y.k) (fun y => s.length - y.k) x ⟨st, hw, hmk, Nat.le_refl _⟩ ?_
      rintro y fr1 h3 ⟨st, hw, hmk, hle⟩ hf1
      have h31 := st.one
      have hrd := st.rd
      have htl := st.tl
      have hle2 := st.le
      have hpc3 := st.pc
      unfold Rd at hrd
      have hgl : Gl h3 := by unfold Gl; rw [st.old _ hg0 hgr]; exact hg
      have hst0 : stopAt s lf y.k = true → wstep s lf y = none := by
        intro hh
        unfold wstep
        by_cases q : s.length ≤ y.k
        · rw [if_pos q]
        · rw [if_neg q, if_neg (by omega), if_neg (by omega), if_pos hh]
      simp [h31, st.f0]
      refine (more_sp s lf y.k rb h3 h31 st.rd).mono ?_
      rintro _ h3 ⟨rfl, rfl⟩
      by_cases hyk : y.k < s.length
      · have hix := idxB_nat hyk
        have hw1 := wrap_succ (show y.k < 9223372036854775807 by omega)
        have hbk := blank_sp s lf y.k rb hyk h3 h31 st.rd
        have hopk := Op_sp s y.k h3 h31 hgl
        have hjk := join_sp s lf y.k rb hyk (by omega) h3 h31 st.rd
        cases hb : isBl (bt s y.k) with
        | true =>
          have hstop : wstep s lf y = none := hst0 (by unfold stopAt; simp [hb])
          rw [hb] at hbk
          simp [h31, st.f0, hyk]
          refine hbk.mono ?_
          rintro _ h3 ⟨rfl, rfl⟩
          simp [h31, st.f0, nilCheckD, hrd, st.f7]
          refine ⟨laxW_of [(3, 6)] (by kernel_rfl) ?_, ?_⟩
          · simp [LaxP, h31, st.f0, st.f7, st.f6, nilCheckD, hrd]
            refine (String_sp (h.next + 3) (h.next + 2) y.text (by omega) h3 h31 st.bld).mono ?_
            rintro _ h4 ⟨rfl, hF, hbg⟩
            have e1 : h4.get rb = h3.get rb := hF.get _ (by omega) (by omega)
            simp [hF.one, st.f6, e1, hrd, h31]
          · refine (String_sp (h.next + 3) (h.next + 2) y.text (by omega) h3 h31 st.bld).mono ?_
            rintro _ h4 ⟨rfl, hF, hbg⟩
            have e1 : h4.get rb = h3.get rb := hF.get _ (by omega) (by omega)
            have e2 : h4.get (h.next + 1) = _ := (hF.get _ (by omega) (by omega)).trans st.pc
            have e3 : h4.get h.next = _ := (hF.get _ (by omega) (by omega)).trans st.res
            simp [hF.one, st.f6, e2, e3, st.f4]
            have hx : wrun s lf x0 = y := by rw [← hw]; exact wrun_none hstop
            rw [hwp, hx, if_pos hmk]
            have hnx := st.bld.2.1
            have hnx2 := hF.next
            simp [encP, hmk]
            refine ⟨?_, by omega, ?_⟩
            · unfold Rd
              simp [hrb', hrb2]
              exact e1.trans hrd
            · intro b hb hne
              have g1 : b ≠ h.next := by omega
              have g2 : b ≠ h.next + 1 := by omega
              simp [g1, g2]
              exact (hF.get b (by omega) (by omega)).trans (st.old b hb hne)
        | false =>
          rw [hb] at hbk
          simp [h31, st.f0, hyk]
          refine hbk.mono ?_
          rintro _ h3 ⟨rfl, rfl⟩
          simp [h31, st.f0, nilCheckD, hrd]
          refine hopk.mono ?_
          rintro _ h3 ⟨rfl, rfl⟩
          by_cases ho : opAt s y.k = 0
          · simp [h31, st.f0, ho]
            refine hjk.mono ?_
            rintro _ h3 ⟨rfl, rfl⟩
            cases hj : joinAt s lf y.k with
            | true =>
              have hstop : wstep s lf y = none := hst0 (by unfold stopAt; simp [hj])
              simp [h31, st.f0, nilCheckD, hrd, st.f7]
              refine ⟨laxW_of [(3, 6)] (by kernel_rfl) ?_, ?_⟩
              · simp [LaxP, h31, st.f0, st.f7, st.f6, nilCheckD, hrd]
                refine (String_sp (h.next + 3) (h.next + 2) y.text (by omega) h3 h31 st.bld).mono ?_
                rintro _ h4 ⟨rfl, hF, hbg⟩
                have e1 : h4.get rb = h3.get rb := hF.get _ (by omega) (by omega)
                simp [hF.one, st.f6, e1, hrd, h31]
              · refine (String_sp (h.next + 3) (h.next + 2) y.text (by omega) h3 h31 st.bld).mono ?_
                rintro _ h4 ⟨rfl, hF, hbg⟩
                have e1 : h4.get rb = h3.get rb := hF.get _ (by omega) (by omega)
                have e2 : h4.get (h.next + 1) = _ := (hF.get _ (by omega) (by omega)).trans st.pc
                have e3 : h4.get h.next = _ := (hF.get _ (by omega) (by omega)).trans st.res
                simp [hF.one, st.f6, e2, e3, st.f4]
                have hx : wrun s lf x0 = y := by rw [← hw]; exact wrun_none hstop
                rw [hwp, hx, if_pos hmk]
                have hnx := st.bld.2.1
                have hnx2 := hF.next
                simp [encP, hmk]
                refine ⟨?_, by omega, ?_⟩
                · unfold Rd
                  simp [hrb', hrb2]
                  exact e1.trans hrd
                · intro b hb hne
                  have g1 : b ≠ h.next := by omega
                  have g2 : b ≠ h.next + 1 := by omega
                  simp [g1, g2]
                  exact (hF.get b (by omega) (by omega)).trans (st.old b hb hne)
            | false =>
              have hns : stopAt s lf y.k = false := by
                unfold stopAt
                simp only [hb, ho, hj, Bool.or_false, decide_eq_false_iff_not, ne_eq, not_true_eq_false, decide_false, Bool.or_eq_false_iff, and_true]
                omega
              have hstq : wstep s lf y = if (bt s y.k).toNat = 39 then some { y with k := y.k + 1, mark := 39, raw := true } else if (bt s y.k).toNat = 34 then some { y with k := y.k + 1, mark := 34, raw := true }
                  else if (bt s y.k).toNat = 92 then (if y.k + 1 < s.length then some { y with k := y.k + 2, raw := true, text := y.text ++ [bt s (y.k + 1)] } else some { y with k := y.k + 1, raw := true, text := y.text ++ [bt s y.k] })
                  else some { y with k := y.k + 1, text := y.text ++ [bt s y.k] } := by
                unfold wstep
                rw [if_neg (by omega), if_neg (by omega), if_neg (by omega), hns, if_neg (by decide)]
              have st2 := st.adv hrb (k' := y.k + 1) (i := (y.k : Int) + 1) rfl (by omega) (by omega)
              have e4 : h.next + 1 ≠ rb := by omega
              by_cases hc : (bt s y.k).toNat = 39
              · rw [if_pos hc] at hstq
                simp [h31, st.f0, st.f6, nilCheckD, hrd, hix, hw1, hc, hpc3, e4]
                exact ⟨_, 1, by simp only; omega, ((st2.raw hrb).mk0 39).chg (by simp) (by simp) (by simp) (by simp) (by simp), (wrun_some hstq).symm.trans hw, .inl ⟨rfl, rfl, rfl⟩⟩
              · rw [if_neg hc] at hstq
                by_cases hc2 : (bt s y.k).toNat = 34
                · rw [if_pos hc2] at hstq
                  simp [h31, st.f0, st.f6, nilCheckD, hrd, hix, hw1, hc, hc2, hpc3, e4]
                  exact ⟨_, 1, by simp only; omega, ((st2.raw hrb).mk0 34).chg (by simp) (by simp) (by simp) (by simp) (by simp), (wrun_some hstq).symm.trans hw, .inr (.inl ⟨rfl, rfl, rfl⟩)⟩
                · rw [if_neg hc2] at hstq
                  by_cases hc3 : (bt s y.k).toNat = 92
                  · rw [if_pos hc3] at hstq
                    have st3 := st2.raw hrb
                    simp [h31, st.f0, st.f6, nilCheckD, hrd, hix, hw1, hc, hc2, hc3, hpc3, e4]
                    generalize hh5 : (h3.put rb (.cells [str s, .bool lf, .int .i64 (y.k + 1)] 0 true 0 none)).put (h.next + 1) (.cells [.int .u8 51, .int .i64 k, .int .i64 0, str [], .bool true, .bool (decide (mark = 0))] 0 true 0 none) = h5 at st3 ⊢
                    refine (more_sp s lf (y.k + 1) rb h5 st3.one st3.rd).mono ?_
                    rintro _ h6 ⟨rfl, rfl⟩
                    have hrd3 := st3.rd
                    unfold Rd at hrd3
                    by_cases hk2 : y.k + 1 < s.length
                    · rw [if_pos hk2] at hstq
                      have hix2 := idxB_succ hk2
                      have hw2 : IntKind.i64.wrap ((y.k : Int) + 1 + 1) = ((y.k + 2 : Nat) : Int) := wrap_i64 (by omega) (by omega)
                      have st4 := st3.adv hrb (k' := y.k + 2) (i := ((y.k + 2 : Nat) : Int)) rfl (by omega) (by simp)
                      have hcast : ((y.k + 1 : Nat) : Int) = (y.k : Int) + 1 := rfl
                      simp only [hcast] at hrd3
                      simp [st3.one, st.f0, st.f8, nilCheckD, hrd3, hix2, hk2, hw2]
                      refine (WriteByte_sp (h.next + 3) (h.next + 2) y.text (bt s (y.k + 1)) (by omega) _ st4.one st4.bld).mono ?_
                      rintro _ h9 ⟨rfl, hB, hF⟩
                      have st5 := st4.wrote hrb hB hF (by simp only; omega)
                      simp [hF.one]
                      exact ⟨_, by simp only; omega, st5.chg (by simp) (by simp) (by simp) (by simp) (by simp), (wrun_some hstq).symm.trans hw, hmk, by simp only; omega⟩
                    · rw [if_neg hk2] at hstq
                      simp [st3.one, st.f0, st.f8, hk2]
                      have hW := WriteByte_sp (h.next + 3) (h.next + 2) y.text (bt s y.k) (by omega) _ st3.one st3.bld
                      rw [hc3] at hW
                      refine hW.mono ?_
                      rintro _ h9 ⟨rfl, hB, hF⟩
                      have st5 := st3.wrote hrb hB hF (by simp only; omega)
                      simp [hF.one]
                      exact ⟨_, by simp only; omega, st5.chg (by simp) (by simp) (by simp) (by simp) (by simp), (wrun_some hstq).symm.trans hw, hmk, by simp only; omega⟩
                  · rw [if_neg hc3] at hstq
                    simp [h31, st.f0, st.f6, st.f8, nilCheckD, hrd, hix, hw1, hc, hc2, hc3]
                    refine (WriteByte_sp (h.next + 3) (h.next + 2) y.text (bt s y.k) (by omega) _ st2.one st2.bld).mono ?_
                    rintro _ h9 ⟨rfl, hB, hF⟩
                    have st5 := st2.wrote hrb hB hF (by simp only; omega)
                    simp [hF.one]
                    exact ⟨_, by simp only; omega, st5.chg (by simp) (by simp) (by simp) (by simp) (by simp), (wrun_some hstq).symm.trans hw, hmk, by simp only; omega⟩
          · have hstop : wstep s lf y = none := hst0 (by unfold stopAt; simp [ho])
            simp [h31, st.f0, nilCheckD, hrd, st.f7, ho]
            refine ⟨laxW_of [(3, 6)] (by kernel_rfl) ?_, ?_⟩
            · simp [LaxP, h31, st.f0, st.f7, st.f6, nilCheckD, hrd]
              refine (String_sp (h.next + 3) (h.next + 2) y.text (by omega) h3 h31 st.bld).mono ?_
              rintro _ h4 ⟨rfl, hF, hbg⟩
              have e1 : h4.get rb = h3.get rb := hF.get _ (by omega) (by omega)
              simp [hF.one, st.f6, e1, hrd, h31]
            · refine (String_sp (h.next + 3) (h.next + 2) y.text (by omega) h3 h31 st.bld).mono ?_
              rintro _ h4 ⟨rfl, hF, hbg⟩
              have e1 : h4.get rb = h3.get rb := hF.get _ (by omega) (by omega)
              have e2 : h4.get (h.next + 1) = _ := (hF.get _ (by omega) (by omega)).trans st.pc
              have e3 : h4.get h.next = _ := (hF.get _ (by omega) (by omega)).trans st.res
              simp [hF.one, st.f6, e2, e3, st.f4]
              have hx : wrun s lf x0 = y := by rw [← hw]; exact wrun_none hstop
              rw [hwp, hx, if_pos hmk]
              have hnx := st.bld.2.1
              have hnx2 := hF.next
              simp [encP, hmk]
              refine ⟨?_, by omega, ?_⟩
              · unfold Rd
                simp [hrb', hrb2]
                exact e1.trans hrd
              · intro b hb hne
                have g1 : b ≠ h.next := by omega
                have g2 : b ≠ h.next + 1 := by omega
                simp [g1, g2]
                exact (hF.get b (by omega) (by omega)).trans (st.old b hb hne)
      · have hstop : wstep s lf y = none := hst0 (by unfold stopAt; simp; omega)
        simp [h31, st.f0, nilCheckD, hrd, st.f7, hyk]
        refine ⟨laxW_of [(3, 6)] (by kernel_rfl) ?_, ?_⟩
        · simp [LaxP, h31, st.f0, st.f7, st.f6, nilCheckD, hrd]
          refine (String_sp (h.next + 3) (h.next + 2) y.text (by omega) h3 h31 st.bld).mono ?_
          rintro _ h4 ⟨rfl, hF, hbg⟩
          have e1 : h4.get rb = h3.get rb := hF.get _ (by omega) (by omega)
          simp [hF.one, st.f6, e1, hrd, h31]
        · refine (String_sp (h.next + 3) (h.next + 2) y.text (by omega) h3 h31 st.bld).mono ?_
          rintro _ h4 ⟨rfl, hF, hbg⟩
          have e1 : h4.get rb = h3.get rb := hF.get _ (by omega) (by omega)
          have e2 : h4.get (h.next + 1) = _ := (hF.get _ (by omega) (by omega)).trans st.pc
          have e3 : h4.get h.next = _ := (hF.get _ (by omega) (by omega)).trans st.res
          simp [hF.one, st.f6, e2, e3, st.f4]
          have hx : wrun s lf x0 = y := by rw [← hw]; exact wrun_none hstop
          rw [hwp, hx, if_pos hmk]
          have hnx := st.bld.2.1
          have hnx2 := hF.next
          simp [encP]
          refine ⟨?_, by omega, ?_⟩
          · unfold Rd
            simp [hrb', hrb2]
            exact e1.trans hrd
          · intro b hb hne
            have g1 : b ≠ h.next := by omega
            have g2 : b ≠ h.next + 1 := by omega
            simp [g1, g2]
            exact (hF.get b (by omega) (by omega)).trans (st.old b hb hne)
    · -- the end within quotes
      have htl := st.tl
      cases lf with
      | false =>
        simp [h1', st.f0, nilCheckD, hrd, st.f7]
        refine ⟨laxW_of [(3, 6)] (by kernel_rfl) ?_, ?_⟩
        · simp [LaxP, h1', st.f0, st.f7, st.f6, nilCheckD, hrd]
          refine (String_sp (h.next + 3) (h.next + 2) x.text (by omega) h' h1' st.bld).mono ?_
          rintro _ h4 ⟨rfl, hF, hbg⟩
          have e1 : h4.get rb = h'.get rb := hF.get _ (by omega) (by omega)
          simp [hF.one, st.f6, e1, hrd, h1']
        · refine (String_sp (h.next + 3) (h.next + 2) x.text (by omega) h' h1' st.bld).mono ?_
          rintro _ h4 ⟨rfl, hF, hbg⟩
          have e1 : h4.get rb = h'.get rb := hF.get _ (by omega) (by omega)
          have e2 : h4.get (h.next + 1) = _ := (hF.get _ (by omega) (by omega)).trans st.pc
          have e3 : h4.get h.next = _ := (hF.get _ (by omega) (by omega)).trans st.res
          simp [hF.one, st.f6, e2, e3, st.f4, hf1]
          have hx : wrun s false x0 = x := by rw [← hw]; exact wrun_none (by unfold wstep; rw [if_pos (by omega)])
          rw [hwp, hx, if_neg hmk]
          have hnx := st.bld.2.1
          have hnx2 := hF.next
          simp [encP]
          refine ⟨?_, by omega, ?_⟩
          · unfold Rd
            simp [hrb', hrb2]
            exact e1.trans hrd
          · intro b hb hne
            have g1 : b ≠ h.next := by omega
            have g2 : b ≠ h.next + 1 := by omega
            simp [g1, g2]
            exact (hF.get b (by omega) (by omega)).trans (st.old b hb hne)
      | true =>
        simp [h1', st.f0, st.f8, nilCheckD, hrd]
        refine (WriteByte_sp (h.next + 3) (h.next + 2) x.text 10 (by omega) _ h1' st.bld).mono ?_
        rintro _ h5 ⟨rfl, hB5, hF5⟩
        have e1 : h5.get rb = h'.get rb := hF5.get _ (by omega) (by omega)
        have hw1 := wrap_succ (show x.k < 9223372036854775807 by omega)
        have hadr : h.next + 2 ≠ rb := by omega
        have hB6 : Bld (h.next + 3) (h5.put rb (.cells [str s, .bool true, .int .i64 (x.k + 1)] 0 true 0 none)) (h.next + 2) (x.text ++ [10]) := hB5.of_get (by simp) (by simp [hadr]) (fun g hg _ => by rw [H.get_put, if_neg (by omega)])
        have h61 : (h5.put rb (.cells [str s, .bool true, .int .i64 (x.k + 1)] 0 true 0 none)).one = [] := hF5.one
        simp [hF5.one, st.f0, nilCheckD, e1, hrd, hw1, st.f7]
        generalize hh6 : h5.put rb (.cells [str s, .bool true, .int .i64 (x.k + 1)] 0 true 0 none) = h6 at hB6 h61 ⊢
        have hr6 : h6.get rb = some (.cells [str s, .bool true, .int .i64 (x.k + 1)] 0 true 0 none) := by subst hh6; simp
        have hg6 : ∀ b, b < h.next + 3 → b ≠ h.next + 2 → b ≠ rb → h6.get b = h'.get b := by
          intro b b1 b2 b3
          subst hh6
          rw [H.get_put, if_neg b3]
          exact hF5.get b b1 b2
        refine ⟨laxW_of [(3, 6)] (by kernel_rfl) ?_, ?_⟩
        · simp [LaxP, h61, st.f0, st.f7, st.f6, nilCheckD, hr6]
          refine (String_sp (h.next + 3) (h.next + 2) (x.text ++ [10]) (by simp; omega) h6 h61 hB6).mono ?_
          rintro _ h4 ⟨rfl, hF, hbg⟩
          have e1 : h4.get rb = h6.get rb := hF.get _ (by omega) (by omega)
          simp [hF.one, st.f6, e1, hr6, h61]
        · refine (String_sp (h.next + 3) (h.next + 2) (x.text ++ [10]) (by simp; omega) h6 h61 hB6).mono ?_
          rintro _ h4 ⟨rfl, hF, hbg⟩
          have e1 : h4.get rb = h6.get rb := hF.get _ (by omega) (by omega)
          have e2 : h4.get (h.next + 1) = _ := (hF.get _ (by omega) (by omega)).trans ((hg6 _ (by omega) (by omega) (by omega)).trans st.pc)
          have e3 : h4.get h.next = _ := (hF.get _ (by omega) (by omega)).trans ((hg6 _ (by omega) (by omega) (by omega)).trans st.res)
          simp [hF.one, st.f6, e2, e3, st.f4, hf1]
          have hx : wrun s true x0 = x := by rw [← hw]; exact wrun_none (by unfold wstep; rw [if_pos (by omega)])
          rw [hwp, hx, if_neg hmk]
          have hnx := hB6.2.1
          have hnx2 := hF.next
          simp [encP]
          refine ⟨?_, by omega, ?_⟩
          · unfold Rd
            simp [hrb', hrb2]
            exact e1.trans hr6
          · intro b hb hne
            have g1 : b ≠ h.next := by omega
            have g2 : b ≠ h.next + 1 := by omega
            simp [g1, g2]
            exact (hF.get b (by omega) (by omega)).trans ((hg6 b (by omega) (by omega) hne).trans (st.old b hb hne))
end Go.Dm
