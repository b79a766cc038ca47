/- The shell's words: the reference's word. -/
import Derived.Test.YtdgclgfhcgdehaaDoorShB
import Derived.Test.YtdgclgfhcgdehaaDoorDEq
set_option linter.unusedVariables false
set_option linter.unusedSimpArgs false
namespace Go.Dm
open Go.Proofs
def ctn (line : List UInt8) : List UInt8 := line.take (ctnN line)
def lfOf (line : List UInt8) : Bool := decide (ctnN line < line.length)
theorem ctn_length (line : List UInt8) : (ctn line).length = ctnN line := by unfold ctn; have := ctnN_le line; simp; omega
theorem bt_ctn {line : List UInt8} {k : Nat} (hk : k < ctnN line) : bt (ctn line) k = bt line k := by simp [bt, ctn, List.getElem?_take, hk]
theorem ctn_rest (line : List UInt8) : line.drop (ctnN line) = if lfOf line then [10] else [] := by
  unfold lfOf ctnN
  by_cases c : 0 < line.length ∧ (bt line (line.length - 1)).toNat = 10
  · rw [if_pos c]
    have h1 : decide (line.length - 1 < line.length) = true := by simp; omega
    rw [h1, if_pos rfl]
    have hl : line.length - 1 < line.length := by omega
    rw [List.drop_eq_getElem_cons hl]
    have : line[line.length - 1] = 10 := by
      have e : bt line (line.length - 1) = line[line.length - 1] := by unfold bt; rw [List.getD_eq_getElem?_getD, List.getElem?_eq_getElem hl]; rfl
      rw [← e]
      have := c.2
      exact UInt8.toNat_inj.1 (by simpa using this)
    rw [this, List.drop_of_length_le (by omega)]
  · rw [if_neg c]; simp
structure RSt (h : H) (k0 : Nat) (wh : Bool) (y : WS) (fr : T Value) (h' : H) : Prop where
  f1 : fr.get 1 = some (.int .i64 y.k)
  f2 : fr.get 2 = some (.int .u8 y.mark)
  tx : ∃ v, fr.get 10 = some v ∧ SlG (some 5) 1 (h.next + 2) h' v (u8s y.text) y.text.length
  one : h'.one = []
  nx : h.next + 2 ≤ h'.next
  res : h'.get h.next = some (.cells [.int .u8 0, .int .i64 0, .int .i64 0, str [], .bool false, .bool false] 0 true 0 none)
  pc : h'.get (h.next + 1) = some (.cells [.int .u8 51, .int .i64 k0, .int .i64 0, str [], .bool y.raw, .bool wh] 0 true 0 none)
  tl : y.text.length ≤ y.k
  old : ∀ b, b < h.next → h'.get b = h.get b
theorem RSt.to {h : H} {k0 : Nat} {wh : Bool} {y : WS} {fr : T Value} {h3 : H} (st : RSt h k0 wh y fr h3) {y' : WS} {fr' : T Value} {h4 : H} (hr : y'.raw = y.raw) (f1 : fr'.get 1 = some (.int .i64 y'.k)) (f2 : fr'.get 2 = some (.int .u8 y'.mark))
    {v : Value} (hv : fr'.get 10 = some v) (hs : SlG (some 5) 1 (h.next + 2) h4 v (u8s y'.text) y'.text.length) (tl : y'.text.length ≤ y'.k) (hF : Fr (h.next + 2) h3 h4) : RSt h k0 wh y' fr' h4 :=
  ⟨f1, f2, ⟨v, hv, hs⟩, hF.one, Nat.le_trans st.nx hF.next, (hF.get _ (by omega)).trans st.res, by rw [hr]; exact (hF.get _ (by omega)).trans st.pc, tl, fun b hb => (hF.get b (by omega)).trans (st.old b hb)⟩
theorem RSt.rw {h : H} {k0 : Nat} {wh : Bool} {y : WS} {fr : T Value} {h3 : H} (st : RSt h k0 wh y fr h3) : RSt h k0 wh { y with raw := true } fr (h3.put (h.next + 1) (.cells [.int .u8 51, .int .i64 k0, .int .i64 0, str [], .bool true, .bool wh] 0 true 0 none)) := by
  obtain ⟨v, hv, hs⟩ := st.tx
  refine ⟨st.f1, st.f2, ⟨v, hv, hs.put (by omega) _⟩, st.one, st.nx, ?_, ?_, st.tl, ?_⟩
  · rw [H.get_put, if_neg (by omega)]; exact st.res
  · simp
  · intro b hb; rw [H.get_put, if_neg (by omega)]; exact st.old b hb
set_option maxHeartbeats 8000000 in
theorem RefWord_sp (line : List UInt8) (k mark : Nat) (hs : line.length < 2 ^ 39) (hk : k ≤ ctnN line) (hm : mark = 0 ∨ mark = 39 ∨ mark = 34) (h : H) (h1 : h.one = []) :
    CallW E0 X0 (.fn 34) [str line, .int .i64 k, .int .u8 mark] h (fun v h' => v = .tuple #[.agg (encP (wpiece (ctn line) (lfOf line) k mark).1).toArray, .int .u8 (wpiece (ctn line) (lfOf line) k mark).2.1] ∧ Fr h.next h h') := by
  refine CallW.body efn34 rfl rfl rfl [] (by kernel_rfl) ?_
  have hcl := ctn_length line
  have hle := ctnN_le line
  obtain ⟨x0, hx0⟩ : ∃ x0 : WS, x0 = ⟨k, mark, [], decide (mark ≠ 0)⟩ := ⟨_, rfl⟩
  have hwp : wpiece (ctn line) (lfOf line) k mark = (if (wrun (ctn line) (lfOf line) x0).mark = 0 then (⟨51, k, (wrun (ctn line) (lfOf line) x0).k, (wrun (ctn line) (lfOf line) x0).text, (wrun (ctn line) (lfOf line) x0).raw, decide (mark = 0)⟩, 0, (wrun (ctn line) (lfOf line) x0).k)
    else (⟨51, k, (wrun (ctn line) (lfOf line) x0).k + (lfOf line).toNat, (wrun (ctn line) (lfOf line) x0).text ++ (if lfOf line then [10] else []), (wrun (ctn line) (lfOf line) x0).raw, false⟩, (wrun (ctn line) (lfOf line) x0).mark, (wrun (ctn line) (lfOf line) x0).k + (lfOf line).toNat)) := by rw [hx0]; rfl
  simp [Tryd.f34, h1]
  refine (Content_sp line (by omega) _ (by simp)).mono ?_
  rintro v h2 ⟨rfl, rfl⟩
  simp [h1]
  refine wpd_loop (fun (y : WS) fr1 h3 => RSt h k (decide (mark = 0)) y fr1 h3 ∧ wrun (ctn line) (lfOf line) y = wrun (ctn line) (lfOf line) x0 ∧ y.k ≤ ctnN line ∧ (y.mark = 0 ∨ y.mark = 39 ∨ y.mark = 34)) (fun y => ctnN line - y.k) x0 ⟨?_, rfl, by rw [hx0]; exact hk, by rw [hx0]; exact hm⟩ ?_
  · subst hx0
    refine ⟨by simp, by simp, ⟨_, by simp, SlG.nil _ _ _ _⟩, by simp, by simp, by simp, by simp, by simp, ?_⟩
    intro b hb
    have e1 : b ≠ h.next := by omega
    have e2 : b ≠ h.next + 1 := by omega
    simp [e1, e2]
  rintro y fr h3 ⟨st, hw, hyn, hmm⟩ hf
  have h31 := st.one
  have g0 := hf 0 rfl
  have g8 := hf 8 rfl
  have g9 := hf 9 rfl
  have g6 := hf 6 rfl
  simp at g0 g8 g9 g6
  obtain ⟨v, hv, hsl⟩ := st.tx
  by_cases hyk : y.k < ctnN line
  · have hyk' : y.k < (ctn line).length := by omega
    have hix := idxB_nat (l := line) (k := y.k) (by omega)
    rw [← bt_ctn hyk] at hix
    have hw1 := wrap_succ (show y.k < 9223372036854775807 by omega)
    have htl := st.tl
    have hnx := st.nx
    have hpc := st.pc
    rcases hmm with hmk | hmk | hmk
    · -- out of quotes
      have hst0 : stopAt (ctn line) (lfOf line) y.k = true → wstep (ctn line) (lfOf line) y = none := by
        intro hh
        unfold wstep
        rw [if_neg (by omega), if_neg (by omega), if_neg (by omega), if_pos hh]
      have hres := st.res
      have hstr := hsl.str und5
      have finX : wstep (ctn line) (lfOf line) y = none → wpiece (ctn line) (lfOf line) k mark = (⟨51, k, y.k, y.text, y.raw, decide (mark = 0)⟩, 0, y.k) := by
        intro hstop
        have hx : wrun (ctn line) (lfOf line) x0 = y := by rw [← hw]; exact wrun_none hstop
        rw [hwp, hx, if_pos hmk]
      have hofr : ∀ (h4 : H), Fr h3.next h3 h4 → h4.get (h.next + 1) = h3.get (h.next + 1) ∧ h4.get h.next = h3.get h.next := fun h4 hF => ⟨hF.get _ (by omega), hF.get _ (by omega)⟩
      have hSt : ∀ (h4 : H), Fr h3.next h3 h4 → SlG (some 5) 1 (h.next + 2) h4 v (u8s y.text) y.text.length := fun h4 hF => hsl.of_get hF.next fun g _ hg => hF.get g hg
      have hop := fun (h4 : H) (h41 : h4.one = []) => RefOp_sp (line.take (ctnN line)) y.k (by simp; omega) h4 h41
      have hjn := fun (h4 : H) (h41 : h4.one = []) => RefJoin_sp line y.k hyk (by omega) h4 h41
      have finish : wstep (ctn line) (lfOf line) y = none → ∀ (h4 : H), Fr h3.next h3 h4 → ∀ (d1 d2 d3 : DObj), d3 = .cells (encP ⟨51, k, y.k, y.text, y.raw, decide (mark = 0)⟩) 0 true 0 none →
          (([Value.int .u8 51, .int .i64 k, .int .i64 y.k, str y.text, .bool y.raw, .bool (decide (mark = 0))] = encP (wpiece (ctn line) (lfOf line) k mark).1 ∧ (0 : Int) = ((wpiece (ctn line) (lfOf line) k mark).2.1 : Int)) ∧ Fr h.next h ((((h4.put (h.next + 1) d1).put (h.next + 1) d2)).put h.next d3)) := by
        intro hstop h4 hF d1 d2 d3 hd3
        rw [finX hstop]
        refine ⟨⟨rfl, rfl⟩, hF.one, by have := hF.next; simp; omega, fun b hb => ?_⟩
        have e1 : b ≠ h.next := by omega
        have e2 : b ≠ h.next + 1 := by omega
        simp [e1, e2]
        exact (hF.get b (by omega)).trans (st.old b hb)
      have hF3 : Fr h3.next h3 h3 := Fr.refl h31
      by_cases c1 : (bt (ctn line) y.k).toNat = 32
      · have hstop : wstep (ctn line) (lfOf line) y = none := hst0 (by unfold stopAt isBl; simp [c1])
        simp [hF3.one, st.f1, st.f2, g0, g8, g9, g6, hv, hyk, hix, hmk, hw1, hle, (hofr h3 hF3).1, (hofr h3 hF3).2, hpc, hres, eq_true c1]
        rw [((hSt h3 hF3).put (by omega) _).str und5]
        simp [hF3.one, g9, g6, (hofr h3 hF3).1, (hofr h3 hF3).2, hpc, hres, st.f2, hmk]
        exact finish hstop h3 hF3 _ _ _ rfl
      · by_cases c2 : (bt (ctn line) y.k).toNat = 9
        · have hstop : wstep (ctn line) (lfOf line) y = none := hst0 (by unfold stopAt isBl; simp [c2])
          simp [hF3.one, st.f1, st.f2, g0, g8, g9, g6, hv, hyk, hix, hmk, hw1, hle, (hofr h3 hF3).1, (hofr h3 hF3).2, hpc, hres, c1, eq_true c2]
          rw [((hSt h3 hF3).put (by omega) _).str und5]
          simp [hF3.one, g9, g6, (hofr h3 hF3).1, (hofr h3 hF3).2, hpc, hres, st.f2, hmk]
          exact finish hstop h3 hF3 _ _ _ rfl
        · simp [h31, st.f1, st.f2, g0, g8, g9, g6, hv, hyk, hix, hmk, hw1, hle, c1, c2]
          refine (hop h3 h31).mono ?_
          rintro _ h4 ⟨rfl, hF4⟩
          have hF34 : Fr (h.next + 2) h3 h4 := hF4.mono (by omega)
          by_cases ho : opAt (line.take (ctnN line)) y.k = 0
          · simp [hF4.one, st.f1, st.f2, g0, g8, g9, g6, hv, hyk, hix, hmk, hw1, hle, ho]
            refine (hjn h4 hF4.one).mono ?_
            rintro _ h4 ⟨rfl, rfl⟩
            have hjq : joinAt (line.take (ctnN line)) (decide (ctnN line < line.length)) y.k = joinAt (ctn line) (lfOf line) y.k := rfl
            rw [hjq]
            cases hj : joinAt (ctn line) (lfOf line) y.k with
            | true =>
              have hstop : wstep (ctn line) (lfOf line) y = none := hst0 (by unfold stopAt; simp [hj])
              simp [hF4.one, st.f1, st.f2, g0, g8, g9, g6, hv, hyk, hix, hmk, hw1, hle, (hofr h4 hF4).1, (hofr h4 hF4).2, hpc, hres]
              rw [((hSt h4 hF4).put (by omega) _).str und5]
              simp [hF4.one, g9, g6, (hofr h4 hF4).1, (hofr h4 hF4).2, hpc, hres, st.f2, hmk]
              exact finish hstop h4 hF4 _ _ _ rfl
            | false =>
              have hns : stopAt (ctn line) (lfOf line) y.k = false := by
                have ho' : opAt (ctn line) y.k = 0 := ho
                unfold stopAt isBl
                simp [c1, c2, ho', hj]
                omega
              have hstq : wstep (ctn line) (lfOf line) y = if (bt (ctn line) y.k).toNat = 39 then some { y with k := y.k + 1, mark := 39, raw := true } else if (bt (ctn line) y.k).toNat = 34 then some { y with k := y.k + 1, mark := 34, raw := true }
                  else if (bt (ctn line) y.k).toNat = 92 then (if y.k + 1 < (ctn line).length then some { y with k := y.k + 2, raw := true, text := y.text ++ [bt (ctn line) (y.k + 1)] } else some { y with k := y.k + 1, raw := true, text := y.text ++ [bt (ctn line) y.k] })
                  else some { y with k := y.k + 1, text := y.text ++ [bt (ctn line) y.k] } := by
                unfold wstep
                rw [if_neg (by omega), if_neg (by omega), if_neg (by omega), hns, if_neg (by decide)]
              have st2 := st.to (y' := y) rfl st.f1 st.f2 hv (hSt h4 hF4) st.tl hF34
              have hpc4 := (hofr h4 hF4).1
              by_cases d1 : (bt (ctn line) y.k).toNat = 39
              · rw [if_pos d1] at hstq
                simp [hF4.one, st.f1, st.f2, g0, g8, g9, g6, hv, hyk, hix, hmk, hw1, hle, eq_true d1, hpc4, hpc]
                exact ⟨_, by simp only; omega, st2.rw.to (y' := { y with k := y.k + 1, mark := 39, raw := true }) rfl (by simp) (by simp [d1]) (by simp; exact hv) ((hSt h4 hF4).put (by omega) _) (by simp only; omega) (Fr.refl hF4.one), (wrun_some hstq).symm.trans hw, by simp only; omega, .inr (.inl rfl)⟩
              · rw [if_neg d1] at hstq
                by_cases d2 : (bt (ctn line) y.k).toNat = 34
                · rw [if_pos d2] at hstq
                  simp [hF4.one, st.f1, st.f2, g0, g8, g9, g6, hv, hyk, hix, hmk, hw1, hle, d1, eq_true d2, hpc4, hpc]
                  exact ⟨_, by simp only; omega, st2.rw.to (y' := { y with k := y.k + 1, mark := 34, raw := true }) rfl (by simp) (by simp [d2]) (by simp; exact hv) ((hSt h4 hF4).put (by omega) _) (by simp only; omega) (Fr.refl hF4.one), (wrun_some hstq).symm.trans hw, by simp only; omega, .inr (.inr rfl)⟩
                · rw [if_neg d2] at hstq
                  by_cases d3 : (bt (ctn line) y.k).toNat = 92
                  · rw [if_pos d3] at hstq
                    have st3 := st2.rw
                    have hs5 := (hSt h4 hF4).put (b := h.next + 1) (by omega) (.cells [.int .u8 51, .int .i64 k, .int .i64 0, str [], .bool true, .bool (decide (mark = 0))] 0 true 0 none)
                    have hix2 : y.k + 1 < ctnN line → idxB line ((y.k : Int) + 1) = some (.int .u8 (bt (ctn line) (y.k + 1)).toNat) := fun q => by rw [bt_ctn q]; exact idxB_succ (by omega)
                    have hw2 : IntKind.i64.wrap ((y.k : Int) + 2) = (y.k : Int) + 2 := wrap_i64 (by omega) (by omega)
                    by_cases hk2 : y.k + 1 < ctnN line
                    · rw [if_pos (by omega)] at hstq
                      simp [hF4.one, st.f1, st.f2, g0, g8, g9, g6, hv, hyk, hix, hmk, hw1, hle, d1, d2, eq_true d3, hpc4, hpc, hk2, hix2 hk2, zerosD, List.range, List.range.loop]
                      refine (hs5.nw _).app (by simp) (by have := hF4.next; simp; omega) (by rfl) (by decide) (by simp) (by omega) (by decide) (.inr rfl) ?_
                      rintro v' h5 hs' hF
                      rw [u8s_snoc] at hs'
                      have hF2 := ((Fr.refl st3.one).nw st3.nx _).trans hF
                      simp [hF.one, st.f1, hw2]
                      exact ⟨_, by simp only; omega, st3.to (y' := { y with k := y.k + 2, raw := true, text := y.text ++ [bt (ctn line) (y.k + 1)] }) (v := v') rfl (by simp) (by simp [st.f2]) (by simp) (by simpa using hs') (by simp; omega) hF2, (wrun_some hstq).symm.trans hw, by simp only; omega, .inl hmk⟩
                    · rw [if_neg (by omega)] at hstq
                      simp [hF4.one, st.f1, st.f2, g0, g8, g9, g6, hv, hyk, hix, hmk, hw1, hle, d1, d2, eq_true d3, hpc4, hpc, hk2, zerosD, List.range, List.range.loop]
                      refine (hs5.nw _).app (by simp) (by have := hF4.next; simp; omega) (by rfl) (by decide) (by simp) (by omega) (by decide) (.inr rfl) ?_
                      rintro v' h5 hs' hF
                      rw [u8s_snoc] at hs'
                      have hF2 := ((Fr.refl st3.one).nw st3.nx _).trans hF
                      simp [hF.one, st.f1, hw1]
                      exact ⟨_, by simp only; omega, st3.to (y' := { y with k := y.k + 1, raw := true, text := y.text ++ [bt (ctn line) y.k] }) (v := v') rfl (by simp) (by simp [st.f2]) (by simp) (by simpa using hs') (by simp; omega) hF2, (wrun_some hstq).symm.trans hw, by simp only; omega, .inl hmk⟩
                  · rw [if_neg d3] at hstq
                    simp [hF4.one, st.f1, st.f2, g0, g8, g9, g6, hv, hyk, hix, hmk, hw1, hle, d1, d2, d3, zerosD, List.range, List.range.loop]
                    refine ((hSt h4 hF4).nw _).app (by simp) (by have := hF4.next; simp; omega) (by rfl) (by decide) (by simp) (by omega) (by decide) (.inr rfl) ?_
                    rintro v' h5 hs' hF
                    rw [u8s_snoc] at hs'
                    have hF2 := hF34.trans (((Fr.refl hF4.one).nw (by have := hF4.next; omega) _).trans hF)
                    simp [hF.one, st.f1, hw1]
                    exact ⟨_, by simp only; omega, st.to (y' := { y with k := y.k + 1, text := y.text ++ [bt (ctn line) y.k] }) (v := v') rfl (by simp) (by simp [st.f2]) (by simp) (by simpa using hs') (by simp; omega) hF2, (wrun_some hstq).symm.trans hw, by simp only; omega, .inl hmk⟩
          · have hstop : wstep (ctn line) (lfOf line) y = none := hst0 (by have ho' : ¬ opAt (ctn line) y.k = 0 := ho; unfold stopAt; simp [ho'])
            have ho2 : 0 < opAt (line.take (ctnN line)) y.k := by omega
            simp [hF4.one, st.f1, st.f2, g0, g8, g9, g6, hv, hyk, hix, hmk, hw1, hle, (hofr h4 hF4).1, (hofr h4 hF4).2, hpc, hres, ho2]
            rw [((hSt h4 hF4).put (by omega) _).str und5]
            simp [hF4.one, g9, g6, (hofr h4 hF4).1, (hofr h4 hF4).2, hpc, hres, st.f2, hmk]
            exact finish hstop h4 hF4 _ _ _ rfl
    · by_cases hc : (bt (ctn line) y.k).toNat = 39
      · have hst : wstep (ctn line) (lfOf line) y = some { y with k := y.k + 1, mark := 0 } := by unfold wstep; rw [if_neg (by omega), if_pos hmk, if_pos hc]
        simp [h31, st.f1, st.f2, g0, g8, hyk, hix, hmk, hc, hw1]
        exact ⟨_, by simp only; omega, st.to (y' := { y with k := y.k + 1, mark := 0 }) rfl (by simp) (by simp) (by simp; exact hv) hsl (by simp only; omega) (Fr.refl h31), (wrun_some hst).symm.trans hw, by simp only; omega, .inl rfl⟩
      · have hst : wstep (ctn line) (lfOf line) y = some { y with k := y.k + 1, text := y.text ++ [bt (ctn line) y.k] } := by unfold wstep; rw [if_neg (by omega), if_pos hmk, if_neg hc]
        simp [h31, st.f1, st.f2, g0, g8, hv, hyk, hix, hmk, hc, hw1, zerosD, List.range, List.range.loop]
        refine (hsl.nw _).app (by simp) (by simp; omega) (by rfl) (by decide) (by simp) (by omega) (by decide) (.inr rfl) ?_
        rintro v' h4 hs' hF
        rw [u8s_snoc] at hs'
        have hF2 := ((Fr.refl h31).nw st.nx _).trans hF
        simp [hF.one, st.f1, hw1]
        exact ⟨_, by simp only; omega, st.to (y' := { y with k := y.k + 1, text := y.text ++ [bt (ctn line) y.k] }) (v := v') rfl (by simp) (by simp [st.f2]) (by simp) (by simpa using hs') (by simp; omega) hF2, (wrun_some hst).symm.trans hw, by simp only; omega, .inr (.inl hmk)⟩
    · by_cases hc : (bt (ctn line) y.k).toNat = 34
      · have hst : wstep (ctn line) (lfOf line) y = some { y with k := y.k + 1, mark := 0 } := by unfold wstep; rw [if_neg (by omega), if_neg (by omega), if_pos hmk, if_pos hc]
        simp [h31, st.f1, st.f2, g0, g8, hyk, hix, hmk, hc, hw1]
        exact ⟨_, by simp only; omega, st.to (y' := { y with k := y.k + 1, mark := 0 }) rfl (by simp) (by simp) (by simp; exact hv) hsl (by simp only; omega) (Fr.refl h31), (wrun_some hst).symm.trans hw, by simp only; omega, .inl rfl⟩
      · by_cases hd : (bt (ctn line) y.k).toNat = 92 ∧ y.k + 1 < (ctn line).length
        · obtain ⟨hd1, hd2⟩ := hd
          have hk2 : y.k + 1 < ctnN line := by omega
          have hst : wstep (ctn line) (lfOf line) y = some { y with k := y.k + 2, text := y.text ++ (if qEsc (bt (ctn line) (y.k + 1)) then [bt (ctn line) (y.k + 1)] else [bt (ctn line) y.k, bt (ctn line) (y.k + 1)]) } := by
            unfold wstep; rw [if_neg (by omega), if_neg (by omega), if_pos hmk, if_neg hc, if_pos ⟨hd1, hd2⟩]
          have hix2 := idxB_succ (l := line) (k := y.k) (by omega)
          rw [← bt_ctn hk2] at hix2
          have hw2 : IntKind.i64.wrap ((y.k : Int) + 2) = (y.k : Int) + 2 := wrap_i64 (by omega) (by omega)
          have fin : ∀ (a : List UInt8) (fr' : T Value) (v' : Value) (h4 : H), y.text ++ a = y.text ++ (if qEsc (bt (ctn line) (y.k + 1)) then [bt (ctn line) (y.k + 1)] else [bt (ctn line) y.k, bt (ctn line) (y.k + 1)]) → a.length ≤ 2 → fr'.get 1 = some (.int .i64 ((y.k : Int) + 2)) → fr'.get 2 = some (.int .u8 34) → fr'.get 10 = some v' →
              SlG (some 5) 1 (h.next + 2) h4 v' (u8s (y.text ++ a)) (y.text ++ a).length → Fr (h.next + 2) h3 h4 →
              ∃ s' : WS, ctnN line - s'.k < ctnN line - y.k ∧ RSt h k (decide (mark = 0)) s' fr' h4 ∧ wrun (ctn line) (lfOf line) s' = wrun (ctn line) (lfOf line) x0 ∧ s'.k ≤ ctnN line ∧ (s'.mark = 0 ∨ s'.mark = 39 ∨ s'.mark = 34) := by
            intro a fr' v' h4 ha hal q1 q2 q3 q4 q5
            refine ⟨{ y with k := y.k + 2, text := y.text ++ a }, by simp only; omega, st.to (y' := { y with k := y.k + 2, text := y.text ++ a }) rfl q1 (by rw [q2, hmk]; rfl) q3 q4 (by simp; omega) q5, ?_, by simp only; omega, .inr (.inr hmk)⟩
            rw [ha]
            exact (wrun_some hst).symm.trans hw
          by_cases q1 : (bt (ctn line) (y.k + 1)).toNat = 92
          · simp [h31, st.f1, st.f2, g0, g8, hv, hyk, hix, hmk, hc, hw1, eq_true hd1, hk2, hix2, zerosD, List.range, List.range.loop, eq_true q1]
            refine (hsl.nw _).app (by simp) (by simp; omega) (by rfl) (by decide) (by simp) (by omega) (by decide) (.inr rfl) ?_
            rintro v' h4 hs' hF
            rw [u8s_snoc] at hs'
            have hF2 := ((Fr.refl h31).nw st.nx _).trans hF
            simp [hF.one, st.f1, hw2]
            exact fin [bt (ctn line) (y.k + 1)] _ v' h4 (by simp [qEsc, q1]) (by simp) (by simp) (by simp [st.f2, hmk]) (by simp) (by simpa using hs') hF2
          · by_cases q2 : (bt (ctn line) (y.k + 1)).toNat = 34
            · simp [h31, st.f1, st.f2, g0, g8, hv, hyk, hix, hmk, hc, hw1, eq_true hd1, hk2, hix2, zerosD, List.range, List.range.loop, q1, eq_true q2]
              refine (hsl.nw _).app (by simp) (by simp; omega) (by rfl) (by decide) (by simp) (by omega) (by decide) (.inr rfl) ?_
              rintro v' h4 hs' hF
              rw [u8s_snoc] at hs'
              have hF2 := ((Fr.refl h31).nw st.nx _).trans hF
              simp [hF.one, st.f1, hw2]
              exact fin [bt (ctn line) (y.k + 1)] _ v' h4 (by simp [qEsc, q1, q2]) (by simp) (by simp) (by simp [st.f2, hmk]) (by simp) (by simpa using hs') hF2
            · by_cases q3 : (bt (ctn line) (y.k + 1)).toNat = 36
              · simp [h31, st.f1, st.f2, g0, g8, hv, hyk, hix, hmk, hc, hw1, eq_true hd1, hk2, hix2, zerosD, List.range, List.range.loop, q1, q2, eq_true q3]
                refine (hsl.nw _).app (by simp) (by simp; omega) (by rfl) (by decide) (by simp) (by omega) (by decide) (.inr rfl) ?_
                rintro v' h4 hs' hF
                rw [u8s_snoc] at hs'
                have hF2 := ((Fr.refl h31).nw st.nx _).trans hF
                simp [hF.one, st.f1, hw2]
                exact fin [bt (ctn line) (y.k + 1)] _ v' h4 (by simp [qEsc, q1, q2, q3]) (by simp) (by simp) (by simp [st.f2, hmk]) (by simp) (by simpa using hs') hF2
              · by_cases q4 : (bt (ctn line) (y.k + 1)).toNat = 96
                · simp [h31, st.f1, st.f2, g0, g8, hv, hyk, hix, hmk, hc, hw1, eq_true hd1, hk2, hix2, zerosD, List.range, List.range.loop, q1, q2, q3, eq_true q4]
                  refine (hsl.nw _).app (by simp) (by simp; omega) (by rfl) (by decide) (by simp) (by omega) (by decide) (.inr rfl) ?_
                  rintro v' h4 hs' hF
                  rw [u8s_snoc] at hs'
                  have hF2 := ((Fr.refl h31).nw st.nx _).trans hF
                  simp [hF.one, st.f1, hw2]
                  exact fin [bt (ctn line) (y.k + 1)] _ v' h4 (by simp [qEsc, q1, q2, q3, q4]) (by simp) (by simp) (by simp [st.f2, hmk]) (by simp) (by simpa using hs') hF2
                · simp [h31, st.f1, st.f2, g0, g8, hv, hyk, hix, hmk, hc, hw1, eq_true hd1, hk2, hix2, zerosD, List.range, List.range.loop, q1, q2, q3, q4]
                  refine (hsl.nw _).app (by simp) (by simp; omega) (by rfl) (by decide) (by simp) (by omega) (by decide) (.inr rfl) ?_
                  rintro v' h4 hs' hF
                  rw [u8s_snoc] at hs'
                  have hF2 := ((Fr.refl h31).nw st.nx _).trans hF
                  simp [hF.one, zerosD, List.range, List.range.loop]
                  have hn4 := hF2.next
                  refine (hs'.nw _).app (by simp) (by simp; omega) (by rfl) (by decide) (by simp) (by simp; omega) (by decide) (.inr rfl) ?_
                  rintro v5 h5 hs5 hF5
                  rw [u8s_snoc] at hs5
                  have hF6 := hF2.trans (((Fr.refl hF.one).nw (by omega) _).trans hF5)
                  simp [hF5.one, st.f1, hw2]
                  exact fin [bt (ctn line) y.k, bt (ctn line) (y.k + 1)] _ v5 h5 (by simp [qEsc, q1, q2, q3, q4]) (by simp) (by simp) (by simp [st.f2, hmk]) (by simp) (by simpa using hs5) hF6
        · have hst : wstep (ctn line) (lfOf line) y = some { y with k := y.k + 1, text := y.text ++ [bt (ctn line) y.k] } := by unfold wstep; rw [if_neg (by omega), if_neg (by omega), if_pos hmk, if_neg hc, if_neg hd]
          rw [hcl] at hd
          by_cases hd1 : (bt (ctn line) y.k).toNat = 92
          · have hk2 : ¬ y.k + 1 < ctnN line := fun q => hd ⟨hd1, q⟩
            simp [h31, st.f1, st.f2, g0, g8, hv, hyk, hix, hmk, hc, hw1, eq_true hd1, hk2, zerosD, List.range, List.range.loop]
            refine (hsl.nw _).app (by simp) (by simp; omega) (by rfl) (by decide) (by simp) (by omega) (by decide) (.inr rfl) ?_
            rintro v' h4 hs' hF
            rw [u8s_snoc] at hs'
            have hF2 := ((Fr.refl h31).nw st.nx _).trans hF
            simp [hF.one, st.f1, hw1]
            exact ⟨_, by simp only; omega, st.to (y' := { y with k := y.k + 1, text := y.text ++ [bt (ctn line) y.k] }) (v := v') rfl (by simp) (by simp [st.f2]) (by simp) (by simpa using hs') (by simp; omega) hF2, (wrun_some hst).symm.trans hw, by simp only; omega, .inr (.inr hmk)⟩
          · simp [h31, st.f1, st.f2, g0, g8, hv, hyk, hix, hmk, hc, hw1, hd1, zerosD, List.range, List.range.loop]
            refine (hsl.nw _).app (by simp) (by simp; omega) (by rfl) (by decide) (by simp) (by omega) (by decide) (.inr rfl) ?_
            rintro v' h4 hs' hF
            rw [u8s_snoc] at hs'
            have hF2 := ((Fr.refl h31).nw st.nx _).trans hF
            simp [hF.one, st.f1, hw1]
            exact ⟨_, by simp only; omega, st.to (y' := { y with k := y.k + 1, text := y.text ++ [bt (ctn line) y.k] }) (v := v') rfl (by simp) (by simp [st.f2]) (by simp) (by simpa using hs') (by simp; omega) hF2, (wrun_some hst).symm.trans hw, by simp only; omega, .inr (.inr hmk)⟩
  · -- the end
    have hyn2 : y.k = ctnN line := by omega
    have hx : wrun (ctn line) (lfOf line) x0 = y := by rw [← hw]; exact wrun_none (by unfold wstep; rw [if_pos (by omega)])
    have hpc := st.pc
    have hres := st.res
    have hnx := st.nx
    have htl := st.tl
    have hrest := ctn_rest line
    by_cases hmk : y.mark = 0
    · rw [hx, if_pos hmk] at hwp
      simp [h31, st.f1, st.f2, g8, g9, g6, hv, hmk, hyk, hpc, hres]
      rw [(hsl.put (by omega) _).str und5]
      simp [h31, g9, g6, hpc, hres, st.f2, hmk]
      rw [hwp]
      refine ⟨⟨rfl, rfl⟩, h31, by simp; omega, fun b hb => ?_⟩
      have e1 : b ≠ h.next := by omega
      have e2 : b ≠ h.next + 1 := by omega
      simp [e1, e2]
      exact st.old b hb
    · rw [hx, if_neg hmk] at hwp
      have hto : line.length = y.k + (lfOf line).toNat := by
        unfold lfOf
        by_cases q : ctnN line < line.length
        · have : line.length = ctnN line + 1 := by unfold ctnN at q ⊢; split at q <;> simp_all <;> omega
          simp [q]; omega
        · simp [q]; omega
      simp [h31, st.f1, st.f2, g0, g8, g9, g6, hv, hmk, hyk, hpc, hres, hle]
      refine (hsl.put (by omega) _).app (by simp [h31]) (by simpa using hnx) (by simp) (by decide) (by rw [← List.map_drop, List.all_map]; exact List.all_eq_true.2 fun _ _ => rfl) (by simp; omega) (by decide) (.inr rfl) ?_
      rintro v' h4 hs' hF
      have hs2 : SlG (some 5) 1 (h.next + 2) h4 v' ((y.text ++ line.drop (ctnN line)).map fun b => .int .u8 b.toNat) (y.text ++ line.drop (ctnN line)).length := by
        have e : (y.text ++ line.drop (ctnN line)).length = y.text.length + (line.length - ctnN line) := by simp
        rw [e]
        simpa [u8s] using hs'
      have g1' : h4.get (h.next + 1) = _ := (hF.get _ (by omega))
      have g2' : h4.get h.next = _ := (hF.get _ (by omega))
      simp [hpc] at g1'
      simp [hres] at g2'
      simp [hF.one, g0, g9, g6, g1', g2']
      rw [((hs2.put (by omega) _).put (by omega) _).str und5]
      simp [hF.one, g9, g6, g1', g2', st.f2]
      rw [hwp]
      refine ⟨⟨?_, rfl⟩, hF.one, ?_, fun b hb => ?_⟩
      · simp [encP, hrest, hto]
      · have := hF.next; simp at this; simp; omega
      · have e1 : b ≠ h.next := by omega
        have e2 : b ≠ h.next + 1 := by omega
        simp [e1, e2]
        have := hF.get b (by omega)
        simp [e2] at this
        exact this.trans (st.old b hb)
end Go.Dm
