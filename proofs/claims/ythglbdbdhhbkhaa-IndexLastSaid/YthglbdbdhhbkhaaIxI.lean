/- The law IndexLast, by the machine D: the walk. -/
import Derived.Test.YthglbdbdhhbkhaaIxH
set_option linter.unusedVariables false
set_option linter.unusedSimpArgs false
namespace Go.Dm
open Go.Proofs
def allB (l : List Ac) (n : Int) : Bool := l.all fun a => decide (a.n ≠ n)
theorem allB_iff {l : List Ac} {n : Int} : allB l n = true ↔ ∀ a ∈ l, a.n ≠ n := by unfold allB; simp
set_option maxRecDepth 100000 in
set_option maxHeartbeats 16000000 in
theorem law_Last (v : Value) (l : List Ac) (hml : ∀ a ∈ l, ∀ s ∈ a.d, s.length ≤ maxLen) (lb : List UInt8) (h : H) (h1 : h.one = []) (hr : RdA h v l) : CallW E0 X0 (.fn 6) [v, str lb] h (fun r _ => r = .bool true) := by
  refine CallW.body efn6 rfl (xo (by decide) ..) rfl [] (by kernel_rfl) ?_
  obtain ⟨a, cap, rfl⟩ := hr.sl
  simp [Try.f6, h1]
  refine (great_sp _ l h h1 hr).mono ?_
  rintro _ _ ⟨rfl, rfl⟩
  simp [h1]
  cases hg : greatB l with
  | true =>
    simp [h1]
    refine (wakes_sp _ h1).mono ?_
    rintro _ h2 ⟨rfl, f2⟩
    simp [f2.one]
  | false =>
    have hg' : ¬ (100 < l.length ∨ 600 < totA l) := by unfold greatB at hg; simpa using hg
    simp [h1]
    refine (New_sp _ h1).mono ?_
    rintro _ h2 ⟨xb, em, dm, mm, cm, rfl, repx, f2, lx, le, ld, lm, lc⟩
    simp [f2.one]
    refine (New_sp _ f2.one).mono ?_
    rintro _ h3 ⟨yb, em', dm', mm', cm', rfl, repy, f3, ly, le', ld', lm', lc'⟩
    simp [f3.one]
    rename_i h0
    have n2 := f2.next
    have x1 := repx.elt
    have x2 := repx.dlt
    have x3 := repx.mlt
    have x4 := repx.clt
    have hne : ∀ a ∈ [em, dm, mm, cm], ∀ b ∈ [em', dm', mm', cm'], a ≠ b := by
      intro a ha b hb
      simp only [List.mem_cons, List.not_mem_nil, or_false] at ha hb
      omega
    have hne' : ∀ a ∈ [em', dm', mm', cm'], ∀ b ∈ [em, dm, mm, cm], a ≠ b := fun a ha b hb e => hne b hb a ha e.symm
    refine wpd_loop (fun (i : Nat) fr h' => fr.get 7 = some (.int .i64 (i : Int)) ∧ i ≤ l.length ∧ Fr h0.next h0 h' ∧ (∃ f, Rep h' xb em dm mm cm (runL [] (l.take i)) f) ∧ ∃ f, Rep h' yb em' dm' mm' cm' [] f) (fun i => l.length - i) 0 ⟨by simp, by simp, f2.trans (f3.mono n2), ⟨_, repx.fr f3⟩, _, repy⟩ ?_
    rintro i fr h' ⟨g7, hile, fh, ⟨f, rep⟩, f', rep'⟩ hf
    have g0 := hf 0 rfl
    have g1 := hf 1 rfl
    have g5 := hf 5 rfl
    have g6 := hf 6 rfl
    simp at g0 g1 g5 g6
    have nh := fh.next
    by_cases hi : i < l.length
    · have hii : (i : Int) < l.length := by omega
      have htk := totA_take hi
      have htl : totA (l.take (i + 1)) ≤ totA l := by
        unfold totA
        rw [List.map_take]
        exact sum_take _ _
      have ht1 : totL (runL [] (l.take i)) ≤ totA (l.take i) := by have := run_tot (L := []) List.Pairwise.nil (l.take i); simpa [totL] using this
      obtain ⟨b, cap2, c, st, own, fz, ty, dv, mv, e, e2, e3, rd, rm, e4⟩ := (hr.fr fh).at hi
      cases e
      obtain ⟨c0, c1, c2, c3, c4⟩ := four_at e3
      have wi : IntKind.i64.wrap ((i : Int) + 1) = ((i + 1 : Nat) : Int) := by rw [wrap_i64 (by omega) (by omega)]; omega
      simp [g0, g5, g7, fh.one, hi, hii, e2, e3, c4]
      refine (done_sp xb em dm mm cm _ f l[i] dv mv h' fh.one rep rd rm (by omega) (hml l[i] (List.getElem_mem hi))).mono ?_
      rintro _ h4 ⟨rv, f4', rfl, rdT, rep4, _, k4, n4, o4⟩
      simp [o4, g7, wi]
      refine ⟨i + 1, by omega, rfl, by omega, ⟨o4, by omega, fun x hx => (k4 x (by omega) (by omega) (by omega) (by omega) (by omega)).trans (fh.get x hx)⟩, ⟨f4', by rw [run_take [] hi]; exact rep4⟩, f', rep'.keep2 rep hne' n4 k4⟩
    have hii : ¬ (i : Int) < l.length := by omega
    obtain rfl : i = l.length := by omega
    rw [List.take_length] at rep
    simp [g0, g7, fh.one, hi, hii]
    have wl : IntKind.i64.wrap ((l.length : Int) - 1) = (l.length : Int) - 1 := wrap_i64 (by omega) (by omega)
    simp [wl]
    obtain ⟨X, hX⟩ : ∃ X, X = runL [] l := ⟨_, rfl⟩
    rw [← hX] at rep
    clear hf hile hi hii g7
    refine wpd_loop (fun (j : Nat) fr2 h4 => fr2.get 8 = some (.int .i64 ((j : Int) - 1)) ∧ j ≤ l.length ∧ Fr h0.next h0 h4 ∧ (∃ f, Rep h4 xb em dm mm cm X f) ∧ ∃ Y f, Rep h4 yb em' dm' mm' cm' Y f ∧ Bk l j Y) (fun j => j) l.length ⟨by simp, by omega, fh, ⟨_, rep⟩, [], f', rep', ⟨List.Pairwise.nil, fun k => by rw [List.drop_length]; rfl, Nat.zero_le _⟩⟩ ?_
    rintro j fr2 h4 ⟨j8, hjle, fh4, ⟨fx, rx⟩, Y, fy, ry, bk⟩ hf2
    have j0 := hf2 0 rfl
    have j1 := hf2 1 rfl
    have j5 := hf2 5 rfl
    have j6 := hf2 6 rfl
    simp [g0, g1, g5, g6] at j0 j1 j5 j6
    have nh4 := fh4.next
    cases j with
    | succ j =>
      have hj : j < l.length := by omega
      have hji : (j : Int) < l.length := by omega
      have e8 : ((j + 1 : Nat) : Int) - 1 = (j : Int) := by omega
      rw [e8] at j8
      have hj0 : (0 : Int) ≤ (j : Int) := by omega
      have wj : IntKind.i64.wrap ((j : Int) + 1) = ((j + 1 : Nat) : Int) := by rw [wrap_i64 (by omega) (by omega)]; omega
      have wd : IntKind.i64.wrap ((j : Int) - 1) = (j : Int) - 1 := wrap_i64 (by omega) (by omega)
      obtain ⟨b, cap2, c, st, own, fz, ty, dv, mv, e, e2, e3, rd, rm, e4⟩ := (hr.fr fh4).at hj
      cases e
      obtain ⟨c0, c1, c2, c3, c4⟩ := four_at e3
      simp [-Int.natCast_add, j0, j5, j8, fh4.one, hj, hji, hj0, wj]
      refine wpd_loop (fun (k : Nat) fr3 h5 => fr3.get 10 = some (.int .i64 (k : Int)) ∧ fr3.get 9 = some (.bool (allB ((l.take k).drop (j + 1)) l[j].n)) ∧ j + 1 ≤ k ∧ k ≤ l.length ∧ h5 = h4) (fun k => l.length - k) (j + 1) ⟨by simp, ?_, by omega, by omega, rfl⟩ ?_
      · simp [allB]
      rintro k fr3 h4 ⟨k10, k9, hjk, hkl, rfl⟩ hf3
      have k0 := hf3 0 rfl
      have k1 := hf3 1 rfl
      have k5 := hf3 5 rfl
      have k6 := hf3 6 rfl
      have k8 := hf3 8 rfl
      simp [j0, j1, j5, j6, j8] at k0 k1 k5 k6 k8
      by_cases hk : k < l.length
      · have hki : (k : Int) < l.length := by omega
        obtain ⟨b', cap3, c', st', own', fz', ty', dv', mv', e', d2, d3, _, _, _⟩ := (hr.fr fh4).at hk
        injection e' with e5 e6 e7
        injection e5 with e5
        injection e5 with e5
        subst e5
        rw [e2] at d2
        cases d2
        obtain ⟨p0, p1, p2, p3, p4⟩ := four_at d3
        have wk : IntKind.i64.wrap ((k : Int) + 1) = ((k + 1 : Nat) : Int) := by rw [wrap_i64 (by omega) (by omega)]; omega
        have hst : allB ((l.take (k + 1)).drop (j + 1)) l[j].n = (allB ((l.take k).drop (j + 1)) l[j].n && decide (l[k].n ≠ l[j].n)) := by
          rw [List.take_succ_eq_append_getElem hk, List.drop_append_of_le_length (by simp; omega)]
          unfold allB
          rw [List.all_append]
          simp
        cases hb : allB ((l.take k).drop (j + 1)) l[j].n with
        | true =>
          rw [hb] at k9 hst
          simp [-Int.natCast_add, k0, k8, k9, k10, fh4.one, hk, hki, hj, hji, e2, c1, p1, wk]
          refine ⟨k + 1, by omega, rfl, ?_, by omega, by omega⟩
          rw [hst]
          simp
        | false =>
          rw [hb] at k9 hst
          simp [-Int.natCast_add, k0, k8, k9, k10, fh4.one, hk, hki, wk]
          exact ⟨k + 1, by omega, rfl, by rw [hst]; rfl, by omega, by omega⟩
      have hki : ¬ (k : Int) < l.length := by omega
      obtain rfl : k = l.length := by omega
      rw [List.take_length] at k9
      cases hb : allB (l.drop (j + 1)) l[j].n with
      | true =>
        rw [hb] at k9
        have hall := allB_iff.1 hb
        have hbt := bk.tot
        have hdt : totA (l.drop (j + 1)) + (l[j].d.length + l[j].m.length) ≤ totA l := by
          have h1 := totA_drop hj
          have h2 : totA (l.drop j) ≤ totA l := by
            unfold totA
            rw [List.map_drop]
            exact sum_drop _ _
          omega
        simp [-Int.natCast_add, k0, k6, k8, k9, k10, fh4.one, hj, hji, e2, e3, c4]
        refine (done_sp yb em' dm' mm' cm' Y fy l[j] dv mv h4 fh4.one ry rd rm (by omega) (hml l[j] (List.getElem_mem hj))).mono ?_
        rintro _ h5 ⟨rv, fy', rfl, rdT, ry5, _, k4, n4, o4⟩
        simp [-Int.natCast_add, o4, k8, wd]
        exact ⟨j, by omega, rfl, by omega, ⟨o4, by omega, fun x hx => (k4 x (by omega) (by omega) (by omega) (by omega) (by omega)).trans (fh4.get x hx)⟩, ⟨fx, rx.keep2 ry hne n4 k4⟩, _, ⟨fy', ry5⟩, bk.yes hj hall⟩
      | false =>
        rw [hb] at k9
        have hall : ¬ ∀ a ∈ l.drop (j + 1), a.n ≠ l[j].n := fun q => by rw [allB_iff.2 q] at hb; cases hb
        simp [-Int.natCast_add, k0, k6, k8, k9, k10, fh4.one, wd]
        exact ⟨j, by omega, rfl, by omega, fh4, ⟨fx, rx⟩, Y, ⟨fy, ry⟩, bk.no hj hall⟩
    | zero =>
      have hj0 : ¬ (0 : Int) ≤ ((0 : Nat) : Int) - 1 := by omega
      have hYX : Y = X := by rw [hX]; exact bk.stop
      subst hYX
      simp [j0, j5, j8, fh4.one]
      have hT : totL Y < 2 ^ 20 := by
        have := bk.tot
        rw [List.drop_zero] at this
        omega
      have hkl : (knownL Y).length < 2 ^ 40 := by
        have h1 := riseL_len (Y.flatMap (·.d))
        have h2 : ∀ M : List En, (M.flatMap (·.d)).length ≤ totL M := by
          intro M
          induction M with
          | nil => exact Nat.le_refl _
          | cons a M ih =>
            unfold totL at *
            simp only [List.flatMap_cons, List.length_append, List.map_cons, List.sum_cons] at *
            omega
        have h3 := h2 Y
        have : (knownL Y).length ≤ (Y.flatMap (·.d)).length := h1
        omega
      have hwl : (whoP Y lb).length < 2 ^ 40 := by
        have h2 : ∀ M : List En, (whoP M lb).length ≤ totL M := by
          intro M
          induction M with
          | nil => exact Nat.le_refl _
          | cons a M ih =>
            unfold totL whoP at *
            rw [List.filter_cons]
            simp only [List.map_cons, List.sum_cons, List.length_map] at *
            by_cases hs : lb ∈ a.m
            · have := List.length_pos_iff_exists_mem.2 ⟨lb, hs⟩
              simp only [hs, decide_true, if_true, List.length_cons]; omega
            · simp only [hs, decide_false, Bool.false_eq_true, if_false]; omega
        have := h2 Y
        omega
      refine (Known_sp xb em dm mm cm Y fx h4 fh4.one rx hT).mono ?_
      rintro v5 h5 ⟨ga5, f5⟩
      have rx5 := rx.fr f5
      have ry5 := ry.fr f5
      simp [f5.one, j6]
      refine (Known_sp yb em' dm' mm' cm' Y fy h5 f5.one ry5 hT).mono ?_
      rintro v6 h6 ⟨ga6, f6⟩
      have rx6 := rx5.fr f6
      have ry6 := ry5.fr f6
      simp [f6.one]
      refine (Same_sp _ _ _ _ hkl hkl h6 f6.one (ga5.rd.fr f6) ga6.rd).mono ?_
      rintro _ h6 ⟨rfl, rfl⟩
      simp [f6.one, j5]
      refine (Len_sp xb em dm mm cm Y fx h6 f6.one rx6).mono ?_
      rintro _ h6 ⟨rfl, rfl⟩
      simp [f6.one, j6]
      refine (Len_sp yb em' dm' mm' cm' Y fy h6 f6.one ry6).mono ?_
      rintro _ h6 ⟨rfl, rfl⟩
      simp [f6.one, j5, j1]
      refine (Defined_sp xb em dm mm cm Y fx lb h6 f6.one rx6).mono ?_
      rintro _ h6 ⟨rfl, rfl⟩
      simp [f6.one, j6, j1]
      refine (Defined_sp yb em' dm' mm' cm' Y fy lb h6 f6.one ry6).mono ?_
      rintro _ h6 ⟨rfl, rfl⟩
      simp [f6.one, j5, j1]
      refine (Who_sp xb em dm mm cm Y fx lb h6 f6.one rx6 hT).mono ?_
      rintro v7 h7 ⟨ri7, f7⟩
      simp [f7.one, j6, j1]
      refine (Who_sp yb em' dm' mm' cm' Y fy lb h7 f7.one (ry6.fr f7) hT).mono ?_
      rintro v8 h8 ⟨ri8, f8⟩
      simp [f8.one]
      refine (Ints_sp _ _ _ _ hwl hwl h8 f8.one (ri7.fr f8) ri8).mono ?_
      rintro _ h8 ⟨rfl, rfl⟩
      have rx8 := (rx6.fr f7).fr f8
      have ry8 := (ry6.fr f7).fr f8
      have n5 := f5.next
      have n6 := f6.next
      have n7 := f7.next
      have fh8 : Fr h0.next h0 h8 := fh4.trans ((f5.mono nh4).trans ((f6.mono (by omega)).trans ((f7.mono (by omega)).trans (f8.mono (by omega)))))
      simp [f8.one, j0]
      refine wpd_loop (fun (k : Nat) fr3 h9 => fr3.get 11 = some (.int .i64 (k : Int)) ∧ k ≤ l.length ∧ Fr h0.next h0 h9 ∧ Rep h9 xb em dm mm cm Y fx ∧ Rep h9 yb em' dm' mm' cm' Y fy) (fun k => l.length - k) 0 ⟨by simp, by omega, fh8, rx8, ry8⟩ ?_
      rintro k fr3 h9 ⟨k11, hkl, fh9, rx9, ry9⟩ hf3
      have k0 := hf3 0 rfl
      have k1 := hf3 1 rfl
      have k5 := hf3 5 rfl
      have k6 := hf3 6 rfl
      simp [j0, j1, j5, j6] at k0 k1 k5 k6
      have nh9 := fh9.next
      by_cases hk : k < l.length
      · have hki : (k : Int) < l.length := by omega
        obtain ⟨b, cap2, c, st, own, fz, ty, dv, mv, e, e2, e3, rd, rm, e4⟩ := (hr.fr fh9).at hk
        cases e
        obtain ⟨c0, c1, c2, c3, c4⟩ := four_at e3
        have wk : IntKind.i64.wrap ((k : Int) + 1) = ((k + 1 : Nat) : Int) := by rw [wrap_i64 (by omega) (by omega)]; omega
        simp [-Int.natCast_add, k0, k1, k5, k11, fh9.one, hk, hki, e2, c1]
        refine (Has_sp xb em dm mm cm Y fx l[k].n lb h9 fh9.one rx9).mono ?_
        rintro _ h10 ⟨rfl, f10⟩
        have e10 := (f10.get b e4).trans e2
        simp [-Int.natCast_add, k0, k1, k6, k11, f10.one, hk, hki, e10, c1]
        refine (Has_sp yb em' dm' mm' cm' Y fy l[k].n lb h10 f10.one (ry9.fr f10)).mono ?_
        rintro _ h11 ⟨rfl, f11⟩
        have n10 := f10.next
        simp [-Int.natCast_add, f11.one, k11, wk]
        exact ⟨k + 1, by omega, rfl, by omega, fh9.trans ((f10.mono nh9).trans (f11.mono (by omega))), (rx9.fr f10).fr f11, (ry9.fr f10).fr f11⟩
      · have hki : ¬ (k : Int) < l.length := by omega
        simp [k0, k11, fh9.one, hk, hki]
        refine (wakes_sp _ fh9.one).mono ?_
        rintro _ h12 ⟨rfl, f12⟩
        simp [f12.one]
end Go.Dm
