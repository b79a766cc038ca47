/- The statement ShwordCut, in D. Printed by wip/gen/xshy.py. -/
import Derived.Test.YtpanpicbikihkaaDoorShX
import Derived.Test.YtpanpicbikihkaaDoorShG
set_option linter.unusedVariables false
set_option linter.unusedSimpArgs false
set_option maxRecDepth 100000
namespace Go.Dm
open Go.Proofs
theorem ctnN_three (line : List UInt8) : (¬ 0 < line.length ∧ ctnN line = line.length) ∨ (0 < line.length ∧ ¬ (bt line (line.length - 1)).toNat = 10 ∧ ctnN line = line.length) ∨ (0 < line.length ∧ (bt line (line.length - 1)).toNat = 10 ∧ ctnN line = line.length - 1) := by
  unfold ctnN
  by_cases c : 0 < line.length
  · by_cases d : (bt line (line.length - 1)).toNat = 10
    · exact .inr (.inr ⟨c, d, if_pos ⟨c, d⟩⟩)
    · exact .inr (.inl ⟨c, d, if_neg (fun h => d h.2)⟩)
  · exact .inl ⟨c, by rw [if_neg (fun h => c h.1)]⟩
theorem encs_cell : ∀ (l : List Pc) (k j : Nat) (hk : k < l.length), j < 6 → (encs l)[k * 6 + j]? = (encP l[k])[j]? := by
  intro l k j hk hj
  have h := encs_get l k hk
  have e : ((encs l).drop (k * 6))[j]? = (encP l[k])[j]? := by rw [← h, List.getElem?_take_of_lt hj]
  rw [List.getElem?_drop] at e
  exact e
set_option maxHeartbeats 8000000 in
theorem law_Cut (line : List UInt8) (a : Int) (h : H) (h1 : h.one = []) (hg : Gl h) (hg0 : 0 < h.next) :
    CallW E0 X0 (.fn 7) [str line, .int .i64 a] h (fun v h' => v = .bool true) := by
  refine CallW.body efn7 rfl rfl rfl [] (by kernel_rfl) ?_
  by_cases hl : 4096 < line.length
  · simp [Tryd.f7, h1, hl]
    refine (wakes_sp h h1 hg hg0).mono ?_
    rintro _ h2 ⟨rfl, hF⟩
    simp [hF.one]
  · simp [Tryd.f7, h1, hl]
    refine (Read_sp line 0 0 (by omega) (by decide) h h1 hg hg0).mono ?_
    rintro _ h2 ⟨sl, rfl, hsl, hF⟩
    have h21 := hF.one
    have hgl : Gl h2 := by unfold Gl; rw [hF.get _ hg0]; exact hg
    have hn2 := hF.next
    have hcl := ctn_length line
    have hnl := ctnN_le line
    have wk : ∀ h3, Fr h2.next h2 h3 → CallW E0 X0 (.fn 8) [] h3 (fun v h' => v = .bool true ∧ Fr h3.next h3 h') := fun h3 hf =>
      wakes_sp h3 hf.one (by unfold Gl; rw [hf.get _ (by omega)]; exact hgl) (by have := hf.next; omega)
    have e1 : 0 < line.length → IntKind.i64.wrap ((line.length : Int) - 1) = ((line.length - 1 : Nat) : Int) := fun c => by rw [wrap_i64 (by omega) (by omega)]; omega
    have hx1 : 0 < line.length → idxB line ((line.length - 1 : Nat) : Int) = some (.int .u8 (bt line (line.length - 1)).toNat) := fun c => idxB_nat (by omega)
    have hlen := rdAt_len line 0 0
    have hcut := rd_cut line
    generalize (rdAt line 0 0).1 = l at *
    generalize (rdAt line 0 0).2 = m at *
    have le := encs_length l
    rcases ctnN_three line with ⟨c, hn⟩ | ⟨c, d, hn⟩ | ⟨c, d, hn⟩
    · obtain ⟨ad, rfl⟩ := hsl.slice
      by_cases c1 : a < 0
      · simp [h21, c, c1]
        refine (wk h2 (Fr.refl h21)).mono ?_
        rintro _ h3 ⟨rfl, hF3⟩
        simp [hF3.one]
      obtain ⟨k, rfl⟩ : ∃ n : Nat, a = n := ⟨a.toNat, by omega⟩
      by_cases c2 : ctnN line ≤ k
      · rw [hn] at c2
        simp [h21, c, c1, c2]
        refine (wk h2 (Fr.refl h21)).mono ?_
        rintro _ h3 ⟨rfl, hF3⟩
        simp [hF3.one]
      have c2' := c2
      rw [hn] at c2'
      have hk : k < line.length := by omega
      have hx := idxB_nat hk
      by_cases hbl : isBl (bt line k) = true
      case neg =>
        have b1 : ¬ (bt line k).toNat = 32 := fun e => hbl (by simp [isBl, e])
        have b2 : ¬ (bt line k).toNat = 9 := fun e => hbl (by simp [isBl, e])
        simp [h21, c, c1, c2', hx, b1, b2]
        refine (wk h2 (Fr.refl h21)).mono ?_
        rintro _ h3 ⟨rfl, hF3⟩
        simp [hF3.one]
      have e9 : 0 < k → IntKind.i64.wrap ((k : Int) - 1) = ((k - 1 : Nat) : Int) := fun c => by rw [wrap_i64 (by omega) (by omega)]; omega
      have hx9 : idxB line ((k - 1 : Nat) : Int) = some (.int .u8 (bt line (k - 1)).toNat) := idxB_nat (by omega)
      by_cases h10 : 0 < k ∧ (bt line (k - 1)).toNat = 10
      · have hk0 := h10.1
        have hk9 := h10.2
        have e9 := e9 hk0
        by_cases b1 : (bt line k).toNat = 32
        · simp [h21, c, c1, c2', hx, b1, hk0, e9, hx9, hk9]
          refine (wk h2 (Fr.refl h21)).mono ?_
          rintro _ h3 ⟨rfl, hF3⟩
          simp [hF3.one]
        · have b2 : (bt line k).toNat = 9 := by simp [isBl, b1] at hbl; exact hbl
          simp [h21, c, c1, c2', hx, b1, b2, hk0, e9, hx9, hk9]
          refine (wk h2 (Fr.refl h21)).mono ?_
          rintro _ h3 ⟨rfl, hF3⟩
          simp [hF3.one]
      have hcut := hcut k (by omega) hbl (fun h h' => h10 ⟨h, h'⟩)
      have b3 : (bt line k).toNat = 32 ∨ (bt line k).toNat = 9 := by simpa [isBl] using hbl
      have b4 : ¬ 0 < k ∨ (0 < k ∧ ¬ (bt line (k - 1)).toNat = 10) := by
        rcases Nat.eq_zero_or_pos k with e | e
        · exact .inl (by omega)
        · exact .inr ⟨e, fun h' => h10 ⟨e, h'⟩⟩
      rcases b3 with b3 | b3
      · rcases b4 with b4 | ⟨b4, b5⟩
        · simp [h21, c, c1, c2', hx, hx9, b3, b4]
          refine wpd_loop (fun (i : Nat) fr h' => i ≤ l.length ∧ fr.get 8 = some (.int .i64 i) ∧ h' = h2 ∧ ∀ (j : Nat) (p : Pc), j < i → l[j]? = some p → ¬ (p.fm ≤ k ∧ k < p.to)) (fun i => l.length - i) 0 ⟨by omega, by simp, rfl, by simp⟩ ?_
          rintro i fr h' ⟨hil, hi, rfl, hno⟩ hf
          have g0 := hf 0 rfl
          have g1 := hf 1 rfl
          have g5 := hf 5 rfl
          have g6 := hf 6 rfl
          simp at g0 g1 g5 g6
          by_cases hik : i < l.length
          · have hsl0 := hsl
            rcases hsl0 with ⟨e, _⟩ | ⟨_, _, g, hgB, hgn, ea, hgg⟩
            · omega
            cases ea
            have b1 : i * 6 + 1 < (encs l).length := by omega
            have b2 : i * 6 + 2 < (encs l).length := by omega
            have r1 : (encs l)[i * 6 + 1]'b1 = .int .i64 l[i].fm := (List.getElem?_eq_some_iff.1 (encs_cell l i 1 hik (by decide))).2
            have r2 : (encs l)[i * 6 + 2]'b2 = .int .i64 l[i].to := (List.getElem?_eq_some_iff.1 (encs_cell l i 2 hik (by decide))).2
            have hw1 := wrap_succ (show i < 9223372036854775807 by omega)
            have hp : l[i]? = some l[i] := List.getElem?_eq_getElem hik
            obtain ⟨p, hpe⟩ : ∃ p, p = l[i] := ⟨_, rfl⟩
            rw [← hpe] at r1 r2 hp
            clear hpe
            obtain ⟨kd, fm, to, tx, rw', wh⟩ := p
            simp only at r1 r2
            by_cases q1 : fm ≤ k
            · by_cases q2 : k < to
              · simp [h21, hi, g0, g1, g5, hik, hgg, b1, b2, r1, r2, q1, q2]
                refine (wk h' (Fr.refl h21)).mono ?_
                rintro _ h3 ⟨rfl, hF3⟩
                simp [hF3.one]
              · simp [h21, hi, g0, g1, g5, hik, hgg, b1, b2, r1, r2, q1, q2, hw1]
                refine ⟨i + 1, by omega, by omega, rfl, fun j p hj hjp h5 => ?_⟩
                rcases Nat.lt_or_ge j i with h4 | h4
                · have := hno j p h4 hjp; omega
                · obtain rfl : j = i := by omega
                  rw [hp] at hjp; cases hjp; simp only at h5 ⊢; omega
            · simp [h21, hi, g0, g1, g5, hik, hgg, b1, b2, r1, r2, q1, hw1]
              refine ⟨i + 1, by omega, by omega, rfl, fun j p hj hjp h5 => ?_⟩
              rcases Nat.lt_or_ge j i with h4 | h4
              · have := hno j p h4 hjp; omega
              · obtain rfl : j = i := by omega
                rw [hp] at hjp; cases hjp; simp only at h5 ⊢; omega
          · have hiE : i = l.length := by omega
            subst hiE
            obtain ⟨hc1, hc2, hc3⟩ := hcut (fun p hp => by
              obtain ⟨j, hj, rfl⟩ := List.getElem_of_mem hp
              exact hno j _ hj (List.getElem?_eq_getElem hj))
            have hkl : k ≤ line.length := by omega
            simp [h21, hi, g0, g1, g5, hkl]
            refine (Read_sp (line.take k) 0 0 (by simp; omega) (by decide) h' h21 hgl (by omega)).mono ?_
            rintro _ h3 ⟨sb, rfl, hsb, hF3⟩
            have h31 := hF3.one
            have hg3 : Gl h3 := by unfold Gl; rw [hF3.get _ (by omega)]; exact hgl
            have hn3 := hF3.next
            simp [h31, g0, g1]
            refine (Read_sp line k 0 (by omega) (by decide) h3 h31 hg3 (by omega)).mono ?_
            rintro _ h4 ⟨sc, rfl, hsc, hF4⟩
            have h41 := hF4.one
            have hn4 := hF4.next
            have hF34 := hF3.trans (hF4.mono hn3)
            have hsb4 := hsb.of_get hn4 (fun g _ hg => hF4.get g hg)
            have hsl4 := hsl.of_get hF34.next (fun g _ hg => hF34.get g hg)
            rw [hc1, hc2]
            generalize (rdAt (line.take k) 0 0).1 = la at *
            generalize (rdAt line k 0).1 = lb at *
            obtain ⟨ab, rfl⟩ := hsb.slice
            obtain ⟨ac, rfl⟩ := hsc.slice
            have hLL : la.length + lb.length = l.length := by rw [hc3, List.length_append]
            have e12 : IntKind.i64.wrap ((la.length : Int) + (lb.length : Int)) = (l.length : Int) := by rw [wrap_i64 (by omega) (by omega)]; omega
            have lea := encs_length la
            have leb := encs_length lb
            simp [h41, g0, g1, g5, g6, e12]
            refine wpd_loop (fun (i : Nat) fr h' => i ≤ l.length ∧ fr.get 13 = some (.int .i64 i) ∧ h' = h4) (fun i => l.length - i) 0 ⟨by omega, by simp, rfl⟩ ?_
            rintro i fr2 h5 ⟨hil, hi, rfl⟩ hf2
            have f5 := hf2 5 rfl
            have f9 := hf2 9 rfl
            have f11 := hf2 11 rfl
            simp [g5] at f5 f9 f11
            by_cases hik : i < l.length
            · have hw1 := wrap_succ (show i < 9223372036854775807 by omega)
              rcases hsl4 with ⟨e, _⟩ | ⟨_, _, gl, _, _, el, hgl'⟩
              · omega
              cases el
              have ql := encs_get l i hik
              have bl : i * 6 + 6 ≤ (encs l).length := by omega
              by_cases hia : i < la.length
              · rcases hsb4 with ⟨e, _⟩ | ⟨_, _, ga, _, _, ea, hga⟩
                · omega
                cases ea
                have qa := encs_get la i hia
                have ba : i * 6 + 6 ≤ (encs la).length := by omega
                have hpe : l[i] = la[i] := by simp only [hc3]; rw [List.getElem_append_left hia]
                rw [hpe] at ql
                have hnia : ¬ la.length ≤ i := by omega
                simp [h41, hi, f5, f9, f11, hik, hia, hnia, hga, hgl', ba, bl, qa, ql, -eqD_succ, eq_pc, hw1]
                omega
              · rcases hsc with ⟨e, _⟩ | ⟨_, _, gc, _, _, ec, hgc⟩
                · omega
                cases ec
                have hib : i - la.length < lb.length := by omega
                have e13 : IntKind.i64.wrap ((i : Int) - (la.length : Int)) = ((i - la.length : Nat) : Int) := by rw [wrap_i64 (by omega) (by omega)]; omega
                have qb := encs_get lb _ hib
                have bb : (i - la.length) * 6 + 6 ≤ (encs lb).length := by omega
                have hpe : l[i] = lb[i - la.length] := by simp only [hc3]; rw [List.getElem_append_right (by omega)]
                rw [hpe] at ql
                have hnia : la.length ≤ i := by omega
                simp [h41, hi, f5, f9, f11, hik, hia, hnia, e13, hib, hgc, hgl', bb, bl, qb, ql, -eqD_succ, eq_pc, hw1]
                omega
            · simp [h41, hi, f5, hik]
              refine (wk h5 hF34).mono ?_
              rintro _ h6 ⟨rfl, hF6⟩
              simp [hF6.one]
        · have e9 := e9 b4
          simp [h21, c, c1, c2', hx, hx9, b3, b4, e9, b5]
          refine wpd_loop (fun (i : Nat) fr h' => i ≤ l.length ∧ fr.get 8 = some (.int .i64 i) ∧ h' = h2 ∧ ∀ (j : Nat) (p : Pc), j < i → l[j]? = some p → ¬ (p.fm ≤ k ∧ k < p.to)) (fun i => l.length - i) 0 ⟨by omega, by simp, rfl, by simp⟩ ?_
          rintro i fr h' ⟨hil, hi, rfl, hno⟩ hf
          have g0 := hf 0 rfl
          have g1 := hf 1 rfl
          have g5 := hf 5 rfl
          have g6 := hf 6 rfl
          simp at g0 g1 g5 g6
          by_cases hik : i < l.length
          · have hsl0 := hsl
            rcases hsl0 with ⟨e, _⟩ | ⟨_, _, g, hgB, hgn, ea, hgg⟩
            · omega
            cases ea
            have b1 : i * 6 + 1 < (encs l).length := by omega
            have b2 : i * 6 + 2 < (encs l).length := by omega
            have r1 : (encs l)[i * 6 + 1]'b1 = .int .i64 l[i].fm := (List.getElem?_eq_some_iff.1 (encs_cell l i 1 hik (by decide))).2
            have r2 : (encs l)[i * 6 + 2]'b2 = .int .i64 l[i].to := (List.getElem?_eq_some_iff.1 (encs_cell l i 2 hik (by decide))).2
            have hw1 := wrap_succ (show i < 9223372036854775807 by omega)
            have hp : l[i]? = some l[i] := List.getElem?_eq_getElem hik
            obtain ⟨p, hpe⟩ : ∃ p, p = l[i] := ⟨_, rfl⟩
            rw [← hpe] at r1 r2 hp
            clear hpe
            obtain ⟨kd, fm, to, tx, rw', wh⟩ := p
            simp only at r1 r2
            by_cases q1 : fm ≤ k
            · by_cases q2 : k < to
              · simp [h21, hi, g0, g1, g5, hik, hgg, b1, b2, r1, r2, q1, q2]
                refine (wk h' (Fr.refl h21)).mono ?_
                rintro _ h3 ⟨rfl, hF3⟩
                simp [hF3.one]
              · simp [h21, hi, g0, g1, g5, hik, hgg, b1, b2, r1, r2, q1, q2, hw1]
                refine ⟨i + 1, by omega, by omega, rfl, fun j p hj hjp h5 => ?_⟩
                rcases Nat.lt_or_ge j i with h4 | h4
                · have := hno j p h4 hjp; omega
                · obtain rfl : j = i := by omega
                  rw [hp] at hjp; cases hjp; simp only at h5 ⊢; omega
            · simp [h21, hi, g0, g1, g5, hik, hgg, b1, b2, r1, r2, q1, hw1]
              refine ⟨i + 1, by omega, by omega, rfl, fun j p hj hjp h5 => ?_⟩
              rcases Nat.lt_or_ge j i with h4 | h4
              · have := hno j p h4 hjp; omega
              · obtain rfl : j = i := by omega
                rw [hp] at hjp; cases hjp; simp only at h5 ⊢; omega
          · have hiE : i = l.length := by omega
            subst hiE
            obtain ⟨hc1, hc2, hc3⟩ := hcut (fun p hp => by
              obtain ⟨j, hj, rfl⟩ := List.getElem_of_mem hp
              exact hno j _ hj (List.getElem?_eq_getElem hj))
            have hkl : k ≤ line.length := by omega
            simp [h21, hi, g0, g1, g5, hkl]
            refine (Read_sp (line.take k) 0 0 (by simp; omega) (by decide) h' h21 hgl (by omega)).mono ?_
            rintro _ h3 ⟨sb, rfl, hsb, hF3⟩
            have h31 := hF3.one
            have hg3 : Gl h3 := by unfold Gl; rw [hF3.get _ (by omega)]; exact hgl
            have hn3 := hF3.next
            simp [h31, g0, g1]
            refine (Read_sp line k 0 (by omega) (by decide) h3 h31 hg3 (by omega)).mono ?_
            rintro _ h4 ⟨sc, rfl, hsc, hF4⟩
            have h41 := hF4.one
            have hn4 := hF4.next
            have hF34 := hF3.trans (hF4.mono hn3)
            have hsb4 := hsb.of_get hn4 (fun g _ hg => hF4.get g hg)
            have hsl4 := hsl.of_get hF34.next (fun g _ hg => hF34.get g hg)
            rw [hc1, hc2]
            generalize (rdAt (line.take k) 0 0).1 = la at *
            generalize (rdAt line k 0).1 = lb at *
            obtain ⟨ab, rfl⟩ := hsb.slice
            obtain ⟨ac, rfl⟩ := hsc.slice
            have hLL : la.length + lb.length = l.length := by rw [hc3, List.length_append]
            have e12 : IntKind.i64.wrap ((la.length : Int) + (lb.length : Int)) = (l.length : Int) := by rw [wrap_i64 (by omega) (by omega)]; omega
            have lea := encs_length la
            have leb := encs_length lb
            simp [h41, g0, g1, g5, g6, e12]
            refine wpd_loop (fun (i : Nat) fr h' => i ≤ l.length ∧ fr.get 13 = some (.int .i64 i) ∧ h' = h4) (fun i => l.length - i) 0 ⟨by omega, by simp, rfl⟩ ?_
            rintro i fr2 h5 ⟨hil, hi, rfl⟩ hf2
            have f5 := hf2 5 rfl
            have f9 := hf2 9 rfl
            have f11 := hf2 11 rfl
            simp [g5] at f5 f9 f11
            by_cases hik : i < l.length
            · have hw1 := wrap_succ (show i < 9223372036854775807 by omega)
              rcases hsl4 with ⟨e, _⟩ | ⟨_, _, gl, _, _, el, hgl'⟩
              · omega
              cases el
              have ql := encs_get l i hik
              have bl : i * 6 + 6 ≤ (encs l).length := by omega
              by_cases hia : i < la.length
              · rcases hsb4 with ⟨e, _⟩ | ⟨_, _, ga, _, _, ea, hga⟩
                · omega
                cases ea
                have qa := encs_get la i hia
                have ba : i * 6 + 6 ≤ (encs la).length := by omega
                have hpe : l[i] = la[i] := by simp only [hc3]; rw [List.getElem_append_left hia]
                rw [hpe] at ql
                have hnia : ¬ la.length ≤ i := by omega
                simp [h41, hi, f5, f9, f11, hik, hia, hnia, hga, hgl', ba, bl, qa, ql, -eqD_succ, eq_pc, hw1]
                omega
              · rcases hsc with ⟨e, _⟩ | ⟨_, _, gc, _, _, ec, hgc⟩
                · omega
                cases ec
                have hib : i - la.length < lb.length := by omega
                have e13 : IntKind.i64.wrap ((i : Int) - (la.length : Int)) = ((i - la.length : Nat) : Int) := by rw [wrap_i64 (by omega) (by omega)]; omega
                have qb := encs_get lb _ hib
                have bb : (i - la.length) * 6 + 6 ≤ (encs lb).length := by omega
                have hpe : l[i] = lb[i - la.length] := by simp only [hc3]; rw [List.getElem_append_right (by omega)]
                rw [hpe] at ql
                have hnia : la.length ≤ i := by omega
                simp [h41, hi, f5, f9, f11, hik, hia, hnia, e13, hib, hgc, hgl', bb, bl, qb, ql, -eqD_succ, eq_pc, hw1]
                omega
            · simp [h41, hi, f5, hik]
              refine (wk h5 hF34).mono ?_
              rintro _ h6 ⟨rfl, hF6⟩
              simp [hF6.one]
      · rcases b4 with b4 | ⟨b4, b5⟩
        · simp [h21, c, c1, c2', hx, hx9, b3, b4]
          refine wpd_loop (fun (i : Nat) fr h' => i ≤ l.length ∧ fr.get 8 = some (.int .i64 i) ∧ h' = h2 ∧ ∀ (j : Nat) (p : Pc), j < i → l[j]? = some p → ¬ (p.fm ≤ k ∧ k < p.to)) (fun i => l.length - i) 0 ⟨by omega, by simp, rfl, by simp⟩ ?_
          rintro i fr h' ⟨hil, hi, rfl, hno⟩ hf
          have g0 := hf 0 rfl
          have g1 := hf 1 rfl
          have g5 := hf 5 rfl
          have g6 := hf 6 rfl
          simp at g0 g1 g5 g6
          by_cases hik : i < l.length
          · have hsl0 := hsl
            rcases hsl0 with ⟨e, _⟩ | ⟨_, _, g, hgB, hgn, ea, hgg⟩
            · omega
            cases ea
            have b1 : i * 6 + 1 < (encs l).length := by omega
            have b2 : i * 6 + 2 < (encs l).length := by omega
            have r1 : (encs l)[i * 6 + 1]'b1 = .int .i64 l[i].fm := (List.getElem?_eq_some_iff.1 (encs_cell l i 1 hik (by decide))).2
            have r2 : (encs l)[i * 6 + 2]'b2 = .int .i64 l[i].to := (List.getElem?_eq_some_iff.1 (encs_cell l i 2 hik (by decide))).2
            have hw1 := wrap_succ (show i < 9223372036854775807 by omega)
            have hp : l[i]? = some l[i] := List.getElem?_eq_getElem hik
            obtain ⟨p, hpe⟩ : ∃ p, p = l[i] := ⟨_, rfl⟩
            rw [← hpe] at r1 r2 hp
            clear hpe
            obtain ⟨kd, fm, to, tx, rw', wh⟩ := p
            simp only at r1 r2
            by_cases q1 : fm ≤ k
            · by_cases q2 : k < to
              · simp [h21, hi, g0, g1, g5, hik, hgg, b1, b2, r1, r2, q1, q2]
                refine (wk h' (Fr.refl h21)).mono ?_
                rintro _ h3 ⟨rfl, hF3⟩
                simp [hF3.one]
              · simp [h21, hi, g0, g1, g5, hik, hgg, b1, b2, r1, r2, q1, q2, hw1]
                refine ⟨i + 1, by omega, by omega, rfl, fun j p hj hjp h5 => ?_⟩
                rcases Nat.lt_or_ge j i with h4 | h4
                · have := hno j p h4 hjp; omega
                · obtain rfl : j = i := by omega
                  rw [hp] at hjp; cases hjp; simp only at h5 ⊢; omega
            · simp [h21, hi, g0, g1, g5, hik, hgg, b1, b2, r1, r2, q1, hw1]
              refine ⟨i + 1, by omega, by omega, rfl, fun j p hj hjp h5 => ?_⟩
              rcases Nat.lt_or_ge j i with h4 | h4
              · have := hno j p h4 hjp; omega
              · obtain rfl : j = i := by omega
                rw [hp] at hjp; cases hjp; simp only at h5 ⊢; omega
          · have hiE : i = l.length := by omega
            subst hiE
            obtain ⟨hc1, hc2, hc3⟩ := hcut (fun p hp => by
              obtain ⟨j, hj, rfl⟩ := List.getElem_of_mem hp
              exact hno j _ hj (List.getElem?_eq_getElem hj))
            have hkl : k ≤ line.length := by omega
            simp [h21, hi, g0, g1, g5, hkl]
            refine (Read_sp (line.take k) 0 0 (by simp; omega) (by decide) h' h21 hgl (by omega)).mono ?_
            rintro _ h3 ⟨sb, rfl, hsb, hF3⟩
            have h31 := hF3.one
            have hg3 : Gl h3 := by unfold Gl; rw [hF3.get _ (by omega)]; exact hgl
            have hn3 := hF3.next
            simp [h31, g0, g1]
            refine (Read_sp line k 0 (by omega) (by decide) h3 h31 hg3 (by omega)).mono ?_
            rintro _ h4 ⟨sc, rfl, hsc, hF4⟩
            have h41 := hF4.one
            have hn4 := hF4.next
            have hF34 := hF3.trans (hF4.mono hn3)
            have hsb4 := hsb.of_get hn4 (fun g _ hg => hF4.get g hg)
            have hsl4 := hsl.of_get hF34.next (fun g _ hg => hF34.get g hg)
            rw [hc1, hc2]
            generalize (rdAt (line.take k) 0 0).1 = la at *
            generalize (rdAt line k 0).1 = lb at *
            obtain ⟨ab, rfl⟩ := hsb.slice
            obtain ⟨ac, rfl⟩ := hsc.slice
            have hLL : la.length + lb.length = l.length := by rw [hc3, List.length_append]
            have e12 : IntKind.i64.wrap ((la.length : Int) + (lb.length : Int)) = (l.length : Int) := by rw [wrap_i64 (by omega) (by omega)]; omega
            have lea := encs_length la
            have leb := encs_length lb
            simp [h41, g0, g1, g5, g6, e12]
            refine wpd_loop (fun (i : Nat) fr h' => i ≤ l.length ∧ fr.get 13 = some (.int .i64 i) ∧ h' = h4) (fun i => l.length - i) 0 ⟨by omega, by simp, rfl⟩ ?_
            rintro i fr2 h5 ⟨hil, hi, rfl⟩ hf2
            have f5 := hf2 5 rfl
            have f9 := hf2 9 rfl
            have f11 := hf2 11 rfl
            simp [g5] at f5 f9 f11
            by_cases hik : i < l.length
            · have hw1 := wrap_succ (show i < 9223372036854775807 by omega)
              rcases hsl4 with ⟨e, _⟩ | ⟨_, _, gl, _, _, el, hgl'⟩
              · omega
              cases el
              have ql := encs_get l i hik
              have bl : i * 6 + 6 ≤ (encs l).length := by omega
              by_cases hia : i < la.length
              · rcases hsb4 with ⟨e, _⟩ | ⟨_, _, ga, _, _, ea, hga⟩
                · omega
                cases ea
                have qa := encs_get la i hia
                have ba : i * 6 + 6 ≤ (encs la).length := by omega
                have hpe : l[i] = la[i] := by simp only [hc3]; rw [List.getElem_append_left hia]
                rw [hpe] at ql
                have hnia : ¬ la.length ≤ i := by omega
                simp [h41, hi, f5, f9, f11, hik, hia, hnia, hga, hgl', ba, bl, qa, ql, -eqD_succ, eq_pc, hw1]
                omega
              · rcases hsc with ⟨e, _⟩ | ⟨_, _, gc, _, _, ec, hgc⟩
                · omega
                cases ec
                have hib : i - la.length < lb.length := by omega
                have e13 : IntKind.i64.wrap ((i : Int) - (la.length : Int)) = ((i - la.length : Nat) : Int) := by rw [wrap_i64 (by omega) (by omega)]; omega
                have qb := encs_get lb _ hib
                have bb : (i - la.length) * 6 + 6 ≤ (encs lb).length := by omega
                have hpe : l[i] = lb[i - la.length] := by simp only [hc3]; rw [List.getElem_append_right (by omega)]
                rw [hpe] at ql
                have hnia : la.length ≤ i := by omega
                simp [h41, hi, f5, f9, f11, hik, hia, hnia, e13, hib, hgc, hgl', bb, bl, qb, ql, -eqD_succ, eq_pc, hw1]
                omega
            · simp [h41, hi, f5, hik]
              refine (wk h5 hF34).mono ?_
              rintro _ h6 ⟨rfl, hF6⟩
              simp [hF6.one]
        · have e9 := e9 b4
          simp [h21, c, c1, c2', hx, hx9, b3, b4, e9, b5]
          refine wpd_loop (fun (i : Nat) fr h' => i ≤ l.length ∧ fr.get 8 = some (.int .i64 i) ∧ h' = h2 ∧ ∀ (j : Nat) (p : Pc), j < i → l[j]? = some p → ¬ (p.fm ≤ k ∧ k < p.to)) (fun i => l.length - i) 0 ⟨by omega, by simp, rfl, by simp⟩ ?_
          rintro i fr h' ⟨hil, hi, rfl, hno⟩ hf
          have g0 := hf 0 rfl
          have g1 := hf 1 rfl
          have g5 := hf 5 rfl
          have g6 := hf 6 rfl
          simp at g0 g1 g5 g6
          by_cases hik : i < l.length
          · have hsl0 := hsl
            rcases hsl0 with ⟨e, _⟩ | ⟨_, _, g, hgB, hgn, ea, hgg⟩
            · omega
            cases ea
            have b1 : i * 6 + 1 < (encs l).length := by omega
            have b2 : i * 6 + 2 < (encs l).length := by omega
            have r1 : (encs l)[i * 6 + 1]'b1 = .int .i64 l[i].fm := (List.getElem?_eq_some_iff.1 (encs_cell l i 1 hik (by decide))).2
            have r2 : (encs l)[i * 6 + 2]'b2 = .int .i64 l[i].to := (List.getElem?_eq_some_iff.1 (encs_cell l i 2 hik (by decide))).2
            have hw1 := wrap_succ (show i < 9223372036854775807 by omega)
            have hp : l[i]? = some l[i] := List.getElem?_eq_getElem hik
            obtain ⟨p, hpe⟩ : ∃ p, p = l[i] := ⟨_, rfl⟩
            rw [← hpe] at r1 r2 hp
            clear hpe
            obtain ⟨kd, fm, to, tx, rw', wh⟩ := p
            simp only at r1 r2
            by_cases q1 : fm ≤ k
            · by_cases q2 : k < to
              · simp [h21, hi, g0, g1, g5, hik, hgg, b1, b2, r1, r2, q1, q2]
                refine (wk h' (Fr.refl h21)).mono ?_
                rintro _ h3 ⟨rfl, hF3⟩
                simp [hF3.one]
              · simp [h21, hi, g0, g1, g5, hik, hgg, b1, b2, r1, r2, q1, q2, hw1]
                refine ⟨i + 1, by omega, by omega, rfl, fun j p hj hjp h5 => ?_⟩
                rcases Nat.lt_or_ge j i with h4 | h4
                · have := hno j p h4 hjp; omega
                · obtain rfl : j = i := by omega
                  rw [hp] at hjp; cases hjp; simp only at h5 ⊢; omega
            · simp [h21, hi, g0, g1, g5, hik, hgg, b1, b2, r1, r2, q1, hw1]
              refine ⟨i + 1, by omega, by omega, rfl, fun j p hj hjp h5 => ?_⟩
              rcases Nat.lt_or_ge j i with h4 | h4
              · have := hno j p h4 hjp; omega
              · obtain rfl : j = i := by omega
                rw [hp] at hjp; cases hjp; simp only at h5 ⊢; omega
          · have hiE : i = l.length := by omega
            subst hiE
            obtain ⟨hc1, hc2, hc3⟩ := hcut (fun p hp => by
              obtain ⟨j, hj, rfl⟩ := List.getElem_of_mem hp
              exact hno j _ hj (List.getElem?_eq_getElem hj))
            have hkl : k ≤ line.length := by omega
            simp [h21, hi, g0, g1, g5, hkl]
            refine (Read_sp (line.take k) 0 0 (by simp; omega) (by decide) h' h21 hgl (by omega)).mono ?_
            rintro _ h3 ⟨sb, rfl, hsb, hF3⟩
            have h31 := hF3.one
            have hg3 : Gl h3 := by unfold Gl; rw [hF3.get _ (by omega)]; exact hgl
            have hn3 := hF3.next
            simp [h31, g0, g1]
            refine (Read_sp line k 0 (by omega) (by decide) h3 h31 hg3 (by omega)).mono ?_
            rintro _ h4 ⟨sc, rfl, hsc, hF4⟩
            have h41 := hF4.one
            have hn4 := hF4.next
            have hF34 := hF3.trans (hF4.mono hn3)
            have hsb4 := hsb.of_get hn4 (fun g _ hg => hF4.get g hg)
            have hsl4 := hsl.of_get hF34.next (fun g _ hg => hF34.get g hg)
            rw [hc1, hc2]
            generalize (rdAt (line.take k) 0 0).1 = la at *
            generalize (rdAt line k 0).1 = lb at *
            obtain ⟨ab, rfl⟩ := hsb.slice
            obtain ⟨ac, rfl⟩ := hsc.slice
            have hLL : la.length + lb.length = l.length := by rw [hc3, List.length_append]
            have e12 : IntKind.i64.wrap ((la.length : Int) + (lb.length : Int)) = (l.length : Int) := by rw [wrap_i64 (by omega) (by omega)]; omega
            have lea := encs_length la
            have leb := encs_length lb
            simp [h41, g0, g1, g5, g6, e12]
            refine wpd_loop (fun (i : Nat) fr h' => i ≤ l.length ∧ fr.get 13 = some (.int .i64 i) ∧ h' = h4) (fun i => l.length - i) 0 ⟨by omega, by simp, rfl⟩ ?_
            rintro i fr2 h5 ⟨hil, hi, rfl⟩ hf2
            have f5 := hf2 5 rfl
            have f9 := hf2 9 rfl
            have f11 := hf2 11 rfl
            simp [g5] at f5 f9 f11
            by_cases hik : i < l.length
            · have hw1 := wrap_succ (show i < 9223372036854775807 by omega)
              rcases hsl4 with ⟨e, _⟩ | ⟨_, _, gl, _, _, el, hgl'⟩
              · omega
              cases el
              have ql := encs_get l i hik
              have bl : i * 6 + 6 ≤ (encs l).length := by omega
              by_cases hia : i < la.length
              · rcases hsb4 with ⟨e, _⟩ | ⟨_, _, ga, _, _, ea, hga⟩
                · omega
                cases ea
                have qa := encs_get la i hia
                have ba : i * 6 + 6 ≤ (encs la).length := by omega
                have hpe : l[i] = la[i] := by simp only [hc3]; rw [List.getElem_append_left hia]
                rw [hpe] at ql
                have hnia : ¬ la.length ≤ i := by omega
                simp [h41, hi, f5, f9, f11, hik, hia, hnia, hga, hgl', ba, bl, qa, ql, -eqD_succ, eq_pc, hw1]
                omega
              · rcases hsc with ⟨e, _⟩ | ⟨_, _, gc, _, _, ec, hgc⟩
                · omega
                cases ec
                have hib : i - la.length < lb.length := by omega
                have e13 : IntKind.i64.wrap ((i : Int) - (la.length : Int)) = ((i - la.length : Nat) : Int) := by rw [wrap_i64 (by omega) (by omega)]; omega
                have qb := encs_get lb _ hib
                have bb : (i - la.length) * 6 + 6 ≤ (encs lb).length := by omega
                have hpe : l[i] = lb[i - la.length] := by simp only [hc3]; rw [List.getElem_append_right (by omega)]
                rw [hpe] at ql
                have hnia : la.length ≤ i := by omega
                simp [h41, hi, f5, f9, f11, hik, hia, hnia, e13, hib, hgc, hgl', bb, bl, qb, ql, -eqD_succ, eq_pc, hw1]
                omega
            · simp [h41, hi, f5, hik]
              refine (wk h5 hF34).mono ?_
              rintro _ h6 ⟨rfl, hF6⟩
              simp [hF6.one]
    · obtain ⟨ad, rfl⟩ := hsl.slice
      by_cases c1 : a < 0
      · simp [h21, c, e1 c, hx1 c, d, c1]
        refine (wk h2 (Fr.refl h21)).mono ?_
        rintro _ h3 ⟨rfl, hF3⟩
        simp [hF3.one]
      obtain ⟨k, rfl⟩ : ∃ n : Nat, a = n := ⟨a.toNat, by omega⟩
      by_cases c2 : ctnN line ≤ k
      · rw [hn] at c2
        simp [h21, c, e1 c, hx1 c, d, c1, c2]
        refine (wk h2 (Fr.refl h21)).mono ?_
        rintro _ h3 ⟨rfl, hF3⟩
        simp [hF3.one]
      have c2' := c2
      rw [hn] at c2'
      have hk : k < line.length := by omega
      have hx := idxB_nat hk
      by_cases hbl : isBl (bt line k) = true
      case neg =>
        have b1 : ¬ (bt line k).toNat = 32 := fun e => hbl (by simp [isBl, e])
        have b2 : ¬ (bt line k).toNat = 9 := fun e => hbl (by simp [isBl, e])
        simp [h21, c, e1 c, hx1 c, d, c1, c2', hx, b1, b2]
        refine (wk h2 (Fr.refl h21)).mono ?_
        rintro _ h3 ⟨rfl, hF3⟩
        simp [hF3.one]
      have e9 : 0 < k → IntKind.i64.wrap ((k : Int) - 1) = ((k - 1 : Nat) : Int) := fun c => by rw [wrap_i64 (by omega) (by omega)]; omega
      have hx9 : idxB line ((k - 1 : Nat) : Int) = some (.int .u8 (bt line (k - 1)).toNat) := idxB_nat (by omega)
      by_cases h10 : 0 < k ∧ (bt line (k - 1)).toNat = 10
      · have hk0 := h10.1
        have hk9 := h10.2
        have e9 := e9 hk0
        by_cases b1 : (bt line k).toNat = 32
        · simp [h21, c, e1 c, hx1 c, d, c1, c2', hx, b1, hk0, e9, hx9, hk9]
          refine (wk h2 (Fr.refl h21)).mono ?_
          rintro _ h3 ⟨rfl, hF3⟩
          simp [hF3.one]
        · have b2 : (bt line k).toNat = 9 := by simp [isBl, b1] at hbl; exact hbl
          simp [h21, c, e1 c, hx1 c, d, c1, c2', hx, b1, b2, hk0, e9, hx9, hk9]
          refine (wk h2 (Fr.refl h21)).mono ?_
          rintro _ h3 ⟨rfl, hF3⟩
          simp [hF3.one]
      have hcut := hcut k (by omega) hbl (fun h h' => h10 ⟨h, h'⟩)
      have b3 : (bt line k).toNat = 32 ∨ (bt line k).toNat = 9 := by simpa [isBl] using hbl
      have b4 : ¬ 0 < k ∨ (0 < k ∧ ¬ (bt line (k - 1)).toNat = 10) := by
        rcases Nat.eq_zero_or_pos k with e | e
        · exact .inl (by omega)
        · exact .inr ⟨e, fun h' => h10 ⟨e, h'⟩⟩
      rcases b3 with b3 | b3
      · rcases b4 with b4 | ⟨b4, b5⟩
        · simp [h21, c, e1 c, hx1 c, d, c1, c2', hx, hx9, b3, b4]
          refine wpd_loop (fun (i : Nat) fr h' => i ≤ l.length ∧ fr.get 8 = some (.int .i64 i) ∧ h' = h2 ∧ ∀ (j : Nat) (p : Pc), j < i → l[j]? = some p → ¬ (p.fm ≤ k ∧ k < p.to)) (fun i => l.length - i) 0 ⟨by omega, by simp, rfl, by simp⟩ ?_
          rintro i fr h' ⟨hil, hi, rfl, hno⟩ hf
          have g0 := hf 0 rfl
          have g1 := hf 1 rfl
          have g5 := hf 5 rfl
          have g6 := hf 6 rfl
          simp at g0 g1 g5 g6
          by_cases hik : i < l.length
          · have hsl0 := hsl
            rcases hsl0 with ⟨e, _⟩ | ⟨_, _, g, hgB, hgn, ea, hgg⟩
            · omega
            cases ea
            have b1 : i * 6 + 1 < (encs l).length := by omega
            have b2 : i * 6 + 2 < (encs l).length := by omega
            have r1 : (encs l)[i * 6 + 1]'b1 = .int .i64 l[i].fm := (List.getElem?_eq_some_iff.1 (encs_cell l i 1 hik (by decide))).2
            have r2 : (encs l)[i * 6 + 2]'b2 = .int .i64 l[i].to := (List.getElem?_eq_some_iff.1 (encs_cell l i 2 hik (by decide))).2
            have hw1 := wrap_succ (show i < 9223372036854775807 by omega)
            have hp : l[i]? = some l[i] := List.getElem?_eq_getElem hik
            obtain ⟨p, hpe⟩ : ∃ p, p = l[i] := ⟨_, rfl⟩
            rw [← hpe] at r1 r2 hp
            clear hpe
            obtain ⟨kd, fm, to, tx, rw', wh⟩ := p
            simp only at r1 r2
            by_cases q1 : fm ≤ k
            · by_cases q2 : k < to
              · simp [h21, hi, g0, g1, g5, hik, hgg, b1, b2, r1, r2, q1, q2]
                refine (wk h' (Fr.refl h21)).mono ?_
                rintro _ h3 ⟨rfl, hF3⟩
                simp [hF3.one]
              · simp [h21, hi, g0, g1, g5, hik, hgg, b1, b2, r1, r2, q1, q2, hw1]
                refine ⟨i + 1, by omega, by omega, rfl, fun j p hj hjp h5 => ?_⟩
                rcases Nat.lt_or_ge j i with h4 | h4
                · have := hno j p h4 hjp; omega
                · obtain rfl : j = i := by omega
                  rw [hp] at hjp; cases hjp; simp only at h5 ⊢; omega
            · simp [h21, hi, g0, g1, g5, hik, hgg, b1, b2, r1, r2, q1, hw1]
              refine ⟨i + 1, by omega, by omega, rfl, fun j p hj hjp h5 => ?_⟩
              rcases Nat.lt_or_ge j i with h4 | h4
              · have := hno j p h4 hjp; omega
              · obtain rfl : j = i := by omega
                rw [hp] at hjp; cases hjp; simp only at h5 ⊢; omega
          · have hiE : i = l.length := by omega
            subst hiE
            obtain ⟨hc1, hc2, hc3⟩ := hcut (fun p hp => by
              obtain ⟨j, hj, rfl⟩ := List.getElem_of_mem hp
              exact hno j _ hj (List.getElem?_eq_getElem hj))
            have hkl : k ≤ line.length := by omega
            simp [h21, hi, g0, g1, g5, hkl]
            refine (Read_sp (line.take k) 0 0 (by simp; omega) (by decide) h' h21 hgl (by omega)).mono ?_
            rintro _ h3 ⟨sb, rfl, hsb, hF3⟩
            have h31 := hF3.one
            have hg3 : Gl h3 := by unfold Gl; rw [hF3.get _ (by omega)]; exact hgl
            have hn3 := hF3.next
            simp [h31, g0, g1]
            refine (Read_sp line k 0 (by omega) (by decide) h3 h31 hg3 (by omega)).mono ?_
            rintro _ h4 ⟨sc, rfl, hsc, hF4⟩
            have h41 := hF4.one
            have hn4 := hF4.next
            have hF34 := hF3.trans (hF4.mono hn3)
            have hsb4 := hsb.of_get hn4 (fun g _ hg => hF4.get g hg)
            have hsl4 := hsl.of_get hF34.next (fun g _ hg => hF34.get g hg)
            rw [hc1, hc2]
            generalize (rdAt (line.take k) 0 0).1 = la at *
            generalize (rdAt line k 0).1 = lb at *
            obtain ⟨ab, rfl⟩ := hsb.slice
            obtain ⟨ac, rfl⟩ := hsc.slice
            have hLL : la.length + lb.length = l.length := by rw [hc3, List.length_append]
            have e12 : IntKind.i64.wrap ((la.length : Int) + (lb.length : Int)) = (l.length : Int) := by rw [wrap_i64 (by omega) (by omega)]; omega
            have lea := encs_length la
            have leb := encs_length lb
            simp [h41, g0, g1, g5, g6, e12]
            refine wpd_loop (fun (i : Nat) fr h' => i ≤ l.length ∧ fr.get 13 = some (.int .i64 i) ∧ h' = h4) (fun i => l.length - i) 0 ⟨by omega, by simp, rfl⟩ ?_
            rintro i fr2 h5 ⟨hil, hi, rfl⟩ hf2
            have f5 := hf2 5 rfl
            have f9 := hf2 9 rfl
            have f11 := hf2 11 rfl
            simp [g5] at f5 f9 f11
            by_cases hik : i < l.length
            · have hw1 := wrap_succ (show i < 9223372036854775807 by omega)
              rcases hsl4 with ⟨e, _⟩ | ⟨_, _, gl, _, _, el, hgl'⟩
              · omega
              cases el
              have ql := encs_get l i hik
              have bl : i * 6 + 6 ≤ (encs l).length := by omega
              by_cases hia : i < la.length
              · rcases hsb4 with ⟨e, _⟩ | ⟨_, _, ga, _, _, ea, hga⟩
                · omega
                cases ea
                have qa := encs_get la i hia
                have ba : i * 6 + 6 ≤ (encs la).length := by omega
                have hpe : l[i] = la[i] := by simp only [hc3]; rw [List.getElem_append_left hia]
                rw [hpe] at ql
                have hnia : ¬ la.length ≤ i := by omega
                simp [h41, hi, f5, f9, f11, hik, hia, hnia, hga, hgl', ba, bl, qa, ql, -eqD_succ, eq_pc, hw1]
                omega
              · rcases hsc with ⟨e, _⟩ | ⟨_, _, gc, _, _, ec, hgc⟩
                · omega
                cases ec
                have hib : i - la.length < lb.length := by omega
                have e13 : IntKind.i64.wrap ((i : Int) - (la.length : Int)) = ((i - la.length : Nat) : Int) := by rw [wrap_i64 (by omega) (by omega)]; omega
                have qb := encs_get lb _ hib
                have bb : (i - la.length) * 6 + 6 ≤ (encs lb).length := by omega
                have hpe : l[i] = lb[i - la.length] := by simp only [hc3]; rw [List.getElem_append_right (by omega)]
                rw [hpe] at ql
                have hnia : la.length ≤ i := by omega
                simp [h41, hi, f5, f9, f11, hik, hia, hnia, e13, hib, hgc, hgl', bb, bl, qb, ql, -eqD_succ, eq_pc, hw1]
                omega
            · simp [h41, hi, f5, hik]
              refine (wk h5 hF34).mono ?_
              rintro _ h6 ⟨rfl, hF6⟩
              simp [hF6.one]
        · have e9 := e9 b4
          simp [h21, c, e1 c, hx1 c, d, c1, c2', hx, hx9, b3, b4, e9, b5]
          refine wpd_loop (fun (i : Nat) fr h' => i ≤ l.length ∧ fr.get 8 = some (.int .i64 i) ∧ h' = h2 ∧ ∀ (j : Nat) (p : Pc), j < i → l[j]? = some p → ¬ (p.fm ≤ k ∧ k < p.to)) (fun i => l.length - i) 0 ⟨by omega, by simp, rfl, by simp⟩ ?_
          rintro i fr h' ⟨hil, hi, rfl, hno⟩ hf
          have g0 := hf 0 rfl
          have g1 := hf 1 rfl
          have g5 := hf 5 rfl
          have g6 := hf 6 rfl
          simp at g0 g1 g5 g6
          by_cases hik : i < l.length
          · have hsl0 := hsl
            rcases hsl0 with ⟨e, _⟩ | ⟨_, _, g, hgB, hgn, ea, hgg⟩
            · omega
            cases ea
            have b1 : i * 6 + 1 < (encs l).length := by omega
            have b2 : i * 6 + 2 < (encs l).length := by omega
            have r1 : (encs l)[i * 6 + 1]'b1 = .int .i64 l[i].fm := (List.getElem?_eq_some_iff.1 (encs_cell l i 1 hik (by decide))).2
            have r2 : (encs l)[i * 6 + 2]'b2 = .int .i64 l[i].to := (List.getElem?_eq_some_iff.1 (encs_cell l i 2 hik (by decide))).2
            have hw1 := wrap_succ (show i < 9223372036854775807 by omega)
            have hp : l[i]? = some l[i] := List.getElem?_eq_getElem hik
            obtain ⟨p, hpe⟩ : ∃ p, p = l[i] := ⟨_, rfl⟩
            rw [← hpe] at r1 r2 hp
            clear hpe
            obtain ⟨kd, fm, to, tx, rw', wh⟩ := p
            simp only at r1 r2
            by_cases q1 : fm ≤ k
            · by_cases q2 : k < to
              · simp [h21, hi, g0, g1, g5, hik, hgg, b1, b2, r1, r2, q1, q2]
                refine (wk h' (Fr.refl h21)).mono ?_
                rintro _ h3 ⟨rfl, hF3⟩
                simp [hF3.one]
              · simp [h21, hi, g0, g1, g5, hik, hgg, b1, b2, r1, r2, q1, q2, hw1]
                refine ⟨i + 1, by omega, by omega, rfl, fun j p hj hjp h5 => ?_⟩
                rcases Nat.lt_or_ge j i with h4 | h4
                · have := hno j p h4 hjp; omega
                · obtain rfl : j = i := by omega
                  rw [hp] at hjp; cases hjp; simp only at h5 ⊢; omega
            · simp [h21, hi, g0, g1, g5, hik, hgg, b1, b2, r1, r2, q1, hw1]
              refine ⟨i + 1, by omega, by omega, rfl, fun j p hj hjp h5 => ?_⟩
              rcases Nat.lt_or_ge j i with h4 | h4
              · have := hno j p h4 hjp; omega
              · obtain rfl : j = i := by omega
                rw [hp] at hjp; cases hjp; simp only at h5 ⊢; omega
          · have hiE : i = l.length := by omega
            subst hiE
            obtain ⟨hc1, hc2, hc3⟩ := hcut (fun p hp => by
              obtain ⟨j, hj, rfl⟩ := List.getElem_of_mem hp
              exact hno j _ hj (List.getElem?_eq_getElem hj))
            have hkl : k ≤ line.length := by omega
            simp [h21, hi, g0, g1, g5, hkl]
            refine (Read_sp (line.take k) 0 0 (by simp; omega) (by decide) h' h21 hgl (by omega)).mono ?_
            rintro _ h3 ⟨sb, rfl, hsb, hF3⟩
            have h31 := hF3.one
            have hg3 : Gl h3 := by unfold Gl; rw [hF3.get _ (by omega)]; exact hgl
            have hn3 := hF3.next
            simp [h31, g0, g1]
            refine (Read_sp line k 0 (by omega) (by decide) h3 h31 hg3 (by omega)).mono ?_
            rintro _ h4 ⟨sc, rfl, hsc, hF4⟩
            have h41 := hF4.one
            have hn4 := hF4.next
            have hF34 := hF3.trans (hF4.mono hn3)
            have hsb4 := hsb.of_get hn4 (fun g _ hg => hF4.get g hg)
            have hsl4 := hsl.of_get hF34.next (fun g _ hg => hF34.get g hg)
            rw [hc1, hc2]
            generalize (rdAt (line.take k) 0 0).1 = la at *
            generalize (rdAt line k 0).1 = lb at *
            obtain ⟨ab, rfl⟩ := hsb.slice
            obtain ⟨ac, rfl⟩ := hsc.slice
            have hLL : la.length + lb.length = l.length := by rw [hc3, List.length_append]
            have e12 : IntKind.i64.wrap ((la.length : Int) + (lb.length : Int)) = (l.length : Int) := by rw [wrap_i64 (by omega) (by omega)]; omega
            have lea := encs_length la
            have leb := encs_length lb
            simp [h41, g0, g1, g5, g6, e12]
            refine wpd_loop (fun (i : Nat) fr h' => i ≤ l.length ∧ fr.get 13 = some (.int .i64 i) ∧ h' = h4) (fun i => l.length - i) 0 ⟨by omega, by simp, rfl⟩ ?_
            rintro i fr2 h5 ⟨hil, hi, rfl⟩ hf2
            have f5 := hf2 5 rfl
            have f9 := hf2 9 rfl
            have f11 := hf2 11 rfl
            simp [g5] at f5 f9 f11
            by_cases hik : i < l.length
            · have hw1 := wrap_succ (show i < 9223372036854775807 by omega)
              rcases hsl4 with ⟨e, _⟩ | ⟨_, _, gl, _, _, el, hgl'⟩
              · omega
              cases el
              have ql := encs_get l i hik
              have bl : i * 6 + 6 ≤ (encs l).length := by omega
              by_cases hia : i < la.length
              · rcases hsb4 with ⟨e, _⟩ | ⟨_, _, ga, _, _, ea, hga⟩
                · omega
                cases ea
                have qa := encs_get la i hia
                have ba : i * 6 + 6 ≤ (encs la).length := by omega
                have hpe : l[i] = la[i] := by simp only [hc3]; rw [List.getElem_append_left hia]
                rw [hpe] at ql
                have hnia : ¬ la.length ≤ i := by omega
                simp [h41, hi, f5, f9, f11, hik, hia, hnia, hga, hgl', ba, bl, qa, ql, -eqD_succ, eq_pc, hw1]
                omega
              · rcases hsc with ⟨e, _⟩ | ⟨_, _, gc, _, _, ec, hgc⟩
                · omega
                cases ec
                have hib : i - la.length < lb.length := by omega
                have e13 : IntKind.i64.wrap ((i : Int) - (la.length : Int)) = ((i - la.length : Nat) : Int) := by rw [wrap_i64 (by omega) (by omega)]; omega
                have qb := encs_get lb _ hib
                have bb : (i - la.length) * 6 + 6 ≤ (encs lb).length := by omega
                have hpe : l[i] = lb[i - la.length] := by simp only [hc3]; rw [List.getElem_append_right (by omega)]
                rw [hpe] at ql
                have hnia : la.length ≤ i := by omega
                simp [h41, hi, f5, f9, f11, hik, hia, hnia, e13, hib, hgc, hgl', bb, bl, qb, ql, -eqD_succ, eq_pc, hw1]
                omega
            · simp [h41, hi, f5, hik]
              refine (wk h5 hF34).mono ?_
              rintro _ h6 ⟨rfl, hF6⟩
              simp [hF6.one]
      · rcases b4 with b4 | ⟨b4, b5⟩
        · simp [h21, c, e1 c, hx1 c, d, c1, c2', hx, hx9, b3, b4]
          refine wpd_loop (fun (i : Nat) fr h' => i ≤ l.length ∧ fr.get 8 = some (.int .i64 i) ∧ h' = h2 ∧ ∀ (j : Nat) (p : Pc), j < i → l[j]? = some p → ¬ (p.fm ≤ k ∧ k < p.to)) (fun i => l.length - i) 0 ⟨by omega, by simp, rfl, by simp⟩ ?_
          rintro i fr h' ⟨hil, hi, rfl, hno⟩ hf
          have g0 := hf 0 rfl
          have g1 := hf 1 rfl
          have g5 := hf 5 rfl
          have g6 := hf 6 rfl
          simp at g0 g1 g5 g6
          by_cases hik : i < l.length
          · have hsl0 := hsl
            rcases hsl0 with ⟨e, _⟩ | ⟨_, _, g, hgB, hgn, ea, hgg⟩
            · omega
            cases ea
            have b1 : i * 6 + 1 < (encs l).length := by omega
            have b2 : i * 6 + 2 < (encs l).length := by omega
            have r1 : (encs l)[i * 6 + 1]'b1 = .int .i64 l[i].fm := (List.getElem?_eq_some_iff.1 (encs_cell l i 1 hik (by decide))).2
            have r2 : (encs l)[i * 6 + 2]'b2 = .int .i64 l[i].to := (List.getElem?_eq_some_iff.1 (encs_cell l i 2 hik (by decide))).2
            have hw1 := wrap_succ (show i < 9223372036854775807 by omega)
            have hp : l[i]? = some l[i] := List.getElem?_eq_getElem hik
            obtain ⟨p, hpe⟩ : ∃ p, p = l[i] := ⟨_, rfl⟩
            rw [← hpe] at r1 r2 hp
            clear hpe
            obtain ⟨kd, fm, to, tx, rw', wh⟩ := p
            simp only at r1 r2
            by_cases q1 : fm ≤ k
            · by_cases q2 : k < to
              · simp [h21, hi, g0, g1, g5, hik, hgg, b1, b2, r1, r2, q1, q2]
                refine (wk h' (Fr.refl h21)).mono ?_
                rintro _ h3 ⟨rfl, hF3⟩
                simp [hF3.one]
              · simp [h21, hi, g0, g1, g5, hik, hgg, b1, b2, r1, r2, q1, q2, hw1]
                refine ⟨i + 1, by omega, by omega, rfl, fun j p hj hjp h5 => ?_⟩
                rcases Nat.lt_or_ge j i with h4 | h4
                · have := hno j p h4 hjp; omega
                · obtain rfl : j = i := by omega
                  rw [hp] at hjp; cases hjp; simp only at h5 ⊢; omega
            · simp [h21, hi, g0, g1, g5, hik, hgg, b1, b2, r1, r2, q1, hw1]
              refine ⟨i + 1, by omega, by omega, rfl, fun j p hj hjp h5 => ?_⟩
              rcases Nat.lt_or_ge j i with h4 | h4
              · have := hno j p h4 hjp; omega
              · obtain rfl : j = i := by omega
                rw [hp] at hjp; cases hjp; simp only at h5 ⊢; omega
          · have hiE : i = l.length := by omega
            subst hiE
            obtain ⟨hc1, hc2, hc3⟩ := hcut (fun p hp => by
              obtain ⟨j, hj, rfl⟩ := List.getElem_of_mem hp
              exact hno j _ hj (List.getElem?_eq_getElem hj))
            have hkl : k ≤ line.length := by omega
            simp [h21, hi, g0, g1, g5, hkl]
            refine (Read_sp (line.take k) 0 0 (by simp; omega) (by decide) h' h21 hgl (by omega)).mono ?_
            rintro _ h3 ⟨sb, rfl, hsb, hF3⟩
            have h31 := hF3.one
            have hg3 : Gl h3 := by unfold Gl; rw [hF3.get _ (by omega)]; exact hgl
            have hn3 := hF3.next
            simp [h31, g0, g1]
            refine (Read_sp line k 0 (by omega) (by decide) h3 h31 hg3 (by omega)).mono ?_
            rintro _ h4 ⟨sc, rfl, hsc, hF4⟩
            have h41 := hF4.one
            have hn4 := hF4.next
            have hF34 := hF3.trans (hF4.mono hn3)
            have hsb4 := hsb.of_get hn4 (fun g _ hg => hF4.get g hg)
            have hsl4 := hsl.of_get hF34.next (fun g _ hg => hF34.get g hg)
            rw [hc1, hc2]
            generalize (rdAt (line.take k) 0 0).1 = la at *
            generalize (rdAt line k 0).1 = lb at *
            obtain ⟨ab, rfl⟩ := hsb.slice
            obtain ⟨ac, rfl⟩ := hsc.slice
            have hLL : la.length + lb.length = l.length := by rw [hc3, List.length_append]
            have e12 : IntKind.i64.wrap ((la.length : Int) + (lb.length : Int)) = (l.length : Int) := by rw [wrap_i64 (by omega) (by omega)]; omega
            have lea := encs_length la
            have leb := encs_length lb
            simp [h41, g0, g1, g5, g6, e12]
            refine wpd_loop (fun (i : Nat) fr h' => i ≤ l.length ∧ fr.get 13 = some (.int .i64 i) ∧ h' = h4) (fun i => l.length - i) 0 ⟨by omega, by simp, rfl⟩ ?_
            rintro i fr2 h5 ⟨hil, hi, rfl⟩ hf2
            have f5 := hf2 5 rfl
            have f9 := hf2 9 rfl
            have f11 := hf2 11 rfl
            simp [g5] at f5 f9 f11
            by_cases hik : i < l.length
            · have hw1 := wrap_succ (show i < 9223372036854775807 by omega)
              rcases hsl4 with ⟨e, _⟩ | ⟨_, _, gl, _, _, el, hgl'⟩
              · omega
              cases el
              have ql := encs_get l i hik
              have bl : i * 6 + 6 ≤ (encs l).length := by omega
              by_cases hia : i < la.length
              · rcases hsb4 with ⟨e, _⟩ | ⟨_, _, ga, _, _, ea, hga⟩
                · omega
                cases ea
                have qa := encs_get la i hia
                have ba : i * 6 + 6 ≤ (encs la).length := by omega
                have hpe : l[i] = la[i] := by simp only [hc3]; rw [List.getElem_append_left hia]
                rw [hpe] at ql
                have hnia : ¬ la.length ≤ i := by omega
                simp [h41, hi, f5, f9, f11, hik, hia, hnia, hga, hgl', ba, bl, qa, ql, -eqD_succ, eq_pc, hw1]
                omega
              · rcases hsc with ⟨e, _⟩ | ⟨_, _, gc, _, _, ec, hgc⟩
                · omega
                cases ec
                have hib : i - la.length < lb.length := by omega
                have e13 : IntKind.i64.wrap ((i : Int) - (la.length : Int)) = ((i - la.length : Nat) : Int) := by rw [wrap_i64 (by omega) (by omega)]; omega
                have qb := encs_get lb _ hib
                have bb : (i - la.length) * 6 + 6 ≤ (encs lb).length := by omega
                have hpe : l[i] = lb[i - la.length] := by simp only [hc3]; rw [List.getElem_append_right (by omega)]
                rw [hpe] at ql
                have hnia : la.length ≤ i := by omega
                simp [h41, hi, f5, f9, f11, hik, hia, hnia, e13, hib, hgc, hgl', bb, bl, qb, ql, -eqD_succ, eq_pc, hw1]
                omega
            · simp [h41, hi, f5, hik]
              refine (wk h5 hF34).mono ?_
              rintro _ h6 ⟨rfl, hF6⟩
              simp [hF6.one]
        · have e9 := e9 b4
          simp [h21, c, e1 c, hx1 c, d, c1, c2', hx, hx9, b3, b4, e9, b5]
          refine wpd_loop (fun (i : Nat) fr h' => i ≤ l.length ∧ fr.get 8 = some (.int .i64 i) ∧ h' = h2 ∧ ∀ (j : Nat) (p : Pc), j < i → l[j]? = some p → ¬ (p.fm ≤ k ∧ k < p.to)) (fun i => l.length - i) 0 ⟨by omega, by simp, rfl, by simp⟩ ?_
          rintro i fr h' ⟨hil, hi, rfl, hno⟩ hf
          have g0 := hf 0 rfl
          have g1 := hf 1 rfl
          have g5 := hf 5 rfl
          have g6 := hf 6 rfl
          simp at g0 g1 g5 g6
          by_cases hik : i < l.length
          · have hsl0 := hsl
            rcases hsl0 with ⟨e, _⟩ | ⟨_, _, g, hgB, hgn, ea, hgg⟩
            · omega
            cases ea
            have b1 : i * 6 + 1 < (encs l).length := by omega
            have b2 : i * 6 + 2 < (encs l).length := by omega
            have r1 : (encs l)[i * 6 + 1]'b1 = .int .i64 l[i].fm := (List.getElem?_eq_some_iff.1 (encs_cell l i 1 hik (by decide))).2
            have r2 : (encs l)[i * 6 + 2]'b2 = .int .i64 l[i].to := (List.getElem?_eq_some_iff.1 (encs_cell l i 2 hik (by decide))).2
            have hw1 := wrap_succ (show i < 9223372036854775807 by omega)
            have hp : l[i]? = some l[i] := List.getElem?_eq_getElem hik
            obtain ⟨p, hpe⟩ : ∃ p, p = l[i] := ⟨_, rfl⟩
            rw [← hpe] at r1 r2 hp
            clear hpe
            obtain ⟨kd, fm, to, tx, rw', wh⟩ := p
            simp only at r1 r2
            by_cases q1 : fm ≤ k
            · by_cases q2 : k < to
              · simp [h21, hi, g0, g1, g5, hik, hgg, b1, b2, r1, r2, q1, q2]
                refine (wk h' (Fr.refl h21)).mono ?_
                rintro _ h3 ⟨rfl, hF3⟩
                simp [hF3.one]
              · simp [h21, hi, g0, g1, g5, hik, hgg, b1, b2, r1, r2, q1, q2, hw1]
                refine ⟨i + 1, by omega, by omega, rfl, fun j p hj hjp h5 => ?_⟩
                rcases Nat.lt_or_ge j i with h4 | h4
                · have := hno j p h4 hjp; omega
                · obtain rfl : j = i := by omega
                  rw [hp] at hjp; cases hjp; simp only at h5 ⊢; omega
            · simp [h21, hi, g0, g1, g5, hik, hgg, b1, b2, r1, r2, q1, hw1]
              refine ⟨i + 1, by omega, by omega, rfl, fun j p hj hjp h5 => ?_⟩
              rcases Nat.lt_or_ge j i with h4 | h4
              · have := hno j p h4 hjp; omega
              · obtain rfl : j = i := by omega
                rw [hp] at hjp; cases hjp; simp only at h5 ⊢; omega
          · have hiE : i = l.length := by omega
            subst hiE
            obtain ⟨hc1, hc2, hc3⟩ := hcut (fun p hp => by
              obtain ⟨j, hj, rfl⟩ := List.getElem_of_mem hp
              exact hno j _ hj (List.getElem?_eq_getElem hj))
            have hkl : k ≤ line.length := by omega
            simp [h21, hi, g0, g1, g5, hkl]
            refine (Read_sp (line.take k) 0 0 (by simp; omega) (by decide) h' h21 hgl (by omega)).mono ?_
            rintro _ h3 ⟨sb, rfl, hsb, hF3⟩
            have h31 := hF3.one
            have hg3 : Gl h3 := by unfold Gl; rw [hF3.get _ (by omega)]; exact hgl
            have hn3 := hF3.next
            simp [h31, g0, g1]
            refine (Read_sp line k 0 (by omega) (by decide) h3 h31 hg3 (by omega)).mono ?_
            rintro _ h4 ⟨sc, rfl, hsc, hF4⟩
            have h41 := hF4.one
            have hn4 := hF4.next
            have hF34 := hF3.trans (hF4.mono hn3)
            have hsb4 := hsb.of_get hn4 (fun g _ hg => hF4.get g hg)
            have hsl4 := hsl.of_get hF34.next (fun g _ hg => hF34.get g hg)
            rw [hc1, hc2]
            generalize (rdAt (line.take k) 0 0).1 = la at *
            generalize (rdAt line k 0).1 = lb at *
            obtain ⟨ab, rfl⟩ := hsb.slice
            obtain ⟨ac, rfl⟩ := hsc.slice
            have hLL : la.length + lb.length = l.length := by rw [hc3, List.length_append]
            have e12 : IntKind.i64.wrap ((la.length : Int) + (lb.length : Int)) = (l.length : Int) := by rw [wrap_i64 (by omega) (by omega)]; omega
            have lea := encs_length la
            have leb := encs_length lb
            simp [h41, g0, g1, g5, g6, e12]
            refine wpd_loop (fun (i : Nat) fr h' => i ≤ l.length ∧ fr.get 13 = some (.int .i64 i) ∧ h' = h4) (fun i => l.length - i) 0 ⟨by omega, by simp, rfl⟩ ?_
            rintro i fr2 h5 ⟨hil, hi, rfl⟩ hf2
            have f5 := hf2 5 rfl
            have f9 := hf2 9 rfl
            have f11 := hf2 11 rfl
            simp [g5] at f5 f9 f11
            by_cases hik : i < l.length
            · have hw1 := wrap_succ (show i < 9223372036854775807 by omega)
              rcases hsl4 with ⟨e, _⟩ | ⟨_, _, gl, _, _, el, hgl'⟩
              · omega
              cases el
              have ql := encs_get l i hik
              have bl : i * 6 + 6 ≤ (encs l).length := by omega
              by_cases hia : i < la.length
              · rcases hsb4 with ⟨e, _⟩ | ⟨_, _, ga, _, _, ea, hga⟩
                · omega
                cases ea
                have qa := encs_get la i hia
                have ba : i * 6 + 6 ≤ (encs la).length := by omega
                have hpe : l[i] = la[i] := by simp only [hc3]; rw [List.getElem_append_left hia]
                rw [hpe] at ql
                have hnia : ¬ la.length ≤ i := by omega
                simp [h41, hi, f5, f9, f11, hik, hia, hnia, hga, hgl', ba, bl, qa, ql, -eqD_succ, eq_pc, hw1]
                omega
              · rcases hsc with ⟨e, _⟩ | ⟨_, _, gc, _, _, ec, hgc⟩
                · omega
                cases ec
                have hib : i - la.length < lb.length := by omega
                have e13 : IntKind.i64.wrap ((i : Int) - (la.length : Int)) = ((i - la.length : Nat) : Int) := by rw [wrap_i64 (by omega) (by omega)]; omega
                have qb := encs_get lb _ hib
                have bb : (i - la.length) * 6 + 6 ≤ (encs lb).length := by omega
                have hpe : l[i] = lb[i - la.length] := by simp only [hc3]; rw [List.getElem_append_right (by omega)]
                rw [hpe] at ql
                have hnia : la.length ≤ i := by omega
                simp [h41, hi, f5, f9, f11, hik, hia, hnia, e13, hib, hgc, hgl', bb, bl, qb, ql, -eqD_succ, eq_pc, hw1]
                omega
            · simp [h41, hi, f5, hik]
              refine (wk h5 hF34).mono ?_
              rintro _ h6 ⟨rfl, hF6⟩
              simp [hF6.one]
    · obtain ⟨ad, rfl⟩ := hsl.slice
      by_cases c1 : a < 0
      · simp [h21, c, e1 c, hx1 c, d, c1]
        refine (wk h2 (Fr.refl h21)).mono ?_
        rintro _ h3 ⟨rfl, hF3⟩
        simp [hF3.one]
      obtain ⟨k, rfl⟩ : ∃ n : Nat, a = n := ⟨a.toNat, by omega⟩
      by_cases c2 : ctnN line ≤ k
      · rw [hn] at c2
        simp [h21, c, e1 c, hx1 c, d, c1, c2]
        refine (wk h2 (Fr.refl h21)).mono ?_
        rintro _ h3 ⟨rfl, hF3⟩
        simp [hF3.one]
      have c2' := c2
      rw [hn] at c2'
      have hk : k < line.length := by omega
      have hx := idxB_nat hk
      by_cases hbl : isBl (bt line k) = true
      case neg =>
        have b1 : ¬ (bt line k).toNat = 32 := fun e => hbl (by simp [isBl, e])
        have b2 : ¬ (bt line k).toNat = 9 := fun e => hbl (by simp [isBl, e])
        simp [h21, c, e1 c, hx1 c, d, c1, c2', hx, b1, b2]
        refine (wk h2 (Fr.refl h21)).mono ?_
        rintro _ h3 ⟨rfl, hF3⟩
        simp [hF3.one]
      have e9 : 0 < k → IntKind.i64.wrap ((k : Int) - 1) = ((k - 1 : Nat) : Int) := fun c => by rw [wrap_i64 (by omega) (by omega)]; omega
      have hx9 : idxB line ((k - 1 : Nat) : Int) = some (.int .u8 (bt line (k - 1)).toNat) := idxB_nat (by omega)
      by_cases h10 : 0 < k ∧ (bt line (k - 1)).toNat = 10
      · have hk0 := h10.1
        have hk9 := h10.2
        have e9 := e9 hk0
        by_cases b1 : (bt line k).toNat = 32
        · simp [h21, c, e1 c, hx1 c, d, c1, c2', hx, b1, hk0, e9, hx9, hk9]
          refine (wk h2 (Fr.refl h21)).mono ?_
          rintro _ h3 ⟨rfl, hF3⟩
          simp [hF3.one]
        · have b2 : (bt line k).toNat = 9 := by simp [isBl, b1] at hbl; exact hbl
          simp [h21, c, e1 c, hx1 c, d, c1, c2', hx, b1, b2, hk0, e9, hx9, hk9]
          refine (wk h2 (Fr.refl h21)).mono ?_
          rintro _ h3 ⟨rfl, hF3⟩
          simp [hF3.one]
      have hcut := hcut k (by omega) hbl (fun h h' => h10 ⟨h, h'⟩)
      have b3 : (bt line k).toNat = 32 ∨ (bt line k).toNat = 9 := by simpa [isBl] using hbl
      have b4 : ¬ 0 < k ∨ (0 < k ∧ ¬ (bt line (k - 1)).toNat = 10) := by
        rcases Nat.eq_zero_or_pos k with e | e
        · exact .inl (by omega)
        · exact .inr ⟨e, fun h' => h10 ⟨e, h'⟩⟩
      rcases b3 with b3 | b3
      · rcases b4 with b4 | ⟨b4, b5⟩
        · simp [h21, c, e1 c, hx1 c, d, c1, c2', hx, hx9, b3, b4]
          refine wpd_loop (fun (i : Nat) fr h' => i ≤ l.length ∧ fr.get 8 = some (.int .i64 i) ∧ h' = h2 ∧ ∀ (j : Nat) (p : Pc), j < i → l[j]? = some p → ¬ (p.fm ≤ k ∧ k < p.to)) (fun i => l.length - i) 0 ⟨by omega, by simp, rfl, by simp⟩ ?_
          rintro i fr h' ⟨hil, hi, rfl, hno⟩ hf
          have g0 := hf 0 rfl
          have g1 := hf 1 rfl
          have g5 := hf 5 rfl
          have g6 := hf 6 rfl
          simp at g0 g1 g5 g6
          by_cases hik : i < l.length
          · have hsl0 := hsl
            rcases hsl0 with ⟨e, _⟩ | ⟨_, _, g, hgB, hgn, ea, hgg⟩
            · omega
            cases ea
            have b1 : i * 6 + 1 < (encs l).length := by omega
            have b2 : i * 6 + 2 < (encs l).length := by omega
            have r1 : (encs l)[i * 6 + 1]'b1 = .int .i64 l[i].fm := (List.getElem?_eq_some_iff.1 (encs_cell l i 1 hik (by decide))).2
            have r2 : (encs l)[i * 6 + 2]'b2 = .int .i64 l[i].to := (List.getElem?_eq_some_iff.1 (encs_cell l i 2 hik (by decide))).2
            have hw1 := wrap_succ (show i < 9223372036854775807 by omega)
            have hp : l[i]? = some l[i] := List.getElem?_eq_getElem hik
            obtain ⟨p, hpe⟩ : ∃ p, p = l[i] := ⟨_, rfl⟩
            rw [← hpe] at r1 r2 hp
            clear hpe
            obtain ⟨kd, fm, to, tx, rw', wh⟩ := p
            simp only at r1 r2
            by_cases q1 : fm ≤ k
            · by_cases q2 : k < to
              · simp [h21, hi, g0, g1, g5, hik, hgg, b1, b2, r1, r2, q1, q2]
                refine (wk h' (Fr.refl h21)).mono ?_
                rintro _ h3 ⟨rfl, hF3⟩
                simp [hF3.one]
              · simp [h21, hi, g0, g1, g5, hik, hgg, b1, b2, r1, r2, q1, q2, hw1]
                refine ⟨i + 1, by omega, by omega, rfl, fun j p hj hjp h5 => ?_⟩
                rcases Nat.lt_or_ge j i with h4 | h4
                · have := hno j p h4 hjp; omega
                · obtain rfl : j = i := by omega
                  rw [hp] at hjp; cases hjp; simp only at h5 ⊢; omega
            · simp [h21, hi, g0, g1, g5, hik, hgg, b1, b2, r1, r2, q1, hw1]
              refine ⟨i + 1, by omega, by omega, rfl, fun j p hj hjp h5 => ?_⟩
              rcases Nat.lt_or_ge j i with h4 | h4
              · have := hno j p h4 hjp; omega
              · obtain rfl : j = i := by omega
                rw [hp] at hjp; cases hjp; simp only at h5 ⊢; omega
          · have hiE : i = l.length := by omega
            subst hiE
            obtain ⟨hc1, hc2, hc3⟩ := hcut (fun p hp => by
              obtain ⟨j, hj, rfl⟩ := List.getElem_of_mem hp
              exact hno j _ hj (List.getElem?_eq_getElem hj))
            have hkl : k ≤ line.length := by omega
            simp [h21, hi, g0, g1, g5, hkl]
            refine (Read_sp (line.take k) 0 0 (by simp; omega) (by decide) h' h21 hgl (by omega)).mono ?_
            rintro _ h3 ⟨sb, rfl, hsb, hF3⟩
            have h31 := hF3.one
            have hg3 : Gl h3 := by unfold Gl; rw [hF3.get _ (by omega)]; exact hgl
            have hn3 := hF3.next
            simp [h31, g0, g1]
            refine (Read_sp line k 0 (by omega) (by decide) h3 h31 hg3 (by omega)).mono ?_
            rintro _ h4 ⟨sc, rfl, hsc, hF4⟩
            have h41 := hF4.one
            have hn4 := hF4.next
            have hF34 := hF3.trans (hF4.mono hn3)
            have hsb4 := hsb.of_get hn4 (fun g _ hg => hF4.get g hg)
            have hsl4 := hsl.of_get hF34.next (fun g _ hg => hF34.get g hg)
            rw [hc1, hc2]
            generalize (rdAt (line.take k) 0 0).1 = la at *
            generalize (rdAt line k 0).1 = lb at *
            obtain ⟨ab, rfl⟩ := hsb.slice
            obtain ⟨ac, rfl⟩ := hsc.slice
            have hLL : la.length + lb.length = l.length := by rw [hc3, List.length_append]
            have e12 : IntKind.i64.wrap ((la.length : Int) + (lb.length : Int)) = (l.length : Int) := by rw [wrap_i64 (by omega) (by omega)]; omega
            have lea := encs_length la
            have leb := encs_length lb
            simp [h41, g0, g1, g5, g6, e12]
            refine wpd_loop (fun (i : Nat) fr h' => i ≤ l.length ∧ fr.get 13 = some (.int .i64 i) ∧ h' = h4) (fun i => l.length - i) 0 ⟨by omega, by simp, rfl⟩ ?_
            rintro i fr2 h5 ⟨hil, hi, rfl⟩ hf2
            have f5 := hf2 5 rfl
            have f9 := hf2 9 rfl
            have f11 := hf2 11 rfl
            simp [g5] at f5 f9 f11
            by_cases hik : i < l.length
            · have hw1 := wrap_succ (show i < 9223372036854775807 by omega)
              rcases hsl4 with ⟨e, _⟩ | ⟨_, _, gl, _, _, el, hgl'⟩
              · omega
              cases el
              have ql := encs_get l i hik
              have bl : i * 6 + 6 ≤ (encs l).length := by omega
              by_cases hia : i < la.length
              · rcases hsb4 with ⟨e, _⟩ | ⟨_, _, ga, _, _, ea, hga⟩
                · omega
                cases ea
                have qa := encs_get la i hia
                have ba : i * 6 + 6 ≤ (encs la).length := by omega
                have hpe : l[i] = la[i] := by simp only [hc3]; rw [List.getElem_append_left hia]
                rw [hpe] at ql
                have hnia : ¬ la.length ≤ i := by omega
                simp [h41, hi, f5, f9, f11, hik, hia, hnia, hga, hgl', ba, bl, qa, ql, -eqD_succ, eq_pc, hw1]
                omega
              · rcases hsc with ⟨e, _⟩ | ⟨_, _, gc, _, _, ec, hgc⟩
                · omega
                cases ec
                have hib : i - la.length < lb.length := by omega
                have e13 : IntKind.i64.wrap ((i : Int) - (la.length : Int)) = ((i - la.length : Nat) : Int) := by rw [wrap_i64 (by omega) (by omega)]; omega
                have qb := encs_get lb _ hib
                have bb : (i - la.length) * 6 + 6 ≤ (encs lb).length := by omega
                have hpe : l[i] = lb[i - la.length] := by simp only [hc3]; rw [List.getElem_append_right (by omega)]
                rw [hpe] at ql
                have hnia : la.length ≤ i := by omega
                simp [h41, hi, f5, f9, f11, hik, hia, hnia, e13, hib, hgc, hgl', bb, bl, qb, ql, -eqD_succ, eq_pc, hw1]
                omega
            · simp [h41, hi, f5, hik]
              refine (wk h5 hF34).mono ?_
              rintro _ h6 ⟨rfl, hF6⟩
              simp [hF6.one]
        · have e9 := e9 b4
          simp [h21, c, e1 c, hx1 c, d, c1, c2', hx, hx9, b3, b4, e9, b5]
          refine wpd_loop (fun (i : Nat) fr h' => i ≤ l.length ∧ fr.get 8 = some (.int .i64 i) ∧ h' = h2 ∧ ∀ (j : Nat) (p : Pc), j < i → l[j]? = some p → ¬ (p.fm ≤ k ∧ k < p.to)) (fun i => l.length - i) 0 ⟨by omega, by simp, rfl, by simp⟩ ?_
          rintro i fr h' ⟨hil, hi, rfl, hno⟩ hf
          have g0 := hf 0 rfl
          have g1 := hf 1 rfl
          have g5 := hf 5 rfl
          have g6 := hf 6 rfl
          simp at g0 g1 g5 g6
          by_cases hik : i < l.length
          · have hsl0 := hsl
            rcases hsl0 with ⟨e, _⟩ | ⟨_, _, g, hgB, hgn, ea, hgg⟩
            · omega
            cases ea
            have b1 : i * 6 + 1 < (encs l).length := by omega
            have b2 : i * 6 + 2 < (encs l).length := by omega
            have r1 : (encs l)[i * 6 + 1]'b1 = .int .i64 l[i].fm := (List.getElem?_eq_some_iff.1 (encs_cell l i 1 hik (by decide))).2
            have r2 : (encs l)[i * 6 + 2]'b2 = .int .i64 l[i].to := (List.getElem?_eq_some_iff.1 (encs_cell l i 2 hik (by decide))).2
            have hw1 := wrap_succ (show i < 9223372036854775807 by omega)
            have hp : l[i]? = some l[i] := List.getElem?_eq_getElem hik
            obtain ⟨p, hpe⟩ : ∃ p, p = l[i] := ⟨_, rfl⟩
            rw [← hpe] at r1 r2 hp
            clear hpe
            obtain ⟨kd, fm, to, tx, rw', wh⟩ := p
            simp only at r1 r2
            by_cases q1 : fm ≤ k
            · by_cases q2 : k < to
              · simp [h21, hi, g0, g1, g5, hik, hgg, b1, b2, r1, r2, q1, q2]
                refine (wk h' (Fr.refl h21)).mono ?_
                rintro _ h3 ⟨rfl, hF3⟩
                simp [hF3.one]
              · simp [h21, hi, g0, g1, g5, hik, hgg, b1, b2, r1, r2, q1, q2, hw1]
                refine ⟨i + 1, by omega, by omega, rfl, fun j p hj hjp h5 => ?_⟩
                rcases Nat.lt_or_ge j i with h4 | h4
                · have := hno j p h4 hjp; omega
                · obtain rfl : j = i := by omega
                  rw [hp] at hjp; cases hjp; simp only at h5 ⊢; omega
            · simp [h21, hi, g0, g1, g5, hik, hgg, b1, b2, r1, r2, q1, hw1]
              refine ⟨i + 1, by omega, by omega, rfl, fun j p hj hjp h5 => ?_⟩
              rcases Nat.lt_or_ge j i with h4 | h4
              · have := hno j p h4 hjp; omega
              · obtain rfl : j = i := by omega
                rw [hp] at hjp; cases hjp; simp only at h5 ⊢; omega
          · have hiE : i = l.length := by omega
            subst hiE
            obtain ⟨hc1, hc2, hc3⟩ := hcut (fun p hp => by
              obtain ⟨j, hj, rfl⟩ := List.getElem_of_mem hp
              exact hno j _ hj (List.getElem?_eq_getElem hj))
            have hkl : k ≤ line.length := by omega
            simp [h21, hi, g0, g1, g5, hkl]
            refine (Read_sp (line.take k) 0 0 (by simp; omega) (by decide) h' h21 hgl (by omega)).mono ?_
            rintro _ h3 ⟨sb, rfl, hsb, hF3⟩
            have h31 := hF3.one
            have hg3 : Gl h3 := by unfold Gl; rw [hF3.get _ (by omega)]; exact hgl
            have hn3 := hF3.next
            simp [h31, g0, g1]
            refine (Read_sp line k 0 (by omega) (by decide) h3 h31 hg3 (by omega)).mono ?_
            rintro _ h4 ⟨sc, rfl, hsc, hF4⟩
            have h41 := hF4.one
            have hn4 := hF4.next
            have hF34 := hF3.trans (hF4.mono hn3)
            have hsb4 := hsb.of_get hn4 (fun g _ hg => hF4.get g hg)
            have hsl4 := hsl.of_get hF34.next (fun g _ hg => hF34.get g hg)
            rw [hc1, hc2]
            generalize (rdAt (line.take k) 0 0).1 = la at *
            generalize (rdAt line k 0).1 = lb at *
            obtain ⟨ab, rfl⟩ := hsb.slice
            obtain ⟨ac, rfl⟩ := hsc.slice
            have hLL : la.length + lb.length = l.length := by rw [hc3, List.length_append]
            have e12 : IntKind.i64.wrap ((la.length : Int) + (lb.length : Int)) = (l.length : Int) := by rw [wrap_i64 (by omega) (by omega)]; omega
            have lea := encs_length la
            have leb := encs_length lb
            simp [h41, g0, g1, g5, g6, e12]
            refine wpd_loop (fun (i : Nat) fr h' => i ≤ l.length ∧ fr.get 13 = some (.int .i64 i) ∧ h' = h4) (fun i => l.length - i) 0 ⟨by omega, by simp, rfl⟩ ?_
            rintro i fr2 h5 ⟨hil, hi, rfl⟩ hf2
            have f5 := hf2 5 rfl
            have f9 := hf2 9 rfl
            have f11 := hf2 11 rfl
            simp [g5] at f5 f9 f11
            by_cases hik : i < l.length
            · have hw1 := wrap_succ (show i < 9223372036854775807 by omega)
              rcases hsl4 with ⟨e, _⟩ | ⟨_, _, gl, _, _, el, hgl'⟩
              · omega
              cases el
              have ql := encs_get l i hik
              have bl : i * 6 + 6 ≤ (encs l).length := by omega
              by_cases hia : i < la.length
              · rcases hsb4 with ⟨e, _⟩ | ⟨_, _, ga, _, _, ea, hga⟩
                · omega
                cases ea
                have qa := encs_get la i hia
                have ba : i * 6 + 6 ≤ (encs la).length := by omega
                have hpe : l[i] = la[i] := by simp only [hc3]; rw [List.getElem_append_left hia]
                rw [hpe] at ql
                have hnia : ¬ la.length ≤ i := by omega
                simp [h41, hi, f5, f9, f11, hik, hia, hnia, hga, hgl', ba, bl, qa, ql, -eqD_succ, eq_pc, hw1]
                omega
              · rcases hsc with ⟨e, _⟩ | ⟨_, _, gc, _, _, ec, hgc⟩
                · omega
                cases ec
                have hib : i - la.length < lb.length := by omega
                have e13 : IntKind.i64.wrap ((i : Int) - (la.length : Int)) = ((i - la.length : Nat) : Int) := by rw [wrap_i64 (by omega) (by omega)]; omega
                have qb := encs_get lb _ hib
                have bb : (i - la.length) * 6 + 6 ≤ (encs lb).length := by omega
                have hpe : l[i] = lb[i - la.length] := by simp only [hc3]; rw [List.getElem_append_right (by omega)]
                rw [hpe] at ql
                have hnia : la.length ≤ i := by omega
                simp [h41, hi, f5, f9, f11, hik, hia, hnia, e13, hib, hgc, hgl', bb, bl, qb, ql, -eqD_succ, eq_pc, hw1]
                omega
            · simp [h41, hi, f5, hik]
              refine (wk h5 hF34).mono ?_
              rintro _ h6 ⟨rfl, hF6⟩
              simp [hF6.one]
      · rcases b4 with b4 | ⟨b4, b5⟩
        · simp [h21, c, e1 c, hx1 c, d, c1, c2', hx, hx9, b3, b4]
          refine wpd_loop (fun (i : Nat) fr h' => i ≤ l.length ∧ fr.get 8 = some (.int .i64 i) ∧ h' = h2 ∧ ∀ (j : Nat) (p : Pc), j < i → l[j]? = some p → ¬ (p.fm ≤ k ∧ k < p.to)) (fun i => l.length - i) 0 ⟨by omega, by simp, rfl, by simp⟩ ?_
          rintro i fr h' ⟨hil, hi, rfl, hno⟩ hf
          have g0 := hf 0 rfl
          have g1 := hf 1 rfl
          have g5 := hf 5 rfl
          have g6 := hf 6 rfl
          simp at g0 g1 g5 g6
          by_cases hik : i < l.length
          · have hsl0 := hsl
            rcases hsl0 with ⟨e, _⟩ | ⟨_, _, g, hgB, hgn, ea, hgg⟩
            · omega
            cases ea
            have b1 : i * 6 + 1 < (encs l).length := by omega
            have b2 : i * 6 + 2 < (encs l).length := by omega
            have r1 : (encs l)[i * 6 + 1]'b1 = .int .i64 l[i].fm := (List.getElem?_eq_some_iff.1 (encs_cell l i 1 hik (by decide))).2
            have r2 : (encs l)[i * 6 + 2]'b2 = .int .i64 l[i].to := (List.getElem?_eq_some_iff.1 (encs_cell l i 2 hik (by decide))).2
            have hw1 := wrap_succ (show i < 9223372036854775807 by omega)
            have hp : l[i]? = some l[i] := List.getElem?_eq_getElem hik
            obtain ⟨p, hpe⟩ : ∃ p, p = l[i] := ⟨_, rfl⟩
            rw [← hpe] at r1 r2 hp
            clear hpe
            obtain ⟨kd, fm, to, tx, rw', wh⟩ := p
            simp only at r1 r2
            by_cases q1 : fm ≤ k
            · by_cases q2 : k < to
              · simp [h21, hi, g0, g1, g5, hik, hgg, b1, b2, r1, r2, q1, q2]
                refine (wk h' (Fr.refl h21)).mono ?_
                rintro _ h3 ⟨rfl, hF3⟩
                simp [hF3.one]
              · simp [h21, hi, g0, g1, g5, hik, hgg, b1, b2, r1, r2, q1, q2, hw1]
                refine ⟨i + 1, by omega, by omega, rfl, fun j p hj hjp h5 => ?_⟩
                rcases Nat.lt_or_ge j i with h4 | h4
                · have := hno j p h4 hjp; omega
                · obtain rfl : j = i := by omega
                  rw [hp] at hjp; cases hjp; simp only at h5 ⊢; omega
            · simp [h21, hi, g0, g1, g5, hik, hgg, b1, b2, r1, r2, q1, hw1]
              refine ⟨i + 1, by omega, by omega, rfl, fun j p hj hjp h5 => ?_⟩
              rcases Nat.lt_or_ge j i with h4 | h4
              · have := hno j p h4 hjp; omega
              · obtain rfl : j = i := by omega
                rw [hp] at hjp; cases hjp; simp only at h5 ⊢; omega
          · have hiE : i = l.length := by omega
            subst hiE
            obtain ⟨hc1, hc2, hc3⟩ := hcut (fun p hp => by
              obtain ⟨j, hj, rfl⟩ := List.getElem_of_mem hp
              exact hno j _ hj (List.getElem?_eq_getElem hj))
            have hkl : k ≤ line.length := by omega
            simp [h21, hi, g0, g1, g5, hkl]
            refine (Read_sp (line.take k) 0 0 (by simp; omega) (by decide) h' h21 hgl (by omega)).mono ?_
            rintro _ h3 ⟨sb, rfl, hsb, hF3⟩
            have h31 := hF3.one
            have hg3 : Gl h3 := by unfold Gl; rw [hF3.get _ (by omega)]; exact hgl
            have hn3 := hF3.next
            simp [h31, g0, g1]
            refine (Read_sp line k 0 (by omega) (by decide) h3 h31 hg3 (by omega)).mono ?_
            rintro _ h4 ⟨sc, rfl, hsc, hF4⟩
            have h41 := hF4.one
            have hn4 := hF4.next
            have hF34 := hF3.trans (hF4.mono hn3)
            have hsb4 := hsb.of_get hn4 (fun g _ hg => hF4.get g hg)
            have hsl4 := hsl.of_get hF34.next (fun g _ hg => hF34.get g hg)
            rw [hc1, hc2]
            generalize (rdAt (line.take k) 0 0).1 = la at *
            generalize (rdAt line k 0).1 = lb at *
            obtain ⟨ab, rfl⟩ := hsb.slice
            obtain ⟨ac, rfl⟩ := hsc.slice
            have hLL : la.length + lb.length = l.length := by rw [hc3, List.length_append]
            have e12 : IntKind.i64.wrap ((la.length : Int) + (lb.length : Int)) = (l.length : Int) := by rw [wrap_i64 (by omega) (by omega)]; omega
            have lea := encs_length la
            have leb := encs_length lb
            simp [h41, g0, g1, g5, g6, e12]
            refine wpd_loop (fun (i : Nat) fr h' => i ≤ l.length ∧ fr.get 13 = some (.int .i64 i) ∧ h' = h4) (fun i => l.length - i) 0 ⟨by omega, by simp, rfl⟩ ?_
            rintro i fr2 h5 ⟨hil, hi, rfl⟩ hf2
            have f5 := hf2 5 rfl
            have f9 := hf2 9 rfl
            have f11 := hf2 11 rfl
            simp [g5] at f5 f9 f11
            by_cases hik : i < l.length
            · have hw1 := wrap_succ (show i < 9223372036854775807 by omega)
              rcases hsl4 with ⟨e, _⟩ | ⟨_, _, gl, _, _, el, hgl'⟩
              · omega
              cases el
              have ql := encs_get l i hik
              have bl : i * 6 + 6 ≤ (encs l).length := by omega
              by_cases hia : i < la.length
              · rcases hsb4 with ⟨e, _⟩ | ⟨_, _, ga, _, _, ea, hga⟩
                · omega
                cases ea
                have qa := encs_get la i hia
                have ba : i * 6 + 6 ≤ (encs la).length := by omega
                have hpe : l[i] = la[i] := by simp only [hc3]; rw [List.getElem_append_left hia]
                rw [hpe] at ql
                have hnia : ¬ la.length ≤ i := by omega
                simp [h41, hi, f5, f9, f11, hik, hia, hnia, hga, hgl', ba, bl, qa, ql, -eqD_succ, eq_pc, hw1]
                omega
              · rcases hsc with ⟨e, _⟩ | ⟨_, _, gc, _, _, ec, hgc⟩
                · omega
                cases ec
                have hib : i - la.length < lb.length := by omega
                have e13 : IntKind.i64.wrap ((i : Int) - (la.length : Int)) = ((i - la.length : Nat) : Int) := by rw [wrap_i64 (by omega) (by omega)]; omega
                have qb := encs_get lb _ hib
                have bb : (i - la.length) * 6 + 6 ≤ (encs lb).length := by omega
                have hpe : l[i] = lb[i - la.length] := by simp only [hc3]; rw [List.getElem_append_right (by omega)]
                rw [hpe] at ql
                have hnia : la.length ≤ i := by omega
                simp [h41, hi, f5, f9, f11, hik, hia, hnia, e13, hib, hgc, hgl', bb, bl, qb, ql, -eqD_succ, eq_pc, hw1]
                omega
            · simp [h41, hi, f5, hik]
              refine (wk h5 hF34).mono ?_
              rintro _ h6 ⟨rfl, hF6⟩
              simp [hF6.one]
        · have e9 := e9 b4
          simp [h21, c, e1 c, hx1 c, d, c1, c2', hx, hx9, b3, b4, e9, b5]
          refine wpd_loop (fun (i : Nat) fr h' => i ≤ l.length ∧ fr.get 8 = some (.int .i64 i) ∧ h' = h2 ∧ ∀ (j : Nat) (p : Pc), j < i → l[j]? = some p → ¬ (p.fm ≤ k ∧ k < p.to)) (fun i => l.length - i) 0 ⟨by omega, by simp, rfl, by simp⟩ ?_
          rintro i fr h' ⟨hil, hi, rfl, hno⟩ hf
          have g0 := hf 0 rfl
          have g1 := hf 1 rfl
          have g5 := hf 5 rfl
          have g6 := hf 6 rfl
          simp at g0 g1 g5 g6
          by_cases hik : i < l.length
          · have hsl0 := hsl
            rcases hsl0 with ⟨e, _⟩ | ⟨_, _, g, hgB, hgn, ea, hgg⟩
            · omega
            cases ea
            have b1 : i * 6 + 1 < (encs l).length := by omega
            have b2 : i * 6 + 2 < (encs l).length := by omega
            have r1 : (encs l)[i * 6 + 1]'b1 = .int .i64 l[i].fm := (List.getElem?_eq_some_iff.1 (encs_cell l i 1 hik (by decide))).2
            have r2 : (encs l)[i * 6 + 2]'b2 = .int .i64 l[i].to := (List.getElem?_eq_some_iff.1 (encs_cell l i 2 hik (by decide))).2
            have hw1 := wrap_succ (show i < 9223372036854775807 by omega)
            have hp : l[i]? = some l[i] := List.getElem?_eq_getElem hik
            obtain ⟨p, hpe⟩ : ∃ p, p = l[i] := ⟨_, rfl⟩
            rw [← hpe] at r1 r2 hp
            clear hpe
            obtain ⟨kd, fm, to, tx, rw', wh⟩ := p
            simp only at r1 r2
            by_cases q1 : fm ≤ k
            · by_cases q2 : k < to
              · simp [h21, hi, g0, g1, g5, hik, hgg, b1, b2, r1, r2, q1, q2]
                refine (wk h' (Fr.refl h21)).mono ?_
                rintro _ h3 ⟨rfl, hF3⟩
                simp [hF3.one]
              · simp [h21, hi, g0, g1, g5, hik, hgg, b1, b2, r1, r2, q1, q2, hw1]
                refine ⟨i + 1, by omega, by omega, rfl, fun j p hj hjp h5 => ?_⟩
                rcases Nat.lt_or_ge j i with h4 | h4
                · have := hno j p h4 hjp; omega
                · obtain rfl : j = i := by omega
                  rw [hp] at hjp; cases hjp; simp only at h5 ⊢; omega
            · simp [h21, hi, g0, g1, g5, hik, hgg, b1, b2, r1, r2, q1, hw1]
              refine ⟨i + 1, by omega, by omega, rfl, fun j p hj hjp h5 => ?_⟩
              rcases Nat.lt_or_ge j i with h4 | h4
              · have := hno j p h4 hjp; omega
              · obtain rfl : j = i := by omega
                rw [hp] at hjp; cases hjp; simp only at h5 ⊢; omega
          · have hiE : i = l.length := by omega
            subst hiE
            obtain ⟨hc1, hc2, hc3⟩ := hcut (fun p hp => by
              obtain ⟨j, hj, rfl⟩ := List.getElem_of_mem hp
              exact hno j _ hj (List.getElem?_eq_getElem hj))
            have hkl : k ≤ line.length := by omega
            simp [h21, hi, g0, g1, g5, hkl]
            refine (Read_sp (line.take k) 0 0 (by simp; omega) (by decide) h' h21 hgl (by omega)).mono ?_
            rintro _ h3 ⟨sb, rfl, hsb, hF3⟩
            have h31 := hF3.one
            have hg3 : Gl h3 := by unfold Gl; rw [hF3.get _ (by omega)]; exact hgl
            have hn3 := hF3.next
            simp [h31, g0, g1]
            refine (Read_sp line k 0 (by omega) (by decide) h3 h31 hg3 (by omega)).mono ?_
            rintro _ h4 ⟨sc, rfl, hsc, hF4⟩
            have h41 := hF4.one
            have hn4 := hF4.next
            have hF34 := hF3.trans (hF4.mono hn3)
            have hsb4 := hsb.of_get hn4 (fun g _ hg => hF4.get g hg)
            have hsl4 := hsl.of_get hF34.next (fun g _ hg => hF34.get g hg)
            rw [hc1, hc2]
            generalize (rdAt (line.take k) 0 0).1 = la at *
            generalize (rdAt line k 0).1 = lb at *
            obtain ⟨ab, rfl⟩ := hsb.slice
            obtain ⟨ac, rfl⟩ := hsc.slice
            have hLL : la.length + lb.length = l.length := by rw [hc3, List.length_append]
            have e12 : IntKind.i64.wrap ((la.length : Int) + (lb.length : Int)) = (l.length : Int) := by rw [wrap_i64 (by omega) (by omega)]; omega
            have lea := encs_length la
            have leb := encs_length lb
            simp [h41, g0, g1, g5, g6, e12]
            refine wpd_loop (fun (i : Nat) fr h' => i ≤ l.length ∧ fr.get 13 = some (.int .i64 i) ∧ h' = h4) (fun i => l.length - i) 0 ⟨by omega, by simp, rfl⟩ ?_
            rintro i fr2 h5 ⟨hil, hi, rfl⟩ hf2
            have f5 := hf2 5 rfl
            have f9 := hf2 9 rfl
            have f11 := hf2 11 rfl
            simp [g5] at f5 f9 f11
            by_cases hik : i < l.length
            · have hw1 := wrap_succ (show i < 9223372036854775807 by omega)
              rcases hsl4 with ⟨e, _⟩ | ⟨_, _, gl, _, _, el, hgl'⟩
              · omega
              cases el
              have ql := encs_get l i hik
              have bl : i * 6 + 6 ≤ (encs l).length := by omega
              by_cases hia : i < la.length
              · rcases hsb4 with ⟨e, _⟩ | ⟨_, _, ga, _, _, ea, hga⟩
                · omega
                cases ea
                have qa := encs_get la i hia
                have ba : i * 6 + 6 ≤ (encs la).length := by omega
                have hpe : l[i] = la[i] := by simp only [hc3]; rw [List.getElem_append_left hia]
                rw [hpe] at ql
                have hnia : ¬ la.length ≤ i := by omega
                simp [h41, hi, f5, f9, f11, hik, hia, hnia, hga, hgl', ba, bl, qa, ql, -eqD_succ, eq_pc, hw1]
                omega
              · rcases hsc with ⟨e, _⟩ | ⟨_, _, gc, _, _, ec, hgc⟩
                · omega
                cases ec
                have hib : i - la.length < lb.length := by omega
                have e13 : IntKind.i64.wrap ((i : Int) - (la.length : Int)) = ((i - la.length : Nat) : Int) := by rw [wrap_i64 (by omega) (by omega)]; omega
                have qb := encs_get lb _ hib
                have bb : (i - la.length) * 6 + 6 ≤ (encs lb).length := by omega
                have hpe : l[i] = lb[i - la.length] := by simp only [hc3]; rw [List.getElem_append_right (by omega)]
                rw [hpe] at ql
                have hnia : la.length ≤ i := by omega
                simp [h41, hi, f5, f9, f11, hik, hia, hnia, e13, hib, hgc, hgl', bb, bl, qb, ql, -eqD_succ, eq_pc, hw1]
                omega
            · simp [h41, hi, f5, hik]
              refine (wk h5 hF34).mono ?_
              rintro _ h6 ⟨rfl, hF6⟩
              simp [hF6.one]
end Go.Dm
