/- The statement ShwordTile, in D. -/
import Derived.Test.YtpanpicbikihkaaDoorShT
import Derived.Test.YtpanpicbikihkaaDoorShG
set_option linter.unusedVariables false
set_option linter.unusedSimpArgs false
set_option maxRecDepth 100000
namespace Go.Dm
open Go.Proofs
theorem blanks_sp (s : List UInt8) (hs : s.length < 2 ^ 62) (hb : ∀ j, j < s.length → isBl (bt s j) = true) (h : H) (h1 : h.one = []) : CallW E0 X0 (.fn 14) [str s] h (fun v h' => v = .bool true ∧ h' = h) := by
  refine CallW.body efn14 rfl rfl rfl [] (by kernel_rfl) ?_
  simp [Tryd.f14, h1]
  refine wpd_loop (fun (k : Nat) fr h' => k ≤ s.length ∧ fr.get 3 = some (.int .i64 k) ∧ h' = h) (fun k => s.length - k) 0 ⟨by omega, by simp, rfl⟩ ?_
  rintro k fr h' ⟨hk, hi, rfl⟩ hf
  have g0 := hf 0 rfl
  simp at g0
  by_cases c : k < s.length
  · have hbk := hb k c
    have hw1 := wrap_succ (show k < 9223372036854775807 by omega)
    have hx := idxB_nat (l := s) (k := k) c
    by_cases c2 : (bt s k).toNat = 32
    · simp [hi, h1, g0, c, c2, hw1, hx]
      omega
    · have c3 : (bt s k).toNat = 9 := by simp [isBl, c2] at hbk; exact hbk
      simp [hi, h1, g0, c, c2, c3, hw1, hx]
      omega
  · simp [hi, h1, g0, c]
theorem ctnN_cases (line : List UInt8) : (¬ 0 < line.length ∧ ctnN line = line.length) ∨ (0 < line.length ∧ ¬ (bt line (line.length - 1)).toNat = 10 ∧ ctnN line = line.length) ∨ (0 < line.length ∧ (bt line (line.length - 1)).toNat = 10 ∧ ctnN line = line.length - 1) := by
  unfold ctnN
  by_cases c : 0 < line.length
  · by_cases d : (bt line (line.length - 1)).toNat = 10
    · exact .inr (.inr ⟨c, d, if_pos ⟨c, d⟩⟩)
    · exact .inr (.inl ⟨c, d, if_neg (fun h => d h.2)⟩)
  · exact .inl ⟨c, by rw [if_neg (fun h => c h.1)]⟩
theorem encs_at : ∀ (l : List Pc) (k j : Nat) (hk : k < l.length), j < 6 → (encs l)[k * 6 + j]? = (encP l[k])[j]? := by
  intro l k j hk hj
  have h := encs_get l k hk
  have e : ((encs l).drop (k * 6))[j]? = (encP l[k])[j]? := by rw [← h, List.getElem?_take_of_lt hj]
  rw [List.getElem?_drop] at e
  exact e
theorem endT_succ {l : List Pc} {k : Nat} (a : Nat) (hk : k < l.length) : endT a (l.take (k + 1)) = l[k].to := by
  rw [List.take_succ_eq_append_getElem hk]
  unfold endT
  rw [List.getLast?_concat]
theorem bt_cut {line : List UInt8} {t fm j : Nat} (h : t + j < fm) : bt ((line.take fm).drop t) j = bt line (t + j) := by
  unfold bt
  simp [List.getD_eq_getElem?_getD, List.getElem?_drop, List.getElem?_take, h]
theorem bt_drop {line : List UInt8} {t j : Nat} : bt (line.drop t) j = bt line (t + j) := by
  unfold bt
  simp [List.getD_eq_getElem?_getD, List.getElem?_drop]
set_option maxHeartbeats 8000000 in
theorem law_Tile (line : List UInt8) (a : Int) (mark : Nat) (hm : mark < 256) (h : H) (h1 : h.one = []) (hg : Gl h) (hg0 : 0 < h.next) :
    CallW E0 X0 (.fn 5) [str line, .int .i64 a, .int .u8 mark] h (fun v h' => v = .bool true) := by
  refine CallW.body efn5 rfl rfl rfl [] (by kernel_rfl) ?_
  by_cases hl : 16384 < line.length
  · simp [Tryd.f5, h1, hl]
    refine (wakes_sp h h1 hg hg0).mono ?_
    rintro _ h2 ⟨rfl, hF⟩
    simp [hF.one]
  · simp [Tryd.f5, h1, hl]
    refine (Read_sp line a mark (by omega) hm h h1 hg hg0).mono ?_
    rintro _ h2 ⟨sl, rfl, hsl, hF⟩
    have h21 := hF.one
    have hgl : Gl h2 := by unfold Gl; rw [hF.get _ hg0]; exact hg
    have hn2 := hF.next
    have hcl := ctn_length line
    have hlf := ctn_lf line
    have wk : ∀ h3, Fr h2.next h2 h3 → CallW E0 X0 (.fn 8) [] h3 (fun v h' => v = .bool true ∧ Fr h3.next h3 h') := fun h3 hf =>
      wakes_sp h3 hf.one (by unfold Gl; rw [hf.get _ (by omega)]; exact hgl) (by have := hf.next; omega)
    have e1 : 0 < line.length → IntKind.i64.wrap ((line.length : Int) - 1) = ((line.length - 1 : Nat) : Int) := fun c => by rw [wrap_i64 (by omega) (by omega)]; omega
    have hx1 : 0 < line.length → idxB line ((line.length - 1 : Nat) : Int) = some (.int .u8 (bt line (line.length - 1)).toNat) := fun c => idxB_nat (by omega)
    have hlen := rdAt_len line a mark
    by_cases c1 : a < 0
    · obtain ⟨ad, rfl⟩ := hsl.slice
      have hr : rdAt line a mark = ([], 0) := by unfold rdAt; rw [if_pos (.inl c1)]
      rw [hr]
      rcases ctnN_cases line with ⟨c, hn⟩ | ⟨c, d, hn⟩ | ⟨c, d, hn⟩
      · simp [h21, c, c1]
        refine (wk h2 (Fr.refl h21)).mono ?_
        rintro _ h3 ⟨rfl, hF3⟩
        simp [hF3.one]
      · simp [h21, c, c1, e1 c, hx1 c, d]
        refine (wk h2 (Fr.refl h21)).mono ?_
        rintro _ h3 ⟨rfl, hF3⟩
        simp [hF3.one]
      · simp [h21, c, c1, e1 c, hx1 c, d]
        refine (wk h2 (Fr.refl h21)).mono ?_
        rintro _ h3 ⟨rfl, hF3⟩
        simp [hF3.one]
    obtain ⟨a, rfl⟩ : ∃ n : Nat, a = n := ⟨a.toNat, by omega⟩
    by_cases c2 : ctnN line < a
    · obtain ⟨ad, rfl⟩ := hsl.slice
      have hr : rdAt line a mark = ([], 0) := by unfold rdAt; rw [if_pos (.inr (by omega))]
      rw [hr]
      rcases ctnN_cases line with ⟨c, hn⟩ | ⟨c, d, hn⟩ | ⟨c, d, hn⟩
      · rw [hn] at c2
        simp [h21, c, c1, c2]
        refine (wk h2 (Fr.refl h21)).mono ?_
        rintro _ h3 ⟨rfl, hF3⟩
        simp [hF3.one]
      · rw [hn] at c2
        simp [h21, c, c1, c2, e1 c, hx1 c, d]
        refine (wk h2 (Fr.refl h21)).mono ?_
        rintro _ h3 ⟨rfl, hF3⟩
        simp [hF3.one]
      · rw [hn] at c2
        simp [h21, c, c1, c2, e1 c, hx1 c, d]
        refine (wk h2 (Fr.refl h21)).mono ?_
        rintro _ h3 ⟨rfl, hF3⟩
        simp [hF3.one]
    have hrd : rdAt line a mark = readM (ctn line) (lfOf line) a mark := by
      unfold rdAt
      rw [if_neg (by omega)]
      rfl
    obtain ⟨k', hk', hT⟩ := readM_tile (ctn line) (lfOf line) a mark (by omega)
    rw [← hrd] at hT
    generalize (rdAt line a mark).1 = l at *
    generalize (rdAt line a mark).2 = m at *
    obtain ⟨ad, rfl⟩ := hsl.slice
    have le := encs_length l
    -- GENERATED
    rcases ctnN_cases line with ⟨c, hn⟩ | ⟨c, d, hn⟩ | ⟨c, d, hn⟩
    · have c2' := c2
      rw [hn] at c2'
      simp [h21, c1, c2', c]
      refine wpd_loop (fun (k : Nat) fr h' => k ≤ l.length ∧ fr.get 10 = some (.int .i64 k) ∧ fr.get 1 = some (.int .i64 (endT a (l.take k))) ∧ Fr h2.next h2 h') (fun k => l.length - k) 0 ⟨by omega, by simp, by simp [endT], Fr.refl h21⟩ ?_
      rintro k fr h3 ⟨hk, hi, ha, hF3⟩ hf
      have h31 := hF3.one
      have g0 := hf 0 rfl
      have g2 := hf 2 rfl
      have g7 := hf 7 rfl
      have g8 := hf 8 rfl
      have g9 := hf 9 rfl
      simp at g0 g2 g7 g8 g9
      have hsl3 := hsl.of_get hF3.next (fun g _ hg => hF3.get g hg)
      have e3 : 0 < l.length → IntKind.i64.wrap ((l.length : Int) - 1) = ((l.length - 1 : Nat) : Int) := fun _ => by rw [wrap_i64 (by omega) (by omega)]; omega
      by_cases hkl : k < l.length
      · rcases hsl3 with ⟨e, _⟩ | ⟨_, _, g, hgB, hgn, ea, hgg⟩
        · omega
        cases ea
        have e3 := e3 (by omega)
        have q1 := encs_get l k hkl
        have b1 : k * 6 + 6 ≤ (encs l).length := by omega
        have P := hT.pcs k l[k] (List.getElem?_eq_getElem hkl)
        have HI := hT.hi k l[k] (List.getElem?_eq_getElem hkl)
        have hsu := endT_succ a hkl
        generalize l[k] = p at *
        obtain ⟨kd, fm, to, tx, rw', wh⟩ := p
        generalize endT a (l.take k) = t at *
        obtain ⟨f1, f2, f3, f4, f5, f6, f7, f8⟩ := P
        simp only at f1 f2 f3 f4 f5 f6 f7 f8 HI hsu
        have f1' : ¬ fm < t := by omega
        have f3' : ¬ to < fm := by omega
        have f4' : ¬ line.length < to := by omega
        have f9 : fm ≤ line.length := by omega
        have hw1 := wrap_succ (show k < 9223372036854775807 by omega)
        have hq : ∀ j, j < ((line.take fm).drop t).length → isBl (bt ((line.take fm).drop t) j) = true := by
          intro j hj
          simp at hj
          rw [bt_cut (by omega), ← bt_ctn (by omega)]
          exact f5 _ (by omega) (by omega)
        have hql : ((line.take fm).drop t).length < 2 ^ 62 := by simp; omega
        have e2 : IntKind.i64.wrap ((to : Int) - (fm : Int)) = ((to - fm : Nat) : Int) := by rw [wrap_i64 (by omega) (by omega)]; omega
        have f8' : ¬ to - fm < tx.length := by omega
        have post : ∀ (o1 o2 : DObj), Fr h2.next h2 ((h3.nw o1).put h3.next o2) := fun o1 o2 => by
          have hn3 := hF3.next
          exact (hF3.nw hn3 o1).put hn3 o2
        by_cases q : fm = to
        · have q' : (fm : Int) = (to : Int) := by omega
          have hx := f6 q
          have hk0 : ¬ 0 < k := by omega
          rcases hx.2 with hmk | hmk
          · simp [h31, hi, ha, g0, g2, g7, g8, g9, hkl, hgg, b1, q1, f1', f3', f4', eq_true q', f1, f9, encP, hk0, hmk]
            refine (blanks_sp _ hql hq _ (by simp [h31])).mono ?_
            rintro _ h4 ⟨rfl, rfl⟩
            by_cases w : kd = 51
            · by_cases v : ctnN line < to
              · have hx : k + 1 = l.length ∧ m ≠ 0 := by
                  rcases HI with h | ⟨h, h' | h', _⟩
                  · omega
                  · omega
                  · exact ⟨h, h'.2⟩
                have e4 : (k : Int) = ((l.length - 1 : Nat) : Int) := by omega
                have hm0 : ¬ (m : Int) = 0 := by omega
                rw [hn] at v
                simp [h31, hi, ha, g0, g2, g7, g8, g9, w, v, e2, f8', hw1, e3, eq_true e4, hx.2, hm0]
                exact ⟨k + 1, by omega, by omega, rfl, by rw [hsu], post _ _⟩
              · rw [hn] at v
                simp [h31, hi, ha, g0, g2, g7, g8, g9, w, v, e2, f8', hw1]
                exact ⟨k + 1, by omega, by omega, rfl, by rw [hsu], post _ _⟩
            · have w' : ¬ (kd : Int) = 51 := by omega
              obtain ⟨rfl, rfl, rfl⟩ := f7 w
              by_cases v : ctnN line < to
              · have hx : k + 1 = l.length ∧ kd = 54 := by
                  rcases HI with h | ⟨h, h' | h', _⟩
                  · omega
                  · exact ⟨h, h'⟩
                  · omega
                have e4 : (k : Int) = ((l.length - 1 : Nat) : Int) := by omega
                rw [hn] at v
                simp [h31, hi, ha, g0, g2, g7, g8, g9, v, e2, f8', hw1, e3, eq_true e4, hx.2]
                exact ⟨k + 1, by omega, by omega, rfl, by rw [hsu], post _ _⟩
              · rw [hn] at v
                simp [h31, hi, ha, g0, g2, g7, g8, g9, w, w', v, e2, f8', hw1]
                exact ⟨k + 1, by omega, by omega, rfl, by rw [hsu], post _ _⟩
          · simp [h31, hi, ha, g0, g2, g7, g8, g9, hkl, hgg, b1, q1, f1', f3', f4', eq_true q', f1, f9, encP, hk0, hmk]
            refine (blanks_sp _ hql hq _ (by simp [h31])).mono ?_
            rintro _ h4 ⟨rfl, rfl⟩
            by_cases w : kd = 51
            · by_cases v : ctnN line < to
              · have hx : k + 1 = l.length ∧ m ≠ 0 := by
                  rcases HI with h | ⟨h, h' | h', _⟩
                  · omega
                  · omega
                  · exact ⟨h, h'.2⟩
                have e4 : (k : Int) = ((l.length - 1 : Nat) : Int) := by omega
                have hm0 : ¬ (m : Int) = 0 := by omega
                rw [hn] at v
                simp [h31, hi, ha, g0, g2, g7, g8, g9, w, v, e2, f8', hw1, e3, eq_true e4, hx.2, hm0]
                exact ⟨k + 1, by omega, by omega, rfl, by rw [hsu], post _ _⟩
              · rw [hn] at v
                simp [h31, hi, ha, g0, g2, g7, g8, g9, w, v, e2, f8', hw1]
                exact ⟨k + 1, by omega, by omega, rfl, by rw [hsu], post _ _⟩
            · have w' : ¬ (kd : Int) = 51 := by omega
              obtain ⟨rfl, rfl, rfl⟩ := f7 w
              by_cases v : ctnN line < to
              · have hx : k + 1 = l.length ∧ kd = 54 := by
                  rcases HI with h | ⟨h, h' | h', _⟩
                  · omega
                  · exact ⟨h, h'⟩
                  · omega
                have e4 : (k : Int) = ((l.length - 1 : Nat) : Int) := by omega
                rw [hn] at v
                simp [h31, hi, ha, g0, g2, g7, g8, g9, v, e2, f8', hw1, e3, eq_true e4, hx.2]
                exact ⟨k + 1, by omega, by omega, rfl, by rw [hsu], post _ _⟩
              · rw [hn] at v
                simp [h31, hi, ha, g0, g2, g7, g8, g9, w, w', v, e2, f8', hw1]
                exact ⟨k + 1, by omega, by omega, rfl, by rw [hsu], post _ _⟩
        · have q' : ¬ ((fm : Int) = (to : Int)) := by omega
          simp [h31, hi, ha, g0, g2, g7, g8, g9, hkl, hgg, b1, q1, f1', f3', f4', q', f1, f9, encP]
          refine (blanks_sp _ hql hq _ (by simp [h31])).mono ?_
          rintro _ h4 ⟨rfl, rfl⟩
          by_cases w : kd = 51
          · by_cases v : ctnN line < to
            · have hx : k + 1 = l.length ∧ m ≠ 0 := by
                rcases HI with h | ⟨h, h' | h', _⟩
                · omega
                · omega
                · exact ⟨h, h'.2⟩
              have e4 : (k : Int) = ((l.length - 1 : Nat) : Int) := by omega
              have hm0 : ¬ (m : Int) = 0 := by omega
              rw [hn] at v
              simp [h31, hi, ha, g0, g2, g7, g8, g9, w, v, e2, f8', hw1, e3, eq_true e4, hx.2, hm0]
              exact ⟨k + 1, by omega, by omega, rfl, by rw [hsu], post _ _⟩
            · rw [hn] at v
              simp [h31, hi, ha, g0, g2, g7, g8, g9, w, v, e2, f8', hw1]
              exact ⟨k + 1, by omega, by omega, rfl, by rw [hsu], post _ _⟩
          · have w' : ¬ (kd : Int) = 51 := by omega
            obtain ⟨rfl, rfl, rfl⟩ := f7 w
            by_cases v : ctnN line < to
            · have hx : k + 1 = l.length ∧ kd = 54 := by
                rcases HI with h | ⟨h, h' | h', _⟩
                · omega
                · exact ⟨h, h'⟩
                · omega
              have e4 : (k : Int) = ((l.length - 1 : Nat) : Int) := by omega
              rw [hn] at v
              simp [h31, hi, ha, g0, g2, g7, g8, g9, v, e2, f8', hw1, e3, eq_true e4, hx.2]
              exact ⟨k + 1, by omega, by omega, rfl, by rw [hsu], post _ _⟩
            · rw [hn] at v
              simp [h31, hi, ha, g0, g2, g7, g8, g9, w, w', v, e2, f8', hw1]
              exact ⟨k + 1, by omega, by omega, rfl, by rw [hsu], post _ _⟩
      · have hkE : k = l.length := by omega
        subst hkE
        rw [List.take_length] at ha
        have hbl := hT.bl
        generalize endT a l = t at *
        obtain ⟨u, hu⟩ : ∃ u, u = min t (ctnN line) := ⟨_, rfl⟩
        have hmin : minD (.int .i64 t) (.int .i64 (ctnN line)) = some (.int .i64 u) := by
          by_cases c9 : ctnN line < t
          · have e9 : u = ctnN line := by omega
            simp [minD, c9, e9]
          · have e9 : u = t := by omega
            simp [minD, c9, e9]
        have hu1 : u ≤ ctnN line := by omega
        have hu2 : ctnN line ≤ line.length := ctnN_le line
        rw [hn] at hmin hu1 hu2
        have hq : ∀ j, j < (line.drop u).length → isBl (bt (line.drop u) j) = true := by
          intro j hj
          simp at hj
          rw [bt_drop, ← bt_ctn (by omega)]
          exact hbl _ (by omega) (by omega) (by omega)
        have hql : (line.drop u).length < 2 ^ 62 := by simp; omega
        by_cases hm0 : m = 0
        · simp [h31, hi, ha, g0, g2, g7, g8, g9, hm0, hmin, hu1, hu2]
          refine (blanks_sp _ hql hq _ h31).mono ?_
          rintro _ h4 ⟨rfl, rfl⟩
          simp [h31]
          refine (wk h4 hF3).mono ?_
          rintro _ h5 ⟨rfl, hF5⟩
          simp [hF5.one]
        · obtain ⟨hmm, _, p, hp, hpw, hpt⟩ := hT.mq hm0
          have hl0 : 0 < l.length := by
            rcases Nat.eq_zero_or_pos l.length with e | e
            · rw [List.length_eq_zero_iff.1 e] at hp; simp at hp
            · exact e
          have e3 := e3 hl0
          rcases hsl3 with ⟨e, _⟩ | ⟨_, _, g, hgB, hgn, ea, hgg⟩
          · omega
          cases ea
          have hpe : l[l.length - 1] = p := by
            rw [List.getLast?_eq_getElem?, List.getElem?_eq_getElem (by omega)] at hp
            simpa using hp
          have r5 : (encs l)[(l.length - 1) * 6 + 5]? = some (.bool false) := by rw [encs_at l _ _ (by omega) (by decide), hpe, ← hpw]; rfl
          have r2 : (encs l)[(l.length - 1) * 6 + 2]? = some (.int .i64 line.length) := by rw [encs_at l _ _ (by omega) (by decide), hpe, hlf, ← hcl, ← hpt]; rfl
          have b5 : (l.length - 1) * 6 + 5 < (encs l).length := by omega
          have b2 : (l.length - 1) * 6 + 2 < (encs l).length := by omega
          have r5 : (encs l)[(l.length - 1) * 6 + 5] = .bool false := (List.getElem?_eq_some_iff.1 r5).2
          have r2 : (encs l)[(l.length - 1) * 6 + 2] = .int .i64 line.length := (List.getElem?_eq_some_iff.1 r2).2
          have b6 : (l.length - 1) * 6 + 6 ≤ (encs l).length := by omega
          have hl1 : l.length - 1 < l.length := by omega
          have hl0' : ¬ l.length = 0 := by omega
          have hl0'' : ¬ (l.length : Int) = 0 := by omega
          rcases hmm with hmm | hmm
          · simp [h31, hi, ha, g0, g2, g7, g8, g9, hmm, hmin, hu1, hu2, e3, hgg, r5, r2, b5, b2, b6, hl0', hl0'', hl1]
            refine (blanks_sp _ hql hq _ h31).mono ?_
            rintro _ h4 ⟨rfl, rfl⟩
            simp [h31]
            refine (wk h4 hF3).mono ?_
            rintro _ h5 ⟨rfl, hF5⟩
            simp [hF5.one]
          · simp [h31, hi, ha, g0, g2, g7, g8, g9, hmm, hmin, hu1, hu2, e3, hgg, r5, r2, b5, b2, b6, hl0', hl0'', hl1]
            refine (blanks_sp _ hql hq _ h31).mono ?_
            rintro _ h4 ⟨rfl, rfl⟩
            simp [h31]
            refine (wk h4 hF3).mono ?_
            rintro _ h5 ⟨rfl, hF5⟩
            simp [hF5.one]
    · have c2' := c2
      rw [hn] at c2'
      simp [h21, c1, c2', c, e1 c, hx1 c, d]
      refine wpd_loop (fun (k : Nat) fr h' => k ≤ l.length ∧ fr.get 10 = some (.int .i64 k) ∧ fr.get 1 = some (.int .i64 (endT a (l.take k))) ∧ Fr h2.next h2 h') (fun k => l.length - k) 0 ⟨by omega, by simp, by simp [endT], Fr.refl h21⟩ ?_
      rintro k fr h3 ⟨hk, hi, ha, hF3⟩ hf
      have h31 := hF3.one
      have g0 := hf 0 rfl
      have g2 := hf 2 rfl
      have g7 := hf 7 rfl
      have g8 := hf 8 rfl
      have g9 := hf 9 rfl
      simp at g0 g2 g7 g8 g9
      have hsl3 := hsl.of_get hF3.next (fun g _ hg => hF3.get g hg)
      have e3 : 0 < l.length → IntKind.i64.wrap ((l.length : Int) - 1) = ((l.length - 1 : Nat) : Int) := fun _ => by rw [wrap_i64 (by omega) (by omega)]; omega
      by_cases hkl : k < l.length
      · rcases hsl3 with ⟨e, _⟩ | ⟨_, _, g, hgB, hgn, ea, hgg⟩
        · omega
        cases ea
        have e3 := e3 (by omega)
        have q1 := encs_get l k hkl
        have b1 : k * 6 + 6 ≤ (encs l).length := by omega
        have P := hT.pcs k l[k] (List.getElem?_eq_getElem hkl)
        have HI := hT.hi k l[k] (List.getElem?_eq_getElem hkl)
        have hsu := endT_succ a hkl
        generalize l[k] = p at *
        obtain ⟨kd, fm, to, tx, rw', wh⟩ := p
        generalize endT a (l.take k) = t at *
        obtain ⟨f1, f2, f3, f4, f5, f6, f7, f8⟩ := P
        simp only at f1 f2 f3 f4 f5 f6 f7 f8 HI hsu
        have f1' : ¬ fm < t := by omega
        have f3' : ¬ to < fm := by omega
        have f4' : ¬ line.length < to := by omega
        have f9 : fm ≤ line.length := by omega
        have hw1 := wrap_succ (show k < 9223372036854775807 by omega)
        have hq : ∀ j, j < ((line.take fm).drop t).length → isBl (bt ((line.take fm).drop t) j) = true := by
          intro j hj
          simp at hj
          rw [bt_cut (by omega), ← bt_ctn (by omega)]
          exact f5 _ (by omega) (by omega)
        have hql : ((line.take fm).drop t).length < 2 ^ 62 := by simp; omega
        have e2 : IntKind.i64.wrap ((to : Int) - (fm : Int)) = ((to - fm : Nat) : Int) := by rw [wrap_i64 (by omega) (by omega)]; omega
        have f8' : ¬ to - fm < tx.length := by omega
        have post : ∀ (o1 o2 : DObj), Fr h2.next h2 ((h3.nw o1).put h3.next o2) := fun o1 o2 => by
          have hn3 := hF3.next
          exact (hF3.nw hn3 o1).put hn3 o2
        by_cases q : fm = to
        · have q' : (fm : Int) = (to : Int) := by omega
          have hx := f6 q
          have hk0 : ¬ 0 < k := by omega
          rcases hx.2 with hmk | hmk
          · simp [h31, hi, ha, g0, g2, g7, g8, g9, hkl, hgg, b1, q1, f1', f3', f4', eq_true q', f1, f9, encP, hk0, hmk]
            refine (blanks_sp _ hql hq _ (by simp [h31])).mono ?_
            rintro _ h4 ⟨rfl, rfl⟩
            by_cases w : kd = 51
            · by_cases v : ctnN line < to
              · have hx : k + 1 = l.length ∧ m ≠ 0 := by
                  rcases HI with h | ⟨h, h' | h', _⟩
                  · omega
                  · omega
                  · exact ⟨h, h'.2⟩
                have e4 : (k : Int) = ((l.length - 1 : Nat) : Int) := by omega
                have hm0 : ¬ (m : Int) = 0 := by omega
                rw [hn] at v
                simp [h31, hi, ha, g0, g2, g7, g8, g9, w, v, e2, f8', hw1, e3, eq_true e4, hx.2, hm0]
                exact ⟨k + 1, by omega, by omega, rfl, by rw [hsu], post _ _⟩
              · rw [hn] at v
                simp [h31, hi, ha, g0, g2, g7, g8, g9, w, v, e2, f8', hw1]
                exact ⟨k + 1, by omega, by omega, rfl, by rw [hsu], post _ _⟩
            · have w' : ¬ (kd : Int) = 51 := by omega
              obtain ⟨rfl, rfl, rfl⟩ := f7 w
              by_cases v : ctnN line < to
              · have hx : k + 1 = l.length ∧ kd = 54 := by
                  rcases HI with h | ⟨h, h' | h', _⟩
                  · omega
                  · exact ⟨h, h'⟩
                  · omega
                have e4 : (k : Int) = ((l.length - 1 : Nat) : Int) := by omega
                rw [hn] at v
                simp [h31, hi, ha, g0, g2, g7, g8, g9, v, e2, f8', hw1, e3, eq_true e4, hx.2]
                exact ⟨k + 1, by omega, by omega, rfl, by rw [hsu], post _ _⟩
              · rw [hn] at v
                simp [h31, hi, ha, g0, g2, g7, g8, g9, w, w', v, e2, f8', hw1]
                exact ⟨k + 1, by omega, by omega, rfl, by rw [hsu], post _ _⟩
          · simp [h31, hi, ha, g0, g2, g7, g8, g9, hkl, hgg, b1, q1, f1', f3', f4', eq_true q', f1, f9, encP, hk0, hmk]
            refine (blanks_sp _ hql hq _ (by simp [h31])).mono ?_
            rintro _ h4 ⟨rfl, rfl⟩
            by_cases w : kd = 51
            · by_cases v : ctnN line < to
              · have hx : k + 1 = l.length ∧ m ≠ 0 := by
                  rcases HI with h | ⟨h, h' | h', _⟩
                  · omega
                  · omega
                  · exact ⟨h, h'.2⟩
                have e4 : (k : Int) = ((l.length - 1 : Nat) : Int) := by omega
                have hm0 : ¬ (m : Int) = 0 := by omega
                rw [hn] at v
                simp [h31, hi, ha, g0, g2, g7, g8, g9, w, v, e2, f8', hw1, e3, eq_true e4, hx.2, hm0]
                exact ⟨k + 1, by omega, by omega, rfl, by rw [hsu], post _ _⟩
              · rw [hn] at v
                simp [h31, hi, ha, g0, g2, g7, g8, g9, w, v, e2, f8', hw1]
                exact ⟨k + 1, by omega, by omega, rfl, by rw [hsu], post _ _⟩
            · have w' : ¬ (kd : Int) = 51 := by omega
              obtain ⟨rfl, rfl, rfl⟩ := f7 w
              by_cases v : ctnN line < to
              · have hx : k + 1 = l.length ∧ kd = 54 := by
                  rcases HI with h | ⟨h, h' | h', _⟩
                  · omega
                  · exact ⟨h, h'⟩
                  · omega
                have e4 : (k : Int) = ((l.length - 1 : Nat) : Int) := by omega
                rw [hn] at v
                simp [h31, hi, ha, g0, g2, g7, g8, g9, v, e2, f8', hw1, e3, eq_true e4, hx.2]
                exact ⟨k + 1, by omega, by omega, rfl, by rw [hsu], post _ _⟩
              · rw [hn] at v
                simp [h31, hi, ha, g0, g2, g7, g8, g9, w, w', v, e2, f8', hw1]
                exact ⟨k + 1, by omega, by omega, rfl, by rw [hsu], post _ _⟩
        · have q' : ¬ ((fm : Int) = (to : Int)) := by omega
          simp [h31, hi, ha, g0, g2, g7, g8, g9, hkl, hgg, b1, q1, f1', f3', f4', q', f1, f9, encP]
          refine (blanks_sp _ hql hq _ (by simp [h31])).mono ?_
          rintro _ h4 ⟨rfl, rfl⟩
          by_cases w : kd = 51
          · by_cases v : ctnN line < to
            · have hx : k + 1 = l.length ∧ m ≠ 0 := by
                rcases HI with h | ⟨h, h' | h', _⟩
                · omega
                · omega
                · exact ⟨h, h'.2⟩
              have e4 : (k : Int) = ((l.length - 1 : Nat) : Int) := by omega
              have hm0 : ¬ (m : Int) = 0 := by omega
              rw [hn] at v
              simp [h31, hi, ha, g0, g2, g7, g8, g9, w, v, e2, f8', hw1, e3, eq_true e4, hx.2, hm0]
              exact ⟨k + 1, by omega, by omega, rfl, by rw [hsu], post _ _⟩
            · rw [hn] at v
              simp [h31, hi, ha, g0, g2, g7, g8, g9, w, v, e2, f8', hw1]
              exact ⟨k + 1, by omega, by omega, rfl, by rw [hsu], post _ _⟩
          · have w' : ¬ (kd : Int) = 51 := by omega
            obtain ⟨rfl, rfl, rfl⟩ := f7 w
            by_cases v : ctnN line < to
            · have hx : k + 1 = l.length ∧ kd = 54 := by
                rcases HI with h | ⟨h, h' | h', _⟩
                · omega
                · exact ⟨h, h'⟩
                · omega
              have e4 : (k : Int) = ((l.length - 1 : Nat) : Int) := by omega
              rw [hn] at v
              simp [h31, hi, ha, g0, g2, g7, g8, g9, v, e2, f8', hw1, e3, eq_true e4, hx.2]
              exact ⟨k + 1, by omega, by omega, rfl, by rw [hsu], post _ _⟩
            · rw [hn] at v
              simp [h31, hi, ha, g0, g2, g7, g8, g9, w, w', v, e2, f8', hw1]
              exact ⟨k + 1, by omega, by omega, rfl, by rw [hsu], post _ _⟩
      · have hkE : k = l.length := by omega
        subst hkE
        rw [List.take_length] at ha
        have hbl := hT.bl
        generalize endT a l = t at *
        obtain ⟨u, hu⟩ : ∃ u, u = min t (ctnN line) := ⟨_, rfl⟩
        have hmin : minD (.int .i64 t) (.int .i64 (ctnN line)) = some (.int .i64 u) := by
          by_cases c9 : ctnN line < t
          · have e9 : u = ctnN line := by omega
            simp [minD, c9, e9]
          · have e9 : u = t := by omega
            simp [minD, c9, e9]
        have hu1 : u ≤ ctnN line := by omega
        have hu2 : ctnN line ≤ line.length := ctnN_le line
        rw [hn] at hmin hu1 hu2
        have hq : ∀ j, j < (line.drop u).length → isBl (bt (line.drop u) j) = true := by
          intro j hj
          simp at hj
          rw [bt_drop, ← bt_ctn (by omega)]
          exact hbl _ (by omega) (by omega) (by omega)
        have hql : (line.drop u).length < 2 ^ 62 := by simp; omega
        by_cases hm0 : m = 0
        · simp [h31, hi, ha, g0, g2, g7, g8, g9, hm0, hmin, hu1, hu2]
          refine (blanks_sp _ hql hq _ h31).mono ?_
          rintro _ h4 ⟨rfl, rfl⟩
          simp [h31]
          refine (wk h4 hF3).mono ?_
          rintro _ h5 ⟨rfl, hF5⟩
          simp [hF5.one]
        · obtain ⟨hmm, _, p, hp, hpw, hpt⟩ := hT.mq hm0
          have hl0 : 0 < l.length := by
            rcases Nat.eq_zero_or_pos l.length with e | e
            · rw [List.length_eq_zero_iff.1 e] at hp; simp at hp
            · exact e
          have e3 := e3 hl0
          rcases hsl3 with ⟨e, _⟩ | ⟨_, _, g, hgB, hgn, ea, hgg⟩
          · omega
          cases ea
          have hpe : l[l.length - 1] = p := by
            rw [List.getLast?_eq_getElem?, List.getElem?_eq_getElem (by omega)] at hp
            simpa using hp
          have r5 : (encs l)[(l.length - 1) * 6 + 5]? = some (.bool false) := by rw [encs_at l _ _ (by omega) (by decide), hpe, ← hpw]; rfl
          have r2 : (encs l)[(l.length - 1) * 6 + 2]? = some (.int .i64 line.length) := by rw [encs_at l _ _ (by omega) (by decide), hpe, hlf, ← hcl, ← hpt]; rfl
          have b5 : (l.length - 1) * 6 + 5 < (encs l).length := by omega
          have b2 : (l.length - 1) * 6 + 2 < (encs l).length := by omega
          have r5 : (encs l)[(l.length - 1) * 6 + 5] = .bool false := (List.getElem?_eq_some_iff.1 r5).2
          have r2 : (encs l)[(l.length - 1) * 6 + 2] = .int .i64 line.length := (List.getElem?_eq_some_iff.1 r2).2
          have b6 : (l.length - 1) * 6 + 6 ≤ (encs l).length := by omega
          have hl1 : l.length - 1 < l.length := by omega
          have hl0' : ¬ l.length = 0 := by omega
          have hl0'' : ¬ (l.length : Int) = 0 := by omega
          rcases hmm with hmm | hmm
          · simp [h31, hi, ha, g0, g2, g7, g8, g9, hmm, hmin, hu1, hu2, e3, hgg, r5, r2, b5, b2, b6, hl0', hl0'', hl1]
            refine (blanks_sp _ hql hq _ h31).mono ?_
            rintro _ h4 ⟨rfl, rfl⟩
            simp [h31]
            refine (wk h4 hF3).mono ?_
            rintro _ h5 ⟨rfl, hF5⟩
            simp [hF5.one]
          · simp [h31, hi, ha, g0, g2, g7, g8, g9, hmm, hmin, hu1, hu2, e3, hgg, r5, r2, b5, b2, b6, hl0', hl0'', hl1]
            refine (blanks_sp _ hql hq _ h31).mono ?_
            rintro _ h4 ⟨rfl, rfl⟩
            simp [h31]
            refine (wk h4 hF3).mono ?_
            rintro _ h5 ⟨rfl, hF5⟩
            simp [hF5.one]
    · have c2' := c2
      rw [hn] at c2'
      simp [h21, c1, c2', c, e1 c, hx1 c, d]
      refine wpd_loop (fun (k : Nat) fr h' => k ≤ l.length ∧ fr.get 10 = some (.int .i64 k) ∧ fr.get 1 = some (.int .i64 (endT a (l.take k))) ∧ Fr h2.next h2 h') (fun k => l.length - k) 0 ⟨by omega, by simp, by simp [endT], Fr.refl h21⟩ ?_
      rintro k fr h3 ⟨hk, hi, ha, hF3⟩ hf
      have h31 := hF3.one
      have g0 := hf 0 rfl
      have g2 := hf 2 rfl
      have g7 := hf 7 rfl
      have g8 := hf 8 rfl
      have g9 := hf 9 rfl
      simp at g0 g2 g7 g8 g9
      have hsl3 := hsl.of_get hF3.next (fun g _ hg => hF3.get g hg)
      have e3 : 0 < l.length → IntKind.i64.wrap ((l.length : Int) - 1) = ((l.length - 1 : Nat) : Int) := fun _ => by rw [wrap_i64 (by omega) (by omega)]; omega
      by_cases hkl : k < l.length
      · rcases hsl3 with ⟨e, _⟩ | ⟨_, _, g, hgB, hgn, ea, hgg⟩
        · omega
        cases ea
        have e3 := e3 (by omega)
        have q1 := encs_get l k hkl
        have b1 : k * 6 + 6 ≤ (encs l).length := by omega
        have P := hT.pcs k l[k] (List.getElem?_eq_getElem hkl)
        have HI := hT.hi k l[k] (List.getElem?_eq_getElem hkl)
        have hsu := endT_succ a hkl
        generalize l[k] = p at *
        obtain ⟨kd, fm, to, tx, rw', wh⟩ := p
        generalize endT a (l.take k) = t at *
        obtain ⟨f1, f2, f3, f4, f5, f6, f7, f8⟩ := P
        simp only at f1 f2 f3 f4 f5 f6 f7 f8 HI hsu
        have f1' : ¬ fm < t := by omega
        have f3' : ¬ to < fm := by omega
        have f4' : ¬ line.length < to := by omega
        have f9 : fm ≤ line.length := by omega
        have hw1 := wrap_succ (show k < 9223372036854775807 by omega)
        have hq : ∀ j, j < ((line.take fm).drop t).length → isBl (bt ((line.take fm).drop t) j) = true := by
          intro j hj
          simp at hj
          rw [bt_cut (by omega), ← bt_ctn (by omega)]
          exact f5 _ (by omega) (by omega)
        have hql : ((line.take fm).drop t).length < 2 ^ 62 := by simp; omega
        have e2 : IntKind.i64.wrap ((to : Int) - (fm : Int)) = ((to - fm : Nat) : Int) := by rw [wrap_i64 (by omega) (by omega)]; omega
        have f8' : ¬ to - fm < tx.length := by omega
        have post : ∀ (o1 o2 : DObj), Fr h2.next h2 ((h3.nw o1).put h3.next o2) := fun o1 o2 => by
          have hn3 := hF3.next
          exact (hF3.nw hn3 o1).put hn3 o2
        by_cases q : fm = to
        · have q' : (fm : Int) = (to : Int) := by omega
          have hx := f6 q
          have hk0 : ¬ 0 < k := by omega
          rcases hx.2 with hmk | hmk
          · simp [h31, hi, ha, g0, g2, g7, g8, g9, hkl, hgg, b1, q1, f1', f3', f4', eq_true q', f1, f9, encP, hk0, hmk]
            refine (blanks_sp _ hql hq _ (by simp [h31])).mono ?_
            rintro _ h4 ⟨rfl, rfl⟩
            by_cases w : kd = 51
            · by_cases v : ctnN line < to
              · have hx : k + 1 = l.length ∧ m ≠ 0 := by
                  rcases HI with h | ⟨h, h' | h', _⟩
                  · omega
                  · omega
                  · exact ⟨h, h'.2⟩
                have e4 : (k : Int) = ((l.length - 1 : Nat) : Int) := by omega
                have hm0 : ¬ (m : Int) = 0 := by omega
                rw [hn] at v
                simp [h31, hi, ha, g0, g2, g7, g8, g9, w, v, e2, f8', hw1, e3, eq_true e4, hx.2, hm0]
                exact ⟨k + 1, by omega, by omega, rfl, by rw [hsu], post _ _⟩
              · rw [hn] at v
                simp [h31, hi, ha, g0, g2, g7, g8, g9, w, v, e2, f8', hw1]
                exact ⟨k + 1, by omega, by omega, rfl, by rw [hsu], post _ _⟩
            · have w' : ¬ (kd : Int) = 51 := by omega
              obtain ⟨rfl, rfl, rfl⟩ := f7 w
              by_cases v : ctnN line < to
              · have hx : k + 1 = l.length ∧ kd = 54 := by
                  rcases HI with h | ⟨h, h' | h', _⟩
                  · omega
                  · exact ⟨h, h'⟩
                  · omega
                have e4 : (k : Int) = ((l.length - 1 : Nat) : Int) := by omega
                rw [hn] at v
                simp [h31, hi, ha, g0, g2, g7, g8, g9, v, e2, f8', hw1, e3, eq_true e4, hx.2]
                exact ⟨k + 1, by omega, by omega, rfl, by rw [hsu], post _ _⟩
              · rw [hn] at v
                simp [h31, hi, ha, g0, g2, g7, g8, g9, w, w', v, e2, f8', hw1]
                exact ⟨k + 1, by omega, by omega, rfl, by rw [hsu], post _ _⟩
          · simp [h31, hi, ha, g0, g2, g7, g8, g9, hkl, hgg, b1, q1, f1', f3', f4', eq_true q', f1, f9, encP, hk0, hmk]
            refine (blanks_sp _ hql hq _ (by simp [h31])).mono ?_
            rintro _ h4 ⟨rfl, rfl⟩
            by_cases w : kd = 51
            · by_cases v : ctnN line < to
              · have hx : k + 1 = l.length ∧ m ≠ 0 := by
                  rcases HI with h | ⟨h, h' | h', _⟩
                  · omega
                  · omega
                  · exact ⟨h, h'.2⟩
                have e4 : (k : Int) = ((l.length - 1 : Nat) : Int) := by omega
                have hm0 : ¬ (m : Int) = 0 := by omega
                rw [hn] at v
                simp [h31, hi, ha, g0, g2, g7, g8, g9, w, v, e2, f8', hw1, e3, eq_true e4, hx.2, hm0]
                exact ⟨k + 1, by omega, by omega, rfl, by rw [hsu], post _ _⟩
              · rw [hn] at v
                simp [h31, hi, ha, g0, g2, g7, g8, g9, w, v, e2, f8', hw1]
                exact ⟨k + 1, by omega, by omega, rfl, by rw [hsu], post _ _⟩
            · have w' : ¬ (kd : Int) = 51 := by omega
              obtain ⟨rfl, rfl, rfl⟩ := f7 w
              by_cases v : ctnN line < to
              · have hx : k + 1 = l.length ∧ kd = 54 := by
                  rcases HI with h | ⟨h, h' | h', _⟩
                  · omega
                  · exact ⟨h, h'⟩
                  · omega
                have e4 : (k : Int) = ((l.length - 1 : Nat) : Int) := by omega
                rw [hn] at v
                simp [h31, hi, ha, g0, g2, g7, g8, g9, v, e2, f8', hw1, e3, eq_true e4, hx.2]
                exact ⟨k + 1, by omega, by omega, rfl, by rw [hsu], post _ _⟩
              · rw [hn] at v
                simp [h31, hi, ha, g0, g2, g7, g8, g9, w, w', v, e2, f8', hw1]
                exact ⟨k + 1, by omega, by omega, rfl, by rw [hsu], post _ _⟩
        · have q' : ¬ ((fm : Int) = (to : Int)) := by omega
          simp [h31, hi, ha, g0, g2, g7, g8, g9, hkl, hgg, b1, q1, f1', f3', f4', q', f1, f9, encP]
          refine (blanks_sp _ hql hq _ (by simp [h31])).mono ?_
          rintro _ h4 ⟨rfl, rfl⟩
          by_cases w : kd = 51
          · by_cases v : ctnN line < to
            · have hx : k + 1 = l.length ∧ m ≠ 0 := by
                rcases HI with h | ⟨h, h' | h', _⟩
                · omega
                · omega
                · exact ⟨h, h'.2⟩
              have e4 : (k : Int) = ((l.length - 1 : Nat) : Int) := by omega
              have hm0 : ¬ (m : Int) = 0 := by omega
              rw [hn] at v
              simp [h31, hi, ha, g0, g2, g7, g8, g9, w, v, e2, f8', hw1, e3, eq_true e4, hx.2, hm0]
              exact ⟨k + 1, by omega, by omega, rfl, by rw [hsu], post _ _⟩
            · rw [hn] at v
              simp [h31, hi, ha, g0, g2, g7, g8, g9, w, v, e2, f8', hw1]
              exact ⟨k + 1, by omega, by omega, rfl, by rw [hsu], post _ _⟩
          · have w' : ¬ (kd : Int) = 51 := by omega
            obtain ⟨rfl, rfl, rfl⟩ := f7 w
            by_cases v : ctnN line < to
            · have hx : k + 1 = l.length ∧ kd = 54 := by
                rcases HI with h | ⟨h, h' | h', _⟩
                · omega
                · exact ⟨h, h'⟩
                · omega
              have e4 : (k : Int) = ((l.length - 1 : Nat) : Int) := by omega
              rw [hn] at v
              simp [h31, hi, ha, g0, g2, g7, g8, g9, v, e2, f8', hw1, e3, eq_true e4, hx.2]
              exact ⟨k + 1, by omega, by omega, rfl, by rw [hsu], post _ _⟩
            · rw [hn] at v
              simp [h31, hi, ha, g0, g2, g7, g8, g9, w, w', v, e2, f8', hw1]
              exact ⟨k + 1, by omega, by omega, rfl, by rw [hsu], post _ _⟩
      · have hkE : k = l.length := by omega
        subst hkE
        rw [List.take_length] at ha
        have hbl := hT.bl
        generalize endT a l = t at *
        obtain ⟨u, hu⟩ : ∃ u, u = min t (ctnN line) := ⟨_, rfl⟩
        have hmin : minD (.int .i64 t) (.int .i64 (ctnN line)) = some (.int .i64 u) := by
          by_cases c9 : ctnN line < t
          · have e9 : u = ctnN line := by omega
            simp [minD, c9, e9]
          · have e9 : u = t := by omega
            simp [minD, c9, e9]
        have hu1 : u ≤ ctnN line := by omega
        have hu2 : ctnN line ≤ line.length := ctnN_le line
        rw [hn] at hmin hu1 hu2
        have hq : ∀ j, j < ((line.take (line.length - 1)).drop u).length → isBl (bt ((line.take (line.length - 1)).drop u) j) = true := by
          intro j hj
          simp at hj
          rw [bt_cut (by omega), ← bt_ctn (by omega)]
          exact hbl _ (by omega) (by omega) (by omega)
        have hql : ((line.take (line.length - 1)).drop u).length < 2 ^ 62 := by simp; omega
        by_cases hm0 : m = 0
        · simp [h31, hi, ha, g0, g2, g7, g8, g9, hm0, hmin, hu1, hu2]
          refine (blanks_sp _ hql hq _ h31).mono ?_
          rintro _ h4 ⟨rfl, rfl⟩
          simp [h31]
          refine (wk h4 hF3).mono ?_
          rintro _ h5 ⟨rfl, hF5⟩
          simp [hF5.one]
        · obtain ⟨hmm, _, p, hp, hpw, hpt⟩ := hT.mq hm0
          have hl0 : 0 < l.length := by
            rcases Nat.eq_zero_or_pos l.length with e | e
            · rw [List.length_eq_zero_iff.1 e] at hp; simp at hp
            · exact e
          have e3 := e3 hl0
          rcases hsl3 with ⟨e, _⟩ | ⟨_, _, g, hgB, hgn, ea, hgg⟩
          · omega
          cases ea
          have hpe : l[l.length - 1] = p := by
            rw [List.getLast?_eq_getElem?, List.getElem?_eq_getElem (by omega)] at hp
            simpa using hp
          have r5 : (encs l)[(l.length - 1) * 6 + 5]? = some (.bool false) := by rw [encs_at l _ _ (by omega) (by decide), hpe, ← hpw]; rfl
          have r2 : (encs l)[(l.length - 1) * 6 + 2]? = some (.int .i64 line.length) := by rw [encs_at l _ _ (by omega) (by decide), hpe, hlf, ← hcl, ← hpt]; rfl
          have b5 : (l.length - 1) * 6 + 5 < (encs l).length := by omega
          have b2 : (l.length - 1) * 6 + 2 < (encs l).length := by omega
          have r5 : (encs l)[(l.length - 1) * 6 + 5] = .bool false := (List.getElem?_eq_some_iff.1 r5).2
          have r2 : (encs l)[(l.length - 1) * 6 + 2] = .int .i64 line.length := (List.getElem?_eq_some_iff.1 r2).2
          have b6 : (l.length - 1) * 6 + 6 ≤ (encs l).length := by omega
          have hl1 : l.length - 1 < l.length := by omega
          have hl0' : ¬ l.length = 0 := by omega
          have hl0'' : ¬ (l.length : Int) = 0 := by omega
          rcases hmm with hmm | hmm
          · simp [h31, hi, ha, g0, g2, g7, g8, g9, hmm, hmin, hu1, hu2, e3, hgg, r5, r2, b5, b2, b6, hl0', hl0'', hl1]
            refine (blanks_sp _ hql hq _ h31).mono ?_
            rintro _ h4 ⟨rfl, rfl⟩
            simp [h31]
            refine (wk h4 hF3).mono ?_
            rintro _ h5 ⟨rfl, hF5⟩
            simp [hF5.one]
          · simp [h31, hi, ha, g0, g2, g7, g8, g9, hmm, hmin, hu1, hu2, e3, hgg, r5, r2, b5, b2, b6, hl0', hl0'', hl1]
            refine (blanks_sp _ hql hq _ h31).mono ?_
            rintro _ h4 ⟨rfl, rfl⟩
            simp [h31]
            refine (wk h4 hF3).mono ?_
            rintro _ h5 ⟨rfl, hF5⟩
            simp [hF5.one]
end Go.Dm
