/- What the document's 'number' and 'Parse' come to. -/
import Derived.Test.YtnmfdjmejpioiaaDoorTxB
set_option linter.unusedVariables false
set_option linter.unusedSimpArgs false
namespace Go.Dm
open Go.Proofs
theorem bt_drop (s : List UInt8) (k j : Nat) : bt (s.drop k) j = bt s (k + j) := by simp [bt, List.getD]
theorem take_bt {t : List UInt8} {j : Nat} (h : j < t.length) : t.take (j + 1) = t.take j ++ [bt t j] := by
  rw [List.take_succ_eq_append_getElem h]
  simp [bt, List.getD, h]
theorem val_snoc {t : List UInt8} {j : Nat} (h : j < t.length) : valN (t.take (j + 1)) = 10 * valN (t.take j) + ((bt t j).toNat - 48) := by
  rw [take_bt h]; exact valF_app _ _ _
theorem tw_take {t : List UInt8} {j : Nat} (h : (t.take j).all isDig = true) (hj : j ≤ t.length) (hn : j < t.length → isDig (bt t j) = false) : t.takeWhile isDig = t.take j := by
  by_cases hl : j < t.length
  · have e : t = t.take j ++ bt t j :: t.drop (j + 1) := by
      conv => lhs; rw [← List.take_append_drop (j + 1) t, take_bt hl]
      simp
    conv => lhs; rw [e]
    exact tw_all h _ (hn hl) _
  · have e : t.take j = t := List.take_of_length_le (by omega)
    rw [e] at h ⊢
    clear e hn hl hj
    induction t with
    | nil => rfl
    | cons c w ih =>
      simp only [List.all_cons, Bool.and_eq_true] at h
      simp [h.1, ih h.2]
theorem valF_pre (u v : List UInt8) : ∀ n, valF n u ≤ valF n (u ++ v) := by
  induction u with
  | nil => intro n; exact valF_le v n
  | cons c u ih => intro n; exact ih _
theorem tw_pre {t : List UInt8} {j : Nat} (h : (t.take j).all isDig = true) : ∃ v, t.takeWhile isDig = t.take j ++ v := by
  induction t generalizing j with
  | nil => exact ⟨[], by simp⟩
  | cons c w ih =>
    cases j with
    | zero => exact ⟨_, rfl⟩
    | succ j =>
      simp only [List.take_succ_cons, List.all_cons, Bool.and_eq_true] at h
      obtain ⟨v, hv⟩ := ih h.2
      exact ⟨v, by simp [h.1, hv]⟩
theorem fld_over {t : List UInt8} {j : Nat} {e : UInt8} (h : (t.take j).all isDig = true) (hv : 1099511627776 < valN (t.take j)) : fld e t = none := by
  obtain ⟨v, e1⟩ := tw_pre h
  have hn : numv (t.takeWhile isDig) = none := by
    cases hq : numv (t.takeWhile isDig) with
    | none => rfl
    | some n =>
      exfalso
      unfold numv at hq
      split at hq
      · cases hq
      · split at hq
        · rename_i hle
          rw [e1] at hle
          have := valF_pre (t.take j) v 0
          unfold valN at hle hv
          omega
        · cases hq
  unfold fld
  rw [hn]
/-- What 'number' hands back. -/
def numR (s : List UInt8) (k : Nat) (e : UInt8) : Int × Int := match fld e (s.drop k) with
  | some (n, r) => ((n : Int), ((s.length - r.length : Nat) : Int))
  | none => (0, -1)
theorem fld_take {t : List UInt8} {j : Nat} {e : UInt8} (h : t.takeWhile isDig = t.take j) (hj : j ≤ t.length) : fld e t = match numv (t.take j) with
    | some n => if j < t.length ∧ bt t j = e then some (n, t.drop (j + 1)) else none
    | none => none := by
  unfold fld
  rw [h, List.length_take, Nat.min_eq_left hj]
  by_cases hl : j < t.length
  · rw [List.drop_eq_getElem_cons hl]
    have hb : bt t j = t[j] := by simp [bt, List.getD, hl]
    cases numv (t.take j) with
    | none => rfl
    | some n => simp [hl, hb]
  · rw [List.drop_eq_nil_of_le (by omega)]
    cases numv (t.take j) with
    | none => rfl
    | some n => simp [hl]
set_option maxRecDepth 100000 in
set_option maxHeartbeats 16000000 in
theorem refnum_sp (s : List UInt8) (k : Nat) (e : UInt8) (hk : k ≤ s.length) (hs : s.length < 2 ^ 40) (h : H) (h1 : h.one = []) :
    CallW E0 X0 (.fn 48) [str s, .int .i64 k, .int .u8 e.toNat] h (fun r h' => r = .tuple #[.int .i64 (numR s k e).1, .int .i64 (numR s k e).2] ∧ h' = h) := by
  refine CallW.body efn48 rfl rfl rfl [] (by kernel_rfl) ?_
  obtain ⟨t, ht⟩ : ∃ t, t = s.drop k := ⟨_, rfl⟩
  have htl : t.length = s.length - k := by rw [ht, List.length_drop]
  have hR : numR s k e = match fld e t with
    | some (n, r) => ((n : Int), ((s.length - r.length : Nat) : Int))
    | none => (0, -1) := by unfold numR; rw [ht]
  have hbt : ∀ j, bt t j = bt s (k + j) := fun j => by rw [ht, bt_drop]
  have hv00 : valN (t.take 0) = 0 := rfl
  simp [Tryd.f48, h1]
  refine wpd_loop (fun (j : Nat) fr h3 => j ≤ t.length ∧ fr.get 9 = some (.int .i64 ((k + j : Nat) : Int)) ∧ fr.get 8 = some (.int .i64 (valN (t.take j) : Nat)) ∧ (t.take j).all isDig = true ∧ valN (t.take j) ≤ 1099511627776 ∧ h3 = h) (fun j => t.length - j) 0 ⟨by omega, by simp, by rw [hv00]; simp, by simp, by rw [hv00]; exact Nat.zero_le _, rfl⟩ ?_
  rintro j fr h3 ⟨hj, f9, f8, ha, hv, rfl⟩ hf
  have g0 := hf 0 rfl
  have g1 := hf 1 rfl
  have g2 := hf 2 rfl
  simp at g0 g1 g2
  obtain ⟨i, hi⟩ : ∃ i, i = k + j := ⟨_, rfl⟩
  rw [← hi] at f9
  by_cases hl : j < t.length
  · have hil : i < s.length := by omega
    have e1 : (i : Int) < s.length := by omega
    have hx := idxB_nat hil
    have hbj := hbt j
    rw [← hi] at hbj
    rw [← hbj] at hx
    by_cases hd : isDig (bt t j) = true
    · have hsn := val_snoc hl
      have ha2 : (t.take (j + 1)).all isDig = true := by rw [take_bt hl, List.all_append, ha]; simp [hd]
      have hov := fun hv2 => fld_over (e := e) ha2 hv2
      have hd' : 48 ≤ (bt t j).toNat ∧ (bt t j).toNat ≤ 57 := by simpa [isDig] using hd
      obtain ⟨n2, hn2⟩ : ∃ n2, valN (t.take (j + 1)) = n2 := ⟨_, rfl⟩
      rw [hn2] at hsn hov
      generalize valN (t.take j) = n at *
      generalize (bt t j).toNat = c at *
      have c1 : (48 : Int) ≤ c := by omega
      have c2 : (c : Int) ≤ 57 := by omega
      have w1 : IntKind.i64.wrap (10 * (n : Int)) = 10 * (n : Int) := wrap_i64 (by omega) (by omega)
      have w2 : IntKind.u8.wrap ((c : Int) - 48) = (c : Int) - 48 := wrap_u8 (by omega) (by omega)
      have w3 : IntKind.i64.wrap ((c : Int) - 48) = (c : Int) - 48 := wrap_i64 (by omega) (by omega)
      have w4 : IntKind.i64.wrap (10 * (n : Int) + ((c : Int) - 48)) = (n2 : Int) := by rw [wrap_i64 (by omega) (by omega)]; omega
      have w5 : IntKind.i64.wrap ((i : Int) + 1) = ((i + 1 : Nat) : Int) := wrap_succ (by omega)
      by_cases hv2 : 1099511627776 < n2
      · have hn := hov hv2
        have hv3 : (1099511627776 : Int) < n2 := by omega
        rw [hn] at hR
        simp [f9, f8, g0, h1, e1, hx, c1, c2, w1, w2, w3, w4, hv3, hR]
      · have hv3 : ¬ (1099511627776 : Int) < n2 := by omega
        simp [f9, f8, g0, h1, e1, hx, c1, c2, w1, w2, w3, w4, w5, hv3]
        refine ⟨j + 1, by omega, by omega, by omega, by rw [hn2], ?_, by rw [hn2]; omega⟩
        exact List.all_eq_true.1 ha2
    · have htw := tw_take ha (by omega) (fun _ => by simpa using hd)
      have hft := fld_take (e := e) htw (by omega)
      have hwk1 : IntKind.i64.wrap ((k : Int) + 1) = (k : Int) + 1 := wrap_i64 (by omega) (by omega)
      have e2 : ¬ (i : Int) = s.length := by omega
      have hd' : ¬ (48 ≤ (bt t j).toNat ∧ (bt t j).toNat ≤ 57) := by simpa [isDig] using hd
      by_cases c1 : (48 : Int) ≤ (bt t j).toNat
      · have c2 : ¬ (((bt t j).toNat : Nat) : Int) ≤ 57 := by omega
        have c3 : ¬ (bt t j).toNat ≤ 57 := by omega
        have c4 : 48 ≤ (bt t j).toNat := by omega
        by_cases j0 : j = 0
        · have hnv : numv (t.take j) = none := by rw [j0]; rfl
          rw [hnv] at hft
          have ei : (i : Int) = (k : Int) := by omega
          rw [hft] at hR
          have ek1 : (k : Int) < s.length := by omega
          have ek2 : k < s.length := by omega
          have ek3 : ¬ (k : Int) = s.length := by omega
          have hxk : idxB s (k : Int) = some (.int .u8 ((bt t j).toNat : Nat)) := by rw [← ei]; exact hx
          rw [ei] at f9
          generalize (bt t j).toNat = c at *
          simp [f9, f8, g0, g1, g2, h1, e1, e2, hx, c1, c2, c3, c4, ek1, ek2, ek3, hxk, hR]
        have ei : ¬ (i : Int) = (k : Int) := by omega
        by_cases ce : ¬ bt t j = e
        · have hft2 : fld e t = none := by
            rw [hft]
            cases numv (t.take j) with
            | none => rfl
            | some n => simp [ce]
          rw [hft2] at hR
          have ce' : ¬ ((bt t j).toNat : Int) = (e.toNat : Int) := by
            intro e0
            exact ce (UInt8.toNat_inj.1 (by omega))
          have ce2 : ¬ (bt t j).toNat = e.toNat := by omega
          generalize (bt t j).toNat = c at *
          simp [f9, f8, g0, g1, g2, h1, e1, e2, hx, c1, c2, c3, c4, ei, ce', ce2, hR]
        have ce : bt t j = e := Classical.not_not.1 ce
        have ce' : (bt t j).toNat = e.toNat := by rw [ce]
        by_cases lz : 1 < j ∧ bt t 0 = 48
        · have hnv : numv (t.take j) = none := by
            unfold numv
            rw [if_pos]
            refine .inr (.inl ⟨by rw [List.length_take]; omega, ?_⟩)
            rw [← lz.2]
            cases t with
            | nil => simp at hl
            | cons c w => cases j with
              | zero => omega
              | succ j => simp [bt]
          rw [hnv] at hft
          rw [hft] at hR
          have l1 : (k : Int) + 1 < (i : Int) := by omega
          have hb0 : (bt s k).toNat = 48 := by rw [show bt s k = bt t 0 by rw [hbt, Nat.add_zero], lz.2]; rfl
          have hx0 := idxB_nat (l := s) (k := k) (by omega)
          rw [hb0] at hx0
          simp [f9, f8, g0, g1, g2, h1, e1, e2, hx, c1, c2, c3, c4, ei, ce'.symm, l1, hwk1, hx0, hR]
        have hnv : numv (t.take j) = some (valN (t.take j)) := by
          rw [numv_of ?_ ?_ ha, if_pos hv]
          · intro e0; have := congrArg List.length e0; rw [List.length_take, List.length_nil] at this; omega
          · rintro ⟨a1, a2⟩
            rw [List.length_take] at a1
            refine lz ⟨by omega, ?_⟩
            cases t with
            | nil => simp at hl
            | cons c w => cases j with
              | zero => omega
              | succ j => simpa [bt] using a2
        rw [hnv] at hft
        simp only [if_pos (show j < t.length ∧ bt t j = e from ⟨hl, ce⟩)] at hft
        rw [hft] at hR
        have hRe : s.length - (t.drop (j + 1)).length = i + 1 := by rw [List.length_drop]; omega
        simp only [hRe] at hR
        have w5 : IntKind.i64.wrap ((i : Int) + 1) = ((i + 1 : Nat) : Int) := wrap_succ (by omega)
        by_cases l1 : (k : Int) + 1 < (i : Int)
        · have hb0 : ¬ ((bt s k).toNat : Int) = 48 := by
            intro e0
            have e3 : (bt s k).toNat = 48 := by omega
            refine lz ⟨by omega, ?_⟩
            rw [hbt, Nat.add_zero]
            exact UInt8.toNat_inj.1 e3
          have hx0 := idxB_nat (l := s) (k := k) (by omega)
          have hb1 : ¬ (bt s k).toNat = 48 := by omega
          generalize (bt s k).toNat = y at *
          simp [f9, f8, g0, g1, g2, h1, e1, e2, hx, c1, c2, c3, c4, ei, ce'.symm, l1, hwk1, hx0, hb0, hb1, w5, hR]
        · simp [f9, f8, g0, g1, g2, h1, e1, e2, hx, c1, c2, c3, c4, ei, ce'.symm, l1, hwk1, w5, hR]
      · have c3 : ¬ 48 ≤ (bt t j).toNat := by omega
        by_cases j0 : j = 0
        · have hnv : numv (t.take j) = none := by rw [j0]; rfl
          rw [hnv] at hft
          have ei : (i : Int) = (k : Int) := by omega
          rw [hft] at hR
          have ek1 : (k : Int) < s.length := by omega
          have ek2 : k < s.length := by omega
          have ek3 : ¬ (k : Int) = s.length := by omega
          have hxk : idxB s (k : Int) = some (.int .u8 ((bt t j).toNat : Nat)) := by rw [← ei]; exact hx
          rw [ei] at f9
          generalize (bt t j).toNat = c at *
          simp [f9, f8, g0, g1, g2, h1, e1, e2, hx, c1, c3, ek1, ek2, ek3, hxk, hR]
        have ei : ¬ (i : Int) = (k : Int) := by omega
        by_cases ce : ¬ bt t j = e
        · have hft2 : fld e t = none := by
            rw [hft]
            cases numv (t.take j) with
            | none => rfl
            | some n => simp [ce]
          rw [hft2] at hR
          have ce' : ¬ ((bt t j).toNat : Int) = (e.toNat : Int) := by
            intro e0
            exact ce (UInt8.toNat_inj.1 (by omega))
          have ce2 : ¬ (bt t j).toNat = e.toNat := by omega
          generalize (bt t j).toNat = c at *
          simp [f9, f8, g0, g1, g2, h1, e1, e2, hx, c1, c3, ei, ce', ce2, hR]
        have ce : bt t j = e := Classical.not_not.1 ce
        have ce' : (bt t j).toNat = e.toNat := by rw [ce]
        by_cases lz : 1 < j ∧ bt t 0 = 48
        · have hnv : numv (t.take j) = none := by
            unfold numv
            rw [if_pos]
            refine .inr (.inl ⟨by rw [List.length_take]; omega, ?_⟩)
            rw [← lz.2]
            cases t with
            | nil => simp at hl
            | cons c w => cases j with
              | zero => omega
              | succ j => simp [bt]
          rw [hnv] at hft
          rw [hft] at hR
          have l1 : (k : Int) + 1 < (i : Int) := by omega
          have hb0 : (bt s k).toNat = 48 := by rw [show bt s k = bt t 0 by rw [hbt, Nat.add_zero], lz.2]; rfl
          have hx0 := idxB_nat (l := s) (k := k) (by omega)
          rw [hb0] at hx0
          simp [f9, f8, g0, g1, g2, h1, e1, e2, hx, c1, c3, ei, ce'.symm, l1, hwk1, hx0, hR]
        have hnv : numv (t.take j) = some (valN (t.take j)) := by
          rw [numv_of ?_ ?_ ha, if_pos hv]
          · intro e0; have := congrArg List.length e0; rw [List.length_take, List.length_nil] at this; omega
          · rintro ⟨a1, a2⟩
            rw [List.length_take] at a1
            refine lz ⟨by omega, ?_⟩
            cases t with
            | nil => simp at hl
            | cons c w => cases j with
              | zero => omega
              | succ j => simpa [bt] using a2
        rw [hnv] at hft
        simp only [if_pos (show j < t.length ∧ bt t j = e from ⟨hl, ce⟩)] at hft
        rw [hft] at hR
        have hRe : s.length - (t.drop (j + 1)).length = i + 1 := by rw [List.length_drop]; omega
        simp only [hRe] at hR
        have w5 : IntKind.i64.wrap ((i : Int) + 1) = ((i + 1 : Nat) : Int) := wrap_succ (by omega)
        by_cases l1 : (k : Int) + 1 < (i : Int)
        · have hb0 : ¬ ((bt s k).toNat : Int) = 48 := by
            intro e0
            have e3 : (bt s k).toNat = 48 := by omega
            refine lz ⟨by omega, ?_⟩
            rw [hbt, Nat.add_zero]
            exact UInt8.toNat_inj.1 e3
          have hx0 := idxB_nat (l := s) (k := k) (by omega)
          have hb1 : ¬ (bt s k).toNat = 48 := by omega
          generalize (bt s k).toNat = y at *
          simp [f9, f8, g0, g1, g2, h1, e1, e2, hx, c1, c3, ei, ce'.symm, l1, hwk1, hx0, hb0, hb1, w5, hR]
        · simp [f9, f8, g0, g1, g2, h1, e1, e2, hx, c1, c3, ei, ce'.symm, l1, hwk1, w5, hR]
  · have htw := tw_take ha (by omega) (fun hh => absurd hh hl)
    have hft := fld_take (e := e) htw (by omega)
    have e1 : ¬ (i : Int) < s.length := by omega
    have e2 : (i : Int) = s.length := by omega
    have hft2 : fld e t = none := by
      rw [hft]
      cases numv (t.take j) with
      | none => rfl
      | some n => simp [hl]
    rw [hft2] at hR
    by_cases ei : (i : Int) = (k : Int)
    · have ei2 : (s.length : Int) = (k : Int) := by omega
      simp [f9, f8, g0, g1, g2, h1, e1, e2, ei2, hR]
    · have ei2 : ¬ (s.length : Int) = (k : Int) := by omega
      simp [f9, f8, g0, g1, g2, h1, e1, e2, ei2, hR]
end Go.Dm
