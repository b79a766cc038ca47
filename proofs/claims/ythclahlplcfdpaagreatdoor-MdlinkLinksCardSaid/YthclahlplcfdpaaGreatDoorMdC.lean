/- What is within; what is taken; blanks. -/
import Derived.Test.YthclahlplcfdpaaGreatDoorMdB
set_option linter.unusedVariables false
set_option linter.unusedSimpArgs false
namespace Go.Dm
open Go.Proofs
theorem wi_step (e : UInt8) (b : List UInt8) (s : List UInt8) (i : Nat) (hi : i < s.length) : wi e b false (s.drop i) =
    if bt s i = 92 ∧ i + 1 < s.length ∧ isMk (bt s (i + 1)) = true then (wi e b false (s.drop (i + 2))).map (· + 2)
    else if bt s i = e then some 1 else if bt s i ∈ b then none else (wi e b false (s.drop (i + 1))).map (· + 1) := by
  rw [drop_bt hi, wi_false]
  have ht : tks (bt s i) (s.drop (i + 1)) = true ↔ (bt s i = 92 ∧ i + 1 < s.length ∧ isMk (bt s (i + 1)) = true) := by
    unfold tks
    rcases Nat.lt_or_ge (i + 1) s.length with h | h
    · rw [drop_bt h]; simp [nxMk, h]
    · rw [List.drop_eq_nil_of_le h]; simp [nxMk]; omega
  by_cases c : bt s i = 92 ∧ i + 1 < s.length ∧ isMk (bt s (i + 1)) = true
  · rw [if_pos (ht.2 c), if_pos c, drop_bt c.2.1, wi_true, Option.map_map]
    rfl
  · rw [if_neg (fun q => c (ht.1 q)), if_neg c]
section
variable {h : H}
theorem bound_sp (l : List UInt8) (hl : l.length < 2 ^ 31) (e : Int) (h1 : h.one = []) : CallW E0 X0 (.fn 26) [str l, .int .i64 e] h (fun v h' => v = .int .i64 (min e (eN l)) ∧ h' = h) := by
  refine CallW.body efn26 rfl rfl rfl [] (by kernel_rfl) ?_
  simp [Tryz.f26, h1]
  refine (End_sp l hl h1).mono ?_
  rintro _ h2 ⟨rfl, rfl⟩
  by_cases c : e < (eN l : Int)
  · simp [h1, c]; omega
  · simp [h1, c]; omega
theorem bound17_sp (l : List UInt8) (hl : l.length < 2 ^ 31) (a e : Nat) (he : e ≤ eN l) (h1 : h.one = []) : CallW E0 X0 (.fn 53) [str l, .int .i64 a, .int .i64 e] h (fun v h' => v = .tuple #[.int .i64 e, .bool (decide (a < e))] ∧ h' = h) := by
  refine CallW.body efn53 rfl rfl rfl [] (by kernel_rfl) ?_
  simp [Tryz.f53, h1]
  refine (End_sp l hl h1).mono ?_
  rintro _ h2 ⟨rfl, rfl⟩
  by_cases c : e < eN l
  · simp [h1, c]
  · have e1 : eN l = e := by omega
    simp [h1, c, e1]
theorem part_sp (s : List UInt8) (hs : s.length < 2 ^ 31) (hn : 10 ∉ s) (a : Nat) (h1 : h.one = []) (g : GmH h) : CallW E0 X0 (.fn 48) [str s, .int .i64 a, .int .i64 s.length] h (fun v h' => v = .tuple #[str (s.drop a), .bool (decide (a < s.length))] ∧ h' = h) := by
  refine CallW.body efn48 rfl rfl rfl [] (by kernel_rfl) ?_
  simp [Tryz.f48, h1]
  refine (ahead1_sp s hs h1 g).mono ?_
  rintro _ h2 ⟨rfl, rfl⟩
  rw [nlf_aL hn]
  by_cases c : a < s.length
  · have c2 : (a : Int) ≤ s.length := by omega
    have c3 : ¬ s.length ≤ a := by omega
    have c4 : a ≤ s.length := by omega
    simp [h1, minI, c, c2, c3, c4]
  · have c3 : s.length ≤ a := by omega
    simp [h1, minI, c, c3, List.drop_eq_nil_of_le c3]
theorem Skip_sp (s : List UInt8) (hs : s.length < 2 ^ 31) (hn : 10 ∉ s) (a : Nat) (ha : a < 2 ^ 32) (h1 : h.one = []) (g : GmH h) : CallW E0 X0 (.fn 23) [str s, .int .i64 a, .int .i64 s.length] h (fun v h' => v = .int .i64 ((a + skipN (s.drop a) : Nat) : Int) ∧ h' = h) := by
  refine CallW.body efn23 rfl rfl rfl [] (by kernel_rfl) ?_
  simp [Tryz.f23, h1]
  refine (part_sp s hs hn a h1 g).mono ?_
  rintro _ h2 ⟨rfl, rfl⟩
  by_cases c : a < s.length
  · simp [h1, c]
    obtain ⟨t, ht⟩ : ∃ t, t = s.drop a := ⟨_, rfl⟩
    have htl : t.length = s.length - a := by rw [ht]; simp
    rw [← ht] at *
    have htl' : ((s.length - a : Nat) : Int) = t.length := by rw [htl]
    simp only [← htl]
    have hsl := (List.takeWhile_sublist isB (l := t)).length_le
    refine wpd_loop (fun (i : Nat) fr h' => fr.get 22 = some (.int .i64 i) ∧ h' = h2 ∧ i ≤ skipN t) (fun i => t.length - i) 0 ⟨by simp, rfl, Nat.zero_le _⟩ ?_
    rintro i fr h3 ⟨g22, rfl, hi⟩ hf
    have g1 := hf 1 rfl
    have g7 := hf 7 rfl
    have g21 := hf 21 rfl
    simp at g1 g7 g21
    by_cases ci : i < t.length
    · simp [g22, g21, g7, g1, h1, ci, idxB_nat ci]
      refine (blank_sp (bt t i) h1).mono ?_
      rintro _ h4 ⟨rfl, rfl⟩
      cases hb : isB (bt t i) with
      | true =>
        simp [g22, g21, g7, g1, h1, ci, wrap_succ (show i < 9223372036854775807 by omega)]
        exact ⟨i + 1, by omega, by omega, tw_succ hi (bt_get ci) hb⟩
      | false =>
        have hN : skipN t = i := tw_stop hi (bt_get ci) hb
        simp [g22, g21, g7, g1, h1, ci, hN, wrap_add (show a + i < 9223372036854775808 by omega)]
    · have hN : skipN t = t.length := by unfold skipN at hi ⊢; omega
      simp [g22, g21, g7, g1, h1, ci, hN, wrap_add (show a + t.length < 9223372036854775808 by omega)]
  · have e0 : s.drop a = [] := List.drop_eq_nil_of_le (by omega)
    simp [h1, c, e0]
    rfl
theorem Skip17_sp (l : List UInt8) (hl : l.length < 2 ^ 31) (a e : Nat) (he : e ≤ eN l) (h1 : h.one = []) : CallW E0 X0 (.fn 27) [str l, .int .i64 a, .int .i64 e] h (fun v h' => v = .int .i64 ((a + skipN (sg l a e) : Nat) : Int) ∧ h' = h) := by
  refine CallW.body efn27 rfl rfl rfl [] (by kernel_rfl) ?_
  simp [Tryz.f27, h1]
  refine (bound17_sp l hl a e he h1).mono ?_
  rintro _ h2 ⟨rfl, rfl⟩
  have hel : e ≤ l.length := Nat.le_trans he (eN_len l)
  have hU := sg_len l a e hel
  have hsl := (List.takeWhile_sublist isB (l := sg l a e)).length_le
  by_cases c : a < e
  · simp [h1, c]
    refine wpd_loop (fun (i : Nat) fr h' => fr.get 1 = some (.int .i64 ((a + i : Nat) : Int)) ∧ h' = h2 ∧ i ≤ skipN (sg l a e)) (fun i => e - a - i) 0 ⟨by simp, rfl, Nat.zero_le _⟩ ?_
    rintro i fr h3 ⟨g1, rfl, hi⟩ hf
    have g0 := hf 0 rfl
    have g7 := hf 7 rfl
    simp at g0 g7
    have hi' : i ≤ e - a := by rw [← hU]; exact Nat.le_trans hi hsl
    by_cases ci : a + i < e
    · have hix : idxB l ((a : Int) + i) = some (.int .u8 (bt l (a + i)).toNat) := by have := idxB_nat (l := l) (k := a + i) (by omega); simpa using this
      have ci' : (a : Int) + i < e := by omega
      have hb := bt_get (l := sg l a e) (k := i) (by omega)
      rw [bt_sg ci hel] at hb
      simp [g0, g1, g7, h1, ci', hix]
      refine (Blank_sp (bt l (a + i)) h1).mono ?_
      rintro _ h4 ⟨rfl, rfl⟩
      cases hB : isB (bt l (a + i)) with
      | true =>
        have hw : IntKind.i64.wrap ((a : Int) + i + 1) = (a : Int) + i + 1 := by rw [wrap_i64 (by omega) (by omega)]
        simp [g0, g1, g7, h1, hw]
        exact ⟨i + 1, by omega, by omega, tw_succ hi hb hB⟩
      | false =>
        have hN : skipN (sg l a e) = i := tw_stop hi hb hB
        simp [g0, g1, g7, h1, hN]
    · have hN : skipN (sg l a e) = i := by unfold skipN at hi ⊢; omega
      have ci' : ¬ (a : Int) + i < e := by omega
      simp [g0, g1, g7, h1, ci', hN]
  · have e0 : sg l a e = [] := sg_nil (by omega)
    simp [h1, c, e0]
    rfl
end
end Go.Dm
