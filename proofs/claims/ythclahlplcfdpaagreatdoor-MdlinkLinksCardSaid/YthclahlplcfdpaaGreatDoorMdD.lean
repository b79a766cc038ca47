/- What is within; what is taken. -/
import Derived.Test.YthclahlplcfdpaaGreatDoorMdC
set_option linter.unusedVariables false
set_option linter.unusedSimpArgs false
namespace Go.Dm
open Go.Proofs
section
variable {h : H}
theorem Taken_sp (l : List UInt8) (hl : l.length < 2 ^ 31) (a i e : Nat) (hai : a ≤ i) (hie : i < e) (he : e ≤ l.length) (h1 : h.one = []) :
    CallW E0 X0 (.fn 56) [str l, .int .i64 a, .int .i64 i, .int .i64 e] h (fun v h' => v = .bool (skAt false (sg l a e) (i - a)) ∧ h' = h) := by
  refine CallW.body efn56 rfl rfl rfl [] (by kernel_rfl) ?_
  simp [Tryz.f56, h1]
  refine wpd_loop (fun (k : Nat) fr h' => fr.get 10 = some (.int .i64 k) ∧ h' = h ∧ a ≤ k ∧ k ≤ i + 1 ∧ fr.get 9 = some (.bool (if k = a then false else skAt false (sg l a e) (k - 1 - a)))) (fun k => i + 1 - k) a ⟨by simp, rfl, Nat.le_refl _, by omega, by simp⟩ ?_
  rintro k fr h2 ⟨g10, rfl, hak, hki, g9⟩ hf
  have g0 := hf 0 rfl
  have g1 := hf 1 rfl
  have g2 := hf 2 rfl
  have g3 := hf 3 rfl
  simp at g0 g1 g2 g3
  by_cases c : k ≤ i
  · have c1 : k < e := by omega
    by_cases z : k = a
    · subst z
      simp [g10, g9, g0, g1, g2, g3, h1, c, c1, wrap_succ (show k < 9223372036854775807 by omega)]
      exact ⟨k + 1, by omega, by omega, by omega, by omega, fun _ => by rw [show k + 1 - 1 - k = 0 by omega]; simp [skAt]⟩
    · have z1 : a < k := by omega
      rw [if_neg z] at g9
      have hw : IntKind.i64.wrap ((k : Int) - 1) = ((k - 1 : Nat) : Int) := wrap_pred (by omega) (by omega)
      have hs := skAt_succ (sg l a e) false (k - 1 - a) (by rw [sg_len _ _ _ he]; omega)
      have hd : (sg l a e).drop (k - 1 - a + 1) = bt l k :: sg l (k + 1) e := by
        rw [sg_drop, show a + (k - 1 - a + 1) = k by omega, sg_cons c1 he]
      have hb : (sg l a e).getD (k - 1 - a) 0 = bt l (k - 1) := by
        have := bt_sg (l := l) (a := a) (k := k - 1 - a) (by omega) he
        rwa [show a + (k - 1 - a) = k - 1 by omega] at this
      rw [hd, hb, show k - 1 - a + 1 = k - a by omega] at hs
      have fin : ∀ q : Bool, skAt false (sg l a e) (k - a) = q → ∃ s', i + 1 - s' < i + 1 - k ∧ k + 1 = s' ∧ a ≤ s' ∧ s' ≤ i + 1 ∧ q = (if s' = a then false else skAt false (sg l a e) (s' - 1 - a)) := by
        intro q hq
        refine ⟨k + 1, by omega, rfl, by omega, by omega, ?_⟩
        rw [if_neg (by omega), show k + 1 - 1 - a = k - a by omega, hq]
      cases hk : skAt false (sg l a e) (k - 1 - a) with
      | true =>
        rw [hk] at g9 hs
        simp [g10, g9, g0, g1, g2, g3, h1, c, c1, z1, wrap_succ (show k < 9223372036854775807 by omega)]
        have := fin false (by rw [hs]; simp)
        simpa using this
      | false =>
        rw [hk] at g9 hs
        by_cases d : bt l (k - 1) = 92
        · simp [g10, g9, g0, g1, g2, g3, h1, c, c1, z1, hw, idxB_nat (show k - 1 < l.length by omega), d, idxB_nat (show k < l.length by omega)]
          refine (mark3_sp (bt l k) h1).mono ?_
          rintro _ h3 ⟨rfl, rfl⟩
          have := fin (isMk (bt l k)) (by rw [hs, d]; simp [tks, nxMk])
          simp [g10, g9, g0, g1, g2, g3, h1, c, c1, z1, wrap_succ (show k < 9223372036854775807 by omega)]
          simpa using this
        · have d' : ¬ (bt l (k - 1)).toNat = 92 := tn (by decide) d
          have := fin false (by rw [hs]; simp [tks, d])
          simp [g10, g9, g0, g1, g2, g3, h1, c, c1, z1, hw, idxB_nat (show k - 1 < l.length by omega), d', wrap_succ (show k < 9223372036854775807 by omega)]
          simpa using this
  · have hk : k = i + 1 := by omega
    subst hk
    rw [if_neg (by omega), show i + 1 - 1 - a = i - a by omega] at g9
    simp [g10, g9, g0, g1, g2, g3, h1, c]
/-- An answer as a place. -/
def plc (o : Option Nat) (b : Nat) : Int := match o with
  | some k => ((b + k : Nat) : Int)
  | none => -1
theorem find_sp (l : List UInt8) (hl : l.length < 2 ^ 31) (a e : Nat) (hae : a < e) (he : e ≤ l.length) (c : UInt8) (h1 : h.one = []) :
    CallW E0 X0 (.fn 57) [str l, .int .i64 a, .int .i64 e, .int .u8 c.toNat] h (fun v h' => v = .int .i64 (plc (fnd c false (sg l (a + 1) e)) (a + 1)) ∧ h' = h) := by
  refine CallW.body efn57 rfl rfl rfl [] (by kernel_rfl) ?_
  simp [Tryz.f57, h1, wrap_succ (show a < 9223372036854775807 by omega)]
  obtain ⟨U, hU⟩ : ∃ U, U = sg l (a + 1) e := ⟨_, rfl⟩
  have hUl : U.length = e - (a + 1) := by rw [hU, sg_len _ _ _ he]
  refine wpd_loop (fun (n : Nat) fr h' => fr.get 9 = some (.int .i64 ((a + 1 + n : Nat) : Int)) ∧ h' = h ∧ n ≤ U.length ∧ fnd c false U = (fnd c (skAt false U n) (U.drop n)).map (· + n)) (fun n => U.length - n) 0 ⟨by simp, rfl, Nat.zero_le _, by simp [skAt]⟩ ?_
  rintro n fr h2 ⟨g9, rfl, hn, hI⟩ hf
  have g0 := hf 0 rfl
  have g1 := hf 1 rfl
  have g2 := hf 2 rfl
  have g3 := hf 3 rfl
  simp at g0 g1 g2 g3
  have g9' : fr.get 9 = some (.int .i64 ((a : Int) + 1 + n)) := by simpa using g9
  by_cases ci : n < U.length
  · have ci' : (a : Int) + 1 + n < e := by omega
    have hix : idxB l ((a : Int) + 1 + n) = some (.int .u8 (bt l (a + 1 + n)).toNat) := by have := idxB_nat (l := l) (k := a + 1 + n) (by omega); simpa using this
    have hbt : bt U n = bt l (a + 1 + n) := by rw [hU]; exact bt_sg (by omega) he
    have hst := fnd_step c U n ci
    rw [hst, hbt] at hI
    have hw : IntKind.i64.wrap ((a : Int) + 1 + n + 1) = (a : Int) + 1 + n + 1 := by rw [wrap_i64 (by omega) (by omega)]
    have hwa : IntKind.i64.wrap ((a : Int) + 1) = ((a + 1 : Nat) : Int) := by rw [wrap_i64 (by omega) (by omega)]; omega
    have nxt : ¬ (skAt false U n = false ∧ bt l (a + 1 + n) = c) → ∃ s', U.length - s' < U.length - n ∧ (a : Int) + 1 + n + 1 = (a : Int) + 1 + s' ∧ s' ≤ U.length ∧ fnd c false U = (fnd c (skAt false U s') (U.drop s')).map (· + s') := by
      intro q
      refine ⟨n + 1, by omega, by omega, by omega, ?_⟩
      rw [hI, if_neg q, Option.map_map]
      congr 1
      funext x
      show x + 1 + n = x + (n + 1)
      omega
    by_cases d : bt l (a + 1 + n) = c
    · have d2 : (bt l (a + 1 + n)).toNat = c.toNat := by rw [d]
      simp [g0, g1, g2, g3, g9', h1, ci', hix, d2, hwa]
      refine (Taken_sp l hl (a + 1) (a + 1 + n) e (by omega) (by omega) he h1).mono ?_ |> fun x => by simpa using x
      rintro _ h3 ⟨rfl, rfl⟩
      rw [← hU, show a + 1 + n - (a + 1) = n by omega]
      cases hk : skAt false U n with
      | false =>
        rw [if_pos ⟨hk, d⟩] at hI
        simp [g0, g1, g2, g3, g9', h1]
        rw [hI]
        simp [plc]
        try omega
      | true =>
        have := nxt (by rw [hk]; simp)
        simp [g0, g1, g2, g3, g9', h1, hw]
        exact this
    · have d2 : ¬ ((bt l (a + 1 + n)).toNat : Int) = c.toNat := fun q => d (UInt8.toNat_inj.1 (by omega))
      have := nxt (fun q => d q.2)
      simp [g0, g1, g2, g3, g9', h1, ci', hix, d2, hw]
      exact this
  · have ci' : ¬ (a : Int) + 1 + n < e := by omega
    have hd : U.drop n = [] := List.drop_eq_nil_of_le (by omega)
    rw [hd, fnd_nil] at hI
    simp [g0, g1, g2, g3, g9', h1, ci']
    rw [← hU, hI]
    rfl
/-- An answer as a number, and whether there is one. -/
def nOk (o : Option Nat) (b : Nat) : Value := match o with
  | some k => .tuple #[.int .i64 ((b + k : Nat) : Int), .bool true]
  | none => .tuple #[.int .i64 0, .bool false]
theorem within_sp (s : List UInt8) (hs : s.length < 2 ^ 31) (h0 : s ≠ []) (e : UInt8) (b : List UInt8) (h1 : h.one = []) :
    CallW E0 X0 (.fn 52) [str s, .int .u8 e.toNat, str b] h (fun v h' => v = nOk (wi e b false s.tail) 1 ∧ h' = h) := by
  refine CallW.body efn52 rfl rfl rfl [] (by kernel_rfl) ?_
  simp [Tryz.f52, h1]
  have hlen : 0 < s.length := List.length_pos_iff.2 h0
  have htl : s.tail = s.drop 1 := (List.drop_one).symm
  refine wpd_loop (fun (i : Nat) fr h' => fr.get 8 = some (.int .i64 i) ∧ h' = h ∧ 1 ≤ i ∧ i ≤ s.length ∧ wi e b false s.tail = (wi e b false (s.drop i)).map (· + (i - 1))) (fun i => s.length - i) 1 ⟨by simp, rfl, Nat.le_refl _, by omega, by rw [htl]; simp⟩ ?_
  rintro i fr h2 ⟨g8, rfl, hi1, hi, hI⟩ hf
  have g0 := hf 0 rfl
  have g1 := hf 1 rfl
  have g2 := hf 2 rfl
  simp at g0 g1 g2
  by_cases ci : i < s.length
  · rw [wi_step e b s i ci] at hI
    have hw : IntKind.i64.wrap ((i : Int) + 1) = (i : Int) + 1 := wrap_succ (by omega)
    by_cases T : bt s i = 92 ∧ i + 1 < s.length ∧ isMk (bt s (i + 1)) = true
    · rw [if_pos T] at hI
      obtain ⟨c2, c3, hm⟩ := T
      have c3' : (i : Int) + 1 < s.length := by omega
      simp [g0, g1, g2, g8, h1, ci, idxB_nat ci, c2, hw, c3', idxB_succ c3]
      refine (mark2_sp (bt s (i + 1)) h1).mono ?_
      rintro _ h2 ⟨rfl, rfl⟩
      rw [hm]
      have hw2 : IntKind.i64.wrap ((i : Int) + 1 + 1) = (i : Int) + 1 + 1 := by rw [wrap_i64 (by omega) (by omega)]
      simp [g0, g1, g2, g8, h1, hw, hw2]
      refine ⟨i + 2, by omega, by omega, by omega, by omega, ?_⟩
      rw [hI, Option.map_map]
      congr 1
      funext x
      show x + 2 + (i - 1) = x + (i + 2 - 1)
      omega
    · rw [if_neg T] at hI
      have ways : ¬ (bt s i).toNat = 92 ∨ ((bt s i).toNat = 92 ∧ ¬ i + 1 < s.length) ∨ ((bt s i).toNat = 92 ∧ i + 1 < s.length ∧ isMk (bt s (i + 1)) = false) := by
        by_cases c2 : bt s i = 92
        · have c2' : (bt s i).toNat = 92 := by rw [c2]; rfl
          by_cases c3 : i + 1 < s.length
          · cases hm : isMk (bt s (i + 1)) with
            | true => exact absurd ⟨c2, c3, hm⟩ T
            | false => exact .inr (.inr ⟨c2', c3, rfl⟩)
          · exact .inr (.inl ⟨c2', c3⟩)
        · exact .inl (tn (by decide) c2)
      have nxt : ¬ bt s i = e → ¬ bt s i ∈ b → ∃ s', s.length - s' < s.length - i ∧ i + 1 = s' ∧ 1 ≤ s' ∧ s' ≤ s.length ∧ wi e b false s.tail = (wi e b false (s.drop s')).map (· + (s' - 1)) := by
        intro q1 q2
        refine ⟨i + 1, by omega, rfl, by omega, by omega, ?_⟩
        rw [hI, if_neg q1, if_neg q2, Option.map_map]
        congr 1
        funext x
        show x + 1 + (i - 1) = x + (i + 1 - 1)
        omega
      rcases ways with c2 | ⟨c2, c3⟩ | ⟨c2, c3, hm⟩
      focus simp [g0, g1, g2, g8, h1, ci, idxB_nat ci, c2]
      rotate_left
      focus
         have c3' : ¬ (i : Int) + 1 < s.length := by omega
         simp [g0, g1, g2, g8, h1, ci, idxB_nat ci, eq_true c2, hw, c3']
      rotate_left
      focus
         have c3' : (i : Int) + 1 < s.length := by omega
         simp [g0, g1, g2, g8, h1, ci, idxB_nat ci, eq_true c2, hw, c3', idxB_succ c3]
         refine (mark2_sp (bt s (i + 1)) h1).mono ?_
         rintro _ h2 ⟨rfl, rfl⟩
         rw [hm]
         simp [g0, g1, g2, g8, h1]
      rotate_left
      all_goals
       by_cases c4 : bt s i = e
       · have c4' : ((bt s i).toNat : Int) = e.toNat := by rw [c4]
         rw [if_pos c4] at hI
         simp [g0, g1, g2, g8, h1, hw, eq_true c4', hI, nOk]
         try omega
       · have c4' : ¬ ((bt s i).toNat : Int) = e.toNat := fun q => c4 (UInt8.toNat_inj.1 (by omega))
         rw [if_neg c4] at hI
         simp [g0, g1, g2, g8, h1, hw, c4']
         refine (IndexByte_sp b (bt s i)).mono ?_
         rintro _ h2 ⟨rfl, rfl⟩
         by_cases c5 : bt s i ∈ b
         · have c5' := (mem_ib b (bt s i)).2 c5
           rw [if_pos c5] at hI
           simp [g0, g1, g2, g8, h1, c5', hI, nOk]
         · have c5' : ¬ 0 ≤ Lib.indexByte b (bt s i) := fun q => c5 ((mem_ib b (bt s i)).1 q)
           have := nxt c4 c5
           simp [g0, g1, g2, g8, h1, c5', hw]
           simpa using this
  · have hd : s.drop i = [] := List.drop_eq_nil_of_le (by omega)
    rw [hd, wi_nil] at hI
    simp [g0, g1, g2, g8, h1, ci, hI, nOk]
end
end Go.Dm
