/- Destinations that are in no angles. -/
import Derived.Test.YthclahlplcfdpaaGreatDoorMdH
set_option linter.unusedVariables false
set_option linter.unusedSimpArgs false
namespace Go.Dm
open Go.Proofs
/-- A destination's end. -/
def goN (o : Option Nat) : Option Nat := match o with
  | some (k + 1) => some (k + 1)
  | _ => none
theorem go_cons' (c : UInt8) (u : List UInt8) (hc : c ≠ 60) : goL (c :: u) = goN (gg 0 false (c :: u)) := by
  rw [go_cons c u hc]
  unfold goN
  cases gg 0 false (c :: u) with
  | none => rfl
  | some k => cases k <;> rfl
section
variable {h : H}
theorem goal_sp (s : List UInt8) (hs : s.length < 2 ^ 31) (hn : 10 ∉ s) (a : Nat) (ha : a < s.length) (h1 : h.one = []) (g : GmH h) : CallW E0 X0 (.fn 24) [str s, .int .i64 a] h (fun v h' => (∃ z : Int, v = .tuple #[.int .i64 z, .bool (goL (s.drop a)).isSome] ∧ ∀ k, goL (s.drop a) = some k → z = a + k) ∧ h' = h) := by
  refine CallW.body efn24 rfl rfl rfl [] (by kernel_rfl) ?_
  simp [Tryz.f24, h1, idxB_nat ha]
  by_cases c60 : bt s a = 60
  · have c60' : (bt s a).toNat = 60 := by rw [c60]; rfl
    simp [h1, eq_true c60']
    refine (Dest_sp s hs hn a ha c60 h1 g).mono ?_
    rintro _ h2 ⟨rfl, rfl⟩
    cases hg : goL (s.drop a) with
    | none => simp [h1, nOk]
    | some k => simp [h1, nOk]
  · have c60' : ¬ (bt s a).toNat = 60 := tn (by decide) c60
    have hgo : goL (s.drop a) = goN (gg 0 false (s.drop a)) := by rw [drop_bt ha]; exact go_cons' _ _ c60
    rw [hgo]
    simp [h1, c60']
    refine wpd_loop (fun (q : Nat × Nat) fr h' => fr.get 6 = some (.int .i64 q.1) ∧ fr.get 7 = some (.int .i64 q.2) ∧ h' = h ∧ a ≤ q.2 ∧ q.2 ≤ s.length ∧ q.1 ≤ q.2 ∧ gg 0 false (s.drop a) = (gg q.1 false (s.drop q.2)).map (· + (q.2 - a))) (fun q => s.length - q.2) (0, a) ⟨by simp, by simp, rfl, Nat.le_refl _, by simp only; omega, Nat.zero_le _, by simp⟩ ?_
    rintro ⟨d, i⟩ fr h2 ⟨g6, g7, rfl, hai, hi, hdi, hI⟩ hf
    have g0 := hf 0 rfl
    have g1 := hf 1 rfl
    simp at g0 g1
    simp only at g6 g7 hai hi hdi hI
    have hw : IntKind.i64.wrap ((i : Int) + 1) = (i : Int) + 1 := wrap_succ (by omega)
    by_cases ci : i < s.length
    rotate_left
    · rw [List.drop_eq_nil_of_le (show s.length ≤ i by omega)] at hI
      have e0 : gg d false ([] : List UInt8) = none := by rw [gg]
      rw [e0] at hI
      simp [g0, g1, g6, g7, h1, ci, hI, goN]
    rw [gg_step s d i ci] at hI
    have nxt : ∀ (d' i' : Nat), i < i' → i' ≤ s.length → d' ≤ i' → gg 0 false (s.drop a) = ((gg d' false (s.drop i')).map (· + (i' - i))).map (· + (i - a)) → gg 0 false (s.drop a) = (gg d' false (s.drop i')).map (· + (i' - a)) := by
      intro d' i' q1 q2 q3 q4
      rw [q4, Option.map_map]
      congr 1
      funext x
      show x + (i' - i) + (i - a) = x + (i' - a)
      omega
    by_cases T : bt s i = 92 ∧ i + 1 < s.length ∧ isMk (bt s (i + 1)) = true
    · rw [if_pos T] at hI
      obtain ⟨c2, c3, hm⟩ := T
      have c3' : (i : Int) + 1 < s.length := by omega
      simp [g0, g1, g6, g7, h1, ci, idxB_nat ci, c2, hw, c3', idxB_succ c3]
      refine (mark0_sp (bt s (i + 1)) h1).mono ?_
      rintro _ h3 ⟨rfl, rfl⟩
      rw [hm]
      have hw2 : IntKind.i64.wrap ((i : Int) + 1 + 1) = (i : Int) + 1 + 1 := by rw [wrap_i64 (by omega) (by omega)]
      simp [g0, g1, g6, g7, h1, hw, hw2]
      have := nxt d (i + 2) (by omega) (by omega) (by omega) (by rw [show i + 2 - i = 2 by omega]; exact hI)
      exact ⟨d, i + 2, by omega, by omega, by omega, by omega, by omega, by omega, this⟩
    rw [if_neg T] at hI
    have ways : ¬ (bt s i).toNat = 92 ∨ ((bt s i).toNat = 92 ∧ ¬ i + 1 < s.length) ∨ ((bt s i).toNat = 92 ∧ i + 1 < s.length ∧ isMk (bt s (i + 1)) = false) := by
      by_cases c2 : bt s i = 92
      · have c2' : (bt s i).toNat = 92 := by rw [c2]; rfl
        by_cases c3 : i + 1 < s.length
        · cases hm : isMk (bt s (i + 1)) with
          | true => exact absurd ⟨c2, c3, hm⟩ T
          | false => exact .inr (.inr ⟨c2', c3, rfl⟩)
        · exact .inr (.inl ⟨c2', c3⟩)
      · exact .inl (tn (by decide) c2)
    have hw1 : 0 < d → IntKind.i64.wrap ((d : Int) - 1) = ((d - 1 : Nat) : Int) := fun q => wrap_pred (by omega) (by omega)
    have hwd : IntKind.i64.wrap ((d : Int) + 1) = (d : Int) + 1 := wrap_succ (by omega)
    rcases ways with c2 | ⟨c2, c3⟩ | ⟨c2, c3, hm⟩
    · by_cases c40 : (bt s i).toNat = 40
      · have c40' : bt s i = 40 := UInt8.toNat_inj.1 c40
        rw [if_pos c40'] at hI
        simp [g0, g1, g6, g7, h1, ci, idxB_nat ci, c2, eq_true c40, hw, hwd]
        have := nxt (d + 1) (i + 1) (by omega) (by omega) (by omega) (by rw [show i + 1 - i = 1 by omega]; exact hI)
        exact ⟨d + 1, i + 1, by omega, by omega, by omega, by omega, by omega, by omega, this⟩
      · have c40' : ¬ bt s i = 40 := fun q => c40 (by rw [q]; rfl)
        rw [if_neg c40'] at hI
        by_cases stop : (bt s i = 41 ∧ d = 0) ∨ (bt s i).toNat ≤ 32 ∨ bt s i = 127
        · rw [if_pos stop] at hI
          have fin : (gg 0 false (s.drop a) = if d = 0 then some (i - a) else none) := by
            rw [hI]
            by_cases hd : d = 0
            · rw [if_pos hd, if_pos hd]; simp
            · rw [if_neg hd, if_neg hd]; rfl
          have fin2 : (goN (gg 0 false (s.drop a))).isSome = (decide (d = 0) && decide (a < i)) ∧ ∀ k, goN (gg 0 false (s.drop a)) = some k → (i : Int) = a + k := by
            rw [fin]
            by_cases hd : d = 0
            · rw [if_pos hd]
              rcases Nat.eq_or_lt_of_le hai with q | q
              · subst q
                simp [goN]
              · obtain ⟨m, hm⟩ : ∃ m, i - a = m + 1 := ⟨i - a - 1, by omega⟩
                rw [hm]
                refine ⟨by simp [goN, hd, q], fun k hk => ?_⟩
                simp [goN] at hk
                omega
            · rw [if_neg hd]
              simp [goN, hd]
          by_cases c32 : (bt s i).toNat ≤ 32
          · have c41 : ¬ (bt s i).toNat = 41 := by omega
            by_cases hd : d = 0
            · simp [g0, g1, g6, g7, h1, ci, idxB_nat ci, c2, c40, c41, c32, eq_true hd]
              exact ⟨i, ⟨rfl, by rw [fin2.1, decide_eq_true hd, Bool.true_and]⟩, fun k hk => fin2.2 k hk⟩
            · have hd' : ¬ (d : Int) = 0 := by omega
              simp [g0, g1, g6, g7, h1, ci, idxB_nat ci, c2, c40, c41, c32, hd, hd']
              exact ⟨i, ⟨rfl, by have := fin2.1; rw [decide_eq_false hd] at this; simpa using this⟩, fun k hk => fin2.2 k hk⟩
          · by_cases c41 : (bt s i).toNat = 41
            · have c41' : bt s i = 41 := UInt8.toNat_inj.1 c41
              have hd : d = 0 := by
                rcases stop with ⟨_, q⟩ | q | q
                · exact q
                · exact absurd q c32
                · rw [c41'] at q; exact absurd q (by decide)
              simp [g0, g1, g6, g7, h1, ci, idxB_nat ci, c2, c40, eq_true c41, eq_true hd]
              exact ⟨i, ⟨rfl, by rw [fin2.1, decide_eq_true hd, Bool.true_and]⟩, fun k hk => fin2.2 k hk⟩
            · have c127 : (bt s i).toNat = 127 := by
                rcases stop with ⟨q, _⟩ | q | q
                · rw [q] at c41; exact absurd rfl c41
                · exact absurd q c32
                · rw [q]; rfl
              by_cases hd : d = 0
              · simp [g0, g1, g6, g7, h1, ci, idxB_nat ci, c2, c40, c41, c32, eq_true c127, eq_true hd]
                exact ⟨i, ⟨rfl, by rw [fin2.1, decide_eq_true hd, Bool.true_and]⟩, fun k hk => fin2.2 k hk⟩
              · have hd' : ¬ (d : Int) = 0 := by omega
                simp [g0, g1, g6, g7, h1, ci, idxB_nat ci, c2, c40, c41, c32, eq_true c127, hd, hd']
                exact ⟨i, ⟨rfl, by have := fin2.1; rw [decide_eq_false hd] at this; simpa using this⟩, fun k hk => fin2.2 k hk⟩
        · rw [if_neg stop] at hI
          have c32 : ¬ (bt s i).toNat ≤ 32 := fun q => stop (.inr (.inl q))
          have c127 : ¬ (bt s i).toNat = 127 := fun q => stop (.inr (.inr (UInt8.toNat_inj.1 q)))
          by_cases c41 : (bt s i).toNat = 41
          · have c41' : bt s i = 41 := UInt8.toNat_inj.1 c41
            rw [if_pos c41'] at hI
            have hd : ¬ d = 0 := fun q => stop (.inl ⟨c41', q⟩)
            have hd' : ¬ (d : Int) = 0 := by omega
            have hw1 := hw1 (by omega)
            simp [g0, g1, g6, g7, h1, ci, idxB_nat ci, c2, c40, eq_true c41, c32, c127, hd, hd', hw, hw1]
            have := nxt (d - 1) (i + 1) (by omega) (by omega) (by omega) (by rw [show i + 1 - i = 1 by omega]; exact hI)
            exact ⟨d - 1, i + 1, by omega, by omega, by omega, by omega, by omega, by omega, this⟩
          · rw [if_neg (fun q => c41 (by rw [q]; rfl))] at hI
            simp [g0, g1, g6, g7, h1, ci, idxB_nat ci, c2, c40, c41, c32, c127, hw]
            have := nxt d (i + 1) (by omega) (by omega) (by omega) (by rw [show i + 1 - i = 1 by omega]; exact hI)
            exact ⟨d, i + 1, by omega, by omega, by omega, by omega, by omega, by omega, this⟩
    · have c2' : bt s i = 92 := UInt8.toNat_inj.1 c2
      rw [if_neg (by rw [c2']; decide), if_neg (by rw [c2']; simp), if_neg (by rw [c2']; decide)] at hI
      have c3' : ¬ (i : Int) + 1 < s.length := by omega
      simp [g0, g1, g6, g7, h1, ci, idxB_nat ci, c2, hw, c3']
      have := nxt d (i + 1) (by omega) (by omega) (by omega) (by rw [show i + 1 - i = 1 by omega]; exact hI)
      exact ⟨d, i + 1, by omega, by omega, by omega, by omega, by omega, by omega, this⟩
    · have c2' : bt s i = 92 := UInt8.toNat_inj.1 c2
      rw [if_neg (by rw [c2']; decide), if_neg (by rw [c2']; simp), if_neg (by rw [c2']; decide)] at hI
      have c3' : (i : Int) + 1 < s.length := by omega
      simp [g0, g1, g6, g7, h1, ci, idxB_nat ci, c2, hw, c3', idxB_succ c3]
      refine (mark0_sp (bt s (i + 1)) h1).mono ?_
      rintro _ h3 ⟨rfl, rfl⟩
      rw [hm]
      simp [g0, g1, g6, g7, h1, hw, c2]
      have := nxt d (i + 1) (by omega) (by omega) (by omega) (by rw [show i + 1 - i = 1 by omega]; exact hI)
      exact ⟨d, i + 1, by omega, by omega, by omega, by omega, by omega, by omega, this⟩
theorem gg_nil (d : Nat) (sk : Bool) : gg d sk [] = none := by cases sk <;> rw [gg]
theorem mk_hi {c : UInt8} (h : isMk c = true) : ¬ c.toNat ≤ 32 ∧ ¬ c.toNat = 127 := by
  unfold isMk at h
  simp at h
  omega
theorem sk_mk (U : List UInt8) : ∀ n, n < U.length → skAt false U n = true → isMk (bt U n) = true
  | 0, _, h => by rw [skAt] at h; cases h
  | n + 1, hn, h => by
    rw [skAt_succ U false n hn] at h
    simp only [Bool.and_eq_true] at h
    have h2 := h.2
    unfold tks at h2
    rw [drop_bt hn] at h2
    simp [nxMk] at h2
    exact h2.2
/-- One byte on, for a destination. -/
theorem gg_sk (U : List UInt8) (d n : Nat) (hn : n < U.length) : gg d (skAt false U n) (U.drop n) =
    if skAt false U n = true then (gg d (skAt false U (n + 1)) (U.drop (n + 1))).map (· + 1)
    else if bt U n = 40 then (gg (d + 1) (skAt false U (n + 1)) (U.drop (n + 1))).map (· + 1)
    else if (bt U n = 41 ∧ d = 0) ∨ (bt U n).toNat ≤ 32 ∨ bt U n = 127 then (if d = 0 then some 0 else none)
    else if bt U n = 41 then (gg (d - 1) (skAt false U (n + 1)) (U.drop (n + 1))).map (· + 1)
    else (gg d (skAt false U (n + 1)) (U.drop (n + 1))).map (· + 1) := by
  have key : ∀ (q : Bool) (d : Nat), (n + 1 < U.length → q = skAt false U (n + 1)) → gg d q (U.drop (n + 1)) = gg d (skAt false U (n + 1)) (U.drop (n + 1)) := by
    intro q d hq
    rcases Nat.lt_or_ge (n + 1) U.length with h | h
    · rw [hq h]
    · rw [List.drop_eq_nil_of_le h, gg_nil, gg_nil]
  have hs : n + 1 < U.length → skAt false U (n + 1) = (!skAt false U n && tks (bt U n) (U.drop (n + 1))) := fun h => skAt_succ U false n h
  rw [drop_bt hn]
  cases hk : skAt false U n with
  | true =>
    rw [if_pos rfl, gg, key false d (fun h => by rw [hs h, hk]; rfl)]
  | false =>
    rw [if_neg (by decide), gg]
    by_cases ht : tks (bt U n) (U.drop (n + 1)) = true
    · have h92 : bt U n = 92 := by unfold tks at ht; simp at ht; exact ht.1
      rw [if_pos ht, if_neg (by rw [h92]; decide), if_neg (by rw [h92]; simp), if_neg (by rw [h92]; decide), key true d (fun h => by rw [hs h, hk, ht]; rfl)]
    · have ht' : tks (bt U n) (U.drop (n + 1)) = false := by simpa using ht
      have kf : ∀ d, gg d false (U.drop (n + 1)) = gg d (skAt false U (n + 1)) (U.drop (n + 1)) := fun d => key false d (fun h => by rw [hs h, hk, ht']; rfl)
      rw [if_neg ht, kf, kf, kf]
theorem goal22_sp (l : List UInt8) (hl : l.length < 2 ^ 31) (a e : Nat) (he : e ≤ eN l) (hae : a < e) (h1 : h.one = []) : CallW E0 X0 (.fn 28) [str l, .int .i64 a, .int .i64 e] h (fun v h' => v = .int .i64 (plc (goL (sg l a e)) a) ∧ h' = h) := by
  refine CallW.body efn28 rfl rfl rfl [] (by kernel_rfl) ?_
  have hel : e ≤ l.length := Nat.le_trans he (eN_len l)
  simp [Tryz.f28, h1, idxB_nat (show a < l.length by omega)]
  by_cases c60 : bt l a = 60
  · have c60' : (bt l a).toNat = 60 := by rw [c60]; rfl
    simp [h1, eq_true c60']
    refine (Dest17_sp l hl a e he hae c60 h1).mono ?_
    rintro _ h2 ⟨rfl, rfl⟩
    cases hg : goL (sg l a e) with
    | none => simp [h1, nOk, plc]
    | some k => simp [h1, nOk, plc]
  have c60' : ¬ (bt l a).toNat = 60 := tn (by decide) c60
  obtain ⟨U, hU⟩ : ∃ U, U = sg l a e := ⟨_, rfl⟩
  have hUl : U.length = e - a := by rw [hU, sg_len _ _ _ hel]
  have hgo : goL (sg l a e) = goN (gg 0 false U) := by rw [hU, sg_cons hae hel]; exact go_cons' _ _ c60
  rw [hgo]
  simp [h1, c60']
  refine wpd_loop (fun (q : Nat × Nat) fr h' => fr.get 9 = some (.int .i64 q.1) ∧ fr.get 10 = some (.int .i64 ((a + q.2 : Nat) : Int)) ∧ h' = h ∧ q.2 ≤ U.length ∧ q.1 ≤ q.2 ∧ gg 0 false U = (gg q.1 (skAt false U q.2) (U.drop q.2)).map (· + q.2)) (fun q => U.length - q.2) (0, 0) ⟨by simp, by simp, rfl, Nat.zero_le _, Nat.le_refl _, by simp [skAt]⟩ ?_
  rintro ⟨d, j⟩ fr h2 ⟨g9, g10, rfl, hj, hdj, hI⟩ hf
  have g0 := hf 0 rfl
  have g1 := hf 1 rfl
  have g2 := hf 2 rfl
  simp at g0 g1 g2
  simp only at g9 g10 hj hdj hI
  have g10' : fr.get 10 = some (.int .i64 ((a : Int) + j)) := by simpa using g10
  by_cases ci : j < U.length
  rotate_left
  · rw [List.drop_eq_nil_of_le (show U.length ≤ j by omega), gg_nil] at hI
    have ci' : ¬ (a : Int) + j < e := by omega
    have ce : (a : Int) + j = e := by omega
    have cz : ¬ (a : Int) + j = a := by omega
    by_cases hd : 0 < d
    · simp [g0, g1, g2, g9, g10', h1, ci', cz, hd, hI, goN, plc]
    · simp [g0, g1, g2, g9, g10', h1, ci', cz, hd, eq_true ce, hI, goN, plc]
  have ci' : (a : Int) + j < e := by omega
  have ci2 : ¬ (a : Int) + j = e := by omega
  have hix : idxB l ((a : Int) + j) = some (.int .u8 (bt l (a + j)).toNat) := by have := idxB_nat (l := l) (k := a + j) (by omega); simpa using this
  have hbt : bt U j = bt l (a + j) := by rw [hU]; exact bt_sg (by omega) hel
  have hmk := sk_mk U j ci
  rw [gg_sk U d j ci, hbt] at hI
  rw [hbt] at hmk
  have hw : IntKind.i64.wrap ((a : Int) + j + 1) = (a : Int) + j + 1 := by rw [wrap_i64 (by omega) (by omega)]
  have hwd : IntKind.i64.wrap ((d : Int) + 1) = (d : Int) + 1 := wrap_succ (by omega)
  have hw1 : 0 < d → IntKind.i64.wrap ((d : Int) - 1) = ((d - 1 : Nat) : Int) := fun q => wrap_pred (by omega) (by omega)
  have nxt : ∀ d', gg 0 false U = ((gg d' (skAt false U (j + 1)) (U.drop (j + 1))).map (· + 1)).map (· + j) → gg 0 false U = (gg d' (skAt false U (j + 1)) (U.drop (j + 1))).map (· + (j + 1)) := by
    intro d' q
    rw [q, Option.map_map]
    congr 1
    funext x
    show x + 1 + j = x + (j + 1)
    omega
  by_cases stop : (bt l (a + j)).toNat ≤ 32 ∨ (bt l (a + j)).toNat = 127
  · have hk : skAt false U j = false := by
      cases q : skAt false U j with
      | false => rfl
      | true =>
        have := mk_hi (hmk q)
        omega
    rw [hk, if_neg (by decide), if_neg (fun q => by rw [q] at stop; revert stop; decide), if_pos (stop.elim (fun q => .inr (.inl q)) (fun q => .inr (.inr (UInt8.toNat_inj.1 q))))] at hI
    have hres : ∀ K : Prop, (plc (goN (gg 0 false U)) a = (if (a : Int) + j = a ∨ 0 < d then -1 else (a : Int) + j)) := by
      intro _
      rw [hI]
      by_cases hd : d = 0
      · rw [if_pos hd]
        cases j with
        | zero => simp [goN, plc]
        | succ m =>
          rw [if_neg (by omega)]
          simp [goN, plc]
      · rw [if_neg hd, if_pos (.inr (by omega))]
        rfl
    have hres := hres True
    by_cases c32 : (bt l (a + j)).toNat ≤ 32
    · have c32' : ¬ 32 < (bt l (a + j)).toNat := by omega
      by_cases z : (a : Int) + j = a
      · rw [if_pos (.inl z)] at hres
        simp [g0, g1, g2, g9, g10', h1, ci', hix, c32', eq_true z, hres]
      · by_cases hd : 0 < d
        · rw [if_pos (.inr hd)] at hres
          simp [g0, g1, g2, g9, g10', h1, ci', hix, c32', z, hd, hres]
        · rw [if_neg (by omega)] at hres
          simp [g0, g1, g2, g9, g10', h1, ci', ci2, hix, c32', z, hd, hres]
    · have c32' : 32 < (bt l (a + j)).toNat := by omega
      have c127 : (bt l (a + j)).toNat = 127 := by omega
      by_cases z : (a : Int) + j = a
      · rw [if_pos (.inl z)] at hres
        simp [g0, g1, g2, g9, g10', h1, ci', hix, eq_true c32', eq_true c127, eq_true z, hres]
      · by_cases hd : 0 < d
        · rw [if_pos (.inr hd)] at hres
          simp [g0, g1, g2, g9, g10', h1, ci', hix, eq_true c32', eq_true c127, z, hd, hres]
        · rw [if_neg (by omega)] at hres
          simp [g0, g1, g2, g9, g10', h1, ci', ci2, hix, eq_true c32', eq_true c127, z, hd, hres]
  · have c32 : 32 < (bt l (a + j)).toNat := by omega
    have c127 : ¬ (bt l (a + j)).toNat = 127 := by omega
    simp [g0, g1, g2, g9, g10', h1, ci', hix, c32, c127]
    refine (Taken_sp l hl a (a + j) e (by omega) (by omega) hel h1).mono ?_ |> fun x => by simpa using x
    rintro _ h3 ⟨rfl, rfl⟩
    rw [← hU, show a + j - a = j by omega]
    have hst : ¬ (((bt l (a + j)) = 41 ∧ d = 0) ∨ (bt l (a + j)).toNat ≤ 32 ∨ (bt l (a + j)) = 127) → True := fun _ => trivial
    cases hk : skAt false U j with
    | true =>
      rw [hk, if_pos rfl] at hI
      have hN := nxt d hI
      by_cases c40 : (bt l (a + j)).toNat = 40
      · have c41 : ¬ (bt l (a + j)).toNat = 41 := by omega
        simp [g0, g1, g2, g9, g10', h1, hix, eq_true c40, c41, hw]
        exact ⟨d, j + 1, by omega, by omega, by omega, by omega, by omega, hN⟩
      · by_cases c41 : (bt l (a + j)).toNat = 41
        · simp [g0, g1, g2, g9, g10', h1, hix, c40, eq_true c41, hw]
          exact ⟨d, j + 1, by omega, by omega, by omega, by omega, by omega, hN⟩
        · simp [g0, g1, g2, g9, g10', h1, hix, c40, c41, hw]
          exact ⟨d, j + 1, by omega, by omega, by omega, by omega, by omega, hN⟩
    | false =>
      rw [hk, if_neg (by decide)] at hI
      by_cases c40 : (bt l (a + j)).toNat = 40
      · have c41 : ¬ (bt l (a + j)).toNat = 41 := by omega
        rw [if_pos (UInt8.toNat_inj.1 c40)] at hI
        have hN := nxt (d + 1) hI
        simp [g0, g1, g2, g9, g10', h1, hix, eq_true c40, c41, hw, hwd]
        exact ⟨d + 1, j + 1, by omega, by omega, by omega, by omega, by omega, hN⟩
      · rw [if_neg (fun q => c40 (by rw [q]; rfl))] at hI
        by_cases c41 : (bt l (a + j)).toNat = 41
        · have c41' : bt l (a + j) = 41 := UInt8.toNat_inj.1 c41
          by_cases hd : d = 0
          · rw [if_pos (.inl ⟨c41', hd⟩), if_pos hd] at hI
            have hd' : ¬ 0 < d := by omega
            have hres : plc (goN (gg 0 false U)) a = (if (a : Int) + j = a then -1 else (a : Int) + j) := by
              rw [hI]
              cases j with
              | zero => simp [goN, plc]
              | succ m => rw [if_neg (by omega)]; simp [goN, plc]
            by_cases z : (a : Int) + j = a
            · rw [if_pos z] at hres
              simp [g0, g1, g2, g9, g10', h1, hix, c40, eq_true c41, eq_true hd, eq_true z, hres]
            · rw [if_neg z] at hres
              simp [g0, g1, g2, g9, g10', h1, hix, c40, eq_true c41, eq_true hd, hd', z, ci2, hres]
          · rw [if_neg (by rintro (⟨_, q⟩ | q | q); exact hd q; omega; exact c127 (by rw [q]; rfl)), if_pos c41'] at hI
            have hd' : ¬ (d : Int) = 0 := by omega
            have hw1 := hw1 (by omega)
            have hN := nxt (d - 1) hI
            simp [g0, g1, g2, g9, g10', h1, hix, c40, eq_true c41, hd, hd', hw, hw1]
            exact ⟨d - 1, j + 1, by omega, by omega, by omega, by omega, by omega, hN⟩
        · rw [if_neg (by rintro (⟨q, _⟩ | q | q); exact c41 (by rw [q]; rfl); omega; exact c127 (by rw [q]; rfl)), if_neg (fun q => c41 (by rw [q]; rfl))] at hI
          have hN := nxt d hI
          simp [g0, g1, g2, g9, g10', h1, hix, c40, c41, hw]
          exact ⟨d, j + 1, by omega, by omega, by omega, by omega, by omega, hN⟩
end
end Go.Dm
