/- The shell's words, plainly: a line that is cut at a blank outside all pieces. -/
import Derived.Test.YtpanpicbikihkaaDoorShT
set_option linter.unusedVariables false
set_option linter.unusedSimpArgs false
namespace Go.Dm
theorem find_congr {α : Type} {p q : α → Bool} : ∀ (l : List α), (∀ x ∈ l, p x = q x) → l.find? p = l.find? q := by
  intro l
  induction l with
  | nil => intro _; rfl
  | cons a l ih =>
    intro h
    simp only [List.find?_cons]
    rw [h a (List.mem_cons_self ..), ih fun x hx => h x (List.mem_cons_of_mem _ hx)]
theorem ops_noblank : (opsL.all fun o => o.all fun c => !isBl c) = true := by decide +kernel
theorem op_short {r o : List UInt8} {d : Nat} (ho : o ∈ opsL) (hp : o <+: r) (hb : isBl (r.getD d 0) = true) : o.length ≤ d := by
  rcases Nat.lt_or_ge d o.length with h | h
  · exfalso
    obtain ⟨t, rfl⟩ := hp
    rw [List.getD_eq_getElem?_getD, List.getElem?_append_left h, List.getElem?_eq_getElem h] at hb
    have h1 := List.all_eq_true.1 ops_noblank o ho
    have h2 := List.all_eq_true.1 h1 o[d] (List.getElem_mem h)
    simp only [Option.getD_some] at hb
    rw [hb] at h2
    cases h2
  · exact h
theorem opN_cut {r : List UInt8} {d : Nat} (hb : isBl (r.getD d 0) = true) : opN (r.take d) = opN r := by
  unfold opN
  rw [find_congr (p := fun o => o.isPrefixOf (r.take d)) (q := fun o => o.isPrefixOf r) opsL ?_]
  intro o ho
  rw [Bool.eq_iff_iff, List.isPrefixOf_iff_prefix, List.isPrefixOf_iff_prefix]
  constructor
  · intro h; exact h.trans (List.take_prefix _ _)
  · intro h
    exact List.prefix_take_iff.2 ⟨h, op_short ho h hb⟩
theorem opAt_take {s : List UInt8} {j k : Nat} (hj : j ≤ k) (hk : k < s.length) (hb : isBl (bt s k) = true) : opAt (s.take k) j = opAt s j := by
  rw [opAt_in (by omega) (by simp; omega), opAt_in (by omega) (by omega)]
  show opN ((s.take k).drop j) = opN (s.drop j)
  rw [List.drop_take]
  refine opN_cut ?_
  have e : (s.drop j).getD (k - j) 0 = bt s k := by
    unfold bt
    rw [List.getD_eq_getElem?_getD, List.getD_eq_getElem?_getD, List.getElem?_drop, show j + (k - j) = k by omega]
  rw [e]; exact hb
theorem opAt_end {s : List UInt8} {j k : Nat} (hj : j ≤ k) (hk : k < s.length) (hb : isBl (bt s k) = true) : j + opAt s j ≤ k := by
  have := opAt_len (s.take k) j (by simp; omega)
  rw [opAt_take hj hk hb] at this
  simp at this
  omega
theorem bt_take {s : List UInt8} {i k : Nat} (h : i < k) : bt (s.take k) i = bt s i := by
  unfold bt
  rw [List.getD_eq_getElem?_getD, List.getD_eq_getElem?_getD, List.getElem?_take_of_lt h]
theorem stop_take {s : List UInt8} {lf : Bool} {j k : Nat} (hj : j < k) (hk : k < s.length) (hb : isBl (bt s k) = true) : stopAt (s.take k) false j = stopAt s lf j := by
  have hl : (s.take k).length = k := by simp; omega
  unfold stopAt
  rw [opAt_take (by omega) hk hb, bt_take hj, hl]
  have h1 : joinAt (s.take k) false j = false := by unfold joinAt; simp
  have h2 : joinAt s lf j = false := by unfold joinAt; simp; intro _ e; omega
  rw [h1, h2]
  simp [show ¬ k ≤ j by omega, show ¬ s.length ≤ j by omega]
theorem wstep_take {s : List UInt8} {lf : Bool} {k : Nat} {x y : WS} (hk : k < s.length) (hb : isBl (bt s k) = true) (h : wstep s lf x = some y) (hy : y.k ≤ k) : wstep (s.take k) false x = some y := by
  have hxy := (wstep_k h).1
  have hl : (s.take k).length = k := by simp; omega
  have hx : x.k < k := by omega
  have h1 : x.k + 1 < s.length := by omega
  have hst := stop_take (lf := lf) hx hk hb
  unfold wstep at h ⊢
  rw [hl, hst, bt_take hx]
  rw [if_neg (by omega)] at h
  rw [if_neg (by omega)]
  by_cases c1 : x.mark = 39
  · rw [if_pos c1] at h ⊢
    exact h
  rw [if_neg c1] at h ⊢
  by_cases c2 : x.mark = 34
  · rw [if_pos c2] at h ⊢
    by_cases c3 : (bt s x.k).toNat = 34
    · rw [if_pos c3] at h ⊢; exact h
    rw [if_neg c3] at h ⊢
    by_cases c4 : (bt s x.k).toNat = 92
    · rw [if_pos ⟨c4, h1⟩] at h
      have h2 : x.k + 1 < k := by
        simp only [Option.some.injEq] at h
        subst h
        simp only at hy
        omega
      rw [if_pos ⟨c4, h2⟩, bt_take h2]
      exact h
    · rw [if_neg (fun e => c4 e.1)] at h ⊢
      exact h
  rw [if_neg c2] at h ⊢
  by_cases c5 : stopAt s lf x.k = true
  · rw [if_pos c5] at h; cases h
  rw [if_neg c5] at h ⊢
  by_cases c6 : (bt s x.k).toNat = 39
  · rw [if_pos c6] at h ⊢; exact h
  rw [if_neg c6] at h ⊢
  by_cases c7 : (bt s x.k).toNat = 34
  · rw [if_pos c7] at h ⊢; exact h
  rw [if_neg c7] at h ⊢
  by_cases c8 : (bt s x.k).toNat = 92
  · rw [if_pos c8, if_pos h1] at h
    have h2 : x.k + 1 < k := by
      simp only [Option.some.injEq] at h
      subst h
      simp only at hy
      omega
    rw [if_pos c8, if_pos h2, bt_take h2]
    exact h
  · rw [if_neg c8] at h ⊢
    exact h
theorem wstuck_take {s : List UInt8} {lf : Bool} {k : Nat} {x : WS} (hk : k < s.length) (hb : isBl (bt s k) = true) (h : wstep s lf x = none) (hm : x.mark = 0) (hx : x.k ≤ k) : wstep (s.take k) false x = none := by
  have hl : (s.take k).length = k := by simp; omega
  unfold wstep
  rw [hl]
  rcases Nat.lt_or_ge x.k k with h1 | h1
  · have hst := stop_take (lf := lf) h1 hk hb
    rw [if_neg (by omega), if_neg (by omega), if_neg (by omega), hst]
    unfold wstep at h
    rw [if_neg (by omega), if_neg (by omega), if_neg (by omega)] at h
    split at h
    · rename_i c; rw [if_pos c]
    · repeat' (split at h)
      all_goals cases h
  · rw [if_pos h1]
theorem wrun_take {s : List UInt8} {lf : Bool} {k : Nat} (hk : k < s.length) (hb : isBl (bt s k) = true) : ∀ (n : Nat) (x : WS), s.length - x.k ≤ n → (wrun s lf x).mark = 0 → (wrun s lf x).k ≤ k → wrun (s.take k) false x = wrun s lf x := by
  intro n
  induction n with
  | zero =>
    intro x hn hm hx
    have hs : wstep s lf x = none := by unfold wstep; rw [if_pos (by omega)]
    rw [wrun_none hs] at hm hx ⊢
    exact wrun_none (wstuck_take hk hb hs hm hx)
  | succ n ih =>
    intro x hn hm hx
    cases hs : wstep s lf x with
    | none =>
      rw [wrun_none hs] at hm hx ⊢
      exact wrun_none (wstuck_take hk hb hs hm hx)
    | some y =>
      have h1 := (wstep_k hs).1
      rw [wrun_some hs] at hm hx ⊢
      have h2 := wrun_k (s := s) (lf := lf) (x := y)
      rw [wrun_some (wstep_take hk hb hs (by omega))]
      exact ih y (by omega) hm hx
theorem wpiece_take {s : List UInt8} {lf : Bool} {j k : Nat} (hj : j ≤ k) (hk : k < s.length) (hb : isBl (bt s k) = true) (he : (wpiece s lf j 0).2.2 ≤ k) : wpiece (s.take k) false j 0 = wpiece s lf j 0 ∧ (wpiece s lf j 0).2.1 = 0 := by
  have w := wpiece_wp s lf j 0 (by omega) (.inl rfl)
  have hm : (wpiece s lf j 0).2.1 = 0 := by
    rcases Nat.eq_zero_or_pos (wpiece s lf j 0).2.1 with e | e
    · exact e
    · have := (w.mq (by omega)).2.2; omega
  refine ⟨?_, hm⟩
  have hz : (wrun s lf ⟨j, 0, [], decide ((0 : Nat) ≠ 0)⟩).mark = 0 := by
    unfold wpiece at hm
    simp only at hm
    split at hm
    · assumption
    · exact hm
  have hk' : (wrun s lf ⟨j, 0, [], decide ((0 : Nat) ≠ 0)⟩).k ≤ k := by
    unfold wpiece at he
    simp only at he
    rw [if_pos hz] at he
    exact he
  have hw := wrun_take hk hb _ _ (Nat.le_refl _) hz hk'
  unfold wpiece
  rw [hw]
  simp only
  rw [if_pos hz, if_pos hz]
theorem rrunF_acc (s : List UInt8) (lf : Bool) : ∀ (n k mark : Nat) (acc : List Pc), rrunF s lf n k mark acc = (acc ++ (rrunF s lf n k mark []).1, (rrunF s lf n k mark []).2) := by
  intro n
  induction n with
  | zero => intro k mark acc; simp [rrunF]
  | succ n ih =>
    intro k mark acc
    simp only [rrunF]
    cases rstep s lf k mark with
    | none => simp
    | some r =>
      simp only [List.nil_append]
      rw [ih _ _ (acc ++ r.1), ih _ _ r.1]
      simp
theorem rrun_acc (s : List UInt8) (lf : Bool) (k mark : Nat) (acc : List Pc) : rrun s lf k mark acc = (acc ++ (rrun s lf k mark []).1, (rrun s lf k mark []).2) := rrunF_acc s lf _ k mark acc
theorem cut_run {s : List UInt8} {lf : Bool} {k : Nat} (hk : k < s.length) (hb : isBl (bt s k) = true) : ∀ (n j : Nat), k - j ≤ n → j ≤ k → (∀ p ∈ (rrun s lf j 0 []).1, ¬ (p.fm ≤ k ∧ k < p.to)) →
    ∃ A, rrun (s.take k) false j 0 [] = (A, 0) ∧ rrun s lf j 0 [] = (A ++ (rrun s lf k 0 []).1, (rrun s lf k 0 []).2) := by
  intro n
  have hl : (s.take k).length = k := by simp; omega
  have base : rrun (s.take k) false k 0 [] = ([], 0) := rrun_none (by unfold rstep; rw [if_pos (by omega)]) _
  induction n with
  | zero =>
    intro j hn hj _
    obtain rfl : j = k := by omega
    exact ⟨[], base, by simp⟩
  | succ n ih =>
    intro j hn hj hc
    rcases Nat.lt_or_ge j k with h1 | h1
    · have go : ∀ (ps : List Pc) (j' : Nat), rstep s lf j 0 = some (ps, j', 0) → (j' ≤ k → rstep (s.take k) false j 0 = some (ps, j', 0)) → (∀ p ∈ ps, p.fm = j ∧ p.to = j') → (ps = [] → j' ≤ k) → ∃ A, rrun (s.take k) false j 0 [] = (A, 0) ∧ rrun s lf j 0 [] = (A ++ (rrun s lf k 0 []).1, (rrun s lf k 0 []).2) := by
        intro ps j' hs hs' hp hp0
        have hgt := (rstep_k hs).1
        have e1 : rrun s lf j 0 [] = (ps ++ (rrun s lf j' 0 []).1, (rrun s lf j' 0 []).2) := by
          rw [rrun_some hs]
          simp only [List.nil_append]
          exact rrun_acc _ _ _ _ _
        rw [e1] at hc ⊢
        have hle : j' ≤ k := by
          cases ps with
          | nil => exact hp0 rfl
          | cons p ps =>
            have h2 := hc p (by simp)
            have h3 := hp p (by simp)
            omega
        obtain ⟨A, h2, h3⟩ := ih j' (by simp only at hgt; omega) hle (fun p hp => hc p (by simp only [List.mem_append]; exact .inr hp))
        refine ⟨ps ++ A, ?_, ?_⟩
        · rw [rrun_some (hs' hle)]
          simp only [List.nil_append]
          rw [rrun_acc, h2]
        · rw [h3]; simp
      have hjs : ¬ s.length ≤ j := by omega
      have hjk : ¬ (s.take k).length ≤ j := by omega
      have hbt := bt_take (s := s) h1
      have hop := opAt_take (j := j) (by omega) hk hb
      have hj2 : joinAt s lf j = false := by unfold joinAt; simp; intro _ e; omega
      have hj1 : joinAt (s.take k) false j = false := by unfold joinAt; simp
      by_cases c1 : isBl (bt s j) = true
      · refine go [] (j + 1) ?_ (fun _ => ?_) (fun p hp => by cases hp) (fun _ => by omega)
        · unfold rstep; rw [if_neg hjs, if_pos c1]
        · unfold rstep; rw [if_neg hjk, hbt, if_pos c1]
      by_cases c2 : (bt s j).toNat = 35
      · refine go [⟨53, j, s.length, [], false, false⟩] s.length ?_ (fun h => ?_) (fun p hp => ?_) (fun h => by cases h)
        · unfold rstep; rw [if_neg hjs, if_neg c1, if_pos c2]
        · omega
        · simp only [List.mem_singleton] at hp; subst hp; exact ⟨rfl, rfl⟩
      by_cases c3 : opAt s j ≠ 0
      · refine go [⟨52, j, j + opAt s j, [], false, false⟩] (j + opAt s j) ?_ (fun _ => ?_) (fun p hp => ?_) (fun h => by cases h)
        · unfold rstep; rw [if_neg hjs, if_neg c1, if_neg c2, if_pos c3]
        · unfold rstep; rw [if_neg hjk, hbt, if_neg c1, if_neg c2, hop, if_pos c3]
        · simp only [List.mem_singleton] at hp; subst hp; exact ⟨rfl, rfl⟩
      have w := wpiece_wp s lf j 0 (by omega) (.inl rfl)
      have hs : rstep s lf j 0 = some ([(wpiece s lf j 0).1], (wpiece s lf j 0).2.2, (wpiece s lf j 0).2.1) := by
        unfold rstep; rw [if_neg hjs, if_neg c1, if_neg c2, if_neg c3, if_neg (by rw [hj2]; decide)]
      have hle : (wpiece s lf j 0).2.2 ≤ k := by
        have e1 : rrun s lf j 0 [] = ([(wpiece s lf j 0).1] ++ (rrun s lf (wpiece s lf j 0).2.2 (wpiece s lf j 0).2.1 []).1, (rrun s lf (wpiece s lf j 0).2.2 (wpiece s lf j 0).2.1 []).2) := by
          rw [rrun_some hs]
          simp only [List.nil_append]
          exact rrun_acc _ _ _ _ _
        have h2 := hc (wpiece s lf j 0).1 (by rw [e1]; simp)
        have h3 := w.fm
        have h4 := w.to
        omega
      obtain ⟨hw1, hw2⟩ := wpiece_take (by omega) hk hb hle
      rw [hw2] at hs
      refine go _ _ hs (fun _ => ?_) (fun p hp => ?_) (fun h => by cases h)
      · unfold rstep
        rw [if_neg hjk, hbt, if_neg c1, if_neg c2, hop, if_neg c3, if_neg (by rw [hj1]; decide), hw1, hw2]
      · simp only [List.mem_singleton] at hp; subst hp; exact ⟨w.fm, w.to⟩
    · obtain rfl : j = k := by omega
      exact ⟨[], base, by simp⟩
theorem rd_cut (line : List UInt8) (k : Nat) (hk : k < ctnN line) (hb : isBl (bt line k) = true) (h10 : 0 < k → (bt line (k - 1)).toNat ≠ 10) (hc : ∀ p ∈ (rdAt line 0 0).1, ¬ (p.fm ≤ k ∧ k < p.to)) :
    (rdAt (line.take k) 0 0).2 = 0 ∧ (rdAt line k 0).2 = (rdAt line 0 0).2 ∧ (rdAt line 0 0).1 = (rdAt (line.take k) 0 0).1 ++ (rdAt line k 0).1 := by
  have hle := ctnN_le line
  have hcl := ctn_length line
  have hlk : (line.take k).length = k := by simp; omega
  have e0 : rdAt line 0 0 = rrun (ctn line) (lfOf line) 0 0 [] := by unfold rdAt readM; rw [if_neg (by omega)]; rfl
  have ek : rdAt line k 0 = rrun (ctn line) (lfOf line) k 0 [] := by unfold rdAt readM; rw [if_neg (by omega)]; rfl
  have hn : ctnN (line.take k) = k := by
    unfold ctnN
    rw [hlk]
    by_cases c : 0 < k
    · rw [if_neg]
      rintro ⟨_, e⟩
      rw [bt_take (by omega)] at e
      exact h10 c e
    · rw [if_neg (fun e => c e.1)]
  have e1 : rdAt (line.take k) 0 0 = rrun ((ctn line).take k) false 0 0 [] := by
    have c1 : ctn (line.take k) = (ctn line).take k := by
      unfold ctn
      rw [hn, List.take_take, List.take_take, Nat.min_self, Nat.min_eq_left (by omega)]
    have c2 : lfOf (line.take k) = false := by unfold lfOf; rw [hn, hlk]; simp
    unfold rdAt readM
    rw [if_neg (by omega), c1, c2]
    rfl
  rw [e0] at hc
  obtain ⟨A, h1, h2⟩ := cut_run (s := ctn line) (lf := lfOf line) (by omega) (by rw [bt_ctn hk]; exact hb) k 0 (by omega) (by omega) hc
  rw [e0, ek, e1, h1, h2]
  exact ⟨rfl, rfl, rfl⟩
end Go.Dm
