/- The shell's words, plainly: a line's pieces lie one behind the other, with blanks between them. -/
import Derived.Test.YtdgclgfhcgdehaaDoorShR
set_option linter.unusedVariables false
set_option linter.unusedSimpArgs false
namespace Go.Dm
structure WT (k0 : Nat) (x : WS) : Prop where
  tx : x.text.length + k0 ≤ x.k
  mq : x.mark = 0 ∨ x.mark = 39 ∨ x.mark = 34
theorem WT.step {s : List UInt8} {lf : Bool} {k0 : Nat} {x y : WS} (h : wstep s lf x = some y) (hi : WT k0 x) : WT k0 y := by
  have h1 := hi.tx
  have h2 := hi.mq
  unfold wstep at h
  repeat' (split at h)
  all_goals first
    | (cases h; done)
    | (simp only [Option.some.injEq] at h; subst h; refine ⟨?_, ?_⟩ <;> simp only [List.length_append, List.length_cons, List.length_nil] <;> (try split) <;> (try simp only [List.length_cons, List.length_nil]) <;> first | omega | exact h2 | simp)
theorem wrunF_ind {P : WS → Prop} {s : List UInt8} {lf : Bool} (hs : ∀ x y, wstep s lf x = some y → P x → P y) : ∀ (n : Nat) (x : WS), P x → P (wrunF s lf n x) := by
  intro n
  induction n with
  | zero => intro x h; exact h
  | succ n ih =>
    intro x h
    simp only [wrunF]
    cases hx : wstep s lf x with
    | none => exact h
    | some y => exact ih y (hs x y hx h)
theorem wrunF_stuck {s : List UInt8} {lf : Bool} : ∀ (n : Nat) (x : WS), s.length - x.k ≤ n → wstep s lf (wrunF s lf n x) = none := by
  intro n
  induction n with
  | zero =>
    intro x h
    simp only [wrunF]
    unfold wstep
    rw [if_pos (by omega)]
  | succ n ih =>
    intro x h
    simp only [wrunF]
    cases hx : wstep s lf x with
    | none => exact hx
    | some y =>
      have := wstep_k hx
      exact ih y (by omega)
theorem wstuck_mark {s : List UInt8} {lf : Bool} {x : WS} (h : wstep s lf x = none) (hm : x.mark = 39 ∨ x.mark = 34) : s.length ≤ x.k := by
  rcases Nat.lt_or_ge x.k s.length with hk | hk
  · exfalso
    unfold wstep at h
    rw [if_neg (by omega)] at h
    rcases hm with hm | hm
    · rw [if_pos hm] at h
      split at h <;> cases h
    · rw [if_neg (by omega), if_pos hm] at h
      split at h
      · cases h
      · split at h <;> cases h
  · exact hk
structure WP (s : List UInt8) (lf : Bool) (k : Nat) (r : Pc × Nat × Nat) : Prop where
  kind : r.1.kind = 51
  fm : r.1.fm = k
  to : r.1.to = r.2.2
  ge : k ≤ r.2.2
  tx : r.1.text.length + k ≤ r.2.2
  m0 : r.2.1 = 0 → r.2.2 ≤ s.length
  mq : r.2.1 ≠ 0 → (r.2.1 = 39 ∨ r.2.1 = 34) ∧ r.1.whole = false ∧ r.2.2 = s.length + lf.toNat
theorem wpiece_wp (s : List UInt8) (lf : Bool) (k mark : Nat) (hk : k ≤ s.length) (hm : mark = 0 ∨ mark = 39 ∨ mark = 34) : WP s lf k (wpiece s lf k mark) := by
  have h1 : WT k (wrun s lf ⟨k, mark, [], decide (mark ≠ 0)⟩) := wrunF_ind (P := WT k) (fun x y h hi => hi.step h) _ _ ⟨by simp, hm⟩
  have h2 : wstep s lf (wrun s lf ⟨k, mark, [], decide (mark ≠ 0)⟩) = none := wrunF_stuck _ _ (Nat.le_refl _)
  have h3 := wrun_le (s := s) (lf := lf) (x := ⟨k, mark, [], decide (mark ≠ 0)⟩) hk
  have hg := wrun_k (s := s) (lf := lf) (x := ⟨k, mark, [], decide (mark ≠ 0)⟩)
  have h4 := h1.tx
  have h5 := h1.mq
  unfold wpiece
  simp only
  by_cases hz : (wrun s lf ⟨k, mark, [], decide (mark ≠ 0)⟩).mark = 0
  · rw [if_pos hz]
    exact ⟨rfl, rfl, rfl, hg, h4, fun _ => h3, fun h => absurd rfl h⟩
  · rw [if_neg hz]
    have h6 := wstuck_mark h2 (by omega)
    refine ⟨rfl, rfl, rfl, by simp only; simp only at hg; omega, ?_, fun h => absurd h hz, fun _ => ⟨by simp only; omega, rfl, by simp only; omega⟩⟩
    simp only [List.length_append]
    have h7 : (if lf then ([10] : List UInt8) else []).length = lf.toNat := by cases lf <;> rfl
    rw [h7]
    omega
def endT (a : Nat) (l : List Pc) : Nat := match l.getLast? with
  | some p => p.to
  | none => a
structure PcOk (s : List UInt8) (L m0 i a : Nat) (p : Pc) : Prop where
  ge : a ≤ p.fm
  fn : p.fm ≤ s.length
  le : p.fm ≤ p.to
  to : p.to ≤ L
  bl : ∀ j, a ≤ j → j < p.fm → isBl (bt s j) = true
  ne : p.fm = p.to → i = 0 ∧ (m0 = 39 ∨ m0 = 34)
  kd : p.kind ≠ 51 → p.text = [] ∧ p.raw = false ∧ p.whole = false
  tx : p.text.length ≤ p.to - p.fm
structure TI (s : List UInt8) (lf : Bool) (m0 a k mark : Nat) (acc : List Pc) : Prop where
  pcs : ∀ (i : Nat) (p : Pc), acc[i]? = some p → PcOk s (s.length + lf.toNat) m0 i (endT a (acc.take i)) p
  hi : ∀ (i : Nat) (p : Pc), acc[i]? = some p → p.to ≤ s.length ∨ (i + 1 = acc.length ∧ (p.kind = 54 ∨ (p.kind = 51 ∧ mark ≠ 0)) ∧ s.length ≤ k)
  endk : endT a acc ≤ k
  bl : ∀ j, endT a acc ≤ j → j < k → j < s.length → isBl (bt s j) = true
  mq : mark ≠ 0 → (mark = 39 ∨ mark = 34) ∧ s.length ≤ k ∧ ∃ p, acc.getLast? = some p ∧ p.whole = false ∧ p.to = s.length + lf.toNat
theorem TI.push {s : List UInt8} {lf : Bool} {m0 a k mark k' mark' : Nat} {acc : List Pc} {p : Pc} (h : TI s lf m0 a k mark acc) (hk : k ≤ s.length) (hz : ∀ (i : Nat) (q : Pc), acc[i]? = some q → q.to ≤ s.length) (hf : p.fm = k) (ht : p.to = k') (hkk : k ≤ k') (hL : k' ≤ s.length + lf.toNat)
    (hne : k = k' → acc = [] ∧ (m0 = 39 ∨ m0 = 34)) (hkd : p.kind ≠ 51 → p.text = [] ∧ p.raw = false ∧ p.whole = false) (htx : p.text.length ≤ p.to - p.fm)
    (hhi : k' ≤ s.length ∨ ((p.kind = 54 ∨ (p.kind = 51 ∧ mark' ≠ 0)) ∧ s.length ≤ k')) (hmk : mark' ≠ 0 → (mark' = 39 ∨ mark' = 34) ∧ s.length ≤ k' ∧ p.whole = false ∧ p.to = s.length + lf.toNat) : TI s lf m0 a k' mark' (acc ++ [p]) where
  pcs := by
    intro i q hq
    rcases Nat.lt_or_ge i acc.length with hi | hi
    · rw [List.getElem?_append_left hi] at hq
      rw [List.take_append_of_le_length (by omega)]
      exact h.pcs i q hq
    · rw [List.getElem?_append_right hi] at hq
      obtain ⟨h1, rfl⟩ : i - acc.length = 0 ∧ p = q := by
        cases hx : i - acc.length with
        | zero => rw [hx] at hq; exact ⟨rfl, by simpa using hq⟩
        | succ j => rw [hx] at hq; simp at hq
      have e : i = acc.length := by omega
      subst e
      rw [List.take_left]
      exact ⟨by rw [hf]; exact h.endk, by omega, by omega, by omega, fun j h2 h3 => h.bl j h2 (by omega) (by omega), fun h2 => by obtain ⟨rfl, h3⟩ := hne (by omega); exact ⟨rfl, h3⟩, hkd, htx⟩
  hi := by
    intro i q hq
    rcases Nat.lt_or_ge i acc.length with hi | hi
    · rw [List.getElem?_append_left hi] at hq
      exact .inl (hz i q hq)
    · rw [List.getElem?_append_right hi] at hq
      obtain ⟨h1, rfl⟩ : i - acc.length = 0 ∧ p = q := by
        cases hx : i - acc.length with
        | zero => rw [hx] at hq; exact ⟨rfl, by simpa using hq⟩
        | succ j => rw [hx] at hq; simp at hq
      rcases hhi with h2 | h2
      · exact .inl (by omega)
      · exact .inr ⟨by rw [List.length_append, List.length_singleton]; omega, h2.1, h2.2⟩
  endk := by simp only [endT, List.getLast?_concat]; omega
  bl := by
    intro j h1 h2 h3
    simp only [endT, List.getLast?_concat] at h1
    omega
  mq := by
    intro h1
    obtain ⟨h2, h3, h4, h5⟩ := hmk h1
    exact ⟨h2, h3, p, List.getLast?_concat, h4, h5⟩
theorem opAt_len (s : List UInt8) (k : Nat) (hk : k ≤ s.length) : k + opAt s k ≤ s.length := by
  unfold opAt
  split
  · omega
  · unfold opN
    split
    · rename_i o ho
      have h1 := List.find?_some ho
      have h2 := (List.isPrefixOf_iff_prefix.1 h1).length_le
      simp at h2
      omega
    · omega
theorem TI.step {s : List UInt8} {lf : Bool} {m0 a k mark : Nat} {acc : List Pc} {r : List Pc × Nat × Nat} (h : TI s lf m0 a k mark acc) (hr : rstep s lf k mark = some r) : TI s lf m0 a r.2.1 r.2.2 (acc ++ r.1) := by
  have hgt := (rstep_k hr).1
  have hr0 := hr
  unfold rstep at hr
  split at hr
  · cases hr
  rename_i hk0
  have hk : k < s.length := by omega
  have hm : mark = 0 := by
    rcases Nat.eq_zero_or_pos mark with h1 | h1
    · exact h1
    · have := (h.mq (by omega)).2.1; omega
  subst hm
  have hz : ∀ (i : Nat) (q : Pc), acc[i]? = some q → q.to ≤ s.length := fun i q hq => by
    rcases h.hi i q hq with h1 | h1
    · exact h1
    · omega
  split at hr
  · rename_i hb
    cases hr
    rw [List.append_nil]
    refine ⟨h.pcs, fun i p hp => .inl (hz i p hp), by have := h.endk; simp only; omega, fun j h1 h2 h3 => ?_, fun h1 => absurd rfl h1⟩
    rcases Nat.lt_or_ge j k with h4 | h4
    · exact h.bl j h1 h4 h3
    · have : j = k := by simp only at h2; omega
      subst this; exact hb
  · split at hr
    · cases hr
      exact h.push (by omega) hz rfl rfl (by omega) (by simp only; omega) (fun e => by omega) (fun _ => ⟨rfl, rfl, rfl⟩) (Nat.zero_le _) (.inl (Nat.le_refl _)) (fun e => absurd rfl e)
    · split at hr
      · rename_i ho
        cases hr
        have hol := opAt_len s k (by omega)
        exact h.push (by omega) hz rfl rfl (by omega) (by simp only; omega) (fun e => by simp only at hgt e; omega) (fun _ => ⟨rfl, rfl, rfl⟩) (Nat.zero_le _) (.inl hol) (fun e => absurd rfl e)
      · split at hr
        · rename_i hj
          cases hr
          have hlf : lf = true := by
            unfold joinAt at hj
            cases lf
            · simp at hj
            · rfl
          subst hlf
          exact h.push (by omega) hz rfl rfl (by omega) (by simp) (fun e => by simp only at hgt e; omega) (fun _ => ⟨rfl, rfl, rfl⟩) (Nat.zero_le _) (.inr ⟨.inl rfl, by simp only; omega⟩) (fun e => absurd rfl e)
        · cases hr
          have w := wpiece_wp s lf k 0 (by omega) (.inl rfl)
          have wle := wpiece_le s lf k 0 (by omega)
          have w1 := w.to; have w2 := w.fm; have w3 := w.tx
          refine h.push (by omega) hz w.fm w.to w.ge wle (fun e => by simp only at hgt e; omega) (fun e => absurd w.kind e) (by omega) ?_ (fun e => ?_)
          · rcases Nat.eq_zero_or_pos (wpiece s lf k 0).2.1 with e | e
            · exact .inl (w.m0 e)
            · exact .inr ⟨.inr ⟨w.kind, by simp only; omega⟩, by have := (w.mq (by omega)).2.2; simp only; omega⟩
          · obtain ⟨e1, e2, e3⟩ := w.mq e
            exact ⟨e1, by simp only; omega, e2, by omega⟩
theorem TI.run {s : List UInt8} {lf : Bool} {m0 a : Nat} : ∀ (n k mark : Nat) (acc : List Pc), s.length - k ≤ n → TI s lf m0 a k mark acc → ∃ k', s.length ≤ k' ∧ TI s lf m0 a k' (rrun s lf k mark acc).2 (rrun s lf k mark acc).1 := by
  intro n
  induction n with
  | zero =>
    intro k mark acc hn h
    have hs : rstep s lf k mark = none := by unfold rstep; rw [if_pos (by omega)]
    rw [rrun_none hs]
    exact ⟨k, by omega, h⟩
  | succ n ih =>
    intro k mark acc hn h
    cases hs : rstep s lf k mark with
    | none =>
      rw [rrun_none hs]
      refine ⟨k, ?_, h⟩
      unfold rstep at hs
      split at hs
      · assumption
      · repeat' (split at hs)
        all_goals cases hs
    | some r =>
      rw [rrun_some hs]
      have := (rstep_k hs).1
      exact ih _ _ _ (by omega) (h.step hs)
theorem TI.init (s : List UInt8) (lf : Bool) (m0 a : Nat) : TI s lf m0 a a 0 [] :=
  ⟨fun i p h => by simp at h, fun i p h => by simp at h, Nat.le_refl _, fun j h1 h2 h3 => by simp only [endT, List.getLast?_nil] at h1; omega, fun h => absurd rfl h⟩
theorem readM_tile (s : List UInt8) (lf : Bool) (a m0 : Nat) (ha : a ≤ s.length) : ∃ k', s.length ≤ k' ∧ TI s lf m0 a k' (readM s lf a m0).2 (readM s lf a m0).1 := by
  unfold readM
  split
  · rename_i hm
    refine TI.run _ _ _ _ (Nat.le_refl _) ?_
    have w := wpiece_wp s lf a m0 ha (.inr hm)
    have wle := wpiece_le s lf a m0 ha
    have w1 := w.to; have w2 := w.fm; have w3 := w.tx
    have := (TI.init s lf m0 a).push (p := (wpiece s lf a m0).1) (k' := (wpiece s lf a m0).2.2) (mark' := (wpiece s lf a m0).2.1) ha (fun i q h => by simp at h) w.fm w.to w.ge wle (fun _ => ⟨rfl, hm⟩) (fun e => absurd w.kind e) (by omega) ?_ (fun e => ?_)
    · exact this
    · rcases Nat.eq_zero_or_pos (wpiece s lf a m0).2.1 with e | e
      · exact .inl (w.m0 e)
      · exact .inr ⟨.inr ⟨w.kind, by omega⟩, by have := (w.mq (by omega)).2.2; omega⟩
    · obtain ⟨e1, e2, e3⟩ := w.mq e
      exact ⟨e1, by omega, e2, by omega⟩
  · exact TI.run _ _ _ _ (Nat.le_refl _) (TI.init s lf m0 a)
end Go.Dm
