/- A line leaves one of the shell's states; what the end tells is taken. -/
import Derived.Test.YtdgclgfhcgdehaaDoorSbE
set_option linter.unusedVariables false
set_option linter.unusedSimpArgs false
namespace Go.Dm
def mk3 (m : Nat) : Prop := m = 0 ∨ m = 39 ∨ m = 34
structure OwC (s : ShS) : Prop where
  bare : s.stk = List.replicate 16 zF ∧ s.dep = 0 ∧ s.flags = 0 ∧ s.cnt = 0
  wait : 0 ≤ s.wait ∧ s.wait ≤ 4
  docs : ∀ i : Nat, i < 4 → ((i : Int) < s.wait ∨ docK s i = zD) ∧ (docK s i).word.length ≤ 64
  len : s.docs.length = 4
def modeC (s : ShS) : Prop := (s.mode = 0 ∧ s.mark = 0 ∧ s.wait = 0) ∨ (s.mode = 1 ∧ mk3 s.mark) ∨ (s.mode = 2 ∧ s.mark = 0 ∧ 0 < s.wait)
theorem own_of {s : ShS} (h : OwC s) (m : modeC s) : ownN s = true := by
  unfold ownN
  rw [Bool.and_eq_true, Bool.and_eq_true, Bool.and_eq_true]
  refine ⟨decide_eq_true h.bare, decide_eq_true h.wait, ?_, ?_⟩
  · rw [List.all_eq_true]
    intro i hi
    rw [List.mem_range] at hi
    have := h.docs i hi
    simp [this.2]
    exact this.1
  · rcases m with ⟨a, b, c⟩ | ⟨a, b⟩ | ⟨a, b, c⟩
    · simp [a, b, c]
    · simp [a]; exact b
    · simp [a, b, c]
theorem of_own {s : ShS} (hl : s.docs.length = 4) (h : ownN s = true) : OwC s ∧ modeC s := by
  unfold ownN at h
  simp only [Bool.and_eq_true, decide_eq_true_eq, List.all_eq_true, List.mem_range, Bool.or_eq_true] at h
  obtain ⟨h1, h2, h3, h4⟩ := h
  refine ⟨⟨h1, h2, h3, hl⟩, ?_⟩
  split at h4
  · rename_i hm
    simp at h4
    exact .inl ⟨hm, h4.1, h4.2⟩
  · split at h4
    · rename_i hm
      simp at h4
      exact .inr (.inl ⟨hm, h4⟩)
    · simp at h4
      exact .inr (.inr h4)
theorem docK_set {s : ShS} (hl : s.docs.length = 4) {w : Nat} (d : ShD) (x : Int) {i : Nat} : docK { s with docs := s.docs.set w d, wait := x } i = if w = i ∧ i < 4 then d else docK s i := by
  unfold docK
  simp only [List.getD_eq_getElem?_getD, List.getElem?_set]
  by_cases hw : w = i
  · subst hw
    by_cases h4 : w < 4
    · simp [hl, h4]
    · simp [hl, h4]
  · simp [hw]
theorem asks_own {op : List UInt8} {r : List Pc} {s s' : ShS} (h : OwC s) (e : asksN op r s = some s') : OwC s' := by
  unfold asksN at e
  split at e
  · rename_i q _
    split at e
    · rename_i hd
      cases e
      unfold docOk at hd
      simp only [Bool.and_eq_true, decide_eq_true_eq] at hd
      obtain ⟨_, _, h64, _, hw⟩ := hd
      have hwt := h.wait
      refine ⟨h.bare, by simp only [putDoc]; omega, ?_, by simp [putDoc, h.len]⟩
      intro i hi
      have := h.docs i hi
      unfold putDoc
      rw [docK_set h.len]
      by_cases hwi : s.wait.toNat = i
      · rw [if_pos ⟨hwi, hi⟩]
        exact ⟨.inl (by simp only; omega), h64⟩
      · rw [if_neg fun a => hwi a.1]
        exact ⟨this.1.imp (fun z => by simp only; omega) id, this.2⟩
    · cases e
  · cases e
theorem kind_own (line : List UInt8) (p : Pc) (r : List Pc) {s : ShS} (h : OwC s) : OwC (kindN line p r s).2 := by
  unfold kindN
  split
  · split
    · rename_i s' e
      exact asks_own h e
    · exact h
  · exact h
theorem prun_own (line : List UInt8) : ∀ (l : List Pc) (x : PS), OwC x.st → OwC (prun line l x).st
  | [], x, h => h
  | p :: r, x, h => prun_own line r (pstep line p r x) (kind_own line p r h)
theorem wstep_mk {s : List UInt8} {lf : Bool} {x y : WS} (h : wstep s lf x = some y) (hm : mk3 x.mark) : mk3 y.mark := by
  unfold wstep at h
  repeat' (split at h)
  all_goals first | (cases h; done) | (simp only [Option.some.injEq] at h; subst h; first | exact hm | exact .inl rfl | exact .inr (.inl rfl) | exact .inr (.inr rfl))
theorem wrunF_mk {s : List UInt8} {lf : Bool} : ∀ (n : Nat) (x : WS), mk3 x.mark → mk3 (wrunF s lf n x).mark
  | 0, x, h => h
  | n + 1, x, h => by
    simp only [wrunF]
    cases hs : wstep s lf x with
    | none => exact h
    | some y => exact wrunF_mk n y (wstep_mk hs h)
theorem wpiece_mk (s : List UInt8) (lf : Bool) (k : Nat) {mark : Nat} (h : mk3 mark) : mk3 (wpiece s lf k mark).2.1 := by
  unfold wpiece
  have := wrunF_mk (s := s) (lf := lf) (s.length - k) ⟨k, mark, [], decide (mark ≠ 0)⟩ h
  simp only
  split
  · exact .inl rfl
  · exact this
theorem rstep_mk {s : List UInt8} {lf : Bool} {k mark : Nat} {r : List Pc × Nat × Nat} (h : rstep s lf k mark = some r) (hm : mk3 mark) : mk3 r.2.2 := by
  unfold rstep at h
  repeat' (split at h)
  all_goals first | (cases h; done) | (simp only [Option.some.injEq] at h; subst h; first | exact hm | exact wpiece_mk _ _ _ (.inl rfl))
theorem rrunF_mk {s : List UInt8} {lf : Bool} : ∀ (n k mark : Nat) (acc : List Pc), mk3 mark → mk3 (rrunF s lf n k mark acc).2
  | 0, k, mark, acc, h => h
  | n + 1, k, mark, acc, h => by
    simp only [rrunF]
    cases hs : rstep s lf k mark with
    | none => exact h
    | some r => exact rrunF_mk n _ _ _ (rstep_mk hs h)
theorem rd_mk (line : List UInt8) (mark : Nat) : mk3 (rdAt line 0 mark).2 := by
  unfold rdAt
  rw [if_neg (by omega)]
  unfold readM rrun
  split
  · rename_i h
    exact rrunF_mk _ _ _ _ (wpiece_mk _ _ _ (.inr h))
  · exact rrunF_mk _ _ _ _ (.inl rfl)
theorem docK_drop {s : ShS} (hl : s.docs.length = 4) (w : Int) (m k : Nat) {i : Nat} (hi : i < 4) : docK { s with docs := s.docs.drop 1 ++ [zD], wait := w, mark := m, mode := k } i = if i < 3 then docK s (i + 1) else zD := by
  unfold docK
  simp only [List.getD_eq_getElem?_getD]
  by_cases h3 : i < 3
  · rw [if_pos h3, List.getElem?_append_left (by simp; omega), List.getElem?_drop, Nat.add_comm]
  · have : i = 3 := by omega
    subst this
    rw [if_neg h3, List.getElem?_append_right (by simp; omega)]
    simp [hl]
/-- Behind a line there is one of the shell's states. -/
theorem own_scan {s : ShS} (hs : s.ok) (line : List UInt8) : ownN (scanN s line).2 = true := by
  have hb := base_ok hs
  obtain ⟨hc, hm⟩ := of_own hb.docs (own_base s)
  have ho := own_base s
  unfold scanN
  generalize base s = S at *
  split
  · exact ho
  · split
    · rename_i hm2
      unfold textN
      generalize (if (docK S 0).strip then tabsN (ctn line) else 0) = F
      simp only
      split
      · exact ho
      · have hw : 0 < S.wait := by
          rcases hm with ⟨a, _⟩ | ⟨a, _⟩ | ⟨_, _, c⟩
          · omega
          · omega
          · exact c
        refine own_of ⟨hc.bare, ?_, ?_, by simp [hc.len]⟩ ?_
        · have := hc.wait; simp only; omega
        · intro i hi
          rw [docK_drop hc.len _ _ _ hi]
          by_cases h3 : i < 3
          · rw [if_pos h3]
            have := hc.docs (i + 1) (by omega)
            exact ⟨this.1.imp (fun z => by simp only; omega) id, this.2⟩
          · rw [if_neg h3]
            exact ⟨.inr rfl, by decide⟩
        · by_cases h0 : 0 < S.wait - 1
          · exact .inr (.inr ⟨by simp only; rw [if_pos h0], rfl, h0⟩)
          · exact .inl ⟨by simp only; rw [if_neg h0], rfl, by simp only; omega⟩
    · have hp := prun_own line (rdAt line 0 S.mark).1 ⟨[], S, decide (S.mode = 1), 0, false⟩ hc
      have hk := rd_mk line S.mark
      unfold piecesN
      generalize prun line (rdAt line 0 S.mark).1 ⟨[], S, decide (S.mode = 1), 0, false⟩ = x at hp
      simp only
      split
      · exact own_of ⟨hp.bare, hp.wait, hp.docs, hp.len⟩ (.inr (.inl ⟨rfl, hk⟩))
      · refine own_of ⟨hp.bare, hp.wait, hp.docs, hp.len⟩ ?_
        have := hp.wait
        by_cases h0 : 0 < x.st.wait
        · exact .inr (.inr ⟨by simp [docSt, h0], rfl, h0⟩)
        · exact .inl ⟨by simp [docSt, h0], rfl, by simp only [docSt]; omega⟩
theorem base_own {s : ShS} (h : ownN s = true) : base s = s := by unfold base; rw [if_pos h]
theorem scan_base (s : ShS) (line : List UInt8) : scanN (base s) line = scanN s line := by
  unfold scanN; rw [base_own (own_base s)]
theorem base_not {s : ShS} (h : ownN s = false) : base s = zS := by unfold base; rw [if_neg (by rw [h]; decide)]
theorem leaves_snd (n : Int) (hn : n ≤ 1048576) : ∀ k, sndR n (List.replicate k ⟨3, 2, 0, 0⟩) (n, 0) = some (n, 0)
  | 0 => rfl
  | k + 1 => by
    rw [List.replicate_succ]
    simp only [sndR]
    rw [snd_leaf (by omega) (Nat.le_refl _) (by omega)]
    simpa using leaves_snd n hn k
/-- What the end tells is taken. -/
theorem snd_end {s : ShS} (ho : ownN s = true) (n f : Int) (hf : f ≤ n) (hn : n ≤ 1048576) : ∃ f', sndR n (endN s) (f, if s.mode = 0 then 0 else 1) = some (f', 0) ∧ f' ≤ n := by
  unfold endN
  by_cases hm : s.mode = 0
  · rw [if_pos (.inr hm), if_pos hm]
    exact ⟨f, rfl, hf⟩
  · rw [if_neg (by rw [ho]; simp [hm]), if_neg hm]
    refine ⟨n, ?_, Int.le_refl _⟩
    rw [sndR_app]
    simp only [sndR]
    rw [snd_leaf (by omega) (Nat.le_refl _) (by omega)]
    simp only
    rw [snd_close (by omega) (by omega)]
    simpa using leaves_snd n hn _
theorem snd1_ge {b f o : Int} {e : ShE} {y : Int × Int} (hb : 0 ≤ b) (h : snd1 b f o e = some y) : 0 ≤ y.1 := by
  unfold snd1 at h
  repeat' (split at h)
  all_goals first | (cases h; done) | (cases h; simp only; omega)
theorem sndR_ge {b : Int} (hb : 0 ≤ b) : ∀ (l : List ShE) (x y : Int × Int), 0 ≤ x.1 → sndR b l x = some y → 0 ≤ y.1
  | [], x, y, hx, h => by simp only [sndR, Option.some.injEq] at h; subst h; exact hx
  | d :: l, x, y, hx, h => by
    simp only [sndR] at h
    split at h
    · rename_i z hz
      exact sndR_ge hb l z y (snd1_ge hb hz) h
    · cases h
theorem run_snd {b : Int} : ∀ (l : List ShE) (s : AB) (y : Int × Int), sndR b l (s.far, (s.opn.length : Int) - 1) = some y →
    y = ((runB b l s).far, ((runB b l s).opn.length : Int) - 1) ∧ (runB b l s).opn.length ≤ max 2 s.opn.length ∧ (runB b l s).nodes.length ≤ s.nodes.length + l.length
  | [], s, y, h => by
    simp only [sndR, Option.some.injEq] at h
    exact ⟨h.symm, by simp only [runB]; omega, by simp [runB]⟩
  | e :: l, s, y, h => by
    simp only [sndR] at h
    split at h
    · rename_i z hz
      obtain ⟨t1, t2, t3, t4, t5, t6, t7⟩ := step_snd rfl rfl hz
      have hz2 : z = ((stepB b s e).far, ((stepB b s e).opn.length : Int) - 1) := Prod.ext t1 t2
      rw [hz2] at h
      obtain ⟨r1, r2, r3⟩ := run_snd l (stepB b s e) y h
      simp only [runB, List.length_cons]
      exact ⟨r1, by omega, by omega⟩
    · cases h
end Go.Dm
