/- The shell's words, plainly: a line's pieces. -/
import Derived.Test.YtdgclgfhcgdehaaDoorShC
set_option linter.unusedVariables false
set_option linter.unusedSimpArgs false
namespace Go.Dm
theorem wrunF_k (s : List UInt8) (lf : Bool) : ∀ (n : Nat) (x : WS), x.k ≤ (wrunF s lf n x).k ∧ (x.k ≤ s.length → (wrunF s lf n x).k ≤ s.length) := by
  intro n
  induction n with
  | zero => intro x; exact ⟨Nat.le_refl _, id⟩
  | succ n ih =>
    intro x
    simp only [wrunF]
    cases hs : wstep s lf x with
    | none => exact ⟨Nat.le_refl _, id⟩
    | some y =>
      have hk := wstep_k hs
      have := ih y
      exact ⟨by simp only; omega, fun _ => this.2 hk.2⟩
theorem wrun_k {s : List UInt8} {lf : Bool} {x : WS} : x.k ≤ (wrun s lf x).k := (wrunF_k s lf _ x).1
theorem wrun_le {s : List UInt8} {lf : Bool} {x : WS} (h : x.k ≤ s.length) : (wrun s lf x).k ≤ s.length := (wrunF_k s lf _ x).2 h
theorem wpiece_ge (s : List UInt8) (lf : Bool) (k mark : Nat) : k ≤ (wpiece s lf k mark).2.2 := by
  have := wrun_k (s := s) (lf := lf) (x := ⟨k, mark, [], decide (mark ≠ 0)⟩)
  unfold wpiece
  simp only
  split <;> simp only <;> simp only at this <;> omega
theorem wpiece_le (s : List UInt8) (lf : Bool) (k mark : Nat) (h : k ≤ s.length) : (wpiece s lf k mark).2.2 ≤ s.length + lf.toNat := by
  have := wrun_le (s := s) (lf := lf) (x := ⟨k, mark, [], decide (mark ≠ 0)⟩) h
  unfold wpiece
  simp only
  split <;> simp only <;> omega
theorem wpiece_gt {s : List UInt8} {lf : Bool} {k : Nat} (hk : k < s.length) (hs : stopAt s lf k = false) : k < (wpiece s lf k 0).2.2 := by
  obtain ⟨y, hy⟩ : ∃ y, wstep s lf ⟨k, 0, [], decide ((0 : Nat) ≠ 0)⟩ = some y := by
    unfold wstep
    rw [if_neg (by simp only; omega), if_neg (by simp), if_neg (by simp), if_neg (by simp only; rw [hs]; decide)]
    split
    · exact ⟨_, rfl⟩
    · split
      · exact ⟨_, rfl⟩
      · split
        · split <;> exact ⟨_, rfl⟩
        · exact ⟨_, rfl⟩
  have h1 := (wstep_k hy).1
  have h2 := wrun_k (s := s) (lf := lf) (x := y)
  have h3 := wrun_some hy
  unfold wpiece
  simp only at h1 ⊢
  rw [h3]
  split <;> simp only <;> omega
/-- The next piece, if one stands there; the place and the mark behind it. -/
def rstep (s : List UInt8) (lf : Bool) (k mark : Nat) : Option (List Pc × Nat × Nat) :=
  if s.length ≤ k then none
  else if isBl (bt s k) then some ([], k + 1, mark)
  else if (bt s k).toNat = 35 then some ([⟨53, k, s.length, [], false, false⟩], s.length, mark)
  else if opAt s k ≠ 0 then some ([⟨52, k, k + opAt s k, [], false, false⟩], k + opAt s k, mark)
  else if joinAt s lf k then some ([⟨54, k, s.length + 1, [], false, false⟩], s.length + 1, mark)
  else some ([(wpiece s lf k 0).1], (wpiece s lf k 0).2.2, (wpiece s lf k 0).2.1)
theorem rstep_k {s : List UInt8} {lf : Bool} {k mark : Nat} {r : List Pc × Nat × Nat} (h : rstep s lf k mark = some r) : k < r.2.1 ∧ r.1.length ≤ 1 := by
  unfold rstep at h
  split at h
  · cases h
  · rename_i h0
    split at h
    · cases h; exact ⟨Nat.lt_succ_self _, Nat.zero_le _⟩
    · rename_i hb
      split at h
      · cases h; exact ⟨by simp only; omega, Nat.le_refl _⟩
      · split at h
        · cases h; exact ⟨by simp only; omega, Nat.le_refl _⟩
        · rename_i ho
          split at h
          · cases h; exact ⟨by simp only; omega, Nat.le_refl _⟩
          · rename_i hj
            cases h
            refine ⟨wpiece_gt (by omega) ?_, Nat.le_refl _⟩
            unfold stopAt
            simp only [ne_eq, Decidable.not_not] at ho
            simp at hb hj
            simp [hb, ho, hj]
            omega
def rrunF (s : List UInt8) (lf : Bool) : Nat → Nat → Nat → List Pc → List Pc × Nat
  | 0, _, mark, acc => (acc, mark)
  | n + 1, k, mark, acc => match rstep s lf k mark with
    | some r => rrunF s lf n r.2.1 r.2.2 (acc ++ r.1)
    | none => (acc, mark)
theorem rrunF_stop {s : List UInt8} {lf : Bool} {k mark : Nat} (h : rstep s lf k mark = none) : ∀ n acc, rrunF s lf n k mark acc = (acc, mark) := by
  intro n acc; cases n <;> simp [rrunF, h]
theorem rrunF_more {s : List UInt8} {lf : Bool} : ∀ (n m k mark : Nat) (acc : List Pc), s.length - k ≤ n → n ≤ m → rrunF s lf m k mark acc = rrunF s lf n k mark acc := by
  intro n
  induction n with
  | zero =>
    intro m k mark acc h _
    have hs : rstep s lf k mark = none := by unfold rstep; rw [if_pos (by omega)]
    rw [rrunF_stop hs, rrunF_stop hs]
  | succ n ih =>
    intro m k mark acc h hm
    obtain ⟨m, rfl⟩ : ∃ j, m = j + 1 := ⟨m - 1, by omega⟩
    simp only [rrunF]
    cases hs : rstep s lf k mark with
    | none => rfl
    | some r =>
      have := (rstep_k hs).1
      exact ih m _ _ _ (by omega) (by omega)
def rrun (s : List UInt8) (lf : Bool) (k mark : Nat) (acc : List Pc) : List Pc × Nat := rrunF s lf (s.length - k) k mark acc
theorem rrun_none {s : List UInt8} {lf : Bool} {k mark : Nat} (h : rstep s lf k mark = none) (acc : List Pc) : rrun s lf k mark acc = (acc, mark) := rrunF_stop h _ _
theorem rrun_some {s : List UInt8} {lf : Bool} {k mark : Nat} {r : List Pc × Nat × Nat} (h : rstep s lf k mark = some r) (acc : List Pc) : rrun s lf k mark acc = rrun s lf r.2.1 r.2.2 (acc ++ r.1) := by
  have hk := (rstep_k h).1
  have h0 : k < s.length := by
    unfold rstep at h
    split at h
    · cases h
    · omega
  unfold rrun
  obtain ⟨n, hn⟩ : ∃ n, s.length - k = n + 1 := ⟨s.length - k - 1, by omega⟩
  rw [hn]
  simp only [rrunF, h]
  exact rrunF_more _ _ _ _ _ (Nat.le_refl _) (by omega)
/-- A line's pieces from a place on, with a mark; the mark behind it. -/
def readM (s : List UInt8) (lf : Bool) (k mark : Nat) : List Pc × Nat :=
  if mark = 39 ∨ mark = 34 then rrun s lf (wpiece s lf k mark).2.2 (wpiece s lf k mark).2.1 [(wpiece s lf k mark).1] else rrun s lf k 0 []
def rdAt (line : List UInt8) (a : Int) (mark : Nat) : List Pc × Nat := if a < 0 ∨ ((ctn line).length : Int) < a then ([], 0) else readM (ctn line) (lfOf line) a.toNat mark
theorem bt_last (line : List UInt8) (h : 0 < line.length) : bt line (line.length - 1) = line.getLast (by intro e; rw [e] at h; cases h) := by
  unfold bt
  rw [List.getD_eq_getElem?_getD, List.getElem?_eq_getElem (by omega), List.getLast_eq_getElem]
  rfl
theorem suffix_lf (line : List UInt8) : ([10] : List UInt8).isSuffixOf line = lfOf line := by
  rw [Bool.eq_iff_iff, List.isSuffixOf_iff_suffix]
  constructor
  · rintro ⟨t, rfl⟩
    unfold lfOf ctnN
    have e : bt (t ++ [10]) ((t ++ [10]).length - 1) = 10 := by simp [bt]
    rw [e]
    simp
  · intro h
    have := ctn_rest line
    rw [h] at this
    refine ⟨line.take (ctnN line), ?_⟩
    have e := List.take_append_drop (ctnN line) line
    rw [this] at e
    simpa using e
theorem cut_ctn (line : List UInt8) : cutS line [10] = ctn line := by
  unfold cutS ctn
  rw [suffix_lf]
  have hr := ctn_rest line
  have hle := ctnN_le line
  cases h : lfOf line with
  | true =>
    rw [h] at hr
    have : (line.drop (ctnN line)).length = 1 := by rw [hr]; rfl
    simp at this
    rw [if_pos rfl]
    congr 1
    simp
    omega
  | false =>
    rw [h] at hr
    have : (line.drop (ctnN line)).length = 0 := by rw [hr]; rfl
    simp at this
    rw [if_neg (by decide), List.take_of_length_le (by omega)]
theorem ctn_lf (line : List UInt8) : line.length = ctnN line + (lfOf line).toNat := by
  have hr := congrArg List.length (ctn_rest line)
  have hle := ctnN_le line
  cases h : lfOf line <;> rw [h] at hr <;> simp at hr ⊢ <;> omega
def encs (l : List Pc) : List Value := l.flatMap encP
theorem encs_length (l : List Pc) : (encs l).length = l.length * 6 := by
  unfold encs
  induction l with
  | nil => rfl
  | cons p l ih => simp only [List.flatMap_cons, List.length_append, ih, List.length_cons]; simp only [encP, List.length_cons, List.length_nil]; omega
theorem encs_snoc (l : List Pc) (p : Pc) : encs l ++ encP p = encs (l ++ [p]) := by simp [encs]
end Go.Dm
