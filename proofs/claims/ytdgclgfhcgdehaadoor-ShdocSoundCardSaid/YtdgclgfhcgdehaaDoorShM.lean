/- The shell's words, plainly: what 'Op', 'word' and 'Read' come to. -/
import Derived.Test.YtdgclgfhcgdehaaDoorDSymB
set_option linter.unusedVariables false
set_option linter.unusedSimpArgs false
namespace Go.Dm
def opsL : List (List UInt8) := [[60, 60, 45], [38, 38], [124, 124], [59, 59], [60, 60], [62, 62], [60, 38], [62, 38], [60, 62], [62, 124], [38], [124], [59], [60], [62], [40], [41]]
def opN (s : List UInt8) : Nat := match opsL.find? (·.isPrefixOf s) with
  | some o => o.length
  | none => 0
/-- The operator at a place. -/
def opAt (s : List UInt8) (a : Int) : Nat := if a < 0 ∨ s.length < a then 0 else opN (s.drop a.toNat)
def isBl (c : UInt8) : Bool := decide (c.toNat = 32) || decide (c.toNat = 9)
def joinAt (s : List UInt8) (lf : Bool) (k : Nat) : Bool := lf && decide (k + 1 = s.length) && decide ((bt s k).toNat = 92)
/-- Does a word stop there? -/
def stopAt (s : List UInt8) (lf : Bool) (k : Nat) : Bool := decide (s.length ≤ k) || isBl (bt s k) || decide (opAt s k ≠ 0) || joinAt s lf k
structure WS where
  k : Nat
  mark : Nat
  text : List UInt8
  raw : Bool
def qEsc (d : UInt8) : Bool := decide (d.toNat = 92) || decide (d.toNat = 34) || decide (d.toNat = 36) || decide (d.toNat = 96)
/-- One step within a word. -/
def wstep (s : List UInt8) (lf : Bool) (x : WS) : Option WS :=
  if s.length ≤ x.k then none
  else if x.mark = 39 then
    if (bt s x.k).toNat = 39 then some { x with k := x.k + 1, mark := 0 } else some { x with k := x.k + 1, text := x.text ++ [bt s x.k] }
  else if x.mark = 34 then
    if (bt s x.k).toNat = 34 then some { x with k := x.k + 1, mark := 0 }
    else if (bt s x.k).toNat = 92 ∧ x.k + 1 < s.length then some { x with k := x.k + 2, text := x.text ++ (if qEsc (bt s (x.k + 1)) then [bt s (x.k + 1)] else [bt s x.k, bt s (x.k + 1)]) }
    else some { x with k := x.k + 1, text := x.text ++ [bt s x.k] }
  else if stopAt s lf x.k then none
  else if (bt s x.k).toNat = 39 then some { x with k := x.k + 1, mark := 39, raw := true }
  else if (bt s x.k).toNat = 34 then some { x with k := x.k + 1, mark := 34, raw := true }
  else if (bt s x.k).toNat = 92 then
    if x.k + 1 < s.length then some { x with k := x.k + 2, raw := true, text := x.text ++ [bt s (x.k + 1)] } else some { x with k := x.k + 1, raw := true, text := x.text ++ [bt s x.k] }
  else some { x with k := x.k + 1, text := x.text ++ [bt s x.k] }
def wrunF (s : List UInt8) (lf : Bool) : Nat → WS → WS
  | 0, x => x
  | n + 1, x => match wstep s lf x with
    | some y => wrunF s lf n y
    | none => x
theorem wstep_k {s : List UInt8} {lf : Bool} {x y : WS} (h : wstep s lf x = some y) : x.k < y.k ∧ y.k ≤ s.length := by
  unfold wstep at h
  split at h
  · cases h
  · rename_i h0
    have h0' : x.k < s.length := by omega
    repeat' (split at h)
    all_goals first | (cases h; done) | (simp only [Option.some.injEq] at h; subst h; simp only; omega)
/-- The word's end. -/
def wrun (s : List UInt8) (lf : Bool) (x : WS) : WS := wrunF s lf (s.length - x.k) x
theorem wrunF_stop {s : List UInt8} {lf : Bool} {x : WS} (h : wstep s lf x = none) : ∀ n, wrunF s lf n x = x := by
  intro n; cases n <;> simp [wrunF, h]
theorem wrunF_more {s : List UInt8} {lf : Bool} : ∀ (n m : Nat) (x : WS), s.length - x.k ≤ n → n ≤ m → wrunF s lf m x = wrunF s lf n x := by
  intro n
  induction n with
  | zero =>
    intro m x h _
    have hs : wstep s lf x = none := by unfold wstep; rw [if_pos (by omega)]
    rw [wrunF_stop hs, wrunF_stop hs]
  | succ n ih =>
    intro m x h hm
    obtain ⟨m, rfl⟩ : ∃ j, m = j + 1 := ⟨m - 1, by omega⟩
    simp only [wrunF]
    cases hs : wstep s lf x with
    | none => rfl
    | some y =>
      have := wstep_k hs
      exact ih m y (by omega) (by omega)
theorem wrun_none {s : List UInt8} {lf : Bool} {x : WS} (h : wstep s lf x = none) : wrun s lf x = x := wrunF_stop h _
theorem wrun_some {s : List UInt8} {lf : Bool} {x y : WS} (h : wstep s lf x = some y) : wrun s lf x = wrun s lf y := by
  have hk := wstep_k h
  unfold wrun
  obtain ⟨n, hn⟩ : ∃ n, s.length - x.k = n + 1 := ⟨s.length - x.k - 1, by omega⟩
  rw [hn]
  simp only [wrunF, h]
  exact wrunF_more _ _ _ (Nat.le_refl _) (by omega)
end Go.Dm
