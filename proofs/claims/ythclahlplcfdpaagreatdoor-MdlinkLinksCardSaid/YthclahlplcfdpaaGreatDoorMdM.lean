/- Links: the plain model of labels, targets and their parts (no program in sight). -/
import Derived.Test.YthclahlplcfdpaaGreatDoorDSymB
set_option linter.unusedVariables false
set_option linter.unusedSimpArgs false
namespace Go.Dm
/-! a line's end -/
/-- Where the LF stands, or the end. -/
def lnN (l : List UInt8) : Nat := (l.takeWhile (· != 10)).length
/-- A line's end. -/
def eN (l : List UInt8) : Nat := if lnN l < l.length ∧ 0 < lnN l ∧ l[lnN l - 1]? = some 13 then lnN l - 1 else lnN l
theorem lnN_le (l : List UInt8) : lnN l ≤ l.length := (List.takeWhile_sublist _).length_le
theorem eN_le (l : List UInt8) : eN l ≤ lnN l := by unfold eN; split <;> omega
theorem eN_len (l : List UInt8) : eN l ≤ l.length := Nat.le_trans (eN_le l) (lnN_le l)
theorem tw_ne {p : UInt8 → Bool} {l : List UInt8} {i : Nat} (h : i < (l.takeWhile p).length) : ∃ c, l[i]? = some c ∧ p c = true := by
  have h1 : (l.takeWhile p)[i] ∈ l.takeWhile p := List.getElem_mem h
  have h2 : p (l.takeWhile p)[i] = true := List.all_eq_true.1 List.all_takeWhile _ h1
  refine ⟨(l.takeWhile p)[i], ?_, h2⟩
  have h3 : (l.takeWhile p) <+: l := List.takeWhile_prefix _
  rw [← List.getElem?_eq_getElem h]
  obtain ⟨t, ht⟩ := h3
  have : l[i]? = (l.takeWhile p ++ t)[i]? := by rw [ht]
  rw [this, List.getElem?_append_left h]
theorem tw_at {p : UInt8 → Bool} : ∀ {l : List UInt8} {c : UInt8}, l[(l.takeWhile p).length]? = some c → p c = false
  | [], c, h => by simp at h
  | x :: l, c, h => by
    by_cases hx : p x = true
    · rw [List.takeWhile_cons_of_pos hx] at h
      exact tw_at (l := l) (by simpa using h)
    · rw [List.takeWhile_cons_of_neg hx] at h
      simp at h
      subst h
      simpa using hx
/-- Counting on: a byte that is as it must be. -/
theorem tw_succ {p : UInt8 → Bool} {l : List UInt8} {i : Nat} (h : i ≤ (l.takeWhile p).length) {c : UInt8} (hc : l[i]? = some c) (hp : p c = true) : i + 1 ≤ (l.takeWhile p).length := by
  rcases Nat.lt_or_ge i (l.takeWhile p).length with h1 | h1
  · omega
  · have e : i = (l.takeWhile p).length := by omega
    rw [e] at hc
    rw [tw_at hc] at hp
    cases hp
theorem tw_stop {p : UInt8 → Bool} {l : List UInt8} {i : Nat} (h : i ≤ (l.takeWhile p).length) {c : UInt8} (hc : l[i]? = some c) (hp : p c = false) : (l.takeWhile p).length = i := by
  rcases Nat.lt_or_ge i (l.takeWhile p).length with h1 | h1
  · obtain ⟨d, h2, h3⟩ := tw_ne h1
    rw [hc] at h2; cases h2
    rw [hp] at h3; cases h3
  · omega
/-! bytes -/
def isMk (c : UInt8) : Bool := (decide (33 ≤ c.toNat) && decide (c.toNat ≤ 47)) || (decide (58 ≤ c.toNat) && decide (c.toNat ≤ 64)) || (decide (91 ≤ c.toNat) && decide (c.toNat ≤ 96)) || (decide (123 ≤ c.toNat) && decide (c.toNat ≤ 126))
def isB (c : UInt8) : Bool := c == 32 || c == 9
def lowB (c : UInt8) : UInt8 := if 65 ≤ c.toNat ∧ c.toNat ≤ 90 then c + 32 else c
/-- A mark stands next. -/
def nxMk : List UInt8 → Bool
  | c :: _ => isMk c
  | [] => false
/-- Does a byte take the next one along? -/
def tks (c : UInt8) (r : List UInt8) : Bool := c == 92 && nxMk r
/-! what is within -/
/-- How many bytes up to and with the first one that ends; none but that may be one that bars. -/
def wi (e : UInt8) (b : List UInt8) : Bool → List UInt8 → Option Nat
  | _, [] => none
  | true, _ :: r => (wi e b false r).map (· + 1)
  | false, c :: r => if tks c r then (wi e b true r).map (· + 1) else if c = e then some 1 else if c ∈ b then none else (wi e b false r).map (· + 1)
/-- The place of the first byte that is not taken. -/
def fnd (c : UInt8) : Bool → List UInt8 → Option Nat
  | _, [] => none
  | true, _ :: r => (fnd c false r).map (· + 1)
  | false, x :: r => if x = c then some 0 else (fnd c (tks x r) r).map (· + 1)
/-- Is a byte taken? -/
def skAt : Bool → List UInt8 → Nat → Bool
  | sk, _, 0 => sk
  | _, [], _ + 1 => false
  | true, _ :: r, n + 1 => skAt false r n
  | false, x :: r, n + 1 => skAt (tks x r) r n
theorem wi_true (e : UInt8) (b : List UInt8) (c : UInt8) (r : List UInt8) : wi e b true (c :: r) = (wi e b false r).map (· + 1) := by rw [wi]
theorem wi_false (e : UInt8) (b : List UInt8) (c : UInt8) (r : List UInt8) : wi e b false (c :: r) = if tks c r then (wi e b true r).map (· + 1) else if c = e then some 1 else if c ∈ b then none else (wi e b false r).map (· + 1) := by rw [wi]
theorem wi_nil (e : UInt8) (b : List UInt8) (sk : Bool) : wi e b sk [] = none := by cases sk <;> rw [wi]
theorem wi_le (e : UInt8) (b : List UInt8) : ∀ (u : List UInt8) (sk : Bool) (k : Nat), wi e b sk u = some k → 1 ≤ k ∧ k ≤ u.length
  | [], sk, k, h => by rw [wi_nil] at h; cases h
  | c :: r, true, k, h => by
    rw [wi_true, Option.map_eq_some_iff] at h
    obtain ⟨j, h1, rfl⟩ := h
    have := wi_le e b r false j h1
    simp; omega
  | c :: r, false, k, h => by
    rw [wi_false] at h
    split at h
    · rw [Option.map_eq_some_iff] at h
      obtain ⟨j, h1, rfl⟩ := h
      have := wi_le e b r true j h1
      simp; omega
    · split at h
      · cases h; simp
      · split at h
        · cases h
        · rw [Option.map_eq_some_iff] at h
          obtain ⟨j, h1, rfl⟩ := h
          have := wi_le e b r false j h1
          simp; omega
theorem skAt_succ : ∀ (u : List UInt8) (sk : Bool) (n : Nat), n + 1 < u.length → skAt sk u (n + 1) = (!skAt sk u n && tks (u.getD n 0) (u.drop (n + 1)))
  | [], sk, n, h => by simp at h
  | x :: r, true, 0, h => by
    simp only [skAt, Bool.not_true, Bool.false_and]
  | x :: r, false, 0, h => by
    simp [skAt]
  | x :: r, true, n + 1, h => by
    rw [skAt, skAt, skAt_succ r false n (by simp at h; omega)]
    simp
  | x :: r, false, n + 1, h => by
    rw [skAt, skAt, skAt_succ r (tks x r) n (by simp at h; omega)]
    simp
theorem fnd_true (c x : UInt8) (r : List UInt8) : fnd c true (x :: r) = (fnd c false r).map (· + 1) := by rw [fnd]
theorem fnd_false (c x : UInt8) (r : List UInt8) : fnd c false (x :: r) = if x = c then some 0 else (fnd c (tks x r) r).map (· + 1) := by rw [fnd]
theorem fnd_nil (c : UInt8) (sk : Bool) : fnd c sk [] = none := by cases sk <;> rw [fnd]
/-- By the two places. -/
def ofFnd (close opn : Option Nat) : Option Nat := match close, opn with
  | none, _ => none
  | some k, some o => if o < k then none else some (k + 1)
  | some k, none => some (k + 1)
theorem ofFnd_map (a b : Option Nat) : ofFnd (a.map (· + 1)) (b.map (· + 1)) = (ofFnd a b).map (· + 1) := by
  cases a <;> cases b <;> simp [ofFnd]
  split <;> simp
theorem ofFnd_map0 (a : Option Nat) : ofFnd (a.map (· + 1)) none = (ofFnd a none).map (· + 1) := by cases a <;> simp [ofFnd]
theorem wi_fnd (e b : UInt8) (he : e ≠ 92) (hb : b ≠ 92) (hbe : b ≠ e) : ∀ (u : List UInt8) (sk : Bool), wi e [b] sk u = ofFnd (fnd e sk u) (fnd b sk u)
  | [], sk => by rw [wi_nil, fnd_nil]; rfl
  | c :: r, true => by rw [wi_true, fnd_true, fnd_true, ofFnd_map, wi_fnd e b he hb hbe r false]
  | c :: r, false => by
    rw [wi_false, fnd_false, fnd_false]
    by_cases ht : tks c r = true
    · have hc : c = 92 := by unfold tks at ht; simp at ht; exact ht.1
      have h1 : c ≠ e := fun q => he (q.symm.trans hc)
      have h2 : c ≠ b := fun q => hb (q.symm.trans hc)
      rw [if_pos ht, if_neg h1, if_neg h2, ofFnd_map, ht, wi_fnd e b he hb hbe r true]
    · rw [if_neg ht]
      have ht' : tks c r = false := by simpa using ht
      rw [ht']
      by_cases h1 : c = e
      · subst h1
        rw [if_pos rfl, if_pos rfl, if_neg (fun q => hbe q.symm)]
        cases fnd b false r <;> simp [ofFnd]
      · rw [if_neg h1, if_neg h1]
        by_cases h2 : c = b
        · subst h2
          rw [if_pos (by simp), if_pos rfl]
          cases fnd e false r <;> simp [ofFnd]
        · rw [if_neg (by simpa using h2), if_neg h2, ofFnd_map, wi_fnd e b he hb hbe r false]
theorem wi_fnd0 (e : UInt8) (he : e ≠ 92) : ∀ (u : List UInt8) (sk : Bool), wi e [] sk u = ofFnd (fnd e sk u) none
  | [], sk => by rw [wi_nil, fnd_nil]; rfl
  | c :: r, true => by rw [wi_true, fnd_true, ofFnd_map0, wi_fnd0 e he r false]
  | c :: r, false => by
    rw [wi_false, fnd_false]
    by_cases ht : tks c r = true
    · have hc : c = 92 := by unfold tks at ht; simp at ht; exact ht.1
      have h1 : c ≠ e := fun q => he (q.symm.trans hc)
      rw [if_pos ht, if_neg h1, ofFnd_map0, ht, wi_fnd0 e he r true]
    · rw [if_neg ht]
      have ht' : tks c r = false := by simpa using ht
      rw [ht']
      by_cases h1 : c = e
      · subst h1
        rw [if_pos rfl, if_pos rfl]
        simp [ofFnd]
      · rw [if_neg h1, if_neg h1, if_neg (by simp), ofFnd_map0, wi_fnd0 e he r false]
theorem fnd_lt (c : UInt8) : ∀ (u : List UInt8) (sk : Bool) (k : Nat), fnd c sk u = some k → k < u.length
  | [], sk, k, h => by rw [fnd_nil] at h; cases h
  | x :: r, true, k, h => by
    rw [fnd_true, Option.map_eq_some_iff] at h
    obtain ⟨j, h1, rfl⟩ := h
    have := fnd_lt c r false j h1
    simp; omega
  | x :: r, false, k, h => by
    rw [fnd_false] at h
    split at h
    · cases h; simp
    · rw [Option.map_eq_some_iff] at h
      obtain ⟨j, h1, rfl⟩ := h
      have := fnd_lt c r _ j h1
      simp; omega
/-! a label, folded -/
/-- By the bytes: 'g': a gap lies ahead; 's': something stands already. -/
def fo (g s : Bool) : List UInt8 → List UInt8
  | [] => []
  | c :: r => if isB c then fo true s r else (if g && s then [32] else []) ++ lowB c :: fo false true r
def foldL (l : List UInt8) : List UInt8 := fo false false l
/-! labels, targets -/
def skipN (t : List UInt8) : Nat := (t.takeWhile isB).length
/-- A label: how many bytes. -/
def rdL : List UInt8 → Option Nat
  | c :: u => if c = 91 then match wi 93 [91] false u with
      | some k => if k ≤ 201 ∧ foldL (u.take (k - 1)) ≠ [] then some (k + 1) else none
      | none => none
    else none
  | [] => none
/-- A title: how many bytes. -/
def ttL : List UInt8 → Option Nat
  | c :: u => if c = 34 ∨ c = 39 then (wi c [] false u).map (· + 1) else if c = 40 then (wi 41 [40] false u).map (· + 1) else none
  | [] => none
/-- A destination that is not in angles. -/
def gg : Nat → Bool → List UInt8 → Option Nat
  | _, _, [] => none
  | d, true, _ :: r => (gg d false r).map (· + 1)
  | d, false, c :: r => if tks c r then (gg d true r).map (· + 1) else if c = 40 then (gg (d + 1) false r).map (· + 1)
      else if (c = 41 ∧ d = 0) ∨ c.toNat ≤ 32 ∨ c = 127 then (if d = 0 then some 0 else none)
      else if c = 41 then (gg (d - 1) false r).map (· + 1) else (gg d false r).map (· + 1)
def goL : List UInt8 → Option Nat
  | c :: u => if c = 60 then (wi 62 [60] false u).map (· + 1) else match gg 0 false (c :: u) with
      | some (k + 1) => some (k + 1)
      | _ => none
  | [] => none
/-- Behind a target's destination: how many bytes with the title. -/
def tailL (t : List UInt8) : Option Nat :=
  if skipN t = 0 then some 0 else match t.drop (skipN t) with
    | [] => some (skipN t)
    | c :: u => if c = 41 then some (skipN t) else match ttL (c :: u) with
      | some n => some (skipN t + n + skipN ((c :: u).drop n))
      | none => none
/-- Within a target's brackets: how many bytes. -/
def midL (u : List UInt8) : Option Nat := match u.drop (skipN u) with
  | [] => some (skipN u)
  | c :: r => if c = 41 then some (skipN u) else match goL (c :: r) with
    | some g => (tailL ((c :: r).drop g)).map (skipN u + g + ·)
    | none => none
/-- A target: how many bytes. -/
def tgL : List UInt8 → Option Nat
  | c :: u => if c = 40 then match midL u with
      | some n => match u.drop n with
        | d :: _ => if d = 41 then some (n + 2) else none
        | [] => none
      | none => none
    else none
  | [] => none
end Go.Dm
