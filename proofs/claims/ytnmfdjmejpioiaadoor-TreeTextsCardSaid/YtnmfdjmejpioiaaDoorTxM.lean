/- A tree's text, plainly: numbers, words, lines. -/
import Derived.Test.YtnmfdjmejpioiaaDoorTrI
set_option linter.unusedVariables false
set_option linter.unusedSimpArgs false
namespace Go.Dm
def isDig (c : UInt8) : Bool := decide (48 ≤ c.toNat) && decide (c.toNat ≤ 57)
def valF (n : Nat) : List UInt8 → Nat
  | [] => n
  | c :: r => valF (10 * n + (c.toNat - 48)) r
def valN (w : List UInt8) : Nat := valF 0 w
/-- The number that a text tells. -/
def numv (w : List UInt8) : Option Nat :=
  if w = [] ∨ (1 < w.length ∧ w.head? = some 48) ∨ w.all isDig = false then none
  else if valN w ≤ 1099511627776 then some (valN w) else none
/-- The number at a text's beginning, which a byte ends. -/
def fld (e : UInt8) (t : List UInt8) : Option (Nat × List UInt8) :=
  match numv (t.takeWhile isDig), t.drop (t.takeWhile isDig).length with
  | some n, c :: r => if c = e then some (n, r) else none
  | _, _ => none
def mkNd (a b c d : Nat) : Nd := ⟨b, c, d, a⟩
/-- One line of the document's. -/
def rline (t : List UInt8) : Option (Nd × List UInt8) :=
  match fld 32 t with
  | some (a, t1) => match fld 32 t1 with
    | some (b, t2) => if b ≤ 255 then match fld 32 t2 with
      | some (c, t3) => match fld 10 t3 with
        | some (d, t4) => some (mkNd a b c d, t4)
        | none => none
      | none => none
      else none
    | none => none
  | none => none
/-- The words between blanks. -/
def splitB : List UInt8 → List (List UInt8)
  | [] => [[]]
  | c :: r => if c = 32 then [] :: splitB r else match splitB r with
    | w :: ws => (c :: w) :: ws
    | [] => [[c]]
theorem splitB_ne (l : List UInt8) : splitB l ≠ [] := by
  cases l with
  | nil => simp [splitB]
  | cons c r =>
    unfold splitB
    split
    · simp
    · split <;> simp
/-- One line of the program's, without its LF. -/
def pline (L : List UInt8) : Option Nd := match splitB L with
  | [w1, w2, w3, w4] => match numv w1, numv w2, numv w3, numv w4 with
    | some a, some b, some c, some d => if b ≤ 255 then some (mkNd a b c d) else none
    | _, _, _, _ => none
  | _ => none
theorem splitB_none {w : List UInt8} (h : ∀ c ∈ w, c ≠ 32) : splitB w = [w] := by
  induction w with
  | nil => rfl
  | cons c r ih =>
    unfold splitB
    rw [if_neg (h c (List.mem_cons_self ..)), ih fun d hd => h d (List.mem_cons_of_mem _ hd)]
theorem splitB_some {w r : List UInt8} (h : ∀ c ∈ w, c ≠ 32) : splitB (w ++ 32 :: r) = w :: splitB r := by
  induction w with
  | nil => simp [splitB]
  | cons c w ih =>
    simp only [List.cons_append]
    conv => lhs; unfold splitB
    rw [if_neg (h c (List.mem_cons_self ..)), ih fun d hd => h d (List.mem_cons_of_mem _ hd)]
theorem first_or (e : UInt8) : ∀ (L : List UInt8), (∀ c ∈ L, c ≠ e) ∨ ∃ w r, L = w ++ e :: r ∧ ∀ c ∈ w, c ≠ e
  | [] => .inl fun c hc => by cases hc
  | c :: L => by
    by_cases h : c = e
    · exact .inr ⟨[], L, by rw [h]; rfl, fun c hc => by cases hc⟩
    · rcases first_or e L with h1 | ⟨w, r, h1, h2⟩
      · exact .inl fun d hd => by rcases List.mem_cons.1 hd with rfl | hd; exact h; exact h1 d hd
      · exact .inr ⟨c :: w, r, by rw [h1]; rfl, fun d hd => by rcases List.mem_cons.1 hd with rfl | hd; exact h; exact h2 d hd⟩
theorem isDig_32 : isDig 32 = false := by decide
theorem isDig_10 : isDig 10 = false := by decide
theorem tw_all {w : List UInt8} (h : w.all isDig = true) (e : UInt8) (he : isDig e = false) (r : List UInt8) : (w ++ e :: r).takeWhile isDig = w := by
  induction w with
  | nil => simp [he]
  | cons c w ih =>
    simp only [List.all_cons, Bool.and_eq_true] at h
    simp [h.1, ih h.2]
/-- If not all are digits, digits stop before the end of w. -/
theorem tw_not {w : List UInt8} (h : w.all isDig = false) (r : List UInt8) : ∃ u c v, w = u ++ c :: v ∧ isDig c = false ∧ (w ++ r).takeWhile isDig = u := by
  induction w with
  | nil => simp at h
  | cons c w ih =>
    by_cases hc : isDig c = true
    · have h' : w.all isDig = false := by simpa [hc] using h
      obtain ⟨u, d, v, h1, h2, h3⟩ := ih h'
      exact ⟨c :: u, d, v, by rw [h1]; rfl, h2, by simp [hc, h3]⟩
    · exact ⟨[], c, w, rfl, by simpa using hc, by simp [hc]⟩
theorem numv_dig {w : List UInt8} {n : Nat} (h : numv w = some n) : w.all isDig = true ∧ w ≠ [] := by
  unfold numv at h
  split at h
  · cases h
  · rename_i h1
    simp only [not_or] at h1
    exact ⟨by simpa using h1.2.2, h1.1⟩
/-- A field whose word is ended by the very byte. -/
theorem fld_hit {e : UInt8} (he : isDig e = false) {w r : List UInt8} (hw : ∀ c ∈ w, c ≠ e) : fld e (w ++ e :: r) = (numv w).map fun n => (n, r) := by
  unfold fld
  cases h : w.all isDig with
  | true =>
    rw [tw_all h e he]
    simp only [List.drop_left]
    cases numv w with
    | none => rfl
    | some n => simp
  | false =>
    obtain ⟨u, c, v, h1, h2, h3⟩ := tw_not h (e :: r)
    have hn : numv w = none := by
      cases hn : numv w with
      | none => rfl
      | some n => have := (numv_dig hn).1; rw [h] at this; cases this
    have hc : c ≠ e := hw c (by rw [h1]; simp)
    rw [h3, hn, h1]
    simp only [List.append_assoc, List.cons_append, List.drop_left]
    cases numv u with
    | none => rfl
    | some n => simp [hc]
/-- A field whose word is ended by another byte, or by none. -/
theorem fld_miss {e f : UInt8} (hf : isDig f = false) (hef : f ≠ e) {w r : List UInt8} (hw : ∀ c ∈ w, c ≠ e) : fld e (w ++ f :: r) = none := by
  unfold fld
  cases h : w.all isDig with
  | true =>
    rw [tw_all h f hf]
    simp only [List.drop_left]
    cases numv w with
    | none => rfl
    | some n => simp [hef]
  | false =>
    obtain ⟨u, c, v, h1, h2, h3⟩ := tw_not h (f :: r)
    have hc : c ≠ e := hw c (by rw [h1]; simp)
    rw [h3, h1]
    simp only [List.append_assoc, List.cons_append, List.drop_left]
    cases numv u with
    | none => rfl
    | some n => simp [hc]
theorem fld_end {e : UInt8} {w : List UInt8} (hw : ∀ c ∈ w, c ≠ e) : fld e w = none := by
  unfold fld
  cases h : w.all isDig with
  | true =>
    have : w.takeWhile isDig = w := by
      clear hw
      induction w with
      | nil => rfl
      | cons c w ih =>
        simp only [List.all_cons, Bool.and_eq_true] at h
        simp [h.1, ih h.2]
    rw [this, List.drop_length]
    cases numv w <;> rfl
  | false =>
    obtain ⟨u, c, v, h1, h2, h3⟩ := tw_not h []
    rw [List.append_nil] at h3
    have hc : c ≠ e := hw c (by rw [h1]; simp)
    rw [h3, h1]
    simp only [List.drop_left]
    cases numv u with
    | none => rfl
    | some n => simp [hc]
/-- The word ahead of the first blank, of a line. -/
theorem fld_line {L rest : List UInt8} (hL : ∀ c ∈ L, c ≠ 10) : fld 32 (L ++ 10 :: rest) = match splitB L with
    | w :: x :: ws => (numv w).bind fun n => some (n, (L.drop (w.length + 1)) ++ 10 :: rest)
    | _ => none := by
  rcases first_or 32 L with h | ⟨w, r, rfl, hw⟩
  · rw [splitB_none h, fld_miss isDig_10 (by decide) h]
  · rw [splitB_some hw]
    have hr := splitB_ne r
    cases hs : splitB r with
    | nil => exact absurd hs hr
    | cons x ws =>
      rw [show (w ++ 32 :: r) ++ 10 :: rest = w ++ 32 :: (r ++ 10 :: rest) by simp, fld_hit isDig_32 hw]
      have hd : (w ++ 32 :: r).drop (w.length + 1) = r := by
        rw [← List.drop_drop, List.drop_left]; rfl
      simp only [hd]
      cases numv w <;> rfl
theorem fld_last {L rest : List UInt8} (hL : ∀ c ∈ L, c ≠ 10) : fld 10 (L ++ 10 :: rest) = (numv L).map fun n => (n, rest) := fld_hit isDig_10 hL
theorem numv_blank {w r : List UInt8} : numv (w ++ 32 :: r) = none := by
  cases h : numv (w ++ 32 :: r) with
  | none => rfl
  | some n =>
    have := (numv_dig h).1
    rw [List.all_append, List.all_cons, isDig_32] at this
    simp at this
/-- THE LINE: the document's way and the program's come to the same. -/
theorem rline_eq {L rest : List UInt8} (hL : ∀ c ∈ L, c ≠ 10) : rline (L ++ 10 :: rest) = (pline L).map fun x => (x, rest) := by
  unfold rline pline
  rcases first_or 32 L with h | ⟨w1, r1, rfl, h1⟩
  · rw [fld_miss isDig_10 (by decide) h, splitB_none h]; rfl
  rw [splitB_some h1, show (w1 ++ 32 :: r1) ++ 10 :: rest = w1 ++ 32 :: (r1 ++ 10 :: rest) by simp, fld_hit isDig_32 h1]
  have hr1 : ∀ c ∈ r1, c ≠ 10 := fun c hc => hL c (by simp [hc])
  rcases first_or 32 r1 with h | ⟨w2, r2, rfl, h2⟩
  · rw [splitB_none h]
    cases numv w1 with
    | none => rfl
    | some a => simp only [Option.map_some]; rw [fld_miss isDig_10 (by decide) h]; rfl
  rw [splitB_some h2, show (w2 ++ 32 :: r2) ++ 10 :: rest = w2 ++ 32 :: (r2 ++ 10 :: rest) by simp]
  have hr2 : ∀ c ∈ r2, c ≠ 10 := fun c hc => hr1 c (by simp [hc])
  rcases first_or 32 r2 with h | ⟨w3, r3, rfl, h3⟩
  · rw [splitB_none h]
    cases numv w1 with
    | none => rfl
    | some a =>
      simp only [Option.map_some]
      rw [fld_hit isDig_32 h2]
      cases numv w2 with
      | none => rfl
      | some b =>
        simp only [Option.map_some]
        rw [fld_miss isDig_10 (by decide) h]
        split <;> rfl
  rw [splitB_some h3, show (w3 ++ 32 :: r3) ++ 10 :: rest = w3 ++ 32 :: (r3 ++ 10 :: rest) by simp]
  have hr3 : ∀ c ∈ r3, c ≠ 10 := fun c hc => hr2 c (by simp [hc])
  cases hn1 : numv w1 with
  | none =>
    simp only [Option.map_none]
    split
    · rename_i e
      simp only [List.cons.injEq] at e
      rw [← e.1, hn1]
      rfl
    · rfl
  | some a =>
    simp only [Option.map_some]
    rw [fld_hit isDig_32 h2]
    cases hn2 : numv w2 with
    | none =>
      simp only [Option.map_none]
      split
      · rename_i e
        simp only [List.cons.injEq] at e
        rw [← e.1, ← e.2.1, hn1, hn2]
        rfl
      · rfl
    | some b =>
      simp only [Option.map_some]
      rw [fld_hit isDig_32 h3]
      rcases first_or 32 r3 with h | ⟨w4, r4, rfl, h4⟩
      · rw [splitB_none h]
        simp only [hn1, hn2]
        cases hn3 : numv w3 with
        | none => simp only [Option.map_none]; split <;> rfl
        | some c =>
          simp only [Option.map_some]
          rw [fld_last hr3]
          cases numv r3 with
          | none => simp only [Option.map_none]; split <;> rfl
          | some d => simp only [Option.map_some]; split <;> rfl
      · rw [splitB_some h4]
        have hs := splitB_ne r4
        cases hs4 : splitB r4 with
        | nil => exact absurd hs4 hs
        | cons x ws =>
          simp only [Option.map_none]
          cases hn3 : numv w3 with
          | none => simp only [Option.map_none]; split <;> rfl
          | some c =>
            simp only [Option.map_some]
            rw [fld_last hr3, numv_blank]
            simp only [Option.map_none]
            split <;> rfl
/-- Without an LF there is no line. -/
theorem rline_none {L : List UInt8} (hL : ∀ c ∈ L, c ≠ 10) : rline L = none := by
  unfold rline
  rcases first_or 32 L with h | ⟨w1, r1, rfl, h1⟩
  · rw [fld_end h]
  rw [fld_hit isDig_32 h1]
  have hr1 : ∀ c ∈ r1, c ≠ 10 := fun c hc => hL c (by simp [hc])
  cases numv w1 with
  | none => rfl
  | some a =>
    simp only [Option.map_some]
    rcases first_or 32 r1 with h | ⟨w2, r2, rfl, h2⟩
    · rw [fld_end h]
    rw [fld_hit isDig_32 h2]
    have hr2 : ∀ c ∈ r2, c ≠ 10 := fun c hc => hr1 c (by simp [hc])
    cases numv w2 with
    | none => rfl
    | some b =>
      simp only [Option.map_some]
      split
      · rcases first_or 32 r2 with h | ⟨w3, r3, rfl, h3⟩
        · rw [fld_end h]
        rw [fld_hit isDig_32 h3]
        have hr3 : ∀ c ∈ r3, c ≠ 10 := fun c hc => hr2 c (by simp [hc])
        cases numv w3 with
        | none => rfl
        | some c =>
          simp only [Option.map_some]
          rw [fld_end hr3]
      · rfl
end Go.Dm
