/- The law IndexLast, by the machine D. -/
import Derived.Test.YthglbdbdhhbkhaaIxG
set_option linter.unusedVariables false
set_option linter.unusedSimpArgs false
namespace Go.Dm
open Go.Proofs
theorem sum_take : ∀ (l : List Nat) (k : Nat), (l.take k).sum ≤ l.sum
  | [], k => by simp
  | a :: l, 0 => by simp
  | a :: l, k + 1 => by have := sum_take l k; simp only [List.take_succ_cons, List.sum_cons]; omega
theorem sum_drop : ∀ (l : List Nat) (k : Nat), (l.drop k).sum ≤ l.sum
  | [], k => by simp
  | a :: l, 0 => by simp
  | a :: l, k + 1 => by have := sum_drop l k; simp only [List.drop_succ_cons, List.sum_cons]; omega
/-! Plainly: an index hangs on the last that was done at each number. -/
def valA (a : Ac) : Option En := if a.w = 0 then none else if riseL a.d = [] ∧ riseL a.m = [] then none else some ⟨a.n, riseL a.d, riseL a.m⟩
def resA : Option Ac → Option En
  | none => none
  | some a => if a.n < 0 then none else valA a
theorem act_get {L : List En} (r : Ris L) (a : Ac) (k : Int) : getL (actL L a) k = if ¬ a.n < 0 ∧ k = a.n then valA a else getL L k := by
  unfold actL valA
  by_cases hn : a.n < 0
  · rw [if_pos hn, if_neg (fun e => e.1 hn)]
  · rw [if_neg hn]
    by_cases hw : a.w = 0
    · rw [if_pos hw, if_pos hw, putL_get r]
      by_cases hk : k = a.n
      · rw [if_pos hk, if_pos ⟨rfl, rfl⟩, if_pos ⟨hn, hk⟩]
      · rw [if_neg hk, if_neg (fun e => hk e.2)]
    · rw [if_neg hw, if_neg hw, putL_get r]
      by_cases hk : k = a.n
      · rw [if_pos hk, if_pos (show ¬ a.n < 0 ∧ k = a.n from ⟨hn, hk⟩)]
      · rw [if_neg hk, if_neg (fun e => hk e.2)]
/-- The last act at a number. -/
def lastA : List Ac → Int → Option Ac
  | [], _ => none
  | a :: l, k => match lastA l k with
    | some b => some b
    | none => if a.n = k then some a else none
theorem lastA_cons (a : Ac) (l : List Ac) (k : Int) : lastA (a :: l) k = match lastA l k with
    | some b => some b
    | none => if a.n = k then some a else none := rfl
theorem lastA_n : ∀ {l : List Ac} {k : Int} {a : Ac}, lastA l k = some a → a.n = k
  | a :: l, k, b, h => by
    rw [lastA_cons] at h
    cases hl : lastA l k with
    | some c => rw [hl] at h; cases h; exact lastA_n hl
    | none =>
      rw [hl] at h
      simp only at h
      split at h
      · cases h; assumption
      · cases h
theorem lastA_none : ∀ {l : List Ac} {k : Int}, lastA l k = none ↔ ∀ a ∈ l, a.n ≠ k
  | [], k => by simp [lastA]
  | a :: l, k => by
    rw [lastA_cons]
    cases hl : lastA l k with
    | some b =>
      simp only
      constructor
      · intro h; cases h
      · intro h
        have := lastA_none.2 fun x hx => h x (List.mem_cons_of_mem _ hx)
        rw [hl] at this; cases this
    | none =>
      have ih := lastA_none.1 hl
      simp only
      constructor
      · intro h x hx
        rcases List.mem_cons.1 hx with rfl | hx
        · intro e; rw [if_pos e] at h; cases h
        · exact ih x hx
      · intro h
        rw [if_neg (h a (List.mem_cons_self ..))]
theorem run_get : ∀ {L : List En} (r : Ris L) (l : List Ac) (k : Int), getL (runL L l) k = match lastA l k with
    | some a => if a.n < 0 then getL L k else valA a
    | none => getL L k
  | L, r, [], k => rfl
  | L, r, a :: l, k => by
    show getL (runL (actL L a) l) k = _
    rw [run_get (act_ris r a) l k, lastA_cons]
    cases hl : lastA l k with
    | some b =>
      simp only
      have hb := lastA_n hl
      by_cases hn : b.n < 0
      · rw [if_pos hn, if_pos hn, act_get r, if_neg (fun e => e.1 (by omega))]
      · rw [if_neg hn, if_neg hn]
    | none =>
      simp only
      rw [act_get r]
      by_cases hk : a.n = k
      · rw [if_pos hk]
        simp only
        by_cases hn : a.n < 0
        · rw [if_neg (fun e => e.1 hn), if_pos hn]
        · rw [if_pos ⟨hn, hk.symm⟩, if_neg hn]
      · rw [if_neg (fun e => hk e.2.symm), if_neg hk]
theorem get_ext {L M : List En} (r : Ris L) (s : Ris M) (h : ∀ k, getL L k = getL M k) : L = M := by
  refine ris_ext r s fun e => ⟨fun he => ?_, fun he => ?_⟩
  · have := (getL_some r).2 ⟨he, rfl⟩
    rw [h] at this
    exact ((getL_some s).1 this).1
  · have := (getL_some s).2 ⟨he, rfl⟩
    rw [← h] at this
    exact ((getL_some r).1 this).1
theorem run_nil_get (l : List Ac) (k : Int) : getL (runL [] l) k = resA (lastA l k) := by
  rw [run_get (L := []) List.Pairwise.nil]
  cases lastA l k with
  | none => rfl
  | some a =>
    unfold resA
    simp only
    split <;> rfl
/-- Backwards, the last ones alone: so far. -/
structure Bk (l : List Ac) (j : Nat) (Y : List En) : Prop where
  ris : Ris Y
  get : ∀ k, getL Y k = resA (lastA (l.drop j) k)
  tot : totL Y ≤ totA (l.drop j)
theorem Bk.stop {l : List Ac} {Y : List En} (b : Bk l 0 Y) : Y = runL [] l := by
  refine get_ext b.ris (run_ris List.Pairwise.nil l) fun k => ?_
  rw [b.get, run_nil_get, List.drop_zero]
theorem drop_cons {l : List Ac} {j : Nat} (hj : j < l.length) : l.drop j = l[j] :: l.drop (j + 1) := List.drop_eq_getElem_cons hj
theorem totA_drop {l : List Ac} {j : Nat} (hj : j < l.length) : totA (l.drop j) = (l[j].d.length + l[j].m.length) + totA (l.drop (j + 1)) := by
  rw [drop_cons hj]
  unfold totA
  simp only [List.map_cons, List.sum_cons]
theorem Bk.yes {l : List Ac} {j : Nat} {Y : List En} (hj : j < l.length) (b : Bk l (j + 1) Y) (hl : ∀ a ∈ l.drop (j + 1), a.n ≠ l[j].n) : Bk l j (actL Y l[j]) := by
  refine ⟨act_ris b.ris _, fun k => ?_, ?_⟩
  · rw [act_get b.ris, drop_cons hj, b.get]
    show _ = resA (match lastA (l.drop (j + 1)) k with
      | some b => some b
      | none => if l[j].n = k then some l[j] else none)
    by_cases hk : l[j].n = k
    · have h0 : lastA (l.drop (j + 1)) k = none := lastA_none.2 fun a ha => by rw [← hk]; exact hl a ha
      rw [h0]
      simp only
      rw [if_pos hk]
      unfold resA
      simp only
      by_cases hn : l[j].n < 0
      · rw [if_neg (fun e => e.1 hn), if_pos hn]
      · rw [if_pos ⟨hn, hk.symm⟩, if_neg hn]
    · rw [if_neg (fun e => hk e.2.symm), if_neg hk]
      cases lastA (l.drop (j + 1)) k <;> rfl
  · have h1 := act_tot b.ris l[j]
    have h2 := b.tot
    rw [totA_drop hj]
    omega
theorem Bk.no {l : List Ac} {j : Nat} {Y : List En} (hj : j < l.length) (b : Bk l (j + 1) Y) (hl : ¬ ∀ a ∈ l.drop (j + 1), a.n ≠ l[j].n) : Bk l j Y := by
  refine ⟨b.ris, fun k => ?_, ?_⟩
  · rw [b.get, drop_cons hj]
    show _ = resA (match lastA (l.drop (j + 1)) k with
      | some b => some b
      | none => if l[j].n = k then some l[j] else none)
    cases hk : lastA (l.drop (j + 1)) k with
    | some b => rfl
    | none =>
      simp only
      rw [if_neg]
      intro e
      apply hl
      rw [e]
      exact lastA_none.1 hk
  · have h2 := b.tot
    rw [totA_drop hj]
    omega
/-! Two indexes in one memory -/
theorem Rep.keep2 {h h' : H} {xb em dm mm cm yb em' dm' mm' cm' : Nat} {L L' : List En} {f f' : Int → Option Value} (r : Rep h xb em dm mm cm L f) (r' : Rep h yb em' dm' mm' cm' L' f') (hne : ∀ a ∈ [em, dm, mm, cm], ∀ b ∈ [em', dm', mm', cm'], a ≠ b) (hn : h.next ≤ h'.next)
    (hk : ∀ b, b < h.next → b ≠ em' → b ≠ dm' → b ≠ mm' → b ≠ cm' → h'.get b = h.get b) : Rep h' xb em dm mm cm L f := by
  have hm : ∀ a ∈ [em, dm, mm, cm], a < h.next → h'.get a = h.get a := fun a ha hl => hk a hl (hne a ha _ (by simp)) (hne a ha _ (by simp)) (hne a ha _ (by simp)) (hne a ha _ (by simp))
  have hc : ∀ b c st o fz ty, b < h.next → h.get b = some (.cells c st o fz ty) → h'.get b = h.get b := by
    intro b c st o fz ty hl hb
    refine hk b hl ?_ ?_ ?_ ?_
    · rintro rfl; exact r'.e.nc _ _ _ _ _ hb
    · rintro rfl; exact r'.d.nc _ _ _ _ _ hb
    · rintro rfl; exact r'.m.nc _ _ _ _ _ hb
    · rintro rfl; exact r'.c.nc _ _ _ _ _ hb
  refine ⟨(hc _ _ _ _ _ _ r.xlt r.x).trans r.x, Nat.lt_of_lt_of_le r.xlt hn, Nat.lt_of_lt_of_le r.elt hn, Nat.lt_of_lt_of_le r.dlt hn, Nat.lt_of_lt_of_le r.mlt hn, Nat.lt_of_lt_of_le r.clt hn, r.ne, r.e.of_get (hm _ (by simp) r.elt), (fun n => ?_), r.d.of_get (hm _ (by simp) r.dlt), r.m.of_get (hm _ (by simp) r.mlt), r.c.of_get (hm _ (by simp) r.clt), r.ris, r.up, r.ml⟩
  have q := r.en n
  cases hg : getL L n with
  | none => rw [hg] at q; exact q
  | some e =>
    rw [hg] at q
    obtain ⟨v1, v2, q1, q2, q3⟩ := q
    exact ⟨v1, v2, q1, q2.of_get hn (fun b c _ hl hb => hc b _ _ _ _ _ hl hb) (fun _ h => h), q3.of_get hn (fun b c _ hl hb => hc b _ _ _ _ _ hl hb) (fun _ h => h)⟩
end Go.Dm
