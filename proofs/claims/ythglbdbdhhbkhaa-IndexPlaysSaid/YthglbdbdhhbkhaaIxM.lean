/- An index, plainly: entries, rising by their numbers. -/
import Derived.Test.YthglbdbdhhbkhaaIxR
set_option linter.unusedVariables false
set_option linter.unusedSimpArgs false
namespace Go.Dm
/-- An entry: its number, what it defines, what it mentions. -/
structure En where
  n : Int
  d : List (List UInt8)
  m : List (List UInt8)
def Ris (L : List En) : Prop := L.Pairwise fun a b => a.n < b.n
def getL (L : List En) (n : Int) : Option En := L.find? fun e => decide (e.n = n)
def dOf (L : List En) (n : Int) : List (List UInt8) := match getL L n with
  | some e => e.d
  | none => []
def mOf (L : List En) (n : Int) : List (List UInt8) := match getL L n with
  | some e => e.m
  | none => []
/-- An entry goes in (or, where done is set, only goes). -/
def putG (x : En) : Bool → List En → List En
  | done, [] => if done then [] else [x]
  | done, e :: r => (if done = false ∧ x.n ≤ e.n then [x] else []) ++ ((if e.n = x.n then [] else [e]) ++ putG x (done || decide (x.n ≤ e.n)) r)
def putL (L : List En) (n : Int) (d m : List (List UInt8)) : List En := putG ⟨n, d, m⟩ (decide (d = []) && decide (m = [])) L
def cntL (L : List En) (s : List UInt8) : Nat := (L.filter fun e => decide (s ∈ e.d)).length
def whoP (L : List En) (s : List UInt8) : List Int := (L.filter fun e => decide (s ∈ e.m)).map (·.n)
def knownL (L : List En) : List (List UInt8) := riseL (L.flatMap (·.d))
def totL (L : List En) : Nat := (L.map fun e => e.d.length + e.m.length).sum
theorem getL_some {L : List En} (r : Ris L) {n : Int} {e : En} : getL L n = some e ↔ e ∈ L ∧ e.n = n := by
  induction L with
  | nil => simp [getL]
  | cons a L ih =>
    obtain ⟨r1, r2⟩ := List.pairwise_cons.1 r
    unfold getL
    rw [List.find?_cons]
    by_cases ha : a.n = n
    · rw [decide_eq_true ha]
      simp only [Option.some.injEq, List.mem_cons]
      constructor
      · rintro rfl; exact ⟨.inl rfl, ha⟩
      · rintro ⟨rfl | h, hn⟩
        · rfl
        · have := r1 e h; omega
    · rw [decide_eq_false ha]
      show getL L n = some e ↔ _
      rw [ih r2, List.mem_cons]
      constructor
      · rintro ⟨h, hn⟩; exact ⟨.inr h, hn⟩
      · rintro ⟨rfl | h, hn⟩
        · exact absurd hn ha
        · exact ⟨h, hn⟩
theorem putG_true (x : En) : ∀ L : List En, putG x true L = L.filter fun e => decide (e.n ≠ x.n)
  | [] => rfl
  | e :: L => by
    unfold putG
    rw [if_neg (by simp), List.nil_append, Bool.true_or, putG_true x L, List.filter_cons]
    by_cases h : e.n = x.n
    · rw [if_pos h]; simp [h]
    · rw [if_neg h]; simp [h]
theorem filter_id {x : En} {L : List En} (h : ∀ e ∈ L, e.n ≠ x.n) : (L.filter fun e => decide (e.n ≠ x.n)) = L := List.filter_eq_self.2 fun e he => by simpa using h e he
theorem putG_false (x : En) : ∀ {L : List En}, Ris L → ∃ a b, putG x false L = a ++ x :: b ∧ (L.filter fun e => decide (e.n ≠ x.n)) = a ++ b ∧ (∀ e ∈ a, e.n < x.n) ∧ ∀ e ∈ b, x.n < e.n
  | [], _ => ⟨[], [], rfl, rfl, (fun e he => by cases he), (fun e he => by cases he)⟩
  | e :: L, r => by
    obtain ⟨r1, r2⟩ := List.pairwise_cons.1 r
    unfold putG
    by_cases h : x.n ≤ e.n
    · rw [if_pos ⟨rfl, h⟩, decide_eq_true h, Bool.or_true, putG_true]
      have hL : ∀ a ∈ L, a.n ≠ x.n := fun a ha => by have := r1 a ha; omega
      rw [filter_id hL, List.filter_cons]
      by_cases h2 : e.n = x.n
      · rw [if_pos h2]
        refine ⟨[], L, rfl, ?_, (fun e he => by cases he), fun a ha => by have := r1 a ha; omega⟩
        simp only [h2, ne_eq, not_true, decide_false, Bool.false_eq_true, if_false, List.nil_append]
        exact filter_id hL
      · rw [if_neg h2]
        refine ⟨[], e :: L, rfl, ?_, (fun e he => by cases he), fun a ha => ?_⟩
        · simp only [h2, ne_eq, not_false_eq_true, decide_true, if_true, List.nil_append]
          exact congrArg _ (filter_id hL)
        · rcases List.mem_cons.1 ha with rfl | ha
          · omega
          · have := r1 a ha; omega
    · rw [if_neg (fun q => h q.2), decide_eq_false h, Bool.or_false]
      obtain ⟨a, b, h1, h2, h3, h4⟩ := putG_false x r2
      have hne : e.n ≠ x.n := by omega
      rw [if_neg hne, h1, List.filter_cons]
      refine ⟨e :: a, b, rfl, ?_, fun y hy => ?_, h4⟩
      · rw [h2]; simp [hne]
      · rcases List.mem_cons.1 hy with rfl | hy
        · omega
        · exact h3 y hy
theorem putG_mem (x : En) {L : List En} (r : Ris L) (done : Bool) (e : En) : e ∈ putG x done L ↔ (done = false ∧ e = x) ∨ (e ∈ L ∧ e.n ≠ x.n) := by
  cases done with
  | true => rw [putG_true]; simp
  | false =>
    obtain ⟨a, b, h1, h2, _, _⟩ := putG_false x r
    have h3 : e ∈ a ++ b ↔ (e ∈ L ∧ e.n ≠ x.n) := by rw [← h2]; simp
    rw [h1, ← h3]
    simp only [List.mem_append, List.mem_cons, true_and]
    constructor
    · rintro (h | rfl | h)
      · exact .inr (.inl h)
      · exact .inl rfl
      · exact .inr (.inr h)
    · rintro (rfl | h | h)
      · exact .inr (.inl rfl)
      · exact .inl h
      · exact .inr (.inr h)
theorem putG_ris (x : En) {L : List En} (r : Ris L) (done : Bool) : Ris (putG x done L) := by
  cases done with
  | true => rw [putG_true]; exact List.Pairwise.filter _ r
  | false =>
    obtain ⟨a, b, h1, h2, h3, h4⟩ := putG_false x r
    have h5 : Ris (a ++ b) := by rw [← h2]; exact List.Pairwise.filter _ r
    obtain ⟨u1, u2, u3⟩ := List.pairwise_append.1 h5
    rw [h1]
    refine List.pairwise_append.2 ⟨u1, List.pairwise_cons.2 ⟨h4, u2⟩, fun y hy z hz => ?_⟩
    rcases List.mem_cons.1 hz with rfl | hz
    · exact h3 y hy
    · exact u3 y hy z hz
theorem putG_get (x : En) {L : List En} (r : Ris L) (done : Bool) (k : Int) : getL (putG x done L) k = if k = x.n then (if done then none else some x) else getL L k := by
  have r2 := putG_ris x r done
  by_cases hk : k = x.n
  · subst hk
    rw [if_pos rfl]
    cases done with
    | false => exact (getL_some r2).2 ⟨(putG_mem x r false x).2 (.inl ⟨rfl, rfl⟩), rfl⟩
    | true =>
      cases hg : getL (putG x true L) x.n with
      | none => rfl
      | some e =>
        obtain ⟨h1, h2⟩ := (getL_some r2).1 hg
        rcases (putG_mem x r true e).1 h1 with h | h
        · cases h.1
        · exact absurd h2 h.2
  · rw [if_neg hk]
    cases hg : getL L k with
    | some e =>
      obtain ⟨h1, h2⟩ := (getL_some r).1 hg
      exact (getL_some r2).2 ⟨(putG_mem x r done e).2 (.inr ⟨h1, by omega⟩), h2⟩
    | none =>
      cases hg2 : getL (putG x done L) k with
      | none => rfl
      | some e =>
        obtain ⟨h1, h2⟩ := (getL_some r2).1 hg2
        rcases (putG_mem x r done e).1 h1 with h | h
        · rw [h.2] at h2; exact absurd h2.symm hk
        · rw [(getL_some r).2 ⟨h.1, h2⟩] at hg; cases hg
theorem cnt_filter (L : List En) (s : List UInt8) (n : Int) (r : Ris L) : cntL (L.filter fun e => decide (e.n ≠ n)) s + (if s ∈ dOf L n then 1 else 0) = cntL L s := by
  induction L with
  | nil => rfl
  | cons a L ih =>
    obtain ⟨r1, r2⟩ := List.pairwise_cons.1 r
    have ih := ih r2
    by_cases ha : a.n = n
    · have hL : ∀ e ∈ L, e.n ≠ n := fun e he => by have := r1 e he; omega
      have h0 : (L.filter fun e => decide (e.n ≠ n)) = L := List.filter_eq_self.2 fun e he => by simpa using hL e he
      have h1 : dOf (a :: L) n = a.d := by unfold dOf getL; rw [List.find?_cons, decide_eq_true ha]
      rw [List.filter_cons, h1, h0]
      simp only [ha, ne_eq, not_true, decide_false, Bool.false_eq_true, if_false]
      unfold cntL
      rw [List.filter_cons]
      by_cases hs : s ∈ a.d <;> simp [hs]
    · have h1 : dOf (a :: L) n = dOf L n := by unfold dOf getL; rw [List.find?_cons, decide_eq_false ha]
      rw [List.filter_cons, h1]
      simp only [ha, ne_eq, not_false_eq_true, decide_true, if_true]
      rw [show (fun e : En => decide (¬ e.n = n)) = (fun e : En => decide (e.n ≠ n)) from rfl]
      unfold cntL at ih ⊢
      rw [List.filter_cons, List.filter_cons]
      by_cases hs : s ∈ a.d
      · simp only [hs, decide_true, if_true, List.length_cons]; omega
      · simp only [hs, decide_false, Bool.false_eq_true, if_false]; exact ih
theorem cnt_put (x : En) {L : List En} (r : Ris L) (done : Bool) (s : List UInt8) : cntL (putG x done L) s + (if s ∈ dOf L x.n then 1 else 0) = cntL L s + (if done = false ∧ s ∈ x.d then 1 else 0) := by
  have h := cnt_filter L s x.n r
  cases done with
  | true => rw [putG_true]; simpa using h
  | false =>
    obtain ⟨a, b, h1, h2, _, _⟩ := putG_false x r
    rw [h2] at h
    rw [h1, ← h]
    unfold cntL
    rw [List.filter_append, List.filter_append, List.filter_cons]
    by_cases hs : s ∈ x.d
    · simp [hs]; omega
    · simp [hs]
theorem tot_put (x : En) {L : List En} (r : Ris L) (done : Bool) : totL (putG x done L) ≤ totL L + (x.d.length + x.m.length) := by
  have hf : ∀ L : List En, totL (L.filter fun e => decide (e.n ≠ x.n)) ≤ totL L := by
    intro L
    induction L with
    | nil => exact Nat.le_refl _
    | cons a L ih =>
      rw [List.filter_cons]
      unfold totL at *
      split <;> simp only [List.map_cons, List.sum_cons] at * <;> omega
  cases done with
  | true => rw [putG_true]; have := hf L; omega
  | false =>
    obtain ⟨a, b, h1, h2, _, _⟩ := putG_false x r
    have := hf L
    rw [h2] at this
    rw [h1]
    unfold totL at *
    simp only [List.map_append, List.map_cons, List.sum_append, List.sum_cons] at *
    omega
theorem cnt_pos {L : List En} {s : List UInt8} : 0 < cntL L s ↔ ∃ e ∈ L, s ∈ e.d := by
  unfold cntL
  rw [List.length_pos_iff_exists_mem]
  simp
theorem cnt_le (L : List En) (s : List UInt8) : cntL L s ≤ totL L := by
  induction L with
  | nil => exact Nat.le_refl _
  | cons a L ih =>
    unfold cntL totL at *
    rw [List.filter_cons]
    simp only [List.map_cons, List.sum_cons]
    by_cases hs : s ∈ a.d
    · have := List.length_pos_iff_exists_mem.2 ⟨s, hs⟩
      simp only [hs, decide_true, if_true, List.length_cons]; omega
    · simp only [hs, decide_false, Bool.false_eq_true, if_false]; omega
theorem known_mem {L : List En} {s : List UInt8} : s ∈ knownL L ↔ 0 < cntL L s := by
  rw [knownL, riseL_mem, cnt_pos, List.mem_flatMap]
theorem known_up (L : List En) : Up (knownL L) := riseL_up _
theorem mem_dOf {L : List En} (r : Ris L) {n : Int} {s : List UInt8} : s ∈ dOf L n ↔ ∃ e ∈ L, e.n = n ∧ s ∈ e.d := by
  unfold dOf
  cases hg : getL L n with
  | none =>
    constructor
    · intro h; cases h
    · rintro ⟨e, h1, h2, h3⟩
      rw [(getL_some r).2 ⟨h1, h2⟩] at hg; cases hg
  | some e =>
    obtain ⟨h1, h2⟩ := (getL_some r).1 hg
    constructor
    · intro h; exact ⟨e, h1, h2, h⟩
    · rintro ⟨e', q1, q2, q3⟩
      have := (getL_some r).2 ⟨q1, q2⟩
      rw [hg] at this
      cases this
      exact q3
theorem mem_mOf {L : List En} (r : Ris L) {n : Int} {s : List UInt8} : s ∈ mOf L n ↔ ∃ e ∈ L, e.n = n ∧ s ∈ e.m := by
  unfold mOf
  cases hg : getL L n with
  | none =>
    constructor
    · intro h; cases h
    · rintro ⟨e, h1, h2, h3⟩
      rw [(getL_some r).2 ⟨h1, h2⟩] at hg; cases hg
  | some e =>
    obtain ⟨h1, h2⟩ := (getL_some r).1 hg
    constructor
    · intro h; exact ⟨e, h1, h2, h⟩
    · rintro ⟨e', q1, q2, q3⟩
      have := (getL_some r).2 ⟨q1, q2⟩
      rw [hg] at this
      cases this
      exact q3
theorem who_up {L : List En} (r : Ris L) (s : List UInt8) : UpI (whoP L s) := by
  unfold whoP UpI
  rw [List.pairwise_map]
  exact List.Pairwise.filter _ r
theorem who_mem {L : List En} (r : Ris L) {s : List UInt8} {n : Int} : n ∈ whoP L s ↔ s ∈ mOf L n := by
  rw [mem_mOf r, whoP, List.mem_map]
  constructor
  · rintro ⟨e, he, rfl⟩
    have := List.mem_filter.1 he
    exact ⟨e, this.1, rfl, by simpa using this.2⟩
  · rintro ⟨e, h1, h2, h3⟩
    exact ⟨e, List.mem_filter.2 ⟨h1, by simpa using h3⟩, h2⟩
/-- What an act tells: what is known now and was not, or was and is not. -/
def toldL (L L' : List En) : List (List UInt8) := riseL ((knownL L ++ knownL L').filter fun s => decide (0 < cntL L s) != decide (0 < cntL L' s))
theorem told_mem {L L' : List En} {s : List UInt8} : s ∈ toldL L L' ↔ (0 < cntL L s ∧ ¬ 0 < cntL L' s) ∨ (¬ 0 < cntL L s ∧ 0 < cntL L' s) := by
  rw [toldL, riseL_mem, List.mem_filter, List.mem_append, known_mem, known_mem]
  by_cases h1 : 0 < cntL L s <;> by_cases h2 : 0 < cntL L' s <;> simp [h1, h2]
theorem en_tot {L : List En} {e : En} (h : e ∈ L) : e.d.length + e.m.length ≤ totL L := by
  induction L with
  | nil => cases h
  | cons a L ih =>
    unfold totL at *
    simp only [List.map_cons, List.sum_cons]
    rcases List.mem_cons.1 h with rfl | h
    · omega
    · have := ih h; omega
theorem getL_mem {L : List En} {n : Int} {e : En} (h : getL L n = some e) : e ∈ L ∧ e.n = n := by
  unfold getL at h
  exact ⟨List.mem_of_find?_eq_some h, by simpa using List.find?_some h⟩
theorem dOf_len (L : List En) (n : Int) : (dOf L n).length ≤ totL L := by
  unfold dOf
  cases hg : getL L n with
  | none => exact Nat.zero_le _
  | some e => have := en_tot (getL_mem hg).1; simp only; omega
theorem mOf_len (L : List En) (n : Int) : (mOf L n).length ≤ totL L := by
  unfold mOf
  cases hg : getL L n with
  | none => exact Nat.zero_le _
  | some e => have := en_tot (getL_mem hg).1; simp only; omega
theorem dOf_up {L : List En} (u : ∀ e ∈ L, Up e.d ∧ Up e.m) (n : Int) : Up (dOf L n) := by
  unfold dOf
  cases hg : getL L n with
  | none => exact List.Pairwise.nil
  | some e => exact (u e (getL_mem hg).1).1
theorem mOf_up {L : List En} (u : ∀ e ∈ L, Up e.d ∧ Up e.m) (n : Int) : Up (mOf L n) := by
  unfold mOf
  cases hg : getL L n with
  | none => exact List.Pairwise.nil
  | some e => exact (u e (getL_mem hg).1).2
theorem dOf_cnt {L : List En} {n : Int} {s : List UInt8} (h : s ∈ dOf L n) : 0 < cntL L s := by
  unfold dOf at h
  cases hg : getL L n with
  | none => rw [hg] at h; cases h
  | some e => rw [hg] at h; exact cnt_pos.2 ⟨e, (getL_mem hg).1, h⟩
theorem emp_iff (d m : List (List UInt8)) : (decide (d = []) && decide (m = [])) = true ↔ d = [] ∧ m = [] := by simp
theorem dOf_put {L : List En} (r : Ris L) (n : Int) (d m : List (List UInt8)) (k : Int) : dOf (putL L n d m) k = if k = n then d else dOf L k := by
  unfold dOf putL
  rw [putG_get _ r]
  by_cases hk : k = n
  · rw [if_pos hk, if_pos hk]
    by_cases he : (decide (d = []) && decide (m = [])) = true
    · rw [if_pos he, ((emp_iff d m).1 he).1]
    · rw [if_neg he]
  · rw [if_neg hk, if_neg hk]
theorem mOf_put {L : List En} (r : Ris L) (n : Int) (d m : List (List UInt8)) (k : Int) : mOf (putL L n d m) k = if k = n then m else mOf L k := by
  unfold mOf putL
  rw [putG_get _ r]
  by_cases hk : k = n
  · rw [if_pos hk, if_pos hk]
    by_cases he : (decide (d = []) && decide (m = [])) = true
    · rw [if_pos he, ((emp_iff d m).1 he).2]
    · rw [if_neg he]
  · rw [if_neg hk, if_neg hk]
theorem cnt_putL {L : List En} (r : Ris L) (n : Int) (d m : List (List UInt8)) (s : List UInt8) : cntL (putL L n d m) s = cntL L s - (if s ∈ dOf L n then 1 else 0) + (if s ∈ d then 1 else 0) := by
  have h := cnt_put ⟨n, d, m⟩ r (decide (d = []) && decide (m = [])) s
  have h2 : (if s ∈ dOf L n then 1 else 0) ≤ cntL L s := by
    by_cases q : s ∈ dOf L n
    · rw [if_pos q]; exact dOf_cnt q
    · rw [if_neg q]; exact Nat.zero_le _
  have h3 : (if (decide (d = []) && decide (m = [])) = false ∧ s ∈ d then 1 else 0) = if s ∈ d then 1 else 0 := by
    by_cases q : s ∈ d
    · have hd : (decide (d = []) && decide (m = [])) = false := by
        cases d with
        | nil => cases q
        | cons a d => rfl
      rw [if_pos q, if_pos ⟨hd, q⟩]
    · rw [if_neg q, if_neg (fun e => q e.2)]
  rw [h3] at h
  unfold putL
  simp only at h
  omega
theorem putL_mem {L : List En} (r : Ris L) {n : Int} {d m : List (List UInt8)} {e : En} (h : e ∈ putL L n d m) : e = ⟨n, d, m⟩ ∨ e ∈ L := by
  rcases (putG_mem _ r _ e).1 h with h | h
  · exact .inl h.2
  · exact .inr h.1
theorem putL_ris {L : List En} (r : Ris L) (n : Int) (d m : List (List UInt8)) : Ris (putL L n d m) := putG_ris _ r _
theorem putL_get {L : List En} (r : Ris L) (n : Int) (d m : List (List UInt8)) (k : Int) : getL (putL L n d m) k = if k = n then (if d = [] ∧ m = [] then none else some ⟨n, d, m⟩) else getL L k := by
  unfold putL
  rw [putG_get _ r]
  by_cases hk : k = n
  · rw [if_pos hk, if_pos hk]
    by_cases he : d = [] ∧ m = []
    · rw [if_pos he, if_pos ((emp_iff d m).2 he)]
    · rw [if_neg he, if_neg (fun q => he ((emp_iff d m).1 q))]
  · rw [if_neg hk, if_neg hk]
theorem putL_tot {L : List En} (r : Ris L) (n : Int) (d m : List (List UInt8)) : totL (putL L n d m) ≤ totL L + (d.length + m.length) := tot_put ⟨n, d, m⟩ r _
end Go.Dm
