/- Links: the plain model of links. -/
import Derived.Test.YthclahlplcfdpaaGreatDoorMdI
import Derived.Sort.AssemblyPlain
set_option linter.unusedVariables false
set_option linter.unusedSimpArgs false
namespace Go.Dm
open Go.Proofs
/-- An opened bracket. -/
structure Opn where
  f : Nat
  o : Nat
  img : Bool
  bar : Bool
  deriving DecidableEq, Inhabited
/-- Where one stands; what is told; what is open (the last one on top). -/
structure LS where
  k : Nat
  out : List Lk
  op : List Opn
/-- A label that has n bytes, folded. -/
def lab (u : List UInt8) (n : Nat) : List UInt8 := foldL ((u.take (n - 1)).drop 1)
/-- Where a link ends whose text is closed at a place. -/
def endL (kn : List UInt8 → Bool) (s : List UInt8) (o k : Nat) : Option Nat :=
  match tgL (s.drop (k + 1)) with
  | some n => some (k + 1 + n)
  | none => match rdL (s.drop (k + 1)) with
    | some n => if kn (lab (s.drop (k + 1)) n) = true then some (k + 1 + n) else none
    | none => match rdL (s.drop (o - 1)) with
      | some n => if o - 1 + n = k + 1 ∧ kn (lab (s.drop (o - 1)) n) = true then some (if Lib.hasPrefix (s.drop (k + 1)) [91, 93] = true then k + 3 else k + 1) else none
      | none => none
def barL (img : Bool) (l : List Opn) : List Opn := l.map fun x => { x with bar := x.bar || (!img && !x.img) }
def lkAt (kn : List UInt8 → Bool) (s : List UInt8) (y : LS) : LS :=
  if bt s y.k = 33 ∧ y.k + 1 < s.length ∧ bt s (y.k + 1) = 91 then ⟨y.k + 2, y.out, y.op ++ [⟨y.k, y.k + 2, true, false⟩]⟩
  else if bt s y.k = 91 then ⟨y.k + 1, y.out, y.op ++ [⟨y.k, y.k + 1, false, false⟩]⟩
  else if bt s y.k = 93 then match y.op.getLast? with
    | none => ⟨y.k + 1, y.out, y.op⟩
    | some x => if x.bar = true then ⟨y.k + 1, y.out, y.op.dropLast⟩ else match endL kn s x.o y.k with
      | none => ⟨y.k + 1, y.out, y.op.dropLast⟩
      | some e => ⟨e, y.out ++ [⟨x.f, x.o, y.k, e, x.img⟩], barL x.img y.op.dropLast⟩
  else ⟨y.k + 1, y.out, y.op⟩
def lkStep (kn : List UInt8 → Bool) (last lf : Bool) (s : List UInt8) (y : LS) : LS :=
  if (cdN last lf (s.drop y.k)).1 = 0 ∧ (cdN last lf (s.drop y.k)).2 = 1 then lkAt kn s y else ⟨y.k + (cdN last lf (s.drop y.k)).2, y.out, y.op⟩
def lkRun (kn : List UInt8 → Bool) (last lf : Bool) (s : List UInt8) : Nat → LS → LS
  | 0, y => y
  | f + 1, y => if y.k < s.length then lkRun kn last lf s f (lkStep kn last lf s y) else y
/-- The links of a part, as they are closed. -/
def lksO (kn : List UInt8 → Bool) (last lf : Bool) (s : List UInt8) (a : Int) : List Lk := if a < 0 then [] else (lkRun kn last lf s s.length ⟨a.toNat, [], []⟩).out
/-! places move on -/
theorem skipN_le (t : List UInt8) : skipN t ≤ t.length := (List.takeWhile_sublist _).length_le
theorem ttL_le {t : List UInt8} {n : Nat} (h : ttL t = some n) : 1 ≤ n ∧ n ≤ t.length := by
  cases t with
  | nil => cases h
  | cons c u =>
    simp only [ttL] at h
    split at h
    · rw [Option.map_eq_some_iff] at h
      obtain ⟨j, h1, rfl⟩ := h
      have := wi_le _ _ _ _ _ h1
      simp; omega
    · split at h
      · rw [Option.map_eq_some_iff] at h
        obtain ⟨j, h1, rfl⟩ := h
        have := wi_le _ _ _ _ _ h1
        simp; omega
      · cases h
theorem gg_le : ∀ (u : List UInt8) (d : Nat) (b : Bool) (n : Nat), gg d b u = some n → n ≤ u.length
  | [], d, b, n, h => by cases b <;> simp [gg] at h
  | c :: u, d, true, n, h => by
    rw [gg, Option.map_eq_some_iff] at h
    obtain ⟨j, h1, rfl⟩ := h
    have := gg_le u _ _ _ h1
    simp; omega
  | c :: u, d, false, n, h => by
    rw [gg] at h
    split at h
    · rw [Option.map_eq_some_iff] at h
      obtain ⟨j, h1, rfl⟩ := h
      have := gg_le u _ _ _ h1
      simp; omega
    · split at h
      · rw [Option.map_eq_some_iff] at h
        obtain ⟨j, h1, rfl⟩ := h
        have := gg_le u _ _ _ h1
        simp; omega
      · split at h
        · split at h
          · cases h; simp
          · cases h
        · split at h
          · rw [Option.map_eq_some_iff] at h
            obtain ⟨j, h1, rfl⟩ := h
            have := gg_le u _ _ _ h1
            simp; omega
          · rw [Option.map_eq_some_iff] at h
            obtain ⟨j, h1, rfl⟩ := h
            have := gg_le u _ _ _ h1
            simp; omega
theorem goL_le {t : List UInt8} {n : Nat} (h : goL t = some n) : 1 ≤ n ∧ n ≤ t.length := by
  cases t with
  | nil => cases h
  | cons c u =>
    simp only [goL] at h
    split at h
    · rw [Option.map_eq_some_iff] at h
      obtain ⟨j, h1, rfl⟩ := h
      have := wi_le _ _ _ _ _ h1
      simp; omega
    · split at h
      · rename_i k hk
        cases h
        have := gg_le _ _ _ _ hk
        simp at this ⊢; omega
      · cases h
theorem tailL_le {t : List UInt8} {n : Nat} (h : tailL t = some n) : n ≤ t.length := by
  unfold tailL at h
  have h0 := skipN_le t
  split at h
  · cases h; omega
  · split at h
    · cases h; exact h0
    · rename_i c u hd
      have hl := congrArg List.length hd
      simp at hl
      split at h
      · cases h; exact h0
      · split at h
        · rename_i m hm
          cases h
          have h1 := ttL_le hm
          have h2 := skipN_le ((c :: u).drop m)
          simp at h1 h2
          omega
        · cases h
theorem midL_le {u : List UInt8} {n : Nat} (h : midL u = some n) : n ≤ u.length := by
  unfold midL at h
  have h0 := skipN_le u
  split at h
  · cases h; exact h0
  · rename_i c r hd
    have hl := congrArg List.length hd
    simp at hl
    split at h
    · cases h; exact h0
    · split at h
      · rename_i g hg
        rw [Option.map_eq_some_iff] at h
        obtain ⟨j, h1, rfl⟩ := h
        have h2 := goL_le hg
        have h3 := tailL_le h1
        simp at h2 h3
        omega
      · cases h
theorem tgL_le {t : List UInt8} {n : Nat} (h : tgL t = some n) : 2 ≤ n ∧ n ≤ t.length := by
  cases t with
  | nil => cases h
  | cons c u =>
    simp only [tgL] at h
    split at h
    · split at h
      · rename_i m hm
        split at h
        · rename_i d r hd
          have hl := congrArg List.length hd
          simp at hl
          split at h
          · cases h; simp; omega
          · cases h
        · cases h
      · cases h
    · cases h
theorem rdL_le {t : List UInt8} {n : Nat} (h : rdL t = some n) : 2 ≤ n ∧ n ≤ t.length := by
  cases t with
  | nil => cases h
  | cons c u =>
    simp only [rdL] at h
    split at h
    · split at h
      · rename_i k hk
        split at h
        · cases h
          have := wi_le _ _ _ _ _ hk
          simp; omega
        · cases h
      · cases h
    · cases h
theorem endL_le {kn : List UInt8 → Bool} {s : List UInt8} {o k e : Nat} (hk : k < s.length) (h : endL kn s o k = some e) : k < e ∧ e ≤ s.length := by
  unfold endL at h
  split at h
  · rename_i n hn
    cases h
    have := tgL_le hn
    simp at this
    omega
  · split at h
    · rename_i n hn
      split at h
      · cases h
        have := rdL_le hn
        simp at this
        omega
      · cases h
    · split at h
      · split at h
        · cases h
          split
          · rename_i hp
            unfold Lib.hasPrefix at hp
            rw [List.isPrefixOf_iff_prefix] at hp
            have := hp.length_le
            simp at this
            omega
          · omega
        · cases h
      · cases h
theorem lkStep_le (kn : List UInt8 → Bool) (last lf : Bool) {s : List UInt8} {y : LS} (hk : y.k < s.length) : y.k < (lkStep kn last lf s y).k ∧ (lkStep kn last lf s y).k ≤ s.length := by
  unfold lkStep
  split
  · unfold lkAt
    split
    · simp only; omega
    · split
      · simp only; omega
      · split
        · split
          · simp only; omega
          · split
            · simp only; omega
            · split
              · simp only; omega
              · rename_i e he
                exact endL_le hk he
        · simp only; omega
  · have hd : s.drop y.k = s[y.k] :: s.drop (y.k + 1) := List.drop_eq_getElem_cons hk
    have := cdN_len last lf s[y.k] (s.drop (y.k + 1))
    rw [← hd] at this
    simp at this ⊢
    omega
theorem lkRun_fuel (kn : List UInt8 → Bool) (last lf : Bool) (s : List UInt8) : ∀ (f f' : Nat) (y : LS), s.length ≤ y.k + f → s.length ≤ y.k + f' → lkRun kn last lf s f y = lkRun kn last lf s f' y
  | 0, 0, y, h, h' => rfl
  | 0, f' + 1, y, h, h' => by rw [lkRun, lkRun, if_neg (by omega)]
  | f + 1, 0, y, h, h' => by rw [lkRun, lkRun, if_neg (by omega)]
  | f + 1, f' + 1, y, h, h' => by
    rw [lkRun, lkRun]
    split
    · rename_i hk
      have := lkStep_le kn last lf hk
      exact lkRun_fuel kn last lf s f f' _ (by omega) (by omega)
    · rfl
theorem lkRun_step (kn : List UInt8 → Bool) (last lf : Bool) (s : List UInt8) (y : LS) (hk : y.k < s.length) : lkRun kn last lf s s.length y = lkRun kn last lf s s.length (lkStep kn last lf s y) := by
  have h0 : s.length = (s.length - 1) + 1 := by omega
  conv => lhs; rw [h0, lkRun, if_pos hk]
  have := lkStep_le kn last lf hk
  exact lkRun_fuel kn last lf s _ _ _ (by omega) (by omega)
theorem lkRun_end (kn : List UInt8 → Bool) (last lf : Bool) (s : List UInt8) (y : LS) (hk : ¬ y.k < s.length) : lkRun kn last lf s s.length y = y := by
  cases h : s.length with
  | zero => rfl
  | succ f => rw [lkRun, if_neg (by omega)]
/-! how links lie -/
/-- One link ahead of another: apart, or within its text. -/
def Rl (y x : Lk) : Prop := y.f < x.f ∧ (y.t ≤ x.f ∨ (y.o ≤ x.f ∧ x.t ≤ y.m ∧ (x.i = true ∨ y.i = true)))
structure OkO (s : List UInt8) (a k : Nat) (x : Opn) : Prop where
  a : a ≤ x.f
  o : x.o = x.f + (if x.img then 2 else 1)
  k : x.o ≤ k
  l : x.o ≤ s.length
  b : bt s (x.o - 1) = 91
  i : x.img = true → bt s x.f = 33
structure OkL (s : List UInt8) (a k : Nat) (z : Lk) : Prop where
  a : (a : Int) ≤ z.f
  o : z.o = z.f + (if z.i then 2 else 1)
  m : z.o ≤ z.m
  t : z.m < z.t
  k : z.t ≤ k
  l : z.t ≤ s.length
  b : bt s (z.o.toNat - 1) = 91
  e : bt s z.m.toNat = 93
  i : z.i = true → bt s z.f.toNat = 33
structure LInv (s : List UInt8) (a : Nat) (y : LS) : Prop where
  ak : a ≤ y.k
  ops : ∀ x ∈ y.op, OkO s a y.k x
  inc : y.op.Pairwise fun x x' => x.o ≤ x'.f
  outs : ∀ z ∈ y.out, OkL s a y.k z
  rel : ∀ x ∈ y.op, ∀ z ∈ y.out, z.t ≤ (x.f : Int) ∨ ((x.o : Int) ≤ z.f ∧ (z.i = false → x.img = false → x.bar = true))
  pw : y.out.Pairwise fun z w => Rl z w ∨ Rl w z
theorem OkO.mono {s : List UInt8} {a k k' : Nat} {x : Opn} (h : OkO s a k x) (hk : k ≤ k') : OkO s a k' x := ⟨h.a, h.o, Nat.le_trans h.k hk, h.l, h.b, h.i⟩
theorem OkL.mono {s : List UInt8} {a k k' : Nat} {x : Lk} (h : OkL s a k x) (hk : k ≤ k') : OkL s a k' x := ⟨h.a, h.o, h.m, h.t, by have := h.k; omega, h.l, h.b, h.e, h.i⟩
theorem LInv.go {s : List UInt8} {a : Nat} {y : LS} (v : LInv s a y) {k : Nat} (hk : y.k ≤ k) : LInv s a ⟨k, y.out, y.op⟩ :=
  ⟨Nat.le_trans v.ak hk, fun x hx => (v.ops x hx).mono hk, v.inc, fun z hz => (v.outs z hz).mono hk, v.rel, v.pw⟩
theorem LInv.push {s : List UInt8} {a : Nat} {y : LS} (v : LInv s a y) {k : Nat} {x : Opn} (hf : x.f = y.k) (hk : y.k ≤ k) (hx : OkO s a k x) : LInv s a ⟨k, y.out, y.op ++ [x]⟩ := by
  refine ⟨Nat.le_trans v.ak hk, ?_, ?_, fun z hz => (v.outs z hz).mono hk, ?_, v.pw⟩
  · intro x' hx'
    rcases List.mem_append.1 hx' with h | h
    · exact (v.ops x' h).mono hk
    · simp at h; subst h; exact hx
  · rw [List.pairwise_append]
    refine ⟨v.inc, by simp, ?_⟩
    intro x1 h1 x2 h2
    simp at h2
    subst h2
    have := (v.ops x1 h1).k
    omega
  · intro x' hx' z hz
    rcases List.mem_append.1 hx' with h | h
    · exact v.rel x' h z hz
    · simp at h; subst h
      have := (v.outs z hz).k
      exact .inl (by omega)
theorem LInv.pop {s : List UInt8} {a : Nat} {y : LS} (v : LInv s a y) {k : Nat} (hk : y.k ≤ k) : LInv s a ⟨k, y.out, y.op.dropLast⟩ := by
  have hs := List.dropLast_sublist y.op
  exact ⟨Nat.le_trans v.ak hk, fun x hx => (v.ops x (hs.subset hx)).mono hk, v.inc.sublist hs, fun z hz => (v.outs z hz).mono hk, fun x hx => v.rel x (hs.subset hx), v.pw⟩
theorem LInv.close {s : List UInt8} {a : Nat} {y : LS} (v : LInv s a y) {x : Opn} (hx : y.op.getLast? = some x) (hb : ¬ x.bar = true) {e : Nat} (he : y.k < e) (hl : e ≤ s.length) (h93 : bt s y.k = 93) :
    LInv s a ⟨e, y.out ++ [⟨x.f, x.o, y.k, e, x.img⟩], barL x.img y.op.dropLast⟩ := by
  have hm : x ∈ y.op := List.mem_of_getLast? hx
  have hd : y.op = y.op.dropLast ++ [x] := by obtain ⟨ys, hys⟩ := List.getLast?_eq_some_iff.1 hx; rw [hys]; simp
  have ho := v.ops x hm
  have hbo : ∀ x' ∈ barL x.img y.op.dropLast, ∃ x0 ∈ y.op.dropLast, x'.f = x0.f ∧ x'.o = x0.o ∧ x'.img = x0.img ∧ x'.bar = (x0.bar || (!x.img && !x0.img)) := by
    intro x' hx'
    unfold barL at hx'
    obtain ⟨x0, h0, rfl⟩ := List.mem_map.1 hx'
    exact ⟨x0, h0, rfl, rfl, rfl, rfl⟩
  have hlt : ∀ x0 ∈ y.op.dropLast, x0.o ≤ x.f := by
    intro x0 h0
    have := v.inc
    rw [hd, List.pairwise_append] at this
    exact this.2.2 x0 h0 x (by simp)
  have hs := List.dropLast_sublist y.op
  refine ⟨by have := v.ak; simp only; omega, ?_, ?_, ?_, ?_, ?_⟩
  · intro x' hx'
    obtain ⟨x0, h0, e1, e2, e3, e4⟩ := hbo x' hx'
    have q := (v.ops x0 (hs.subset h0)).mono (Nat.le_of_lt he)
    exact ⟨by rw [e1]; exact q.a, by rw [e2, e1, e3]; exact q.o, by rw [e2]; exact q.k, by rw [e2]; exact q.l, by rw [e2]; exact q.b, by rw [e1, e3]; exact q.i⟩
  · unfold barL
    rw [List.pairwise_map]
    exact v.inc.sublist hs
  · intro z hz
    rcases List.mem_append.1 hz with h | h
    · exact (v.outs z h).mono (Nat.le_of_lt he)
    · simp at h; subst h
      have := ho.k
      have h2 := ho.a
      refine ⟨by simp only; omega, ?_, by simp only; omega, by simp only; omega, by simp only; omega, by simp only; omega, ?_, ?_, ?_⟩
      · simp only; rw [ho.o]; cases x.img <;> simp
      · simpa using ho.b
      · simpa using h93
      · simpa using ho.i
  · intro x' hx' z hz
    obtain ⟨x0, h0, e1, e2, e3, e4⟩ := hbo x' hx'
    have hx0 := hlt x0 h0
    rcases List.mem_append.1 hz with h | h
    · rcases v.rel x0 (hs.subset h0) z h with q | ⟨q1, q2⟩
      · exact .inl (by rw [e1]; exact q)
      · refine .inr ⟨by rw [e2]; exact q1, fun h1 h2 => ?_⟩
        rw [e4, q2 h1 (e3 ▸ h2)]; rfl
    · simp at h; subst h
      refine .inr ⟨by simp only; omega, fun h1 h2 => ?_⟩
      simp only at h1
      rw [e3] at h2
      rw [e4, h1, h2]; simp
  · simp only
    rw [List.pairwise_append]
    refine ⟨v.pw, by simp, ?_⟩
    intro z hz w hw
    simp at hw
    subst hw
    have hz' := v.outs z hz
    have hzf : z.f < z.t := by
      have h1 := hz'.o
      have h2 := hz'.m
      have h3 := hz'.t
      split at h1 <;> omega
    rcases v.rel x hm z hz with q | ⟨q1, q2⟩
    · exact .inl ⟨by simp only; omega, .inl q⟩
    · refine .inr ⟨?_, .inr ⟨q1, hz'.k, ?_⟩⟩
      · simp only
        have := ho.o
        split at this <;> omega
      · simp only
        cases hi : z.i with
        | true => exact .inl rfl
        | false =>
          cases hxi : x.img with
          | true => exact .inr rfl
          | false => exact absurd (q2 hi hxi) hb
theorem LInv.step {s : List UInt8} {a : Nat} {y : LS} (v : LInv s a y) (kn : List UInt8 → Bool) (last lf : Bool) (hk : y.k < s.length) : LInv s a (lkStep kn last lf s y) := by
  have hle := lkStep_le kn last lf hk
  unfold lkStep at hle ⊢
  split
  · unfold lkAt
    split
    · rename_i hc hq
      exact v.push rfl (by omega) ⟨by simp only; exact v.ak, rfl, Nat.le_refl _, by simp only; omega, by simpa using hq.2.2, fun _ => hq.1⟩
    · split
      · rename_i hq
        exact v.push rfl (by omega) ⟨by simp only; exact v.ak, rfl, Nat.le_refl _, by simp only; omega, by simpa using hq, by simp⟩
      · split
        · rename_i h93
          split
          · exact v.go (by omega)
          · rename_i x hx
            split
            · exact v.pop (by omega)
            · rename_i hb
              split
              · exact v.pop (by omega)
              · rename_i e he
                have := endL_le hk he
                exact v.close hx hb this.1 this.2 h93
        · exact v.go (by omega)
  · rename_i hc
    rw [if_neg hc] at hle
    exact v.go (Nat.le_of_lt hle.1)
theorem LInv.run {s : List UInt8} {a : Nat} (kn : List UInt8 → Bool) (last lf : Bool) : ∀ (f : Nat) (y : LS), LInv s a y → LInv s a (lkRun kn last lf s f y)
  | 0, y, v => v
  | f + 1, y, v => by
    rw [lkRun]
    split
    · rename_i hk
      exact LInv.run kn last lf f _ (v.step kn last lf hk)
    · exact v
theorem LInv.init (s : List UInt8) (a : Nat) : LInv s a ⟨a, [], []⟩ := ⟨Nat.le_refl _, by simp, by simp, by simp, by simp, by simp⟩
/-! in order -/
def putL (l : List Lk) (x : Lk) : List Lk := l.take (l.takeWhile fun z => decide (z.f < x.f)).length ++ x :: l.drop (l.takeWhile fun z => decide (z.f < x.f)).length
def insL (l : List Lk) : List Lk := l.foldl putL []
def Inc (l : List Lk) : Prop := l.Pairwise fun x y => x.f < y.f
theorem twl {p : Lk → Bool} (l : List Lk) : l.take (l.takeWhile p).length = l.takeWhile p ∧ l.drop (l.takeWhile p).length = l.dropWhile p := by
  induction l with
  | nil => simp
  | cons x l ih =>
    by_cases h : p x = true
    · rw [List.takeWhile_cons_of_pos h, List.dropWhile_cons_of_pos h]; simpa using ih
    · rw [List.takeWhile_cons_of_neg h, List.dropWhile_cons_of_neg h]; simp
theorem putL_perm (l : List Lk) (x : Lk) : (putL l x).Perm (x :: l) := by
  unfold putL
  have : l = l.take (l.takeWhile fun z => decide (z.f < x.f)).length ++ l.drop (l.takeWhile fun z => decide (z.f < x.f)).length := (List.take_append_drop _ _).symm
  conv => rhs; rw [this]
  exact List.perm_middle
theorem putL_inc {l : List Lk} {x : Lk} (h : Inc l) (hn : ∀ z ∈ l, z.f ≠ x.f) : Inc (putL l x) := by
  induction l with
  | nil => simp [putL, Inc]
  | cons z l ih =>
    have h1 := List.pairwise_cons.1 h
    by_cases c : z.f < x.f
    · have e : putL (z :: l) x = z :: putL l x := by
        unfold putL
        rw [List.takeWhile_cons_of_pos (by simpa using c)]
        simp
      rw [e]
      refine List.pairwise_cons.2 ⟨fun w hw => ?_, ih h1.2 fun w hw => hn w (List.mem_cons_of_mem _ hw)⟩
      rcases List.mem_cons.1 ((putL_perm l x).mem_iff.1 hw) with rfl | hw
      · exact c
      · exact h1.1 w hw
    · have e : putL (z :: l) x = x :: z :: l := by
        unfold putL
        rw [List.takeWhile_cons_of_neg (by simpa using c)]
        simp
      rw [e]
      have hzx := hn z (List.mem_cons_self ..)
      refine List.pairwise_cons.2 ⟨fun w hw => ?_, h⟩
      rcases List.mem_cons.1 hw with rfl | hw
      · omega
      · have := h1.1 w hw
        omega
theorem foldl_put : ∀ (l acc : List Lk), Inc acc → l.Pairwise (fun x y => x.f ≠ y.f) → (∀ z ∈ acc, ∀ x ∈ l, z.f ≠ x.f) → Inc (l.foldl putL acc) ∧ (l.foldl putL acc).Perm (acc ++ l)
  | [], acc, h, _, _ => ⟨h, by simp⟩
  | x :: l, acc, h, hp, hd => by
    have h1 := List.pairwise_cons.1 hp
    have h2 := putL_perm acc x
    obtain ⟨q1, q2⟩ := foldl_put l (putL acc x) (putL_inc h fun z hz => hd z hz x (List.mem_cons_self ..)) h1.2 (fun z hz w hw => by
      rcases List.mem_cons.1 (h2.mem_iff.1 hz) with rfl | hz
      · exact h1.1 w hw
      · exact hd z hz w (List.mem_cons_of_mem _ hw))
    refine ⟨q1, q2.trans ?_⟩
    refine (h2.append_right l).trans ?_
    simpa using (List.perm_middle (l₁ := acc) (a := x) (l₂ := l)).symm
theorem insL_inc {l : List Lk} (hp : l.Pairwise fun x y => x.f ≠ y.f) : Inc (insL l) ∧ (insL l).Perm l := by
  have := foldl_put l [] (by simp [Inc]) hp (by simp)
  unfold insL
  simpa using this
theorem ltLk_swo : Sort.SWO ltLk := ⟨by simp [ltLk], by simp [ltLk]; omega, by simp [ltLk]; omega⟩
theorem srtLk_pw (l : List Lk) : (srtLk l).Pairwise (fun x y => x.f ≤ y.f) ∧ (srtLk l).Perm l := by
  obtain ⟨h1, h2⟩ := Sort.pdq_sorts ltLk ltLk_swo l.toArray 0 l.toArray.size (Lib.bitLen l.toArray.size) true true (Nat.zero_le _) (Nat.le_refl _) (.inl rfl)
  obtain ⟨p1, p2, p3⟩ := h1
  unfold srtLk
  generalize hD : Sort.pdq ltLk l.toArray 0 l.toArray.size (Lib.bitLen l.toArray.size) true true = D at *
  constructor
  · rw [List.pairwise_iff_getElem]
    intro i j hi hj hij
    have := h2 i j (Nat.zero_le _) hij (by simp at hj p1 ⊢; omega)
    simp only [Array.length_toList] at hi hj
    rw [getElem!_pos D j hj, getElem!_pos D i hi] at this
    have := of_decide_eq_false this
    simp only [Array.getElem_toList]
    omega
  · have e1 : (D.extract 0 l.toArray.size).toList = D.toList := by rw [← p1]; simp
    have e2 : (l.toArray.extract 0 l.toArray.size).toList = l := by simp
    rwa [e1, e2] at p3
theorem f_inj {l : List Lk} (hp : l.Pairwise fun x y => x.f ≠ y.f) {x y : Lk} (hx : x ∈ l) (hy : y ∈ l) (e : x.f = y.f) : x = y := by
  induction l with
  | nil => simp at hx
  | cons z l ih =>
    have h1 := List.pairwise_cons.1 hp
    rcases List.mem_cons.1 hx with rfl | hx'
    · rcases List.mem_cons.1 hy with rfl | hy'
      · rfl
      · exact absurd e (h1.1 y hy')
    · rcases List.mem_cons.1 hy with rfl | hy'
      · exact absurd e.symm (h1.1 x hx')
      · exact ih h1.2 hx' hy'
theorem srtLk_ins {l : List Lk} (hp : l.Pairwise fun x y => x.f ≠ y.f) : srtLk l = insL l := by
  obtain ⟨h1, h2⟩ := srtLk_pw l
  obtain ⟨h3, h4⟩ := insL_inc hp
  refine (h2.trans h4.symm).eq_of_pairwise (le := fun x y => x.f ≤ y.f) ?_ h1 (h3.imp fun h => by omega)
  intro x y hx hy q1 q2
  exact f_inj hp (h2.mem_iff.1 hx) (h4.mem_iff.1 hy) (by omega)
/-! the links of a part, in order -/
def lksL (kn : List UInt8 → Bool) (last lf : Bool) (s : List UInt8) (a : Int) : List Lk := insL (lksO kn last lf s a)
theorem lksO_inv (kn : List UInt8 → Bool) (last lf : Bool) (s : List UInt8) (a : Int) : (∀ z ∈ lksO kn last lf s a, OkL s a.toNat s.length.succ.succ z ∧ 0 ≤ a) ∧ (lksO kn last lf s a).Pairwise fun z w => Rl z w ∨ Rl w z := by
  unfold lksO
  by_cases ha : a < 0
  · rw [if_pos ha]; simp
  · rw [if_neg ha]
    have v := LInv.run kn last lf s.length _ (LInv.init s a.toNat)
    refine ⟨fun z hz => ⟨?_, by omega⟩, v.pw⟩
    have q := v.outs z hz
    exact ⟨q.a, q.o, q.m, q.t, by have := q.l; omega, q.l, q.b, q.e, q.i⟩
theorem lksO_ne (kn : List UInt8 → Bool) (last lf : Bool) (s : List UInt8) (a : Int) : (lksO kn last lf s a).Pairwise fun x y => x.f ≠ y.f :=
  (lksO_inv kn last lf s a).2.imp fun h => by rcases h with h | h <;> have := h.1 <;> omega
theorem lks_srt (kn : List UInt8 → Bool) (last lf : Bool) (s : List UInt8) (a : Int) : srtLk (lksO kn last lf s a) = lksL kn last lf s a := srtLk_ins (lksO_ne kn last lf s a)
theorem lksL_perm (kn : List UInt8 → Bool) (last lf : Bool) (s : List UInt8) (a : Int) : (lksL kn last lf s a).Perm (lksO kn last lf s a) := (insL_inc (lksO_ne kn last lf s a)).2
/-- How they lie. -/
theorem lksL_nest (kn : List UInt8 → Bool) (last lf : Bool) (s : List UInt8) (a : Int) {i k : Nat} {x y : Lk} (hki : k < i) (hx : (lksL kn last lf s a)[i]? = some x) (hy : (lksL kn last lf s a)[k]? = some y) : Rl y x := by
  have h1 := (insL_inc (lksO_ne kn last lf s a)).1
  have hp : (lksL kn last lf s a).Pairwise fun z w => Rl z w ∨ Rl w z := (List.Perm.pairwise_iff (fun h => h.symm) (lksL_perm kn last lf s a)).2 (lksO_inv kn last lf s a).2
  obtain ⟨hi, rfl⟩ := List.getElem?_eq_some_iff.1 hx
  obtain ⟨hk, rfl⟩ := List.getElem?_eq_some_iff.1 hy
  have q1 := List.pairwise_iff_getElem.1 h1 k i hk hi hki
  rcases List.pairwise_iff_getElem.1 hp k i hk hi hki with q | q
  · exact q
  · have := q.1
    unfold lksL at this
    omega
theorem lksL_ok (kn : List UInt8 → Bool) (last lf : Bool) (s : List UInt8) (a : Int) {x : Lk} (hx : x ∈ lksL kn last lf s a) : OkL s a.toNat s.length.succ.succ x ∧ 0 ≤ a :=
  (lksO_inv kn last lf s a).1 x ((lksL_perm kn last lf s a).mem_iff.1 hx)
/-! it hangs on the labels that are mentioned alone -/
theorem endL_congr {kn kn' : List UInt8 → Bool} {s : List UInt8} {o k a : Nat} (ho : a ≤ o - 1) (hk : a ≤ k) (h : ∀ (j n : Nat), a ≤ j → rdL (s.drop j) = some n → kn (lab (s.drop j) n) = kn' (lab (s.drop j) n)) : endL kn s o k = endL kn' s o k := by
  unfold endL
  split
  · rfl
  · split
    · rename_i n hn
      rw [h _ n (by omega) hn]
    · split
      · rename_i n hn
        rw [h _ n ho hn]
      · rfl
theorem lkStep_congr {kn kn' : List UInt8 → Bool} {last lf : Bool} {s : List UInt8} {a : Nat} {y : LS} (v : LInv s a y) (h : ∀ (j n : Nat), a ≤ j → rdL (s.drop j) = some n → kn (lab (s.drop j) n) = kn' (lab (s.drop j) n)) : lkStep kn last lf s y = lkStep kn' last lf s y := by
  unfold lkStep lkAt
  split
  · split
    · rfl
    · split
      · rfl
      · split
        · split
          · rfl
          · rename_i x hx
            have hm := v.ops x (List.mem_of_getLast? hx)
            have h1 := hm.a
            have h2 := hm.o
            rw [endL_congr (by split at h2 <;> omega) v.ak h]
        · rfl
  · rfl
theorem lkRun_congr {kn kn' : List UInt8 → Bool} {last lf : Bool} {s : List UInt8} {a : Nat} (h : ∀ (j n : Nat), a ≤ j → rdL (s.drop j) = some n → kn (lab (s.drop j) n) = kn' (lab (s.drop j) n)) : ∀ (f : Nat) (y : LS), LInv s a y → lkRun kn last lf s f y = lkRun kn' last lf s f y
  | 0, y, v => rfl
  | f + 1, y, v => by
    rw [lkRun, lkRun]
    split
    · rename_i hk
      rw [← lkStep_congr v h, lkRun_congr h f _ (v.step kn last lf hk)]
    · rfl
theorem lksO_congr {kn kn' : List UInt8 → Bool} {last lf : Bool} {s : List UInt8} {a : Int} (h : 0 ≤ a → ∀ (j n : Nat), a ≤ j → rdL (s.drop j) = some n → kn (lab (s.drop j) n) = kn' (lab (s.drop j) n)) : lksO kn last lf s a = lksO kn' last lf s a := by
  unfold lksO
  split
  · rfl
  · rename_i ha
    rw [lkRun_congr (fun j n hj => h (by omega) j n (by omega)) _ _ (LInv.init s a.toNat)]
theorem lksL_congr {kn kn' : List UInt8 → Bool} {last lf : Bool} {s : List UInt8} {a : Int} (h : 0 ≤ a → ∀ (j n : Nat), a ≤ j → rdL (s.drop j) = some n → kn (lab (s.drop j) n) = kn' (lab (s.drop j) n)) : lksL kn last lf s a = lksL kn' last lf s a := by
  unfold lksL; rw [lksO_congr h]
end Go.Dm
