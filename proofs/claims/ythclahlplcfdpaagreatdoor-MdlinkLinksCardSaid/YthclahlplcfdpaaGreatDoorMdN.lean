/- Links: what is mentioned, plain; what is laid, plain. -/
import Derived.Test.YthclahlplcfdpaaGreatDoorMdL
import Derived.Test.YthclahlplcfdpaaGreatDoorIxS
import Derived.Lib.SlicesCompact
set_option linter.unusedVariables false
set_option linter.unusedSimpArgs false
namespace Go.Dm
open Go.Proofs
/-! what is mentioned -/
def riseL (ss : List (List UInt8)) : List (List UInt8) := Lib.compact (srtS ss)
theorem cmp_sub (zs : List (List UInt8)) : (Lib.compact zs).Sublist zs := by
  have h1 : (Lib.compactUpTo zs.toArray zs.length).Sublist ((List.range zs.length).map (zs.toArray[·]!)) := List.filter_sublist.map _
  have h2 := Lib.range_map_get zs.toArray
  simp only [List.size_toArray] at h2
  rw [h2] at h1
  exact h1
theorem cmp_up (zs : List (List UInt8)) (hs : zs.Pairwise (· ≤ ·)) : ∀ n, n ≤ zs.length → Up (Lib.compactUpTo zs.toArray n) ∧ (∀ x, x ∈ Lib.compactUpTo zs.toArray n ↔ x ∈ zs.take n) := by
  intro n
  induction n with
  | zero => exact fun _ => ⟨List.Pairwise.nil, fun x => by simp [Lib.compactUpTo]⟩
  | succ n ih =>
    intro hn
    obtain ⟨u, hm⟩ := ih (by omega)
    have hlt : n < zs.length := by omega
    have hd : zs.toArray[n]! = zs[n] := by simp [hlt]
    have hle : ∀ x ∈ zs.take n, x ≤ zs[n] := by
      intro x hx
      obtain ⟨i, hi, rfl⟩ := List.mem_iff_getElem.1 hx
      have hi' : i < n := by simp at hi; omega
      rw [List.getElem_take]
      exact List.pairwise_iff_getElem.1 hs i n _ hlt hi'
    rw [Lib.compactUpTo_succ, List.take_succ_eq_append_getElem hlt]
    by_cases hk : Lib.keeps zs.toArray n = true
    · rw [if_pos hk, hd]
      refine ⟨List.pairwise_append.2 ⟨u, List.pairwise_singleton .., ?_⟩, fun x => by rw [List.mem_append, List.mem_append, hm]⟩
      intro a ha b hb
      rw [List.mem_singleton.1 hb]
      have ha' := (hm a).1 ha
      have h1 := hle a ha'
      refine Classical.byContradiction fun hnl => ?_
      have hae : a = zs[n] := List.le_antisymm h1 (List.not_lt.1 hnl)
      obtain ⟨i, hi, e⟩ := List.mem_iff_getElem.1 ha'
      have hi' : i < n := by simp at hi; omega
      rw [List.getElem_take] at e
      unfold Lib.keeps at hk
      simp only [decide_eq_true_eq] at hk
      rcases hk with hk | hk
      · omega
      · apply hk
        have hd2 : zs.toArray[n - 1]! = zs[n - 1] := by simp [show n - 1 < zs.length by omega]
        rw [hd, hd2]
        refine List.le_antisymm ?_ ?_
        · rw [← hae, ← e]
          rcases Nat.lt_or_ge i (n - 1) with q | q
          · exact List.pairwise_iff_getElem.1 hs i (n - 1) (by omega) (by omega) q
          · have : i = n - 1 := by omega
            subst this
            exact List.le_refl _
        · exact List.pairwise_iff_getElem.1 hs (n - 1) n (by omega) hlt (by omega)
    · rw [if_neg hk, List.append_nil]
      refine ⟨u, fun x => ?_⟩
      rw [hm, List.mem_append, List.mem_singleton]
      refine ⟨.inl, ?_⟩
      rintro (h | rfl)
      · exact h
      · have hk2 : ¬ (n = 0 ∨ zs.toArray[n]! ≠ zs.toArray[n - 1]!) := by
          intro q; apply hk; unfold Lib.keeps; simpa using q
        have hn0 : n ≠ 0 := fun e => hk2 (.inl e)
        have heq : zs.toArray[n]! = zs.toArray[n - 1]! := Classical.byContradiction fun q => hk2 (.inr q)
        have hd2 : zs.toArray[n - 1]! = zs[n - 1] := by simp [show n - 1 < zs.length by omega]
        rw [hd, hd2] at heq
        rw [heq]
        exact List.mem_iff_getElem.2 ⟨n - 1, by simp; omega, by rw [List.getElem_take]⟩
theorem riseL_up (ss : List (List UInt8)) : Up (riseL ss) := (cmp_up (srtS ss) (srtS_pw ss) _ (Nat.le_refl _)).1
theorem riseL_mem (ss : List (List UInt8)) (x : List UInt8) : x ∈ riseL ss ↔ x ∈ ss := by
  rw [show x ∈ riseL ss ↔ x ∈ (srtS ss).take (srtS ss).length from (cmp_up (srtS ss) (srtS_pw ss) _ (Nat.le_refl _)).2 x, List.take_length]
  exact (srtS_p ss).mem_iff
theorem riseL_len (ss : List (List UInt8)) : (riseL ss).length ≤ ss.length := by
  have := (cmp_sub (srtS ss)).length_le
  rw [srtS_len] at this
  exact this
/-- The labels of the first i places from a on. -/
def mtO (s : List UInt8) (a i : Nat) : List (List UInt8) := (List.range' a i).filterMap fun j => (rdL (s.drop j)).map (lab (s.drop j))
theorem mtO_zero (s : List UInt8) (a : Nat) : mtO s a 0 = [] := rfl
theorem mtO_succ (s : List UInt8) (a i : Nat) : mtO s a (i + 1) = mtO s a i ++ (match rdL (s.drop (a + i)) with | some n => [lab (s.drop (a + i)) n] | none => []) := by
  unfold mtO
  rw [List.range'_concat, List.filterMap_append]
  congr 1
  simp only [Nat.one_mul, List.filterMap_cons, List.filterMap_nil]
  cases rdL (s.drop (a + i)) <;> rfl
theorem mtO_len (s : List UInt8) (a i : Nat) : (mtO s a i).length ≤ i := by
  unfold mtO
  exact Nat.le_trans (List.length_filterMap_le _ _) (by simp)
theorem mtO_mem (s : List UInt8) (a i : Nat) (x : List UInt8) : x ∈ mtO s a i ↔ ∃ j n, a ≤ j ∧ j < a + i ∧ rdL (s.drop j) = some n ∧ lab (s.drop j) n = x := by
  unfold mtO
  simp only [List.mem_filterMap, List.mem_range'_1, Option.map_eq_some_iff]
  constructor
  · rintro ⟨j, ⟨h1, h2⟩, n, h3, h4⟩; exact ⟨j, n, h1, h2, h3, h4⟩
  · rintro ⟨j, n, h1, h2, h3, h4⟩; exact ⟨j, ⟨h1, h2⟩, n, h3, h4⟩
/-- The labels of a part, as they come. -/
def mtA (s : List UInt8) (a : Int) : List (List UInt8) := if a < 0 then [] else mtO s a.toNat (s.length - a.toNat)
/-- The labels of a part, each once, in order. -/
def mtL (s : List UInt8) (a : Int) : List (List UInt8) := riseL (mtA s a)
theorem mtL_mem (s : List UInt8) (a : Int) (x : List UInt8) : x ∈ mtL s a ↔ 0 ≤ a ∧ ∃ j n : Nat, a ≤ j ∧ rdL (s.drop j) = some n ∧ lab (s.drop j) n = x := by
  unfold mtL
  rw [riseL_mem]
  unfold mtA
  by_cases ha : a < 0
  · rw [if_pos ha]; simp; omega
  · rw [if_neg ha, mtO_mem]
    constructor
    · rintro ⟨j, n, h1, h2, h3, h4⟩; exact ⟨by omega, j, n, by omega, h3, h4⟩
    · rintro ⟨h0, j, n, h1, h3, h4⟩
      refine ⟨j, n, by omega, ?_, h3, h4⟩
      have := (rdL_le h3).2
      have := (rdL_le h3).1
      simp at *
      omega
/-- A text in its place, once. -/
def insS (l : List (List UInt8)) (x : List UInt8) : List (List UInt8) :=
  if l[(l.takeWhile fun y => decide (y < x)).length]? = some x then l else l.take (l.takeWhile fun y => decide (y < x)).length ++ x :: l.drop (l.takeWhile fun y => decide (y < x)).length
theorem insS_up {l : List (List UInt8)} {x : List UInt8} (h : Up l) : Up (insS l x) ∧ ∀ y, y ∈ insS l x ↔ y = x ∨ y ∈ l := by
  induction l with
  | nil => simp [insS, Up]
  | cons z l ih =>
    have h1 := List.pairwise_cons.1 h
    by_cases c : z < x
    · have e : insS (z :: l) x = z :: insS l x := by
        unfold insS
        rw [List.takeWhile_cons_of_pos (by simpa using c)]
        simp only [List.length_cons, List.getElem?_cons_succ]
        split <;> simp
      rw [e]
      obtain ⟨u, m⟩ := ih h1.2
      refine ⟨List.pairwise_cons.2 ⟨fun w hw => ?_, u⟩, fun y => ?_⟩
      · rcases (m w).1 hw with rfl | hw
        · exact c
        · exact h1.1 w hw
      · rw [List.mem_cons, m, List.mem_cons]
        constructor
        · rintro (h | h | h)
          · exact .inr (.inl h)
          · exact .inl h
          · exact .inr (.inr h)
        · rintro (h | h | h)
          · exact .inr (.inl h)
          · exact .inl h
          · exact .inr (.inr h)
    · have e0 : ((z :: l).takeWhile fun y => decide (y < x)).length = 0 := by rw [List.takeWhile_cons_of_neg (by simpa using c)]; rfl
      unfold insS
      rw [e0]
      simp only [List.getElem?_cons_zero, Option.some.injEq, List.take_zero, List.drop_zero, List.nil_append]
      by_cases d : z = x
      · rw [if_pos d]
        exact ⟨h, fun y => by rw [List.mem_cons, d]; constructor <;> (rintro (q | q) <;> simp [q])⟩
      · rw [if_neg d]
        refine ⟨List.pairwise_cons.2 ⟨fun w hw => ?_, h⟩, fun y => by rw [List.mem_cons]⟩
        have hxz : x < z := Classical.byContradiction fun q => d (List.le_antisymm (List.not_lt.1 q) (List.not_lt.1 c))
        rcases List.mem_cons.1 hw with rfl | hw
        · exact hxz
        · exact List.lt_trans hxz (h1.1 w hw)
theorem foldl_ins : ∀ (l acc : List (List UInt8)), Up acc → Up (l.foldl insS acc) ∧ ∀ y, y ∈ l.foldl insS acc ↔ y ∈ acc ∨ y ∈ l
  | [], acc, h => ⟨h, by simp⟩
  | x :: l, acc, h => by
    obtain ⟨u, m⟩ := insS_up (x := x) h
    obtain ⟨u2, m2⟩ := foldl_ins l (insS acc x) u
    refine ⟨u2, fun y => ?_⟩
    rw [List.foldl_cons, m2, m, List.mem_cons]
    constructor
    · rintro ((h | h) | h) <;> simp [h]
    · rintro (h | h | h) <;> simp [h]
theorem foldl_rise (l : List (List UInt8)) : l.foldl insS [] = riseL l := by
  obtain ⟨u, m⟩ := foldl_ins l [] List.Pairwise.nil
  exact u.ext (riseL_up l) fun x => by rw [m, riseL_mem]; simp
/-! a link that is laid -/
/-- A byte of a word. -/
def isW (c : UInt8) : Bool := (decide (97 ≤ c.toNat) && decide (c.toNat ≤ 122)) || decide (c.toNat = 32) || decide (c.toNat = 42) || decide (128 ≤ c.toNat)
/-- A byte that says nothing of itself. -/
def isP (c : UInt8) : Bool := !decide (c ∈ ([92, 96, 60, 38, 33, 91, 93] : List UInt8))
theorem isW_P {c : UInt8} (h : isW c = true) : isP c = true := by
  unfold isP
  rw [Bool.not_eq_true', decide_eq_false_iff_not]
  intro q
  simp only [List.mem_cons, List.not_mem_nil, or_false] at q
  rcases q with rfl | rfl | rfl | rfl | rfl | rfl | rfl <;> simp [isW] at h
theorem cdN_plain {c : UInt8} {u : List UInt8} (hc : isP c = true) (hu : u.all (· == 32) = false) (last lf : Bool) : cdN last lf (c :: u) = (0, 1) := by
  have h1 : c ≠ 92 := by rintro rfl; simp [isP] at hc
  have h2 : c ≠ 96 := by rintro rfl; simp [isP] at hc
  have h3 : c ≠ 60 := by rintro rfl; simp [isP] at hc
  have h4 : c ≠ 38 := by rintro rfl; simp [isP] at hc
  unfold cdN
  simp only [h1, h2, h3, h4, if_false, hu]
  simp
theorem at_plain {kn : List UInt8 → Bool} {s : List UInt8} {y : LS} (hc : isP (bt s y.k) = true) : lkAt kn s y = ⟨y.k + 1, y.out, y.op⟩ := by
  have h1 : bt s y.k ≠ 33 := by intro e; rw [e] at hc; simp [isP] at hc
  have h2 : bt s y.k ≠ 91 := by intro e; rw [e] at hc; simp [isP] at hc
  have h3 : bt s y.k ≠ 93 := by intro e; rw [e] at hc; simp [isP] at hc
  unfold lkAt
  rw [if_neg (fun q => h1 q.1), if_neg h2, if_neg h3]
theorem bt_app (p : List UInt8) (c : UInt8) (u : List UInt8) : bt (p ++ c :: u) p.length = c := by simp [bt]
theorem run_word (kn : List UInt8 → Bool) (last lf : Bool) : ∀ (w p r : List UInt8) (out : List Lk) (op : List Opn), (∀ c ∈ w, isP c = true) → r.all (· == 32) = false →
    lkRun kn last lf (p ++ (w ++ r)) (p ++ (w ++ r)).length ⟨p.length, out, op⟩ = lkRun kn last lf (p ++ (w ++ r)) (p ++ (w ++ r)).length ⟨p.length + w.length, out, op⟩
  | [], p, r, out, op, hw, hr => by simp
  | c :: w, p, r, out, op, hw, hr => by
    have hc := hw c (List.mem_cons_self ..)
    have hu : (w ++ r).all (· == 32) = false := by rw [List.all_append, hr, Bool.and_false]
    have e : p ++ (c :: w ++ r) = (p ++ [c]) ++ (w ++ r) := by simp
    have hk : (LS.mk p.length out op).k < (p ++ (c :: w ++ r)).length := by simp
    rw [lkRun_step kn last lf _ _ hk]
    have hd : (p ++ (c :: w ++ r)).drop p.length = c :: (w ++ r) := by simp
    have hs : lkStep kn last lf (p ++ (c :: w ++ r)) ⟨p.length, out, op⟩ = ⟨p.length + 1, out, op⟩ := by
      unfold lkStep
      simp only
      rw [hd, cdN_plain hc hu, if_pos ⟨rfl, rfl⟩]
      exact at_plain (by simp only [List.cons_append]; rw [bt_app]; exact hc)
    rw [hs, e]
    have := run_word kn last lf w (p ++ [c]) r out op (fun x hx => hw x (List.mem_cons_of_mem _ hx)) hr
    rw [show (p ++ [c] : List UInt8).length = p.length + 1 by simp] at this
    rw [this]
    simp only [List.length_cons]
    congr 2
    omega
/-- One step, where it stands. -/
theorem run_at (kn : List UInt8 → Bool) (last lf : Bool) {s p r : List UInt8} {c : UInt8} (hs : s = p ++ c :: r) (hc : c = 91 ∨ c = 93 ∨ (c = 33)) (out : List Lk) (op : List Opn) :
    lkRun kn last lf s s.length ⟨p.length, out, op⟩ = lkRun kn last lf s s.length (lkAt kn s ⟨p.length, out, op⟩) := by
  have hk : (LS.mk p.length out op).k < s.length := by rw [hs]; simp
  rw [lkRun_step kn last lf _ _ hk]
  congr 1
  unfold lkStep
  have hd : s.drop p.length = c :: r := by rw [hs]; simp
  simp only
  rw [hd]
  rcases hc with rfl | rfl | rfl
  · exact if_pos ⟨rfl, rfl⟩
  · exact if_pos ⟨rfl, rfl⟩
  · exact if_pos ⟨rfl, rfl⟩
theorem run_open (kn : List UInt8 → Bool) (last lf : Bool) {s p r : List UInt8} (hs : s = p ++ 91 :: r) (out : List Lk) (op : List Opn) :
    lkRun kn last lf s s.length ⟨p.length, out, op⟩ = lkRun kn last lf s s.length ⟨p.length + 1, out, op ++ [⟨p.length, p.length + 1, false, false⟩]⟩ := by
  rw [run_at kn last lf hs (.inl rfl)]
  congr 1
  have hb : bt s p.length = 91 := by rw [hs, bt_app]
  unfold lkAt
  simp only [hb]
  rw [if_neg (by simp), if_pos trivial]
theorem run_img (kn : List UInt8 → Bool) (last lf : Bool) {s p r : List UInt8} (hs : s = p ++ 33 :: 91 :: r) (out : List Lk) (op : List Opn) :
    lkRun kn last lf s s.length ⟨p.length, out, op⟩ = lkRun kn last lf s s.length ⟨p.length + 2, out, op ++ [⟨p.length, p.length + 2, true, false⟩]⟩ := by
  rw [run_at kn last lf hs (.inr (.inr rfl))]
  congr 1
  have hb : bt s p.length = 33 := by rw [hs, bt_app]
  have hb2 : bt s (p.length + 1) = 91 := by
    rw [hs, show p ++ 33 :: 91 :: r = (p ++ [33]) ++ 91 :: r by simp, show p.length + 1 = (p ++ [33]).length by simp, bt_app]
  unfold lkAt
  simp only [hb, hb2]
  rw [if_pos ⟨trivial, by rw [hs]; simp, trivial⟩]
theorem run_close (kn : List UInt8 → Bool) (last lf : Bool) {s p r : List UInt8} (hs : s = p ++ 93 :: r) (out : List Lk) (op : List Opn) (x : Opn) (hx : x.bar = false) :
    lkRun kn last lf s s.length ⟨p.length, out, op ++ [x]⟩ = lkRun kn last lf s s.length (match endL kn s x.o p.length with
      | none => ⟨p.length + 1, out, op⟩
      | some e => ⟨e, out ++ [⟨x.f, x.o, p.length, e, x.img⟩], barL x.img op⟩) := by
  rw [run_at kn last lf hs (.inr (.inl rfl))]
  congr 1
  have hb : bt s p.length = 93 := by rw [hs, bt_app]
  unfold lkAt
  simp only [hb]
  rw [if_neg (by simp), if_neg (by decide), if_pos trivial, List.getLast?_concat]
  simp only [hx, List.dropLast_concat, Bool.false_eq_true, if_false]
  cases endL kn s x.o p.length <;> rfl
/-- The six targets. -/
def gls : List (List UInt8) := [[40, 41], [40, 47, 117, 41], [40, 32, 60, 117, 32, 118, 62, 32, 41], [40, 117, 40, 118, 41, 119, 32, 39, 120, 32, 121, 39, 41], [40, 92, 41, 41], [40, 117, 32, 34, 92, 34, 34, 41]]
theorem tg_goal {g : List UInt8} (hg : g ∈ gls) (r : List UInt8) : tgL (g ++ r) = some g.length := by
  simp only [gls, List.mem_cons, List.not_mem_nil, or_false] at hg
  rcases hg with rfl | rfl | rfl | rfl | rfl | rfl <;> rfl
def lbl : List UInt8 := [91, 32, 81, 32, 32, 114, 93]
theorem rd_lbl (r : List UInt8) : rdL (lbl ++ r) = some 7 ∧ lab (lbl ++ r) 7 = [113, 32, 114] ∧ tgL (lbl ++ r) = none := ⟨rfl, rfl, rfl⟩
/-- The end of what is laid. -/
theorem run_tail (kn : List UInt8 → Bool) {s p : List UInt8} (hs : s = p ++ [32, 121]) (out : List Lk) (op : List Opn) : (lkRun kn true true s s.length ⟨p.length, out, op⟩).out = out := by
  have h1 : s = p ++ ([32] ++ [121]) := hs
  have h2 := run_word kn true true [32] p [121] out op (by simp [isP]) (by decide)
  rw [← h1] at h2
  rw [h2]
  have hk : (LS.mk (p.length + [(32 : UInt8)].length) out op).k < s.length := by rw [hs]; simp
  rw [lkRun_step kn true true _ _ hk]
  have hd : s.drop (p.length + 1) = [121] := by rw [hs, List.drop_append]; simp
  have hb : bt s (p.length + 1) = 121 := by
    rw [hs, show p ++ [32, 121] = (p ++ [32]) ++ 121 :: [] by simp, show p.length + 1 = (p ++ [32]).length by simp, bt_app]
  have hst : lkStep kn true true s ⟨p.length + [(32 : UInt8)].length, out, op⟩ = ⟨p.length + 2, out, op⟩ := by
    unfold lkStep
    simp only [List.length_singleton]
    rw [hd, if_pos ⟨rfl, rfl⟩]
    unfold lkAt
    simp only [hb]
    rw [if_neg (by simp), if_neg (by decide), if_neg (by decide)]
  rw [hst, lkRun_end _ _ _ _ _ (by rw [hs]; simp)]
/-- What closes the laid link. -/
theorem run_last (kn : List UInt8 → Bool) {s p X : List UInt8} (hs : s = p ++ 93 :: (X ++ [32, 121])) (f o : Nat) (out : List Lk) (hX : X ∈ gls ∨ (X = lbl ∧ (kn [113, 32, 114] = true ∨ ∀ x, kn x = false))) :
    (lkRun kn true true s s.length ⟨p.length, out, [⟨f, o, false, false⟩]⟩).out = out ++ (if X ∈ gls ∨ kn [113, 32, 114] = true then [⟨f, o, p.length, ((p.length + 1 + X.length : Nat) : Int), false⟩] else []) := by
  have h1 := run_close kn true true hs out [] ⟨f, o, false, false⟩ rfl
  rw [List.nil_append] at h1
  rw [h1]
  have hd : s.drop (p.length + 1) = X ++ [32, 121] := by rw [hs, List.drop_append]; simp
  have hp : s = (p ++ 93 :: X) ++ [32, 121] := by rw [hs]; simp
  have hpl : (p ++ 93 :: X).length = p.length + 1 + X.length := by simp; omega
  have done : endL kn s o p.length = some (p.length + 1 + X.length) → (lkRun kn true true s s.length (match endL kn s o p.length with
      | none => ⟨p.length + 1, out, []⟩
      | some e => ⟨e, out ++ [⟨f, o, p.length, e, false⟩], barL false []⟩)).out = out ++ [⟨f, o, p.length, ((p.length + 1 + X.length : Nat) : Int), false⟩] := by
    intro e
    rw [e]
    simp only
    rw [← hpl]
    exact run_tail kn hp _ _
  rcases hX with hX | ⟨rfl, hX⟩
  · rw [if_pos (.inl hX)]
    refine done ?_
    unfold endL
    rw [hd, tg_goal hX]
  · obtain ⟨q1, q2, q3⟩ := rd_lbl [32, 121]
    rcases hX with hX | hX
    · rw [if_pos (.inr hX)]
      refine done ?_
      unfold endL
      rw [hd, q3, q1]
      simp only
      rw [q2]
      rw [if_pos hX]
      rfl
    · have hng : ¬ (lbl ∈ gls ∨ kn [113, 32, 114] = true) := by
        rintro (h | h)
        · exact absurd h (by decide)
        · rw [hX] at h; cases h
      rw [if_neg hng, List.append_nil]
      have e0 : endL kn s o p.length = none := by
        unfold endL
        rw [hd, q3, q1]
        simp only
        rw [q2]
        rw [if_neg (by rw [hX]; decide)]
      rw [e0]
      simp only
      have e1 : s = (p ++ [93]) ++ 91 :: ([32, 81, 32, 32, 114] ++ (93 :: [32, 121])) := by rw [hs]; simp [lbl]
      have h2 := run_open kn true true e1 out []
      rw [show (p ++ [(93 : UInt8)] : List UInt8).length = p.length + 1 by simp] at h2
      rw [h2]
      have e2 : s = (p ++ [93, 91]) ++ ([32, 81, 32, 32, 114] ++ (93 :: [32, 121])) := by rw [hs]; simp [lbl]
      have h3 := run_word kn true true [32, 81, 32, 32, 114] (p ++ [93, 91]) (93 :: [32, 121]) out ([] ++ [⟨p.length + 1, p.length + 1 + 1, false, false⟩]) (by decide) (by decide)
      rw [← e2, show (p ++ [93, 91] : List UInt8).length = p.length + 1 + 1 by simp] at h3
      rw [h3]
      have e3 : s = (p ++ [93, 91, 32, 81, 32, 32, 114]) ++ 93 :: [32, 121] := by rw [hs]; simp [lbl]
      have h4 := run_close kn true true e3 out [] ⟨p.length + 1, p.length + 1 + 1, false, false⟩ rfl
      rw [show (p ++ [93, 91, 32, 81, 32, 32, 114] : List UInt8).length = p.length + 1 + 1 + [(32 : UInt8), 81, 32, 32, 114].length by simp] at h4
      rw [h4]
      have e4 : endL kn s (p.length + 1 + 1) (p.length + 1 + 1 + [(32 : UInt8), 81, 32, 32, 114].length) = none := by
        unfold endL
        have hd2 : s.drop (p.length + 1 + 1 + [(32 : UInt8), 81, 32, 32, 114].length + 1) = [32, 121] := by
          rw [hs, show p.length + 1 + 1 + [(32 : UInt8), 81, 32, 32, 114].length + 1 = p.length + 8 by simp, List.drop_append]
          simp [lbl]
        rw [hd2, show tgL [32, 121] = none from rfl, show rdL [32, 121] = none from rfl]
        simp only
        rw [show p.length + 1 + 1 - 1 = p.length + 1 by omega, hd]
        rw [q1]
        simp only
        rw [q2]
        rw [if_neg (by rw [hX]; simp)]
      simp only
      rw [e4]
      simp only
      have e5 : s = (p ++ [93, 91, 32, 81, 32, 32, 114, 93]) ++ [32, 121] := by rw [hs]; simp [lbl]
      have h5 := run_tail kn e5 out []
      rwa [show (p ++ [93, 91, 32, 81, 32, 32, 114, 93] : List UInt8).length = p.length + 1 + 1 + [(32 : UInt8), 81, 32, 32, 114].length + 1 by simp] at h5
/-- A line that is laid. -/
def laidS (a t n g1 X : List UInt8) (image : Bool) : List UInt8 := a ++ 91 :: (t ++ ((if image then 33 :: 91 :: (n ++ 93 :: g1) else []) ++ ([32, 122] ++ 93 :: (X ++ [32, 121]))))
def laidM (a t n g1 : List UInt8) (image : Bool) : Nat := a.length + 1 + t.length + (if image then n.length + 3 + g1.length else 0) + 2
theorem lbl_blank (X : List UInt8) : (93 :: (X ++ [32, 121])).all (· == (32 : UInt8)) = false := by simp
theorem putL_one {z x : Lk} (h : ¬ z.f < x.f) : putL [z] x = [x, z] := by
  unfold putL
  rw [List.takeWhile_cons_of_neg (by simpa using h)]
  rfl
theorem laid_links (kn : List UInt8 → Bool) (a t n g1 X : List UInt8) (image : Bool) (ha : ∀ c ∈ a, isP c = true) (ht : ∀ c ∈ t, isP c = true) (hn : ∀ c ∈ n, isP c = true) (hg : g1 ∈ gls) (hX : X ∈ gls ∨ (X = lbl ∧ (kn [113, 32, 114] = true ∨ ∀ x, kn x = false))) :
    lksL kn true true (laidS a t n g1 X image) 0 = (if X ∈ gls ∨ kn [113, 32, 114] = true then [⟨(a.length : Int), ((a.length + 1 : Nat) : Int), (laidM a t n g1 image : Nat), ((laidM a t n g1 image + 1 + X.length : Nat) : Int), false⟩] else []) ++
      (if image then [⟨((a.length + 1 + t.length : Nat) : Int), ((a.length + 1 + t.length + 2 : Nat) : Int), ((a.length + 1 + t.length + 2 + n.length : Nat) : Int), ((a.length + 1 + t.length + 2 + n.length + 1 + g1.length : Nat) : Int), true⟩] else []) := by
  obtain ⟨s, hs⟩ : ∃ s, s = laidS a t n g1 X image := ⟨_, rfl⟩
  have hs' := hs
  unfold laidS at hs'
  rw [← hs]
  have hO : lksO kn true true s 0 = (if image then [⟨((a.length + 1 + t.length : Nat) : Int), ((a.length + 1 + t.length + 2 : Nat) : Int), ((a.length + 1 + t.length + 2 + n.length : Nat) : Int), ((a.length + 1 + t.length + 2 + n.length + 1 + g1.length : Nat) : Int), true⟩] else []) ++
      (if X ∈ gls ∨ kn [113, 32, 114] = true then [⟨(a.length : Int), ((a.length + 1 : Nat) : Int), (laidM a t n g1 image : Nat), ((laidM a t n g1 image + 1 + X.length : Nat) : Int), false⟩] else []) := by
    unfold lksO
    rw [if_neg (by decide)]
    have q1 := run_word kn true true a [] (91 :: (t ++ ((if image then 33 :: 91 :: (n ++ 93 :: g1) else []) ++ ([32, 122] ++ 93 :: (X ++ [32, 121]))))) [] [] ha (by simp)
    rw [List.nil_append, ← hs'] at q1
    simp only [List.length_nil, Nat.zero_add] at q1
    show (lkRun kn true true s s.length ⟨0, [], []⟩).out = _
    rw [q1]
    have q2 := run_open kn true true hs' [] []
    rw [q2]
    have e3 : s = (a ++ [91]) ++ (t ++ ((if image then 33 :: 91 :: (n ++ 93 :: g1) else []) ++ ([32, 122] ++ 93 :: (X ++ [32, 121])))) := by rw [hs']; simp
    have q3 := run_word kn true true t (a ++ [91]) ((if image then 33 :: 91 :: (n ++ 93 :: g1) else []) ++ ([32, 122] ++ 93 :: (X ++ [32, 121]))) [] ([] ++ [⟨a.length, a.length + 1, false, false⟩]) ht (by simp)
    rw [← e3, show (a ++ [(91 : UInt8)] : List UInt8).length = a.length + 1 by simp] at q3
    rw [q3]
    cases image with
    | false =>
      simp only [Bool.false_eq_true, if_false, List.nil_append]
      have e4 : s = (a ++ 91 :: t) ++ ([32, 122] ++ 93 :: (X ++ [32, 121])) := by rw [hs']; simp
      have q4 := run_word kn true true [32, 122] (a ++ 91 :: t) (93 :: (X ++ [32, 121])) [] [⟨a.length, a.length + 1, false, false⟩] (by decide) (by simp)
      rw [← e4, show (a ++ 91 :: t : List UInt8).length = a.length + 1 + t.length by simp; omega] at q4
      rw [q4]
      have e5 : s = (a ++ 91 :: (t ++ [32, 122])) ++ 93 :: (X ++ [32, 121]) := by rw [hs']; simp
      have q5 := run_last kn e5 a.length (a.length + 1) [] hX
      rw [show (a ++ 91 :: (t ++ [32, 122]) : List UInt8).length = a.length + 1 + t.length + [(32 : UInt8), 122].length by simp; omega] at q5
      rw [q5]
      simp [laidM]
    | true =>
      simp only [if_true, List.nil_append]
      simp only [if_true] at hs'
      have e4 : s = (a ++ 91 :: t) ++ 33 :: 91 :: (n ++ 93 :: (g1 ++ ([32, 122] ++ 93 :: (X ++ [32, 121])))) := by rw [hs']; simp
      have q4 := run_img kn true true e4 [] [⟨a.length, a.length + 1, false, false⟩]
      rw [show (a ++ 91 :: t : List UInt8).length = a.length + 1 + t.length by simp; omega] at q4
      rw [q4]
      have e5 : s = (a ++ 91 :: (t ++ [33, 91])) ++ (n ++ 93 :: (g1 ++ ([32, 122] ++ 93 :: (X ++ [32, 121])))) := by rw [hs']; simp
      have q5 := run_word kn true true n (a ++ 91 :: (t ++ [33, 91])) (93 :: (g1 ++ ([32, 122] ++ 93 :: (X ++ [32, 121])))) [] ([⟨a.length, a.length + 1, false, false⟩] ++ [⟨a.length + 1 + t.length, a.length + 1 + t.length + 2, true, false⟩]) hn (by simp)
      rw [← e5, show (a ++ 91 :: (t ++ [33, 91]) : List UInt8).length = a.length + 1 + t.length + 2 by simp; omega] at q5
      rw [q5]
      have e6 : s = (a ++ 91 :: (t ++ 33 :: 91 :: n)) ++ 93 :: (g1 ++ ([32, 122] ++ 93 :: (X ++ [32, 121]))) := by rw [hs']; simp
      have q6 := run_close kn true true e6 [] [⟨a.length, a.length + 1, false, false⟩] ⟨a.length + 1 + t.length, a.length + 1 + t.length + 2, true, false⟩ rfl
      rw [show (a ++ 91 :: (t ++ 33 :: 91 :: n) : List UInt8).length = a.length + 1 + t.length + 2 + n.length by simp; omega] at q6
      rw [q6]
      have e7 : endL kn s (a.length + 1 + t.length + 2) (a.length + 1 + t.length + 2 + n.length) = some (a.length + 1 + t.length + 2 + n.length + 1 + g1.length) := by
        unfold endL
        have hd : s.drop (a.length + 1 + t.length + 2 + n.length + 1) = g1 ++ ([32, 122] ++ 93 :: (X ++ [32, 121])) := by
          rw [e6, show a.length + 1 + t.length + 2 + n.length + 1 = (a ++ 91 :: (t ++ 33 :: 91 :: n)).length + 1 by simp; omega, List.drop_append]
          simp
        rw [hd, tg_goal hg]
      simp only
      rw [e7]
      simp only
      have e8 : s = (a ++ 91 :: (t ++ 33 :: 91 :: (n ++ 93 :: g1))) ++ ([32, 122] ++ 93 :: (X ++ [32, 121])) := by rw [hs']; simp
      have q8 := run_word kn true true [32, 122] (a ++ 91 :: (t ++ 33 :: 91 :: (n ++ 93 :: g1))) (93 :: (X ++ [32, 121])) ([] ++ [⟨((a.length + 1 + t.length : Nat) : Int), ((a.length + 1 + t.length + 2 : Nat) : Int), ((a.length + 1 + t.length + 2 + n.length : Nat) : Int), ((a.length + 1 + t.length + 2 + n.length + 1 + g1.length : Nat) : Int), true⟩]) (barL true [⟨a.length, a.length + 1, false, false⟩]) (by decide) (by simp)
      rw [← e8, show (a ++ 91 :: (t ++ 33 :: 91 :: (n ++ 93 :: g1)) : List UInt8).length = a.length + 1 + t.length + 2 + n.length + 1 + g1.length by simp; omega] at q8
      rw [q8]
      have hbar : barL true [⟨a.length, a.length + 1, false, false⟩] = [⟨a.length, a.length + 1, false, false⟩] := rfl
      rw [hbar]
      have e9 : s = (a ++ 91 :: (t ++ 33 :: 91 :: (n ++ 93 :: (g1 ++ [32, 122])))) ++ 93 :: (X ++ [32, 121]) := by rw [hs']; simp
      have q9 := run_last kn e9 a.length (a.length + 1) ([] ++ [⟨((a.length + 1 + t.length : Nat) : Int), ((a.length + 1 + t.length + 2 : Nat) : Int), ((a.length + 1 + t.length + 2 + n.length : Nat) : Int), ((a.length + 1 + t.length + 2 + n.length + 1 + g1.length : Nat) : Int), true⟩]) hX
      rw [show (a ++ 91 :: (t ++ 33 :: 91 :: (n ++ 93 :: (g1 ++ [32, 122]))) : List UInt8).length = a.length + 1 + t.length + 2 + n.length + 1 + g1.length + [(32 : UInt8), 122].length by simp; omega] at q9
      rw [q9]
      have hM : laidM a t n g1 true = a.length + 1 + t.length + 2 + n.length + 1 + g1.length + [(32 : UInt8), 122].length := by simp [laidM]; omega
      rw [hM]
      rfl
  unfold lksL
  rw [hO]
  by_cases hc : X ∈ gls ∨ kn [113, 32, 114] = true
  · rw [if_pos hc]
    cases image with
    | false => rfl
    | true =>
      simp only [if_true, insL, List.cons_append, List.nil_append, List.foldl_cons, List.foldl_nil]
      rw [show putL [] _ = [_] from rfl]
      exact putL_one (by simp only; omega)
  · rw [if_neg hc]
    cases image <;> rfl
end Go.Dm
