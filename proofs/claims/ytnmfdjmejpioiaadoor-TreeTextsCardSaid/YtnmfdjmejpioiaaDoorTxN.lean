/- A tree's text, plainly: all lines; there and back. -/
import Derived.Test.YtnmfdjmejpioiaaDoorTxM
import Derived.Test.YtnmfdjmejpioiaaDoorTrQ
set_option linter.unusedVariables false
set_option linter.unusedSimpArgs false
namespace Go.Dm
theorem take_tw {α : Type} (p : α → Bool) : ∀ (t : List α), t.take (t.takeWhile p).length = t.takeWhile p
  | [] => rfl
  | c :: t => by
    by_cases h : p c = true
    · simp [h, take_tw p t]
    · simp [h]
theorem fld_some {e : UInt8} {t r : List UInt8} {n : Nat} (h : fld e t = some (n, r)) : ∃ w, numv w = some n ∧ t = w ++ e :: r := by
  unfold fld at h
  split at h
  · rename_i m c r' h1 h2
    split at h
    · rename_i hc
      cases h
      refine ⟨_, h1, ?_⟩
      have := List.take_append_drop (t.takeWhile isDig).length t
      rw [h2, hc, take_tw] at this
      exact this.symm
    · cases h
  · cases h
theorem rline_some {t r : List UInt8} {x : Nd} (h : rline t = some (x, r)) : ∃ w1 w2 w3 w4 a b c d, numv w1 = some a ∧ numv w2 = some b ∧ numv w3 = some c ∧ numv w4 = some d ∧ b ≤ 255 ∧ x = mkNd a b c d ∧ t = w1 ++ 32 :: (w2 ++ 32 :: (w3 ++ 32 :: (w4 ++ 10 :: r))) := by
  unfold rline at h
  split at h
  · rename_i a t1 h1
    obtain ⟨w1, e1, rfl⟩ := fld_some h1
    split at h
    · rename_i b t2 h2
      obtain ⟨w2, e2, rfl⟩ := fld_some h2
      split at h
      · rename_i hb
        split at h
        · rename_i c t3 h3
          obtain ⟨w3, e3, rfl⟩ := fld_some h3
          split at h
          · rename_i d t4 h4
            obtain ⟨w4, e4, rfl⟩ := fld_some h4
            cases h
            exact ⟨w1, w2, w3, w4, a, b, c, d, e1, e2, e3, e4, hb, rfl, rfl⟩
          · cases h
        · cases h
      · cases h
    · cases h
  · cases h
theorem rline_lt {t r : List UInt8} {x : Nd} (h : rline t = some (x, r)) : r.length + 4 ≤ t.length := by
  obtain ⟨w1, w2, w3, w4, a, b, c, d, _, _, _, _, _, _, rfl⟩ := rline_some h
  simp; omega
def rparse : Nat → List UInt8 → Option (List Nd)
  | _, [] => some []
  | 0, _ :: _ => none
  | f + 1, c :: t => match rline (c :: t) with
    | some (x, r) => (rparse f r).map (x :: ·)
    | none => none
/-- All nodes that a text tells. -/
def rparseT (t : List UInt8) : Option (List Nd) := rparse t.length t
theorem rparse_more : ∀ (f g : Nat) (t : List UInt8), t.length ≤ f → t.length ≤ g → rparse f t = rparse g t := by
  intro f
  induction f with
  | zero =>
    intro g t h1 h2
    have : t = [] := List.eq_nil_of_length_eq_zero (by omega)
    subst this
    cases g <;> rfl
  | succ f ih =>
    intro g t h1 h2
    cases t with
    | nil => cases g <;> rfl
    | cons c t =>
      obtain ⟨g, rfl⟩ : ∃ k, g = k + 1 := ⟨g - 1, by simp at h2; omega⟩
      unfold rparse
      cases hr : rline (c :: t) with
      | none => rfl
      | some p =>
        obtain ⟨x, r⟩ := p
        have := rline_lt hr
        simp only
        rw [ih g r (by simp at this h1; omega) (by simp at this h2; omega)]
@[simp] theorem rparseT_nil : rparseT [] = some [] := rfl
theorem rparseT_step {t : List UInt8} (h : t ≠ []) : rparseT t = match rline t with
    | some (x, r) => (rparseT r).map (x :: ·)
    | none => none := by
  cases t with
  | nil => exact absurd rfl h
  | cons c t =>
    unfold rparseT
    simp only [List.length_cons]
    conv => lhs; unfold rparse
    cases hr : rline (c :: t) with
    | none => rfl
    | some p =>
      obtain ⟨x, r⟩ := p
      have := rline_lt hr
      simp only
      rw [rparse_more t.length r.length r (by simp at this; omega) (Nat.le_refl _)]
/-- What is told so far, and what is to come. -/
theorem rparse_on {s t r : List UInt8} {P : List Nd} {x : Nd} (h : (rparseT t).map (P ++ ·) = rparseT s) (ht : t ≠ []) (hr : rline t = some (x, r)) : (rparseT r).map ((P ++ [x]) ++ ·) = rparseT s := by
  rw [← h, rparseT_step ht, hr]
  simp only
  cases rparseT r with
  | none => rfl
  | some l => simp
theorem rparse_off {s t : List UInt8} {P : List Nd} (h : (rparseT t).map (P ++ ·) = rparseT s) (ht : t ≠ []) (hr : rline t = none) : rparseT s = none := by
  rw [← h, rparseT_step ht, hr]
  rfl
/-- What 'Parse' tells. -/
def parseL (s : List UInt8) : List Nd := match rparseT s with
  | some l => if fitN l then l else []
  | none => []
def parseE (s : List UInt8) : Int := match rparseT s with
  | some l => if fitN l then 0 else 60
  | none => 61

/-! ### There and back -/
theorem valF_app (u : List UInt8) : ∀ (n : Nat) (c : UInt8), valF n (u ++ [c]) = 10 * valF n u + (c.toNat - 48) := by
  induction u with
  | nil => intro n c; rfl
  | cons d u ih => intro n c; exact ih _ c
theorem valF_le (u : List UInt8) : ∀ (n : Nat), n ≤ valF n u := by
  induction u with
  | nil => intro n; exact Nat.le_refl _
  | cons d u ih => intro n; exact Nat.le_trans (by omega) (ih (10 * n + (d.toNat - 48)))
theorem digB_of {c : UInt8} (h : isDig c = true) : digB (c.toNat - 48) = c := by
  simp only [isDig, Bool.and_eq_true, decide_eq_true_eq] at h
  unfold digB
  rw [show 48 + (c.toNat - 48) % 10 = c.toNat by omega]
  simp
theorem dig_val : ∀ (m : Nat) (w : List UInt8), w.length = m → w.all isDig = true → w ≠ [] → (w.length = 1 ∨ w.head? ≠ some 48) → dig (valN w) = w := by
  intro m
  induction m with
  | zero => intro w h _ hne; exact absurd (List.eq_nil_of_length_eq_zero h) hne
  | succ m ih =>
    intro w hl ha hne hz
    obtain ⟨u, c, rfl⟩ : ∃ u c, w = u ++ [c] := ⟨w.dropLast, w.getLast hne, (List.dropLast_concat_getLast hne).symm⟩
    rw [List.all_append, Bool.and_eq_true] at ha
    have hc : isDig c = true := by simpa using ha.2
    have hc2 : 48 ≤ c.toNat ∧ c.toNat ≤ 57 := by simpa [isDig] using hc
    cases hu : u with
    | nil =>
      subst hu
      have e0 : valN ([] ++ [c]) = c.toNat - 48 := by
        rw [List.nil_append]
        unfold valN valF valF
        omega
      rw [e0, dig_lt (by omega), digB_of hc]
      rfl
    | cons d v =>
      have hd0 : d ≠ 48 := by
        rcases hz with hz | hz
        · rw [hu] at hz; simp at hz
        · rw [hu] at hz; simpa using hz
      have hda : isDig d = true := by rw [hu] at ha; simp at ha; exact ha.1.1
      have hd1 : 48 ≤ d.toNat := by simp [isDig] at hda; exact hda.1
      have hd2 : d.toNat ≠ 48 := fun e => hd0 (by
        have : d = UInt8.ofNat d.toNat := by simp
        rw [this, e]; rfl)
      have hpos : 1 ≤ valN u := by
        rw [hu]
        show 1 ≤ valF (10 * 0 + (d.toNat - 48)) v
        exact Nat.le_trans (by omega) (valF_le v _)
      have e : valN (u ++ [c]) = 10 * valN u + (c.toNat - 48) := valF_app u 0 c
      rw [← hu, e, dig_ge (by omega), show (10 * valN u + (c.toNat - 48)) / 10 = valN u by omega]
      have hum : u.length = m := by simp at hl; omega
      rw [ih u hum ha.1 (by rw [hu]; simp) (.inr (by rw [hu]; simpa using hd0))]
      have ed : digB (10 * valN u + (c.toNat - 48)) = digB (c.toNat - 48) := by
        unfold digB
        rw [Nat.mul_add_mod]
      rw [ed, digB_of hc]
theorem numv_some {w : List UInt8} {n : Nat} (h : numv w = some n) : dig n = w := by
  have h0 := numv_dig h
  unfold numv at h
  split at h
  · cases h
  · rename_i h1
    split at h
    · cases h
      simp only [not_or, not_and] at h1
      refine dig_val _ w rfl h0.1 h0.2 ?_
      by_cases hl : w.length = 1
      · exact .inl hl
      · have hp : 0 < w.length := List.length_pos_iff.2 h0.2
        exact .inr (h1.2.1 (by omega))
    · cases h
theorem isDig_digB (n : Nat) : isDig (digB n) = true ∧ (digB n).toNat = 48 + n % 10 := by
  have h : (digB n).toNat = 48 + n % 10 := by
    unfold digB
    have := Nat.mod_lt n (show 0 < 10 by decide)
    rw [UInt8.toNat_ofNat_of_lt' (by show 48 + n % 10 < 256; omega)]
  refine ⟨?_, h⟩
  unfold isDig
  rw [h]
  have := Nat.mod_lt n (show 0 < 10 by decide)
  simp; omega
theorem dig_all : ∀ (m n : Nat), n ≤ m → (dig n).all isDig = true ∧ valN (dig n) = n ∧ ((dig n).length = 1 ∨ ((dig n).head? ≠ some 48 ∧ 1 ≤ n)) := by
  intro m
  induction m with
  | zero =>
    intro n h
    obtain rfl : n = 0 := by omega
    exact ⟨by decide, by decide, .inl (by decide)⟩
  | succ m ih =>
    intro n h
    obtain ⟨d1, d2⟩ := isDig_digB n
    by_cases hn : n < 10
    · have e := dig_lt hn
      generalize dig n = w at *
      subst e
      have e2 : valN [digB n] = 10 * 0 + ((digB n).toNat - 48) := rfl
      refine ⟨by simp [d1], by rw [e2, d2]; omega, .inl rfl⟩
    · have e := dig_ge (n := n) (by omega)
      obtain ⟨a, b, c⟩ := ih (n / 10) (by omega)
      have hne := dig_pos (n / 10)
      generalize dig n = w at *
      generalize dig (n / 10) = u at *
      subst e
      have e2 : valN (u ++ [digB n]) = 10 * valN u + ((digB n).toNat - 48) := valF_app _ _ _
      refine ⟨by rw [List.all_append, a]; simp [d1], by rw [e2, d2, b]; omega, .inr ⟨?_, by omega⟩⟩
      · cases u with
        | nil => exact absurd rfl hne
        | cons x r =>
          simp only [List.cons_append, List.head?_cons]
          rcases c with c | ⟨c, _⟩
          · have hr : r = [] := List.eq_nil_of_length_eq_zero (by simpa using c)
            subst hr
            intro e
            have e3 : x = 48 := by simpa using e
            subst e3
            have : valN [48] = 0 := by decide
            omega
          · simpa using c
theorem numv_of {w : List UInt8} (h1 : w ≠ []) (h2 : ¬ (1 < w.length ∧ w.head? = some 48)) (h3 : w.all isDig = true) : numv w = if valN w ≤ 1099511627776 then some (valN w) else none := by
  unfold numv
  rw [if_neg]
  rintro (e | e | e)
  · exact h1 e
  · exact h2 e
  · rw [h3] at e; cases e
theorem numv_dig2 {n : Nat} (h : n ≤ 1099511627776) : numv (dig n) = some n := by
  obtain ⟨a, b, c⟩ := dig_all n n (Nat.le_refl _)
  rw [numv_of (dig_pos n) ?_ a, b, if_pos h]
  rintro ⟨h1, h2⟩
  rcases c with c | ⟨c, _⟩
  · omega
  · exact c h2
theorem dig_no {n : Nat} {e : UInt8} (he : isDig e = false) : ∀ c ∈ dig n, c ≠ e := by
  intro c hc e2
  have := List.all_eq_true.1 (dig_all n n (Nat.le_refl _)).1 c hc
  rw [e2, he] at this
  cases this
theorem line_eq (x : Nd) : lineN x = dig x.dp.toNat ++ 32 :: (dig x.kind ++ 32 :: (dig x.fm.toNat ++ 32 :: (dig x.to.toNat ++ [10]))) := by
  simp [lineN, fldF, valsN, List.getD]
theorem rline_line {x : Nd} {r : List UInt8} (h0 : 0 ≤ x.fm ∧ 0 ≤ x.to ∧ 0 ≤ x.dp) (h1 : x.fm ≤ 1099511627776 ∧ x.to ≤ 1099511627776 ∧ x.dp ≤ 1099511627776) (h2 : x.kind ≤ 255) : rline (lineN x ++ r) = some (x, r) := by
  unfold rline
  rw [line_eq, show (dig x.dp.toNat ++ 32 :: (dig x.kind ++ 32 :: (dig x.fm.toNat ++ 32 :: (dig x.to.toNat ++ [10])))) ++ r = dig x.dp.toNat ++ 32 :: (dig x.kind ++ 32 :: (dig x.fm.toNat ++ 32 :: (dig x.to.toNat ++ 10 :: r))) by simp,
    fld_hit isDig_32 (dig_no isDig_32), numv_dig2 (by omega)]
  simp only [Option.map_some]
  rw [fld_hit isDig_32 (dig_no isDig_32), numv_dig2 (by omega)]
  simp only [Option.map_some]
  rw [if_pos h2, fld_hit isDig_32 (dig_no isDig_32), numv_dig2 (by omega)]
  simp only [Option.map_some]
  rw [fld_hit isDig_10 (dig_no isDig_10), numv_dig2 (by omega)]
  simp only [Option.map_some, mkNd]
  obtain ⟨k, f, t, d⟩ := x
  simp only at h0 ⊢
  rw [Int.toNat_of_nonneg h0.1, Int.toNat_of_nonneg h0.2.1, Int.toNat_of_nonneg h0.2.2]
theorem rparse_print : ∀ (l : List Nd), (∀ x ∈ l, (0 ≤ x.fm ∧ 0 ≤ x.to ∧ 0 ≤ x.dp) ∧ (x.fm ≤ 1099511627776 ∧ x.to ≤ 1099511627776 ∧ x.dp ≤ 1099511627776) ∧ x.kind ≤ 255) → rparseT (printN l) = some l
  | [], _ => rfl
  | x :: l, h => by
    obtain ⟨a, b, c⟩ := h x (List.mem_cons_self ..)
    have e : printN (x :: l) = lineN x ++ printN l := by simp [printN]
    rw [e, rparseT_step (by rw [line_eq]; simp), rline_line a b c]
    simp only
    rw [rparse_print l fun y hy => h y (List.mem_cons_of_mem _ hy)]
    rfl
theorem print_rparse : ∀ (m : Nat) (s : List UInt8) (l : List Nd), s.length ≤ m → rparseT s = some l → printN l = s := by
  intro m
  induction m with
  | zero =>
    intro s l h hp
    have : s = [] := List.eq_nil_of_length_eq_zero (by omega)
    subst this
    cases hp
    rfl
  | succ m ih =>
    intro s l h hp
    by_cases hs : s = []
    · subst hs; cases hp; rfl
    · rw [rparseT_step hs] at hp
      cases hr : rline s with
      | none => rw [hr] at hp; cases hp
      | some q =>
        obtain ⟨x, r⟩ := q
        rw [hr] at hp
        simp only at hp
        have hlt := rline_lt hr
        obtain ⟨w1, w2, w3, w4, a, b, c, d, e1, e2, e3, e4, hb, rfl, rfl⟩ := rline_some hr
        cases hq : rparseT r with
        | none => rw [hq] at hp; cases hp
        | some l2 =>
          rw [hq] at hp
          cases hp
          have hi := ih r l2 (by omega) hq
          have e : printN (mkNd a b c d :: l2) = lineN (mkNd a b c d) ++ printN l2 := by simp [printN]
          rw [e, hi, line_eq]
          simp only [mkNd, Int.toNat_natCast]
          rw [numv_some e1, numv_some e2, numv_some e3, numv_some e4]
          simp
end Go.Dm
