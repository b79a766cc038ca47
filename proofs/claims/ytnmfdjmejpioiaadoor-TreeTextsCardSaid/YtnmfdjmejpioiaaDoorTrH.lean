/- Sums of nodes, plainly. -/
import Derived.Test.YtnmfdjmejpioiaaDoorTrI
set_option linter.unusedVariables false
set_option linter.unusedSimpArgs false
namespace Go.Dm
/-- A number as 64 bits. -/
def u64n (x : Int) : Nat := (x % 18446744073709551616).toNat
theorem u64n_lt (x : Int) : u64n x < 18446744073709551616 := by unfold u64n; omega
def xr (h b : Int) : Int := IntKind.u64.wrap (BitVec.ofInt 64 h ^^^ BitVec.ofInt 64 b).toNat
def mix1 (h : Int) (b : Nat) : Int := IntKind.u64.wrap (xr h b * 1099511628211)
def mixF (x : Nat) : Nat → Nat → Int → Int
  | 0, _, h => h
  | n + 1, j, h => mixF x n (j + 1) (mix1 h (x / 256 ^ j % 256))
def mix (h : Int) (x : Nat) : Int := mixF x 8 0 h
theorem mixF_step (x j : Nat) (h : Int) (hj : j < 8) : mixF x (8 - j) j h = mixF x (8 - (j + 1)) (j + 1) (mix1 h (x / 256 ^ j % 256)) := by
  obtain ⟨n, e⟩ : ∃ n, 8 - j = n + 1 := ⟨7 - j, by omega⟩
  rw [e, show 8 - (j + 1) = n by omega]; rfl
theorem div_pow_succ (x j : Nat) : x / 256 ^ (j + 1) = x / 256 ^ j / 256 := by rw [Nat.pow_succ, Nat.div_div_eq_div_mul]
def sum1 (h : Int) (x : Nd) (d f : Int) : Int := mix (mix (mix (mix h x.kind) (u64n (x.dp - d))) (u64n (x.fm - f))) (u64n (x.to - f))
def sumG (l : List Nd) (d f : Int) : Nat → Nat → Int → Int
  | 0, _, h => h
  | n + 1, k, h => if (nd l k).dp > d then sumG l d f n (k + 1) (sum1 h (nd l k) d f) else h
def sumF (l : List Nd) (d f : Int) (k : Nat) (h : Int) : Int := sumG l d f (l.length - k) k h
theorem sumF_stop {l : List Nd} {d f : Int} {k : Nat} {h : Int} (hk : k < l.length → ¬ (nd l k).dp > d) : sumF l d f k h = h := by
  unfold sumF
  cases e : l.length - k with
  | zero => rfl
  | succ n => unfold sumG; rw [if_neg (hk (by omega))]
theorem sumF_step {l : List Nd} {d f : Int} {k : Nat} {h : Int} (hk : k < l.length) (h1 : (nd l k).dp > d) : sumF l d f k h = sumF l d f (k + 1) (sum1 h (nd l k) d f) := by
  unfold sumF
  obtain ⟨n, e⟩ : ∃ n, l.length - k = n + 1 := ⟨l.length - k - 1, by omega⟩
  rw [e, show l.length - (k + 1) = n by omega]
  conv => lhs; unfold sumG
  rw [if_pos h1]
def sum0 : Int := 14695981039346656037
def sumN (l : List Nd) (i : Nat) : Int := sumF l (nd l i).dp (nd l i).fm (i + 1) (sum1 sum0 (nd l i) (nd l i).dp (nd l i).fm)
/-- What stands at k, behind so many nodes. -/
def SumAt (l : List Nd) (i k : Nat) (s : Int) : Prop := (k = i ∧ s = sum0) ∨ (i < k ∧ sumF l (nd l i).dp (nd l i).fm k s = sumN l i)
theorem SumAt.step {l : List Nd} {i k : Nat} {s : Int} (h : SumAt l i k s) (hk : k < l.length) (hd : k = i ∨ (nd l k).dp > (nd l i).dp) : SumAt l i (k + 1) (sum1 s (nd l k) (nd l i).dp (nd l i).fm) := by
  rcases h with ⟨rfl, rfl⟩ | ⟨h1, h2⟩
  · exact .inr ⟨by omega, rfl⟩
  · refine .inr ⟨by omega, ?_⟩
    rw [← h2, sumF_step hk (by omega)]
theorem SumAt.fin {l : List Nd} {i k : Nat} {s : Int} (h : SumAt l i k s) (hi : i < k) (hk : k < l.length → ¬ (nd l k).dp > (nd l i).dp) : s = sumN l i := by
  rcases h with ⟨rfl, _⟩ | ⟨_, h2⟩
  · omega
  · rw [← h2, sumF_stop hk]

/-! ### A tree that is moved -/
def shN (b : Int) (x : Nd) : Nd := { x with fm := x.fm + b, to := x.to + b }
/-- With so many bytes more ahead. -/
def movN (b : Int) : List Nd → List Nd
  | [] => []
  | x :: r => { x with to := x.to + b } :: r.map (shN b)
@[simp] theorem movN_len (b : Int) (l : List Nd) : (movN b l).length = l.length := by cases l <;> simp [movN]
theorem nd_map {f : Nd → Nd} {l : List Nd} {i : Nat} (h : i < l.length) : nd (l.map f) i = f (nd l i) := by simp [nd, h]
theorem movN_pos (b : Int) {l : List Nd} {i : Nat} (hi : 0 < i) (h : i < l.length) : nd (movN b l) i = shN b (nd l i) := by
  cases l with
  | nil => simp at h
  | cons x r =>
    obtain ⟨j, rfl⟩ : ∃ j, i = j + 1 := ⟨i - 1, by omega⟩
    simp only [movN, nd_succ]
    exact nd_map (by simpa using h)
theorem movN_zero (b : Int) {l : List Nd} (h : 0 < l.length) : nd (movN b l) 0 = { nd l 0 with to := (nd l 0).to + b } := by
  cases l with
  | nil => simp at h
  | cons x r => rfl
/-- What is open there and here. -/
structure MovR (b : Int) (C D : List Nd) : Prop where
  len : D.length = C.length
  fm : ∀ j, j < C.length → (nd D j).fm ≤ (nd C j).fm + b
  eq : ∀ j, j < C.length → 0 ≤ (nd C j).fm
  fm2 : ∀ j, j < C.length → (nd D j).fm = (nd C j).fm + b ∨ ((nd C j).fm = 0 ∧ (nd D j).fm = 0)
  to : ∀ j, j < C.length → (nd D j).to = (nd C j).to + b
theorem MovR.step {b : Int} (hb : 0 ≤ b) {C D C' : List Nd} {x : Nd} (r : MovR b C D) (h : chkS C x = some C') : ∃ D', chkS D (shN b x) = some D' ∧ MovR b C' D' := by
  have h0 := h
  obtain ⟨h1, h2, h3⟩ := chkS_len h
  unfold chkS at h
  rw [if_pos ⟨h1, h2⟩] at h
  have hj : x.dp.toNat - 1 < C.length := by omega
  have f1 := r.fm _ hj
  have f2 := r.to _ hj
  have f3 := r.eq _ hj
  split at h
  · rename_i h4
    have h5 : (nd D (x.dp.toNat - 1)).fm ≤ x.fm + b ∧ x.fm + b ≤ x.to + b ∧ x.to + b ≤ (nd D (x.dp.toNat - 1)).to := by omega
    have hl := r.len
    refine ⟨D.take (x.dp.toNat - 1) ++ [{ nd D (x.dp.toNat - 1) with fm := x.to + b }, shN b x], ?_, ?_⟩
    · unfold chkS
      rw [if_pos (show 1 ≤ (shN b x).dp ∧ (shN b x).dp ≤ (D.length : Int) from ⟨h1, by rw [hl]; exact h2⟩)]
      exact if_pos h5
    · cases h
      generalize x.dp.toNat - 1 = d at *
      have lt : (C.take d).length = d := by simp; omega
      have lD : (D.take d).length = d := by simp; omega
      have key : ∀ j, j < d + 2 → (j < d ∧ nd (C.take d ++ [{ nd C d with fm := x.to }, x]) j = nd C j ∧ nd (D.take d ++ [{ nd D d with fm := x.to + b }, shN b x]) j = nd D j) ∨
          (j = d ∧ nd (C.take d ++ [{ nd C d with fm := x.to }, x]) j = { nd C d with fm := x.to } ∧ nd (D.take d ++ [{ nd D d with fm := x.to + b }, shN b x]) j = { nd D d with fm := x.to + b }) ∨
          (j = d + 1 ∧ nd (C.take d ++ [{ nd C d with fm := x.to }, x]) j = x ∧ nd (D.take d ++ [{ nd D d with fm := x.to + b }, shN b x]) j = shN b x) := by
        intro j hjl
        rcases Nat.lt_trichotomy j d with hlt | rfl | hgt
        · exact .inl ⟨hlt, by rw [nd_app_l _ _ _ (by omega), nd_take _ _ _ hlt], by rw [nd_app_l _ _ _ (by omega), nd_take _ _ _ hlt]⟩
        · exact .inr (.inl ⟨rfl, by rw [nd_app_r _ _ _ (by omega), lt, Nat.sub_self, nd_zero], by rw [nd_app_r _ _ _ (by omega), lD, Nat.sub_self, nd_zero]⟩)
        · obtain rfl : j = d + 1 := by omega
          exact .inr (.inr ⟨rfl, by rw [nd_app_r _ _ _ (by omega), lt, show d + 1 - d = 1 by omega, nd_succ, nd_zero], by rw [nd_app_r _ _ _ (by omega), lD, show d + 1 - d = 1 by omega, nd_succ, nd_zero]⟩)
      have hlen : (C.take d ++ [{ nd C d with fm := x.to }, x]).length = d + 2 := by simp; omega
      refine ⟨by simp; omega, fun j hjl => ?_, fun j hjl => ?_, fun j hjl => ?_, fun j hjl => ?_⟩ <;> rw [hlen] at hjl
      all_goals rcases key j hjl with ⟨a, e1, e2⟩ | ⟨rfl, e1, e2⟩ | ⟨rfl, e1, e2⟩ <;> rw [e1] <;> try rw [e2]
      · exact r.fm j (by omega)
      · exact Int.le_refl _
      · exact Int.le_refl _
      · exact r.eq j (by omega)
      · simp only; omega
      · omega
      · exact r.fm2 j (by omega)
      · exact .inl rfl
      · exact .inl rfl
      · exact r.to j (by omega)
      · simp only; exact f2
      · rfl
  · cases h
theorem MovR.run {b : Int} (hb : 0 ≤ b) : ∀ (l C D C' : List Nd), MovR b C D → chkR C l = some C' → (chkR D (l.map (shN b))).isSome = true
  | [], C, D, C', r, h => rfl
  | x :: l, C, D, C', r, h => by
    unfold chkR at h
    split at h
    · rename_i C1 h1
      obtain ⟨D1, h2, r1⟩ := r.step hb h1
      simp only [List.map_cons, chkR, h2]
      exact MovR.run hb l C1 D1 C' r1 h
    · cases h
/-- A tree that is moved is a tree. -/
theorem mov_fit {b : Int} (hb : 0 ≤ b) {l : List Nd} (h : fitN l = true) (hm : (nd l 0).to + b ≤ 1048576) : fitN (movN b l) = true := by
  have t := Tr.of_fit h
  have hl := t.len
  unfold fitN at h ⊢
  simp only [Bool.and_eq_true, decide_eq_true_eq] at h
  cases l with
  | nil => simp at hl
  | cons x r =>
    obtain ⟨_, h2⟩ := h
    simp only [nd_zero] at h2 hm t
    unfold chk at h2
    simp only [Bool.and_eq_true, decide_eq_true_eq] at h2
    obtain ⟨⟨h3, h4⟩, h5, h6⟩ := h2
    obtain ⟨C', h6⟩ := Option.isSome_iff_exists.1 h6
    have hroot : x = rootN x.to := h5
    have hx : ({ x with to := x.to + b } : Nd) = rootN (x.to + b) := by rw [hroot]; rfl
    have hr : MovR b [x] [{ x with to := x.to + b }] := by
      have hf : x.fm = 0 := by rw [hroot]; rfl
      refine ⟨rfl, ?_, ?_, ?_, ?_⟩ <;> (intro j hj; have : j = 0 := by simpa using hj) <;> subst this <;> simp <;> omega
    have := MovR.run hb r _ _ C' hr h6
    simp only [movN, chk, nd_zero, Bool.and_eq_true, decide_eq_true_eq]
    exact ⟨by simp, ⟨⟨by omega, hm⟩, hx, this⟩⟩
theorem sumG_map {b d f : Int} {l : List Nd} : ∀ (n k : Nat) (h : Int), 0 < k → k + n ≤ l.length → sumG (movN b l) d (f + b) n k h = sumG l d f n k h := by
  intro n
  induction n with
  | zero => intro k h _ _; rfl
  | succ n ih =>
    intro k h hk hl
    unfold sumG
    have e : nd (movN b l) k = shN b (nd l k) := movN_pos b hk (by omega)
    have e1 : sum1 h (shN b (nd l k)) d (f + b) = sum1 h (nd l k) d f := by
      unfold sum1 shN
      simp only
      rw [show (nd l k).fm + b - (f + b) = (nd l k).fm - f by omega, show (nd l k).to + b - (f + b) = (nd l k).to - f by omega]
    rw [e, e1, ih _ _ (by omega) (by omega)]
    rfl
/-- Its sums are the same. -/
theorem sum_mov {b : Int} {l : List Nd} {i : Nat} (hi : 0 < i) (h : i < l.length) : sumN (movN b l) i = sumN l i := by
  unfold sumN sumF
  have e : nd (movN b l) i = shN b (nd l i) := movN_pos b hi h
  rw [e, movN_len]
  have e1 : sum1 sum0 (shN b (nd l i)) (shN b (nd l i)).dp (shN b (nd l i)).fm = sum1 sum0 (nd l i) (nd l i).dp (nd l i).fm := by
    unfold sum1 shN
    simp only
    rw [show (nd l i).fm + b - ((nd l i).fm + b) = (nd l i).fm - (nd l i).fm by omega, show (nd l i).to + b - ((nd l i).fm + b) = (nd l i).to - (nd l i).fm by omega]
  rw [e1]
  exact sumG_map _ _ _ (by omega) (by omega)
end Go.Dm
