/- The shell's words, plainly: a text in single quotes, with blanks around, is one word. -/
import Derived.Test.YtdgclgfhcgdehaaDoorShR
set_option linter.unusedVariables false
set_option linter.unusedSimpArgs false
namespace Go.Dm
theorem rrun_blanks {s : List UInt8} {lf : Bool} (e : Nat) (he : e ≤ s.length) : ∀ (d k : Nat) (mark : Nat) (acc : List Pc), k + d = e → (∀ i, k ≤ i → i < e → isBl (bt s i) = true) → rrun s lf k mark acc = rrun s lf e mark acc := by
  intro d
  induction d with
  | zero => intro k mark acc hk _; rw [← hk]; rfl
  | succ d ih =>
    intro k mark acc hk hb
    have hs : rstep s lf k mark = some ([], k + 1, mark) := by
      unfold rstep
      rw [if_neg (by omega), if_pos (hb k (by omega) (by omega))]
    rw [rrun_some hs]
    simp only [List.append_nil]
    exact ih (k + 1) mark acc (by omega) (fun i h1 h2 => hb i (by omega) h2)
theorem opN_quote (r : List UInt8) : opN (39 :: r) = 0 := by
  simp [opN, opsL, List.find?, List.isPrefixOf]
theorem drop_bt {s : List UInt8} {k : Nat} (hk : k < s.length) : s.drop k = bt s k :: s.drop (k + 1) := by
  rw [List.drop_eq_getElem_cons hk]
  congr 1
  unfold bt
  rw [List.getD_eq_getElem?_getD, List.getElem?_eq_getElem hk]
  rfl
theorem opAt_quote {s : List UInt8} {k : Nat} (hk : k < s.length) (hb : bt s k = 39) : opAt s k = 0 := by
  rw [opAt_in (by omega) (by omega)]
  show opN (s.drop k) = 0
  rw [drop_bt hk, hb]
  exact opN_quote _
theorem read_quoted (s text : List UInt8) (lf : Bool) (a : Nat) (hlen : a + text.length + 2 ≤ s.length) (h1 : ∀ i, i < a → isBl (bt s i) = true) (h2 : bt s a = 39) (h3 : ∀ (i : Nat) (hi : i < text.length), bt s (a + 1 + i) = text[i]) (h3' : ∀ (i : Nat) (hi : i < text.length), text[i] ≠ 39)
    (h4 : bt s (a + 1 + text.length) = 39) (h5 : ∀ i, a + text.length + 2 ≤ i → i < s.length → isBl (bt s i) = true) : readM s lf 0 0 = ([⟨51, a, a + text.length + 2, text, true, true⟩], 0) := by
  have t39 : (39 : UInt8).toNat = 39 := by decide
  have ho := opAt_quote (s := s) (k := a) (by omega) h2
  have hbl : isBl (bt s a) = false := by rw [h2]; decide
  have hj : joinAt s lf a = false := by unfold joinAt; rw [h2]; simp
  have w1 : wstep s lf ⟨a, 0, [], decide ((0 : Nat) ≠ 0)⟩ = some ⟨a + 1, 39, [], true⟩ := by
    have hst : stopAt s lf a = false := by
      unfold stopAt
      rw [hbl, hj, ho]
      simp; omega
    unfold wstep
    rw [if_neg (by simp only; omega), if_neg (by simp), if_neg (by simp), if_neg (by simp only; rw [hst]; decide), if_pos (by simp only; rw [h2]; decide)]
  have w2 : ∀ d, d ≤ text.length → wrun s lf ⟨a + 1, 39, [], true⟩ = wrun s lf ⟨a + 1 + d, 39, text.take d, true⟩ := by
    intro d
    induction d with
    | zero => intro _; simp
    | succ d ih =>
      intro hd
      rw [ih (by omega)]
      have hb := h3 d (by omega)
      have hne := h3' d (by omega)
      have hw : wstep s lf ⟨a + 1 + d, 39, text.take d, true⟩ = some ⟨a + 1 + (d + 1), 39, text.take (d + 1), true⟩ := by
        unfold wstep
        rw [if_neg (by simp only; omega), if_pos (by simp), if_neg (by simp only; rw [hb]; intro e; exact hne (UInt8.toNat_inj.1 (e.trans t39.symm)))]
        simp only [hb, Option.some.injEq, WS.mk.injEq, and_true, true_and]
        refine ⟨by omega, ?_⟩
        rw [List.take_succ_eq_append_getElem (by omega)]
      exact wrun_some hw
  have w3 : wrun s lf ⟨a + 1 + text.length, 39, text, true⟩ = ⟨a + text.length + 2, 0, text, true⟩ := by
    have hw : wstep s lf ⟨a + 1 + text.length, 39, text, true⟩ = some ⟨a + text.length + 2, 0, text, true⟩ := by
      unfold wstep
      rw [if_neg (by simp only; omega), if_pos (by simp), if_pos (by simp only; rw [h4]; decide)]
      simp only [Option.some.injEq, WS.mk.injEq, and_true, true_and]
      omega
    rw [wrun_some hw]
    refine wrun_none ?_
    rcases Nat.lt_or_ge (a + text.length + 2) s.length with hlt | hge
    · have hst : stopAt s lf (a + text.length + 2) = true := by
        unfold stopAt
        rw [h5 _ (Nat.le_refl _) hlt]
        simp
      unfold wstep
      rw [if_neg (by simp only; omega), if_neg (by simp), if_neg (by simp), if_pos hst]
    · unfold wstep
      rw [if_pos hge]
  have w4 : wpiece s lf a 0 = (⟨51, a, a + text.length + 2, text, true, true⟩, 0, a + text.length + 2) := by
    have hw := w2 text.length (Nat.le_refl _)
    rw [List.take_length, w3] at hw
    unfold wpiece
    rw [wrun_some w1, hw]
    simp
  unfold readM
  rw [if_neg (by decide), rrun_blanks a (by omega) a 0 0 [] (by omega) (fun i _ h => h1 i h)]
  have hs : rstep s lf a 0 = some ([⟨51, a, a + text.length + 2, text, true, true⟩], a + text.length + 2, 0) := by
    unfold rstep
    rw [if_neg (by omega), if_neg (by rw [hbl]; decide), if_neg (by rw [h2]; decide), if_neg (by rw [ho]; decide), if_neg (by rw [hj]; decide), w4]
  rw [rrun_some hs]
  simp only [List.nil_append]
  rw [rrun_blanks s.length (Nat.le_refl _) (s.length - (a + text.length + 2)) _ 0 _ (by omega) (fun i h6 h7 => h5 i h6 h7)]
  refine rrun_none ?_ _
  unfold rstep
  rw [if_pos (Nat.le_refl _)]
theorem ctnN_lf (s : List UInt8) : ctnN (s ++ [10]) = s.length := by
  have e : bt (s ++ [10]) ((s ++ [10]).length - 1) = 10 := by simp [bt]
  unfold ctnN
  rw [e, if_pos ⟨by simp, by decide⟩]
  simp
theorem rd_lf (s : List UInt8) : rdAt (s ++ [10]) 0 0 = readM s true 0 0 := by
  have hn := ctnN_lf s
  have h1 : ctn (s ++ [10]) = s := by unfold ctn; rw [hn]; simp
  have h2 : lfOf (s ++ [10]) = true := by unfold lfOf; rw [hn]; simp
  unfold rdAt
  rw [h1, h2, if_neg (by omega)]
  rfl
theorem bt_l {a b : List UInt8} {i : Nat} (h : i < a.length) : bt (a ++ b) i = bt a i := by
  unfold bt
  simp [List.getD_eq_getElem?_getD, List.getElem?_append_left h]
theorem bt_r {a b : List UInt8} {i j : Nat} (h : i = a.length + j) : bt (a ++ b) i = bt b j := by
  unfold bt
  rw [List.getD_eq_getElem?_getD, List.getD_eq_getElem?_getD, List.getElem?_append_right (by omega), show i - a.length = j by omega]
theorem bt_rep {n i : Nat} {c : UInt8} (h : i < n) : bt (List.replicate n c) i = c := by
  unfold bt
  rw [List.getD_eq_getElem?_getD, List.getElem?_replicate, if_pos h]
  rfl
theorem bt_at {l : List UInt8} {i : Nat} (h : i < l.length) : bt l i = l[i] := by
  unfold bt
  rw [List.getD_eq_getElem?_getD, List.getElem?_eq_getElem h]
  rfl
theorem rd_quoted (text : List UInt8) (A B : Nat) (hno : ∀ (j : Nat), j < text.length → bt text j ≠ 39) :
    rdAt (List.replicate A 32 ++ ([39] ++ (text ++ ([39] ++ List.replicate B 9))) ++ [10]) 0 0 = ([⟨51, A, A + text.length + 2, text, true, true⟩], 0) := by
  rw [rd_lf]
  have hl : (List.replicate A (32 : UInt8) ++ ([39] ++ (text ++ ([39] ++ List.replicate B 9)))).length = A + text.length + 2 + B := by simp; omega
  have ha : (List.replicate A (32 : UInt8)).length = A := by simp
  refine read_quoted _ text true A (by omega) ?_ ?_ ?_ ?_ ?_ ?_
  · intro i hi
    rw [bt_l (by omega), bt_rep hi]
    decide
  · rw [bt_r (j := 0) (by omega)]
    rfl
  · intro i hi
    rw [bt_r (j := 1 + i) (by omega), bt_r (j := i) (by simp), bt_l hi, bt_at hi]
  · intro i hi
    have := hno i hi
    rwa [bt_at hi] at this
  · rw [bt_r (j := 1 + text.length) (by omega), bt_r (j := text.length) (by simp), bt_r (j := 0) (by omega)]
    rfl
  · intro i h1 h2
    rw [bt_r (j := i - A) (by omega), bt_r (j := i - A - 1) (by simp; omega), bt_r (j := i - A - 1 - text.length) (by omega), bt_r (j := i - A - 1 - text.length - 1) (by simp; omega), bt_rep (by omega)]
    decide
end Go.Dm
