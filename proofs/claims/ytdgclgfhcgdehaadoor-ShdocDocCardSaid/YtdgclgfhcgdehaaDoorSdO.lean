/- What a line tells that asks for a document by a word of letters; what the document's lines tell. -/
import Derived.Test.YtdgclgfhcgdehaaDoorSdN
import Derived.Test.YtdgclgfhcgdehaaDoorShV
set_option linter.unusedVariables false
set_option linter.unusedSimpArgs false
namespace Go.Dm
def letN (c : UInt8) : Bool := decide (97 ≤ c.toNat) && decide (c.toNat ≤ 122)
theorem ops_nolet : (opsL.all fun o => match o with | c :: _ => !letN c | [] => false) = true := by decide +kernel
theorem opN_let {c : UInt8} {r : List UInt8} (h : letN c = true) : opN (c :: r) = 0 := by
  unfold opN
  have : opsL.find? (·.isPrefixOf (c :: r)) = none := by
    rw [List.find?_eq_none]
    intro o ho hp
    have := List.all_eq_true.1 ops_nolet o ho
    rw [List.isPrefixOf_iff_prefix] at hp
    obtain ⟨t, e⟩ := hp
    match o, this, e with
    | d :: o, this, e =>
      cases e
      simp [h] at this
  rw [this]
theorem let_facts {s : List UInt8} {lf : Bool} {k : Nat} (hk : k < s.length) (h : letN (bt s k) = true) : stopAt s lf k = false ∧ isBl (bt s k) = false ∧ opAt s k = 0 ∧ joinAt s lf k = false ∧ (bt s k).toNat ≠ 39 ∧ (bt s k).toNat ≠ 34 ∧ (bt s k).toNat ≠ 92 ∧ (bt s k).toNat ≠ 35 := by
  have ho : opAt s k = 0 := by
    rw [opAt_in (by omega) (by omega)]
    show opN (s.drop k) = 0
    rw [drop_bt hk]
    exact opN_let h
  simp only [letN, Bool.and_eq_true, decide_eq_true_eq] at h
  have hb : isBl (bt s k) = false := by simp [isBl]; omega
  have hj : joinAt s lf k = false := by simp [joinAt]; omega
  refine ⟨?_, hb, ho, hj, by omega, by omega, by omega, by omega⟩
  unfold stopAt
  rw [hb, hj, ho]
  simp; omega
theorem wrun_let {s : List UInt8} {lf : Bool} {k : Nat} {w : List UInt8} (hlen : k + w.length ≤ s.length) (hw : ∀ i (h : i < w.length), bt s (k + i) = w[i] ∧ letN w[i] = true) (hst : stopAt s lf (k + w.length) = true) :
    wrun s lf ⟨k, 0, [], false⟩ = ⟨k + w.length, 0, w, false⟩ := by
  have key : ∀ d, d ≤ w.length → wrun s lf ⟨k, 0, [], false⟩ = wrun s lf ⟨k + d, 0, w.take d, false⟩ := by
    intro d
    induction d with
    | zero => intro _; simp
    | succ d ih =>
      intro hd
      rw [ih (by omega)]
      obtain ⟨h1, h2⟩ := hw d (by omega)
      rw [← h1] at h2
      obtain ⟨f1, f2, f3, f4, f5, f6, f7, f8⟩ := let_facts (lf := lf) (show k + d < s.length by omega) h2
      refine wrun_some ?_
      unfold wstep
      rw [if_neg (by simp only; omega), if_neg (by simp), if_neg (by simp), if_neg (by simp only; rw [f1]; decide), if_neg (by simpa using f5), if_neg (by simpa using f6), if_neg (by simpa using f7)]
      simp only [Option.some.injEq, WS.mk.injEq, and_true, true_and]
      exact ⟨by omega, by rw [h1, List.take_succ_eq_append_getElem (by omega)]⟩
  rw [key w.length (Nat.le_refl _), List.take_of_length_le (Nat.le_refl _)]
  refine wrun_none ?_
  unfold wstep
  by_cases hl : s.length ≤ k + w.length
  · rw [if_pos (by simpa using hl)]
  · rw [if_neg (by simpa using hl), if_neg (by simp), if_neg (by simp), if_pos (by simpa using hst)]
theorem rstep_let {s : List UInt8} {lf : Bool} {k : Nat} {w : List UInt8} (h0 : 0 < w.length) (hlen : k + w.length ≤ s.length) (hw : ∀ i (h : i < w.length), bt s (k + i) = w[i] ∧ letN w[i] = true) (hst : stopAt s lf (k + w.length) = true) (mark : Nat) :
    rstep s lf k mark = some ([⟨51, k, k + w.length, w, false, true⟩], k + w.length, 0) := by
  obtain ⟨h1, h2⟩ := hw 0 h0
  rw [← h1] at h2
  obtain ⟨f1, f2, f3, f4, f5, f6, f7, f8⟩ := let_facts (lf := lf) (show k + 0 < s.length by omega) h2
  simp only [Nat.add_zero] at f1 f2 f3 f4 f8
  have hp : wpiece s lf k 0 = (⟨51, k, k + w.length, w, false, true⟩, 0, k + w.length) := by
    unfold wpiece
    have := wrun_let hlen hw hst
    simp [this]
  unfold rstep
  rw [if_neg (by omega), if_neg (by rw [f2]; decide), if_neg f8, if_neg (by simpa using f3), if_neg (by rw [f4]; decide), hp]
theorem rstep_blank {s : List UInt8} {lf : Bool} {k mark : Nat} (hk : k < s.length) (hb : bt s k = 32) : rstep s lf k mark = some ([], k + 1, mark) := by
  unfold rstep
  rw [if_neg (by omega), if_pos (by rw [hb]; decide)]
theorem rstep_op {s : List UInt8} {lf : Bool} {k mark n : Nat} (hk : k < s.length) (hb : bt s k = 60) (ho : opAt s k = n + 1) : rstep s lf k mark = some ([⟨52, k, k + (n + 1), [], false, false⟩], k + (n + 1), mark) := by
  unfold rstep
  rw [if_neg (by omega), if_neg (by rw [hb]; decide), if_neg (by rw [hb]; decide), if_pos (by omega), ho]
def askO (strip : Bool) : List UInt8 := if strip then [60, 60, 45] else [60, 60]
def askL (strip : Bool) (w : List UInt8) : List UInt8 := [99, 97, 116, 32] ++ askO strip ++ [32] ++ w
theorem bt_w {a b : List UInt8} {i k : Nat} (h : k = a.length + i) : bt (a ++ b) k = bt b i := bt_r h
theorem read_ask (strip : Bool) {w : List UInt8} (h0 : 0 < w.length) (hw : w.all letN = true) : rdAt (askL strip w ++ [10]) 0 0 =
    ([⟨51, 0, 3, [99, 97, 116], false, true⟩, ⟨52, 4, 4 + (askO strip).length, [], false, false⟩, ⟨51, 5 + (askO strip).length, 5 + (askO strip).length + w.length, w, false, true⟩], 0) := by
  rw [rd_lf]
  have hl : (askL strip w).length = 5 + (askO strip).length + w.length := by simp [askL]; omega
  have hn : 2 ≤ (askO strip).length := by cases strip <;> decide
  have hwk : ∀ i (h : i < w.length), bt (askL strip w) (5 + (askO strip).length + i) = w[i] ∧ letN w[i] = true := fun i h => by
    refine ⟨?_, List.all_eq_true.1 hw _ (List.getElem_mem h)⟩
    unfold askL
    rw [bt_w (i := i) (by simp; omega), bt_at h]
  have hcat : ∀ i (h : i < ([99, 97, 116] : List UInt8).length), bt (askL strip w) (0 + i) = ([99, 97, 116] : List UInt8)[i] ∧ letN ([99, 97, 116] : List UInt8)[i] = true := fun i h => by
    match i, h with
    | 0, _ => exact ⟨rfl, rfl⟩
    | 1, _ => exact ⟨rfl, rfl⟩
    | 2, _ => exact ⟨rfl, rfl⟩
  have b3 : bt (askL strip w) 3 = 32 := rfl
  have b4 : bt (askL strip w) 4 = 60 := by cases strip <;> rfl
  have b5 : bt (askL strip w) (4 + (askO strip).length) = 32 := by cases strip <;> rfl
  have ho : opAt (askL strip w) 4 = (askO strip).length := by
    rw [show ((4 : Int) = ((4 : Nat) : Int)) from rfl, opAt_in (by omega) (by omega)]
    cases strip with
    | false => show opN ([60, 60, 32] ++ w) = 2; simp [opN, opsL, List.find?, List.isPrefixOf]
    | true => show opN ([60, 60, 45, 32] ++ w) = 3; simp [opN, opsL, List.find?, List.isPrefixOf]
  have st3 : stopAt (askL strip w) true (0 + ([99, 97, 116] : List UInt8).length) = true := by
    show stopAt _ _ 3 = true
    unfold stopAt; rw [b3]; simp [isBl]
  have stw : stopAt (askL strip w) true (5 + (askO strip).length + w.length) = true := by unfold stopAt; simp; omega
  obtain ⟨n, hn2⟩ : ∃ n, (askO strip).length = n + 1 := ⟨(askO strip).length - 1, by omega⟩
  unfold readM
  rw [if_neg (by omega)]
  have s1 := rstep_let (lf := true) (mark := 0) (by decide) (by simp; omega) hcat st3
  rw [rrun_some s1]
  have s2 := rstep_blank (lf := true) (mark := 0) (show 3 < (askL strip w).length by omega) b3
  have e3 : (0 + ([99, 97, 116] : List UInt8).length : Nat) = 3 := rfl
  rw [e3]
  simp only
  rw [rrun_some s2]
  have s3 := rstep_op (lf := true) (mark := 0) (n := n) (show 4 < (askL strip w).length by omega) b4 (by rw [← hn2]; exact ho)
  simp only
  rw [rrun_some s3]
  have s4 := rstep_blank (lf := true) (mark := 0) (show 4 + (askO strip).length < (askL strip w).length by omega) b5
  rw [hn2] at s4
  simp only
  rw [rrun_some s4]
  have s5 := rstep_let (lf := true) (mark := 0) h0 (by omega) hwk stw
  have e5 : 4 + (n + 1) + 1 = 5 + (askO strip).length := by omega
  simp only
  rw [e5, rrun_some s5]
  simp only
  rw [rrun_none]
  · simp [hn2]
  · unfold rstep; rw [if_pos (by omega)]
def askS (strip : Bool) (w : List UInt8) : ShS := { zS with mode := 2, wait := 1, docs := [⟨w, strip, false⟩, zD, zD, zD] }
theorem askS_ok (strip : Bool) (w : List UInt8) : (askS strip w).ok := ⟨rfl, rfl⟩
theorem askS_own (strip : Bool) {w : List UInt8} (h : w.length ≤ 64) : ownN (askS strip w) = true := by
  have d0 : docK (askS strip w) 0 = ⟨w, strip, false⟩ := rfl
  have d1 : docK (askS strip w) 1 = zD := rfl
  have d2 : docK (askS strip w) 2 = zD := rfl
  have d3 : docK (askS strip w) 3 = zD := rfl
  unfold ownN
  have e : ∀ f : Nat → Bool, (List.range 4).all f = (f 0 && (f 1 && (f 2 && (f 3 && true)))) := fun f => rfl
  rw [e, d0, d1, d2, d3]
  simp [askS, zS, zD, h]
theorem let_no10 {w : List UInt8} (hw : w.all letN = true) : w.contains 10 = false := by
  cases h : w.contains 10 with
  | false => rfl
  | true =>
    have := List.all_eq_true.1 hw 10 (List.contains_iff_mem.1 h)
    exact absurd this (by decide)
theorem scan_ask (strip : Bool) {w : List UInt8} (h0 : 0 < w.length) (h1 : w.length ≤ 64) (hw : w.all letN = true) : ∃ ev : List ShE, ev.length = 6 ∧ scanN zS (askL strip w ++ [10]) = (ev, askS strip w) := by
  have hr := read_ask strip h0 hw
  have hb : base zS = zS := rfl
  have hp : scanN zS (askL strip w ++ [10]) = piecesN zS (askL strip w ++ [10]) := by
    unfold scanN
    rw [if_neg (by simp), hb, if_neg (by decide)]
  have m0 : zS.mark = 0 := rfl
  generalize hL : askL strip w ++ [10] = line at hr hp
  rw [hp]
  unfold piecesN
  rw [m0, hr]
  have hop : opT line ⟨52, 4, 4 + (askO strip).length, [], false, false⟩ = askO strip := by
    rw [← hL]; cases strip <;> rfl
  have hd : docOk ⟨51, 5 + (askO strip).length, 5 + (askO strip).length + w.length, w, false, true⟩ zS = true := by
    unfold docOk
    simp only [let_no10 hw]
    simp [zS, h1]
  have hk : kindN line ⟨52, 4, 4 + (askO strip).length, [], false, false⟩ [⟨51, 5 + (askO strip).length, 5 + (askO strip).length + w.length, w, false, true⟩] zS = (52, { zS with docs := [⟨w, strip, false⟩, zD, zD, zD], wait := 1 }) := by
    have hpre : [60, 60].isPrefixOf (askO strip) = true := by cases strip <;> decide
    unfold kindN isAsk
    rw [hop, hpre]
    simp only [asksN, hd]
    cases strip <;> simp [putDoc, zS, askO, zD, List.replicate]
  have hk1 : kindN line ⟨51, 0, 3, [99, 97, 116], false, true⟩ [⟨52, 4, 4 + (askO strip).length, [], false, false⟩, ⟨51, 5 + (askO strip).length, 5 + (askO strip).length + w.length, w, false, true⟩] zS = (51, zS) := by unfold kindN isAsk; simp
  have hk2 : ∀ s : ShS, kindN line ⟨51, 5 + (askO strip).length, 5 + (askO strip).length + w.length, w, false, true⟩ [] s = (51, s) := fun s => by unfold kindN isAsk; simp
  simp only [prun, pstep, hk1, hk, hk2]
  have e1 : decide (zS.mode = 1) = false := by decide
  rw [e1]
  refine ⟨[⟨1, 50, 0, 0⟩, ⟨3, 51, 0, 3⟩, ⟨3, 52, 4, 4 + (askO strip).length⟩, ⟨3, 51, 5 + (askO strip).length, 5 + (askO strip).length + w.length⟩, ⟨2, 0, 5 + (askO strip).length + w.length, 0⟩, ⟨1, 55, line.length, 0⟩], rfl, ?_⟩
  simp [docEv, docSt, askS]
  rfl
/-- The document's lines. -/
theorem ctn_lf10 (l : List UInt8) : ctn (l ++ [10]) = l := by
  unfold ctn; rw [ctnN_lf]; simp
def fromN (strip : Bool) (l : List UInt8) : Nat := if strip then tabsN l else 0
theorem scan_line (strip : Bool) {w : List UInt8} (h1 : w.length ≤ 64) (l : List UInt8) : scanN (askS strip w) (l ++ [10]) =
    if l.drop (fromN strip l) = w then ([⟨3, 57, fromN strip l, l.length⟩, ⟨2, 0, l.length + 1, 0⟩], zS) else ([⟨3, 56, 0, l.length + 1⟩], askS strip w) := by
  have hb : base (askS strip w) = askS strip w := by unfold base; rw [if_pos (askS_own strip h1)]
  unfold scanN
  rw [if_neg (by simp), hb, if_pos (by rfl)]
  have d0 : docK (askS strip w) 0 = ⟨w, strip, false⟩ := rfl
  unfold textN
  rw [d0, ctn_lf10, ctnN_lf]
  have hf : (if strip = true then tabsN l else 0) = fromN strip l := rfl
  simp only [hf]
  by_cases hq : l.drop (fromN strip l) = w
  · rw [if_pos hq, if_neg (by simp [hq])]
    have hw : (askS strip w).wait = 1 := rfl
    rw [hw]
    simp
    rfl
  · rw [if_neg hq, if_pos hq]
    simp
theorem end_ask (strip : Bool) {w : List UInt8} (h1 : w.length ≤ 64) : (endN (askS strip w)).length = 2 := by
  unfold endN
  rw [if_neg (by rw [askS_own strip h1]; simp [askS])]
  simp [askS]
end Go.Dm
