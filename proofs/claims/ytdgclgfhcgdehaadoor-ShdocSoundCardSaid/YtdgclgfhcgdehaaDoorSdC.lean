/- Whose a state is, by the document. -/
import Derived.Test.YtdgclgfhcgdehaaDoorSdB
set_option linter.unusedVariables false
set_option linter.unusedSimpArgs false
namespace Go.Dm
open Go.Proofs
def bareK (s : ShS) (k : Nat) : ShS := { zS with mode := s.mode, mark := s.mark, wait := s.wait, docs := s.docs.take k ++ List.replicate (4 - k) zD }
theorem bareK_ok {s : ShS} (h : s.ok) {k : Nat} (hk : k ≤ 4) : (bareK s k).ok := ⟨rfl, by simp [bareK, h.docs]; omega⟩
theorem bareK_zero {s : ShS} : setAt ((((encS zS).set 65 (.int .u8 s.mode)).set 66 (.int .u8 s.mark))) 81 [.int .i64 s.wait] = encS (bareK s 0) := by
  rw [stm_mode zS_ok, stm_mark ⟨rfl, rfl⟩]
  show (encS _).set 81 _ = _
  rw [stm_wait ⟨rfl, rfl⟩]; rfl
theorem bareK_succ {s : ShS} (h : s.ok) {k : Nat} (hk : k < 4) : { bareK s k with docs := (bareK s k).docs.set k (docK s k) } = bareK s (k + 1) := by
  have hl : k < s.docs.length := by rw [h.docs]; exact hk
  have hd : docK s k = s.docs[k] := by simp [docK, List.getD, hl]
  have : (s.docs.take k ++ List.replicate (4 - k) zD).set k (docK s k) = s.docs.take (k + 1) ++ List.replicate (4 - (k + 1)) zD := by
    rw [List.take_succ_eq_append_getElem hl, ← hd, List.set_append_right _ _ (by simp [h.docs]; omega), show k - (s.docs.take k).length = 0 by simp [h.docs]; omega, show 4 - k = (4 - (k + 1)) + 1 by omega, List.replicate_succ]
    simp
  unfold bareK
  simp only [this]
theorem bareK_iff {s : ShS} (h : s.ok) {k : Nat} (hk : k ≤ 4) : (s = bareK s k) ↔ (s = bare s ∧ ∀ j, k ≤ j → j < 4 → docK s j = zD) := by
  have hdocs : (s.docs = s.docs.take k ++ List.replicate (4 - k) zD) ↔ (∀ j, k ≤ j → j < 4 → docK s j = zD) := by
    constructor
    · intro e j h1 h2
      have : docK s j = (s.docs.take k ++ List.replicate (4 - k) zD).getD j zD := by unfold docK; rw [← e]
      rw [this]
      simp only [List.getD, List.getElem?_append_right (show (s.docs.take k).length ≤ j by simp [h.docs]; omega), List.getElem?_replicate]
      split <;> rfl
    · intro hz
      apply List.ext_getElem (by simp [h.docs]; omega)
      intro j h1 h2
      rcases Nat.lt_or_ge j k with q | q
      · rw [List.getElem_append_left (by simp [h.docs]; omega)]; simp
      · rw [List.getElem_append_right (by simp [h.docs]; omega)]
        have := hz j q (by rw [h.docs] at h1; exact h1)
        simp [docK, List.getD, h1] at this
        rw [this]
        exact (List.getElem_replicate (by simp at h2 ⊢; omega)).symm
  constructor
  · intro e
    have e1 : s.docs = s.docs.take k ++ List.replicate (4 - k) zD := congrArg ShS.docs e
    refine ⟨?_, hdocs.1 e1⟩
    conv => lhs; rw [e]
    unfold bareK bare
    rw [← e1]
  · rintro ⟨e, hz⟩
    have e1 := hdocs.2 hz
    conv => lhs; rw [e]
    unfold bareK bare
    rw [← e1]
set_option maxRecDepth 100000 in
set_option maxHeartbeats 8000000 in
theorem RefOwn_sp (s : ShS) (hs : s.ok) (h : H) (h1 : h.one = []) :
    CallW E0 X0 (.fn 14) [.agg (encS s).toArray] h (fun r h' => r = .bool (ownN s) ∧ Fr h.next h h') := by
  refine CallW.body efn14 rfl rfl rfl [] (by kernel_rfl) ?_
  have z0 := fun k hk => le_of82 zS_ok (k := k) hk
  have z66 := z0 66 (by decide)
  have z67 := z0 67 (by decide)
  have z81 := z0 81 (by decide)
  have z82 := z0 82 (by decide)
  have l66 := le_of82 hs (k := 66) (by decide)
  have l67 := le_of82 hs (k := 67) (by decide)
  have l81 := le_of82 hs (k := 81) (by decide)
  have l82 := le_of82 hs (k := 82) (by decide)
  by_cases c2 : s.wait < 0
  · simp [Tryd.f14, h1, st_wait hs, c2, own_no2 (show ¬ (0 ≤ s.wait ∧ s.wait ≤ 4) by omega)]
    exact (Fr.refl h1).nw (Nat.le_refl _) _
  by_cases c3 : 4 < s.wait
  · simp [Tryd.f14, h1, st_wait hs, c2, c3, own_no2 (show ¬ (0 ≤ s.wait ∧ s.wait ≤ 4) by omega)]
    exact (Fr.refl h1).nw (Nat.le_refl _) _
  obtain ⟨w, hw⟩ : ∃ w : Nat, s.wait = w := ⟨s.wait.toNat, by omega⟩
  have hw4 : w ≤ 4 := by omega
  have hb := bareK_ok hs (k := 0) (by omega)
  have ble : (encS (bareK s 0)).length = 82 := encS_len hb
  have hov := st_over zS_ok hb
  have hbz := bareK_zero (s := s)
  simp only [setAt] at hbz
  simp [Tryd.f14, h1, zcells, st_mode hs, st_mark hs, st_wait hs, z66, z67, z81, z82, l66, l67, l81, l82, hbz, ble, hov, eq_true (st_cv (bareK s 0)), c2, c3]
  generalize hF : (T.set _ 4 _ : T Value) = F
  generalize hH : H.put (H.nw (H.nw h _) _) _ _ = h2
  have f2 : Fr h.next h h2 := by rw [← hH]; exact (((Fr.refl h1).nw (Nat.le_refl _) _).nw (by simp) _).put (by omega) _
  have n2 : h2.next = h.next + 2 := by rw [← hH]; simp
  have q0 : h2.get h.next = some (.cells (encS s) 0 true 0 none) := by rw [← hH]; simp
  have q1 : h2.get (h.next + 1) = some (.cells (encS (bareK s 0)) 0 true 0 none) := by rw [← hH]; simp
  have g1 : F.get 1 = some (.pointer (some ⟨h.next, 0, none⟩)) := by rw [← hF]; simp
  have g3 : F.get 3 = some (.pointer (some ⟨h.next + 1, 0, none⟩)) := by rw [← hF]; simp
  have g4 : F.get 4 = some (.int .i64 0) := by rw [← hF]; simp
  clear hF hH
  refine wpd_loop (fun (k : Nat) fr h3 => fr.get 4 = some (.int .i64 k) ∧ k ≤ w ∧ (∀ j, j < k → (docK s j).word.length ≤ 64) ∧ h3.one = [] ∧ h3.next = h2.next ∧ h3.get h.next = some (.cells (encS s) 0 true 0 none) ∧ h3.get (h.next + 1) = some (.cells (encS (bareK s k)) 0 true 0 none) ∧ Fr h.next h h3) (fun k => 4 - k) 0 ⟨g4, by omega, fun j hj => by omega, f2.one, rfl, q0, q1, f2⟩ ?_
  rintro k fr h3 ⟨j4, hkw, hgd, o3, n3, p0, p1, f3⟩ hfe
  have j1 := hfe 1 rfl
  have j3 := hfe 3 rfl
  simp only [g1, g3] at j1 j3
  by_cases hk : k < w
  · have hk' : (k : Int) < w := by omega
    have hk4 : k < 4 := by omega
    have hk4' : (k : Int) < 4 := by omega
    have hbk := bareK_ok hs (k := k) (by omega)
    have m1 : 69 + k * 3 < (encS s).length := by rw [encS_len hs]; omega
    have m2 : 69 + k * 3 + 3 ≤ (encS s).length := by rw [encS_len hs]; omega
    have m3 : 69 + k * 3 + 3 ≤ (encS (bareK s k)).length := by rw [encS_len hbk]; omega
    have w0 : IntKind.i64.wrap ((k : Int) + 1) = ((k + 1 : Nat) : Int) := wrap_succ (by omega)
    have hsd := stm_doc hbk hk4 (docK s k)
    rw [bareK_succ hs hk4] at hsd
    have hsw := st_word hs hk4
    have hsdo := st_doc hs hk4
    have hed : encD (docK s k) = [str (docK s k).word, .bool (docK s k).strip, .bool (docK s k).raw] := rfl
    have hdl : (encD (docK s k)).length = 3 := rfl
    have hdc : ∀ x ∈ encD (docK s k), cellV x = true := by rw [hed]; simp [str_cell]
    by_cases d3 : (docK s k).word.length ≤ 64
    · have d3' : ¬ (64 : Int) < (docK s k).word.length := by omega
      simp [j4, j1, j3, hw, hk', hk, hk4, hk4', o3, p0, p1, st_wait hs, hsw, hsdo, m2, m3, d3, d3', w0, hdl, eq_true hdc, hsd]
      refine ⟨k + 1, by omega, by simp, by omega, fun j hj => ?_, n3, rfl, f3.put (by omega) _⟩
      by_cases e : j = k
      · rw [e]; exact d3
      · exact hgd j (by omega)
    · have d3' : (64 : Int) < (docK s k).word.length := by omega
      have hbad : docGood s k = false := by unfold docGood; rw [decide_eq_false d3, Bool.and_false]
      simp [j4, j1, j3, hw, hk', hk, hk4, hk4', o3, p0, st_wait hs, hsw, d3, d3', own_no3 hk4 hbad]
      exact f3
  · have hk' : ¬ (k : Int) < w := by omega
    obtain rfl : k = w := by omega
    have hbk := bareK_ok hs (k := k) (by omega)
    have hbi := bareK_iff hs (k := k) (by omega)
    have heq := eq_st hs hbk
    have b82 := le_of82 hbk (k := 82) (by decide)
    have ball := st_all hbk
    by_cases e1 : s = bareK s k
    · obtain ⟨e2, e3⟩ := hbi.1 e1
      have hy := own_yes e2 ⟨by omega, by omega⟩ (fun j hj => by
        unfold docGood
        rcases Nat.lt_or_ge j k with q | q
        · rw [decide_eq_true (show (j : Int) < s.wait by omega), decide_eq_true (hgd j q)]; rfl
        · rw [decide_eq_true (e3 j q hj), e3 j q hj]; simp [zD])
      rw [hy]
      unfold modeOk
      have a39 : ((s.mark : Int) = 39) = (s.mark = 39) := by rw [eq_iff_iff]; omega
      have a34 : ((s.mark : Int) = 34) = (s.mark = 34) := by rw [eq_iff_iff]; omega
      have a0 : ((s.mark : Int) = 0) = (s.mark = 0) := by rw [eq_iff_iff]; omega
      have b1 : ((s.mode : Int) = 1) = (s.mode = 1) := by rw [eq_iff_iff]; omega
      have b2 : ((s.mode : Int) = 2) = (s.mode = 2) := by rw [eq_iff_iff]; omega
      have b0 : ((s.mode : Int) = 0) = (s.mode = 0) := by rw [eq_iff_iff]; omega
      have k0 : ((k : Int) = 0) = (k = 0) := by rw [eq_iff_iff]; omega
      have k1 : ((0 : Int) < k) = (0 < k) := by rw [eq_iff_iff]; omega
      by_cases m0 : s.mode = 0
      · by_cases c0 : s.mark = 0
        · simp [j4, j1, j3, hw, hk', hk, o3, p0, p1, st_wait hs, st_mode hs, st_mark hs, st_all hs, l82, b82, ball, heq, eq_true e1, -eqD_succ, m0, c0, k0]
          exact f3
        · simp [j4, j1, j3, hw, hk', hk, o3, p0, p1, st_wait hs, st_mode hs, st_mark hs, st_all hs, l82, b82, ball, heq, eq_true e1, -eqD_succ, m0, c0, a0]
          exact f3
      · by_cases m1 : s.mode = 1
        · by_cases c0 : s.mark = 0
          · simp [j4, j1, j3, hw, hk', hk, o3, p0, p1, st_wait hs, st_mode hs, st_mark hs, st_all hs, l82, b82, ball, heq, eq_true e1, -eqD_succ, m0, m1, c0]
            exact f3
          · by_cases c1 : s.mark = 39
            · simp [j4, j1, j3, hw, hk', hk, o3, p0, p1, st_wait hs, st_mode hs, st_mark hs, st_all hs, l82, b82, ball, heq, eq_true e1, -eqD_succ, m0, m1, c0, c1]
              exact f3
            · by_cases c2 : s.mark = 34
              · simp [j4, j1, j3, hw, hk', hk, o3, p0, p1, st_wait hs, st_mode hs, st_mark hs, st_all hs, l82, b82, ball, heq, eq_true e1, -eqD_succ, m0, m1, c0, c1, c2]
                exact f3
              · simp [j4, j1, j3, hw, hk', hk, o3, p0, p1, st_wait hs, st_mode hs, st_mark hs, st_all hs, l82, b82, ball, heq, eq_true e1, -eqD_succ, m0, m1, c0, c1, c2, a0, a34, a39]
                exact f3
        · by_cases m2 : s.mode = 2
          · by_cases c0 : s.mark = 0
            · simp [j4, j1, j3, hw, hk', hk, o3, p0, p1, st_wait hs, st_mode hs, st_mark hs, st_all hs, l82, b82, ball, heq, eq_true e1, -eqD_succ, m0, m1, m2, c0, k1]
              exact f3
            · simp [j4, j1, j3, hw, hk', hk, o3, p0, p1, st_wait hs, st_mode hs, st_mark hs, st_all hs, l82, b82, ball, heq, eq_true e1, -eqD_succ, m0, m1, m2, c0, a0]
              exact f3
          · simp [j4, j1, j3, hw, hk', hk, o3, p0, p1, st_wait hs, st_mode hs, st_mark hs, st_all hs, l82, b82, ball, heq, eq_true e1, -eqD_succ, m0, m1, m2, b0, b1, b2]
            exact f3
    · have hno : ownN s = false := by
        by_cases e2 : s = bare s
        · have : ¬ ∀ j, k ≤ j → j < 4 → docK s j = zD := fun q => e1 (hbi.2 ⟨e2, q⟩)
          simp only [Classical.not_forall] at this
          obtain ⟨j, a1, a2, a3⟩ := this
          refine own_no3 (k := j) a2 ?_
          unfold docGood
          rw [decide_eq_false (show ¬ (j : Int) < s.wait by omega), decide_eq_false a3]
          rfl
        · exact own_no1 e2
      simp [j4, j1, j3, hw, hk', hk, o3, p0, p1, st_wait hs, st_all hs, l82, b82, ball, heq, e1, hno, -eqD_succ]
      exact f3
end Go.Dm
