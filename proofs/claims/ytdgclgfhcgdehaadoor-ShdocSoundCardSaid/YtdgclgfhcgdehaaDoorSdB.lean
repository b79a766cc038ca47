/- Whose a state is. -/
import Derived.Test.YtdgclgfhcgdehaaDoorSdA
set_option linter.unusedVariables false
set_option linter.unusedSimpArgs false
namespace Go.Dm
open Go.Proofs
def bare (s : ShS) : ShS := { zS with mode := s.mode, mark := s.mark, wait := s.wait, docs := s.docs }
theorem bare_ok {s : ShS} (h : s.ok) : (bare s).ok := ⟨rfl, h.docs⟩
theorem bare_eq {s : ShS} (h : s.ok) : setAt (((((encS zS).set 65 (.int .u8 s.mode)).set 66 (.int .u8 s.mark)).set 81 (.int .i64 s.wait))) 69 (encDs s.docs) = encS (bare s) := by
  rw [stm_mode zS_ok, stm_mark ⟨rfl, rfl⟩, stm_wait ⟨rfl, rfl⟩, stm_docs ⟨rfl, rfl⟩ _ h.docs]; rfl
theorem own_A {s : ShS} : (s.stk = List.replicate 16 zF ∧ s.dep = 0 ∧ s.flags = 0 ∧ s.cnt = 0) ↔ s = bare s := by
  obtain ⟨xk, xd, xm, xa, xf, xc, xo, xw⟩ := s
  constructor
  · rintro ⟨h1, h2, h3, h4⟩
    simp only at h1 h2 h3 h4
    subst h1 h2 h3 h4
    rfl
  · intro h
    simp only [bare, zS, ShS.mk.injEq] at h
    exact ⟨h.1, h.2.1, h.2.2.2.2.1, h.2.2.2.2.2.1⟩
def docGood (s : ShS) (i : Nat) : Bool := (decide ((i : Int) < s.wait) || decide (docK s i = zD)) && decide ((docK s i).word.length ≤ 64)
def modeOk (s : ShS) : Bool := if s.mode = 0 then decide (s.mark = 0 ∧ s.wait = 0) else if s.mode = 1 then decide (s.mark = 0 ∨ s.mark = 39 ∨ s.mark = 34) else decide (s.mode = 2 ∧ s.mark = 0 ∧ 0 < s.wait)
theorem own_eq (s : ShS) : ownN s = (decide (s = bare s) && (decide (0 ≤ s.wait ∧ s.wait ≤ 4) && ((List.range 4).all (docGood s) && modeOk s))) := by
  unfold ownN
  rw [decide_eq_decide.2 own_A]
  rfl
theorem own_no1 {s : ShS} (h : ¬ s = bare s) : ownN s = false := by rw [own_eq, decide_eq_false h]; rfl
theorem own_no2 {s : ShS} (h : ¬ (0 ≤ s.wait ∧ s.wait ≤ 4)) : ownN s = false := by rw [own_eq, decide_eq_false h]; simp
theorem own_no3 {s : ShS} {k : Nat} (hk : k < 4) (h : docGood s k = false) : ownN s = false := by
  rw [own_eq]
  have : (List.range 4).all (docGood s) = false := by
    cases q : (List.range 4).all (docGood s) with
    | false => rfl
    | true => rw [List.all_eq_true] at q; rw [q k (List.mem_range.2 hk)] at h; cases h
  rw [this]; simp
theorem own_yes {s : ShS} (h1 : s = bare s) (h2 : 0 ≤ s.wait ∧ s.wait ≤ 4) (h3 : ∀ k, k < 4 → docGood s k = true) : ownN s = modeOk s := by
  rw [own_eq, decide_eq_true h1, decide_eq_true h2, List.all_eq_true.2 fun k hk => h3 k (List.mem_range.1 hk)]
  rfl
set_option maxRecDepth 100000 in
set_option maxHeartbeats 8000000 in
theorem Own_sp (s : ShS) (hs : s.ok) (h : H) (h1 : h.one = []) :
    CallW E0 X0 (.fn 13) [.agg (encS s).toArray] h (fun r h' => r = .bool (ownN s) ∧ Fr h.next h h') := by
  refine CallW.body efn13 rfl rfl rfl [] (by kernel_rfl) ?_
  have hb := bare_ok hs
  have hbe := bare_eq hs
  have z0 := fun k hk => le_of82 zS_ok (k := k) hk
  have z66 := z0 66 (by decide)
  have z67 := z0 67 (by decide)
  have z81 := z0 81 (by decide)
  have z82 := z0 82 (by decide)
  have l66 := le_of82 hs (k := 66) (by decide)
  have l67 := le_of82 hs (k := 67) (by decide)
  have l81 := le_of82 hs (k := 81) (by decide)
  have l82 := le_of82 hs (k := 82) (by decide)
  have b82 := le_of82 hb (k := 82) (by decide)
  have ble : (encS (bare s)).length = 82 := encS_len hb
  have hdl : (encDs s.docs).length = 12 := by rw [encDs_len, hs.docs]
  have hov := st_over zS_ok hb
  by_cases c1 : ¬ s = bare s

  · simp [Tryd.f13, h1, zcells, st_mode hs, st_mark hs, st_wait hs, st_docs hs, st_all hs, z66, z67, z81, z82, l66, l67, l81, l82, hbe, ble, hdl, hov, eq_true (st_cv (bare s)), st_all hb, eq_st hs hb, -eqD_succ, c1, own_no1 c1]
    exact (((Fr.refl h1).nw (Nat.le_refl _) _).nw (by simp) _).put (by omega) _
  have c1 : s = bare s := Decidable.not_not.1 c1
  by_cases c2 : s.wait < 0
  · simp [Tryd.f13, h1, zcells, st_mode hs, st_mark hs, st_wait hs, st_docs hs, st_all hs, z66, z67, z81, z82, l66, l67, l81, l82, hbe, ble, hdl, hov, eq_true (st_cv (bare s)), st_all hb, eq_st hs hb, -eqD_succ, eq_true c1, c2, own_no2 (show ¬ (0 ≤ s.wait ∧ s.wait ≤ 4) by omega)]

    exact (((Fr.refl h1).nw (Nat.le_refl _) _).nw (by simp) _).put (by omega) _
  by_cases c3 : 4 < s.wait
  · simp [Tryd.f13, h1, zcells, st_mode hs, st_mark hs, st_wait hs, st_docs hs, st_all hs, z66, z67, z81, z82, l66, l67, l81, l82, hbe, ble, hdl, hov, eq_true (st_cv (bare s)), st_all hb, eq_st hs hb, -eqD_succ, eq_true c1, c2, c3, own_no2 (show ¬ (0 ≤ s.wait ∧ s.wait ≤ 4) by omega)]
    exact (((Fr.refl h1).nw (Nat.le_refl _) _).nw (by simp) _).put (by omega) _
  simp [Tryd.f13, h1, zcells, st_mode hs, st_mark hs, st_wait hs, st_docs hs, st_all hs, z66, z67, z81, z82, l66, l67, l81, l82, hbe, ble, hdl, hov, eq_true (st_cv (bare s)), st_all hb, eq_st hs hb, -eqD_succ, eq_true c1, c2, c3]
  generalize hF : (T.set _ 30 _ : T Value) = F
  generalize hH : H.put (H.nw (H.nw h _) _) _ _ = h2
  have f2 : Fr h.next h h2 := by rw [← hH]; exact (((Fr.refl h1).nw (Nat.le_refl _) _).nw (by simp) _).put (by omega) _
  have n2 : h2.next = h.next + 2 := by rw [← hH]; simp
  have q0 : h2.get h.next = some (.cells (encS s) 0 true 0 none) := by rw [← hH]; simp
  have g1 : F.get 1 = some (.pointer (some ⟨h.next, 0, none⟩)) := by rw [← hF]; simp
  have g29 : F.get 29 = some (.agg (encDs s.docs).toArray) := by rw [← hF]; simp
  have g30 : F.get 30 = some (.int .i64 0) := by rw [← hF]; simp
  clear hF hH
  refine wpd_loop (fun (k : Nat) fr h3 => fr.get 30 = some (.int .i64 k) ∧ k ≤ 4 ∧ (∀ j, j < k → docGood s j = true) ∧ Fr h2.next h2 h3) (fun k => 4 - k) 0 ⟨g30, by omega, fun j hj => by omega, Fr.refl f2.one⟩ ?_
  rintro k fr h3 ⟨j30, hk4, hgd, f3⟩ hfe
  have j1 := hfe 1 rfl
  have j29 := hfe 29 rfl
  simp only [g1, g29] at j1 j29
  have n3 := f3.next
  have p0 : h3.get h.next = some (.cells (encS s) 0 true 0 none) := (f3.get _ (by omega)).trans q0
  have f23 := f2.thn (Nat.le_refl _) f3
  by_cases hk : k < 4
  · have hk' : (k : Int) < 4 := by omega
    have hdk : ((encDs s.docs).drop (k * 3)).take 3 = encD (docK s k) := by
      have := flat_mid encD (n := 3) (fun _ => rfl) s.docs (i := k) (by rw [hs.docs]; exact hk)
      rw [show encDs s.docs = s.docs.flatMap encD from rfl, this]
      simp [docK, List.getD, hs.docs, hk]
    have hle : k * 3 + 3 ≤ (encDs s.docs).length := by rw [encDs_len, hs.docs]; omega
    have hgk : docGood s k = ((decide ((k : Int) < s.wait) || decide (docK s k = zD)) && decide ((docK s k).word.length ≤ 64)) := rfl
    have hno := fun q => own_no3 (s := s) hk q
    have heq := eq_dc 9998 (docK s k) zD
    generalize docK s k = d at *
    have hstep : docGood s k = true → ∀ j, j < k + 1 → docGood s j = true := by
      intro q j hj
      by_cases e : j = k
      · rw [e]; exact q
      · exact hgd j (by omega)
    have hed : encD d = [str d.word, .bool d.strip, .bool d.raw] := rfl
    have hez : encD zD = [str [], .bool false, .bool false] := rfl
    rw [hed, hez] at heq
    rw [hed] at hdk
    have x1 : ¬ h.next = h3.next := by omega
    have w0 : IntKind.i64.wrap ((k : Int) + 1) = ((k + 1 : Nat) : Int) := wrap_succ (by omega)
    have fr4 : ∀ X Y, Fr h2.next h2 ((h3.nw X).put h3.next Y) := fun X Y => (f3.nw n3 _).put n3 _
    have fr5 : ∀ X Y, Fr h.next h ((h3.nw X).put h3.next Y) := fun X Y => (f23.nw (by omega) _).put (by omega) _
    by_cases d1 : s.wait ≤ k
    · have d1' : ¬ (k : Int) < s.wait := by omega
      by_cases d2 : d = zD
      · subst d2
        have hgood : docGood s k = true := by rw [hgk]; simp [zD]
        simp [j30, j1, j29, hk', hk, f3.one, hdk, hle, p0, x1, st_wait hs, d1, zD, w0]
        exact ⟨k + 1, by omega, by simp, by omega, hstep hgood, fr4 _ _⟩
      · have hbad : docGood s k = false := by rw [hgk, decide_eq_false d1', decide_eq_false d2]; rfl
        simp [j30, j1, j29, hk', hk, f3.one, hdk, hle, p0, x1, st_wait hs, d1, heq, d2, hno hbad, -eqD_succ]
        exact fr5 _ _
    · have d1' : (k : Int) < s.wait := by omega
      by_cases d3 : d.word.length ≤ 64
      · have d3' : ¬ (64 : Int) < d.word.length := by omega
        have hgood : docGood s k = true := by rw [hgk, decide_eq_true d1', decide_eq_true d3]; rfl
        simp [j30, j1, j29, hk', hk, f3.one, hdk, hle, p0, x1, st_wait hs, d1, d3, d3', w0]
        exact ⟨k + 1, by omega, by simp, by omega, hstep hgood, fr4 _ _⟩
      · have d3' : (64 : Int) < d.word.length := by omega
        have hbad : docGood s k = false := by rw [hgk, decide_eq_false d3, Bool.and_false]
        simp [j30, j1, j29, hk', hk, f3.one, hdk, hle, p0, x1, st_wait hs, d1, d3, d3', hno hbad]
        exact fr5 _ _
  · have hk' : ¬ (k : Int) < 4 := by omega
    have hy := own_yes c1 ⟨by omega, by omega⟩ (fun j hj => hgd j (by omega))
    have zb : encS zS = encS zS := rfl
    rw [hy]
    unfold modeOk
    have heqz := eq_st hs zS_ok
    have f23' := f23
    by_cases m0 : s.mode = 0
    · have hz : (s = zS) ↔ (s.mark = 0 ∧ s.wait = 0) := by
        constructor
        · intro q; rw [q]; exact ⟨rfl, rfl⟩
        · rintro ⟨q1, q2⟩
          have hd : ∀ j, j < 4 → docK s j = zD := by
            intro j hj
            have := hgd j (by omega)
            unfold docGood at this
            simp only [Bool.and_eq_true, Bool.or_eq_true, decide_eq_true_eq] at this
            rcases this.1 with q | q
            · omega
            · exact q
          have hdd : s.docs = List.replicate 4 zD := by
            apply List.ext_getElem (by rw [hs.docs]; rfl)
            intro j h1 h2
            have := hd j (by rw [hs.docs] at h1; exact h1)
            simp [docK, List.getD, h1] at this
            rw [this]; exact (List.getElem_replicate (by simpa using h2)).symm
          rw [c1]
          unfold bare
          rw [m0, q1, q2, hdd]
          rfl
      simp [j30, j1, hk', hk, f3.one, p0, st_mode hs, st_all hs, l82, zcells, m0, heqz, -eqD_succ, hz]
      exact f23
    · by_cases m1 : s.mode = 1
      · have a1 : ((s.mark : Int) = 39) = (s.mark = 39) := by rw [eq_iff_iff]; omega
        have a2 : ((s.mark : Int) = 34) = (s.mark = 34) := by rw [eq_iff_iff]; omega
        have a0 : ((s.mark : Int) = 0) = (s.mark = 0) := by rw [eq_iff_iff]; omega
        by_cases b0 : s.mark = 0
        · simp [j30, j1, hk', hk, f3.one, p0, st_mode hs, st_mark hs, st_all hs, l82, zcells, m0, m1, b0]
          exact f23
        · by_cases b1 : s.mark = 39
          · simp [j30, j1, hk', hk, f3.one, p0, st_mode hs, st_mark hs, st_all hs, l82, zcells, m0, m1, b0, b1]
            exact f23
          · by_cases b2 : s.mark = 34
            · simp [j30, j1, hk', hk, f3.one, p0, st_mode hs, st_mark hs, st_all hs, l82, zcells, m0, m1, b0, b1, b2]
              exact f23
            · simp [j30, j1, hk', hk, f3.one, p0, st_mode hs, st_mark hs, st_all hs, l82, zcells, m0, m1, b0, b1, b2, a0, a1, a2]
              exact f23
      · have a1 : ((s.mode : Int) = 2) = (s.mode = 2) := by rw [eq_iff_iff]; omega
        have a0 : ((s.mode : Int) = 1) = (s.mode = 1) := by rw [eq_iff_iff]; omega
        by_cases b0 : s.mode = 2
        · by_cases b1 : s.mark = 0
          · by_cases b2 : 0 < s.wait
            · simp [j30, j1, hk', hk, f3.one, p0, st_mode hs, st_mark hs, st_wait hs, st_all hs, l82, zcells, m0, m1, b0, b1, b2]
              exact f23
            · simp [j30, j1, hk', hk, f3.one, p0, st_mode hs, st_mark hs, st_wait hs, st_all hs, l82, zcells, m0, m1, b0, b1, b2]
              exact f23
          · simp [j30, j1, hk', hk, f3.one, p0, st_mode hs, st_mark hs, st_wait hs, st_all hs, l82, zcells, m0, m1, b0, b1]
            exact f23
        · simp [j30, j1, hk', hk, f3.one, p0, st_mode hs, st_mark hs, st_wait hs, st_all hs, l82, zcells, m0, m1, b0, a0, a1]
          exact f23
end Go.Dm
