/- Rows of links that are compared; how links lie. -/
import Derived.Test.YthclahlplcfdpaaGreatDoorMdVa
set_option linter.unusedVariables false
set_option linter.unusedSimpArgs false
namespace Go.Dm
open Go.Proofs
theorem lkStep_out (kn : List UInt8 → Bool) (last lf : Bool) (s : List UInt8) (y : LS) : (lkStep kn last lf s y).out.length ≤ y.out.length + 1 := by
  unfold lkStep
  split
  · unfold lkAt
    split
    · simp
    · split
      · simp
      · split
        · split
          · simp
          · split
            · simp
            · split <;> simp
        · simp
  · simp
theorem lkRun_ol (kn : List UInt8 → Bool) (last lf : Bool) (s : List UInt8) : ∀ (f : Nat) (y : LS), y.out.length ≤ y.k → y.out.length ≤ s.length → (lkRun kn last lf s f y).out.length ≤ s.length
  | 0, y, _, h => h
  | f + 1, y, h1, h2 => by
    rw [lkRun]
    split
    · rename_i hk
      have := lkStep_le kn last lf hk
      have h3 := lkStep_out kn last lf s y
      exact lkRun_ol kn last lf s f _ (by omega) (by omega)
    · exact h2
theorem lksL_len (kn : List UInt8 → Bool) (last lf : Bool) (s : List UInt8) (a : Int) : (lksL kn last lf s a).length ≤ s.length := by
  rw [(lksL_perm kn last lf s a).length_eq]
  unfold lksO
  split
  · exact Nat.zero_le _
  · exact lkRun_ol kn last lf s _ _ (Nat.zero_le _) (Nat.zero_le _)
theorem lksOf_len (l : List UInt8) (a e : Int) (ns : List (List UInt8)) : (lksOf l a e ns).length ≤ l.length := by
  have h1 := lksL_len (fun x => decide (x ∈ ns)) (decide (eE l e = eN l)) (decide (lnN l < l.length)) (pE l e) a
  have h2 := pE_len l e
  have h3 := eE_len l e
  unfold lksOf
  omega
/-- Where a link stands. -/
structure Stands (l : List UInt8) (a e : Int) (f o m t : Nat) (i : Bool) : Prop where
  af : a ≤ f
  te : (t : Int) ≤ min e (eN l)
  tl : t ≤ l.length
  eo : o = f + (if i then 2 else 1)
  om : o ≤ m
  mt : m < t
  bo : bt l (o - 1) = 91
  bm : bt l m = 93
  bi : i = true → bt l f = 33
theorem lks_stands {l : List UInt8} {a e : Int} {ns : List (List UInt8)} {x : Lk} (hx : x ∈ lksOf l a e ns) : ∃ f o m t : Nat, ∃ i : Bool, x = ⟨f, o, m, t, i⟩ ∧ Stands l a e f o m t i := by
  obtain ⟨q, h0⟩ := lksL_ok _ _ _ _ _ hx
  obtain ⟨xf, xo, xm, xt, xi⟩ := x
  have h1 := q.a
  have h2 := q.o
  have h3 := q.m
  have h4 := q.t
  have h5 := q.l
  have h6 := q.b
  have h7 := q.e
  have h8 := q.i
  simp only at h1 h2 h3 h4 h5 h6 h7 h8
  have hn := pE_len l e
  have hl := eE_len l e
  have he := eE_int l e
  obtain ⟨f, rfl⟩ : ∃ f : Nat, xf = f := ⟨xf.toNat, by omega⟩
  have h22 : xo = ((f + (if xi then 2 else 1) : Nat) : Int) := by rw [h2]; cases xi <;> simp
  subst h22
  obtain ⟨m, rfl⟩ : ∃ f : Nat, xm = f := ⟨xm.toNat, by omega⟩
  obtain ⟨t, rfl⟩ : ∃ f : Nat, xt = f := ⟨xt.toNat, by omega⟩
  refine ⟨f, _, m, t, xi, rfl, by omega, by omega, by omega, rfl, by omega, by omega, ?_, ?_, fun hi => ?_⟩
  · rw [← bt_pE (e := e) (by omega)]; simpa using h6
  · rw [← bt_pE (e := e) (by omega)]; simpa using h7
  · rw [← bt_pE (e := e) (by omega)]; simpa using h8 hi
section
variable {h : H}
set_option maxHeartbeats 4000000 in
theorem links_sp {B B' : Nat} (l m : List Lk) (v w : Value) (hl : l.length < 2 ^ 31) (hr : Row 5 B h v (encLs l) l.length) (hs : Row 5 B' h w (encLs m) m.length) (h1 : h.one = []) :
    CallW E0 X0 (.fn 18) [v, w] h (fun r h' => r = .bool (decide (l = m)) ∧ h' = h) := by
  refine CallW.body efn18 rfl rfl rfl [] (by kernel_rfl) ?_
  obtain ⟨a, c, rfl⟩ := hr.sl
  obtain ⟨a', c', rfl⟩ := hs.sl
  by_cases hn : l.length = m.length
  rotate_left
  · have hn' : ¬ (l.length : Int) = m.length := by omega
    have hne : l ≠ m := fun q => hn (q ▸ rfl)
    simp [Tryz.f18, h1, hn, hn', hne]
  have hr5 := fun (i : Nat) hi => hr.at5 (i := i) hi
  simp [-wpd_seq, Tryz.f18, h1]
  (repeat rw [wpd_seq]); simp [-wpd_seq, h1, hn]
  (repeat rw [wpd_seq]); simp [-wpd_seq, h1]
  (repeat rw [wpd_seq]); simp [-wpd_seq, h1]
  (repeat rw [wpd_seq])
  refine wpd_loop (fun (i : Nat) fr h' => fr.get 5 = some (.int .i64 i) ∧ i ≤ m.length ∧ h' = h ∧ l.take i = m.take i) (fun i => m.length - i) 0 ⟨by simp, Nat.zero_le _, rfl, rfl⟩ ?_
  rintro i fr h' ⟨g5, hi, rfl, hq⟩ hf
  have g0 := hf 0 rfl
  have g1 := hf 1 rfl
  simp at g0 g1
  clear hf
  by_cases ci' : i < m.length
  · have ci : i < l.length := by omega
    obtain ⟨gb, cap, cs, e1, b1, b2, b3, b4, b5, b6⟩ := hr5 i ci
    cases e1
    obtain ⟨gb', cap', cs', e1, b1', b2', b3', b4', b5', b6'⟩ := hs.at5 ci'
    cases e1
    have hw : IntKind.i64.wrap ((i : Int) + 1) = (i : Int) + 1 := wrap_succ (by omega)
    have q := eq_lk l[i] m[i]
    by_cases hx : l[i] = m[i]
    · rw [decide_eq_true hx] at q
      simp at q
      simp [h1, g0, g1, g5, ci, ci', b3, b4, b5, b3', b4', b5', q, hw]
      refine ⟨i + 1, by omega, by omega, by omega, ?_⟩
      rw [List.take_succ_eq_append_getElem ci, List.take_succ_eq_append_getElem ci', hq, hx]
    · rw [decide_eq_false hx] at q
      simp at q
      have hne : l ≠ m := fun e => hx (by subst e; rfl)
      simp [h1, g0, g1, g5, ci, ci', b3, b4, b5, b3', b4', b5', q, hw, hne]
  · have e : l = m := by
      have hm : i = m.length := by omega
      rw [hm, List.take_length, ← hn, List.take_length] at hq
      exact hq
    simp [h1, g0, g1, g5, ci', e, hn]
set_option maxRecDepth 100000 in
set_option maxHeartbeats 8000000 in
theorem law_Nests (l : List UInt8) (from_ e : Int) (ns : List (List UInt8)) (nv : Value) (hnv : RdS h nv ns) (h1 : h.one = []) (g : GmH h) :
    CallW E0 X0 (.fn 5) [str l, .int .i64 from_, .int .i64 e, nv] h (fun v _ => v = .bool true) := by
  refine CallW.body efn5 rfl rfl rfl [] (by kernel_rfl) ?_
  obtain ⟨na, ncp, rfl⟩ := hnv.sl
  by_cases c1 : 300 < l.length
  · simp [Tryz.f5, h1, c1]
  by_cases c2 : 30 < ns.length
  · simp [Tryz.f5, h1, c1, c2]
  simp [-wpd_seq, Tryz.f5, h1]
  iterate ((repeat rw [wpd_seq]); simp [-wpd_seq, h1, c1, c2])
  refine (End_sp l (by omega) h1).mono ?_
  rintro _ h2 ⟨rfl, rfl⟩
  iterate ((repeat rw [wpd_seq]); simp [-wpd_seq, h1, c1, c2, minI])
  refine (Lks_sp l (by omega) from_ e ns (by omega) _ hnv h1 g).mono ?_
  rintro v h3 ⟨hrow, hF3⟩
  have hst : ∀ x ∈ lksOf l from_ e ns, _ := fun x hx => lks_stands hx
  have hnest : ∀ {i k : Nat} {x y : Lk}, k < i → (lksOf l from_ e ns)[i]? = some x → (lksOf l from_ e ns)[k]? = some y → Rl y x := fun hki hx hy => lksL_nest _ _ _ _ _ hki hx hy
  have hlen := lksOf_len l from_ e ns
  generalize lksOf l from_ e ns = L at hrow hst hnest hlen
  obtain ⟨va, vc, rfl⟩ := hrow.sl
  have h31 := hF3.one
  simp [-wpd_seq, h31]
  obtain ⟨E, hE⟩ : ∃ E, E = min e (eN l : Int) := ⟨_, rfl⟩
  rw [← hE]
  have hst : ∀ x ∈ L, ∃ f o m t : Nat, ∃ i : Bool, x = ⟨f, o, m, t, i⟩ ∧ Stands l from_ e f o m t i ∧ (t : Int) ≤ E := fun x hx => by
    obtain ⟨f, o, m, t, i, q1, q2⟩ := hst x hx
    exact ⟨f, o, m, t, i, q1, q2, hE ▸ q2.te⟩
  clear hE
  iterate ((repeat rw [wpd_seq]); simp [-wpd_seq, h31])
  refine wpd_loop (fun (i : Nat) fr h' => fr.get 11 = some (.int .i64 i) ∧ i ≤ L.length ∧ Fr h3.next h3 h') (fun i => L.length - i) 0 ⟨by simp, Nat.zero_le _, Fr.refl h31⟩ ?_
  rintro i fr h4 ⟨g11, hi, hF4⟩ hf
  have g0 := hf 0 rfl
  have g1 := hf 1 rfl
  have g9 := hf 9 rfl
  have g10 := hf 10 rfl
  simp at g0 g1 g9 g10
  clear hf
  have h41 := hF4.one
  have hF14 : Fr h2.next h2 h4 := hF3.trans (hF4.mono hF3.next)
  have hrow4 : Row 5 h2.next h4 (.slice va L.length vc) (encLs L) L.length := hrow.of_get hF4.next fun g x y q => hF4.get g (hrow.rng g x y q).2
  by_cases ci : i < L.length
  rotate_left
  · simp [g10, g11, ci, h41]
    refine (reads_sp h41 (GmH.fr g hF14 g.2)).mono ?_
    rintro _ h5 ⟨rfl, hF5⟩
    simp [hF5.one]
  obtain ⟨f, o, m, t, im, hx, st, htE⟩ := hst L[i] (List.getElem_mem ci)
  obtain ⟨gb, cap, cs, e1, b1, b2, b3, b4, b5, b6⟩ := hrow4.at5 ci
  cases e1
  rw [hx] at b5
  have b5 : List.take 5 (List.drop (i * 5) cs) = [.int .i64 f, .int .i64 o, .int .i64 m, .int .i64 t, .bool im] := b5
  have hgb : ¬ gb = h4.next := by omega
  have hne2 : ¬ h4.next = gb := by omega
  have m1 := st.af
  have m2 := st.tl
  have m3 := st.eo
  have m4 := st.om
  have m6 : f + 1 ≤ o ∧ o ≤ f + 2 := by rw [m3]; split <;> omega
  have m5 := st.mt
  have mb := st.bo
  have mm := st.bm
  have q1 : ¬ (f : Int) < from_ := by omega
  have q2 : ¬ E < (t : Int) := by omega
  have q3 : ¬ m < o := by omega
  have q4 : ¬ t ≤ m := by omega
  have q5 : IntKind.i64.wrap ((o : Int) - 1) = ((o - 1 : Nat) : Int) := by rw [wrap_i64 (by omega) (by omega)]; omega
  have i1 : o - 1 < l.length := by omega
  have i2 : m < l.length := by omega
  have mb' : (bt l (o - 1)).toNat = 91 := by rw [mb]; rfl
  have mm' : (bt l m).toNat = 93 := by rw [mm]; rfl
  have i3 : f < l.length := by omega
  iterate 3 ((repeat rw [wpd_seq]); simp [-wpd_seq, h41, g10, g11, ci, hgb, hne2, b3, b4, b5, zerosD, List.range, List.range.loop])
  obtain ⟨h5, hh5⟩ : ∃ h5, h5 = (h4.nw (.cells [.int .i64 0, .int .i64 0, .int .i64 0, .int .i64 0, .bool false] 0 true 0 none)).put h4.next (.cells [.int .i64 f, .int .i64 o, .int .i64 m, .int .i64 t, .bool im] 0 true 0 none) := ⟨_, rfl⟩
  rw [← hh5]
  have h51 : h5.one = [] := by rw [hh5]; simp [h41]
  have hF5 : Fr h3.next h3 h5 := by rw [hh5]; exact (hF4.nw hF4.next _).put hF4.next _
  have hx5 : h5.get h4.next = some (.cells [.int .i64 f, .int .i64 o, .int .i64 m, .int .i64 t, .bool im] 0 true 0 none) := by rw [hh5]; simp
  have hn5 : h5.next = h4.next + 1 := by rw [hh5]; simp
  clear hh5
  have hw : IntKind.i64.wrap ((i : Int) + 1) = (i : Int) + 1 := wrap_succ (by omega)
  have hq8 : o = f + (if im = true then 2 else 1) := m3
  obtain ⟨i4, hi4⟩ : ∃ i4, i4 = im := ⟨_, rfl⟩
  cases im
  case' true =>
    have mi := st.bi rfl
    have mi' : (bt l f).toNat = 33 := by rw [mi]; rfl
    have e2 : o = f + 2 := m3
    have q6 : IntKind.i64.wrap ((f : Int) + 2) = (o : Int) := by rw [wrap_i64 (by omega) (by omega)]; omega
    iterate 1 ((repeat rw [wpd_seq]); simp [-wpd_seq, h51, hx5, g0, g1, g9, q1, q2, q3, q4, q5, q6, idxB_nat i1, idxB_nat i2, idxB_nat i3, eq_true mb', eq_true mm', eq_true mi'])
    iterate ((repeat rw [wpd_seq]); simp [-wpd_seq, h51])
    clear mi mi' e2 q6
  case' false =>
    have e2 : o = f + 1 := m3
    have q6 : IntKind.i64.wrap ((f : Int) + 2) = ((o + 1 : Nat) : Int) := by rw [wrap_i64 (by omega) (by omega)]; omega
    have q7 : IntKind.i64.wrap ((f : Int) + 1) = (o : Int) := by rw [wrap_i64 (by omega) (by omega)]; omega
    iterate 1 ((repeat rw [wpd_seq]); simp [-wpd_seq, h51, hx5, g0, g1, g9, q1, q2, q3, q4, q5, q6, q7, idxB_nat i1, idxB_nat i2, idxB_nat i3, eq_true mb', eq_true mm'])
    iterate ((repeat rw [wpd_seq]); simp [-wpd_seq, h51])
    clear e2 q6 q7
  all_goals
    refine wpd_loop (fun (k : Nat) fr h' => fr.get 13 = some (.int .i64 k) ∧ k ≤ i ∧ Fr h3.next h3 h' ∧ h'.get h4.next = some (.cells [.int .i64 f, .int .i64 o, .int .i64 m, .int .i64 t, .bool i4] 0 true 0 none) ∧ h4.next < h'.next) (fun k => i - k) 0 ⟨by simp, Nat.zero_le _, hF5, by rw [hi4]; exact hx5, by omega⟩ ?_
    rintro k fr2 h6 ⟨k13, hk, hF6, hx6, hn6⟩ hf2
    have k10 := hf2 10 rfl
    have k11 := hf2 11 rfl
    have k12 := hf2 12 rfl
    simp [g10, g11] at k10 k11 k12
    clear hf2
    have h61 := hF6.one
    by_cases ck : k < i
    rotate_left
    · simp [k11, k13, ck, h61, hw]
      exact ⟨i + 1, by omega, by omega, by omega, hF6⟩
    have ckL : k < L.length := by omega
    have hrow6 : Row 5 h2.next h6 (.slice (some ⟨gb, 0, none⟩) L.length vc) (encLs L) L.length := hrow.of_get hF6.next fun g x y q => hF6.get g (hrow.rng g x y q).2
    obtain ⟨f', o', m', t', im', hx', st', htE'⟩ := hst L[k] (List.getElem_mem ckL)
    obtain ⟨gb', cap', cs', e1, b1', b2', b3', b4', b5', b6'⟩ := hrow6.at5 ckL
    cases e1
    have hR := hnest ck (List.getElem?_eq_getElem ci) (List.getElem?_eq_getElem ckL)
    rw [hx, hx'] at hR
    rw [hx'] at b5'
    have b5' : List.take 5 (List.drop (k * 5) cs') = [.int .i64 f', .int .i64 o', .int .i64 m', .int .i64 t', .bool im'] := b5'
    have hgb' : ¬ gb = h6.next := by omega
    have hne2' : ¬ h6.next = gb := by omega
    have hne3 : ¬ h4.next = h6.next := by omega
    have hne4 : ¬ h6.next = h4.next := by omega
    have hw2 : IntKind.i64.wrap ((k : Int) + 1) = (k : Int) + 1 := wrap_succ (by omega)
    obtain ⟨r1, r2⟩ := hR
    simp only at r1 r2
    have r1' : ¬ f ≤ f' := by omega
    iterate 3 ((repeat rw [wpd_seq]); simp [-wpd_seq, h61, k10, k11, k12, k13, ck, ckL, hgb', hne2', b3', b4', b5', zerosD, List.range, List.range.loop])
    obtain ⟨h7, hh7⟩ : ∃ h7, h7 = (h6.nw (.cells [.int .i64 0, .int .i64 0, .int .i64 0, .int .i64 0, .bool false] 0 true 0 none)).put h6.next (.cells [.int .i64 f', .int .i64 o', .int .i64 m', .int .i64 t', .bool im'] 0 true 0 none) := ⟨_, rfl⟩
    rw [← hh7]
    have h71 : h7.one = [] := by rw [hh7]; simp [h61]
    have hF7 : Fr h3.next h3 h7 := by rw [hh7]; exact (hF6.nw hF6.next _).put hF6.next _
    have hx7 : h7.get h4.next = some (.cells [.int .i64 f, .int .i64 o, .int .i64 m, .int .i64 t, .bool i4] 0 true 0 none) := by rw [hh7]; simp [hne3]; exact hx6
    have hy7 : h7.get h6.next = some (.cells [.int .i64 f', .int .i64 o', .int .i64 m', .int .i64 t', .bool im'] 0 true 0 none) := by rw [hh7]; simp
    have hn7 : h7.next = h6.next + 1 := by rw [hh7]; simp
    clear hh7
    by_cases c3 : f < t'
    rotate_left
    · simp [h71, k12, k13, hx7, hy7, r1', c3, hw2]
      exact ⟨k + 1, by omega, rfl, by omega, hF7, by omega⟩
    rcases r2 with r2 | ⟨r2, r3, r4⟩
    · omega
    have c4 : ¬ f < o' := by omega
    have c5 : ¬ m' < t := by omega
    rcases Bool.eq_false_or_eq_true i4 with c6 | c6
    · simp [h71, k12, k13, hx7, hy7, r1', c3, c4, c5, c6, hw2]
      exact ⟨k + 1, by omega, rfl, by omega, hF7, by omega⟩
    · have r5 : i4 = true ∨ im' = true := by rw [hi4]; simp; try simpa using r4
      have c7 : im' = true := by rw [c6] at r5; simpa using r5
      simp [h71, k12, k13, hx7, hy7, r1', c3, c4, c5, c6, c7, hw2]
      exact ⟨k + 1, by omega, rfl, by omega, hF7, by omega⟩
end
end Go.Dm
