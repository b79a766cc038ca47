/- TreeSums and TreeMoved answer true. -/
import Derived.Test.YtnmfdjmejpioiaaDoorTrL
import Derived.Test.YtnmfdjmejpioiaaDoorTrHs
set_option linter.unusedVariables false
set_option linter.unusedSimpArgs false
namespace Go.Dm
open Go.Proofs
set_option maxRecDepth 100000 in
set_option maxHeartbeats 8000000 in
theorem law_Sums (l : List Nd) (i : Int) (hk : ∀ x ∈ l, x.kind < 256) (v : Value) (h : H) (h1 : h.one = []) (hr : RdN h v l) :
    CallW E0 X0 (.fn 5) [v, .int .i64 i] h (fun r _ => r = .bool true) := by
  refine CallW.body efn5 rfl rfl rfl [] (by kernel_rfl) ?_
  have hr' := hr
  obtain ⟨a, cap, rfl⟩ := hr.sl
  by_cases hl : 2000 < l.length
  · have hl' : (2000 : Int) < l.length := by omega
    simp [Tryd.f5, h1, hl']
    refine (wakes_sp h h1).mono ?_
    rintro _ h2 ⟨rfl, f1⟩
    simp [f1.one]
  have hl' : ¬ (2000 : Int) < l.length := by omega
  simp [Tryd.f5, h1, hl']
  refine (own_sp l _ (by omega) h h1 hr').mono ?_
  rintro v2 h2 ⟨r2, f2⟩
  simp [f2.one]
  refine (Hash_sp l hk i v2 (by omega) h2 f2.one r2).mono ?_
  rintro _ h3 ⟨rfl, f3⟩
  simp [f3.one]
  have r3 := (hr'.mono f2).mono f3
  refine (Wrong_sp l i _ (by omega) h3 f3.one r3).mono ?_
  rintro _ h4 ⟨rfl, f4⟩
  have r4 := r3.mono f4
  by_cases hw : wrongN l i = 0
  · obtain ⟨hf, i0, i1⟩ := wrong_ok' hw
    obtain ⟨k, rfl⟩ := Int.eq_ofNat_of_zero_le i0
    have hv : hashV l (k : Int) = sumN l k := by unfold hashV; rw [if_pos hw]; rfl
    simp [f4.one, hw, hv]
    refine (RefHash_sp l _ (Tr.of_fit hf) hk k (by omega) _ (by omega) h4 f4.one r4).mono ?_
    rintro _ h5 ⟨rfl, rfl⟩
    simp [f4.one]
    refine (wakes_sp _ f4.one).mono ?_
    rintro _ h6 ⟨rfl, f6⟩
    simp [f6.one]
  · have hv : hashV l i = 0 := by unfold hashV; rw [if_neg hw]
    simp [f4.one, hw, hv]
    refine (wakes_sp _ f4.one).mono ?_
    rintro _ h6 ⟨rfl, f6⟩
    simp [f6.one]
theorem movN_kind {b : Int} {l : List Nd} (hk : ∀ x ∈ l, x.kind < 256) : ∀ x ∈ movN b l, x.kind < 256 := by
  cases l with
  | nil => intro x hx; cases hx
  | cons y r =>
    intro x hx
    rcases List.mem_cons.1 hx with rfl | hx
    · exact hk y (List.mem_cons_self ..)
    · obtain ⟨z, hz, rfl⟩ := List.mem_map.1 hx
      exact hk z (List.mem_cons_of_mem _ hz)
theorem RdN.of {B : Nat} {h : H} {v : Value} {l : List Nd} (s : SlG none 4 B h v (encsN l) l.length) : RdN h v l := by
  rcases s with ⟨a, b, c⟩ | ⟨s1, s2, g, s3, s4, s5, s6⟩
  · exact .inl ⟨b, List.eq_nil_of_length_eq_zero a⟩
  · exact .inr ⟨g, l.length, 4, true, 0, none, s5, Nat.le_refl _, s6, .inr rfl, s4⟩
set_option maxRecDepth 100000 in
set_option maxHeartbeats 8000000 in
theorem law_Moved (l : List Nd) (i b : Int) (hk : ∀ x ∈ l, x.kind < 256) (v : Value) (h : H) (h1 : h.one = []) (hr : RdN h v l) :
    CallW E0 X0 (.fn 6) [v, .int .i64 i, .int .i64 b] h (fun r _ => r = .bool true) := by
  refine CallW.body efn6 rfl rfl rfl [] (by kernel_rfl) ?_
  have hr' := hr
  obtain ⟨a, cap, rfl⟩ := hr.sl
  have wk : ∀ h2 : H, h2.one = [] → CallW E0 X0 (.fn 11) [] h2 (fun r h' => r = .bool true ∧ Fr h2.next h2 h') := fun h2 o => wakes_sp h2 o
  by_cases hl : 300 < l.length
  · have hl' : (300 : Int) < l.length := by omega
    simp [Tryd.f6, h1, hl']
    refine (wk h h1).mono ?_
    rintro _ h2 ⟨rfl, f1⟩
    simp [f1.one]
  have hl' : ¬ (300 : Int) < l.length := by omega
  by_cases hb0 : b < 0
  · simp [Tryd.f6, h1, hl', hb0]
    refine (wk h h1).mono ?_
    rintro _ h2 ⟨rfl, f1⟩
    simp [f1.one]
  by_cases hb1 : 524288 < b
  · simp [Tryd.f6, h1, hl', hb0, hb1]
    refine (wk h h1).mono ?_
    rintro _ h2 ⟨rfl, f1⟩
    simp [f1.one]
  simp [Tryd.f6, h1, hl', hb0, hb1]
  refine (own_sp l _ (by omega) h h1 hr').mono ?_
  rintro v2 h2 ⟨r2, f2⟩
  simp [f2.one]
  refine (Hash_sp l hk i v2 (by omega) h2 f2.one r2).mono ?_
  rintro _ h3 ⟨rfl, f3⟩
  have r3 := (hr'.mono f2).mono f3
  by_cases hw : wrongN l i = 0
  · obtain ⟨hf, i0, i1⟩ := wrong_ok' hw
    obtain ⟨k, rfl⟩ := Int.eq_ofNat_of_zero_le i0
    have hv : hashV l (k : Int) = sumN l k := by unfold hashV; rw [if_pos hw]; rfl
    have hl1 := fit_len hf
    have t := Tr.of_fit hf
    have hto := rd_to0 hl1
    obtain ⟨b0, cap', st, own, fz, ty, e, a2, a3, a4, a5⟩ := r3.ne hl1
    cases e
    have m0 := t.mx 0 hl1
    have m1 := t.to 0 hl1
    have m2 := t.fm 0 hl1
    have m3 := t.n1
    have hw1 : IntKind.i64.wrap ((nd l 0).to + b) = (nd l 0).to + b := wrap_i64 (by omega) (by omega)
    by_cases hm : 1048576 < (nd l 0).to + b
    · simp [f3.one, hw, hv, hl1, a3, hto, hw1, hm]
      refine (wk _ f3.one).mono ?_
      rintro _ h6 ⟨rfl, f6⟩
      simp [f6.one]
    simp [f3.one, hw, hv, hl1, a3, hto, hw1, hm]
    refine wpd_loop (fun (j : Nat) fr h4 => j ≤ l.length ∧ fr.get 10 = some (.int .i64 (j : Int)) ∧ (∃ vb, fr.get 9 = some vb ∧ SlG none 4 h3.next h4 vb (encsN ((movN b l).take j)) j) ∧ Fr h3.next h3 h4) (fun j => l.length - j) 0 ⟨by omega, by simp, ⟨.slice none 0 0, by simp, SlG.nil ..⟩, Fr.refl f3.one⟩ ?_
    rintro j fr h4 ⟨hj, f10, ⟨vb, f9, sl⟩, hf4⟩ hfe
    have g0 := hfe 0 rfl
    have g1 := hfe 1 rfl
    have g2 := hfe 2 rfl
    have g7 := hfe 7 rfl
    simp at g0 g1 g2 g7
    have hb4 : h4.get b0 = some (.cells (encsN l) st own fz ty) := (hf4.get b0 a5).trans a3
    have n4 := hf4.next
    by_cases hjl : j < l.length
    · have e1 : (j : Int) < l.length := by omega
      have e3 : j * 4 + 4 ≤ l.length * 4 := by omega
      have q1 := encsN_get hjl
      have hw2 : IntKind.i64.wrap ((j : Int) + 1) = ((j + 1 : Nat) : Int) := wrap_succ (by omega)
      have hgb : ¬ b0 = h4.next := by omega
      have p1 := t.fm j hjl
      have p2 := t.to j hjl
      have p3 := t.mx j hjl
      have w1 : IntKind.i64.wrap ((nd l j).fm + b) = (nd l j).fm + b := wrap_i64 (by omega) (by omega)
      have w2 : IntKind.i64.wrap ((nd l j).to + b) = (nd l j).to + b := wrap_i64 (by omega) (by omega)
      have htk := take_succ_nd (C := movN b l) (d := j) (by rw [movN_len]; exact hjl)
      have hF4 : ∀ (x y z : DObj), Fr h3.next h3 (((h4.nw x).put h4.next y).put h4.next z) := fun x y z => ((hf4.nw hf4.next _).put hf4.next _).put hf4.next _
      have hF5 : ∀ (x y z u : DObj), Fr h3.next h3 ((((h4.nw x).put h4.next y).put h4.next z).put h4.next u) := fun x y z u => (((hf4.nw hf4.next _).put hf4.next _).put hf4.next _).put hf4.next _
      have sl4 : ∀ (x y z : DObj), SlG none 4 h3.next (((h4.nw x).put h4.next y).put h4.next z) vb (encsN ((movN b l).take j)) j := fun x y z => sl.of_get (by simp) (fun g hg hg2 => by rw [H.get_put, if_neg (by omega), H.get_put, if_neg (by omega), get_nw, if_neg (by omega)])
      have sl5 : ∀ (x y z u : DObj), SlG none 4 h3.next ((((h4.nw x).put h4.next y).put h4.next z).put h4.next u) vb (encsN ((movN b l).take j)) j := fun x y z u => sl.of_get (by simp) (fun g hg hg2 => by rw [H.get_put, if_neg (by omega), H.get_put, if_neg (by omega), H.get_put, if_neg (by omega), get_nw, if_neg (by omega)])
      by_cases j0 : j = 0
      · subst j0
        have hmv := movN_zero b hl1
        generalize hx : nd l 0 = x at *
        obtain ⟨xk, xf, xt, xd⟩ := x
        simp only [encN] at q1
        simp only at hmv w2
        rw [Nat.zero_mul, List.drop_zero] at q1
        simp [f10, f9, g0, g2, hb4, q1, e1, e3, hjl, hf4.one, hgb, w2, zerN, -appS_some]
        refine ((sl4 _ _ _).nw _).app (by simp) (by simp; omega) (by rfl) (by decide) (by rfl) (by omega) (by decide) (.inl rfl) ?_
        intro v5 h5 sl6 fr5
        have hw01 : IntKind.i64.wrap 1 = 1 := wrap_i64 (by decide) (by decide)
        simp [fr5.one, f10, hw01]
        refine ⟨1, by omega, by omega, rfl, ?_, ((hF4 _ _ _).nw (by simp; omega) _).trans fr5⟩
        have htk' : encsN ((movN b l).take 1) = encsN ((movN b l).take 0) ++ [.int .u8 xk, .int .i64 xf, .int .i64 (xt + b), .int .i64 xd] := by
          rw [htk, hmv]; simp [encN]
        rw [htk']
        simpa using sl6
      · have j1 : (0 : Int) < j := by omega
        have j2 : 0 < j := by omega
        have hmv := movN_pos b j2 hjl
        generalize hx : nd l j = x at *
        obtain ⟨xk, xf, xt, xd⟩ := x
        simp only [encN] at q1
        simp only [shN] at hmv w1 w2
        simp [f10, f9, g0, g2, hb4, q1, e1, e3, hjl, hf4.one, hgb, w1, w2, j1, j2, zerN, -appS_some]
        refine ((sl5 _ _ _ _).nw _).app (by simp) (by simp; omega) (by rfl) (by decide) (by rfl) (by omega) (by decide) (.inl rfl) ?_
        intro v5 h5 sl6 fr5
        simp [fr5.one, f10, hw2]
        refine ⟨j + 1, by omega, by omega, rfl, ?_, ((hF5 _ _ _ _).nw (by simp; omega) _).trans fr5⟩
        have htk' : encsN ((movN b l).take (j + 1)) = encsN ((movN b l).take j) ++ [.int .u8 xk, .int .i64 (xf + b), .int .i64 (xt + b), .int .i64 xd] := by
          rw [htk, hmv]; simp [encN]
        rw [htk']
        exact sl6
    · obtain rfl : j = l.length := by omega
      rw [List.take_of_length_le (by simp)] at sl
      have e1 : ¬ (l.length : Int) < l.length := by omega
      by_cases k0 : k = 0
      · subst k0
        simp [f10, f9, g0, g1, hf4.one]
        refine (wk _ hf4.one).mono ?_
        rintro _ h6 ⟨rfl, f6⟩
        simp [f6.one]
      have k1 : ¬ (k : Int) = 0 := by omega
      have hfm := mov_fit (b := b) (by omega) hf (by omega)
      have hsm := sum_mov (b := b) (l := l) (i := k) (by omega) (by omega)
      have hwm : wrongN (movN b l) (k : Int) = 0 := wrong_zero' hfm (by rw [movN_len]; omega)
      have hvm : hashV (movN b l) (k : Int) = sumN l k := by unfold hashV; rw [if_pos hwm]; exact hsm
      simp [f10, f9, g0, g1, hf4.one, k0, k1]
      refine (Hash_sp (movN b l) (movN_kind hk) k vb (by rw [movN_len]; omega) h4 hf4.one (RdN.of (by rw [movN_len]; exact sl))).mono ?_
      rintro _ h5 ⟨rfl, f5⟩
      simp [f5.one, hwm, hvm, g7]
      refine (wk _ f5.one).mono ?_
      rintro _ h6 ⟨rfl, f6⟩
      simp [f6.one]
  · have hw' : ¬ wrongN l i = 0 := hw
    simp [f3.one, hw]
    refine (wk _ f3.one).mono ?_
    rintro _ h6 ⟨rfl, f6⟩
    simp [f6.one]
end Go.Dm
