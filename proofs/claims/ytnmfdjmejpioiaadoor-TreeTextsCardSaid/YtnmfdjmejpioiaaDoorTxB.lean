/- The document's text of a tree; two lists of nodes held against each other. -/
import Derived.Test.YtnmfdjmejpioiaaDoorTxG
import Derived.Test.YtnmfdjmejpioiaaDoorTrL
set_option linter.unusedVariables false
set_option linter.unusedSimpArgs false
namespace Go.Dm
open Go.Proofs
theorem take_eq_succN {la lb : List Nd} {k : Nat} (h1 : k < la.length) (h2 : k < lb.length) (he : la.take k = lb.take k) : (la.take (k + 1) = lb.take (k + 1)) = (nd la k = nd lb k) := by
  rw [take_succ_nd h1, take_succ_nd h2, he, List.append_right_inj]
  simp
set_option maxRecDepth 100000 in
set_option maxHeartbeats 8000000 in
theorem Same_sp (la lb : List Nd) (sa sb : Value) (hl : la.length < 2 ^ 40) (h : H) (h1 : h.one = []) (ha : RdN h sa la) (hb : RdN h sb lb) :
    CallW E0 X0 (.fn 34) [sa, sb] h (fun v h' => v = .bool (decide (la = lb)) ∧ h' = h) := by
  refine CallW.body efn34 rfl rfl rfl [] (by kernel_rfl) ?_
  by_cases hn : la.length = lb.length
  · obtain ⟨a, ca, ea⟩ := ha.sl
    obtain ⟨b, cb, eb⟩ := hb.sl
    rw [hn] at ea
    simp [Tryd.f34, h1, ea, eb]
    refine wpd_loop (fun (k : Nat) fr h' => k ≤ la.length ∧ fr.get 5 = some (.int .i64 k) ∧ h' = h ∧ la.take k = lb.take k) (fun k => la.length - k) 0 ⟨by omega, by simp, rfl, by simp⟩ ?_
    rintro k fr h3 ⟨hk, hi, rfl, he⟩ hf
    have g0 := hf 0 rfl
    have g1 := hf 1 rfl
    simp at g0 g1
    by_cases hkl : k < lb.length
    · have hka : k < la.length := by omega
      have e1 : (k : Int) < lb.length := by omega
      obtain ⟨b1, c1, s1, w1, z1, t1, r1, r2, r3, r4, r5⟩ := ha.ne (by omega)
      obtain ⟨b2, c2, s2, w2, z2, t2, q1, q2, q3, q4, q5⟩ := hb.ne (by omega)
      rw [r1, hn] at ea
      rw [q1] at eb
      cases ea
      cases eb
      have m1 := encsN_get hka
      have m2 := encsN_get hkl
      have hts := take_eq_succN hka hkl he
      have hw1 : IntKind.i64.wrap ((k : Int) + 1) = ((k + 1 : Nat) : Int) := wrap_succ (by omega)
      have x1 : k * 4 + 4 ≤ lb.length * 4 := by omega
      generalize nd la k = x at *
      generalize nd lb k = y at *
      by_cases hq : x = y
      · subst hq
        simp [h1, hi, g0, g1, e1, hkl, hka, hn, r3, q3, m1, m2, x1, hw1, -eqD_succ, eq_nd]
        exact ⟨k + 1, by omega, by omega, rfl, hts.mpr rfl⟩
      · have hne : la ≠ lb := by rintro rfl; exact hq (hts.mp rfl)
        simp [h1, hi, g0, g1, e1, hkl, hka, hn, r3, q3, m1, m2, x1, hq, hne, -eqD_succ, eq_nd]
    · have hab : la = lb := by
        rw [List.take_of_length_le (by omega), List.take_of_length_le (by omega)] at he
        exact he
      have e1 : ¬ (k : Int) < lb.length := by omega
      simp [h1, hi, g0, e1, hkl, hab]
  · have hne : la ≠ lb := by rintro rfl; exact hn rfl
    have hn' : ¬ ((la.length : Int) = (lb.length : Int)) := by omega
    obtain ⟨a, ca, rfl⟩ := ha.sl
    obtain ⟨b, cb, rfl⟩ := hb.sl
    simp [Tryd.f34, h1, hn, hn', hne]
set_option maxRecDepth 100000 in
set_option maxHeartbeats 8000000 in
theorem digits_sp (n : Nat) (hn : n < 2 ^ 60) (h : H) (h1 : h.one = []) :
    CallW E0 X0 (.fn 42) [.int .i64 n] h (fun r h' => r = str (dig n) ∧ Fr h.next h h') := by
  refine CallW.body efn42 rfl rfl rfl [] (by kernel_rfl) ?_
  have hdl := dig_len 20 n (Nat.lt_of_lt_of_le hn (by decide))
  simp [Tryd.f42, h1]
  refine wpd_loop (fun (s : Nat × List UInt8) fr h3 => fr.get 0 = some (.int .i64 (s.1 : Int)) ∧ fr.get 3 = some (str s.2) ∧ dig n = dig s.1 ++ s.2 ∧ s.1 ≤ n ∧ Fr h.next h h3) (fun s => s.1) (n, []) ⟨by simp, by simp, by simp, Nat.le_refl _, Fr.refl h1⟩ ?_
  rintro ⟨m, acc⟩ fr h3 ⟨f0, f3, he, hm, hf3⟩ hf
  simp only at f0 f3 he hm
  have hacc : acc.length ≤ 21 := by
    have := congrArg List.length he
    simp at this; omega
  obtain ⟨z, hz⟩ : ∃ z, z = m % 10 := ⟨_, rfl⟩
  obtain ⟨q, hq⟩ : ∃ q, q = m / 10 := ⟨_, rfl⟩
  have q1 : (m : Int).tmod 10 = (z : Int) := by rw [hz]; rfl
  have q2 : (m : Int).tdiv 10 = (q : Int) := by rw [hq]; rfl
  have w1 : IntKind.i64.wrap (48 + (z : Int)) = ((48 + z : Nat) : Int) := by rw [wrap_i64 (by omega) (by omega)]; omega
  have w2 : IntKind.u8.wrap (48 + (z : Int)) = 48 + (z : Int) := wrap_u8 (by omega) (by omega)
  have w3 : IntKind.i64.wrap (q : Int) = (q : Int) := wrap_i64 (by omega) (by omega)
  have z8 : zerosD [.int .u8 0] 1 = [.int .u8 0] := rfl
  have hdb : UInt8.ofNat (48 + z) = digB m := by rw [hz]; rfl
  have w4 : (48 + (z : Int)).toNat = 48 + z := by omega
  have hbd : bytesD [Value.int .u8 (48 + (z : Int))] = some [digB m] := by
    simp only [bytesD, w4, hdb]
    rfl
  have hsz : 1 + acc.length ≤ 4611686018427387904 := by omega
  have w0 : IntKind.i64.wrap 0 = 0 := by decide
  by_cases c : m < 10
  · have q0 : q = 0 := by omega
    have he2 : dig n = digB m :: acc := by rw [he, dig_lt c]; rfl
    subst q0
    simp [f0, f3, q1, q2, w0, w1, w2, z8, hf3.one, hbd, hsz]
    exact ⟨by rw [he2], hf3.nw hf3.next _⟩
  · have q0 : ¬ q = 0 := by omega
    have q0' : ¬ (q : Int) = 0 := by omega
    have he2 : dig n = dig q ++ (digB m :: acc) := by rw [he, dig_ge (by omega), hq]; simp
    simp [f0, f3, q1, q2, w1, w2, w3, z8, hf3.one, hbd, hsz, q0, q0']
    exact ⟨q, by omega, rfl, _, rfl, he2, by omega, hf3.nw hf3.next _⟩
set_option maxRecDepth 100000 in
set_option maxHeartbeats 8000000 in
theorem RefPrint_sp (l : List Nd) (n : Int) (t : Tr l n) (hk : ∀ x ∈ l, x.kind < 256) (v : Value) (hl : l.length < 2 ^ 20) (h : H) (h1 : h.one = []) (hr : RdN h v l) :
    CallW E0 X0 (.fn 31) [v] h (fun r h' => r = str (printN l) ∧ Fr h.next h h') := by
  refine CallW.body efn31 rfl rfl rfl [] (by kernel_rfl) ?_
  obtain ⟨b, cap, st, own, fz, ty, rfl, a2, a3, a4, a5⟩ := hr.ne t.len
  simp [Tryd.f31, h1]
  refine wpd_loop (fun (k : Nat) fr h3 => k ≤ l.length ∧ fr.get 4 = some (.int .i64 k) ∧ (∃ vb, fr.get 3 = some vb ∧ SlG (some 5) 1 h.next h3 vb (bytesV (printN (l.take k))) (printN (l.take k)).length) ∧ Fr h.next h h3) (fun k => l.length - k) 0 ⟨by omega, by simp, ⟨.slice none 0 0, by simp, SlG.nil ..⟩, Fr.refl h1⟩ ?_
  rintro k fr h3 ⟨hkl, f4, ⟨vb, f3, sl⟩, hf3⟩ hfe
  have g0 := hfe 0 rfl
  simp at g0
  have hb3 : h3.get b = some (.cells (encsN l) st own fz ty) := (hf3.get b a5).trans a3
  have hLt : LtN 2097152 l := by
    intro x hx
    obtain ⟨i, hi, rfl⟩ := List.getElem_of_mem hx
    rw [nd_get hi]
    have p1 := t.fm i hi
    have p2 := t.to i hi
    have p3 := t.mx i hi
    have p4 := t.n1
    have p5 := t.pos i hi
    have p6 := hk (nd l i) (by rw [← nd_get hi]; exact List.getElem_mem ..)
    omega
  have hpl := printN_len (M := 2097152) (by decide) (by decide) (l.take k) (fun x hx => hLt x (List.mem_of_mem_take hx))
  simp only [List.length_take, Nat.min_eq_left hkl] at hpl
  by_cases hk1 : k < l.length
  · have e1 : (k : Int) < l.length := by omega
    have rk0 := rd_kind hk1
    have b0 : k * 4 < (encsN l).length := by simp; omega
    have rk0' : (encsN l)[k * 4] = .int .u8 (nd l k).kind := Option.some.inj ((List.getElem?_eq_getElem b0).symm.trans rk0)
    have rk1 := rd_fm hk1
    have rk2 := rd_to hk1
    have rk3 := rd_dp hk1
    have p1 := t.fm k hk1
    have p2 := t.to k hk1
    have p3 := t.mx k hk1
    have p4 := t.n1
    have p5 := t.pos k hk1
    have p6 := hk (nd l k) (by rw [← nd_get hk1]; exact List.getElem_mem ..)
    have hpt := printN_take hk1
    have hw : IntKind.i64.wrap ((k : Int) + 1) = ((k + 1 : Nat) : Int) := wrap_succ (by omega)
    generalize hx : nd l k = x at *
    obtain ⟨xk, xf, xt, xd⟩ := x
    simp only at rk0' rk0 rk1 rk2 rk3 p1 p2 p3 p5 p6
    obtain ⟨nf, rfl⟩ := Int.eq_ofNat_of_zero_le p1
    obtain ⟨nt, rfl⟩ := Int.eq_ofNat_of_zero_le (show 0 ≤ xt by omega)
    obtain ⟨n4, rfl⟩ := Int.eq_ofNat_of_zero_le p5.1
    have hwk : IntKind.i64.wrap (xk : Int) = (xk : Int) := wrap_nat (by omega)
    have z8 : zerosD [.int .u8 0] 1 = [.int .u8 0] := rfl
    have l1 := dig_len 6 n4 (by omega)
    have l2 := dig_len 6 xk (by omega)
    have l3 := dig_len 6 nf (by omega)
    have l4 := dig_len 6 nt (by omega)
    have hln : lineN ⟨xk, (nf : Int), (nt : Int), (n4 : Int)⟩ = dig n4 ++ 32 :: (dig xk ++ 32 :: (dig nf ++ 32 :: (dig nt ++ [10]))) := line_eq _
    simp [f4, f3, g0, hb3, e1, hk1, hf3.one, rk3]
    refine (digits_sp n4 (by omega) h3 hf3.one).mono ?_
    rintro _ h4 ⟨rfl, q4⟩
    have c4 := hf3.trans (q4.mono hf3.next)
    simp [q4.one, -appS_some]
    refine (sl.of_get q4.next (fun g _ hg => q4.get g hg)).app q4.one c4.next (by simp) (by decide) (bytesV_cells _) (by omega) (by decide) (.inr rfl) ?_
    intro v5 h5 sl5 q5
    have c5 := c4.trans q5
    simp [q5.one, -appS_some, z8]
    refine (sl5.nw _).app (by simp) (by have := c5.next; simp; omega) (by rfl) (by decide) (by decide) (by omega) (by decide) (.inr rfl) ?_
    intro v6 h6 sl6 q6
    have c6 := (c5.nw c5.next _).trans q6
    have hb6 := (c6.get b a5).trans a3
    simp [q6.one, f4, g0, hb6, e1, hk1, rk0, rk0', hwk]
    refine (digits_sp xk (by omega) h6 q6.one).mono ?_
    rintro _ h7 ⟨rfl, q7⟩
    have c7 := c6.trans (q7.mono c6.next)
    simp [q7.one, -appS_some]
    refine (sl6.of_get q7.next (fun g _ hg => q7.get g hg)).app q7.one c7.next (by simp) (by decide) (bytesV_cells _) (by omega) (by decide) (.inr rfl) ?_
    intro v8 h8 sl8 q8
    have c8 := c7.trans q8
    simp [q8.one, -appS_some, z8]
    refine (sl8.nw _).app (by simp) (by have := c8.next; simp; omega) (by rfl) (by decide) (by decide) (by omega) (by decide) (.inr rfl) ?_
    intro v9 h9 sl9 q9
    have c9 := (c8.nw c8.next _).trans q9
    have hb9 := (c9.get b a5).trans a3
    simp [q9.one, f4, g0, hb9, e1, hk1, rk1]
    refine (digits_sp nf (by omega) h9 q9.one).mono ?_
    rintro _ h10 ⟨rfl, q10⟩
    have c10 := c9.trans (q10.mono c9.next)
    simp [q10.one, -appS_some]
    refine (sl9.of_get q10.next (fun g _ hg => q10.get g hg)).app q10.one c10.next (by simp) (by decide) (bytesV_cells _) (by omega) (by decide) (.inr rfl) ?_
    intro v11 h11 sl11 q11
    have c11 := c10.trans q11
    simp [q11.one, -appS_some, z8]
    refine (sl11.nw _).app (by simp) (by have := c11.next; simp; omega) (by rfl) (by decide) (by decide) (by omega) (by decide) (.inr rfl) ?_
    intro v12 h12 sl12 q12
    have c12 := (c11.nw c11.next _).trans q12
    have hb12 := (c12.get b a5).trans a3
    simp [q12.one, f4, g0, hb12, e1, hk1, rk2]
    refine (digits_sp nt (by omega) h12 q12.one).mono ?_
    rintro _ h13 ⟨rfl, q13⟩
    have c13 := c12.trans (q13.mono c12.next)
    simp [q13.one, -appS_some]
    refine (sl12.of_get q13.next (fun g _ hg => q13.get g hg)).app q13.one c13.next (by simp) (by decide) (bytesV_cells _) (by omega) (by decide) (.inr rfl) ?_
    intro v14 h14 sl14 q14
    have c14 := c13.trans q14
    simp [q14.one, -appS_some, z8]
    refine (sl14.nw _).app (by simp) (by have := c14.next; simp; omega) (by rfl) (by decide) (by decide) (by omega) (by decide) (.inr rfl) ?_
    intro v15 h15 sl15 q15
    have c15 := (c14.nw c14.next _).trans q15
    simp [q15.one, f4, hw]
    refine ⟨k + 1, by omega, by omega, rfl, ?_, c15⟩
    rw [hpt, hln]
    exact sl15.eq (by simp [bytesV]) (by simp; omega)
  · have e1 : ¬ (k : Int) < l.length := by omega
    rw [List.take_of_length_le (by omega)] at sl
    have hst := sl.str und5
    simp [f4, f3, g0, e1, hf3.one, hst]
    exact hf3
end Go.Dm
