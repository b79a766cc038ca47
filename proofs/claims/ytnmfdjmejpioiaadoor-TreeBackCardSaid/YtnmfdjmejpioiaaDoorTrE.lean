/- Sums: a number's bytes eaten; the walk over a node and those within it. -/
import Derived.Test.YtnmfdjmejpioiaaDoorTrC
import Derived.Test.YtnmfdjmejpioiaaDoorTrH
set_option linter.unusedVariables false
set_option linter.unusedSimpArgs false
namespace Go.Dm
open Go.Proofs
@[simp] theorem asgPost_normal {E : Env} {X : Plug} (l : Nat) (L : List Nat) (bd : Code) (K : VPost) (fr : T Value) (h : H) : asgPost E X l L bd K .normal fr h = ∃ r1, h.get l = some (.loop r1) ∧ r1.state = .ready ∧ wpd E X L bd none (rndPost l K) fr (h.put l (.loop { r1 with state := .busy })) := by
  simp [asgPost]
@[simp] theorem rndPost_normal (l : Nat) (K : VPost) (fr : T Value) (h : H) : rndPost l K .normal fr h = ∃ r2, h.get l = some (.loop r2) ∧ K (.bool true) (h.put l (.loop { r2 with state := .ready, pending := none })) := by
  simp [rndPost, jumpOf]
@[simp] theorem xor64 (x y : Int) : intD .xor .u64 x y = some (.int .u64 (xr x y)) := _root_.id rfl
@[simp] theorem bin_shr {E : Env} (t : TypeId) (x y : Operand) (k k' : IntKind) (a b : Int) : binD E .shr t x y (.int k a) (.int k' b) = if b < 0 then none else some (.int k (a.fdiv (2 ^ min b.toNat k.bits))) := _root_.id rfl
@[simp] theorem bits64 : IntKind.u64.bits = 64 := _root_.id rfl
/-- All blocks but one are as they were. -/
structure Only (b : Nat) (h h' : H) : Prop where
  one : h'.one = []
  next : h'.next = h.next
  get : ∀ c, c ≠ b → h'.get c = h.get c
theorem fdiv_pow (x j : Nat) : ((x : Nat) : Int).fdiv (2 ^ (8 * j)) = ((x / 256 ^ j : Nat) : Int) := by
  have e : (2 : Nat) ^ (8 * j) = 256 ^ j := by rw [Nat.pow_mul]
  have : ((2 : Int) ^ (8 * j)) = ((256 ^ j : Nat) : Int) := by rw [← e]; simp
  rw [this, Int.ofNat_fdiv]
theorem wrap_u8_mod (m : Nat) : IntKind.u8.wrap (m : Int) = ((m % 256 : Nat) : Int) := by
  simp [IntKind.wrap, IntKind.signed, IntKind.bits]
theorem wrap_u64_mod (x : Int) : IntKind.u64.wrap x = ((u64n x : Nat) : Int) := by
  simp [IntKind.wrap, IntKind.signed, IntKind.bits, u64n]
  omega
set_option maxRecDepth 100000 in
set_option maxHeartbeats 8000000 in
theorem eat_sp (x : Int) (b : Nat) (s : Int) (st fz : Nat) (ty : Option TypeId) (h : H) (h1 : h.one = []) (hb : h.get b = some (.cells [.int .u64 s] st true 0 ty)) :
    CallW E0 X0 (.fn 37) [.int .i64 x, .pointer (some ⟨b, 0, none⟩)] h (fun r h' => h'.get b = some (.cells [.int .u64 (mix s (u64n x))] st true 0 ty) ∧ Only b h h') := by
  refine CallW.body efn37 rfl rfl rfl [] (by kernel_rfl) ?_
  simp [Tryd.f37, h1]
  refine wpd_loop (fun (j : Nat) fr h3 => j ≤ 8 ∧ (∃ c : Nat, c = 8 * j ∧ fr.get 3 = some (.int .i64 (c : Int))) ∧ (∃ u, h3.get b = some (.cells [.int .u64 u] st true 0 ty) ∧ mixF (u64n x) (8 - j) j u = mix s (u64n x)) ∧ Only b h h3) (fun j => 8 - j) 0 ⟨by omega, ⟨0, rfl, by simp⟩, ⟨s, hb, rfl⟩, ⟨h1, rfl, fun _ _ => rfl⟩⟩ ?_
  rintro j fr h3 ⟨hj, ⟨c, hc, f3⟩, ⟨u, hu, he⟩, ho⟩ hf
  have g0 := hf 0 rfl
  have g1 := hf 1 rfl
  simp at g0 g1
  by_cases hj8 : j < 8
  · have e1 : (c : Int) < 64 := by omega
    have e2 : ¬ (c : Int) < 0 := by omega
    have hm := mixF_step (u64n x) j u hj8
    have w1 := wrap_u64_mod x
    have w2 : min c 64 = c := by omega
    have w3 : ((u64n x : Nat) : Int).fdiv (2 ^ c) = ((u64n x / 256 ^ j : Nat) : Int) := by rw [hc]; exact fdiv_pow _ _
    have w4 := wrap_u8_mod (u64n x / 256 ^ j)
    have w6 : IntKind.i64.wrap ((c : Int) + 8) = ((c + 8 : Nat) : Int) := by rw [wrap_i64 (by omega) (by omega)]; omega
    generalize hz : u64n x / 256 ^ j % 256 = z at *
    have w5 : IntKind.u64.wrap (z : Int) = (z : Int) := wrap_u64 (by omega) (by omega)
    generalize u64n x / 256 ^ j = y at *
    simp [f3, g0, g1, hu, ho.one, e1, e2, w1, w2, w3, w4, w5, w6]
    refine ⟨j + 1, by omega, by omega, by omega, by rw [← he, hm]; rfl, ⟨ho.one, ho.next, fun d hd => ?_⟩⟩
    rw [H.get_put, if_neg hd]; exact ho.get d hd
  · have hj8' : j = 8 := by omega
    subst hj8'
    have e1 : ¬ (c : Int) < 64 := by omega
    simp [f3, ho.one, e1]
    exact ⟨by rw [hu, ← he]; rfl, ho⟩
set_option maxRecDepth 100000 in
set_option maxHeartbeats 8000000 in
theorem RefEat_sp (s : Int) (x : Nat) (hx : x < 18446744073709551616) (h : H) (h1 : h.one = []) :
    CallW E0 X0 (.fn 39) [.int .u64 s, .int .u64 x] h (fun r h' => r = .int .u64 (mix s x) ∧ h' = h) := by
  refine CallW.body efn39 rfl rfl rfl [] (by kernel_rfl) ?_
  simp [Tryd.f39, h1]
  refine wpd_loop (fun (j : Nat) fr h3 => j ≤ 8 ∧ fr.get 5 = some (.int .i64 (j : Int)) ∧ fr.get 1 = some (.int .u64 ((x / 256 ^ j : Nat) : Int)) ∧ (∃ u, fr.get 0 = some (.int .u64 u) ∧ mixF x (8 - j) j u = mix s x) ∧ h3 = h) (fun j => 8 - j) 0 ⟨by omega, by simp, by simp, ⟨s, by simp, rfl⟩, rfl⟩ ?_
  rintro j fr h3 ⟨hj, f5, f1, ⟨u, f0, he⟩, rfl⟩ hf
  by_cases hj8 : j < 8
  · have e1 : (j : Int) < 8 := by omega
    have hm := mixF_step x j u hj8
    have hw : IntKind.i64.wrap ((j : Int) + 1) = ((j + 1 : Nat) : Int) := wrap_succ (by omega)
    have hdp := div_pow_succ x j
    have hle : x / 256 ^ j ≤ x := Nat.div_le_self ..
    generalize hy : x / 256 ^ j = y at *
    have hq : ((x / 256 ^ (j + 1) : Nat) : Int) = (x : Int) / 256 ^ (j + 1) := by simp
    obtain ⟨z, hz⟩ : ∃ z, z = y % 256 := ⟨_, rfl⟩
    obtain ⟨z2, hz2⟩ : ∃ z, z = y / 256 := ⟨_, rfl⟩
    have q1 : (y : Int).tmod 256 = (z : Int) := by rw [hz]; rfl
    have q3 : (y : Int).tdiv 256 = (z2 : Int) := by rw [hz2]; rfl
    have q2 : IntKind.u64.wrap (z2 : Int) = (z2 : Int) := wrap_u64 (by omega) (by omega)
    simp [f5, f1, f0, e1, h1, hw, q1, q2, q3]
    refine ⟨j + 1, by omega, by omega, rfl, by rw [← hq, hdp, hz2], ?_⟩
    rw [← he, hm, hz]
    rfl
  · have hj8' : j = 8 := by omega
    subst hj8'
    simp [f5, f0, h1]
    rw [← he]; rfl
set_option maxRecDepth 100000 in
set_option maxHeartbeats 8000000 in
theorem within1_sp (l : List Nd) (i : Nat) (hi : i < l.length) (hl : l.length < 2 ^ 20) (bl bi y : Nat) (v : Value) (I : Nat → H → Prop)
    (hI : ∀ k h, I k h → h.one = [] ∧ (∃ s o f t, h.get bl = some (.cells [v] s o f t)) ∧ (∃ s o f t, h.get bi = some (.cells [.int .i64 i] s o f t)) ∧ RdN h v l)
    (step : ∀ k h, k < l.length → (k = i ∨ (nd l k).dp > (nd l i).dp) → I k h → CallW E0 X0 (.yd y) [.int .i64 k, .agg (encN (nd l k)).toArray] h (fun r h' => r = .bool true ∧ I (k + 1) h'))
    (h : H) (h0 : I i h) :
    CallW E0 X0 (.fn 49) [.func (.yield y) #[] #[], .pointer (some ⟨bi, 0, none⟩), .pointer (some ⟨bl, 0, none⟩)] h (fun r h' => ∃ k, i < k ∧ I k h' ∧ (k < l.length → ¬ (nd l k).dp > (nd l i).dp)) := by
  refine CallW.body efn49 rfl rfl rfl [] (by kernel_rfl) ?_
  obtain ⟨h1, ⟨s1, o1, z1, t1, q1⟩, ⟨s2, o2, z2, t2, q2⟩, _⟩ := hI i h h0
  simp [Tryd.f49, h1, q2]
  refine wpd_loop (fun (k : Nat) fr h3 => fr.get 4 = some (.int .i64 (k : Int)) ∧ i ≤ k ∧ k ≤ l.length ∧ I k h3) (fun k => l.length - k) i ⟨by simp, Nat.le_refl _, by omega, h0⟩ ?_
  rintro k fr h3 ⟨f4, hik, hkl, hIk⟩ hf
  obtain ⟨h1, ⟨s1, o1, z1, t1, q1⟩, ⟨s2, o2, z2, t2, q2⟩, hr⟩ := hI k h3 hIk
  have g0 := hf 0 rfl
  have g1 := hf 1 rfl
  have g2 := hf 2 rfl
  simp at g0 g1 g2
  by_cases hk : k < l.length
  · obtain ⟨b, cap, st, own, fz, ty, rfl, a2, a3, a4, a5⟩ := hr.ne (by omega)
    have hw : IntKind.i64.wrap ((k : Int) + 1) = ((k + 1 : Nat) : Int) := wrap_succ (by omega)
    have e1 : (k : Int) < l.length := by omega
    have e2 : (i : Int) < l.length := by omega
    have q3 := encsN_get hk
    have rk := rd_dp hk
    have ri := rd_dp hi
    have e3 : k * 4 + 4 ≤ l.length * 4 := by omega
    by_cases hki : k = i
    · subst hki
      simp [f4, g0, g1, g2, q1, q2, h1, a3, e1, e3, hk, q3]
      refine (step k h3 hk (.inl rfl) hIk).mono ?_
      rintro _ h4 ⟨rfl, hI4⟩
      obtain ⟨h14, _⟩ := hI _ _ hI4
      simp [h14, f4, hw]
      exact ⟨k + 1, by omega, rfl, by omega, hk, hI4⟩
    · have hki' : ¬ (k : Int) = (i : Int) := by omega
      by_cases c : (nd l i).dp < (nd l k).dp
      · simp [f4, g0, g1, g2, q1, q2, h1, a3, e1, e2, e3, hk, hi, q3, hki', hki, rk, ri, c]
        refine (step k h3 hk (.inr c) hIk).mono ?_
        rintro _ h4 ⟨rfl, hI4⟩
        obtain ⟨h14, _⟩ := hI _ _ hI4
        simp [h14, f4, hw]
        exact ⟨k + 1, by omega, rfl, by omega, hk, hI4⟩
      · simp [f4, g0, g1, g2, q1, q2, h1, a3, e1, e2, e3, hk, hi, hki', hki, rk, ri, c]
        exact ⟨k, by omega, hIk, fun _ => by omega⟩
  · have e1 : ¬ (k : Int) < l.length := by omega
    obtain ⟨a, cap, rfl⟩ := hr.sl
    simp [f4, g0, g1, g2, q1, q2, h1, e1]
    exact ⟨k, by omega, hIk, fun h => by omega⟩
set_option maxRecDepth 100000 in
set_option maxHeartbeats 8000000 in
theorem within_sp (v : Value) (hcv : v.cells.toList = [v]) (i : Int) (h : H) (h1 : h.one = []) :
    CallW E0 X0 (.fn 38) [v, .int .i64 i] h (fun r h' => r = .func (.func 49) #[] #[.pointer (some ⟨h.next + 1, 0, none⟩), .pointer (some ⟨h.next, 0, none⟩)] ∧ h' = (h.nw (.cells [v] 0 true 0 none)).nw (.cells [.int .i64 i] 0 true 0 none)) := by
  refine CallW.body efn38 rfl rfl rfl [] (by kernel_rfl) ?_
  simp [Tryd.f38, h1, hcv]
end Go.Dm
