/- What 'AppendInt' comes to, of numbers of three digits and more. -/
import Derived.Test.YtnmfdjmejpioiaaDoorTxN
import Derived.Test.YtnmfdjmejpioiaaDoorTrW
import Derived.Test.YtnmfdjmejpioiaaDoorTrE
set_option linter.unusedVariables false
set_option linter.unusedSimpArgs false
namespace Go.Dm
open Go.Proofs
theorem dig_length : ∀ (m n : Nat), 10 ^ m ≤ n → n < 10 ^ (m + 1) → (dig n).length = m + 1 := by
  intro m
  induction m with
  | zero => intro n h1 h2; rw [dig_lt (by simpa using h2)]; rfl
  | succ m ih =>
    intro n h1 h2
    have h3 : 10 ^ m * 10 ≤ n := by rw [← Nat.pow_succ]; exact h1
    have h4 : n < 10 ^ (m + 1) * 10 := by rw [← Nat.pow_succ]; exact h2
    have h5 : 1 ≤ 10 ^ m := Nat.one_le_pow _ _ (by decide)
    rw [dig_ge (by omega), List.length_append, ih (n / 10) (by omega) (by omega)]
    rfl
def len8 (x : Nat) : Nat := if x = 0 then 0 else x.log2 + 1
def lenN (u : Nat) : Nat := if u < 256 then len8 u else if u < 65536 then 8 + len8 (u / 256) else 16 + len8 (u / 65536)
theorem len8_tab : ∀ x, x < 256 → 0 < x → 2 ^ (len8 x - 1) ≤ x ∧ x < 2 ^ len8 x ∧ len8 x ≤ 8 ∧ 1 ≤ len8 x := by decide +kernel
theorem lenN_tab {u : Nat} (h : u < 2097152) (h0 : 0 < u) : 2 ^ (lenN u - 1) ≤ u ∧ u < 2 ^ lenN u ∧ lenN u ≤ 21 := by
  unfold lenN
  by_cases h1 : u < 256
  · rw [if_pos h1]
    obtain ⟨a, b, c, d⟩ := len8_tab u h1 h0
    exact ⟨a, b, by omega⟩
  rw [if_neg h1]
  by_cases h2 : u < 65536
  · rw [if_pos h2]
    obtain ⟨a, b, c, d⟩ := len8_tab (u / 256) (by omega) (by omega)
    generalize len8 (u / 256) = k at *
    obtain ⟨k, rfl⟩ : ∃ j, k = j + 1 := ⟨k - 1, by omega⟩
    rw [show k + 1 - 1 = k by omega] at a
    refine ⟨?_, ?_, by omega⟩
    · rw [show 8 + (k + 1) - 1 = k + 8 by omega, Nat.pow_add]; omega
    · rw [show 8 + (k + 1) = (k + 1) + 8 by omega, Nat.pow_add]; omega
  rw [if_neg h2]
  obtain ⟨a, b, c, d⟩ := len8_tab (u / 65536) (by omega) (by omega)
  have e : len8 (u / 65536) ≤ 5 := by
    have : ∀ x, x < 32 → len8 x ≤ 5 := by decide +kernel
    exact this _ (by omega)
  generalize len8 (u / 65536) = k at *
  obtain ⟨k, rfl⟩ : ∃ j, k = j + 1 := ⟨k - 1, by omega⟩
  rw [show k + 1 - 1 = k by omega] at a
  refine ⟨?_, ?_, by omega⟩
  · rw [show 16 + (k + 1) - 1 = k + 16 by omega, Nat.pow_add]; omega
  · rw [show 16 + (k + 1) = (k + 1) + 16 by omega, Nat.pow_add]; omega
def ndN (u : Nat) : Nat := lenN u * 78913 / 262144 + (if powL.getD (lenN u * 78913 / 262144) 0 ≤ u then 1 else 0)
theorem nd_dig {u : Nat} (h : u < 2097152) (h0 : 100 ≤ u) : ndN u = (dig u).length ∧ 3 ≤ ndN u ∧ ndN u ≤ 7 ∧ 10 ^ (ndN u - 1) ≤ u ∧ u < 10 ^ ndN u := by
  obtain ⟨a, b, c⟩ := lenN_tab h (by omega)
  have key : 3 ≤ ndN u ∧ ndN u ≤ 7 ∧ 10 ^ (ndN u - 1) ≤ u ∧ u < 10 ^ ndN u := by
    unfold ndN
    generalize lenN u = k at *
    have hk : k = 7 ∨ k = 8 ∨ k = 9 ∨ k = 10 ∨ k = 11 ∨ k = 12 ∨ k = 13 ∨ k = 14 ∨ k = 15 ∨ k = 16 ∨ k = 17 ∨ k = 18 ∨ k = 19 ∨ k = 20 ∨ k = 21 := by
      have : 6 < k := by
        rcases Nat.lt_or_ge 6 k with h | h
        · exact h
        · have : 2 ^ k ≤ 2 ^ 6 := Nat.pow_le_pow_right (by decide) h
          omega
      omega
    rcases hk with rfl | rfl | rfl | rfl | rfl | rfl | rfl | rfl | rfl | rfl | rfl | rfl | rfl | rfl | rfl <;> simp [powL, List.getD] at a b ⊢ <;> split <;> simp <;> omega
  refine ⟨?_, key⟩
  obtain ⟨k1, k2, k3, k4⟩ := key
  obtain ⟨m, hm⟩ : ∃ m, ndN u = m + 1 := ⟨ndN u - 1, by omega⟩
  rw [hm] at k3 k4 ⊢
  exact (dig_length m u k3 k4).symm
theorem idx_val {T : List UInt8} {f : Nat → Nat} {m x : Nat} (hx : x < m) (hl : T.length = m) (hT : ((List.range m).all fun x => (bt T x).toNat == f x) = true) {h : H} {K : VPost} (k : K (.int .u8 ((f x : Nat) : Int)) h) : ValW (idxB T (x : Int)) h K := by
  rw [idxB_nat (by rw [hl]; exact hx), ValW.some]
  have := List.all_eq_true.1 hT x (List.mem_range.2 hx)
  rw [show (bt T x).toNat = f x by simpa using this]
  exact k
set_option maxRecDepth 100000 in
set_option maxHeartbeats 8000000 in
theorem Len64_sp (u : Nat) (hu : u < 2097152) (h : H) (h1 : h.one = []) :
    CallW E0 X0 (.fn 90) [.int .u64 u] h (fun r h' => r = .int .i64 (lenN u : Nat) ∧ h' = h) := by
  refine CallW.body efn90 rfl rfl rfl [] (by kernel_rfl) ?_
  have c0 : ¬ (4294967296 : Int) ≤ u := by omega
  have hl8 : ∀ x, x < 256 → len8 x ≤ 8 := by decide +kernel
  by_cases c1 : u < 256
  · have d1 : ¬ (65536 : Int) ≤ u := by omega
    have d2 : ¬ (256 : Int) ≤ u := by omega
    have w1 : IntKind.u8.wrap (u : Int) = (u : Int) := wrap_u8 (by omega) (by omega)
    have w2 : IntKind.i64.wrap ((len8 u : Nat) : Int) = ((len8 u : Nat) : Int) := wrap_nat (by have := hl8 u c1; omega)
    have e : lenN u = len8 u := if_pos c1
    simp [Tryd.f90, h1, c0, d1, d2, w1, e]
    refine idx_val (f := len8) c1 (by rfl) (by decide +kernel) ?_
    simp [h1, w2]
  by_cases c2 : u < 65536
  · have d1 : ¬ (65536 : Int) ≤ u := by omega
    have d2 : (256 : Int) ≤ u := by omega
    have x1 : u / 256 < 256 := by omega
    obtain ⟨x, hx⟩ : ∃ x, x = u / 256 := ⟨_, rfl⟩
    rw [← hx] at x1
    have f1 : (u : Int).fdiv 256 = (x : Int) := by rw [hx, Int.ofNat_fdiv]; rfl
    have w1 : IntKind.u8.wrap (x : Int) = (x : Int) := wrap_u8 (by omega) (by omega)
    have l8 := hl8 x x1
    have w2 : IntKind.i64.wrap ((len8 x : Nat) : Int) = ((len8 x : Nat) : Int) := wrap_nat (by omega)
    have w3 : IntKind.i64.wrap (8 + ((len8 x : Nat) : Int)) = ((8 + len8 x : Nat) : Int) := by rw [wrap_i64 (by omega) (by omega)]; omega
    have w4 : IntKind.i64.wrap 8 = 8 := by decide
    have e : lenN u = 8 + len8 x := by unfold lenN; rw [if_neg c1, if_pos c2, hx]
    simp [Tryd.f90, h1, c0, d1, d2, f1, w1, w4, e]
    refine idx_val (f := len8) x1 (by rfl) (by decide +kernel) ?_
    simp [h1, w2, w3]
  · have d1 : (65536 : Int) ≤ u := by omega
    have x1 : u / 65536 < 256 := by omega
    obtain ⟨x, hx⟩ : ∃ x, x = u / 65536 := ⟨_, rfl⟩
    rw [← hx] at x1
    have d2 : ¬ (256 : Int) ≤ x := by omega
    have f1 : (u : Int).fdiv 65536 = (x : Int) := by rw [hx, Int.ofNat_fdiv]; rfl
    have w1 : IntKind.u8.wrap (x : Int) = (x : Int) := wrap_u8 (by omega) (by omega)
    have l8 := hl8 x x1
    have w2 : IntKind.i64.wrap ((len8 x : Nat) : Int) = ((len8 x : Nat) : Int) := wrap_nat (by omega)
    have w3 : IntKind.i64.wrap (16 + ((len8 x : Nat) : Int)) = ((16 + len8 x : Nat) : Int) := by rw [wrap_i64 (by omega) (by omega)]; omega
    have w4 : IntKind.i64.wrap 16 = 16 := by decide
    have e : lenN u = 16 + len8 x := by unfold lenN; rw [if_neg c1, if_neg c2, hx]
    simp [Tryd.f90, h1, c0, d1, d2, f1, w1, w4, e]
    refine idx_val (f := len8) x1 (by rfl) (by decide +kernel) ?_
    simp [h1, w2, w3]
set_option maxRecDepth 100000 in
set_option maxHeartbeats 8000000 in
theorem numDigits_sp (u : Nat) (hu : u < 2097152) (h0 : 100 ≤ u) (h : H) (hg : Gp h) (h1 : h.one = []) :
    CallW E0 X0 (.fn 73) [.int .u64 u] h (fun r h' => r = .int .i64 ((dig u).length : Nat) ∧ h' = h) := by
  refine CallW.body efn73 rfl rfl rfl [] (by kernel_rfl) ?_
  obtain ⟨hn, _, hn7, _, _⟩ := nd_dig hu h0
  obtain ⟨_, _, hl21⟩ := lenN_tab hu (by omega)
  have hg1 := hg.1
  simp [Tryd.f73, h1]
  refine (Len64_sp u hu h h1).mono ?_
  rintro _ h2 ⟨rfl, rfl⟩
  simp [h1]
  have hlog : CallW E0 X0 (.fn 89) [.int .i64 (lenN u : Nat)] h2 (fun r h' => r = .int .i64 ((lenN u * 78913 / 262144 : Nat) : Int) ∧ h' = h2) := by
    refine CallW.body efn89 rfl rfl rfl [] (by kernel_rfl) ?_
    have w1 : IntKind.i64.wrap ((lenN u : Nat) * 78913) = ((lenN u * 78913 : Nat) : Int) := by rw [wrap_i64 (by omega) (by omega)]; omega
    obtain ⟨y, hy⟩ : ∃ y, y = lenN u * 78913 := ⟨_, rfl⟩
    rw [← hy] at w1
    obtain ⟨z, hz⟩ : ∃ z, z = y / 262144 := ⟨_, rfl⟩
    have f1 : (y : Int).fdiv 262144 = (z : Int) := by rw [hz, Int.ofNat_fdiv]; rfl
    rw [← hy, ← hz]
    have ib : IntKind.i64.bits = 64 := rfl
    simp [Tryd.f89, h1, w1, f1, ib]
  refine hlog.mono ?_
  rintro _ h3 ⟨rfl, rfl⟩
  rw [← hn]
  unfold ndN
  have hk20 : lenN u * 78913 / 262144 < 20 := by omega
  generalize lenN u * 78913 / 262144 = k at *
  obtain ⟨p, hp⟩ : ∃ p, powL[k]? = some p := ⟨powL[k]'hk20, List.getElem?_eq_getElem _⟩
  have hpD : powL.getD k 0 = p := by simp [List.getD, hp]
  have hb : ∀ (b : Bool), CallW E0 X0 (.fn 91) [.bool b] h3 (fun r h' => r = .int .i64 (if b then 1 else 0) ∧ h' = h3) := by
    intro b
    refine CallW.body efn91 rfl rfl rfl [] (by kernel_rfl) ?_
    cases b <;> simp [Tryd.f91, h1]
  have hwk : IntKind.i64.wrap ((k : Int) + 1) = ((k + 1 : Nat) : Int) := wrap_succ (by omega)
  have hwk0 : IntKind.i64.wrap (k : Int) = (k : Int) := wrap_nat (by omega)
  have e1 : (k : Int) < 20 := by omega
  rw [hpD]
  simp [h1, hg1, hk20, hp, e1]
  refine (hb _).mono ?_
  rintro _ h4 ⟨rfl, rfl⟩
  by_cases c : p ≤ u
  · simp [h1, c, hwk]
  · simp [h1, c, hwk0]
end Go.Dm
