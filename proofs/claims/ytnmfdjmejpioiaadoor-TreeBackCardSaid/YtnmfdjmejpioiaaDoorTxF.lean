/- What 'formatBase10' and 'AppendUint' come to, of three to seven digits. -/
import Derived.Test.YtnmfdjmejpioiaaDoorTxA
set_option linter.unusedVariables false
set_option linter.unusedSimpArgs false
namespace Go.Dm
open Go.Proofs
theorem wrap_u32 {x : Int} (h1 : 0 ≤ x) (h2 : x < 4294967296) : IntKind.u32.wrap x = x := wrap_u rfl h1 h2
theorem wrap_u32n {x : Nat} (h2 : x < 4294967296) : IntKind.u32.wrap (x : Int) = (x : Int) := wrap_u32 (by omega) (by omega)
/-- The digits of the pairs' table. -/
def pairN (x : Nat) : Nat := 48 + (if x % 2 = 0 then x / 2 / 10 else x / 2 % 10)
theorem pair_even {x y : Nat} (h : x = y * 2) : pairN x = 48 + y / 10 := by subst h; unfold pairN; rw [if_pos (by omega), show y * 2 / 2 = y by omega]
theorem pair_odd {x z y : Nat} (h : x = z + 1) (h2 : z = y * 2) : pairN x = 48 + y % 10 := by subst h h2; unfold pairN; rw [if_neg (by omega), show (y * 2 + 1) / 2 = y by omega]
theorem pairN_lt {x : Nat} (h : x < 200) : pairN x < 58 := by unfold pairN; split <;> omega
theorem dgV (n : Nat) : ((digB n).toNat : Nat) = 48 + n % 10 := (isDig_digB n).2
set_option maxRecDepth 100000 in
set_option maxHeartbeats 16000000 in
theorem fb3 (u : Nat) (h0 : 100 ≤ u) (hu : u < 1000) (b : Nat) (h : H) (h1 : h.one = []) (hb : h.get b = some (.cells [.int .u8 0, .int .u8 0, .int .u8 0, .int .u8 0, .int .u8 0, .int .u8 0, .int .u8 0, .int .u8 0, .int .u8 0, .int .u8 0, .int .u8 0, .int .u8 0, .int .u8 0, .int .u8 0, .int .u8 0, .int .u8 0, .int .u8 0, .int .u8 0, .int .u8 0, .int .u8 0, .int .u8 0, .int .u8 0, .int .u8 0, .int .u8 0] 0 true 0 none)) :
    CallW E0 X0 (.fn 74) [.slice (some ⟨b, 0, none⟩) 3 24, .int .u64 u] h (fun r h' => (∃ c, h'.get b = some (.cells c 0 true 0 none) ∧ c.length = 24 ∧ c.take 3 = bytesV (dig u)) ∧ Only b h h') := by
  refine CallW.body efn74 rfl rfl rfl [] (by kernel_rfl) ?_
  simp [Tryd.f74, h1]
  refine wpd_loop (fun (s : Nat) fr h3 => s = 0 ∧ fr.get 4 = some (.int .i64 3) ∧ fr.get 1 = some (.int .u64 u) ∧ h3 = h) (fun s => s) 0 ⟨rfl, by simp, by simp, rfl⟩ ?_
  rintro s0 fr h3 ⟨rfl, f4, g1, rfl⟩ hf
  have g0 := hf 0 rfl
  simp at g0
  obtain ⟨D, hD⟩ : ∃ x, x = u % 100 := ⟨_, rfl⟩
  obtain ⟨E, hE⟩ : ∃ x, x = u / 100 := ⟨_, rfl⟩
  obtain ⟨s, hs⟩ : ∃ x, x = D * 2 := ⟨_, rfl⟩
  obtain ⟨s1, hs1⟩ : ∃ x, x = s + 1 := ⟨_, rfl⟩
  have w1 : IntKind.u32.wrap (u : Int) = (u : Int) := by exact wrap_u32n (by omega)
  have w2 : (u : Int).tmod 100 = (D : Int) := by rw [hD]; rfl
  have w3 : (u : Int).tdiv 100 = (E : Int) := by rw [hE]; rfl
  have w4 : IntKind.u32.wrap (E : Int) = (E : Int) := by exact wrap_u32n (by omega)
  have w5 : IntKind.u32.wrap ((D : Int) * 2) = (s : Int) := by rw [wrap_u32 (by omega) (by omega)]; omega
  have w6 : IntKind.u32.wrap ((s : Int) + 1) = (s1 : Int) := by rw [wrap_u32 (by omega) (by omega)]; omega
  have w7 : IntKind.u32.wrap (48 + (E : Int)) = 48 + (E : Int) := by exact wrap_u32 (by omega) (by omega)
  have w8 : IntKind.u8.wrap (48 + (E : Int)) = 48 + (E : Int) := by exact wrap_u8 (by omega) (by omega)
  have w9 : IntKind.i64.wrap 1 = 1 := by decide
  have w10 : IntKind.i64.wrap 2 = 2 := by decide
  have w11 : IntKind.i64.wrap 3 = 3 := by decide
  have w12 : IntKind.i64.wrap 0 = 0 := by decide
  simp [f4, g0, g1, h1, hb, w1, w2, w3, w4, w5, w6, w7, w8, w9, w10, w11, w12]
  refine idx_val (f := pairN) (m := 200) (x := s1) (by omega) (by rfl) (by decide +kernel) ?_
  simp [f4, g0, g1, h1, hb, w1, w2, w3, w4, w5, w6, w7, w8, w9, w10, w11, w12]
  refine idx_val (f := pairN) (m := 200) (x := s) (by omega) (by rfl) (by decide +kernel) ?_
  simp [f4, g0, g1, h1, hb, w1, w2, w3, w4, w5, w6, w7, w8, w9, w10, w11, w12]
  refine ⟨?_, h1, by simp, fun c hc => by simp [hc]⟩
  have hdig : dig u = [digB (u / 100), digB (u / 10), digB (u)] := by
    rw [dig_ge (by omega)]
    rw [show u / 10 = u / 10 by omega]
    rw [dig_ge (n := u / 10) (by omega)]
    rw [show u / 10 / 10 = u / 100 by omega]
    rw [dig_lt (n := u / 100) (by omega)]
    rfl
  have es1 : pairN s1 = 48 + D % 10 := pair_odd hs1 hs
  have es : pairN s = 48 + D / 10 := pair_even hs
  rw [hdig]
  simp only [bytesV, List.map_cons, List.map_nil, dgV, es1, es]
  simp only [List.cons.injEq, Value.int.injEq, true_and, and_true]
  omega
set_option maxRecDepth 100000 in
set_option maxHeartbeats 16000000 in
theorem fb4 (u : Nat) (h0 : 1000 ≤ u) (hu : u < 10000) (b : Nat) (h : H) (h1 : h.one = []) (hb : h.get b = some (.cells [.int .u8 0, .int .u8 0, .int .u8 0, .int .u8 0, .int .u8 0, .int .u8 0, .int .u8 0, .int .u8 0, .int .u8 0, .int .u8 0, .int .u8 0, .int .u8 0, .int .u8 0, .int .u8 0, .int .u8 0, .int .u8 0, .int .u8 0, .int .u8 0, .int .u8 0, .int .u8 0, .int .u8 0, .int .u8 0, .int .u8 0, .int .u8 0] 0 true 0 none)) :
    CallW E0 X0 (.fn 74) [.slice (some ⟨b, 0, none⟩) 4 24, .int .u64 u] h (fun r h' => (∃ c, h'.get b = some (.cells c 0 true 0 none) ∧ c.length = 24 ∧ c.take 4 = bytesV (dig u)) ∧ Only b h h') := by
  refine CallW.body efn74 rfl rfl rfl [] (by kernel_rfl) ?_
  simp [Tryd.f74, h1]
  refine wpd_loop (fun (s : Nat) fr h3 => s = 0 ∧ fr.get 4 = some (.int .i64 4) ∧ fr.get 1 = some (.int .u64 u) ∧ h3 = h) (fun s => s) 0 ⟨rfl, by simp, by simp, rfl⟩ ?_
  rintro s0 fr h3 ⟨rfl, f4, g1, rfl⟩ hf
  have g0 := hf 0 rfl
  simp at g0
  obtain ⟨A, hA⟩ : ∃ x, x = u % 10000 := ⟨_, rfl⟩
  obtain ⟨Q, hQ⟩ : ∃ x, x = u / 10000 := ⟨_, rfl⟩
  obtain ⟨B, hB⟩ : ∃ x, x = A / 100 := ⟨_, rfl⟩
  obtain ⟨C, hC⟩ : ∃ x, x = A % 100 := ⟨_, rfl⟩
  obtain ⟨p, hp⟩ : ∃ x, x = C * 2 := ⟨_, rfl⟩
  obtain ⟨p1, hp1⟩ : ∃ x, x = p + 1 := ⟨_, rfl⟩
  obtain ⟨r, hr⟩ : ∃ x, x = B * 2 := ⟨_, rfl⟩
  obtain ⟨r1, hr1⟩ : ∃ x, x = r + 1 := ⟨_, rfl⟩
  have w1 : IntKind.u32.wrap (u : Int) = (u : Int) := by exact wrap_u32n (by omega)
  have w2 : (u : Int).tmod 10000 = (A : Int) := by rw [hA]; rfl
  have w3 : (u : Int).tdiv 10000 = (Q : Int) := by rw [hQ]; rfl
  have w4 : IntKind.u32.wrap (Q : Int) = (Q : Int) := by exact wrap_u32n (by omega)
  have w5 : (A : Int).tdiv 100 = (B : Int) := by rw [hB]; rfl
  have w6 : (A : Int).tmod 100 = (C : Int) := by rw [hC]; rfl
  have w7 : IntKind.u32.wrap (B : Int) = (B : Int) := by exact wrap_u32n (by omega)
  have w8 : IntKind.u32.wrap ((C : Int) * 2) = (p : Int) := by rw [wrap_u32 (by omega) (by omega)]; omega
  have w9 : IntKind.u32.wrap ((p : Int) + 1) = (p1 : Int) := by rw [wrap_u32 (by omega) (by omega)]; omega
  have w10 : IntKind.u32.wrap ((B : Int) * 2) = (r : Int) := by rw [wrap_u32 (by omega) (by omega)]; omega
  have w11 : IntKind.u32.wrap ((r : Int) + 1) = (r1 : Int) := by rw [wrap_u32 (by omega) (by omega)]; omega
  have w12 : IntKind.i64.wrap 1 = 1 := by decide
  have w13 : IntKind.i64.wrap 2 = 2 := by decide
  have w14 : IntKind.i64.wrap 3 = 3 := by decide
  have w15 : IntKind.i64.wrap 4 = 4 := by decide
  have w16 : IntKind.i64.wrap 0 = 0 := by decide
  simp [f4, g0, g1, h1, hb, w1, w2, w3, w4, w5, w6, w7, w8, w9, w10, w11, w12, w13, w14, w15, w16]
  refine idx_val (f := pairN) (m := 200) (x := p1) (by omega) (by rfl) (by decide +kernel) ?_
  simp [f4, g0, g1, h1, hb, w1, w2, w3, w4, w5, w6, w7, w8, w9, w10, w11, w12, w13, w14, w15, w16]
  refine idx_val (f := pairN) (m := 200) (x := p) (by omega) (by rfl) (by decide +kernel) ?_
  simp [f4, g0, g1, h1, hb, w1, w2, w3, w4, w5, w6, w7, w8, w9, w10, w11, w12, w13, w14, w15, w16]
  refine idx_val (f := pairN) (m := 200) (x := r1) (by omega) (by rfl) (by decide +kernel) ?_
  simp [f4, g0, g1, h1, hb, w1, w2, w3, w4, w5, w6, w7, w8, w9, w10, w11, w12, w13, w14, w15, w16]
  refine idx_val (f := pairN) (m := 200) (x := r) (by omega) (by rfl) (by decide +kernel) ?_
  simp [f4, g0, g1, h1, hb, w1, w2, w3, w4, w5, w6, w7, w8, w9, w10, w11, w12, w13, w14, w15, w16]
  refine ⟨?_, h1, by simp, fun c hc => by simp [hc]⟩
  have hdig : dig u = [digB (u / 1000), digB (u / 100), digB (u / 10), digB (u)] := by
    rw [dig_ge (by omega)]
    rw [show u / 10 = u / 10 by omega]
    rw [dig_ge (n := u / 10) (by omega)]
    rw [show u / 10 / 10 = u / 100 by omega]
    rw [dig_ge (n := u / 100) (by omega)]
    rw [show u / 100 / 10 = u / 1000 by omega]
    rw [dig_lt (n := u / 1000) (by omega)]
    rfl
  have ep1 : pairN p1 = 48 + C % 10 := pair_odd hp1 hp
  have ep : pairN p = 48 + C / 10 := pair_even hp
  have er1 : pairN r1 = 48 + B % 10 := pair_odd hr1 hr
  have er : pairN r = 48 + B / 10 := pair_even hr
  rw [hdig]
  simp only [bytesV, List.map_cons, List.map_nil, dgV, ep1, ep, er1, er]
  simp only [List.cons.injEq, Value.int.injEq, true_and, and_true]
  omega
set_option maxRecDepth 100000 in
set_option maxHeartbeats 16000000 in
theorem fb5 (u : Nat) (h0 : 10000 ≤ u) (hu : u < 100000) (b : Nat) (h : H) (h1 : h.one = []) (hb : h.get b = some (.cells [.int .u8 0, .int .u8 0, .int .u8 0, .int .u8 0, .int .u8 0, .int .u8 0, .int .u8 0, .int .u8 0, .int .u8 0, .int .u8 0, .int .u8 0, .int .u8 0, .int .u8 0, .int .u8 0, .int .u8 0, .int .u8 0, .int .u8 0, .int .u8 0, .int .u8 0, .int .u8 0, .int .u8 0, .int .u8 0, .int .u8 0, .int .u8 0] 0 true 0 none)) :
    CallW E0 X0 (.fn 74) [.slice (some ⟨b, 0, none⟩) 5 24, .int .u64 u] h (fun r h' => (∃ c, h'.get b = some (.cells c 0 true 0 none) ∧ c.length = 24 ∧ c.take 5 = bytesV (dig u)) ∧ Only b h h') := by
  refine CallW.body efn74 rfl rfl rfl [] (by kernel_rfl) ?_
  simp [Tryd.f74, h1]
  refine wpd_loop (fun (s : Nat) fr h3 => s = 0 ∧ fr.get 4 = some (.int .i64 5) ∧ fr.get 1 = some (.int .u64 u) ∧ h3 = h) (fun s => s) 0 ⟨rfl, by simp, by simp, rfl⟩ ?_
  rintro s0 fr h3 ⟨rfl, f4, g1, rfl⟩ hf
  have g0 := hf 0 rfl
  simp at g0
  obtain ⟨A, hA⟩ : ∃ x, x = u % 10000 := ⟨_, rfl⟩
  obtain ⟨Q, hQ⟩ : ∃ x, x = u / 10000 := ⟨_, rfl⟩
  obtain ⟨B, hB⟩ : ∃ x, x = A / 100 := ⟨_, rfl⟩
  obtain ⟨C, hC⟩ : ∃ x, x = A % 100 := ⟨_, rfl⟩
  obtain ⟨p, hp⟩ : ∃ x, x = C * 2 := ⟨_, rfl⟩
  obtain ⟨p1, hp1⟩ : ∃ x, x = p + 1 := ⟨_, rfl⟩
  obtain ⟨r, hr⟩ : ∃ x, x = B * 2 := ⟨_, rfl⟩
  obtain ⟨r1, hr1⟩ : ∃ x, x = r + 1 := ⟨_, rfl⟩
  have w1 : IntKind.u32.wrap (u : Int) = (u : Int) := by exact wrap_u32n (by omega)
  have w2 : (u : Int).tmod 10000 = (A : Int) := by rw [hA]; rfl
  have w3 : (u : Int).tdiv 10000 = (Q : Int) := by rw [hQ]; rfl
  have w4 : IntKind.u32.wrap (Q : Int) = (Q : Int) := by exact wrap_u32n (by omega)
  have w5 : (A : Int).tdiv 100 = (B : Int) := by rw [hB]; rfl
  have w6 : (A : Int).tmod 100 = (C : Int) := by rw [hC]; rfl
  have w7 : IntKind.u32.wrap (B : Int) = (B : Int) := by exact wrap_u32n (by omega)
  have w8 : IntKind.u32.wrap ((C : Int) * 2) = (p : Int) := by rw [wrap_u32 (by omega) (by omega)]; omega
  have w9 : IntKind.u32.wrap ((p : Int) + 1) = (p1 : Int) := by rw [wrap_u32 (by omega) (by omega)]; omega
  have w10 : IntKind.u32.wrap ((B : Int) * 2) = (r : Int) := by rw [wrap_u32 (by omega) (by omega)]; omega
  have w11 : IntKind.u32.wrap ((r : Int) + 1) = (r1 : Int) := by rw [wrap_u32 (by omega) (by omega)]; omega
  have w12 : IntKind.u32.wrap (48 + (Q : Int)) = 48 + (Q : Int) := by exact wrap_u32 (by omega) (by omega)
  have w13 : IntKind.u8.wrap (48 + (Q : Int)) = 48 + (Q : Int) := by exact wrap_u8 (by omega) (by omega)
  have w14 : IntKind.i64.wrap 1 = 1 := by decide
  have w15 : IntKind.i64.wrap 2 = 2 := by decide
  have w16 : IntKind.i64.wrap 3 = 3 := by decide
  have w17 : IntKind.i64.wrap 4 = 4 := by decide
  have w18 : IntKind.i64.wrap 5 = 5 := by decide
  have w19 : IntKind.i64.wrap 0 = 0 := by decide
  simp [f4, g0, g1, h1, hb, w1, w2, w3, w4, w5, w6, w7, w8, w9, w10, w11, w12, w13, w14, w15, w16, w17, w18, w19]
  refine idx_val (f := pairN) (m := 200) (x := p1) (by omega) (by rfl) (by decide +kernel) ?_
  simp [f4, g0, g1, h1, hb, w1, w2, w3, w4, w5, w6, w7, w8, w9, w10, w11, w12, w13, w14, w15, w16, w17, w18, w19]
  refine idx_val (f := pairN) (m := 200) (x := p) (by omega) (by rfl) (by decide +kernel) ?_
  simp [f4, g0, g1, h1, hb, w1, w2, w3, w4, w5, w6, w7, w8, w9, w10, w11, w12, w13, w14, w15, w16, w17, w18, w19]
  refine idx_val (f := pairN) (m := 200) (x := r1) (by omega) (by rfl) (by decide +kernel) ?_
  simp [f4, g0, g1, h1, hb, w1, w2, w3, w4, w5, w6, w7, w8, w9, w10, w11, w12, w13, w14, w15, w16, w17, w18, w19]
  refine idx_val (f := pairN) (m := 200) (x := r) (by omega) (by rfl) (by decide +kernel) ?_
  simp [f4, g0, g1, h1, hb, w1, w2, w3, w4, w5, w6, w7, w8, w9, w10, w11, w12, w13, w14, w15, w16, w17, w18, w19]
  refine ⟨?_, h1, by simp, fun c hc => by simp [hc]⟩
  have hdig : dig u = [digB (u / 10000), digB (u / 1000), digB (u / 100), digB (u / 10), digB (u)] := by
    rw [dig_ge (by omega)]
    rw [show u / 10 = u / 10 by omega]
    rw [dig_ge (n := u / 10) (by omega)]
    rw [show u / 10 / 10 = u / 100 by omega]
    rw [dig_ge (n := u / 100) (by omega)]
    rw [show u / 100 / 10 = u / 1000 by omega]
    rw [dig_ge (n := u / 1000) (by omega)]
    rw [show u / 1000 / 10 = u / 10000 by omega]
    rw [dig_lt (n := u / 10000) (by omega)]
    rfl
  have ep1 : pairN p1 = 48 + C % 10 := pair_odd hp1 hp
  have ep : pairN p = 48 + C / 10 := pair_even hp
  have er1 : pairN r1 = 48 + B % 10 := pair_odd hr1 hr
  have er : pairN r = 48 + B / 10 := pair_even hr
  rw [hdig]
  simp only [bytesV, List.map_cons, List.map_nil, dgV, ep1, ep, er1, er]
  simp only [List.cons.injEq, Value.int.injEq, true_and, and_true]
  omega
set_option maxRecDepth 100000 in
set_option maxHeartbeats 16000000 in
theorem fb6 (u : Nat) (h0 : 100000 ≤ u) (hu : u < 1000000) (b : Nat) (h : H) (h1 : h.one = []) (hb : h.get b = some (.cells [.int .u8 0, .int .u8 0, .int .u8 0, .int .u8 0, .int .u8 0, .int .u8 0, .int .u8 0, .int .u8 0, .int .u8 0, .int .u8 0, .int .u8 0, .int .u8 0, .int .u8 0, .int .u8 0, .int .u8 0, .int .u8 0, .int .u8 0, .int .u8 0, .int .u8 0, .int .u8 0, .int .u8 0, .int .u8 0, .int .u8 0, .int .u8 0] 0 true 0 none)) :
    CallW E0 X0 (.fn 74) [.slice (some ⟨b, 0, none⟩) 6 24, .int .u64 u] h (fun r h' => (∃ c, h'.get b = some (.cells c 0 true 0 none) ∧ c.length = 24 ∧ c.take 6 = bytesV (dig u)) ∧ Only b h h') := by
  refine CallW.body efn74 rfl rfl rfl [] (by kernel_rfl) ?_
  simp [Tryd.f74, h1]
  refine wpd_loop (fun (s : Nat) fr h3 => s = 0 ∧ fr.get 4 = some (.int .i64 6) ∧ fr.get 1 = some (.int .u64 u) ∧ h3 = h) (fun s => s) 0 ⟨rfl, by simp, by simp, rfl⟩ ?_
  rintro s0 fr h3 ⟨rfl, f4, g1, rfl⟩ hf
  have g0 := hf 0 rfl
  simp at g0
  obtain ⟨A, hA⟩ : ∃ x, x = u % 10000 := ⟨_, rfl⟩
  obtain ⟨Q, hQ⟩ : ∃ x, x = u / 10000 := ⟨_, rfl⟩
  obtain ⟨B, hB⟩ : ∃ x, x = A / 100 := ⟨_, rfl⟩
  obtain ⟨C, hC⟩ : ∃ x, x = A % 100 := ⟨_, rfl⟩
  obtain ⟨p, hp⟩ : ∃ x, x = C * 2 := ⟨_, rfl⟩
  obtain ⟨p1, hp1⟩ : ∃ x, x = p + 1 := ⟨_, rfl⟩
  obtain ⟨r, hr⟩ : ∃ x, x = B * 2 := ⟨_, rfl⟩
  obtain ⟨r1, hr1⟩ : ∃ x, x = r + 1 := ⟨_, rfl⟩
  obtain ⟨D, hD⟩ : ∃ x, x = Q % 100 := ⟨_, rfl⟩
  obtain ⟨E, hE⟩ : ∃ x, x = Q / 100 := ⟨_, rfl⟩
  obtain ⟨s, hs⟩ : ∃ x, x = D * 2 := ⟨_, rfl⟩
  obtain ⟨s1, hs1⟩ : ∃ x, x = s + 1 := ⟨_, rfl⟩
  have w1 : IntKind.u32.wrap (u : Int) = (u : Int) := by exact wrap_u32n (by omega)
  have w2 : (u : Int).tmod 10000 = (A : Int) := by rw [hA]; rfl
  have w3 : (u : Int).tdiv 10000 = (Q : Int) := by rw [hQ]; rfl
  have w4 : IntKind.u32.wrap (Q : Int) = (Q : Int) := by exact wrap_u32n (by omega)
  have w5 : (A : Int).tdiv 100 = (B : Int) := by rw [hB]; rfl
  have w6 : (A : Int).tmod 100 = (C : Int) := by rw [hC]; rfl
  have w7 : IntKind.u32.wrap (B : Int) = (B : Int) := by exact wrap_u32n (by omega)
  have w8 : IntKind.u32.wrap ((C : Int) * 2) = (p : Int) := by rw [wrap_u32 (by omega) (by omega)]; omega
  have w9 : IntKind.u32.wrap ((p : Int) + 1) = (p1 : Int) := by rw [wrap_u32 (by omega) (by omega)]; omega
  have w10 : IntKind.u32.wrap ((B : Int) * 2) = (r : Int) := by rw [wrap_u32 (by omega) (by omega)]; omega
  have w11 : IntKind.u32.wrap ((r : Int) + 1) = (r1 : Int) := by rw [wrap_u32 (by omega) (by omega)]; omega
  have w12 : (Q : Int).tmod 100 = (D : Int) := by rw [hD]; rfl
  have w13 : (Q : Int).tdiv 100 = (E : Int) := by rw [hE]; rfl
  have w14 : IntKind.u32.wrap (E : Int) = (E : Int) := by exact wrap_u32n (by omega)
  have w15 : IntKind.u32.wrap ((D : Int) * 2) = (s : Int) := by rw [wrap_u32 (by omega) (by omega)]; omega
  have w16 : IntKind.u32.wrap ((s : Int) + 1) = (s1 : Int) := by rw [wrap_u32 (by omega) (by omega)]; omega
  have w17 : IntKind.i64.wrap 1 = 1 := by decide
  have w18 : IntKind.i64.wrap 2 = 2 := by decide
  have w19 : IntKind.i64.wrap 3 = 3 := by decide
  have w20 : IntKind.i64.wrap 4 = 4 := by decide
  have w21 : IntKind.i64.wrap 5 = 5 := by decide
  have w22 : IntKind.i64.wrap 6 = 6 := by decide
  have w23 : IntKind.i64.wrap 0 = 0 := by decide
  simp [f4, g0, g1, h1, hb, w1, w2, w3, w4, w5, w6, w7, w8, w9, w10, w11, w12, w13, w14, w15, w16, w17, w18, w19, w20, w21, w22, w23]
  refine idx_val (f := pairN) (m := 200) (x := p1) (by omega) (by rfl) (by decide +kernel) ?_
  simp [f4, g0, g1, h1, hb, w1, w2, w3, w4, w5, w6, w7, w8, w9, w10, w11, w12, w13, w14, w15, w16, w17, w18, w19, w20, w21, w22, w23]
  refine idx_val (f := pairN) (m := 200) (x := p) (by omega) (by rfl) (by decide +kernel) ?_
  simp [f4, g0, g1, h1, hb, w1, w2, w3, w4, w5, w6, w7, w8, w9, w10, w11, w12, w13, w14, w15, w16, w17, w18, w19, w20, w21, w22, w23]
  refine idx_val (f := pairN) (m := 200) (x := r1) (by omega) (by rfl) (by decide +kernel) ?_
  simp [f4, g0, g1, h1, hb, w1, w2, w3, w4, w5, w6, w7, w8, w9, w10, w11, w12, w13, w14, w15, w16, w17, w18, w19, w20, w21, w22, w23]
  refine idx_val (f := pairN) (m := 200) (x := r) (by omega) (by rfl) (by decide +kernel) ?_
  simp [f4, g0, g1, h1, hb, w1, w2, w3, w4, w5, w6, w7, w8, w9, w10, w11, w12, w13, w14, w15, w16, w17, w18, w19, w20, w21, w22, w23]
  refine idx_val (f := pairN) (m := 200) (x := s1) (by omega) (by rfl) (by decide +kernel) ?_
  simp [f4, g0, g1, h1, hb, w1, w2, w3, w4, w5, w6, w7, w8, w9, w10, w11, w12, w13, w14, w15, w16, w17, w18, w19, w20, w21, w22, w23]
  refine idx_val (f := pairN) (m := 200) (x := s) (by omega) (by rfl) (by decide +kernel) ?_
  simp [f4, g0, g1, h1, hb, w1, w2, w3, w4, w5, w6, w7, w8, w9, w10, w11, w12, w13, w14, w15, w16, w17, w18, w19, w20, w21, w22, w23]
  refine ⟨?_, h1, by simp, fun c hc => by simp [hc]⟩
  have hdig : dig u = [digB (u / 100000), digB (u / 10000), digB (u / 1000), digB (u / 100), digB (u / 10), digB (u)] := by
    rw [dig_ge (by omega)]
    rw [show u / 10 = u / 10 by omega]
    rw [dig_ge (n := u / 10) (by omega)]
    rw [show u / 10 / 10 = u / 100 by omega]
    rw [dig_ge (n := u / 100) (by omega)]
    rw [show u / 100 / 10 = u / 1000 by omega]
    rw [dig_ge (n := u / 1000) (by omega)]
    rw [show u / 1000 / 10 = u / 10000 by omega]
    rw [dig_ge (n := u / 10000) (by omega)]
    rw [show u / 10000 / 10 = u / 100000 by omega]
    rw [dig_lt (n := u / 100000) (by omega)]
    rfl
  have ep1 : pairN p1 = 48 + C % 10 := pair_odd hp1 hp
  have ep : pairN p = 48 + C / 10 := pair_even hp
  have er1 : pairN r1 = 48 + B % 10 := pair_odd hr1 hr
  have er : pairN r = 48 + B / 10 := pair_even hr
  have es1 : pairN s1 = 48 + D % 10 := pair_odd hs1 hs
  have es : pairN s = 48 + D / 10 := pair_even hs
  rw [hdig]
  simp only [bytesV, List.map_cons, List.map_nil, dgV, ep1, ep, er1, er, es1, es]
  simp only [List.cons.injEq, Value.int.injEq, true_and, and_true]
  omega
set_option maxRecDepth 100000 in
set_option maxHeartbeats 16000000 in
theorem fb7 (u : Nat) (h0 : 1000000 ≤ u) (hu : u < 10000000) (b : Nat) (h : H) (h1 : h.one = []) (hb : h.get b = some (.cells [.int .u8 0, .int .u8 0, .int .u8 0, .int .u8 0, .int .u8 0, .int .u8 0, .int .u8 0, .int .u8 0, .int .u8 0, .int .u8 0, .int .u8 0, .int .u8 0, .int .u8 0, .int .u8 0, .int .u8 0, .int .u8 0, .int .u8 0, .int .u8 0, .int .u8 0, .int .u8 0, .int .u8 0, .int .u8 0, .int .u8 0, .int .u8 0] 0 true 0 none)) :
    CallW E0 X0 (.fn 74) [.slice (some ⟨b, 0, none⟩) 7 24, .int .u64 u] h (fun r h' => (∃ c, h'.get b = some (.cells c 0 true 0 none) ∧ c.length = 24 ∧ c.take 7 = bytesV (dig u)) ∧ Only b h h') := by
  refine CallW.body efn74 rfl rfl rfl [] (by kernel_rfl) ?_
  simp [Tryd.f74, h1]
  refine wpd_loop (fun (s : Nat) fr h3 => s = 0 ∧ fr.get 4 = some (.int .i64 7) ∧ fr.get 1 = some (.int .u64 u) ∧ h3 = h) (fun s => s) 0 ⟨rfl, by simp, by simp, rfl⟩ ?_
  rintro s0 fr h3 ⟨rfl, f4, g1, rfl⟩ hf
  have g0 := hf 0 rfl
  simp at g0
  obtain ⟨A, hA⟩ : ∃ x, x = u % 10000 := ⟨_, rfl⟩
  obtain ⟨Q, hQ⟩ : ∃ x, x = u / 10000 := ⟨_, rfl⟩
  obtain ⟨B, hB⟩ : ∃ x, x = A / 100 := ⟨_, rfl⟩
  obtain ⟨C, hC⟩ : ∃ x, x = A % 100 := ⟨_, rfl⟩
  obtain ⟨p, hp⟩ : ∃ x, x = C * 2 := ⟨_, rfl⟩
  obtain ⟨p1, hp1⟩ : ∃ x, x = p + 1 := ⟨_, rfl⟩
  obtain ⟨r, hr⟩ : ∃ x, x = B * 2 := ⟨_, rfl⟩
  obtain ⟨r1, hr1⟩ : ∃ x, x = r + 1 := ⟨_, rfl⟩
  obtain ⟨D, hD⟩ : ∃ x, x = Q % 100 := ⟨_, rfl⟩
  obtain ⟨E, hE⟩ : ∃ x, x = Q / 100 := ⟨_, rfl⟩
  obtain ⟨s, hs⟩ : ∃ x, x = D * 2 := ⟨_, rfl⟩
  obtain ⟨s1, hs1⟩ : ∃ x, x = s + 1 := ⟨_, rfl⟩
  have w1 : IntKind.u32.wrap (u : Int) = (u : Int) := by exact wrap_u32n (by omega)
  have w2 : (u : Int).tmod 10000 = (A : Int) := by rw [hA]; rfl
  have w3 : (u : Int).tdiv 10000 = (Q : Int) := by rw [hQ]; rfl
  have w4 : IntKind.u32.wrap (Q : Int) = (Q : Int) := by exact wrap_u32n (by omega)
  have w5 : (A : Int).tdiv 100 = (B : Int) := by rw [hB]; rfl
  have w6 : (A : Int).tmod 100 = (C : Int) := by rw [hC]; rfl
  have w7 : IntKind.u32.wrap (B : Int) = (B : Int) := by exact wrap_u32n (by omega)
  have w8 : IntKind.u32.wrap ((C : Int) * 2) = (p : Int) := by rw [wrap_u32 (by omega) (by omega)]; omega
  have w9 : IntKind.u32.wrap ((p : Int) + 1) = (p1 : Int) := by rw [wrap_u32 (by omega) (by omega)]; omega
  have w10 : IntKind.u32.wrap ((B : Int) * 2) = (r : Int) := by rw [wrap_u32 (by omega) (by omega)]; omega
  have w11 : IntKind.u32.wrap ((r : Int) + 1) = (r1 : Int) := by rw [wrap_u32 (by omega) (by omega)]; omega
  have w12 : (Q : Int).tmod 100 = (D : Int) := by rw [hD]; rfl
  have w13 : (Q : Int).tdiv 100 = (E : Int) := by rw [hE]; rfl
  have w14 : IntKind.u32.wrap (E : Int) = (E : Int) := by exact wrap_u32n (by omega)
  have w15 : IntKind.u32.wrap ((D : Int) * 2) = (s : Int) := by rw [wrap_u32 (by omega) (by omega)]; omega
  have w16 : IntKind.u32.wrap ((s : Int) + 1) = (s1 : Int) := by rw [wrap_u32 (by omega) (by omega)]; omega
  have w17 : IntKind.u32.wrap (48 + (E : Int)) = 48 + (E : Int) := by exact wrap_u32 (by omega) (by omega)
  have w18 : IntKind.u8.wrap (48 + (E : Int)) = 48 + (E : Int) := by exact wrap_u8 (by omega) (by omega)
  have w19 : IntKind.i64.wrap 1 = 1 := by decide
  have w20 : IntKind.i64.wrap 2 = 2 := by decide
  have w21 : IntKind.i64.wrap 3 = 3 := by decide
  have w22 : IntKind.i64.wrap 4 = 4 := by decide
  have w23 : IntKind.i64.wrap 5 = 5 := by decide
  have w24 : IntKind.i64.wrap 6 = 6 := by decide
  have w25 : IntKind.i64.wrap 7 = 7 := by decide
  have w26 : IntKind.i64.wrap 0 = 0 := by decide
  simp [f4, g0, g1, h1, hb, w1, w2, w3, w4, w5, w6, w7, w8, w9, w10, w11, w12, w13, w14, w15, w16, w17, w18, w19, w20, w21, w22, w23, w24, w25, w26]
  refine idx_val (f := pairN) (m := 200) (x := p1) (by omega) (by rfl) (by decide +kernel) ?_
  simp [f4, g0, g1, h1, hb, w1, w2, w3, w4, w5, w6, w7, w8, w9, w10, w11, w12, w13, w14, w15, w16, w17, w18, w19, w20, w21, w22, w23, w24, w25, w26]
  refine idx_val (f := pairN) (m := 200) (x := p) (by omega) (by rfl) (by decide +kernel) ?_
  simp [f4, g0, g1, h1, hb, w1, w2, w3, w4, w5, w6, w7, w8, w9, w10, w11, w12, w13, w14, w15, w16, w17, w18, w19, w20, w21, w22, w23, w24, w25, w26]
  refine idx_val (f := pairN) (m := 200) (x := r1) (by omega) (by rfl) (by decide +kernel) ?_
  simp [f4, g0, g1, h1, hb, w1, w2, w3, w4, w5, w6, w7, w8, w9, w10, w11, w12, w13, w14, w15, w16, w17, w18, w19, w20, w21, w22, w23, w24, w25, w26]
  refine idx_val (f := pairN) (m := 200) (x := r) (by omega) (by rfl) (by decide +kernel) ?_
  simp [f4, g0, g1, h1, hb, w1, w2, w3, w4, w5, w6, w7, w8, w9, w10, w11, w12, w13, w14, w15, w16, w17, w18, w19, w20, w21, w22, w23, w24, w25, w26]
  refine idx_val (f := pairN) (m := 200) (x := s1) (by omega) (by rfl) (by decide +kernel) ?_
  simp [f4, g0, g1, h1, hb, w1, w2, w3, w4, w5, w6, w7, w8, w9, w10, w11, w12, w13, w14, w15, w16, w17, w18, w19, w20, w21, w22, w23, w24, w25, w26]
  refine idx_val (f := pairN) (m := 200) (x := s) (by omega) (by rfl) (by decide +kernel) ?_
  simp [f4, g0, g1, h1, hb, w1, w2, w3, w4, w5, w6, w7, w8, w9, w10, w11, w12, w13, w14, w15, w16, w17, w18, w19, w20, w21, w22, w23, w24, w25, w26]
  refine ⟨?_, h1, by simp, fun c hc => by simp [hc]⟩
  have hdig : dig u = [digB (u / 1000000), digB (u / 100000), digB (u / 10000), digB (u / 1000), digB (u / 100), digB (u / 10), digB (u)] := by
    rw [dig_ge (by omega)]
    rw [show u / 10 = u / 10 by omega]
    rw [dig_ge (n := u / 10) (by omega)]
    rw [show u / 10 / 10 = u / 100 by omega]
    rw [dig_ge (n := u / 100) (by omega)]
    rw [show u / 100 / 10 = u / 1000 by omega]
    rw [dig_ge (n := u / 1000) (by omega)]
    rw [show u / 1000 / 10 = u / 10000 by omega]
    rw [dig_ge (n := u / 10000) (by omega)]
    rw [show u / 10000 / 10 = u / 100000 by omega]
    rw [dig_ge (n := u / 100000) (by omega)]
    rw [show u / 100000 / 10 = u / 1000000 by omega]
    rw [dig_lt (n := u / 1000000) (by omega)]
    rfl
  have ep1 : pairN p1 = 48 + C % 10 := pair_odd hp1 hp
  have ep : pairN p = 48 + C / 10 := pair_even hp
  have er1 : pairN r1 = 48 + B % 10 := pair_odd hr1 hr
  have er : pairN r = 48 + B / 10 := pair_even hr
  have es1 : pairN s1 = 48 + D % 10 := pair_odd hs1 hs
  have es : pairN s = 48 + D / 10 := pair_even hs
  rw [hdig]
  simp only [bytesV, List.map_cons, List.map_nil, dgV, ep1, ep, er1, er, es1, es]
  simp only [List.cons.injEq, Value.int.injEq, true_and, and_true]
  omega
end Go.Dm
