/- Numbers' digits, and what 'AppendInt' comes to for small numbers. -/
import Derived.Test.YtnmfdjmejpioiaaDoorTrC
set_option linter.unusedVariables false
set_option linter.unusedSimpArgs false
namespace Go.Dm
open Go.Proofs
def digB (n : Nat) : UInt8 := UInt8.ofNat (48 + n % 10)
def digF : Nat → Nat → List UInt8
  | 0, _ => []
  | f + 1, n => if n < 10 then [digB n] else digF f (n / 10) ++ [digB n]
/-- A number's digits. -/
def dig (n : Nat) : List UInt8 := digF (n + 1) n
theorem digF_more : ∀ (f g n : Nat), n < f → n < g → digF f n = digF g n := by
  intro f
  induction f with
  | zero => intro g n h; omega
  | succ f ih =>
    intro g n h1 h2
    obtain ⟨g, rfl⟩ : ∃ k, g = k + 1 := ⟨g - 1, by omega⟩
    unfold digF
    by_cases c : n < 10
    · rw [if_pos c, if_pos c]
    · rw [if_neg c, if_neg c, ih g (n / 10) (by omega) (by omega)]
theorem dig_lt {n : Nat} (h : n < 10) : dig n = [digB n] := by unfold dig digF; rw [if_pos h]
theorem dig_ge {n : Nat} (h : 10 ≤ n) : dig n = dig (n / 10) ++ [digB n] := by
  unfold dig
  conv => lhs; unfold digF
  rw [if_neg (by omega), digF_more n (n / 10 + 1) (n / 10) (by omega) (by omega)]
theorem dig_pos (n : Nat) : dig n ≠ [] := by
  by_cases h : n < 10
  · rw [dig_lt h]; simp
  · rw [dig_ge (by omega)]; simp
def bytesV (l : List UInt8) : List Value := l.map fun b => .int .u8 b.toNat
@[simp] theorem bytesV_len (l : List UInt8) : (bytesV l).length = l.length := by simp [bytesV]
@[simp] theorem bytesV_app (l m : List UInt8) : bytesV (l ++ m) = bytesV l ++ bytesV m := by simp [bytesV]
set_option maxRecDepth 100000 in
set_option maxHeartbeats 8000000 in
theorem small_sp (n : Nat) (hn : n < 100) (h : H) (h1 : h.one = []) :
    CallW E0 X0 (.fn 72) [.int .i64 n] h (fun r h' => r = str (dig n) ∧ h' = h) := by
  refine CallW.body efn72 rfl rfl rfl [] (by kernel_rfl) ?_
  by_cases c : n < 10
  · have c2 : (n : Int) < 10 := by omega
    have hw : IntKind.i64.wrap ((n : Int) + 1) = ((n + 1 : Nat) : Int) := wrap_succ (by omega)
    simp [Tryd.f72, h1, c2, hw]
    refine ⟨by omega, congrArg str ?_⟩
    clear hw c2 hn
    revert n
    decide +kernel
  · have c2 : ¬ (n : Int) < 10 := by omega
    have hw : IntKind.i64.wrap ((n : Int) * 2) = ((n * 2 : Nat) : Int) := by rw [wrap_i64 (by omega) (by omega)]; omega
    have hw2 : IntKind.i64.wrap ((n : Int) * 2 + 2) = ((n * 2 + 2 : Nat) : Int) := by rw [wrap_i64 (by omega) (by omega)]; omega
    simp [Tryd.f72, h1, c2, hw, hw2]
    refine ⟨by omega, congrArg str ?_⟩
    rw [show ((n : Int) * 2).toNat = n * 2 by omega, show ((n : Int) * 2 + 2).toNat = n * 2 + 2 by omega]
    clear hw hw2 c2
    revert n
    decide +kernel
def powL : List Nat := [1, 10, 100, 1000, 10000, 100000, 1000000, 10000000, 100000000, 1000000000, 10000000000, 100000000000, 1000000000000, 10000000000000, 100000000000000, 1000000000000000, 10000000000000000, 100000000000000000, 1000000000000000000, 10000000000000000000]
/-- The table of powers, as the program lays it. -/
def Gp (h : H) : Prop := h.get 0 = some (.cells (powL.map fun (x : Nat) => Value.int .u64 (x : Int)) 0 false 0 none) ∧ 0 < h.next
theorem Gp.fr {B : Nat} {h h' : H} (g : Gp h) (f : Fr B h h') (hB : h.next ≤ B) : Gp h' := ⟨(f.get _ (Nat.lt_of_lt_of_le g.2 hB)).trans g.1, Nat.lt_of_lt_of_le g.2 f.next⟩
/-- What 'AppendInt' comes to, below a bound. -/
def AppOk (M : Nat) : Prop := ∀ (n : Nat) (B : Nat) (v : Value) (cs : List Value) (len : Nat) (h : H), n < M → (M ≤ 100 ∨ Gp h) → h.one = [] → B ≤ h.next → len < 2 ^ 35 → SlG (some 5) 1 B h v cs len →
    CallW E0 X0 (.fn 41) [v, .int .i64 n, .int .i64 10] h (fun r h' => SlG (some 5) 1 B h' r (cs ++ bytesV (dig n)) (len + (dig n).length) ∧ Fr B h h')
def AppU (M : Nat) : Prop := ∀ (n : Nat) (B : Nat) (v : Value) (cs : List Value) (len : Nat) (h : H), n < M → (M ≤ 100 ∨ Gp h) → h.one = [] → B ≤ h.next → len < 2 ^ 35 → SlG (some 5) 1 B h v cs len →
    CallW E0 X0 (.fn 57) [v, .int .u64 n, .int .i64 10] h (fun r h' => SlG (some 5) 1 B h' r (cs ++ bytesV (dig n)) (len + (dig n).length) ∧ Fr B h h')
theorem bytesV_cells (l : List UInt8) : (List.map (fun (b : UInt8) => Value.int .u8 b.toNat) l).all cellV = true := by
  rw [List.all_map]; simp [cellV]
set_option maxRecDepth 100000 in
set_option maxHeartbeats 8000000 in
theorem AppU_small : AppU 100 := by
  intro n B v cs len h hn hg h1 hB hlen hs
  refine CallW.body efn57 rfl rfl rfl [] (by kernel_rfl) ?_
  have c2 : (n : Int) < 100 := by omega
  have hw : IntKind.i64.wrap (n : Int) = (n : Int) := wrap_i64 (by omega) (by omega)
  simp [Tryd.f57, h1, c2, hw]
  refine (small_sp n hn h h1).mono ?_
  rintro _ h' ⟨rfl, rfl⟩
  have hl : (dig n).length ≤ 2 := by clear hw c2; revert n; decide +kernel
  simp [h1, -appS_some]
  refine hs.app h1 hB (by simp) (by decide) (bytesV_cells _) (by omega) (by decide) (.inr rfl) ?_
  intro v' h2 sl fr
  simp [fr.one]
  exact ⟨sl, fr⟩
set_option maxRecDepth 100000 in
set_option maxHeartbeats 8000000 in
theorem AppOk.of {M : Nat} (hM : M ≤ 2 ^ 62) (hU : AppU M) : AppOk M := by
  intro n B v cs len h hn hg h1 hB hlen hs
  refine CallW.body efn41 rfl rfl rfl [] (by kernel_rfl) ?_
  simp [Tryd.f41, h1]
  have hI : CallW E0 X0 (.fn 50) [v, .int .i64 n, .int .i64 10] h (fun r h' => SlG (some 5) 1 B h' r (cs ++ bytesV (dig n)) (len + (dig n).length) ∧ Fr B h h') := by
    refine CallW.body efn50 rfl rfl rfl [] (by kernel_rfl) ?_
    have hw : IntKind.u64.wrap (n : Int) = (n : Int) := wrap_u64 (by omega) (by omega)
    have c2 : ¬ (n : Int) < 0 := by omega
    simp [Tryd.f50, h1, c2, hw]
    refine (hU n B v cs len h hn hg h1 hB hlen hs).mono ?_
    rintro r h' ⟨sl, fr⟩
    simp [fr.one]
    exact ⟨sl, fr⟩
  refine hI.mono ?_
  rintro r h' ⟨sl, fr⟩
  simp [fr.one]
  exact ⟨sl, fr⟩
end Go.Dm
