/- strings: HasPrefix, HasSuffix, CutSuffix. -/
import Derived.Test.YtdgclgfhcgdehaaDoorPlugT
set_option linter.unusedVariables false
set_option linter.unusedSimpArgs false
namespace Go.Dm
open Go.Proofs
theorem suffix_drop (s p : List UInt8) (h : p.length ≤ s.length) : (s.drop (s.length - p.length) = p) = (p.isSuffixOf s = true) := by
  rw [List.isSuffixOf_iff_suffix]
  apply propext
  constructor
  · intro e; rw [← e]; exact List.drop_suffix _ _
  · rintro ⟨t, rfl⟩; simp
theorem HasPrefix0_sp (s p : List UInt8) (h : H) (h1 : h.one = []) : CallW E0 X0 (.fn 56) [str s, str p] h (fun v h' => v = .bool (p.isPrefixOf s) ∧ h' = h) := by
  refine CallW.body efn56 rfl rfl rfl [] (by kernel_rfl) ?_
  by_cases c : p.length ≤ s.length
  · have c' : (p.length : Int) ≤ s.length := by omega
    simp [Tryd.f56, h1, c]
    rw [Bool.eq_iff_iff]
    rw [decide_eq_true_eq, List.isPrefixOf_iff_prefix, List.prefix_iff_eq_take, eq_comm]
  · simp [Tryd.f56, h1, c]
    rw [Bool.eq_false_iff]
    intro hp
    rw [List.isPrefixOf_iff_prefix] at hp
    exact c hp.length_le
theorem HasPrefix_sp (s p : List UInt8) (h : H) (h1 : h.one = []) : CallW E0 X0 (.fn 43) [str s, str p] h (fun v h' => v = .bool (p.isPrefixOf s) ∧ h' = h) := by
  refine CallW.body efn43 rfl rfl rfl [] (by kernel_rfl) ?_
  simp [Tryd.f43, h1]
  refine (HasPrefix0_sp s p h h1).mono ?_
  rintro v h' ⟨rfl, rfl⟩
  simp [h1]
theorem HasSuffix0_sp (s p : List UInt8) (hs : s.length < 2 ^ 62) (h : H) (h1 : h.one = []) : CallW E0 X0 (.fn 68) [str s, str p] h (fun v h' => v = .bool (p.isSuffixOf s) ∧ h' = h) := by
  refine CallW.body efn68 rfl rfl rfl [] (by kernel_rfl) ?_
  by_cases c : p.length ≤ s.length
  · have c' : (p.length : Int) ≤ s.length := by omega
    have e : IntKind.i64.wrap ((s.length : Int) - p.length) = ((s.length - p.length : Nat) : Int) := by rw [wrap_i64 (by omega) (by omega)]; omega
    simp [Tryd.f68, h1, c, e, suffix_drop]
    rw [Bool.eq_iff_iff, decide_eq_true_eq, List.isSuffixOf_iff_suffix]
  · simp [Tryd.f68, h1, c]
    rw [Bool.eq_false_iff]
    intro hp
    rw [List.isSuffixOf_iff_suffix] at hp
    exact c hp.length_le
/-- What is left ahead of a suffix. -/
def cutS (s p : List UInt8) : List UInt8 := if p.isSuffixOf s then s.take (s.length - p.length) else s
theorem CutSuffix0_sp (s p : List UInt8) (hs : s.length < 2 ^ 62) (h : H) (h1 : h.one = []) : CallW E0 X0 (.fn 63) [str s, str p] h (fun v h' => v = .tuple #[str (cutS s p), .bool (p.isSuffixOf s)] ∧ h' = h) := by
  refine CallW.body efn63 rfl rfl rfl [] (by kernel_rfl) ?_
  simp [Tryd.f63, h1]
  refine (HasSuffix0_sp s p hs h h1).mono ?_
  rintro v h' ⟨rfl, rfl⟩
  cases hc : p.isSuffixOf s with
  | false => simp [h1, cutS, hc]
  | true =>
    have c : p.length ≤ s.length := by rw [List.isSuffixOf_iff_suffix] at hc; exact hc.length_le
    have e : IntKind.i64.wrap ((s.length : Int) - p.length) = ((s.length - p.length : Nat) : Int) := by rw [wrap_i64 (by omega) (by omega)]; omega
    simp [h1, cutS, hc, e]
theorem CutSuffix_sp (s p : List UInt8) (hs : s.length < 2 ^ 62) (h : H) (h1 : h.one = []) : CallW E0 X0 (.fn 50) [str s, str p] h (fun v h' => v = .tuple #[str (cutS s p), .bool (p.isSuffixOf s)] ∧ h' = h) := by
  refine CallW.body efn50 rfl rfl rfl [] (by kernel_rfl) ?_
  simp [Tryd.f50, h1]
  refine (CutSuffix0_sp s p hs h h1).mono ?_
  rintro v h' ⟨rfl, rfl⟩
  simp [h1]
theorem IndexByte_sp (s : List UInt8) (c : UInt8) (h : H) (h1 : h.one = []) : CallW E0 X0 (.fn 66) [str s, .int .u8 c.toNat] h (fun v h' => v = .int .i64 (Lib.indexByte s c) ∧ h' = h) := by
  refine CallW.body efn66 rfl rfl rfl [] (by kernel_rfl) ?_
  simp [Tryd.f66, h1]
  have hc : (c.toNat : Int).toNat.toUInt8 = c := by simp
  have hX : X0 73 [str s, .int .u8 c.toNat] h = some (.int .i64 (Lib.indexByte s c), h) := by
    show some _ = _
    rw [hc]
  refine CallW.plug hX ?_
  simp [h1]
end Go.Dm
