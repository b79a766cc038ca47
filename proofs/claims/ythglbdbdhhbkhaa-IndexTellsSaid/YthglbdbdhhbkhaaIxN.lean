/- The law IndexNil, by the machine D. -/
import Derived.Test.YthglbdbdhhbkhaaIxV
set_option linter.unusedVariables false
set_option linter.unusedSimpArgs false
namespace Go.Dm
open Go.Proofs
set_option maxRecDepth 100000 in
set_option maxHeartbeats 8000000 in
theorem law_Nil (n : Int) (dv : Value) (l : List UInt8) (h : H) (h1 : h.one = []) : CallW E0 X0 (.fn 5) [.int .i64 n, dv, str l] h (fun r _ => r = .bool true) := by
  refine CallW.body efn5 rfl (xo (by decide) ..) rfl [] (by kernel_rfl) ?_
  simp [Try.f5, h1]
  refine (Put_nil n dv dv h h1).mono ?_
  rintro _ h2 ⟨rfl, f2⟩
  simp [f2.one]
  refine (Drop_nil n h2 f2.one).mono ?_
  rintro _ h3 ⟨rfl, f3⟩
  simp [f3.one]
  refine (Has_nil n l h3 f3.one).mono ?_
  rintro _ h4 ⟨rfl, rfl⟩
  simp [f3.one]
  refine (Known_nil h4 f3.one).mono ?_
  rintro _ h5 ⟨rfl, rfl⟩
  simp [f3.one]
  refine (Defined_nil l h5 f3.one).mono ?_
  rintro _ h6 ⟨rfl, rfl⟩
  simp [f3.one]
  refine (Who_nil (str l) h6 f3.one).mono ?_
  rintro _ h7 ⟨rfl, f7⟩
  simp [f7.one]
  refine (Len_nil h7 f7.one).mono ?_
  rintro _ h8 ⟨rfl, rfl⟩
  simp [f7.one]
  refine (wakes_sp h8 f7.one).mono ?_
  rintro _ h9 ⟨rfl, f9⟩
  simp [f9.one]
end Go.Dm
