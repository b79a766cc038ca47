/- The known tree. -/
import Derived.Test.YtnmfdjmejpioiaaDoorTrQ
set_option linter.unusedVariables false
set_option linter.unusedSimpArgs false
namespace Go.Dm
open Go.Proofs
theorem Fr.thn {B : Nat} {a b c : H} (f : Fr B a b) (hB : B ≤ a.next) (g : Fr b.next b c) : Fr B a c := f.trans (g.mono (Nat.le_trans hB f.next))
def kn : List Nd := [⟨1, 0, 5, 0⟩, ⟨10, 0, 2, 1⟩, ⟨11, 0, 2, 2⟩, ⟨10, 2, 5, 1⟩]
set_option maxRecDepth 100000 in
set_option maxHeartbeats 8000000 in
theorem known_sp (h : H) (h1 : h.one = []) :
    CallW E0 X0 (.fn 35) [] h (fun r h' => RdN h' r kn ∧ Fr h.next h h') := by
  refine CallW.body efn35 rfl rfl rfl [] (by kernel_rfl) ?_
  have z : zerosD [.int .u8 0, .int .i64 0, .int .i64 0, .int .i64 0] 16 = [.int .u8 0, .int .i64 0, .int .i64 0, .int .i64 0, .int .u8 0, .int .i64 0, .int .i64 0, .int .i64 0, .int .u8 0, .int .i64 0, .int .i64 0, .int .i64 0, .int .u8 0, .int .i64 0, .int .i64 0, .int .i64 0] := rfl
  simp [Tryd.f35, h1, z]
  refine ⟨.inr ⟨h.next, 4, 4, true, 0, none, rfl, by decide, by simp [kn, encN], .inr rfl, by simp⟩, (Fr.refl h1).nw (Nat.le_refl _) _⟩
theorem kn_lt : LtN 100 kn := by
  intro x hx
  simp [kn] at hx
  rcases hx with rfl | rfl | rfl | rfl <;> decide
theorem kn_fit : fitN kn = true := by decide +kernel
theorem kn_5 : chk kn 5 = true := by decide +kernel
theorem kn_6 : chk kn 6 = false := by decide +kernel
theorem kn_at : atV kn 2 = (2, 0) := by decide +kernel
theorem kn_pr : printN kn = [48, 32, 49, 32, 48, 32, 53, 10, 49, 32, 49, 48, 32, 48, 32, 50, 10, 50, 32, 49, 49, 32, 48, 32, 50, 10, 49, 32, 49, 48, 32, 50, 32, 53, 10] := by decide +kernel
set_option maxRecDepth 100000 in
set_option maxHeartbeats 8000000 in
theorem wakes_sp (h : H) (h1 : h.one = []) :
    CallW E0 X0 (.fn 11) [] h (fun r h' => r = .bool true ∧ Fr h.next h h') := by
  refine CallW.body efn11 rfl rfl rfl [] (by kernel_rfl) ?_
  simp [Tryd.f11, h1]
  refine (known_sp h h1).mono ?_
  rintro v1 h2 ⟨r1, f1⟩
  simp [f1.one]
  refine (At_sp kn 2 v1 (by decide) h2 f1.one r1).mono ?_
  rintro _ h3 ⟨rfl, f2⟩
  simp [f2.one, kn_at]
  refine (known_sp h3 f2.one).mono ?_
  rintro v3 h4 ⟨r3, f3⟩
  simp [f3.one]
  refine (Print_sp (M := 100) (by decide) (by decide) (AppOk.of (by decide) AppU_small) kn (fun _ => kn_lt) v3 (by decide) h4 (.inl (by decide)) f3.one r3).mono ?_
  rintro _ h5 ⟨rfl, f4⟩
  simp [f4.one, kn_fit, kn_pr]
  refine (known_sp h5 f4.one).mono ?_
  rintro v5 h6 ⟨r5, f5⟩
  simp [f5.one]
  refine (check_sp kn 5 v5 (by decide) h6 f5.one r5).mono ?_
  rintro _ h7 ⟨rfl, f6⟩
  simp [f6.one, kn_5]
  refine (known_sp h7 f6.one).mono ?_
  rintro v7 h8 ⟨r7, f7⟩
  simp [f7.one]
  refine (check_sp kn 6 v7 (by decide) h8 f7.one r7).mono ?_
  rintro _ h9 ⟨rfl, f8⟩
  simp [f8.one, kn_6]
  have e := Nat.le_refl h.next
  exact (((((((f1.thn e f2).thn e f3).thn e f4).thn e f5).thn e f6).thn e f7).thn e f8)
end Go.Dm
