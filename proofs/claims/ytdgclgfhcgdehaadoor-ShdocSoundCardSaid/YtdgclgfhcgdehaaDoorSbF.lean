/- A new builder; how far it came, what is open. -/
import Derived.Test.YtdgclgfhcgdehaaDoorSbE
set_option linter.unusedVariables false
set_option linter.unusedSimpArgs false
namespace Go.Dm
open Go.Proofs
def newB : AB := ⟨[⟨1, 0, 0, 0⟩], [0], 0⟩
set_option maxRecDepth 100000 in
set_option maxHeartbeats 8000000 in
theorem New_sp (h : H) (h1 : h.one = []) :
    CallW E0 X0 (.fn 17) [.int .u8 1] h (fun r h' => ∃ bb O, r = .pointer (some ⟨bb, 0, none⟩) ∧ BS bb h' newB O ∧ (∀ c, O c → h.next ≤ c) ∧ Fr h.next h h') := by
  refine CallW.body efn17 rfl rfl rfl [] (by kernel_rfl) ?_
  simp [Tryd.f17, h1, zp1]
  refine ⟨_, ⟨[h.next], _, _, ⟨by simp; exact ⟨rfl, rfl⟩, by simp, ⟨h.next + 1, 1, _, rfl, Nat.le_refl _, Nat.zero_le _, by simp, by simp; rfl, rfl, rfl⟩, ⟨h.next + 2, 1, _, rfl, Nat.le_refl _, Nat.zero_le _, by simp, by simp; rfl, rfl, rfl⟩, ?_, rfl, ?_, by simp, by simp [newB]⟩, rfl⟩, ?_, ?_⟩
  · rintro g x y x' y' e e2
    simp at e e2
    omega
  · intro i hi
    have : i = 0 := by simpa using hi
    subst this
    simp [newB, encN]
  · rintro c (e | ⟨y1, y2, e⟩ | ⟨y1, y2, e⟩ | e)
    · omega
    · simp at e; omega
    · simp at e; omega
    · simp at e; omega
  · exact ((((Fr.refl h1).nw (Nat.le_refl _) _).nw (by simp) _).nw (by simp) _).nw (by simp) _
set_option maxRecDepth 100000 in
theorem Far_sp (bb : Nat) (s : AB) (O : Nat → Prop) (h : H) (h1 : h.one = []) (x : BS bb h s O) :
    CallW E0 X0 (.fn 19) [.pointer (some ⟨bb, 0, none⟩)] h (fun r h' => r = .int .i64 s.far ∧ h' = h) := by
  refine CallW.body efn19 rfl rfl rfl [] (by kernel_rfl) ?_
  obtain ⟨ad, vn, vo, x, rfl⟩ := x
  simp [Tryd.f19, h1, x.blk]
set_option maxRecDepth 100000 in
theorem Open_sp (bb : Nat) (s : AB) (O : Nat → Prop) (h : H) (h1 : h.one = []) (x : BS bb h s O) (hlo : s.opn.length < 2 ^ 40) :
    CallW E0 X0 (.fn 20) [.pointer (some ⟨bb, 0, none⟩)] h (fun r h' => r = .int .i64 ((s.opn.length : Int) - 1) ∧ h' = h) := by
  refine CallW.body efn20 rfl rfl rfl [] (by kernel_rfl) ?_
  obtain ⟨ad, vn, vo, x, rfl⟩ := x
  have w1 : IntKind.i64.wrap ((s.opn.length : Int) - 1) = (s.opn.length : Int) - 1 := wrap_i64 (by omega) (by omega)
  obtain ⟨go, co, Co, rfl, _⟩ := x.so
  simp [Tryd.f20, h1, x.blk, w1]
end Go.Dm
