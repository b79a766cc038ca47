/- strings.Builder in D. -/
import Derived.Test.YtdgclgfhcgdehaaDoorStr
set_option linter.unusedVariables false
set_option linter.unusedSimpArgs false
namespace Go.Dm
open Go.Proofs
def u8s (l : List UInt8) : List Value := l.map fun b => .int .u8 b.toNat
theorem u8s_length (l : List UInt8) : (u8s l).length = l.length := by simp [u8s]
theorem u8s_snoc (l : List UInt8) (b : UInt8) : u8s l ++ [.int .u8 b.toNat] = u8s (l ++ [b]) := by simp [u8s]
/-- Block bb is a builder that holds a text; its buffer lies from block B on. -/
def Bld (B : Nat) (h : H) (bb : Nat) (l : List UInt8) : Prop := bb < B ∧ B ≤ h.next ∧ ∃ p v, h.get bb = some (.cells [p, v] 0 true 0 (some 109)) ∧ (p = .pointer none ∨ p = .pointer (some ⟨bb, 0, none⟩)) ∧
  ((l = [] ∧ v = .slice none 0 0) ∨ (l ≠ [] ∧ ∃ g, B ≤ g ∧ g < h.next ∧ v = .slice (some ⟨g, 0, none⟩) l.length l.length ∧ h.get g = some (.cells (u8s l) 1 true 0 (some 5))))
theorem Bld.of_get {B : Nat} {h h' : H} {bb : Nat} {l : List UInt8} (b : Bld B h bb l) (hn : h.next ≤ h'.next) (h1 : h'.get bb = h.get bb) (h2 : ∀ g, B ≤ g → g < h.next → h'.get g = h.get g) : Bld B h' bb l := by
  obtain ⟨q1, q2, p, v, q3, q4, q5⟩ := b
  refine ⟨q1, by omega, p, v, h1.trans q3, q4, q5.imp id ?_⟩
  rintro ⟨q6, g, q7, q8, q9, q10⟩
  exact ⟨q6, g, q7, by omega, q9, (h2 g q7 q8).trans q10⟩
/-- From block B on, and block b, things may have changed. -/
structure FrB (B b : Nat) (h h' : H) : Prop where
  one : h'.one = []
  next : h.next ≤ h'.next
  get : ∀ k, k < B → k ≠ b → h'.get k = h.get k
theorem FrB.refl {B b : Nat} {h : H} (h1 : h.one = []) : FrB B b h h := ⟨h1, Nat.le_refl _, fun _ _ _ => rfl⟩
theorem FrB.trans {B bb : Nat} {a b c : H} (x : FrB B bb a b) (y : FrB B bb b c) : FrB B bb a c := ⟨y.one, Nat.le_trans x.next y.next, fun k hk hb => (y.get k hk hb).trans (x.get k hk hb)⟩
theorem copyCheck_sp (B bb : Nat) (l : List UInt8) (h : H) (h1 : h.one = []) (hb : Bld B h bb l) : CallW E0 X0 (.fn 72) [.pointer (some ⟨bb, 0, none⟩)] h (fun v h' => v = .tuple #[] ∧ Bld B h' bb l ∧ FrB B bb h h') := by
  obtain ⟨q1, q2, p, v, q3, q4, q5⟩ := hb
  rcases q4 with rfl | rfl
  · have hX : X0 72 [.pointer (some ⟨bb, 0, none⟩)] h = some (.tuple #[], h.put bb (.cells [.pointer (some ⟨bb, 0, none⟩), v] 0 true 0 (some 109))) := by
      show ccO _ bb h (h.get bb) = _
      rw [q3]
      simp [ccO, stCells_eq, q3]
    refine CallW.plug hX ⟨rfl, ⟨q1, q2, .pointer (some ⟨bb, 0, none⟩), v, by simp, .inr rfl, q5.imp id ?_⟩, ⟨h1, Nat.le_refl _, fun k hk hne => by simp [hne]⟩⟩
    rintro ⟨q6, g, q7, q8, q9, q10⟩
    exact ⟨q6, g, q7, q8, q9, by rw [H.get_put, if_neg (by omega)]; exact q10⟩
  · have hX : X0 72 [.pointer (some ⟨bb, 0, none⟩)] h = some (.tuple #[], h) := by
      show ccO _ bb h (h.get bb) = _
      rw [q3]
      simp [ccO]
    exact CallW.plug hX ⟨rfl, ⟨q1, q2, _, v, q3, .inr rfl, q5⟩, FrB.refl h1⟩
theorem WriteByte_sp (B bb : Nat) (l : List UInt8) (c : UInt8) (hl : l.length < 2 ^ 40) (h : H) (h1 : h.one = []) (hb : Bld B h bb l) : CallW E0 X0 (.fn 64) [.pointer (some ⟨bb, 0, none⟩), .int .u8 c.toNat] h (fun v h' => v = .nilIface ∧ Bld B h' bb (l ++ [c]) ∧ FrB B bb h h') := by
  refine CallW.body efn64 rfl rfl rfl [] (by kernel_rfl) ?_
  simp [Tryd.f64, h1]
  refine (copyCheck_sp B bb l h h1 hb).mono ?_
  rintro v h2 ⟨rfl, hb2, hF⟩
  have h21 := hF.one
  obtain ⟨q1, q2, p, v, q3, q4, q5⟩ := hb2
  have hbb : bb ≠ h2.next := by omega
  have hbb2 : bb ≠ h2.next + 1 := by omega
  have fin : ∀ (h3 : H) (v : Value), h3.one = [] → h2.next ≤ h3.next → (∀ k, k < B → k ≠ bb → h3.get k = h2.get k) → FrB B bb h h3 := fun h3 v a b c => hF.trans ⟨a, b, c⟩
  rcases q5 with ⟨rfl, rfl⟩ | ⟨q6, g, q7, q8, rfl, q10⟩
  · simp [h21, nilCheckD, q3, hbb, hbb2, zerosD, List.range, List.range.loop]
    refine ⟨⟨q1, by simp [h21]; omega, p, _, by simp, q4, .inr ⟨by simp, h2.next + 1, by omega, by simp [h21], rfl, ?_⟩⟩, fin _ p ?_ ?_ ?_⟩
    · simp [h21, Ne.symm hbb2, u8s]
    · simp [h21]
    · simp [h21]
    · intro k hk hne
      have e1 : k ≠ h2.next := by omega
      have e2 : k ≠ h2.next + 1 := by omega
      simp [h21, hne, e1, e2]
  · have hg : g ≠ h2.next := by omega
    have hg2 : g ≠ h2.next + 1 := by omega
    have hbg : bb ≠ g := by omega
    have e3 : ¬ l.length + 1 ≤ l.length := by omega
    have e4 : (l.length + 1) * 2 ≤ 17592186044416 := by omega
    have e5 : (u8s l).take l.length = u8s l := by rw [← u8s_length l, List.take_length]
    simp [h21, nilCheckD, q3, hbb, hbb2, hg, hg2, hbg, zerosD, List.range, List.range.loop, q10, u8s_length, e3, e4, e5]
    refine ⟨⟨q1, by simp [h21]; omega, p, .slice (some ⟨h2.next + 1, 0, none⟩) (l.length + 1) (l.length + 1), by simp, q4, .inr ⟨by simp, h2.next + 1, by omega, by simp [h21], by simp, ?_⟩⟩, fin _ p ?_ ?_ ?_⟩
    · simp [h21, Ne.symm hbb2, u8s]
    · simp [h21]
    · simp [h21]
    · intro k hk hne
      have e1 : k ≠ h2.next := by omega
      have e2 : k ≠ h2.next + 1 := by omega
      have e3 : k ≠ g := by omega
      simp [h21, hne, e1, e2, e3]
/-- What 'String' leaves: the text's row may be written no more. -/
theorem String_sp (B bb : Nat) (l : List UInt8) (hl : l.length < 2 ^ 40) (h : H) (h1 : h.one = []) (hb : Bld B h bb l) : CallW E0 X0 (.fn 65) [.pointer (some ⟨bb, 0, none⟩)] h (fun v h' => v = str l ∧ FrB B bb h h' ∧ h'.get bb = h.get bb) := by
  obtain ⟨q1, q2, p, v, q3, q4, q5⟩ := hb
  rcases q5 with ⟨rfl, rfl⟩ | ⟨q6, g, q7, q8, rfl, q10⟩
  · have hX : X0 65 [.pointer (some ⟨bb, 0, none⟩)] h = some (str [], h) := by
      show sbO _ 0 h (h.get bb) = _
      rw [q3]
      simp [sbO, sbV]
    exact CallW.plug hX ⟨rfl, FrB.refl h1, rfl⟩
  · have hX : X0 65 [.pointer (some ⟨bb, 0, none⟩)] h = some (str l, h.put g (.cells (u8s l) 1 true l.length (some 5))) := by
      show sbO _ 0 h (h.get bb) = _
      rw [q3]
      have e1 : 0 < l.length := by cases l with | nil => exact absurd rfl q6 | cons a l => simp
      have e2 : (u8s l).take l.length = u8s l := by rw [← u8s_length l, List.take_length]
      have e3 : bytesX (u8s l) = some l := bytesX_map l
      have e4 : l.length < 4611686018427387904 := by omega
      simp [sbO, sbV, sbB, q10, e1, u8s_length, e2, e3, e4]
    refine CallW.plug hX ⟨rfl, ⟨h1, Nat.le_refl _, fun k hk hne => ?_⟩, ?_⟩
    · rw [H.get_put, if_neg (by omega)]
    · rw [H.get_put, if_neg (by omega)]
end Go.Dm
