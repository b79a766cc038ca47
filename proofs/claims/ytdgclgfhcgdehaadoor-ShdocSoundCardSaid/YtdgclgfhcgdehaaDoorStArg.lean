/- A state as it comes in, for the rows. -/
import Derived.Test.YtdgclgfhcgdehaaDoorSdA
import Derived.Test.YtdgclgfhcgdehaaDoorDFin
import Derived.Test.YtdgclgfhcgdehaaDoorRows
set_option linter.unusedVariables false
set_option linter.unusedSimpArgs false
set_option maxRecDepth 100000
namespace Go.Proofs.YtdgclgfhcgdehaaDoor
open Go.Dm Go.ChangeMaps Go.ChangeShapes Go.WideShapes Go.ChangeAt Go.RowKit
abbrev CellAt (W : World) (b : Nat) (u : TypeId) (v : Value) : Prop := Cell.okWide Tryd.prog W .any b u v
section
variable {W : World} {b : Nat} {v : Value}
theorem cell_u8 (h : CellAt W b 5 v) : ∃ n : Nat, n < 256 ∧ v = .int .u8 n := by
  have hu := Tryd.underlying5
  simp only [CellAt, Cell.okWide, hu, Cell.ok] at h
  cases v with
  | int k n =>
    obtain ⟨rfl, hn⟩ := h
    simp [IntKind.has, IntKind.min, IntKind.max, IntKind.signed, IntKind.bits] at hn
    exact ⟨n.toNat, by omega, by rw [Int.toNat_of_nonneg (by omega)]⟩
  | _ => exact absurd h id
theorem cell_int (h : CellAt W b 3 v) : ∃ n : Int, v = .int .i64 n := by
  have hu := Tryd.underlying3
  simp only [CellAt, Cell.okWide, hu, Cell.ok] at h
  cases v with
  | int k n => obtain ⟨rfl, hn⟩ := h; exact ⟨n, rfl⟩
  | _ => exact absurd h id
theorem cell_bool (h : CellAt W b 4 v) : ∃ n : Bool, v = .bool n := by
  have hu := Tryd.underlying4
  simp only [CellAt, Cell.okWide, hu, Cell.ok] at h
  cases v with
  | bool n => exact ⟨n, rfl⟩
  | _ => exact absurd h id
theorem cell_str (h : CellAt W b 9 v) : ∃ l : List UInt8, v = str l := by
  have hu := Tryd.underlying9
  simp only [CellAt, Cell.okWide, hu, Cell.ok] at h
  cases v with
  | string s => exact ⟨s.data.toList, rfl⟩
  | _ => exact absurd h id
end
/-- Cells of given types. -/
inductive CellsAt (W : World) (b : Nat) : List TypeId → List Value → Prop
  | nil : CellsAt W b [] []
  | cons {u : TypeId} {v : Value} {us : List TypeId} {vs : List Value} (h : CellAt W b u v) (k : CellsAt W b us vs) : CellsAt W b (u :: us) (v :: vs)
theorem CellsAt.of_get {W : World} {b : Nat} : ∀ {us : List TypeId} {vs : List Value}, us.length = vs.length → (∀ (i : Nat) v, vs[i]? = some v → ∃ u, us[i]? = some u ∧ CellAt W b u v) → CellsAt W b us vs
  | [], [], _, _ => .nil
  | u :: us, v :: vs, hl, h => by
    obtain ⟨u', h1, h2⟩ := h 0 v rfl
    cases h1
    exact .cons h2 (CellsAt.of_get (by simpa using hl) fun i w hw => by simpa using h (i + 1) w (by simpa using hw))
theorem CellsAt.split {W : World} {b : Nat} : ∀ {us ws : List TypeId} {vs : List Value}, CellsAt W b (us ++ ws) vs → ∃ a c, vs = a ++ c ∧ CellsAt W b us a ∧ CellsAt W b ws c
  | [], ws, vs, h => ⟨[], vs, rfl, .nil, h⟩
  | u :: us, ws, vs, h => by
    cases h with
    | cons h k =>
      obtain ⟨a, c, rfl, h1, h2⟩ := CellsAt.split k
      exact ⟨_ :: a, c, rfl, .cons h h1, h2⟩
theorem cells_frames {W : World} {b : Nat} : ∀ (n : Nat) {vs : List Value}, CellsAt W b (List.replicate n [5, 5, 5, 3]).flatten vs → ∃ l : List ShF, l.length = n ∧ vs = encK l
  | 0, vs, h => by cases h; exact ⟨[], rfl, rfl⟩
  | n + 1, vs, h => by
    rw [List.replicate_succ, List.flatten_cons] at h
    obtain ⟨a, c, rfl, h1, h2⟩ := h.split
    obtain ⟨l, hl, rfl⟩ := cells_frames n h2
    cases h1 with | cons h1 k1 => cases k1 with | cons h3 k3 => cases k3 with | cons h4 k4 => cases k4 with | cons h5 k5 =>
      cases k5
      obtain ⟨x1, _, rfl⟩ := cell_u8 h1
      obtain ⟨x2, _, rfl⟩ := cell_u8 h3
      obtain ⟨x3, _, rfl⟩ := cell_u8 h4
      obtain ⟨x4, rfl⟩ := cell_int h5
      exact ⟨⟨x1, x2, x3, x4⟩ :: l, by simp [hl], rfl⟩
theorem cells_docs {W : World} {b : Nat} : ∀ (n : Nat) {vs : List Value}, CellsAt W b (List.replicate n [9, 4, 4]).flatten vs → ∃ l : List ShD, l.length = n ∧ vs = encDs l
  | 0, vs, h => by cases h; exact ⟨[], rfl, rfl⟩
  | n + 1, vs, h => by
    rw [List.replicate_succ, List.flatten_cons] at h
    obtain ⟨a, c, rfl, h1, h2⟩ := h.split
    obtain ⟨l, hl, rfl⟩ := cells_docs n h2
    cases h1 with | cons h1 k1 => cases k1 with | cons h3 k3 => cases k3 with | cons h4 k4 =>
      cases k4
      obtain ⟨x1, rfl⟩ := cell_str h1
      obtain ⟨x2, rfl⟩ := cell_bool h3
      obtain ⟨x3, rfl⟩ := cell_bool h4
      exact ⟨⟨x1, x2, x3⟩ :: l, by simp [hl], rfl⟩
theorem st_types : Tryd.prog.cellTypes Tryd.prog.depth 29 = some ((List.replicate 16 [5, 5, 5, 3]).flatten ++ ([3, 5, 5, 5, 3] ++ ((List.replicate 4 [9, 4, 4]).flatten ++ [3]))) := by kernel_rfl
theorem st_cells : Tryd.prog.cellsOf 29 = 82 := by kernel_rfl
theorem plain_encS (s : ShS) {m : Inj} : VRel m (.agg (encS s).toArray) (.agg (encS s).toArray) := by
  refine .plainV ?_
  simp only [plainV, List.all_eq_true]
  intro v hv
  have hv : v ∈ encS s := hv
  rw [encS_eq] at hv
  simp only [encK, encDs, List.mem_append, List.mem_flatMap, encF, encD, List.mem_cons, List.not_mem_nil, or_false] at hv
  rcases hv with ⟨x, _, rfl | rfl | rfl | rfl⟩ | (rfl | rfl | rfl | rfl | rfl) | ⟨x, _, rfl | rfl | rfl⟩ | rfl <;> rfl
theorem state_arg {W : World} {base : Nat} {v : Value} (h : Value.okWide Tryd.prog W .any base 29 v) : ∃ s : ShS, s.ok ∧ s.mode < 256 ∧ s.mark < 256 ∧ v = .agg (encS s).toArray := by
  have hu := Tryd.underlying29
  simp only [Value.okWide, hu] at h
  obtain ⟨cs, rfl, hn, ts, hts, _, hc⟩ := h
  rw [st_cells] at hn
  obtain rfl := Option.some.inj (st_types.symm.trans hts)
  obtain ⟨cs⟩ := cs
  have hn : cs.length = 82 := hn
  have hA : CellsAt W base ((List.replicate 16 [5, 5, 5, 3]).flatten ++ ([3, 5, 5, 5, 3] ++ ((List.replicate 4 [9, 4, 4]).flatten ++ [3]))) cs := by
    refine CellsAt.of_get hn.symm fun i v hv => ?_
    have hi : i < 82 := by have := (List.getElem?_eq_some_iff.1 hv).1; omega
    obtain ⟨u, h1, h2⟩ := hc i v (by simpa using hv)
    exact ⟨u, by rw [← h1]; congr 1; exact (Nat.mod_eq_of_lt hi).symm, h2⟩
  obtain ⟨a, c, rfl, h1, h2⟩ := hA.split
  obtain ⟨e, f, rfl, h3, h4⟩ := h2.split
  obtain ⟨g, i, rfl, h5, h6⟩ := h4.split
  obtain ⟨k, hk, rfl⟩ := cells_frames 16 h1
  obtain ⟨d, hd, rfl⟩ := cells_docs 4 h5
  cases h3 with | cons q1 k1 => cases k1 with | cons q2 k2 => cases k2 with | cons q3 k3 => cases k3 with | cons q4 k4 => cases k4 with | cons q5 k5 =>
    cases k5
    cases h6 with | cons q6 k6 =>
      cases k6
      obtain ⟨x1, rfl⟩ := cell_int q1
      obtain ⟨x2, b2, rfl⟩ := cell_u8 q2
      obtain ⟨x3, b3, rfl⟩ := cell_u8 q3
      obtain ⟨x4, _, rfl⟩ := cell_u8 q4
      obtain ⟨x5, rfl⟩ := cell_int q5
      obtain ⟨x6, rfl⟩ := cell_int q6
      exact ⟨⟨k, x1, x2, x3, x4, x5, d, x6⟩, ⟨hk, hd⟩, b2, b3, rfl⟩
end Go.Proofs.YtdgclgfhcgdehaaDoor
