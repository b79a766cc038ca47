/- A slice of nodes as it comes in, for the rows. -/
import Derived.Test.YtnmfdjmejpioiaaDoorTrA
import Derived.Test.YtnmfdjmejpioiaaDoorDFin
import Derived.Deep.Slices
import Derived.Lib.SmallJoins
import Derived.Test.YtnmfdjmejpioiaaDoorRows
set_option linter.unusedVariables false
set_option linter.unusedSimpArgs false
set_option maxRecDepth 100000
namespace Go.Proofs.YtnmfdjmejpioiaaDoor
open Go.Dm Go.ChangeMaps Go.ChangeShapes Go.WideShapes Go.ChangeAt Go.RowKit Go.Deep Go.Joins

theorem own : ownKnob Tryd.prog.godebug = none := by kernel_rfl
theorem laidOut : laidOutB Tryd.prog = true := by kernel_rfl
theorem gTab : Tryd.prog.globalNamed "math/bits.deBruijn64tab" = some 7 := by kernel_rfl
def laidU : List (String × DataW Unit) := [("math/bits.deBruijn32tab", Rows.laid_math_bits_deBruijn32tab), ("math/bits.deBruijn64tab", Rows.laid_math_bits_deBruijn64tab), ("internal/strconv.uint64pow10", Rows.laid_internal_strconv_uint64pow10)]
theorem door_met (os : Os) (args : Array Value) : laidMetH Tryd.prog laidU ((World.doorLaid Tryd.prog 400 os).forCall (fun _ _ => 0) ⟨#[], args, []⟩).memory :=
  laidMetH_of_parts3 (fuel := 8) (laidMet_of_run' 8 (by kernel_rfl) (by kernel_rfl)) (by kernel_rfl) (by kernel_rfl)
/-- The last variable's block. -/
theorem laid_last {W : World} (h : laidMetH Tryd.prog laidU W) : ∃ c e fr, W.heap[7]? = some (.cells c e fr) := by
  rw [MakeChecks.laidMetH_plain _ _ _ (by kernel_rfl)] at h
  obtain ⟨ps, ⟨_, _, _, _, _, _, _, _, _, _, ⟨g0, t0, cs0, f0, p0, q0, hg0, ht0, hv0, hd0, _⟩, _⟩, _⟩ := h
  obtain rfl := Option.some.inj (gTab.symm.trans hg0)
  simp only [World.var?, hg0, Option.bind_some] at hv0
  split at hv0
  · rename_i c e fr hh
    exact ⟨c, e, fr, hh⟩
  · cases hv0
instance : Inhabited Nd := ⟨rootN 0⟩
theorem node_cells {HH : Type} {enc : TypeId × Value → HH} {W : World} {a : Addr} {fuel : Nat} {cs : List Value} {x : DataW HH × List MemPlace} (hc : W.cells? 0 a 4 = some cs) (h : DataW.trod enc Tryd.prog W 0 (fun _ => true) true fuel 32 cs = some x) :
    ∃ y : Nd, y.kind < 256 ∧ ∀ j, j < 4 → W.cell? (a.add j) = (encN y)[j]? := by
  obtain ⟨_, hl, hcell⟩ := World.cells?_some hc
  obtain ⟨y0, y1, y2, y3, n, _, _, h0, h1, h2, h3⟩ := trod_struct4 Tryd.underlying32 h
  match cs, hl with
  | [v0, v1, v2, v3], _ =>
    obtain ⟨n0, e0, _, w0⟩ := DataW.trod_int Tryd.underlying5 h0
    obtain ⟨n1, e1, _, w1⟩ := DataW.trod_int Tryd.underlying3 h1
    obtain ⟨n2, e2, _, w2⟩ := DataW.trod_int Tryd.underlying3 h2
    obtain ⟨n3, e3, _, w3⟩ := DataW.trod_int Tryd.underlying3 h3
    have k0 : Tryd.prog.cellsOf 5 = 1 := by kernel_rfl
    have k1 : Tryd.prog.cellsOf 3 = 1 := by kernel_rfl
    simp [k0, k1] at e0 e1 e2 e3
    subst e0 e1 e2 e3
    have hb : 0 ≤ n0 ∧ n0 ≤ 255 := by
      simp [Lit.wf, IntKind.min, IntKind.max, IntKind.signed, IntKind.bits] at w0
      omega
    obtain ⟨m, rfl⟩ := Int.eq_ofNat_of_zero_le hb.1
    exact ⟨⟨m, n1, n2, n3⟩, by simp only; omega, fun j hj => hcell j hj⟩
theorem ints_rel {l : List Nd} {m : Inj} {j : Nat} {v : Value} (h : (encsN l)[j]? = some v) : VRel m v v := by
  have hm := List.mem_of_getElem? h
  unfold encsN at hm
  obtain ⟨x, _, hx⟩ := List.mem_flatMap.1 hm
  simp [encN] at hx
  rcases hx with rfl | rfl | rfl | rfl <;> exact .plain rfl
theorem node_arg {HH : Type} {enc : TypeId × Value → HH} {W : World} (h7 : ∃ c e fr, W.heap[7]? = some (.cells c e fr)) {base : Nat} {v0 : Value} {d0 : DataW HH} {p0 : List MemPlace} (hval : Value.okWide Tryd.prog W .any base 22 v0)
    (h : DataW.Trod enc Tryd.prog W 0 (fun _ => true) true 22 v0 d0 p0) :
    ∃ (ws : List Win) (v : Value) (l : List Nd), WinsOk G0 [] ws W ∧ RdN (winsH G0 [] ws) v l ∧ VRel (winsInj G0 W ws) v v0 ∧ (∀ x ∈ l, x.kind < 256) := by
  obtain ⟨c7, e7, f7, h7⟩ := h7
  have hsz : G0 ≤ W.heap.size := (Array.getElem?_eq_some_iff.1 h7).1
  have c4 : Tryd.prog.cellsOf 32 = 4 := by kernel_rfl
  obtain ⟨a0, len, cap, rfl⟩ := okWide_slice Tryd.underlying22 hval
  obtain ⟨fuel, h⟩ := h
  have h' : DataW.trod enc Tryd.prog W 0 (fun _ => true) true fuel 22 [.slice a0 len cap] = some (d0, p0) := h
  rcases open_slice Tryd.underlying22 h' with ⟨e, _⟩ | ⟨a, len', cap', m, n, D, Pl, e, _, hl, _, hm, _, hx⟩
  · simp at e
    obtain ⟨rfl, rfl, rfl⟩ := e
    refine ⟨[], .slice none 0 0, [], ⟨hsz, fun p hp => (by cases hp), fun k x hx => (by cases hx)⟩, .inl ⟨rfl, rfl⟩, .plain rfl, fun x hx => (by cases hx)⟩
  · simp at e
    obtain ⟨rfl, rfl, rfl⟩ := e
    simp only [if_true] at hm
    subst hm
    rw [c4] at hx
    have each : ∀ i, i < m → ∃ y : Nd, y.kind < 256 ∧ ∀ j, j < 4 → W.cell? (a.add (i * 4 + j)) = (encN y)[j]? := by
      intro i hi
      obtain ⟨cs, h1, h2⟩ := hx i hi
      obtain ⟨y, hy, hc⟩ := node_cells h1 h2
      exact ⟨y, hy, fun j hj => by rw [← hc j hj, add_add]⟩
    obtain ⟨f, hf⟩ := choose_lt each
    by_cases hm0 : m = 0
    · subst hm0
      obtain rfl : len = 0 := by omega
      refine ⟨[⟨7, 0, []⟩], .slice (some ⟨G0, 0, none⟩) 0 0, [], ⟨hsz, fun p hp => (by cases hp), fun k x hx => ?_⟩, .inr ⟨G0, 0, 0, false, 0, none, rfl, Nat.le_refl _, rfl, .inl rfl, by decide⟩, .slice0, fun x hx => (by cases hx)⟩
      cases k with
      | zero => cases hx; exact ⟨c7, e7, f7, h7, Nat.zero_le _, fun j v hj => by simp at hj⟩
      | succ k => simp at hx
    · have hcell0 := (hf 0 (by omega)).2 0 (by decide)
      have hsp : a.spot = none := by
        cases hs : a.spot with
        | none => rfl
        | some s =>
          simp [Addr.add, World.cell?, hs, encN] at hcell0
          split at hcell0 <;> cases hcell0
      obtain ⟨blk, off, spot⟩ := a
      simp only at hsp
      subst hsp
      have hadd : ∀ k, (⟨blk, off, none⟩ : Addr).add k = ⟨blk, off + k, none⟩ := by
        intro k
        unfold Addr.add
        by_cases hk : k = 0
        · simp [hk]
        · simp [hk]
      obtain ⟨c, e, fr, hblk⟩ : ∃ c e fr, W.heap[blk]? = some (.cells c e fr) := by
        rw [hadd] at hcell0
        simp only [World.cell?] at hcell0
        split at hcell0
        · rename_i c e fr hh; exact ⟨c, e, fr, hh⟩
        · simp [encN] at hcell0
      have hcell : ∀ i, i < m → ∀ j, j < 4 → c[off + (i * 4 + j)]? = (encN (f i))[j]? := by
        intro i hi j hj
        have := (hf i hi).2 j hj
        rw [hadd] at this
        simpa [World.cell?, hblk] using this
      refine ⟨[⟨blk, off, encsN ((List.range len).map f)⟩], .slice (some ⟨G0, 0, none⟩) len m, (List.range len).map f, ⟨hsz, fun p hp => (by cases hp), fun k x hx => ?_⟩, .inr ⟨G0, m, 0, false, 0, none, by simp, by simpa using hl, rfl, .inl rfl, Nat.lt_succ_self _⟩, ?_, ?_⟩
      · cases k with
        | zero =>
          cases hx
          have hat : ∀ j, j < len * 4 → c[off + j]? = (encsN ((List.range len).map f))[j]? := by
            intro j hj
            have hi : j / 4 < len := by omega
            have h1 := hcell (j / 4) (by omega) (j % 4) (by omega)
            have h2 := encsN_at (l := (List.range len).map f) (i := j / 4) (j := j % 4) (by simpa using hi) (by omega)
            rw [show j / 4 * 4 + j % 4 = j by omega] at h1 h2
            rw [h1, h2]
            simp [nd, List.getD, hi]
          refine ⟨c, e, fr, hblk, ?_, fun j v hj => ?_⟩
          · by_cases hz : len = 0
            · subst hz
              have h1 := hcell 0 (by omega) 0 (by decide)
              have := (Array.getElem?_eq_some_iff.1 (h1.trans rfl)).1
              simp; omega
            · have h1 := hat (len * 4 - 1) (by omega)
              rw [List.getElem?_eq_getElem (by simp; omega)] at h1
              have := (Array.getElem?_eq_some_iff.1 h1).1
              simp; omega
          · have hjl : j < len * 4 := by
              have := (List.getElem?_eq_some_iff.1 hj).1
              simpa using this
            exact ⟨v, (hat j hjl).trans hj, ints_rel hj⟩
        | succ k => simp at hx
      · have hv : VRel (winsInj G0 W [⟨blk, off, encsN ((List.range len).map f)⟩]) (.slice (some ⟨G0, 0, none⟩) len m) (.slice (some ⟨blk, 0 + off, none⟩) len m) :=
          .slice (i := ⟨blk, off, 0, sizeB W blk⟩) rfl hl (Nat.le_refl _) (.inl rfl)
        rwa [Nat.zero_add] at hv
      · intro x hx
        obtain ⟨i, hi, rfl⟩ := List.mem_map.1 hx
        exact (hf i (by have := List.mem_range.1 hi; omega)).1
end Go.Proofs.YtnmfdjmejpioiaaDoor
