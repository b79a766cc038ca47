/- What the rows' laid variables give D's heap; a slice of strings as it comes in. -/
import Derived.Test.YtdgclgfhcgdehaaDoorStArg
import Derived.Test.YtdgclgfhcgdehaaDoorSdQ
import Derived.Lay
import Derived.Deep.Slices
import Derived.Lib.SmallJoins
set_option linter.unusedVariables false
set_option linter.unusedSimpArgs false
set_option maxRecDepth 100000
namespace Go.Proofs.YtdgclgfhcgdehaaDoor
open Go.Dm Go.ChangeMaps Go.ChangeShapes Go.WideShapes Go.ChangeAt Go.RowKit Go.Deep Go.Joins
theorem own : ownKnob Tryd.prog.godebug = none := by kernel_rfl
theorem laidOut : laidOutB Tryd.prog = true := by kernel_rfl
def laidV : List (String × DataW Unit) := [("unicode/utf8.acceptRanges", Rows.laid_unicode_utf8_acceptRanges), ("indenture/shword.operators", Rows.laid_indenture_shword_operators), ("unicode/utf8.first", Rows.laid_unicode_utf8_first)]
theorem laid_plain {W : World} (h : laidMetH Tryd.prog laidV W) : laidMet Tryd.prog laidV W := by
  rwa [MakeChecks.laidMetH_plain _ _ _ (by kernel_rfl)] at h
theorem met_all (os : Os) (args : Array Value) : laidMetH Tryd.prog laidV ((World.laidAll Tryd.prog os laidV).forCall (fun _ _ => 0) ⟨#[], args, []⟩).memory := by
  rw [MakeChecks.laidMetH_plain _ _ _ (by kernel_rfl)]; exact laidMet_laidAll _ (by kernel_rfl) (by kernel_rfl)
theorem gOps : Tryd.prog.globalNamed "indenture/shword.operators" = some 0 := by kernel_rfl
theorem tOps : (Tryd.prog.globals[0]?).map (·.type) = some 115 := by kernel_rfl
theorem gAcc : Tryd.prog.globalNamed "unicode/utf8.acceptRanges" = some 3 := by kernel_rfl
abbrev glS : List (Nat × List Value) := [(0, opsL.map str)]
theorem laid_ops {W : World} (h : laidMet Tryd.prog laidV W) : ∃ c' e' fr, W.heap[0]? = some (.cells c' e' fr) ∧ ∀ (j : Nat) s, opsL[j]? = some s → c'[j]? = some (str s) := by
  obtain ⟨ps, ⟨_, _, _, _, _, _, _, _, _, _, ⟨g0, t0, cs0, f0, p0, q0, hg0, ht0, hv0, hd0, _⟩, _⟩, _⟩ := h
  obtain rfl := Option.some.inj (gOps.symm.trans hg0)
  obtain rfl := Option.some.inj (tOps.symm.trans ht0)
  exact laid_strs opsL gOps Tryd.underlying115 Tryd.underlying9 (by kernel_rfl) hv0 hd0
theorem wins_of {W : World} (h : laidMet Tryd.prog laidV W) (ws : List Win) (hw : ∀ (k : Nat) x, ws[k]? = some x → ∃ c' e fr, W.heap[x.blk]? = some (.cells c' e fr) ∧ x.off + x.cells.length ≤ c'.size ∧ ∀ (j : Nat) v, x.cells[j]? = some v → ∃ v', c'[x.off + j]? = some v' ∧ VRel (winsInj G0 W ws) v v') : WinsOk G0 glS ws W := by
  obtain ⟨c', e', fr, hh, hc⟩ := laid_ops h
  refine ⟨?_, ?_, hw⟩
  · obtain ⟨ps, ⟨g0, t0, cs0, f0, p0, q0, hg0, ht0, hv0, hd0, _⟩, _, _⟩ := h
    obtain rfl := Option.some.inj (gAcc.symm.trans hg0)
    simp only [World.var?, hg0, Option.bind_some] at hv0
    split at hv0
    · rename_i c e fr h3
      exact (Array.getElem?_eq_some_iff.1 h3).1
    · cases hv0
  · intro p hp
    simp only [List.mem_singleton] at hp
    subst hp
    refine ⟨by decide, c', e', fr, hh, ?_, fun j v hj => ?_⟩
    · have h16 := hc 16 [41] rfl
      have := (Array.getElem?_eq_some_iff.1 h16).1
      show 17 ≤ c'.size
      omega
    · rw [List.getElem?_map, Option.map_eq_some_iff] at hj
      obtain ⟨s, hs, rfl⟩ := hj
      exact ⟨_, hc j s hs, .plain rfl⟩
theorem wins_ok {W : World} (h : laidMet Tryd.prog laidV W) : WinsOk G0 glS [] W := wins_of h [] fun k x hx => by cases hx
theorem winsT_win (gs : List (Nat × List Value)) : ∀ (ws : List Win) (k j : Nat) (x : Win), ws[j]? = some x → (winsT gs k ws).get (k + j) = some (.cells x.cells 0 false 0 none) := by
  intro ws
  induction ws with
  | nil => intro k j x h; simp at h
  | cons y ws ih =>
    intro k j x h
    cases j with
    | zero => cases h; show ((winsT gs (k + 1) ws).set k _).get (k + 0) = _; rw [T.get_set, if_pos (by omega)]
    | succ j =>
      show ((winsT gs (k + 1) ws).set k _).get (k + (j + 1)) = _
      rw [T.get_set, if_neg (by omega), show k + (j + 1) = k + 1 + j by omega]
      exact ih (k + 1) j x h
theorem winsT_glob (gs : List (Nat × List Value)) : ∀ (ws : List Win) (k b : Nat), b < k → (winsT gs k ws).get b = (winsT gs k []).get b := by
  intro ws
  induction ws with
  | nil => intro k b _; rfl
  | cons y ws ih =>
    intro k b h
    show ((winsT gs (k + 1) ws).set k _).get b = _
    rw [T.get_set, if_neg (by omega), ih (k + 1) b (by omega)]
    rfl
theorem gl_wins (ws : List Win) : Gl (winsH G0 glS ws) := by
  show (winsT _ G0 ws).get _ = _
  rw [winsT_glob _ _ _ _ (by decide)]
  rfl
theorem g_lt (ws : List Win) : 0 < (winsH G0 glS ws).next := Nat.lt_of_lt_of_le (by decide : (0 : Nat) < G0) (Nat.le_add_right _ _)
theorem str_cells {HH : Type} {enc : TypeId × Value → HH} {W : World} {a : Addr} {fuel : Nat} {cs : List Value} {x : DataW HH × List MemPlace} (hc : W.cells? 0 a 1 = some cs) (h : DataW.trod enc Tryd.prog W 0 (fun _ => true) true fuel 9 cs = some x) : ∃ y : List UInt8, W.cell? a = some (str y) := by
  obtain ⟨_, hl, hcell⟩ := World.cells?_some hc
  obtain ⟨s, e, _⟩ := DataW.trod_string Tryd.underlying9 h
  subst e
  have := hcell 0 (by decide)
  rw [show a.add 0 = a from by unfold Addr.add; simp] at this
  exact ⟨s.data.toList, this⟩
theorem strs_arg {HH : Type} {enc : TypeId × Value → HH} {W : World} (hL : laidMet Tryd.prog laidV W) {base : Nat} {v0 : Value} {d0 : DataW HH} {p0 : List MemPlace} (hval : Value.okWide Tryd.prog W .any base 38 v0)
    (h : DataW.Trod enc Tryd.prog W 0 (fun _ => true) true 38 v0 d0 p0) :
    ∃ (ws : List Win) (v : Value) (l : List (List UInt8)), WinsOk G0 glS ws W ∧ RdS (winsH G0 glS ws) v l ∧ VRel (winsInj G0 W ws) v v0 := by
  have c1 : Tryd.prog.cellsOf 9 = 1 := by kernel_rfl
  obtain ⟨a0, len, cap, rfl⟩ := okWide_slice Tryd.underlying38 hval
  obtain ⟨fuel, h⟩ := h
  have h' : DataW.trod enc Tryd.prog W 0 (fun _ => true) true fuel 38 [.slice a0 len cap] = some (d0, p0) := h
  rcases open_slice Tryd.underlying38 h' with ⟨e, _⟩ | ⟨a, len', cap', m, n, D, Pl, e, _, hl, _, hm, _, hx⟩
  · simp at e
    obtain ⟨rfl, rfl, rfl⟩ := e
    exact ⟨[], .slice none 0 0, [], wins_ok hL, .inl ⟨rfl, rfl⟩, .plain rfl⟩
  · simp at e
    obtain ⟨rfl, rfl, rfl⟩ := e
    simp only [if_true] at hm
    subst hm
    rw [c1] at hx
    have each : ∀ i, i < m → ∃ y : List UInt8, W.cell? (a.add i) = some (str y) := by
      intro i hi
      obtain ⟨cs, h1, h2⟩ := hx i hi
      rw [Nat.mul_one] at h1
      exact str_cells h1 h2
    obtain ⟨f, hf⟩ := choose_lt each
    by_cases hm0 : m = 0
    · subst hm0
      obtain rfl : len = 0 := by omega
      refine ⟨[⟨0, 0, []⟩], .slice (some ⟨G0, 0, none⟩) 0 0, [], ?_, .inr ⟨G0, 0, 0, false, 0, none, rfl, Nat.le_refl _, rfl, .inl rfl, by decide⟩, .slice0⟩
      obtain ⟨c', e', fr, hh, hc⟩ := laid_ops hL
      refine wins_of hL _ fun k x hx => ?_
      cases k with
      | zero => cases hx; exact ⟨c', e', fr, hh, Nat.zero_le _, fun j v hj => by simp at hj⟩
      | succ k => simp at hx
    · have hcell0 := hf 0 (by omega)
      have hsp : a.spot = none := by
        cases hs : a.spot with
        | none => rfl
        | some s =>
          simp [Addr.add, World.cell?, hs] at hcell0
          split at hcell0 <;> cases hcell0
      obtain ⟨blk, off, spot⟩ := a
      simp only at hsp
      subst hsp
      have hadd : ∀ k, (⟨blk, off, none⟩ : Addr).add k = ⟨blk, off + k, none⟩ := by
        intro k
        unfold Addr.add
        by_cases hk : k = 0
        · simp [hk]
        · simp [hk]
      obtain ⟨c, e, fr, hblk⟩ : ∃ c e fr, W.heap[blk]? = some (.cells c e fr) := by
        rw [hadd] at hcell0
        simp only [World.cell?] at hcell0
        split at hcell0
        · rename_i c e fr hh; exact ⟨c, e, fr, hh⟩
        · simp at hcell0
      have hcell : ∀ i, i < m → c[off + i]? = some (str (f i)) := by
        intro i hi
        have := hf i hi
        rw [hadd] at this
        simpa [World.cell?, hblk] using this
      have hl : len ≤ m := hl
      refine ⟨[⟨blk, off, ((List.range len).map f).map str⟩], .slice (some ⟨G0, 0, none⟩) len m, (List.range len).map f, ?_, .inr ⟨G0, m, 0, false, 0, none, by simp, by simpa using hl, rfl, .inl rfl, Nat.lt_succ_self _⟩, ?_⟩
      · refine wins_of hL _ fun k x hx => ?_
        cases k with
        | zero =>
          cases hx
          have hat : ∀ (j : Nat) v, (((List.range len).map f).map str)[j]? = some v → c[off + j]? = some v ∧ ∃ y, v = str y := by
            intro j v hj
            have hjl : j < len := by have := (List.getElem?_eq_some_iff.1 hj).1; simpa using this
            rw [hcell j (by omega)]
            simp [hjl] at hj
            exact ⟨by rw [hj], _, hj.symm⟩
          refine ⟨c, e, fr, hblk, ?_, fun j v hj => ?_⟩
          · by_cases hz : len = 0
            · have h1 := hcell 0 (by omega)
              have := (Array.getElem?_eq_some_iff.1 h1).1
              simp [hz]; omega
            · have h1 := hcell (len - 1) (by omega)
              have := (Array.getElem?_eq_some_iff.1 h1).1
              simp; omega
          · obtain ⟨h1, y, rfl⟩ := hat j v hj
            exact ⟨_, h1, .plain rfl⟩
        | succ k => simp at hx
      · have hv : VRel (winsInj G0 W [⟨blk, off, ((List.range len).map f).map str⟩]) (.slice (some ⟨G0, 0, none⟩) len m) (.slice (some ⟨blk, 0 + off, none⟩) len m) :=
          .slice (i := ⟨blk, off, 0, sizeB W blk⟩) rfl hl (Nat.le_refl _) (.inl rfl)
        rwa [Nat.zero_add] at hv
end Go.Proofs.YtdgclgfhcgdehaaDoor
