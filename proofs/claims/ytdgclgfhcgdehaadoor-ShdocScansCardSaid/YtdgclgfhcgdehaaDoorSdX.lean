/- What the rows' laid variables give D's heap; a slice of strings as it comes in. -/
import Derived.Test.YtdgclgfhcgdehaaDoorStArg
import Derived.Test.YtdgclgfhcgdehaaDoorSdN
import Derived.Lay
import Derived.Deep.Slices
import Derived.Lib.SmallJoins
set_option linter.unusedVariables false
set_option linter.unusedSimpArgs false
set_option maxRecDepth 100000
namespace Go.Proofs.YtdgclgfhcgdehaaDoor
open Go.Dm Go.ChangeMaps Go.ChangeShapes Go.WideShapes Go.ChangeAt Go.RowKit Go.Deep Go.Joins
theorem own : ownKnob Tryd.prog.godebug = none := by kernel_rfl
theorem laidOut : laidOutB Tryd.prog = true := by kernel_rfl
def laidV : List (String × DataW Unit) := [("unicode/utf8.acceptRanges", Rows.laid_unicode_utf8_acceptRanges), ("indenture/shword.operators", Rows.laid_indenture_shword_operators), ("unicode/utf8.first", Rows.laid_unicode_utf8_first)]
theorem laid_plain {W : World} (h : laidMetH Tryd.prog laidV W) : laidMet Tryd.prog laidV W := by
  rwa [MakeChecks.laidMetH_plain _ _ _ (by kernel_rfl)] at h
theorem met_all (os : Os) (args : Array Value) : laidMetH Tryd.prog laidV ((World.laidAll Tryd.prog os laidV).forCall (fun _ _ => 0) ⟨#[], args, []⟩).memory := by
  rw [MakeChecks.laidMetH_plain _ _ _ (by kernel_rfl)]; exact laidMet_laidAll _ (by kernel_rfl) (by kernel_rfl)
theorem gOps : Tryd.prog.globalNamed "indenture/shword.operators" = some 0 := by kernel_rfl
theorem tOps : (Tryd.prog.globals[0]?).map (·.type) = some 115 := by kernel_rfl
theorem gAcc : Tryd.prog.globalNamed "unicode/utf8.acceptRanges" = some 3 := by kernel_rfl
abbrev glS : List (Nat × List Value) := [(0, opsL.map str)]
theorem laid_ops {W : World} (h : laidMet Tryd.prog laidV W) : ∃ c' e' fr, W.heap[0]? = some (.cells c' e' fr) ∧ ∀ (j : Nat) s, opsL[j]? = some s → c'[j]? = some (str s) := by
  obtain ⟨ps, ⟨_, _, _, _, _, _, _, _, _, _, ⟨g0, t0, cs0, f0, p0, q0, hg0, ht0, hv0, hd0, _⟩, _⟩, _⟩ := h
  obtain rfl := Option.some.inj (gOps.symm.trans hg0)
  obtain rfl := Option.some.inj (tOps.symm.trans ht0)
  exact laid_strs opsL gOps Tryd.underlying115 Tryd.underlying9 (by kernel_rfl) hv0 hd0
theorem wins_of {W : World} (h : laidMet Tryd.prog laidV W) (ws : List Win) (hw : ∀ (k : Nat) x, ws[k]? = some x → ∃ c' e fr, W.heap[x.blk]? = some (.cells c' e fr) ∧ x.off + x.cells.length ≤ c'.size ∧ ∀ (j : Nat) v, x.cells[j]? = some v → ∃ v', c'[x.off + j]? = some v' ∧ VRel (winsInj G0 W ws) v v') : WinsOk G0 glS ws W := by
  obtain ⟨c', e', fr, hh, hc⟩ := laid_ops h
  refine ⟨?_, ?_, hw⟩
  · obtain ⟨ps, ⟨g0, t0, cs0, f0, p0, q0, hg0, ht0, hv0, hd0, _⟩, _, _⟩ := h
    obtain rfl := Option.some.inj (gAcc.symm.trans hg0)
    simp only [World.var?, hg0, Option.bind_some] at hv0
    split at hv0
    · rename_i c e fr h3
      exact (Array.getElem?_eq_some_iff.1 h3).1
    · cases hv0
  · intro p hp
    simp only [List.mem_singleton] at hp
    subst hp
    refine ⟨by decide, c', e', fr, hh, ?_, fun j v hj => ?_⟩
    · have h16 := hc 16 [41] rfl
      have := (Array.getElem?_eq_some_iff.1 h16).1
      show 17 ≤ c'.size
      omega
    · rw [List.getElem?_map, Option.map_eq_some_iff] at hj
      obtain ⟨s, hs, rfl⟩ := hj
      exact ⟨_, hc j s hs, .plain rfl⟩
theorem wins_ok {W : World} (h : laidMet Tryd.prog laidV W) : WinsOk G0 glS [] W := wins_of h [] fun k x hx => by cases hx
theorem winsT_win (gs : List (Nat × List Value)) : ∀ (ws : List Win) (k j : Nat) (x : Win), ws[j]? = some x → (winsT gs k ws).get (k + j) = some (.cells x.cells 0 false 0 none) := by
  intro ws
  induction ws with
  | nil => intro k j x h; simp at h
  | cons y ws ih =>
    intro k j x h
    cases j with
    | zero => cases h; show ((winsT gs (k + 1) ws).set k _).get (k + 0) = _; rw [T.get_set, if_pos (by omega)]
    | succ j =>
      show ((winsT gs (k + 1) ws).set k _).get (k + (j + 1)) = _
      rw [T.get_set, if_neg (by omega), show k + (j + 1) = k + 1 + j by omega]
      exact ih (k + 1) j x h
theorem winsT_glob (gs : List (Nat × List Value)) : ∀ (ws : List Win) (k b : Nat), b < k → (winsT gs k ws).get b = (winsT gs k []).get b := by
  intro ws
  induction ws with
  | nil => intro k b _; rfl
  | cons y ws ih =>
    intro k b h
    show ((winsT gs (k + 1) ws).set k _).get b = _
    rw [T.get_set, if_neg (by omega), ih (k + 1) b (by omega)]
    rfl
theorem gl_wins (ws : List Win) : Gl (winsH G0 glS ws) := by
  show (winsT _ G0 ws).get _ = _
  rw [winsT_glob _ _ _ _ (by decide)]
  rfl
theorem g_lt (ws : List Win) : 0 < (winsH G0 glS ws).next := Nat.lt_of_lt_of_le (by decide : (0 : Nat) < G0) (Nat.le_add_right _ _)
end Go.Proofs.YtdgclgfhcgdehaaDoor
