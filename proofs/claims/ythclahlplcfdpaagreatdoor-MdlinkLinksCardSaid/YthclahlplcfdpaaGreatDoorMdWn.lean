/- What the rows' variables give D's heap; a slice of strings as it comes in. -/
import Derived.Test.YthclahlplcfdpaaGreatDoorMdVa
import Derived.Test.YthclahlplcfdpaaGreatDoorMdSo
import Derived.Test.YthclahlplcfdpaaGreatDoorDFin
import Derived.Test.YthclahlplcfdpaaGreatDoorRows
import Derived.Lay
import Derived.Deep.Slices
import Derived.Lib.SmallJoins
import Derived.Handed
import Derived.Shelf.Vars
set_option linter.unusedVariables false
set_option linter.unusedSimpArgs false
set_option maxRecDepth 100000
namespace Go.Proofs.YthclahlplcfdpaaGreatDoor
open Go.Dm Go.ChangeMaps Go.ChangeShapes Go.WideShapes Go.ChangeAt Go.RowKit Go.Deep Go.Joins
theorem own : ownKnob Tryz.prog.godebug = none := by kernel_rfl
theorem laidOut : laidOutB Tryz.prog = true := by kernel_rfl
def laidV : List (String × DataW Unit) := [("unicode/utf8.acceptRanges", Rows.laid_unicode_utf8_acceptRanges), ("unicode/utf8.first", Rows.laid_unicode_utf8_first)]
theorem met_all (os : Os) (args : Array Value) : laidMetH Tryz.prog laidV ((World.laidAll Tryz.prog os laidV).forCall (fun _ _ => 0) ⟨#[], args, []⟩).memory := by
  rw [MakeChecks.laidMetH_plain _ _ _ (by kernel_rfl)]; exact laidMet_laidAll _ (by kernel_rfl) (by kernel_rfl)
/-- The wrap, with listed variables and the world's shape. -/
theorem change_and_shaped {H : Type} {enc : TypeId × Value → H} {a : Assume} {C : Checked} {os : Os} {f : FuncId} {fn : Func} {s : ChangeSpec} {conds : List PathCond} {apart fresh handsOn again : Bool} {X : World → Array Value → Prop}
    (hX : ∀ (w w' : World) (args : Array Value), w.heap = w'.heap → X w args → X w' args)
    (own : ownKnob C.prog.godebug = none) (started : os.Started) (noInit : C.prog.inits.idxOf? f = none) (hfn : C.prog.funcs[f]? = some fn)
    (witness : ∃ (w : World) (tape : Tape) (i : Input), w.os = os ∧ (w.forCall tape i).Shaped C.prog ∧ i.vars = [] ∧ Input.okWide C.prog (w.forCall tape i) .any w.heap.size f i ∧
      ((s.pre enc C.prog fn conds apart (w.forCall tape i).memory i.args ∧ X (w.forCall tape i).memory i.args) ∧ sizedMet enc C.prog fn (OpenSpec.ofChange s) apart (w.forCall tape i).memory i.args) ∧ a.holds C.prog (lone (Frame.enter C.prog f i.args .normal) [] (w.forCall tape i)))
    (contract : ∀ (W : World) (base : Nat) (args : Array Value) (ds gs : List (DataW H)) (before : List MemPlace),
      (∀ (j : Nat) t v, fn.params[j]? = some t → args[j]? = some v → Value.okWide C.prog W .any base t v) →
      DataW.Whole enc C.prog fn.params.toList s.vars apart W args.toList ds gs before →
      X W args → W.ShapedOpen C.prog →
      Calls C.prog f args W fun e W' => ∃ v, e = .returned v ∧ s.post enc C.prog fn apart fresh handsOn again W args v W') :
    ReturnsInHanded a C os f .any (fun w args => (s.pre enc C.prog fn conds apart w args ∧ X w args) ∧ sizedMet enc C.prog fn (OpenSpec.ofChange s) apart w args) (s.post enc C.prog fn apart fresh handsOn again) := by
  refine returnsInHanded_of_calls own started noInit witness ?_
  intro w tape i _ hsh _ hok hpre hholds
  obtain ⟨_, _, _, fn', hfn', _, _, _, _, hval⟩ := hok
  obtain rfl : fn' = fn := Option.some.inj (hfn'.symm.trans hfn)
  obtain ⟨⟨⟨ds, gs, before, hw, hc⟩, hx⟩, hz⟩ := hpre
  refine (contract (w.forCall tape i) w.heap.size i.args ds gs before hval (DataW.Whole.of_heap (w' := w.forCall tape i) (by rfl) hw) (hX _ _ _ (by rfl) hx) hsh).mono fun e W' ⟨v, he, hp⟩ => ?_
  subst he
  exact ChangeSpec.post_blind hp
/-- MaxLen holds a number. -/
theorem max_num {W : World} (h : W.ShapedOpen Tryz.prog) : ∃ m, W.cell? ⟨gMax, 0, none⟩ = some (.int .i64 m) :=
  cell_of_shapedOpen_int (t := 3) (zero := #[.int .i64 0]) h (of_decide_eq_true (by kernel_rfl)) (by kernel_rfl) rfl (by kernel_rfl) (by kernel_rfl) Tryz.underlying3
abbrev glS (m : Int) : List (Nat × List Value) := [(gMax, [.int .i64 m])]
theorem gAcc : Tryz.prog.globalNamed "unicode/utf8.acceptRanges" = some 2 := by kernel_rfl
theorem laid_plain {W : World} (h : laidMetH Tryz.prog laidV W) : laidMet Tryz.prog laidV W := by
  rwa [MakeChecks.laidMetH_plain _ _ _ (by kernel_rfl)] at h
theorem size_ok {W : World} (h : laidMet Tryz.prog laidV W) : G0 ≤ W.heap.size := by
  obtain ⟨ps, ⟨g0, t0, cs0, f0, p0, q0, hg0, ht0, hv0, hd0, _⟩, _, _⟩ := h
  obtain rfl := Option.some.inj (gAcc.symm.trans hg0)
  simp only [World.var?, hg0, Option.bind_some] at hv0
  split at hv0
  · rename_i c e fr h3
    exact (Array.getElem?_eq_some_iff.1 h3).1
  · cases hv0
theorem wins_of {W : World} (h : laidMet Tryz.prog laidV W) {m : Int} (hm : W.cell? ⟨gMax, 0, none⟩ = some (.int .i64 m)) (ws : List Win) (hw : ∀ (k : Nat) x, ws[k]? = some x → ∃ c' e fr, W.heap[x.blk]? = some (.cells c' e fr) ∧ x.off + x.cells.length ≤ c'.size ∧ ∀ (j : Nat) v, x.cells[j]? = some v → ∃ v', c'[x.off + j]? = some v' ∧ VRel (winsInj G0 W ws) v v') : WinsOk G0 (glS m) ws W := by
  refine ⟨size_ok h, ?_, hw⟩
  intro p hp
  simp only [List.mem_singleton] at hp
  subst hp
  obtain ⟨c, e, fr, hh⟩ : ∃ c e fr, W.heap[gMax]? = some (.cells c e fr) := by
    simp only [World.cell?] at hm
    split at hm
    · rename_i c e fr hh; exact ⟨c, e, fr, hh⟩
    · simp at hm
  have hc0 : c[0]? = some (.int .i64 m) := by simpa [World.cell?, hh] using hm
  refine ⟨(by decide : gMax < G0), c, e, fr, hh, (Array.getElem?_eq_some_iff.1 hc0).1, fun j v hj => ?_⟩
  cases j with
  | zero => cases hj; exact ⟨_, hc0, .plain rfl⟩
  | succ j => simp at hj
theorem wins_ok {W : World} (h : laidMet Tryz.prog laidV W) {m : Int} (hm : W.cell? ⟨gMax, 0, none⟩ = some (.int .i64 m)) : WinsOk G0 (glS m) [] W := wins_of h hm [] fun k x hx => by cases hx
theorem winsT_glob (gs : List (Nat × List Value)) : ∀ (ws : List Win) (k b : Nat), b < k → (winsT gs k ws).get b = (winsT gs k []).get b := by
  intro ws
  induction ws with
  | nil => intro k b _; rfl
  | cons y ws ih =>
    intro k b h
    show ((winsT gs (k + 1) ws).set k _).get b = _
    rw [T.get_set, if_neg (by omega), ih (k + 1) b (by omega)]
    rfl
theorem gm_wins (m : Int) (ws : List Win) : GmH (winsH G0 (glS m) ws) := by
  refine ⟨?_, Nat.le_add_right _ _⟩
  have e : (winsH G0 (glS m) ws).get gMax = some (.cells [.int .i64 m] 0 false 0 none) := by
    show (winsT _ G0 ws).get _ = _
    rw [winsT_glob _ _ _ _ (by decide)]
    rfl
  unfold numAt
  rw [e]
end Go.Proofs.YthclahlplcfdpaaGreatDoor
