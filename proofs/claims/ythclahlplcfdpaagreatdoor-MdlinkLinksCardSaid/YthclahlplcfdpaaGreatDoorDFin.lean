/- The machine D, 35: the row's last step: a law that answers true and changes nothing that was there; a laid array of strings. -/
import Derived.Test.YthclahlplcfdpaaGreatDoorDEq
import Derived.ProofKit
import Derived.LaidMore
import Derived.OpenShut
import Derived.Stop.Joined
import Derived.SizedLaws
import Derived.ChangeSame
import Derived.WideKeyArgs
set_option linter.unusedVariables false
set_option linter.unusedSimpArgs false
namespace Go.Dm
open Go.RowKit Go.ChangeShapes Go.WideShapes
section
variable {H : Type} {enc : TypeId × Value → H} {P : Program}
theorem trodAll_below (hl : laidOutB P = true) {W W' : World} {sp : Nat → Bool} (hb : Below W.heap.size W W') : ∀ (ts : List TypeId) (vs : List Value) (ds : List (DataW H)) (ps : List MemPlace),
    (∀ t ∈ ts, P.readableRec t = true ∧ t < P.types.size) → DataW.TrodAll enc P W 0 (fun _ => true) true ts vs ds ps → (∀ p ∈ ps, p.block < W.heap.size) → (∀ p ∈ ps, sp p.block = true) → DataW.TrodAll enc P W' 0 sp true ts vs ds ps := by
  intro ts
  induction ts with
  | nil =>
    intro vs ds ps _ h _ _
    cases vs <;> cases ds <;> simp_all [DataW.TrodAll]
  | cons t ts ih =>
    intro vs ds ps hr h hlt hs
    cases vs with
    | nil => simp [DataW.TrodAll] at h
    | cons v vs =>
      cases ds with
      | nil => simp [DataW.TrodAll] at h
      | cons d ds =>
        obtain ⟨p, q, h1, h2, rfl⟩ := h
        exact ⟨p, q, WideElems.Trod_stays hl (hr t (List.mem_cons_self ..)).1 (hr t (List.mem_cons_self ..)).2 h1 (fun x hx => hb.same (hlt x (List.mem_append_left _ hx))) (fun x hx => hs x (List.mem_append_left _ hx)),
          ih vs ds q (fun u hu => hr u (List.mem_cons_of_mem _ hu)) h2 (fun x hx => hlt x (List.mem_append_right _ hx)) (fun x hx => hs x (List.mem_append_right _ hx)), rfl⟩

theorem post_true {f : Func} {s : ChangeSpec} {W W' : World} {args : Array Value} {ds gs : List (DataW H)} {before : List MemPlace} {tb : TypeId}
    (hl : laidOutB P = true) (hr : (f.params.toList.all fun t => P.readableRec t && decide (t < P.types.size)) = true) (hres : f.resultTypes = #[tb]) (htb : P.underlying tb = some .bool) (hvs : s.vars = [])
    (hfn : s.fn H (ds ++ gs) = { results := [.lit (.bool true)], args := ds }) (hW : DataW.Whole enc P f.params.toList s.vars false W args.toList ds gs before) (hb : Below W.heap.size W W') :
    s.post enc P f false true false false W args (.bool true) W' := by
  have hlt : ∀ p ∈ before, p.block < W.heap.size := fun p hp => hW.lt p hp
  have hold : ∀ p ∈ before, (fun b => decide (b < W.heap.size)) p.block = true := fun p hp => by simpa using hlt p hp
  have hW' := hW
  obtain ⟨p, q, hA, hV, rfl, hz, hn⟩ := hW
  rw [hvs] at hV
  obtain ⟨rfl, rfl⟩ := trodVars_none hV
  have hr' : ∀ t ∈ f.params.toList, P.readableRec t = true ∧ t < P.types.size := fun t ht => by simpa using List.all_eq_true.1 hr t ht
  rw [List.append_nil] at hlt hold
  refine ⟨ds, [], p ++ [], [], p, [], hW', ?_, ?_, ?_, ?_, fun h => by cases h⟩
  · rw [hfn, hres]
    exact trodAll_mk1 (shut_bool htb _)
  · rw [hfn]
    exact trodAll_below hl hb _ _ _ _ hr' hA hlt hold
  · rw [hfn, hvs]
    rfl
  · exact World.keptBut_mono (fun x hx => ⟨by simpa using hx, .inr (.inl (by simpa using hx))⟩) (hb.frame (· ∈ p))
end

/-- A laid array of strings: its block's first cells. -/
theorem laid_strs {P : Program} {enc : TypeId × Value → Unit} {W : World} {n : String} {g : Nat} {t e : TypeId} {cs : Array Value} {fuel : Nat} {held : Bool} {p : List MemPlace} (L : List (List UInt8)) (hg : P.globalNamed n = some g) (ht : P.underlying t = some (.array L.length e)) (he : P.underlying e = some .string) (hc : P.cellsOf e = 1)
    (hv : W.var? P n = some cs) (h : DataW.trod enc P W 0 (fun _ => true) held fuel t cs.toList = some (.agg (L.map fun s => .lit (.string s)), p)) :
    ∃ c' e' fr, W.heap[g]? = some (.cells c' e' fr) ∧ ∀ (j : Nat) s, L[j]? = some s → c'[j]? = some (str s) := by
  simp only [World.var?, hg, Option.bind_some] at hv
  split at hv
  · rename_i c' e' fr hh
    cases hv
    refine ⟨cs, e', fr, hh, fun j s hj => ?_⟩
    obtain ⟨xs, m, rfl, hx, hlen, hn, hel⟩ := DataW.trod_array ht h
    have hjl := (List.getElem?_eq_some_iff.1 hj).1
    have h0 := hel j hjl
    rw [hc] at h0
    simp only [Prod.mk.injEq, DataW.agg.injEq] at hx
    have hxj : xs[j]? = some xs[j] := List.getElem?_eq_getElem (by omega)
    rw [hxj] at h0
    obtain ⟨s', e1, e2, _⟩ := DataW.trod_string he h0
    have e3 : (xs.map (·.1))[j]? = some (.lit (.string s)) := by rw [← hx.1, List.getElem?_map, hj]; rfl
    rw [List.getElem?_map, hxj, Option.map_some, e2] at e3
    have e4 : s'.data.toList = s := by simpa using e3
    have e5 : (cs.toList.drop (j * 1))[0]? = some (.string s') := by
      have : ((cs.toList.drop (j * 1)).take 1)[0]? = some (.string s') := by rw [e1]; rfl
      rwa [List.getElem?_take_of_lt (by decide)] at this
    rw [List.getElem?_drop, Nat.mul_one, Nat.add_zero, Array.getElem?_toList] at e5
    rw [e5, ← e4]
    rfl
  · cases hv
theorem reach_lt {n : Nat} (h : n ≤ reachBytes) : n < 2 ^ 47 := Nat.lt_of_le_of_lt h reachBytes_lt
end Go.Dm
