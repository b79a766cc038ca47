/- slices.Sort as a plug of the machine D's. -/
import Derived.Test.YthclahlplcfdpaaGreatDoorMdLay
import Derived.Test.YthclahlplcfdpaaGreatDoorDEnv
import Derived.Test.YthclahlplcfdpaaGreatDoorDRng
import Derived.Sort.OwnSorted
set_option linter.unusedVariables false
set_option linter.unusedSimpArgs false
namespace Go.Dm
open Go.Sort Go.RowKit
theorem below_grow (w : World) (os : Array Obj) : Below w.heap.size w (grow w os) := by
  refine ⟨rfl, rfl, rfl, by simp [grow], fun k hk => ?_⟩
  simp [grow, Array.getElem?_append_left hk]
theorem HRel.below' {ok : OkC} {G : Nat} {m : Inj} {h : H} {w w' : World} (R : HRel ok G m h w) (b : Below w.heap.size w w') : HRel ok G m h w' ∧ Evo m h w m h w' := by
  refine ⟨⟨fun c u j hc hj => (R.obj c u j hc hj).congr (Ext.refl m) (b.block _ (R.dom c j hj).2), R.inj, fun c j hj => ⟨(R.dom c j hj).1, Nat.lt_of_lt_of_le (R.dom c j hj).2 b.size⟩, R.one, R.wf, R.glob⟩, ?_⟩
  exact ⟨Ext.refl m, b.os, b.tape, b.output, b.size, fun r hr _ => b.block r hr, fun c i e e' => (by rw [e] at e'; cases e'), fun _ _ h => h⟩
section
variable {α : Type} (enc : α → Value) {ok : OkC} {G : Nat} {m : Inj} {h : H} {w : World}
/-- What is known of a row that D owns. -/
theorem holds_of (R : HRel ok G m h w) [Inhabited α] {b : Nat} {i : Img} {cs : List Value} {st o : Nat} {ty : Option TypeId} {zs : List α} (hb : h.get b = some (.cells cs st true 0 ty)) (hi : m b = some i) (hcs : (cs.drop o).take zs.length = zs.map enc) (hpl : ∀ x v', VRel m (enc x) v' → v' = enc x) :
    Go.Sort.Holds enc w i.blk (o + i.off) zs.toArray := by
  obtain ⟨h0, c', e, lo, hi', h1, h2, h3, h4, h5, h6⟩ := R.obj b _ i hb hi
  intro j hj
  have hj' : j < zs.length := by simpa using hj
  have hc : cs[o + j]? = some (enc zs[j]) := by
    have := congrArg (fun l => l[j]?) hcs
    simp only [List.getElem?_take, hj', if_true, List.getElem?_drop, List.getElem?_map, List.getElem?_eq_getElem hj', Option.map_some] at this
    exact this
  obtain ⟨v', g1, g2⟩ := h4 _ _ hc
  have hlt : i.off + (o + j) < c'.size := (Array.getElem?_eq_some_iff.1 g1).1
  have h5' := h5 rfl
  have eq1 : o + i.off + j = i.off + (o + j) := by omega
  refine ⟨?_, ?_⟩
  · simp only [World.cell?, h1, Option.isSome_none, Bool.false_eq_true, if_false, eq1, g1]
    rw [hpl _ _ g2]
    simp [hj']
  · simp only [World.frozen?, h1, eq1]
    rw [← h2] at h5'
    rcases h5' with h | h | h
    · simp; omega
    · simp; omega
    · simp; omega
theorem setAt_at (c : List Value) (o : Nat) (vs : List Value) (hle : o + vs.length ≤ c.length) (j : Nat) : (setAt c o vs)[j]? = if o ≤ j ∧ j < o + vs.length then vs[j - o]? else c[j]? := by
  induction vs generalizing c o with
  | nil => simp only [setAt, List.length_nil]; rw [if_neg (by omega)]
  | cons v vs ih =>
    simp only [List.length_cons] at hle
    rw [setAt, ih (c.set o v) (o + 1) (by simp; omega)]
    by_cases h1 : j = o
    · subst h1
      rw [if_neg (by omega), if_pos (by simp), List.getElem?_set_self (by omega), Nat.sub_self]
      rfl
    · rw [List.getElem?_set_ne (fun e => h1 e.symm)]
      by_cases h2 : o + 1 ≤ j ∧ j < o + 1 + vs.length
      · rw [if_pos h2, if_pos (by simp; omega), show j - o = (j - (o + 1)) + 1 by omega, List.getElem?_cons_succ]
      · rw [if_neg h2, if_neg (by simp; omega)]
/-- A row's cells get others. -/
theorem row_upd (R : HRel ok G m h w) [Inhabited α] {b : Nat} {i : Img} {cs : List Value} {st o n : Nat} {ty : Option TypeId} {zs : List α} (hb : h.get b = some (.cells cs st true 0 ty)) (hi : m b = some i) (hle : o + zs.length ≤ cs.length) (hpl : ∀ x, VRel m (enc x) (enc x)) (os : Array Obj) :
    HRel ok G m (h.put b (.cells (setAt cs o (zs.map enc)) st true 0 ty)) (grow (putRow enc (Sort.ahead w n) i.blk (o + i.off) zs.toArray) os) ∧ Evo m h w m (h.put b (.cells (setAt cs o (zs.map enc)) st true 0 ty)) (grow (putRow enc (Sort.ahead w n) i.blk (o + i.off) zs.toArray) os) := by
  obtain ⟨h0, c', e, lo, hi', h1, h2, h3, h4, h5, h6⟩ := R.obj b _ i hb hi
  obtain ⟨w1, hw1⟩ : ∃ w1, w1 = putRow enc (Sort.ahead w n) i.blk (o + i.off) zs.toArray := ⟨_, rfl⟩
  have hs : w1.heap.size = w.heap.size := by rw [hw1]; simp [putRow, mapBlock, Sort.ahead]
  have hot : ∀ r, r ≠ i.blk → w1.heap[r]? = w.heap[r]? := fun r hr => by
    rw [hw1]; simp [putRow, mapBlock, Sort.ahead, Array.getElem?_modify]
    intro e; exact absurd e.symm hr
  have hbl : w1.heap[i.blk]? = some (.cells (putCells enc (o + i.off) zs.toArray c') e (lo, hi')) := by
    rw [hw1]; simp [putRow, mapBlock, Sort.ahead, Array.getElem?_modify, h1, onCells]
  have hO : ORel ok m w1 i (.cells (setAt cs o (zs.map enc)) st true 0 ty) := by
    refine ⟨h0, _, e, lo, hi', hbl, by simp [putCells, h2], by rw [setAt_length]; simpa [putCells] using h3, ?_, h5, h6⟩
    intro j v hv
    rw [setAt_at _ _ _ (by simpa using hle)] at hv
    simp only [List.length_map] at hv
    by_cases hj : o ≤ j ∧ j < o + zs.length
    · rw [if_pos hj] at hv
      have hjl : j - o < zs.length := by omega
      rw [List.getElem?_map, List.getElem?_eq_getElem hjl] at hv
      cases hv
      refine ⟨enc zs[j - o], ?_, hpl _⟩
      have hlt : i.off + j < c'.size := by omega
      simp only [putCells, Array.getElem?_mapIdx, Array.getElem?_eq_getElem hlt, Option.map_some, List.size_toArray]
      rw [if_pos (by omega), show i.off + j - (o + i.off) = j - o by omega]
      simp [hjl]
    · rw [if_neg hj] at hv
      obtain ⟨v', g1, g2⟩ := h4 j v hv
      refine ⟨v', ?_, g2⟩
      simp only [putCells, Array.getElem?_mapIdx, g1, Option.map_some, List.size_toArray]
      rw [if_neg (by omega)]
  have R1 : HRel ok G m (h.put b (.cells (setAt cs o (zs.map enc)) st true 0 ty)) w1 := R.upd hb rfl hi hs hot hO
  have e1 : Evo m h w m (h.put b (.cells (setAt cs o (zs.map enc)) st true 0 ty)) w1 := Evo.upd hb rfl hi (by rw [hw1]; rfl) (by rw [hw1]; rfl) (by rw [hw1]; rfl) hs hot
  rw [← hw1]
  obtain ⟨R2, e2⟩ := R1.below' (below_grow w1 os)
  exact ⟨R2, e1.trans e2⟩
end
def strsD : List Value → Option (List (List UInt8))
  | [] => some []
  | .string s :: r => (strsD r).map (s.data.toList :: ·)
  | _ => none
def intsD : List Value → Option (List Int)
  | [] => some []
  | .int .i64 z :: r => (intsD r).map (z :: ·)
  | _ => none
theorem strsD_eq : ∀ {l : List Value} {ss : List (List UInt8)}, strsD l = some ss → l = ss.map str
  | [], ss, h => by cases h; rfl
  | v :: l, ss, h => by
    cases v <;> try (simp only [strsD, reduceCtorEq] at h; done)
    rename_i s
    simp only [strsD] at h
    cases hr : strsD l with
    | none => rw [hr] at h; cases h
    | some r =>
      rw [hr] at h
      cases h
      rw [List.map_cons, ← strsD_eq hr]
      rfl
theorem intsD_eq : ∀ {l : List Value} {zs : List Int}, intsD l = some zs → l = zs.map (Value.int .i64)
  | [], ss, h => by cases h; rfl
  | v :: l, ss, h => by
    cases v <;> try (simp only [intsD, reduceCtorEq] at h; done)
    rename_i k z
    cases k <;> try (simp only [intsD, reduceCtorEq] at h; done)
    simp only [intsD] at h
    cases hr : intsD l with
    | none => rw [hr] at h; cases h
    | some r =>
      rw [hr] at h
      cases h
      rw [List.map_cons, ← intsD_eq hr]
def sortP {α : Type} (dec : List Value → Option (List α)) (srt : List α → List α) (enc : α → Value) (args : List Value) (h : H) : Option (Value × H) := match args with
  | [.slice a n c] => if n = 0 then some (.tuple #[], h) else match a with
    | some ⟨b, o, none⟩ => match h.get b with
      | some (.cells cs st true 0 ty) => match dec ((cs.drop o).take n) with
        | some zs => if zs.length = n ∧ o + n ≤ cs.length ∧ n < 4611686018427387904 then some (.tuple #[], h.put b (.cells (setAt cs o ((srt zs).map enc)) st true 0 ty)) else none
        | none => none
      | _ => none
    | _ => none
  | _ => none
theorem sort_ok {α : Type} [Inhabited α] {P : Program} {ok : OkC} {G : Nat} {f : FuncId} {dec : List Value → Option (List α)} {srt : List α → List α} {enc : α → Value} (hd : ∀ {l zs}, dec l = some zs → l = zs.map enc) (hsl : ∀ zs, (srt zs).length = zs.length)
    (hpl : ∀ m x v', VRel m (enc x) v' → v' = enc x) (hpl2 : ∀ m x, VRel m (enc x) (enc x))
    (c0 : ∀ (p : Option Addr) (cap : Nat) (w : World), Calls P f #[.slice p 0 cap] w fun e w' => e = .returned (.tuple #[]) ∧ w' = w)
    (c1 : ∀ (blk off cap : Nat) (zs : List α) (w : World), Go.Sort.Holds enc w blk off zs.toArray → blk < w.heap.size → zs.length < 4611686018427387904 →
      Calls P f #[.slice (some ⟨blk, off, none⟩) zs.length cap] w fun e w' => e = .returned (.tuple #[]) ∧ ∃ n os, w' = grow (putRow enc (Sort.ahead w n) blk off (srt zs).toArray) os)
    {args : List Value} {h : H} {v : Value} {h' : H} (hx : sortP dec srt enc args h = some (v, h')) {m : Inj} {w : World} {args' : List Value} (R : HRel ok G m h w) (L : LRel m args args') :
    Calls P f args'.toArray w fun e w' => ∃ v', e = .returned v' ∧ Step ok G m h w v h' v' w' := by
  unfold sortP at hx
  split at hx
  · rename_i a n c
    cases L with
    | cons hv L =>
      cases L
      split at hx
      · rename_i hn
        subst hn
        cases hx
        obtain ⟨p, cap, rfl⟩ : ∃ p cap, ‹Value› = .slice p 0 cap := by cases hv <;> exact ⟨_, _, rfl⟩
        refine (c0 p cap w).mono ?_
        rintro e w' ⟨rfl, rfl⟩
        exact ⟨_, rfl, Step.same R (.tuple .nil)⟩
      · rename_i hn
        split at hx
        · rename_i b o
          split at hx
          · rename_i cs st ty hb
            split at hx
            · rename_i zs hz
              split at hx
              · rename_i hc
                obtain ⟨hc1, hc2, hc3⟩ := hc
                cases hx
                cases hv with
                | plain hp => simp [plain0] at hp
                | slice0 => exact absurd rfl hn
                | slice hm g1 g2 g3 =>
                  rename_i c' i
                  subst hc1
                  have hH := holds_of enc R hb hm (hd hz) (hpl m)
                  refine (c1 i.blk (o + i.off) c' zs w hH (R.dom _ _ hm).2 hc3).mono ?_
                  rintro e w' ⟨rfl, n, os, rfl⟩
                  obtain ⟨R2, e2⟩ := row_upd enc (zs := srt zs) (o := o) (n := n) R hb hm (by rw [hsl]; exact hc2) (hpl2 m) os
                  exact ⟨_, rfl, m, e2, R2, .tuple .nil⟩
              · cases hx
            · cases hx
          · cases hx
        · cases hx
  · cases hx
end Go.Dm
