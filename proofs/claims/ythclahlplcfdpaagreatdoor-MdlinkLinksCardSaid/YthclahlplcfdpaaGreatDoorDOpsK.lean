/- The machine D, 4: its operations are followed by the model's: reading. -/
import Derived.Test.YthclahlplcfdpaaGreatDoorDRel
import Derived.Laws.StructEq
set_option linter.unusedVariables false
set_option linter.unusedSimpArgs false
namespace Go.Dm

structure EnvOk (P : Program) (E : Env) : Prop where
  ty : ∀ t, E.ty t = P.info? t
  fn : ∀ (f : FuncId) (fn : Func), E.fn f = some fn → P.funcs[f]? = some fn
  nm : ∀ (f : FuncId) (fn : Func), E.fn f = some fn → fn.body.isSome = true → (fn.name == "runtime.NumGoroutine") = false
  eqo : ∀ t, E.eqo t = true → P.stoodInHeld t = false ∧ P.eqGuardType P.depth t = false

section
variable {P : Program} {E : Env} (hE : EnvOk P E) {w : World}
include hE
theorem und_eq (t : TypeId) : E.und t = P.underlying t := by
  unfold Env.und Program.underlying
  simp only [hE.ty]
  cases P.info? t with
  | none => rfl
  | some i => obtain ⟨d⟩ := i; cases d <;> rfl
theorem run_underlying {t : TypeId} {d : TypeDesc} (h : E.und t = some d) : (underlying t).run P w = .ok d w := by
  rw [und_eq hE] at h
  simp [underlying, h]
theorem run_typeInfo {t : TypeId} {i : TypeInfo} (h : E.ty t = some i) : (typeInfo t).run P w = .ok i w := by
  rw [hE.ty] at h
  simp [typeInfo, h]
theorem run_siz {t : TypeId} {n : Nat} (h : E.siz t = some n) : (sizeOf t).run P w = .ok n w := by
  unfold Env.siz at h
  cases hi : E.ty t with
  | none => rw [hi] at h; simp at h
  | some i => rw [hi] at h; simp at h; simp [sizeOf, run_typeInfo hE hi, h]
theorem run_zero {t : TypeId} {z : Value} (h : zeroD E t = some z) : (zeroValue t).run P w = .ok z w := by
  unfold zeroD at h
  cases hi : E.ty t with
  | none => rw [hi] at h; simp at h
  | some i =>
    rw [hi] at h
    simp only at h
    cases hz : i.zero with
    | none => rw [hz] at h; simp at h
    | some z' =>
      rw [hz] at h
      simp only at h
      split at h
      · cases h; simp [zeroValue, run_typeInfo hE hi, hz]
      · cases h
omit hE in
theorem zero_plain {t : TypeId} {z : Value} (h : zeroD E t = some z) : plainV z = true := by
  unfold zeroD at h
  split at h
  · split at h
    · split at h
      · cases h; assumption
      · cases h
    · cases h
  · cases h
theorem run_isAgg_some {t : TypeId} {n : Nat} (h : aggN E t = some (some n)) : (isAgg t).run P w = .ok true w ∧ (sizeOf t).run P w = .ok n w := by
  unfold aggN at h
  split at h
  · rename_i fs hu
    simp at h
    exact ⟨by simp [isAgg, run_underlying hE hu], run_siz hE h⟩
  · rename_i k e hu
    simp at h
    exact ⟨by simp [isAgg, run_underlying hE hu], run_siz hE h⟩
  · cases h
  · cases h
theorem run_isAgg_none {t : TypeId} (h : aggN E t = some none) : (isAgg t).run P w = .ok false w := by
  unfold aggN at h
  split at h
  · simp at h
  · simp at h
  · rename_i d h1 h2 hu
    simp only [isAgg, Sem.run_bind, run_underlying hE hu, Result.andThen_ok]
    first | rfl | (cases d <;> first | rfl | (exact absurd rfl (h1 _)) | (exact absurd rfl (h2 _ _)) | simp_all)
  · cases h

omit hE in
theorem add_plain (b o n : Nat) : (⟨b, o, none⟩ : Addr).add n = ⟨b, o + n, none⟩ := by
  unfold Addr.add; split <;> simp_all

omit hE in
theorem run_loadCellsFrom (b o : Nat) : ∀ (vs : List Value) (i : Nat) (acc : Array Value), (∀ (j : Nat) (v : Value), vs[j]? = some v → w.cell? ⟨b, o + i + j, none⟩ = some v) →
    (loadCellsFrom ⟨b, o, none⟩ i vs.length acc).run P w = .ok (acc ++ vs.toArray) w := by
  intro vs
  induction vs with
  | nil => intro i acc _; simp [loadCellsFrom]
  | cons v vs ih =>
    intro i acc h
    have h0 := h 0 v rfl
    have ha : (⟨b, o, none⟩ : Addr).add i = ⟨b, o + i + 0, none⟩ := by unfold Addr.add; split <;> simp_all
    simp only [List.length_cons, loadCellsFrom, Sem.run_bind, run_load, ha, h0, Result.andThen_ok]
    rw [ih (i + 1) (acc.push v) (fun j u hu => by rw [show o + (i + 1) + j = o + i + (j + 1) by omega]; exact h (j + 1) u (by simpa using hu))]
    simp
omit hE in
theorem run_loadCells_list {b o : Nat} {vs : List Value} (h : ∀ (j : Nat) (v : Value), vs[j]? = some v → w.cell? ⟨b, o + j, none⟩ = some v) :
    (loadCells ⟨b, o, none⟩ vs.length).run P w = .ok vs.toArray w := by
  unfold loadCells
  rw [run_loadCellsFrom b o vs 0 #[] (by simpa using h)]
  simp

omit hE in
theorem cell_of {r : Nat} {c : Array Value} {e : TypeId} {f : Nat × Nat} (h : w.heap[r]? = some (.cells c e f)) (o : Nat) : w.cell? ⟨r, o, none⟩ = c[o]? := by
  simp [World.cell?, h]

theorem part_sim {m : Inj} {t : TypeId} {cs cs' : Array Value} (hc : LRel m cs.toList cs'.toList) {off : Nat} {v : Value} (h : partD E t cs.toList off = some v) :
    ∃ v', (part t cs' off).run P w = .ok v' w ∧ VRel m v v' := by
  unfold partD at h
  cases ha : aggN E t with
  | none => rw [ha] at h; cases h
  | some a =>
    rw [ha] at h
    cases a with
    | none =>
      simp only at h
      obtain ⟨v', h1, h2⟩ := hc.get h
      refine ⟨v', ?_, h2⟩
      simp only [part, Sem.run_bind, run_isAgg_none hE ha, Result.andThen_ok, Bool.false_eq_true, if_false]
      simp at h1
      simp [h1]
    | some n =>
      simp only at h
      split at h
      · cases h
        refine ⟨.agg (cs'.extract off (off + n)), ?_, ?_⟩
        · have ⟨h1, h2⟩ := run_isAgg_some hE (w := w) ha
          simp only [part, Sem.run_bind, h1, Result.andThen_ok, if_true, h2, Sem.run_pure]
        · have := (hc.drop off).take n
          have e : cs'.extract off (off + n) = Array.mk ((cs'.toList.drop off).take n) := by
            apply Array.ext'
            simp [Array.toList_extract, List.extract]
          rw [e]
          exact .agg this
      · cases h

variable {ok : OkC} {G : Nat} {m : Inj} {h : H} (R : HRel ok G m h w)
omit hE
include R
/-- Cells of D's that are read: the model's. -/
theorem cells_sim {b : Nat} {i : Img} (hi : m b = some i) {c : List Value} {s fz : Nat} {own : Bool} {ty : Option TypeId} (hb : h.get b = some (.cells c s own fz ty)) {o n : Nat} (hn : o + n ≤ c.length) :
    ∃ vs' : List Value, LRel m ((c.drop o).take n) vs' ∧ vs'.length = n ∧ (loadCells ⟨i.blk, o + i.off, none⟩ n).run P w = .ok vs'.toArray w ∧ ∀ (j : Nat) (v : Value), vs'[j]? = some v → w.cell? ⟨i.blk, o + i.off + j, none⟩ = some v := by
  obtain ⟨h0, c', e, lo, hh, h1, h2, h3, h4, h5⟩ := R.obj b _ i hb hi
  have hlen : ((c.drop o).take n).length = n := by simp; omega
  have hl : ((c'.toList.drop (i.off + o)).take n).length = n := by simp; omega
  have hcell : ∀ (j : Nat) (v : Value), ((c'.toList.drop (i.off + o)).take n)[j]? = some v → w.cell? ⟨i.blk, o + i.off + j, none⟩ = some v := by
    intro j v hv
    rw [List.getElem?_take] at hv
    split at hv
    · rw [List.getElem?_drop] at hv
      rw [cell_of h1, show o + i.off + j = i.off + o + j by omega]
      simpa using hv
    · cases hv
  refine ⟨(c'.toList.drop (i.off + o)).take n, LRel.of_get (by rw [hl, hlen]) fun j v hv => ?_, hl, ?_, hcell⟩
  · rw [List.getElem?_take] at hv ⊢
    split at hv
    · rename_i hj
      rw [if_pos hj]
      rw [List.getElem?_drop] at hv ⊢
      obtain ⟨v', a, b⟩ := h4 _ v hv
      exact ⟨v', by rw [show i.off + o + j = i.off + (o + j) by omega]; simpa using a, b⟩
    · cases hv
  · have := run_loadCells_list (P := P) hcell
    rw [hl] at this
    exact this
include hE
theorem ld_sim {t : TypeId} {a a' v : Value} (ha : VRel m a a') (hl : ld E t a h = some v) : ∃ v', (Instr.loadAt t a').run P w = .ok v' w ∧ VRel m v v' := by
  unfold ld at hl
  split at hl
  · rename_i b o
    obtain ⟨i, hi, _, rfl⟩ := ha.pointer
    simp only at hi
    unfold ldAt at hl
    split at hl
    · rename_i c s own fz ty hb
      unfold partD at hl
      cases hg : aggN E t with
      | none => rw [hg] at hl; cases hl
      | some g =>
        rw [hg] at hl
        cases g with
        | none =>
          simp only at hl
          obtain ⟨h0, c', e, lo, hh, h1, h2, h3, h4, h5⟩ := R.obj b _ i hb hi
          obtain ⟨v', hv1, hv2⟩ := h4 o v hl
          refine ⟨v', ?_, hv2⟩
          simp only [Instr.loadAt, Instr.sureAddr, loadVar, Sem.run_bind, Sem.run_pure, Result.andThen_ok, run_isAgg_none hE hg, Bool.false_eq_true, if_false, run_load, cell_of h1]
          rw [show o + i.off = i.off + o by omega, hv1]
        | some n =>
          simp only at hl
          split at hl
          · rename_i hn
            cases hl
            obtain ⟨vs', k1, k2, k3, _⟩ := cells_sim (P := P) R hi hb hn
            refine ⟨.agg vs'.toArray, ?_, .agg k1⟩
            have ⟨g1, g2⟩ := run_isAgg_some hE (w := w) hg
            simp only [Instr.loadAt, Instr.sureAddr, loadVar, Sem.run_bind, Sem.run_pure, Result.andThen_ok, g1, g2, if_true, k3]
          · cases hl
    · cases hl
  · cases hl
omit R
theorem field_sim {t : TypeId} {x x' v : Value} {f : Nat} (hx : VRel m x x') (hf : fieldD E t x f = some v) : ∃ v', (Instr.field t x' f).run P w = .ok v' w ∧ VRel m v v' := by
  unfold fieldD at hf
  split at hf
  · rename_i fields cs hu
    obtain ⟨cs', rfl, hc⟩ := hx.aggv
    cases hg : fields[f]? with
    | none => rw [hg] at hf; cases hf
    | some g =>
      rw [hg] at hf
      obtain ⟨v', h1, h2⟩ := part_sim hE (w := w) hc hf
      exact ⟨v', by simp [Instr.field, run_underlying hE hu, hg, asAgg, h1], h2⟩
  · cases hf
theorem index_sim {t : TypeId} {x x' y y' v : Value} (hx : VRel m x x') (hy : VRel m y y') (hf : indexD E t x y = some v) : ∃ v', (Instr.index t x' y').run P w = .ok v' w ∧ VRel m v v' := by
  unfold indexD at hf
  split at hf
  · rename_i len elem cs k i hu
    obtain ⟨cs', rfl, hc⟩ := hx.aggv
    obtain rfl := hy.int
    split at hf
    · rename_i hb
      simp at hb
      cases hs : E.siz elem with
      | none => rw [hs] at hf; cases hf
      | some n =>
        rw [hs] at hf
        obtain ⟨v', h1, h2⟩ := part_sim hE (w := w) hc hf
        exact ⟨v', by simp [Instr.index, asIntOf, run_underlying hE hu, hb, run_siz hE hs, h1], h2⟩
    · cases hf
  · rename_i s k i hu
    obtain rfl := hx.string
    obtain rfl := hy.int
    split at hf
    · rename_i hb
      split at hf
      · rename_i c hc
        cases hf
        refine ⟨.int .u8 c.toNat, ?_, .plain rfl⟩
        have : s[i.toNat]? = some c := by
          rw [List.getElem?_eq_some_iff] at hc
          obtain ⟨h1, h2⟩ := hc
          have h1' : i.toNat < s.size := by simpa using h1
          rw [getElem?_pos s i.toNat h1']
          exact congrArg some h2
        simp [Instr.index, asIntOf, run_underlying hE hu, hb, this]
      · cases hf
    · cases hf
  · cases hf
omit hE in
theorem extract_sim {x x' v : Value} {i : Nat} (hx : VRel m x x') (hf : extractD x i = some v) : ∃ v', (Instr.extract x' i).run P w = .ok v' w ∧ VRel m v v' := by
  unfold extractD at hf
  split at hf
  · obtain ⟨cs', rfl, hc⟩ := hx.tuplev
    obtain ⟨v', h1, h2⟩ := hc.get hf
    simp at h1
    exact ⟨v', by simp [Instr.extract, h1], h2⟩
  · cases hf
theorem fieldAddr_sim {t : TypeId} {x x' v : Value} {f : Nat} (hx : VRel m x x') (hf : fieldAddrD E t x f = some v) : ∃ v', (Instr.fieldAt t x' f).run P w = .ok v' w ∧ VRel m v v' := by
  unfold fieldAddrD at hf
  split at hf
  · rename_i fields b o hu
    obtain ⟨i, hi, _, rfl⟩ := hx.pointer
    simp only at hi
    cases hg : fields[f]? with
    | none => rw [hg] at hf; cases hf
    | some g =>
      rw [hg] at hf
      simp only at hf
      cases hs : E.siz g.type with
      | none => rw [hs] at hf; cases hf
      | some n =>
        rw [hs] at hf
        simp only at hf
        split at hf
        · cases hf
        · rename_i hn
          cases hf
          refine ⟨.pointer (some ⟨i.blk, (o + g.offset) + i.off, none⟩), ?_, .ptr hi⟩
          simp [Instr.fieldAt, run_underlying hE hu, hg, Instr.sureAddr, fieldPlace, run_siz hE hs, hn, add_plain]
          omega
  · cases hf
theorem indexAddr_sim {t : TypeId} {x x' y y' v : Value} (hx : VRel m x x') (hy : VRel m y y') (hf : indexAddrD E t x y = some v) : ∃ v', (Instr.indexAt t x' y').run P w = .ok v' w ∧ VRel m v v' := by
  unfold indexAddrD at hf
  split at hf
  · rename_i len elem b o k i hu
    obtain ⟨im, hi, _, rfl⟩ := hx.pointer
    obtain rfl := hy.int
    simp only at hi
    split at hf
    · rename_i hb
      simp at hb
      cases hs : E.siz elem with
      | none => rw [hs] at hf; cases hf
      | some n =>
        rw [hs] at hf
        cases hf
        refine ⟨.pointer (some ⟨im.blk, (o + i.toNat * n) + im.off, none⟩), ?_, .ptr hi⟩
        simp [Instr.indexAt, asIntOf, run_underlying hE hu, Instr.sureAddr, run_siz hE hs, hb, add_plain]
        omega
    · cases hf
  · rename_i elem b o len cap k i hu
    obtain ⟨a', c', rfl, h1, h2, h3⟩ := hx.slicev
    obtain rfl := hy.int
    split at hf
    · rename_i hb
      simp at hb
      cases hs : E.siz elem with
      | none => rw [hs] at hf; cases hf
      | some n =>
        rw [hs] at hf
        cases hf
        rcases h3 with ⟨rfl, _⟩ | ⟨im, hi, _, rfl, _⟩
        · omega
        · simp only at hi
          refine ⟨.pointer (some ⟨im.blk, (o + i.toNat * n) + im.off, none⟩), ?_, .ptr hi⟩
          simp [Instr.indexAt, asIntOf, run_underlying hE hu, run_siz hE hs, hb, add_plain]
          omega
    · cases hf
  · cases hf
omit hE in
theorem nilCheck_sim {x x' v : Value} (hx : VRel m x x') (hf : nilCheckD x = some v) : v = x ∧ ∀ (ρ : Operand → Value) (o : Oper) (y : Operand), o.op = .nilCheck y → ρ y = x' → (execOp ρ o).run P w = .ok (.value x') w := by
  unfold nilCheckD at hf
  split at hf <;> first | cases hf | skip
  all_goals refine ⟨rfl, fun ρ o y ho hy => ?_⟩
  · obtain ⟨i, hi, _, rfl⟩ := hx.pointer
    simp [execOp, ho, hy]
  · obtain ⟨a', b', rfl, _, _⟩ := hx.funcv
    simp [execOp, ho, hy]
  · obtain ⟨u, rfl, _⟩ := hx.ifacev
    simp [execOp, ho, hy]
  · rename_i a n c
    cases a with
    | none => obtain ⟨rfl, _⟩ := hx.nils; simp [execOp, ho, hy]
    | some a => obtain ⟨a', c', rfl, _⟩ := hx.slicev; simp [execOp, ho, hy]
  · obtain ⟨i, hi, rfl⟩ := hx.mapv
    simp [execOp, ho, hy]
end
end Go.Dm

set_option linter.unusedVariables false
set_option linter.unusedSimpArgs false
namespace Go.Dm

theorem setAt_length : ∀ (vs c : List Value) (o : Nat), (setAt c o vs).length = c.length := by
  intro vs
  induction vs with
  | nil => intro c o; rfl
  | cons v vs ih => intro c o; simp [setAt, ih]
theorem setAt_get : ∀ (vs c : List Value) (o j : Nat), (setAt c o vs)[j]? = if o ≤ j ∧ j < o + vs.length ∧ j < c.length then vs[j - o]? else c[j]? := by
  intro vs
  induction vs with
  | nil => intro c o j; simp [setAt]; omega
  | cons v vs ih =>
    intro c o j
    simp only [setAt, ih, List.length_set, List.length_cons]
    by_cases h : o + 1 ≤ j ∧ j < o + 1 + vs.length ∧ j < c.length
    · rw [if_pos h, if_pos (by omega), show j - o = (j - (o + 1)) + 1 by omega, List.getElem?_cons_succ]
    · rw [if_neg h, List.getElem?_set]
      by_cases e : o = j
      · subst e
        by_cases hc : o < c.length
        · rw [if_pos rfl, if_pos (by simpa using hc), if_pos (by omega)]; simp
        · rw [if_pos rfl, if_neg (by simpa using hc), if_neg (by omega)]; simp at hc; simp [hc]
      · rw [if_neg e, if_neg (by omega)]

section
variable {P : Program} {E : Env} (hE : EnvOk P E) {w : World} {m : Inj}

/-- An optional value and its fellow. -/
inductive OV (m : Inj) : Option Value → Option Value → Prop
  | none : OV m none none
  | some {v v' : Value} (h : VRel m v v') : OV m (some v) (some v')
theorem sliceBound_run (k : IntKind) (i : Int) (y : Nat) (c : BoundsCode) (h0 : 0 ≤ i) (h1 : i ≤ (y : Int)) : (Instr.sliceBound (.int k i) y c).run P w = .ok i.toNat w := by
  simp [Instr.sliceBound, asIntOf, h0, h1]
theorem bounds_sim {isS : Bool} {len cap cap' : Nat} {low high max low' high' max' : Option Value} {l hi mx : Nat} (hl : OV m low low') (hh : OV m high high') (hm : OV m max max')
    (hlen : len ≤ cap) (hc : cap ≤ cap') (h : boundsD len cap low high max = some (l, hi, mx)) :
    (Instr.sliceBounds isS len cap' low' high' max').run P w = .ok (l, hi, if max.isSome then mx else cap') w ∧ l ≤ hi ∧ hi ≤ mx ∧ mx ≤ cap ∧ (max.isSome = false → mx = cap) := by
  unfold boundsD at h
  cases hm with
  | none =>
    simp only [Option.isSome_none, Bool.false_eq_true, if_false] at h ⊢
    cases hh with
    | none =>
      simp only at h
      cases hl with
      | none => cases h; simp [Instr.sliceBounds]; omega
      | some hv =>
        rename_i v v'
        cases v with
        | int k i =>
          obtain rfl := hv.int
          simp only at h
          split at h
          · rename_i hb; simp at hb; cases h
            simp [Instr.sliceBounds, sliceBound_run k i len _ hb.1 hb.2]; omega
          · cases h
        | _ => simp at h
    | some hv =>
      rename_i v v'
      cases v with
      | int k i =>
        obtain rfl := hv.int
        simp only at h
        by_cases hb : (0 ≤ i && i ≤ (cap : Int)) = true
        · rw [if_pos hb] at h
          simp at hb
          have hr := fun c => sliceBound_run (P := P) (w := w) k i cap' c hb.1 (by omega)
          simp only at h
          cases hl with
          | none => cases h; simp [Instr.sliceBounds, hr]; omega
          | some hv2 =>
            rename_i u u'
            cases u with
            | int k2 j =>
              obtain rfl := hv2.int
              simp only at h
              split at h
              · rename_i hb2; simp at hb2; cases h
                simp [Instr.sliceBounds, hr, sliceBound_run k2 j i.toNat _ hb2.1 (by omega)]; omega
              · cases h
            | _ => simp at h
        · rw [if_neg hb] at h; cases h
      | _ => simp at h
  | some hvm =>
    rename_i x x'
    cases x with
    | int k0 q =>
      obtain rfl := hvm.int
      simp only [Option.isSome_some, if_true] at h ⊢
      by_cases hq : (0 ≤ q && q ≤ (cap : Int)) = true
      · rw [if_pos hq] at h
        simp at hq
        have hrq := fun c => sliceBound_run (P := P) (w := w) k0 q cap' c hq.1 (by omega)
        simp only at h
        cases hh with
        | none => simp at h
        | some hv =>
          rename_i v v'
          cases v with
          | int k i =>
            obtain rfl := hv.int
            simp only at h
            by_cases hb : (0 ≤ i && i ≤ (q.toNat : Int)) = true
            · rw [if_pos hb] at h
              simp at hb
              have hr := fun c => sliceBound_run (P := P) (w := w) k i q.toNat c hb.1 (by omega)
              simp only at h
              cases hl with
              | none => cases h; simp [Instr.sliceBounds, hr, hrq]; omega
              | some hv2 =>
                rename_i u u'
                cases u with
                | int k2 j =>
                  obtain rfl := hv2.int
                  simp only at h
                  split at h
                  · rename_i hb2; simp at hb2; cases h
                    simp [Instr.sliceBounds, hr, hrq, sliceBound_run k2 j i.toNat _ hb2.1 (by omega)]; omega
                  · cases h
                | _ => simp at h
            · rw [if_neg hb] at h; cases h
          | _ => simp at h
      · rw [if_neg hq] at h; cases h
    | _ => simp at h

include hE in
theorem slice_sim {ok : OkC} {G : Nat} {h : H} (R : HRel ok G m h w) {t : TypeId} {x x' v : Value} {low high max low' high' max' : Option Value} (hx : VRel m x x') (hl : OV m low low') (hh : OV m high high') (hm : OV m max max')
    (hf : sliceD E t x low high max h = some v) : ∃ v', (Instr.sliceAt t x' low' high' max').run P w = .ok v' w ∧ VRel m v v' := by
  unfold sliceD at hf
  split at hf
  · rename_i s hu
    obtain rfl := hx.string
    cases hm with
    | some hm => simp at hf
    | none =>
      simp only [Option.isSome_none, Bool.false_eq_true, if_false] at hf
      split at hf
      · rename_i l hi mx hb
        cases hf
        have hb' := bounds_sim (P := P) (w := w) (isS := false) hl hh (OV.none (m := m)) (Nat.le_refl _) (Nat.le_refl _) hb
        refine ⟨_, ?_, .plain rfl⟩
        simp [Instr.sliceAt, run_underlying hE hu, Instr.slice, hb'.1]
      · cases hf
  · rename_i n elem b o hu
    obtain ⟨i, hi, _, rfl⟩ := hx.pointer
    simp only at hi
    split at hf
    · rename_i l hh' mx sz hb hs
      cases hf
      have hb' := bounds_sim (P := P) (w := w) (isS := false) hl hh hm (Nat.le_refl _) (Nat.le_refl _) hb
      have hmx : (if max.isSome then mx else n) = mx := by
        split
        · rfl
        · rename_i hm0; exact (hb'.2.2.2.2 (by simpa using hm0)).symm
      rw [hmx] at hb'
      refine ⟨.slice (some ⟨i.blk, (if mx = l then o else o + l * sz) + i.off, none⟩) (hh' - l) (mx - l), ?_, .slice hi (by omega) (Nat.le_refl _) (.inl rfl)⟩
      simp only [Instr.sliceAt, Sem.run_bind, run_underlying hE hu, Result.andThen_ok, Instr.sureAddr, Sem.run_pure, hb'.1, run_siz hE hs]
      split
      · rfl
      · rw [add_plain, show o + i.off + l * sz = o + l * sz + i.off by omega]
    · cases hf
  · rename_i elem b o len cap hu
    obtain ⟨a', c', rfl, h1, h2, h3⟩ := hx.slicev
    split at hf
    · rename_i l hh' mx sz c s own fz ty hb hs hg
      split at hf
      · rename_i hst
        cases hf
        have hb' := bounds_sim (P := P) (w := w) (isS := true) hl hh hm h1 h2 hb
        have hmr : ∃ mr, (if max.isSome then mx else c') = mr ∧ mx ≤ mr ∧ mr ≤ c' ∧ (c' = cap → mr = mx) ∧ (mr = mx ∨ mr = c') := by
          refine ⟨_, rfl, ?_⟩
          split
          · exact ⟨Nat.le_refl _, by omega, fun _ => rfl, .inl rfl⟩
          · rename_i hm0
            have := hb'.2.2.2.2 (by simpa using hm0)
            exact ⟨by omega, Nat.le_refl _, by omega, .inr rfl⟩
        obtain ⟨mr, e1, e2, e3, e4, e5⟩ := hmr
        rw [e1] at hb'
        have hrun : (Instr.sliceAt t (.slice (some a') len c') low' high' max').run P w = .ok (.slice (if mr = l then some a' else (some a').map (·.add (l * sz))) (hh' - l) (mr - l)) w := by
          simp only [Instr.sliceAt, Sem.run_bind, run_underlying hE hu, Result.andThen_ok, Instr.slice, hb'.1, run_siz hE hs, Sem.run_pure]
        refine ⟨_, hrun, ?_⟩
        rcases h3 with ⟨q1, q2, q3⟩ | ⟨i, hi, _, rfl, h3⟩
        · have : mr = l := by omega
          rw [if_pos this, show hh' - l = 0 by omega, show mx - l = 0 by omega, show mr - l = 0 by omega]
          exact .slice0
        · simp only at hi
          by_cases e : mr = l
          · rw [if_pos e, show hh' - l = 0 by omega, show mx - l = 0 by omega, show mr - l = 0 by omega]
            exact .slice0
          · rw [if_neg e]
            simp only [Option.map_some, add_plain]
            rw [show o + i.off + l * sz = (o + l * sz) + i.off by omega]
            refine .slice hi (by omega) (by omega) ?_
            rcases h3 with h3 | ⟨h3, h4⟩
            · left; have := e4 h3; omega
            · rcases e5 with e5 | e5
              · left; omega
              · right
                refine ⟨h3, ?_⟩
                have hstr : i.stride = sz := by
                  have := (R.obj b _ i hg hi).1
                  simp at hst
                  omega
                subst e5
                rw [← hstr] at *
                have : l * i.stride + (mr - l) * i.stride = mr * i.stride := by rw [← Nat.add_mul]; congr 1; omega
                simp only at h4
                omega
      · cases hf
    · cases hf
  · rename_i elem hu
    obtain ⟨rfl, _, _⟩ := hx.nils
    split at hf
    · rename_i r n hb hs
      cases hf
      obtain ⟨l, hi', mx⟩ := r
      have hb' := bounds_sim (P := P) (w := w) (isS := true) hl hh hm (Nat.le_refl _) (Nat.le_refl _) hb
      have hmx : (if max.isSome then mx else 0) = 0 := by split <;> omega
      rw [hmx] at hb'
      have hl0 : l = 0 := by omega
      have hi0 : hi' = 0 := by omega
      subst hl0; subst hi0
      refine ⟨.slice none 0 0, ?_, .plain rfl⟩
      simp only [Instr.sliceAt, Sem.run_bind, run_underlying hE hu, Result.andThen_ok, Instr.slice, hb'.1, run_siz hE hs, Sem.run_pure]
      rfl
    · cases hf
  · cases hf
end
end Go.Dm

set_option linter.unusedVariables false
set_option linter.unusedSimpArgs false
namespace Go.Dm

def setCells (w : World) (b : Nat) : Nat → List Value → World
  | _, [] => w
  | o, v :: vs => setCells (w.setCell ⟨b, o, none⟩ v) b (o + 1) vs
theorem setCell_block {w : World} {b : Nat} {c : Array Value} {e : TypeId} {f : Nat × Nat} (h : w.heap[b]? = some (.cells c e f)) (o : Nat) (v : Value) :
    (w.setCell ⟨b, o, none⟩ v).heap[b]? = some (.cells (c.setIfInBounds o v) e f) := by
  simp [World.setCell, Array.getElem?_modify, h]
theorem setCell_other {w : World} {b r : Nat} (h : r ≠ b) (o : Nat) (v : Value) : (w.setCell ⟨b, o, none⟩ v).heap[r]? = w.heap[r]? := by
  simp [World.setCell, Array.getElem?_modify, Ne.symm h]
structure SetFacts (w w' : World) (b : Nat) : Prop where
  os : w'.os = w.os
  tape : w'.tape = w.tape
  output : w'.output = w.output
  size : w'.heap.size = w.heap.size
  other : ∀ r, r ≠ b → w'.heap[r]? = w.heap[r]?
theorem setCells_facts (b : Nat) : ∀ (vs : List Value) (w : World) (o : Nat), SetFacts w (setCells w b o vs) b := by
  intro vs
  induction vs with
  | nil => intro w o; exact ⟨rfl, rfl, rfl, rfl, fun _ _ => rfl⟩
  | cons v vs ih =>
    intro w o
    have h := ih (w.setCell ⟨b, o, none⟩ v) (o + 1)
    exact ⟨h.os, h.tape, h.output, h.size.trans (World.size_setCell ..), fun r hr => (h.other r hr).trans (setCell_other hr o v)⟩
theorem setCells_block (b : Nat) : ∀ (vs : List Value) (w : World) (o : Nat) (c : Array Value) (e : TypeId) (f : Nat × Nat), w.heap[b]? = some (.cells c e f) →
    (setCells w b o vs).heap[b]? = some (.cells (Array.mk (setAt c.toList o vs)) e f) := by
  intro vs
  induction vs with
  | nil => intro w o c e f h; exact h
  | cons v vs ih =>
    intro w o c e f h
    have := ih _ (o + 1) _ e f (setCell_block h o v)
    rw [setCells, this, setAt]
    simp
theorem run_storeCells {P : Program} (b o : Nat) : ∀ (vs : List Value) (w : World) (i : Nat) (c : Array Value) (e : TypeId) (lo hi : Nat), w.heap[b]? = some (.cells c e (lo, hi)) →
    o + i + vs.length ≤ c.size → (∀ v ∈ vs, v.oneCell' = true) → (∀ j, o + i ≤ j → j < o + i + vs.length → ¬ (lo ≤ j ∧ j < hi)) →
    (storeCells ⟨b, o, none⟩ vs i).run P w = .ok () (setCells w b (o + i) vs) := by
  intro vs
  induction vs with
  | nil => intro w i c e lo hi _ _ _ _; rfl
  | cons v vs ih =>
    intro w i c e lo hi h hl hv hf
    simp only [List.length_cons] at hl hf
    have hc : w.cell? ⟨b, o + i, none⟩ = some c[o + i] := by rw [cell_of h]; simp
    have hz : w.frozen? ⟨b, o + i, none⟩ = false := by
      have := hf (o + i) (Nat.le_refl _) (by omega)
      simp only [World.frozen?, h]
      simpa using fun a => Nat.le_of_not_lt fun b => this ⟨a, b⟩
    simp only [storeCells, add_plain, Sem.run_bind]
    rw [run_store P w _ v _ (hv v (by simp))]
    simp only [hc, hz, Bool.false_eq_true, if_false, Result.andThen_ok]
    rw [ih _ (i + 1) _ e lo hi (setCell_block h (o + i) v) (by simp; omega) (fun u hu => hv u (by simp [hu])) (fun j h1 h2 => hf j (by omega) (by omega))]
    rfl

section
variable {P : Program} {E : Env} (hE : EnvOk P E) {w : World} {m : Inj} {ok : OkC} {G : Nat} {h : H} (R : HRel ok G m h w)

/-- What is known of an operation behind which memory may be another. -/
def Step (ok : OkC) (G : Nat) (m : Inj) (h : H) (w : World) (v : Value) (h' : H) (v' : Value) (w' : World) : Prop :=
  ∃ m', Evo m h w m' h' w' ∧ HRel ok G m' h' w' ∧ VRel m' v v'
include R in
theorem Step.same {v v' : Value} (hv : VRel m v v') : Step ok G m h w v h v' w := ⟨m, Evo.refl m h w, R, hv⟩
include R in
theorem stCells_sim {b o : Nat} {vs vs' : List Value} {h' : H} {i : Img} (hi : m b = some i) (hv : LRel m vs vs') (hs : stCells b o vs h = some h') :
    ∃ w', (storeCells ⟨i.blk, o + i.off, none⟩ vs' 0).run P w = .ok () w' ∧ Evo m h w m h' w' ∧ HRel ok G m h' w' := by
  unfold stCells at hs
  split at hs
  · rename_i c s fz ty hb
    split at hs
    · rename_i hc
      simp at hc
      obtain ⟨⟨hc1, hc2⟩, hc3⟩ := hc
      cases hs
      obtain ⟨h0, c', e, lo, hi', h1, h2, h3, h4, h5, h6⟩ := R.obj b _ i hb hi
      have hlen := hv.length
      have hF := setCells_facts i.blk vs' w (o + i.off + 0)
      have hB := setCells_block i.blk vs' w (o + i.off + 0) c' e (lo, hi') h1
      have hone : ∀ v ∈ vs', v.oneCell' = true := by
        intro v' hv'
        obtain ⟨j, hj, e⟩ := List.getElem_of_mem hv'
        have hj' : j < vs.length := by omega
        obtain ⟨u, hu1, hu2⟩ := hv.get (List.getElem?_eq_getElem hj')
        rw [List.getElem?_eq_getElem hj, e] at hu1
        cases hu1
        exact hu2.cellV (hc3 _ (List.getElem_mem hj'))
      refine ⟨setCells w i.blk (o + i.off + 0) vs', run_storeCells i.blk (o + i.off) vs' w 0 c' e lo hi' h1 (by omega) hone ?_, ?_, ?_⟩
      · intro j j1 j2
        have := h5 rfl
        omega
      · exact Evo.upd hb rfl hi hF.os hF.tape hF.output hF.size hF.other
      · refine R.upd hb rfl hi hF.size hF.other ⟨h0, _, e, lo, hi', hB, ?_, ?_, ?_, ?_, h6⟩
        · simp [setAt_length]; exact h2
        · simp [setAt_length]; exact h3
        · intro j v hj
          rw [setAt_get] at hj
          simp only [List.getElem?_toArray, setAt_get, Array.length_toList]
          by_cases q : o ≤ j ∧ j < o + vs.length ∧ j < c.length
          · rw [if_pos q] at hj
            rw [if_pos (by omega), show i.off + j - (o + i.off + 0) = j - o by omega]
            exact hv.get hj
          · rw [if_neg q] at hj
            obtain ⟨v', k1, k2⟩ := h4 j v hj
            have hjl : j < c.length := (List.getElem?_eq_some_iff.1 hj).1
            rw [if_neg (by omega)]
            exact ⟨v', by simpa using k1, k2⟩
        · exact h5
    · cases hs
  · cases hs
include hE R in
theorem st_sim {t : TypeId} {a a' v v' : Value} {h' : H} (ha : VRel m a a') (hv : VRel m v v') (hs : st E t a v h = some h') :
    ∃ w', (Instr.storeAt t a' v').run P w = .ok () w' ∧ Evo m h w m h' w' ∧ HRel ok G m h' w' := by
  unfold st at hs
  split at hs
  · rename_i b o
    obtain ⟨i, hi, _, rfl⟩ := ha.pointer
    simp only at hi
    unfold stAt at hs
    split at hs
    · rename_i n hn
      split at hs
      · rename_i hsz
        obtain ⟨w', h1, h2, h3⟩ := stCells_sim (P := P) R hi hv.cells hs
        refine ⟨w', ?_, h2, h3⟩
        have hsz' : v'.cells.size = n := by rw [hv.cells_size, hsz]
        simp only [Instr.storeAt, Instr.sureAddr, storeVar, Sem.run_bind, Sem.run_pure, Result.andThen_ok, run_siz hE hn, hsz', ne_eq, not_true_eq_false, if_false]
        exact h1
      · cases hs
    · cases hs
  · cases hs

include R in
/-- A new row of cells. -/
theorem new_simW {cs cs' : List Value} (hc : LRel m cs cs') (stride : Nat) {cs2 : Array Value} {n2 : Nat} (hn : cs2.size = n2) (hp : ∀ j : Nat, j < cs.length → cs2[j]? = cs'[j]?) (hle : cs.length ≤ n2) {e : TypeId} {lo hi : Nat} (fz : Nat) {ty : Option TypeId} (hty : ∀ t, ty = some t → e = t ∧ lo = hi)
    {w' : World} (hW : w'.heap = w.heap.push (.cells cs2 e (lo, hi))) (k1 : w'.os = w.os) (k2 : w'.tape = w.tape) (k3 : w'.output = w.output) (hfz : hi ≤ fz ∨ hi ≤ lo ∨ n2 ≤ lo) :
    Evo m h w (m.add h.addr ⟨w.heap.size, 0, stride, n2⟩) (h.new (.cells cs stride true fz ty)) w' ∧
    HRel ok G (m.add h.addr ⟨w.heap.size, 0, stride, n2⟩) (h.new (.cells cs stride true fz ty)) w' := by
  have hs : w'.heap.size = w.heap.size + 1 := by rw [hW]; simp
  have hw : ∀ r, r < w.heap.size → w'.heap[r]? = w.heap[r]? := by
    intro r hr
    rw [hW, Array.getElem?_push, if_neg (Nat.ne_of_lt hr)]
  refine ⟨Evo.alloc R rfl k1 k2 k3 hs hw, R.alloc rfl hs hw ⟨rfl, cs2, e, lo, hi, ?_, hn, ?_, ?_, ?_, fun t ht => ⟨(hty t ht).1, rfl, .inl (hty t ht).2⟩⟩⟩
  · rw [hW]; simp
  · simp; omega
  · intro j v hj
    have hjl : j < cs.length := (List.getElem?_eq_some_iff.1 hj).1
    obtain ⟨v', h1, h2⟩ := hc.get hj
    exact ⟨v', by simp only [Nat.zero_add]; rw [hp j hjl, h1], h2.mono (Inj.ext_add _ R.fresh)⟩
  · intro _; simp only [Nat.zero_add]; exact hfz
include R in
theorem new_sim {cs cs' : List Value} (hc : LRel m cs cs') (stride : Nat) {cs2 : Array Value} {n2 : Nat} (hn : cs2.size = n2) (hp : ∀ j : Nat, j < cs.length → cs2[j]? = cs'[j]?) (hle : cs.length ≤ n2) (e : TypeId) (fz : Nat) {ty : Option TypeId} (hty : ∀ t, ty = some t → e = t) :
    Evo m h w (m.add h.addr ⟨w.heap.size, 0, stride, n2⟩) (h.new (.cells cs stride true fz ty)) (w.alloc (.cells cs2 e)) ∧
    HRel ok G (m.add h.addr ⟨w.heap.size, 0, stride, n2⟩) (h.new (.cells cs stride true fz ty)) (w.alloc (.cells cs2 e)) :=
  new_simW R hc stride hn hp hle fz (fun t ht => ⟨hty t ht, rfl⟩) rfl rfl rfl rfl (.inr (.inl (Nat.le_refl _)))
include R in
theorem newD_sim {cs cs' : List Value} (hc : LRel m cs cs') (stride : Nat) {ty : Option TypeId} (e : TypeId) (hty : ∀ t, ty = some t → e = t) :
    ∃ w', (newRow e cs'.toArray).run P w = .ok ⟨w.heap.size, 0, none⟩ w' ∧ Step ok G m h w (newD stride ty cs h).1 (newD stride ty cs h).2 (.pointer (some ⟨w.heap.size, 0, none⟩)) w' := by
  obtain ⟨h1, h2⟩ := new_sim R hc stride (cs2 := cs'.toArray) (n2 := cs.length) (by simpa using hc.length) (fun j _ => by simp) (Nat.le_refl _) e 0 hty
  refine ⟨_, by simp [newRow], _, h1, h2, ?_⟩
  exact .ptr (Inj.add_self _ _ _)
end
end Go.Dm

set_option linter.unusedVariables false
set_option linter.unusedSimpArgs false
namespace Go.Dm

theorem fold_set (off : Nat) : ∀ (l : List Value) (k : Nat) (cells : Array Value),
    ((l.zipIdx k).foldl (fun (cs : Array Value) (x : Value × Nat) => cs.setIfInBounds (off + x.2) x.1) cells).toList = setAt cells.toList (off + k) l := by
  intro l
  induction l with
  | nil => intro k cells; rfl
  | cons v l ih => intro k cells; simp only [List.zipIdx_cons, List.foldl_cons, ih, setAt]; simp [Nat.add_assoc]
theorem fold_set_array (off : Nat) (v : Array Value) (cells : Array Value) :
    (v.zipIdx.foldl (fun (cs : Array Value) (x : Value × Nat) => match x with | (c, j) => cs.setIfInBounds (off + j) c) cells).toList = setAt cells.toList off v.toList := by
  rw [← Array.foldl_toList]
  have := fold_set off v.toList 0 cells
  simp only [Nat.add_zero] at this
  rw [← this]
  simp

inductive PRel (m : Inj) : List (Nat × Value) → List (Nat × Value) → Prop
  | nil : PRel m [] []
  | cons {i : Nat} {v v' : Value} {l l' : List (Nat × Value)} (h : VRel m v v') (k : PRel m l l') : PRel m ((i, v) :: l) ((i, v') :: l')
theorem fill_sim {m : Inj} {place : Nat → Option (Nat × Nat)} {ps ps' : List (Nat × Value)} (hp : PRel m ps ps') : ∀ {cs r : List Value} {cs' : Array Value}, LRel m cs cs'.toList → fillD place cs ps = some r →
    ∃ r' : Array Value, Instr.fill place cs' ps' = some r' ∧ LRel m r r'.toList := by
  induction hp with
  | nil => intro cs r cs' hc h; simp only [fillD] at h; cases h; exact ⟨cs', rfl, hc⟩
  | cons hv hk ih =>
    rename_i i v v' l l'
    intro cs r cs' hc h
    simp only [fillD] at h
    cases hpl : place i with
    | none => rw [hpl] at h; cases h
    | some q =>
      obtain ⟨off, size⟩ := q
      rw [hpl] at h
      simp only at h
      split at h
      · rename_i hb
        simp at hb
        obtain ⟨r', h1, h2⟩ := ih (cs' := v'.cells.zipIdx.foldl (fun (cs : Array Value) (x : Value × Nat) => match x with | (c, j) => cs.setIfInBounds (off + j) c) cs') (by rw [fold_set_array]; exact (hv.cells).setAt hc off) h
        refine ⟨r', ?_, h2⟩
        have hsz := hv.cells_size
        have hlen := hc.length
        simp only [Instr.fill, hpl]
        rw [if_neg]
        · exact h1
        · simp at hlen
          simp
          omega
      · cases h

section
variable {P : Program} {E : Env} (hE : EnvOk P E) {w : World} {m : Inj}
include hE
theorem places_run : ∀ {fs : List Field} {pl : List (Nat × Nat)}, placesD E fs = some pl → (fs.mapM (fun f => do pure (f.offset, ← sizeOf f.type)) : Sem (List (Nat × Nat))).run P w = .ok pl w := by
  intro fs
  induction fs with
  | nil => intro pl h; simp only [placesD] at h; cases h; rfl
  | cons f fs ih =>
    intro pl h
    simp only [placesD] at h
    split at h
    · rename_i n r hn hr
      cases h
      rw [List.mapM_cons]
      simp only [Sem.run_bind, run_siz hE hn, Result.andThen_ok, Sem.run_pure, ih hr]
    · cases h
theorem build_sim {t : TypeId} {ps ps' : List (Nat × Value)} {v : Value} (hp : PRel m ps ps') (h : buildD E t ps = some v) : ∃ v', (Instr.build t ps'.toArray).run P w = .ok v' w ∧ VRel m v v' := by
  unfold buildD at h
  split at h
  · rename_i z fields hz hu
    split at h
    · rename_i pl hpl
      split at h
      · rename_i cs hf
        cases h
        obtain ⟨r', h1, h2⟩ := fill_sim hp (cs' := z.cells) ((VRel.plainV (m := m) (zero_plain hz)).cells) hf
        refine ⟨.agg r', ?_, .agg h2⟩
        have hm : (fields.mapM (fun f => do pure (f.offset, ← sizeOf f.type)) : Sem (Array (Nat × Nat))).run P w = .ok pl.toArray w := by
          rw [Array.mapM_eq_mapM_toList]
          simp only [Sem.run_map, places_run hE hpl, Result.andThen_ok]
        simp only [Instr.build, Sem.run_bind, run_zero hE hz, Result.andThen_ok, run_underlying hE hu, hm]
        have : (fun x : Nat => pl.toArray[x]?) = (pl[·]?) := by funext x; simp
        rw [this, h1]
        rfl
      · cases h
    · cases h
  · rename_i z n elem hz hu
    split at h
    · rename_i k hk
      split at h
      · rename_i cs hf
        cases h
        obtain ⟨r', h1, h2⟩ := fill_sim hp (cs' := z.cells) ((VRel.plainV (m := m) (zero_plain hz)).cells) hf
        refine ⟨.agg r', ?_, .agg h2⟩
        simp only [Instr.build, Sem.run_bind, run_zero hE hz, Result.andThen_ok, run_underlying hE hu, run_siz hE hk, h1]
        rfl
      · cases h
    · cases h
  · cases h
omit hE in
theorem zeros_sim {z : Value} (hz : plainV z = true) {n : Nat} (hpos : 0 < z.cells.size) :
    LRel m (zerosD z.cells.toList n) ((Array.range n).map fun i => z.cells[i % z.cells.size]!).toList := by
  refine LRel.of_get (by simp [zerosD]) fun i v hv => ?_
  unfold zerosD at hv
  rw [List.getElem?_map] at hv
  by_cases hi : i < n
  · rw [List.getElem?_range hi] at hv
    simp only [Option.map_some, Option.some.injEq] at hv
    have hlt : i % z.cells.size < z.cells.size := Nat.mod_lt _ hpos
    have hg : z.cells.toList[i % z.cells.toList.length]? = some v := by
      rw [← hv, List.getD_eq_getElem?_getD]
      have : i % z.cells.toList.length < z.cells.toList.length := by simpa using hlt
      rw [List.getElem?_eq_getElem this]; rfl
    obtain ⟨v', h1, h2⟩ := ((VRel.plainV (m := m) hz).cells).get hg
    refine ⟨v', ?_, h2⟩
    simp at h1
    simp only [Array.toList_map, Array.toList_range, List.getElem?_map, List.getElem?_range hi, Option.map_some]
    rw [getElem!_pos z.cells _ hlt]
    rw [Array.getElem?_eq_getElem hlt] at h1
    simpa using h1
  · rw [List.getElem?_eq_none (by simpa using hi)] at hv; cases hv
theorem buildSlice_sim {ok : OkC} {G : Nat} {h : H} (R : HRel ok G m h w) {t : TypeId} {len : Nat} {ps ps' : List (Nat × Value)} {v : Value} {h' : H} (hp : PRel m ps ps') (hb : buildSliceD E t len ps h = some (v, h')) :
    ∃ v' w', (Instr.buildSlice t len ps'.toArray).run P w = .ok v' w' ∧ Step ok G m h w v h' v' w' := by
  unfold buildSliceD at hb
  split at hb
  · rename_i elem hu
    split at hb
    · rename_i n z hn hz
      split at hb
      · rename_i hc
        simp at hc
        obtain ⟨⟨hc1, hc2⟩, hc3⟩ := hc
        split at hb
        · rename_i cs hf
          cases hb
          obtain ⟨r', h1, h2⟩ := fill_sim (m := m) hp (cs' := (Array.range (len * n)).map fun i => z.cells[i % z.cells.size]!) (zeros_sim (zero_plain hz) (by omega)) hf
          have hl := h2.length
          obtain ⟨e1, e2⟩ := new_sim R h2 n (cs2 := r') (n2 := r'.size) rfl (fun j _ => by simp only [Array.getElem?_toList]) (by simp at hl; omega) elem 0 (ty := none) (fun _ h => by cases h)
          have hlen : cs.length = len * n := by
            have : ∀ (ps : List (Nat × Value)) (c r : List Value), fillD (fun i => some (i * n, n)) c ps = some r → r.length = c.length := by
              intro ps
              induction ps with
              | nil => intro c r h; simp only [fillD] at h; cases h; rfl
              | cons p ps ih =>
                intro c r h
                obtain ⟨i, u⟩ := p
                simp only [fillD] at h
                split at h
                · rw [ih _ _ h, setAt_length]
                · cases h
            rw [this _ _ _ hf]; simp [zerosD]
          refine ⟨.slice (some ⟨w.heap.size, 0, none⟩) len len, w.alloc (.cells r' elem), ?_, _, e1, e2, ?_⟩
          · simp only [Instr.buildSlice, Sem.run_bind, run_underlying hE hu, Result.andThen_ok, run_siz hE hn]
            rw [if_neg (by omega)]
            by_cases h0 : len * n = 0
            · have r0 : Array.range (len * n) = #[] := by rw [h0]; rfl
              rw [if_pos h0, r0]
              rw [r0] at h1
              simp only [List.map_toArray, List.map_nil, Sem.run_bind, Sem.run_pure, Result.andThen_ok] at h1 ⊢
              rw [h1]
              simp [newRow]
            · rw [if_neg h0]
              simp only [Sem.run_bind, run_zero hE hz, Result.andThen_ok, Sem.run_pure, h1]
              simp [newRow]
          · exact .slice (Inj.add_self _ _ _) (Nat.le_refl _) (Nat.le_refl _) (.inl rfl)
        · cases hb
      · cases hb
    · cases hb
  · cases hb
theorem makeSlice_sim {ok : OkC} {G : Nat} {h : H} (R : HRel ok G m h w) {t : TypeId} {a a' b b' v : Value} {h' : H} (ha : VRel m a a') (hb : VRel m b b') (hs : makeSliceD E t a b h = some (v, h')) :
    ∃ v' w', (Instr.makeSlice t a' b').run P w = .ok v' w' ∧ Step ok G m h w v h' v' w' := by
  unfold makeSliceD at hs
  split at hs
  · rename_i elem k l k2 c hu
    obtain rfl := ha.int
    obtain rfl := hb.int
    split at hs
    · rename_i i z hi hz
      split at hs
      · rename_i hc
        simp at hc
        obtain ⟨⟨⟨⟨⟨c1, c2⟩, c3⟩, c3'⟩, c4⟩, c5⟩ := hc
        cases hs
        have hZ := zeros_sim (m := m) (zero_plain hz) (n := c.toNat * i.size) (by omega)
        obtain ⟨e1, e2⟩ := new_sim R hZ i.size (cs2 := (Array.range (c.toNat * i.size)).map fun i => z.cells[i % z.cells.size]!) (n2 := c.toNat * i.size) (by simp) (fun j _ => by simp only [Array.getElem?_toList]) (by simp [zerosD]) elem 0 (ty := none) (fun _ h => by cases h)
        refine ⟨.slice (some ⟨w.heap.size, 0, none⟩) l.toNat c.toNat, _, ?_, _, e1, e2, .slice (Inj.add_self _ _ _) (by omega) (Nat.le_refl _) (.inl rfl)⟩
        have w1 : IntKind.i64.wrap l = l := by unfold IntKind.wrap IntKind.bits IntKind.signed; simp; omega
        have w2 : IntKind.i64.wrap c = c := by unfold IntKind.wrap IntKind.bits IntKind.signed; simp; omega
        have hsz : E.siz elem = some i.size := by simp [Env.siz, hi]
        simp only [Instr.makeSlice, Sem.run_bind, run_underlying hE hu, Result.andThen_ok, asInt, asIntOf, Sem.run_pure, run_typeInfo hE hi, w1, w2]
        rw [if_neg (by simp; omega)]
        simp only [Sem.run_pure, Result.andThen_ok, run_askRoom, run_siz hE hsz, Sem.run_bind]
        by_cases h0 : c.toNat * i.size = 0
        · simp only [h0, if_true, Sem.run_pure, Result.andThen_ok]
          simp [newRow, show Array.range 0 = #[] from rfl]
        · simp only [h0, if_false, Sem.run_bind, run_zero hE hz, Result.andThen_ok, Sem.run_pure]
          simp [newRow]
      · cases hs
    · cases hs
  · cases hs
end
end Go.Dm

set_option linter.unusedVariables false
set_option linter.unusedSimpArgs false
namespace Go.Dm

section
variable {P : Program} {E : Env} (hE : EnvOk P E) {w : World} {m : Inj}
include hE
theorem eqFields_sim {d : Nat} (ih : ∀ {t : TypeId} {x y x' y' : Value} {b : Bool}, VRel m x x' → VRel m y y' → eqD E d t x y = some b → (Op.equalIn d t x' y').run P w = .ok b w)
    {xs ys : List Value} {xs' ys' : Array Value} (hx : LRel m xs xs'.toList) (hy : LRel m ys ys'.toList) :
    ∀ {fs : List Field} {b : Bool}, eqFieldsD E (eqD E d) xs ys fs = some b → (Op.eqFields d xs' ys' fs).run P w = .ok b w := by
  intro fs
  induction fs with
  | nil => intro b h; simp only [eqFieldsD] at h; cases h; rfl
  | cons f fs ihf =>
    intro b h
    simp only [eqFieldsD] at h
    simp only [Op.eqFields]
    by_cases hn : f.name = "_"
    · rw [if_pos hn] at h
      rw [if_neg (by simp [hn])]
      exact ihf h
    · rw [if_neg hn] at h
      rw [if_pos (by simp [hn])]
      split at h
      · rename_i u v hu hv
        obtain ⟨u', hu1, hu2⟩ := part_sim hE (w := w) (cs := xs.toArray) (by simpa using hx) (by simpa using hu)
        obtain ⟨v', hv1, hv2⟩ := part_sim hE (w := w) (cs := ys.toArray) (by simpa using hy) (by simpa using hv)
        simp only [Sem.run_bind, hu1, hv1, Result.andThen_ok]
        cases he : eqD E d f.type u v with
        | none => rw [he] at h; cases h
        | some r =>
          rw [he] at h
          rw [ih hu2 hv2 he]
          simp only [Result.andThen_ok]
          cases r with
          | true => exact ihf h
          | false => cases h; rfl
      · cases h
/-- The loop over an array's elements, as the model has it. -/
def eqElems (d : Nat) (elem : TypeId) (n : Nat) (xs ys : Array Value) : List Nat → Sem Bool
  | [] => pure true
  | i :: is => do
    let a ← part elem xs (i * n)
    let b ← part elem ys (i * n)
    let r ← Op.equalIn d elem a b
    if (!r) = true then pure false else eqElems d elem n xs ys is
theorem run_equalIn_array (d : Nat) (t elem : TypeId) (len n : Nat) (xs ys : Array Value) (ht : E.und t = some (.array len elem)) (hn : E.siz elem = some n) :
    (Op.equalIn (d + 1) t (.agg xs) (.agg ys)).run P w = (eqElems d elem n xs ys (List.range' 0 len)).run P w := by
  simp only [Op.equalIn, Sem.run_bind, run_underlying hE ht, Result.andThen_ok, run_siz hE hn]
  rw [Std.Legacy.Range.forIn_eq_forIn_range']
  simp only [Std.Legacy.Range.size, Nat.sub_zero, Nat.add_sub_cancel, Nat.div_one]
  generalize List.range' 0 len = is
  clear ht
  induction is generalizing w with
  | nil => simp [eqElems]
  | cons i is ih =>
    simp only [List.forIn_cons, eqElems, Sem.run_bind]
    generalize (part elem xs (i * n)).run P w = r1
    cases r1 with
    | ok a w1 =>
      simp only [Result.andThen_ok]
      generalize (part elem ys (i * n)).run P w1 = r2
      cases r2 with
      | ok b w2 =>
        simp only [Result.andThen_ok]
        generalize (Op.equalIn d elem a b).run P w2 = r3
        cases r3 with
        | ok r w3 =>
          cases r with
          | false => simp
          | true => simpa using ih
        | halt h w3 => rfl
      | halt h w2 => rfl
    | halt h w1 => rfl
theorem eqElems_sim {d : Nat} (ih : ∀ {t : TypeId} {x y x' y' : Value} {b : Bool}, VRel m x x' → VRel m y y' → eqD E d t x y = some b → (Op.equalIn d t x' y').run P w = .ok b w)
    {elem : TypeId} {n : Nat} {xs ys : List Value} {xs' ys' : Array Value} (hx : LRel m xs xs'.toList) (hy : LRel m ys ys'.toList) :
    ∀ {k i : Nat} {b : Bool}, eqElemsD E (eqD E d) elem n xs ys i k = some b → (eqElems d elem n xs' ys' (List.range' i k)).run P w = .ok b w := by
  intro k
  induction k with
  | zero => intro i b h; simp only [eqElemsD] at h; cases h; rfl
  | succ k ihk =>
    intro i b h
    simp only [eqElemsD] at h
    simp only [List.range'_succ, eqElems]
    split at h
    · rename_i u v hu hv
      obtain ⟨u', hu1, hu2⟩ := part_sim hE (w := w) (cs := xs.toArray) (by simpa using hx) (by simpa using hu)
      obtain ⟨v', hv1, hv2⟩ := part_sim hE (w := w) (cs := ys.toArray) (by simpa using hy) (by simpa using hv)
      simp only [Sem.run_bind, hu1, hv1, Result.andThen_ok]
      cases he : eqD E d elem u v with
      | none => rw [he] at h; cases h
      | some r =>
        rw [he] at h
        rw [ih hu2 hv2 he]
        simp only [Result.andThen_ok]
        cases r with
        | true => exact ihk h
        | false => cases h; rfl
    · cases h
theorem eq_sim : ∀ (d : Nat) {t : TypeId} {x y x' y' : Value} {b : Bool}, VRel m x x' → VRel m y y' → eqD E d t x y = some b → (Op.equalIn d t x' y').run P w = .ok b w := by
  intro d
  induction d with
  | zero => intro t x y x' y' b _ _ h; simp [eqD] at h
  | succ d ih =>
    intro t x y x' y' b hx hy h
    simp only [eqD] at h
    split at h
    · rename_i p q hu
      obtain rfl := hx.bool; obtain rfl := hy.bool
      cases h; simp [Op.equalIn, run_underlying hE hu]
    · rename_i p k q k' q' hu
      obtain rfl := hx.int; obtain rfl := hy.int
      split at h
      · rename_i hk; cases h; simp [Op.equalIn, run_underlying hE hu, hk]
      · cases h
    · rename_i p q hu
      obtain rfl := hx.string; obtain rfl := hy.string
      cases h; simp [Op.equalIn, run_underlying hE hu]
    · rename_i hu
      obtain rfl := hx.nilp; obtain rfl := hy.nilp
      cases h; simp [Op.equalIn, run_underlying hE hu]
    · rename_i hu
      obtain rfl := hx.nilp; obtain ⟨i, _, _, rfl⟩ := hy.pointer
      cases h; simp [Op.equalIn, run_underlying hE hu]
    · rename_i hu
      obtain rfl := hy.nilp; obtain ⟨i, _, _, rfl⟩ := hx.pointer
      cases h; simp [Op.equalIn, run_underlying hE hu]
    · rename_i hu
      obtain ⟨rfl, _⟩ := hx.nils; obtain ⟨rfl, _⟩ := hy.nils
      cases h; simp [Op.equalIn, run_underlying hE hu]
    · rename_i hu
      obtain ⟨rfl, _⟩ := hx.nils; obtain ⟨a', c', rfl, _⟩ := hy.slicev
      cases h; simp [Op.equalIn, run_underlying hE hu]
    · rename_i hu
      obtain ⟨rfl, _⟩ := hy.nils; obtain ⟨a', c', rfl, _⟩ := hx.slicev
      cases h; simp [Op.equalIn, run_underlying hE hu]
    · rename_i hu
      obtain rfl := hx.nilm; obtain rfl := hy.nilm
      cases h; simp [Op.equalIn, run_underlying hE hu]
    · rename_i hu
      obtain rfl := hx.nilm; obtain ⟨i, _, rfl⟩ := hy.mapv
      cases h; simp [Op.equalIn, run_underlying hE hu]
    · rename_i hu
      obtain rfl := hy.nilm; obtain ⟨i, _, rfl⟩ := hx.mapv
      cases h; simp [Op.equalIn, run_underlying hE hu]
    · rename_i hu
      obtain rfl := hx.nili; obtain ⟨u, rfl, _⟩ := hy.ifacev
      cases h; simp [Op.equalIn, run_underlying hE hu]
    · rename_i hu
      obtain rfl := hy.nili; obtain ⟨u, rfl, _⟩ := hx.ifacev
      cases h; simp [Op.equalIn, run_underlying hE hu]
    · rename_i hu
      obtain rfl := hx.nilf; obtain rfl := hy.nilf
      cases h; simp [Op.equalIn, run_underlying hE hu]
    · rename_i hu
      obtain rfl := hx.nilf
      cases h
      cases hy with
      | plain hp => simp [plain0] at hp
      | func => simp [Op.equalIn, run_underlying hE hu]
      | yld => simp [Op.equalIn, run_underlying hE hu]
    · rename_i hu
      obtain rfl := hy.nilf
      cases h
      cases hx with
      | plain hp => simp [plain0] at hp
      | func => simp [Op.equalIn, run_underlying hE hu]
      | yld => simp [Op.equalIn, run_underlying hE hu]
    · rename_i fields xs ys hu
      obtain ⟨xs', rfl, hxs⟩ := hx.aggv; obtain ⟨ys', rfl, hys⟩ := hy.aggv
      split at h
      · rename_i ho
        have hp : P.underlying t = some (.struct fields) := by rw [← und_eq hE]; exact hu
        have hf : P.fieldsOf t = fields := by simp [Program.fieldsOf, hp]
        rw [run_equalIn_struct w d t xs' ys' (by rw [hf]; exact hp) (hE.eqo t ho).1, hf]
        exact eqFields_sim hE ih hxs hys h
      · cases h
    · rename_i len elem xs ys hu
      obtain ⟨xs', rfl, hxs⟩ := hx.aggv; obtain ⟨ys', rfl, hys⟩ := hy.aggv
      split at h
      · rename_i n hn
        split at h
        · rename_i ho
          rw [run_equalIn_array hE d t elem len n xs' ys' hu hn]
          exact eqElems_sim hE ih hxs hys h
        · cases h
      · cases h
    · cases h
end
end Go.Dm

set_option linter.unusedVariables false
set_option linter.unusedSimpArgs false
namespace Go.Dm

section
variable {P : Program} {E : Env} (hE : EnvOk P E) {w : World} {m : Inj}
theorem cmp_run {op : BinOp} {x y : Int} {v : Value} (h : cmpD op x y = some v) : (Op.intCmp op x y).run P w = .ok v w ∧ plain0 v = true := by
  cases op <;> simp only [cmpD] at h <;> first | (cases h; done) | (cases h; exact ⟨rfl, rfl⟩)
theorem bits_run {op : BinOp} {k : IntKind} {x y : Int} {v : Value} (h : bitsD op k x y = some v) : (Op.intBits op k x y).run P w = .ok v w ∧ plain0 v = true := by
  cases op <;> simp only [bitsD] at h <;> first | (cases h; done) | (cases h; exact ⟨rfl, rfl⟩)
theorem int_run {op : BinOp} {k : IntKind} {x y : Int} {v : Value} (hs : op ≠ .shl) (hs' : op ≠ .shr) (h : intD op k x y = some v) : (binOp op 0 (.int k x) (.int k y)).run P w = .ok v w ∧ plain0 v = true := by
  cases op
  case shl => exact absurd rfl hs
  case shr => exact absurd rfl hs'
  case quo =>
    simp only [intD] at h
    split at h
    · cases h
    · rename_i hy; cases h; exact ⟨by simp [binOp, Op.intDiv, hy], rfl⟩
  case rem =>
    simp only [intD] at h
    split at h
    · cases h
    · rename_i hy; cases h; exact ⟨by simp [binOp, Op.intDiv, hy], rfl⟩
  all_goals simp only [intD] at h
  case add => cases h; exact ⟨by simp [binOp, Op.intArith], rfl⟩
  case sub => cases h; exact ⟨by simp [binOp, Op.intArith], rfl⟩
  case mul => cases h; exact ⟨by simp [binOp, Op.intArith], rfl⟩
  all_goals first
    | (have := bits_run (P := P) (w := w) h; exact ⟨by simpa [binOp] using this.1, this.2⟩)
    | (have := cmp_run (P := P) (w := w) h; exact ⟨by simpa [binOp] using this.1, this.2⟩)
theorem shift_run {op : BinOp} (ho : op = .shl ∨ op = .shr) {k k' : IntKind} {x y : Int} {v : Value} (h : shiftD op k x y = some v) : (binOp op 0 (.int k x) (.int k' y)).run P w = .ok v w ∧ plain0 v = true := by
  unfold shiftD at h
  split at h
  · cases h
  · rename_i hy
    rcases ho with rfl | rfl
    · simp only at h; cases h; exact ⟨by simp [binOp, Op.shift, hy], rfl⟩
    · simp only at h; cases h; exact ⟨by simp [binOp, Op.shift, hy], rfl⟩
theorem str_run {op : BinOp} {x y : ByteArray} {v : Value} (h : strD op x y = some v) : (Op.stringOp op x y).run P w = .ok v w ∧ plain0 v = true := by
  cases op <;> simp only [strD] at h <;> first | (cases h; done) | (cases h; exact ⟨rfl, rfl⟩) | skip
  split at h
  · rename_i hs
    cases h
    refine ⟨?_, rfl⟩
    simp only [Op.stringOp]
    rw [if_neg]
    · rfl
    · simp [IntKind.max, IntKind.signed, IntKind.bits]; omega
  · cases h
theorem eqD_agg {d : Nat} {t : TypeId} {c e : Array Value} {r : Bool} (h : eqD E (d + 1) t (.agg c) (.agg e) = some r) : E.eqo t = true := by
  simp only [eqD] at h
  cases hu : E.und t with
  | none => rw [hu] at h; cases h
  | some x =>
    rw [hu] at h
    cases x with
    | struct fs =>
      simp only at h
      split at h
      · assumption
      · cases h
    | array n el =>
      simp only at h
      split at h
      · split at h
        · assumption
        · cases h
      · cases h
    | _ => cases h
theorem guard_plain {op : BinOp} {t : TypeId} {x y : Operand} {u v : Value} (h1 : ∀ c d, ¬ (u = .agg c ∧ v = .agg d)) (h2 : ¬ (u = .nilIface ∧ v = .nilIface)) : (eqGuard op t x y u v).run P w = .ok () w := by
  unfold eqGuard
  cases op <;> first | rfl | skip
  all_goals cases u <;> cases v <;> first | rfl | (exact absurd ⟨rfl, rfl⟩ h2) | (exact absurd ⟨rfl, rfl⟩ (h1 _ _))
theorem guard_nil {op : BinOp} {t : TypeId} {x y : Operand} (h : (isC x || isC y) = true) : (eqGuard op t x y .nilIface .nilIface).run P w = .ok () w := by
  unfold eqGuard
  cases op <;> first | rfl | skip
  all_goals cases x <;> cases y <;> first | rfl | (simp [isC] at h)
include hE in
theorem equal_nil {d : Nat} {t : TypeId} {ms : Array (String × TypeId)} (h : E.und t = some (.interface ms)) : (Op.equalIn (d + 1) t .nilIface .nilIface).run P w = .ok true w := by
  simp [Op.equalIn, run_underlying hE h]
include hE in
theorem eqTop_sim {op : BinOp} {t : TypeId} {x y : Operand} {a a' b b' : Value} {r : Bool} (ha : VRel m a a') (hb : VRel m b b') (h : eqTopD E t x y a b = some r) :
    (eqGuard op t x y a' b').run P w = .ok () w ∧ (Op.equal t a' b').run P w = .ok r w := by
  unfold eqTopD at h
  split at h
  · obtain rfl := ha.nili; obtain rfl := hb.nili
    split at h
    · rename_i hc
      split at h
      · rename_i ms hu
        cases h
        exact ⟨guard_nil hc, equal_nil hE hu⟩
      · cases h
    · cases h
  · rename_i n1
    refine ⟨?_, eq_sim hE 10000 ha hb h⟩
    by_cases hag : ∃ c d, a' = .agg c ∧ b' = .agg d
    · obtain ⟨c, d, rfl, rfl⟩ := hag
      have hq : P.eqGuardType P.depth t = false := by
        cases ha with
        | plain hp => simp [plain0] at hp
        | agg ha =>
          cases hb with
          | plain hp => simp [plain0] at hp
          | agg hb => exact (hE.eqo t (eqD_agg h)).2
      exact run_eqGuard_agg w op t x y c d hq
    · refine guard_plain (fun c d hcd => hag ⟨c, d, hcd⟩) ?_
      rintro ⟨rfl, rfl⟩
      cases ha; cases hb
      exact n1 rfl rfl
theorem eqD_float {d : Nat} {t : TypeId} {k : FloatKind} {p : Nat} {y : Value} : eqD E (d + 1) t (.float k p) y = none := by
  simp only [eqD]
  cases E.und t with
  | none => rfl
  | some x => cases x <;> rfl
theorem eqD_complex {d : Nat} {t : TypeId} {k : FloatKind} {p q : Nat} {y : Value} : eqD E (d + 1) t (.complex k p q) y = none := by
  simp only [eqD]
  cases E.und t with
  | none => rfl
  | some x => cases x <;> rfl
theorem bin_eq {t : TypeId} {a b : Value} (h1 : ∀ k n k' n', ¬ (a = .int k n ∧ b = .int k' n')) (h2 : ∀ s s', ¬ (a = .string s ∧ b = .string s')) (h3 : ∀ k n, a ≠ .float k n) (h4 : ∀ k n n', a ≠ .complex k n n') :
    binOp .eql t a b = (Op.equal t a b >>= fun r => pure (.bool r)) ∧ binOp .neq t a b = (Op.equal t a b >>= fun r => pure (.bool !r)) := by
  cases a with
  | float k n => exact absurd rfl (h3 k n)
  | complex k n n' => exact absurd rfl (h4 k n n')
  | int k n => cases b with
    | int k' n' => exact absurd ⟨rfl, rfl⟩ (h1 _ _ _ _)
    | _ => exact ⟨rfl, rfl⟩
  | string s => cases b with
    | string s' => exact absurd ⟨rfl, rfl⟩ (h2 _ _)
    | _ => exact ⟨rfl, rfl⟩
  | _ => exact ⟨by cases b <;> rfl, by cases b <;> rfl⟩
theorem bin_eq_of {t : TypeId} {x y : Operand} {a a' b b' : Value} {r : Bool} (ha : VRel m a a') (hb : VRel m b b') (n1 : ∀ (k : IntKind) (p : Int) (k' : IntKind) (q : Int), a = .int k p → b = .int k' q → False)
    (n2 : ∀ (p q : ByteArray), a = .string p → b = .string q → False) (he : eqTopD E t x y a b = some r) :
    binOp .eql t a' b' = (Op.equal t a' b' >>= fun r => pure (.bool r)) ∧ binOp .neq t a' b' = (Op.equal t a' b' >>= fun r => pure (.bool !r)) := by
  refine bin_eq ?_ ?_ ?_ ?_
  · rintro k n k' n' ⟨rfl, rfl⟩
    cases ha; cases hb; exact n1 _ _ _ _ rfl rfl
  · rintro s s' ⟨rfl, rfl⟩
    cases ha; cases hb; exact n2 _ _ rfl rfl
  · rintro k n rfl
    cases ha
    simp only [eqTopD] at he
    rw [eqD_float (d := 9999)] at he; cases he
  · rintro k n n' rfl
    cases ha
    simp only [eqTopD] at he
    rw [eqD_complex (d := 9999)] at he; cases he
include hE in
theorem bin_sim {op : BinOp} {t : TypeId} {x y : Operand} {a a' b b' v : Value} (ha : VRel m a a') (hb : VRel m b b') (h : binD E op t x y a b = some v) :
    plain0 v = true ∧ (do eqGuard op t x y a' b'; binOp op t a' b').run P w = .ok v w := by
  have hgi : ∀ (k k' : IntKind) (p q : Int), (eqGuard op t x y (.int k p) (.int k' q)).run P w = .ok () w := fun k k' p q => guard_plain (fun c d h => by cases h.1) (fun h => by cases h.1)
  have hgs : ∀ (p q : ByteArray), (eqGuard op t x y (.string p) (.string q)).run P w = .ok () w := fun p q => guard_plain (fun c d h => by cases h.1) (fun h => by cases h.1)
  unfold binD at h
  split at h
  · rename_i k p k' q
    obtain rfl := ha.int; obtain rfl := hb.int
    have := shift_run (P := P) (w := w) (.inl rfl) (k' := k') h
    exact ⟨this.2, by simp only [Sem.run_bind, hgi, Result.andThen_ok]; simpa [binOp] using this.1⟩
  · rename_i k p k' q
    obtain rfl := ha.int; obtain rfl := hb.int
    have := shift_run (P := P) (w := w) (.inr rfl) (k' := k') h
    exact ⟨this.2, by simp only [Sem.run_bind, hgi, Result.andThen_ok]; simpa [binOp] using this.1⟩
  · rename_i k p k' q n1 n2
    obtain rfl := ha.int; obtain rfl := hb.int
    split at h
    · rename_i hk
      subst hk
      have h1 : op ≠ .shl := n1
      have h2 : op ≠ .shr := n2
      have := int_run (P := P) (w := w) h1 h2 h
      refine ⟨this.2, ?_⟩
      simp only [Sem.run_bind, hgi, Result.andThen_ok]
      rw [← this.1]
      cases op <;> first | rfl | (exact absurd rfl h1) | (exact absurd rfl h2)
    · cases h
  · obtain rfl := ha.string; obtain rfl := hb.string
    have := str_run (P := P) (w := w) h
    refine ⟨this.2, ?_⟩
    simp only [Sem.run_bind, hgs, Result.andThen_ok]
    rw [← this.1]
    cases op <;> rfl
  · rename_i n1 n2
    cases he : eqTopD E t x y a b with
    | none => rw [he] at h; cases h
    | some r =>
      rw [he] at h
      cases h
      obtain ⟨g1, g2⟩ := eqTop_sim hE (w := w) (op := .eql) ha hb he
      refine ⟨rfl, ?_⟩
      simp only [Sem.run_bind, g1, Result.andThen_ok]
      rw [(bin_eq_of ha hb n1 n2 he).1]
      simp [g2]
  · rename_i n1 n2
    cases he : eqTopD E t x y a b with
    | none => rw [he] at h; cases h
    | some r =>
      rw [he] at h
      cases h
      obtain ⟨g1, g2⟩ := eqTop_sim hE (w := w) (op := .neq) ha hb he
      refine ⟨rfl, ?_⟩
      simp only [Sem.run_bind, g1, Result.andThen_ok]
      rw [(bin_eq_of ha hb n1 n2 he).2]
      simp [g2]
  · cases h
theorem frozen_no {b o lo : Nat} {c : Array Value} {e : TypeId} (h : w.heap[b]? = some (.cells c e (lo, lo))) : w.frozen? ⟨b, o, none⟩ = false := by
  simp [World.frozen?, h]
theorem sameAddr_blk {b o o' : Nat} : (sameAddr ⟨b, o, none⟩ ⟨b, o', none⟩).run P w = .ok (decide (o = o')) w := by
  simp only [sameAddr, beq_self_eq_true, if_true]
  show Result.ok _ w = _
  congr 1
  rw [Bool.eq_iff_iff]
  simp
theorem sameAddr_ne {b o b' o' lo lo' : Nat} {c c' : Array Value} {e e' : TypeId} (hne : b ≠ b') (h : w.heap[b]? = some (.cells c e (lo, lo))) (h' : w.heap[b']? = some (.cells c' e' (lo', lo'))) : (sameAddr ⟨b, o, none⟩ ⟨b', o', none⟩).run P w = .ok false w := by
  have q1 : ∀ x, w.frozen? ⟨b, x, none⟩ = false := fun x => frozen_no h
  have q2 : ∀ x, w.frozen? ⟨b', x, none⟩ = false := fun x => frozen_no h'
  simp [sameAddr, hne, q1, q2, h, h', noView, viewAt, World.shape?, mayBeOne, stringish]
include hE in
theorem ptr_sim {ok : OkC} {G : Nat} {h : H} (R : HRel ok G m h w) {t : TypeId} {p q : Addr} {a' b' : Value} {r : Bool} (ha : VRel m (.pointer (some p)) a') (hb : VRel m (.pointer (some q)) b') (he : ptrB E t p q h = some r) :
    (∀ op x y, (eqGuard op t x y a' b').run P w = .ok () w) ∧ (Op.equal t a' b').run P w = .ok r w ∧ (binOp .eql t a' b' = (Op.equal t a' b' >>= fun r => pure (.bool r))) ∧ binOp .neq t a' b' = (Op.equal t a' b' >>= fun r => pure (.bool !r)) := by
  obtain ⟨i, hi, hsp, rfl⟩ := ha.pointer
  obtain ⟨j, hj, hsq, rfl⟩ := hb.pointer
  refine ⟨fun op x y => guard_plain (fun c d h => by cases h.1) (fun h => by cases h.1), ?_, rfl, rfl⟩
  unfold ptrB at he
  split at he
  · rename_i e hu
    split at he
    · rename_i n hn
      split at he
      · cases he
      · rename_i hn0
        have hq : (Op.equal t (.pointer (some ⟨i.blk, p.off + i.off, none⟩)) (.pointer (some ⟨j.blk, q.off + j.off, none⟩))).run P w = (sameAddr ⟨i.blk, p.off + i.off, none⟩ ⟨j.blk, q.off + j.off, none⟩).run P w := by
          have hq0 : ∀ d, (Op.equalIn (d + 1) t (.pointer (some ⟨i.blk, p.off + i.off, none⟩)) (.pointer (some ⟨j.blk, q.off + j.off, none⟩))).run P w = (sameAddr ⟨i.blk, p.off + i.off, none⟩ ⟨j.blk, q.off + j.off, none⟩).run P w := fun d => by
            simp [Op.equalIn, run_underlying hE hu, run_siz hE hn, hn0]
          exact hq0 9999
        rw [hq]
        unfold ptrEq at he
        split at he
        · split at he
          · rename_i hbl
            rw [hbl, hj] at hi
            cases hi
            rw [sameAddr_blk]
            cases he
            congr 1
            exact decide_eq_decide.2 (by omega)
          · rename_i hbl
            split at he
            · rename_i hw
              cases he
              simp only [Bool.and_eq_true] at hw
              have whole : ∀ {b : Nat} {k : Img}, wholeD (h.get b) = true → m b = some k → ∃ ob c e lo, h.get b = some ob ∧ ob.mut = true ∧ w.heap[k.blk]? = some (.cells c e (lo, lo)) := by
                intro b k hw hk
                unfold wholeD at hw
                split at hw
                · rename_i cs st ty hb
                  obtain ⟨_, c', el, lo, hi, h1, _, _, _, _, h6⟩ := R.obj b _ k hb hk
                  obtain ⟨_, _, h7⟩ := h6 ty rfl
                  obtain rfl : lo = hi := by omega
                  exact ⟨_, c', el, lo, hb, rfl, h1⟩
                · cases hw
              obtain ⟨o1, c1, e1, l1, g1, g2, g3⟩ := whole hw.1 hi
              obtain ⟨o2, c2, e2, l2, g4, g5, g6⟩ := whole hw.2 hj
              have hne : i.blk ≠ j.blk := fun e => hbl (R.inj p.block q.block o1 o2 i j g1 g2 g4 hi hj e)
              exact sameAddr_ne hne g3 g6
            · cases he
        · cases he
    · cases he
  · cases he
include hE in
theorem binH_sim {ok : OkC} {G : Nat} {h : H} (R : HRel ok G m h w) {op : BinOp} {t : TypeId} {x y : Operand} {a a' b b' v : Value} (ha : VRel m a a') (hb : VRel m b b') (hd : binHD E op t x y a b h = some v) :
    plain0 v = true ∧ (do eqGuard op t x y a' b'; binOp op t a' b').run P w = .ok v w := by
  unfold binHD at hd
  split at hd
  · rename_i p q
    cases he : ptrB E t p q h with
    | none => rw [he] at hd; cases hd
    | some r =>
      rw [he] at hd
      cases hd
      obtain ⟨g1, g2, g3, _⟩ := ptr_sim hE R ha hb he
      refine ⟨rfl, ?_⟩
      simp only [Sem.run_bind, g1, Result.andThen_ok]
      rw [g3]
      simp [g2]
  · rename_i p q
    cases he : ptrB E t p q h with
    | none => rw [he] at hd; cases hd
    | some r =>
      rw [he] at hd
      cases hd
      obtain ⟨g1, g2, _, g3⟩ := ptr_sim hE R ha hb he
      refine ⟨rfl, ?_⟩
      simp only [Sem.run_bind, g1, Result.andThen_ok]
      rw [g3]
      simp [g2]
  · exact bin_sim hE ha hb hd

end
end Go.Dm

set_option linter.unusedVariables false
set_option linter.unusedSimpArgs false
namespace Go.Dm

section
variable {P : Program} {E : Env} (hE : EnvOk P E) {w : World} {m : Inj}
theorem un_sim {op : UnOp} {x x' v : Value} (hx : VRel m x x') (h : unD op x = some v) : (Op.unary op x').run P w = .ok v w ∧ plain0 v = true := by
  unfold unD at h
  split at h
  · obtain rfl := hx.int; cases h; exact ⟨rfl, rfl⟩
  · obtain rfl := hx.int; exact bits_run h
  · obtain rfl := hx.bool; cases h; exact ⟨rfl, rfl⟩
  · cases h
theorem min_sim {a a' b b' v : Value} (ha : VRel m a a') (hb : VRel m b b') (h : minD a b = some v) : (Builtin.min2 a' b').run P w = .ok v w ∧ plain0 v = true := by
  unfold minD at h
  split at h
  · obtain rfl := ha.int; obtain rfl := hb.int
    split at h
    · rename_i hk; cases h; exact ⟨by simp [Builtin.min2], rfl⟩
    · cases h
  · cases h
theorem max_sim {a a' b b' v : Value} (ha : VRel m a a') (hb : VRel m b b') (h : maxD a b = some v) : (Builtin.max2 a' b').run P w = .ok v w ∧ plain0 v = true := by
  unfold maxD at h
  split at h
  · obtain rfl := ha.int; obtain rfl := hb.int
    split at h
    · rename_i hk; cases h; exact ⟨by simp [Builtin.max2], rfl⟩
    · cases h
  · cases h

theorem modify_last {α : Type} (a : Array α) (x : α) (f : α → α) : (a.push x).modify a.size f = a.push (f x) := by
  apply Array.ext
  · simp
  · intro j h1 h2
    simp only [Array.getElem_modify, Array.getElem_push]
    by_cases e : a.size = j
    · subst e; simp
    · rw [if_neg e]
      have : j < a.size := by simp at h2; omega
      simp [this]
theorem bytes_loop : ∀ (vs : List Value) (l : List UInt8) (s : ByteArray), bytesD vs = some l →
    (forIn (m := Sem) vs s fun (c : Value) (r : ByteArray) =>
        match c with
        | .int .u8 n => do pure (ForInStep.yield (r.push (UInt8.ofNat n.toNat)))
        | _ => do
          stuck (α := Unit) "bytesToString: byte expected"
          pure (ForInStep.yield r)).run P w = .ok ⟨s.data ++ l.toArray⟩ w := by
  intro vs
  induction vs with
  | nil => intro l s h; simp only [bytesD] at h; cases h; simp
  | cons v vs ih =>
    intro l s h
    unfold bytesD at h
    split at h
    · rename_i h1; cases h1
    · rename_i n vs' h1
      cases h1
      cases hb : bytesD vs with
      | none => rw [hb] at h; cases h
      | some l' =>
        rw [hb] at h
        cases h
        simp only [List.forIn_cons, Sem.run_bind, Sem.run_pure, Result.andThen_ok]
        rw [ih l' _ hb]
        congr 1
        show (⟨(s.data.push _) ++ l'.toArray⟩ : ByteArray) = _
        congr 1
        simp
    · cases h
theorem LRel.bytes {l l' : List Value} (h : LRel m l l') : ∀ {bs : List UInt8}, bytesD l = some bs → l' = l := by
  induction l generalizing l' with
  | nil => intro bs _; cases h; rfl
  | cons v l ih =>
    intro bs hb
    cases h with
    | cons h1 h2 =>
      unfold bytesD at hb
      split at hb
      · rename_i q; cases q
      · rename_i n vs q
        cases q
        cases hb2 : bytesD l with
        | none => rw [hb2] at hb; cases hb
        | some l' => rw [ih h2 hb2, h1.int]
      · cases hb
include hE in
theorem conv_sim {ok : OkC} {G : Nat} {h : H} (R : HRel ok G m h w) {s d : TypeId} {x x' v : Value} {h' : H} (hx : VRel m x x') (hc : convD E s d x h = some (v, h')) :
    ∃ v' w', (convert s d x').run P w = .ok v' w' ∧ Step ok G m h w v h' v' w' := by
  unfold convD at hc
  split at hc
  · rename_i sd k kk n hs hd
    obtain rfl := hx.int
    cases hc
    refine ⟨_, w, ?_, Step.same R (.plain rfl)⟩
    simp only [convert, Sem.run_bind, run_underlying hE hs, run_underlying hE hd, Result.andThen_ok]
    cases sd <;> rfl
  · rename_i sd kk n hs hd
    obtain rfl := hx.int
    cases hc
    refine ⟨_, w, ?_, Step.same R (.plain rfl)⟩
    simp only [convert, Sem.run_bind, run_underlying hE hs, run_underlying hE hd, Result.andThen_ok]
    cases sd <;> rfl
  · rename_i sd q hs hd
    obtain rfl := hx.string
    cases hc
    refine ⟨_, w, ?_, Step.same R (.plain rfl)⟩
    simp only [convert, Sem.run_bind, run_underlying hE hs, run_underlying hE hd, Result.andThen_ok]
    cases sd <;> rfl
  · rename_i sd e q hs hd
    obtain rfl := hx.string
    split at hc
    · rename_i he
      split at hc
      · rename_i hsz
        cases hc
        have hL : LRel m (q.data.toList.map fun (b : UInt8) => Value.int .u8 b.toNat) (q.data.toList.map fun (b : UInt8) => Value.int .u8 b.toNat) :=
          LRel.plain (List.all_eq_true.2 fun v hv => by obtain ⟨b, _, rfl⟩ := List.mem_map.1 hv; rfl)
        have hcap : ∃ cap, (Question.appendCap q.size 0 e).cut (w.tape w.drawn (.appendCap q.size 0 e)) = cap ∧ q.size ≤ cap := ⟨_, rfl, by simp [Question.cut]⟩
        obtain ⟨cap, hcap1, hcap2⟩ := hcap
        obtain ⟨bs, hbs⟩ : ∃ bs : Array Value, bs = q.data.map (fun (b : UInt8) => Value.int .u8 b.toNat) ++ Array.replicate (cap - q.size) (Value.int .u8 0) := ⟨_, rfl⟩
        have hsize : bs.size = cap := by
          rw [hbs]; simp; have : q.data.size = q.size := rfl; omega
        let w' : World := { (w.drew) with heap := w.heap.push (.cells bs e (cap, cap + 1)) }
        obtain ⟨e1, e2⟩ := new_simW R hL 1 (cs2 := bs) (n2 := cap) hsize (fun j hj => by
            simp at hj
            rw [hbs, Array.getElem?_append_left (by simpa using hj)]
            simp) (by simp; exact hcap2) (e := e) (lo := cap) (hi := cap + 1) 0 (ty := none) (fun _ h => by cases h) (w' := w') rfl rfl rfl rfl (.inr (.inr (Nat.le_refl _)))
        refine ⟨.slice (some ⟨w.heap.size, 0, none⟩) q.size cap, w', ?_, _, e1, e2, ?_⟩
        · have hfr : (Question.appendCap q.size 0 e).forced = false := rfl
          have hbody : (Conv.stringToBytes e q).run P w = .ok (.slice (some ⟨w.heap.size, 0, none⟩) q.size cap) w' := by
            simp only [Conv.stringToBytes, Sem.run_bind, run_choose, hfr, Bool.false_eq_true, if_false, hcap1, Result.andThen_ok, newRow, run_newObj, Sem.run_pure, ← hbs]
            simp only [markStringish, Sem.run_bind, run_shape, World.shape?, Array.getElem?_push_size, Result.andThen_ok, run_freeze, hsize]
            simp only [World.freeze, Sem.run_pure, Result.andThen_ok]
            congr 1
            simp only [w', World.drew]
            rw [if_neg (by decide), modify_last]
            simp
          simp only [convert, Sem.run_bind, run_underlying hE hs, run_underlying hE hd, Result.andThen_ok]
          cases sd <;> simp only [Sem.run_bind, run_underlying hE he, Result.andThen_ok] <;> exact hbody
        · exact .slice (Inj.add_self _ _ _) (Nat.le_refl _) hcap2 (.inr ⟨by simp, by simp⟩)
      · cases hc
    · cases hc
  · rename_i e hs hd
    obtain ⟨rfl, _⟩ := hx.nils
    split at hc
    · rename_i he
      cases hc
      refine ⟨_, w, ?_, Step.same R (.plain rfl)⟩
      simp [convert, run_underlying hE hs, run_underlying hE hd, run_underlying hE he, Conv.bytesToString]
    · cases hc
  · rename_i e b o len cap hs hd
    obtain ⟨a', c', rfl, h1, h2, h3⟩ := hx.slicev
    split at hc
    · rename_i he
      have hrun : ∀ (vs : List Value) (l : List UInt8), bytesD vs = some l → (loadCells a' len).run P w = .ok vs.toArray w →
          (convert s d (.slice (some a') len c')).run P w = .ok (.string ⟨l.toArray⟩) w := by
        intro vs l hb hl
        simp only [convert, Sem.run_bind, run_underlying hE hs, run_underlying hE hd, run_underlying hE he, Result.andThen_ok, Conv.bytesToString, hl]
        rw [← Array.forIn_toList]
        have := bytes_loop (P := P) (w := w) vs l .empty hb
        rw [show (vs.toArray).toList = vs from rfl]
        refine Eq.trans (congrArg (fun r => Result.andThen r _) this) ?_
        simp
      split at hc
      · rename_i h0
        cases hc
        subst h0
        refine ⟨_, w, hrun [] [] rfl rfl, Step.same R (.plain rfl)⟩
      · rename_i h0
        split at hc
        · rename_i vs hr
          cases hb : bytesD vs with
          | none => rw [hb] at hc; cases hc
          | some l =>
            rw [hb] at hc
            cases hc
            unfold readD at hr
            split at hr
            · rename_i c st own fz ty hg
              split at hr
              · rename_i hle
                cases hr
                rcases h3 with ⟨q1, _, _⟩ | ⟨i, hi, _, rfl, _⟩
                · omega
                · obtain ⟨vs', k1, k2, k3, _⟩ := cells_sim (P := P) R hi hg hle
                  have := k1.bytes hb
                  subst this
                  exact ⟨_, w, hrun _ l hb k3, Step.same R (.plain rfl)⟩
              · cases hr
            · cases hr
        · cases hc
    · cases hc
  · cases hc

/-! ### len, append, copy -/
include hE in
theorem len_sim {ok : OkC} {G : Nat} {h : H} (R : HRel ok G m h w) {t : TypeId} {ts : Array TypeId} {r : TypeId} {x x' v : Value} (hx : VRel m x x') (ht : ts.toList = [t]) (hl : lenD E t x h = some v) :
    (Builtin.len_ ts r #[x']).run P w = .ok v w ∧ plain0 v = true := by
  have ht0 : ts[0]? = some t := by rw [← Array.getElem?_toList, ht]; rfl
  unfold lenD at hl
  split at hl
  · rename_i s hu
    obtain rfl := hx.string
    cases hl
    exact ⟨by simp [Builtin.len_, ht0, run_underlying hE hu, goInt, intV], rfl⟩
  · rename_i n el hu
    cases hl
    exact ⟨by simp [Builtin.len_, ht0, run_underlying hE hu, goInt, intV], rfl⟩
  · rename_i el a n c hu
    cases hl
    cases a with
    | none =>
      obtain ⟨rfl, rfl, _⟩ := hx.nils
      exact ⟨by simp [Builtin.len_, ht0, run_underlying hE hu, goInt, intV], rfl⟩
    | some a =>
      obtain ⟨a', c', rfl, _⟩ := hx.slicev
      exact ⟨by simp [Builtin.len_, ht0, run_underlying hE hu, goInt, intV], rfl⟩
  · rename_i k el hu
    obtain rfl := hx.nilm
    cases hl
    exact ⟨by simp [Builtin.len_, ht0, run_underlying hE hu, goInt, intV], rfl⟩
  · rename_i k el b hu
    obtain ⟨i, hi, rfl⟩ := hx.mapv
    split at hl
    · rename_i es cl hb
      cases hl
      obtain ⟨es', h1, h2⟩ := R.obj b _ i hb hi
      have hlen : es'.size = es.length := by
        have : ∀ {l l' : List MapEntry}, MRel m l l' → l'.length = l.length := by
          intro l l' h
          induction h with
          | nil => rfl
          | cons _ _ ih => simp [ih]
        simpa using this h2
      exact ⟨by simp [Builtin.len_, ht0, run_underlying hE hu, goInt, intV, getObj, Sem.run, h1, hlen], rfl⟩
    · cases hl
  · cases hl
end
end Go.Dm

set_option linter.unusedVariables false
set_option linter.unusedSimpArgs false
namespace Go.Dm

theorem growBy_le (n : Nat) : ∀ (r c : Nat), c ≤ 2 * n + 192 → Builtin.growBy n r c ≤ 2 * n + 192 := by
  intro r
  induction r with
  | zero => intro c h; exact h
  | succ r ih =>
    intro c h
    unfold Builtin.growBy
    split
    · exact h
    · exact ih _ (by omega)
theorem nextcap_le {n c : Nat} (h : c < n) : Builtin.nextslicecap n c ≤ 2 * n + 192 := by
  unfold Builtin.nextslicecap
  split
  · omega
  · split
    · omega
    · exact growBy_le n 4 c (by omega)

section
variable {P : Program} {E : Env} (hE : EnvOk P E) {w : World} {m : Inj} {ok : OkC} {G : Nat} {h : H}
theorem loadCells_zero (a : Addr) : (loadCells a 0).run P w = .ok #[] w := rfl
theorem src_sim (R : HRel ok G m h w) {n k : Nat} {x x' : Value} {cs : List Value} (hx : VRel m x x') (hs : srcD n x h = some (k, cs)) :
    (Builtin.lenOf x').run P w = .ok k w ∧ ∃ cs' : List Value, LRel m cs cs' ∧ (Builtin.firstCells n k x').run P w = .ok cs'.toArray w := by
  unfold srcD at hs
  split at hs
  · cases hs
    obtain ⟨rfl, _⟩ := hx.nils
    exact ⟨rfl, [], .nil, rfl⟩
  · rename_i b o len c
    obtain ⟨a', c', rfl, h1, h2, h3⟩ := hx.slicev
    split at hs
    · rename_i h0
      cases hs
      subst h0
      refine ⟨rfl, [], .nil, ?_⟩
      show (loadCells a' (0 * n)).run P w = _
      rw [Nat.zero_mul]; rfl
    · rename_i h0
      cases hr : readD b o (len * n) h with
      | none => rw [hr] at hs; cases hs
      | some vs =>
        rw [hr] at hs
        cases hs
        unfold readD at hr
        split at hr
        · rename_i q st own fz ty hg
          split at hr
          · rename_i hle
            cases hr
            rcases h3 with ⟨q1, _, _⟩ | ⟨i, hi, _, rfl, _⟩
            · omega
            · obtain ⟨vs', k1, k2, k3, _⟩ := cells_sim (P := P) R hi hg hle
              exact ⟨rfl, vs', k1, k3⟩
          · cases hr
        · cases hr
  · rename_i s
    obtain rfl := hx.string
    cases hs
    refine ⟨rfl, _, LRel.plain (List.all_eq_true.2 fun v hv => by obtain ⟨b, _, rfl⟩ := List.mem_map.1 hv; rfl), ?_⟩
    show Result.ok ((s.extract 0 s.size).data.map fun b => Value.int .u8 b.toNat) w = _
    have : s.extract 0 s.size = s := by
      apply ByteArray.ext
      simp
    rw [this]
    congr 1
    apply Array.ext'
    simp
  · cases hs
theorem src_length {n k : Nat} {x : Value} {cs : List Value} (hs : srcD n x h = some (k, cs)) (hn : n = 1 ∨ ∀ s, x ≠ .string s) : cs.length = k * n := by
  unfold srcD at hs
  split at hs
  · cases hs; simp
  · split at hs
    · cases hs; simp
    · rename_i b o len c h0
      cases hr : readD b o (len * n) h with
      | none => rw [hr] at hs; cases hs
      | some vs =>
        rw [hr] at hs
        cases hs
        unfold readD at hr
        split at hr
        · split at hr
          · cases hr; simp; omega
          · cases hr
        · cases hr
  · rename_i s
    cases hs
    rcases hn with rfl | hn
    · simp
    · exact absurd rfl (hn s)
  · cases hs
end
/-- A block of D's is left, and a new one takes over its place in the model's memory. -/
theorem HRel.move {ok : OkC} {G : Nat} {m : Inj} {h : H} {w w' : World} (R : HRel ok G m h w) {b : Nat} {o o' : DObj} {i j : Img} (hb : h.get b = some o) (hm : o.mut = true) (hi : m b = some i) (hj : j.blk = i.blk)
    (hs : w'.heap.size = w.heap.size) (hw : ∀ r, r ≠ i.blk → w'.heap[r]? = w.heap[r]?) (ho : ORel ok (m.add h.addr j) w' j o') : HRel ok G (m.add h.addr j) ((h.drop b).new o') w' where
  obj c u k hc hk := by
    rw [H.get_new] at hc
    unfold Inj.add at hk
    have hnext : (h.drop b).addr = h.addr := rfl
    rw [hnext] at hc
    by_cases e : c = h.addr
    · rw [if_pos e] at hc hk; cases hc; cases hk; exact ho
    · rw [if_neg e] at hc hk
      rw [H.get_drop] at hc
      by_cases e2 : c = b
      · rw [if_pos e2] at hc; cases hc
      · rw [if_neg e2] at hc
        exact (R.obj c u k hc hk).congr (Inj.ext_add j R.fresh) (hw _ fun e' => e2 (R.inj b c o u i k hb hm hc hi hk e'.symm).symm)
  inj c d u u' k k' hc hu hd hk hk' e := by
    rw [H.get_new] at hc hd
    unfold Inj.add at hk hk'
    have hnext : (h.drop b).addr = h.addr := rfl
    rw [hnext] at hc hd
    by_cases e1 : c = h.addr
    · by_cases e2 : d = h.addr
      · rw [e1, e2]
      · rw [if_pos e1] at hk; rw [if_neg e2] at hk' hd; cases hk
        rw [H.get_drop] at hd
        by_cases e3 : d = b
        · rw [if_pos e3] at hd; cases hd
        · rw [if_neg e3] at hd
          exact absurd (R.inj b d o u' i k' hb hm hd hi hk' (hj.symm.trans e)) (Ne.symm e3)
    · rw [if_neg e1] at hk hc
      rw [H.get_drop] at hc
      by_cases e3 : c = b
      · rw [if_pos e3] at hc; cases hc
      · rw [if_neg e3] at hc
        by_cases e2 : d = h.addr
        · rw [if_pos e2] at hk'; cases hk'
          exact absurd (R.inj c b u o k i hc hu hb hk hi (e.trans hj)) e3
        · rw [if_neg e2] at hk' hd
          rw [H.get_drop] at hd
          by_cases e4 : d = b
          · rw [if_pos e4] at hd; cases hd
          · rw [if_neg e4] at hd; exact R.inj c d u u' k k' hc hu hd hk hk' e
  dom c k hk := by
    unfold Inj.add at hk
    by_cases e : c = h.addr
    · rw [if_pos e] at hk; cases hk
      have := (R.dom b i hi).2
      exact ⟨by rw [e]; exact H.lt_new (h.drop b) _ fun a ha => (R.one a ha).1, by omega⟩
    · rw [if_neg e] at hk
      have := R.dom c k hk
      exact ⟨Nat.lt_of_lt_of_le this.1 (H.next_new (h.drop b) _), by omega⟩
  one a ha := by
    have ⟨h1, h2⟩ := H.one_new ha
    exact ⟨Nat.lt_of_lt_of_le (R.one a h1).1 (H.next_new (h.drop b) _), by unfold Inj.add; rw [if_neg (show a ≠ h.addr from h2)]; exact (R.one a h1).2⟩
  wf c hc := by
    have h1 := H.lt_new (h.drop b) o' fun a ha => (R.one a ha).1
    have h2 : h.next ≤ ((h.drop b).new o').next := H.next_new (h.drop b) _
    rw [H.get_new, if_neg (by omega), H.get_drop]
    by_cases e : c = b
    · rw [if_pos e]
    · rw [if_neg e]; exact R.wf c (Nat.le_trans h2 hc)
  glob g hg := let ⟨k, h1, h2⟩ := R.glob g hg; ⟨k, Inj.ext_add j R.fresh _ _ h1, h2⟩
theorem Evo.move {ok : OkC} {G : Nat} {m : Inj} {h : H} {w w' : World} (R : HRel ok G m h w) {b : Nat} {o o' : DObj} {i j : Img} (hb : h.get b = some o) (hm : o.mut = true) (hi : m b = some i) (hj : j.blk = i.blk)
    (h1 : w'.os = w.os) (h2 : w'.tape = w.tape) (h3 : w'.output = w.output) (hs : w'.heap.size = w.heap.size) (hw : ∀ r, r ≠ i.blk → w'.heap[r]? = w.heap[r]?) : Evo m h w (m.add h.addr j) ((h.drop b).new o') w' where
  ext := Inj.ext_add j R.fresh
  os := h1
  tape := h2
  output := h3
  size := by omega
  keep r hr hn := hw r fun e => hn ⟨b, o, i, hb, hm, hi, e.symm⟩
  new c k e e' := by
    unfold Inj.add at e
    by_cases hc : c = h.addr
    · rw [if_pos hc] at e; cases e; exact .inr ⟨b, o, i, hb, hm, hi, hj.symm⟩
    · rw [if_neg hc] at e; rw [e] at e'; cases e'
  own r hr := by
    rintro ⟨c, u, k, hc, hu, hk, e⟩
    rw [H.get_new] at hc
    unfold Inj.add at hk
    have hnext : (h.drop b).addr = h.addr := rfl
    rw [hnext] at hc
    by_cases e1 : c = h.addr
    · rw [if_pos e1] at hk; cases hk; exact ⟨b, o, i, hb, hm, hi, hj.symm.trans e⟩
    · rw [if_neg e1] at hc hk
      rw [H.get_drop] at hc
      by_cases e2 : c = b
      · rw [if_pos e2] at hc; cases hc
      · rw [if_neg e2] at hc; exact ⟨c, u, k, hc, hu, hk, e⟩
theorem Evo.drop {m : Inj} {h : H} {w : World} (b : Nat) : Evo m h w m (h.drop b) w where
  ext := Ext.refl m
  os := rfl
  tape := rfl
  output := rfl
  size := Nat.le_refl _
  keep _ _ _ := rfl
  new c k e e' := by rw [e] at e'; cases e'
  own r _ := by
    rintro ⟨c, u, k, hc, hu, hk, e⟩
    rw [H.get_drop] at hc
    by_cases e2 : c = b
    · rw [if_pos e2] at hc; cases hc
    · rw [if_neg e2] at hc; exact ⟨c, u, k, hc, hu, hk, e⟩

section
variable {P : Program} {E : Env} (hE : EnvOk P E) {w : World} {m : Inj} {ok : OkC} {G : Nat} {h : H}
include hE in
/-- The model's append: there is room. -/
theorem append_room {t xt elem : TypeId} {xd : TypeDesc} {i : TypeInfo} {ts : Array TypeId} {r : TypeId} (ht : ts.toList = [t, xt]) (hu : E.und t = some (.slice elem)) (hx : E.und xt = some xd) (hxd : ∀ k, xd ≠ .int k)
    (hi : E.ty elem = some i) {base : Option Addr} {len cap k : Nat} {x' : Value} {cs' : List Value} (hk : (Builtin.lenOf x').run P w = .ok k w) (hc : (Builtin.firstCells i.size k x').run P w = .ok cs'.toArray w) (hle : len + k ≤ cap) :
    (Builtin.append_ ts r #[.slice base len cap, x']).run P w =
      ((match base with | some a => storeCells (a.add (len * i.size)) cs' | none => pure ()).run P w).andThen fun _ w' => .ok (.slice base (len + k) cap) w' := by
  have ht0 : ts[0]? = some t := by rw [← Array.getElem?_toList, ht]; rfl
  have ht1 : ts[1]? = some xt := by rw [← Array.getElem?_toList, ht]; rfl
  have hsz : E.siz elem = some i.size := by simp [Env.siz, hi]
  have hz : (match xd with | .int _ => true | _ => false) = false := by
    cases xd <;> first | rfl | (exact absurd rfl (hxd _))
  simp only [Builtin.append_, ht0, ht1, List.getElem?_toArray, List.getElem?_cons_zero, List.getElem?_cons_succ, Sem.run_bind, run_underlying hE hu, Result.andThen_ok, run_siz hE hsz, run_underlying hE hx, Sem.run_pure]
  cases xd <;> first | (exact absurd rfl (hxd _)) | skip
  all_goals
    simp only [Bool.false_eq_true, if_false, hk, Result.andThen_ok, hle, if_true, Bool.not_false, Sem.run_bind, hc]
    cases base <;> simp
include hE in
/-- The model's append: there is none; a new row is made. -/
theorem append_grow {t xt elem : TypeId} {xd : TypeDesc} {i : TypeInfo} {z : Value} {ts : Array TypeId} {r : TypeId} (ht : ts.toList = [t, xt]) (hu : E.und t = some (.slice elem)) (hx : E.und xt = some xd) (hxd : ∀ k, xd ≠ .int k)
    (hi : E.ty elem = some i) (hz : zeroD E elem = some z) (hzs : z.cells.size = i.size) {base : Option Addr} {len cap k : Nat} {x' : Value} {cs' old : List Value}
    (hk : (Builtin.lenOf x').run P w = .ok k w) (hc : (Builtin.firstCells i.size k x').run P w.drew = .ok cs'.toArray w.drew) (ho : (Builtin.firstCells i.size len (.slice base len cap)).run P w.drew = .ok old.toArray w.drew)
    (hlt : cap < len + k) (hb1 : (len + k) * (i.bytes + 1) ≤ 2 ^ 44) (hb2 : i.bytes ≤ 2 ^ 32) :
    ∃ newCap, len + k ≤ newCap ∧ ∃ rest : Array Value, rest.size = (newCap - (len + k)) * i.size ∧
    (Builtin.append_ ts r #[.slice base len cap, x']).run P w = .ok (.slice (some ⟨w.heap.size, 0, none⟩) (len + k) newCap) (w.drew.alloc (.cells (old.toArray ++ cs'.toArray ++ rest) elem)) := by
  have ht0 : ts[0]? = some t := by rw [← Array.getElem?_toList, ht]; rfl
  have ht1 : ts[1]? = some xt := by rw [← Array.getElem?_toList, ht]; rfl
  have hsz : E.siz elem = some i.size := by simp [Env.siz, hi]
  have hmul : (len + k) * (i.bytes + 1) = (len + k) * i.bytes + (len + k) := by rw [Nat.mul_add, Nat.mul_one]
  have hn := nextcap_le hlt
  have hnb : Builtin.nextslicecap (len + k) cap * i.bytes ≤ 2 ^ 48 := by
    have h1 : Builtin.nextslicecap (len + k) cap * i.bytes ≤ (2 * (len + k) + 192) * i.bytes := Nat.mul_le_mul_right _ hn
    have h2 : (2 * (len + k) + 192) * i.bytes = 2 * ((len + k) * i.bytes) + 192 * i.bytes := by rw [Nat.add_mul, Nat.mul_assoc]
    omega
  have hfr : (Question.appendCap (len + k) cap elem).forced = false := rfl
  obtain ⟨newCap, hnc⟩ : ∃ newCap, (Question.appendCap (len + k) cap elem).cut (w.tape w.drawn (.appendCap (len + k) cap elem)) = newCap := ⟨_, rfl⟩
  have hle : len + k ≤ newCap := by rw [← hnc]; simp [Question.cut]
  refine ⟨newCap, hle, Builtin.zeroCells z.cells (newCap - (len + k)), by simp [Builtin.zeroCells, hzs], ?_⟩
  simp only [Builtin.append_, ht0, ht1, List.getElem?_toArray, List.getElem?_cons_zero, List.getElem?_cons_succ, Sem.run_bind, run_underlying hE hu, Result.andThen_ok, run_siz hE hsz, run_underlying hE hx, Sem.run_pure]
  cases xd <;> first | (exact absurd rfl (hxd _)) | skip
  all_goals
    simp only [Bool.false_eq_true, if_false, hk, Result.andThen_ok, Nat.not_le.2 hlt, Bool.not_false, if_true, Sem.run_bind, run_typeInfo hE hi]
    rw [if_neg (by simp [IntKind.max, IntKind.signed, IntKind.bits]; omega)]
    simp only [Sem.run_pure, Result.andThen_ok, false_or, Sem.run_bind, run_typeInfo hE hi]
    rw [if_neg (by omega)]
    simp only [Sem.run_pure, Result.andThen_ok, Sem.run_bind, run_choose, hfr, Bool.false_eq_true, if_false, hnc, run_askRoom, run_typeInfo hE hi, World.drew_eq, ho, hc, run_zero hE hz, newRow, run_newObj]
    simp
    rfl
theorem append_nonint {xd : TypeDesc} {a b : Bool} (h : ¬ ((isIntT xd || a || b) = true)) : (∀ k, xd ≠ .int k) ∧ a = false ∧ b = false := by
  simp at h
  refine ⟨fun k e => ?_, h.1.2, h.2⟩
  subst e; simp [isIntT] at h
include hE in
theorem append_sim (R : HRel ok G m h w) {ts : Array TypeId} {r : TypeId} {s s' x x' v : Value} {h' : H} (hs : VRel m s s') (hx : VRel m x x') (hd : appendD E ts.toList s x h = some (v, h')) :
    ∃ v' w', (Builtin.append_ ts r #[s', x']).run P w = .ok v' w' ∧ Step ok G m h w v h' v' w' := by
  unfold appendD at hd
  split at hd
  · rename_i t xt hts
    split at hd
    · rename_i elem xd hu hxd
      split at hd
      · rename_i i z hi hz
        split at hd
        · cases hd
        · rename_i hg
          obtain ⟨hni, hsz0, hzs⟩ := append_nonint hg
          simp at hsz0 hzs
          split at hd
          · cases hd
          · rename_i k cs hsrc
            split at hd
            · rename_i hlen
              obtain ⟨hk, cs', hc1, hc2⟩ := src_sim (P := P) R hx hsrc
              have hlen' : cs'.length = k * i.size := by rw [hc1.length, hlen]
              have Rd : HRel ok G m h w.drew := R.same rfl
              split at hd
              · -- onto nothing
                obtain ⟨rfl, _, _⟩ := hs.nils
                split at hd
                · rename_i h0
                  cases hd
                  subst h0
                  refine ⟨.slice none 0 0, w, ?_, Step.same R (.plain rfl)⟩
                  rw [append_room hE hts hu hxd hni hi hk hc2 (Nat.le_refl _)]
                  rfl
                · rename_i h0
                  split at hd
                  · rename_i hb
                    simp at hb
                    cases hd
                    obtain ⟨_, cs2, hd1, hd2⟩ := src_sim (P := P) Rd hx hsrc
                    have hlen2 : cs2.length = k * i.size := by rw [hd1.length, hlen]
                    obtain ⟨nc, hn1, rest, hr, hrun⟩ := append_grow hE (r := r) (base := none) (len := 0) (cap := 0) (old := []) hts hu hxd hni hi hz hzs hk hd2 rfl (by omega) (by simpa using hb.1) hb.2
                    simp only [Nat.zero_add] at hrun hn1 hr
                    have hsize : (([] : List Value).toArray ++ cs2.toArray ++ rest).size = nc * i.size := by
                      have : k * i.size + (nc - k) * i.size = nc * i.size := by rw [← Nat.add_mul]; congr 1; omega
                      simp [hlen2, hr]; omega
                    obtain ⟨e1, e2⟩ := new_simW R hd1 i.size hsize (fun j hj => by
                        rw [Array.getElem?_append_left (by simp; have := hd1.length; omega)]
                        simp) (by rw [hlen]; exact Nat.mul_le_mul_right _ hn1) (e := elem) (lo := 0) (hi := 0) 0 (ty := E.tag elem) (fun t ht => ⟨E.tag_eq elem t ht, rfl⟩) (w' := w.drew.alloc (.cells (([] : List Value).toArray ++ cs2.toArray ++ rest) elem)) rfl rfl rfl rfl (.inl (Nat.le_refl _))
                    exact ⟨_, _, hrun, _, e1, e2, .slice (Inj.add_self _ _ _) (Nat.le_refl _) hn1 (.inr ⟨by simp; omega, by simp⟩)⟩
                  · cases hd
              · rename_i b o len cap
                obtain ⟨a', c', rfl, h1, h2, h3⟩ := hs.slicev
                split at hd
                · rename_i h0
                  cases hd
                  subst h0
                  refine ⟨.slice (some a') len c', w, ?_, Step.same R hs⟩
                  rw [append_room hE hts hu hxd hni hi hk hc2 (by omega)]
                  have : cs' = [] := List.eq_nil_of_length_eq_zero (by simp [hlen'])
                  subst this
                  rfl
                · rename_i h0
                  split at hd
                  · rename_i hroom
                    split at hd
                    · rename_i h2' hst
                      cases hd
                      rcases h3 with ⟨q1, q2, q3⟩ | ⟨j, hj, _, rfl, hcap⟩
                      · omega
                      · obtain ⟨w', s1, s2, s3⟩ := stCells_sim (P := P) R hj hc1 hst
                        refine ⟨.slice (some ⟨j.blk, o + j.off, none⟩) (len + k) c', w', ?_, m, s2, s3, .slice hj hroom h2 hcap⟩
                        rw [append_room hE hts hu hxd hni hi hk hc2 (by omega)]
                        simp only [add_plain]
                        rw [show o + j.off + len * i.size = o + len * i.size + j.off by omega, s1]
                        rfl
                    · cases hd
                  · rename_i hroom
                    split at hd
                    · rename_i hb
                      simp only [Bool.and_eq_true, decide_eq_true_eq] at hb
                      obtain ⟨⟨hb1, hb2⟩, hb3⟩ := hb
                      split at hd
                      · rename_i c st fz ty hgb
                        split at hd
                        · rename_i hq
                          simp only [Bool.and_eq_true, decide_eq_true_eq, Bool.or_eq_true, beq_iff_eq] at hq
                          obtain ⟨⟨⟨hq1, hq2⟩, hq3⟩, hq4⟩ := hq
                          cases hd
                          subst hq1
                          by_cases hin : len + k ≤ c'
                          · -- there is room in the model
                            rcases h3 with ⟨q1, q2, q3⟩ | ⟨j, hj, _, rfl, hcap⟩
                            · omega
                            · rcases hcap with hcap | ⟨hst0, hcap⟩
                              · omega
                              · simp only at hj hcap
                                obtain ⟨p0, c2, el, lo, hi', p1, p2, p3, p4, p5, p6⟩ := R.obj b _ j hgb hj
                                rw [p0] at hcap
                                have hmul : (len + k) * i.size = len * i.size + k * i.size := Nat.add_mul ..
                                have hmul2 : (len + k) * i.size ≤ c' * i.size := Nat.mul_le_mul_right _ hin
                                have hfz := p5 rfl
                                have hone : ∀ v ∈ cs', v.oneCell' = true := by
                                  intro v' hv'
                                  obtain ⟨q, hq, e⟩ := List.getElem_of_mem hv'
                                  have hj' : q < cs.length := by have := hc1.length; omega
                                  obtain ⟨u, hu1, hu2⟩ := hc1.get (List.getElem?_eq_getElem hj')
                                  rw [List.getElem?_eq_getElem hq, e] at hu1
                                  cases hu1
                                  exact hu2.cellV (List.all_eq_true.1 hb3 _ (List.getElem_mem hj'))
                                have hF := setCells_facts j.blk cs' w (o + j.off + len * i.size + 0)
                                have hB := setCells_block j.blk cs' w (o + j.off + len * i.size + 0) c2 el (lo, hi') p1
                                have hrs := run_storeCells (P := P) j.blk (o + j.off + len * i.size) cs' w 0 c2 el lo hi' p1 (by omega) hone (by intro q q1 q2; omega)
                                have hO : ORel ok (m.add h.addr ⟨j.blk, j.off + o, i.size, j.size⟩) (setCells w j.blk (o + j.off + len * i.size + 0) cs') ⟨j.blk, j.off + o, i.size, j.size⟩ (.cells ((c.drop o).take (len * i.size) ++ cs) i.size true (fz - o) ty) := by
                                  refine ⟨rfl, _, el, lo, hi', hB, by simp [setAt_length]; exact p2, ?_, ?_, fun _ => ?_, fun t ht => ?_⟩
                                  · simp [setAt_length]; omega
                                  · intro q v hv
                                    simp only [List.getElem?_toArray, setAt_get, Array.length_toList]
                                    by_cases hql : q < len * i.size
                                    · rw [List.getElem?_append_left (by simp; omega), List.getElem?_take, if_pos hql, List.getElem?_drop] at hv
                                      obtain ⟨v', y1, y2⟩ := p4 _ v hv
                                      rw [if_neg (by omega)]
                                      exact ⟨v', by rw [show j.off + o + q = j.off + (o + q) by omega]; simpa using y1, y2.mono (Inj.ext_add _ R.fresh)⟩
                                    · have hl0 : ((c.drop o).take (len * i.size)).length = len * i.size := by simp; omega
                                      rw [List.getElem?_append_right (by omega), hl0] at hv
                                      have hqk : q - len * i.size < cs.length := (List.getElem?_eq_some_iff.1 hv).1
                                      obtain ⟨v', y1, y2⟩ := hc1.get hv
                                      rw [if_pos (by omega)]
                                      exact ⟨v', by rw [show j.off + o + q - (o + j.off + len * i.size + 0) = q - len * i.size by omega]; exact y1, y2.mono (Inj.ext_add _ R.fresh)⟩
                                  · simp only; omega
                                  · have := p6 t ht
                                    rcases hq4 with hq4 | hq4
                                    · rw [hq4] at ht; cases ht
                                    · exact ⟨this.1, by simp only; omega, by omega⟩
                                refine ⟨.slice (some ⟨j.blk, o + j.off, none⟩) (len + k) c', _, ?_, _, Evo.move R (j := ⟨j.blk, j.off + o, i.size, j.size⟩) hgb rfl hj rfl hF.os hF.tape hF.output hF.size hF.other, R.move hgb rfl hj rfl hF.size hF.other hO, ?_⟩
                                · rw [append_room hE hts hu hxd hni hi hk hc2 hin]
                                  simp only [add_plain]
                                  rw [hrs]
                                  rfl
                                · have := VRel.slice (m := m.add h.addr ⟨j.blk, j.off + o, i.size, j.size⟩) (b := h.addr) (o := 0) (n := len + k) (c := len + k) (c' := c') (Inj.add_self _ _ _) (Nat.le_refl _) hin (.inr ⟨by simp; omega, by simp only; omega⟩)
                                  rw [show o + j.off = 0 + (j.off + o) by omega]
                                  exact this
                          · -- there is none
                            obtain ⟨_, cs2, hd1, hd2⟩ := src_sim (P := P) Rd hx hsrc
                            have hlen2 : cs2.length = k * i.size := by rw [hd1.length, hlen]
                            have hold : ∃ old : List Value, LRel m ((c.drop o).take (len * i.size)) old ∧ (Builtin.firstCells i.size len (.slice (some a') len c')).run P w.drew = .ok old.toArray w.drew := by
                              rcases h3 with ⟨q1, q2, q3⟩ | ⟨j, hj, _, rfl, hcap⟩
                              · subst q1
                                refine ⟨[], by rw [Nat.zero_mul]; exact .nil, ?_⟩
                                show (loadCells a' (0 * i.size)).run P w.drew = _
                                rw [Nat.zero_mul]; rfl
                              · obtain ⟨vs', y1, y2, y3, _⟩ := cells_sim (P := P) Rd hj hgb hq2
                                exact ⟨vs', y1, y3⟩
                            obtain ⟨old, ho1, ho2⟩ := hold
                            have hol : old.length = len * i.size := by rw [ho1.length]; simp; omega
                            obtain ⟨nc, hn1, rest, hr, hrun⟩ := append_grow hE (r := r) hts hu hxd hni hi hz hzs hk hd2 ho2 (by omega) hb1 hb2
                            have hmul : (len + k) * i.size = len * i.size + k * i.size := Nat.add_mul ..
                            have hsize : (old.toArray ++ cs2.toArray ++ rest).size = nc * i.size := by
                              have : (len + k) * i.size + (nc - (len + k)) * i.size = nc * i.size := by rw [← Nat.add_mul]; congr 1; omega
                              simp [hol, hlen2, hr]; omega
                            have hLL := ho1.append hd1
                            have hcl : ((c.drop o).take (len * i.size) ++ cs).length = (len + k) * i.size := by simp; omega
                            obtain ⟨e1, e2⟩ := new_simW (R.drop b) (h := h.drop b) hLL i.size hsize (fun j hj => by
                                rw [Array.getElem?_append_left (by simp; omega)]
                                simp) (by rw [hcl]; exact Nat.mul_le_mul_right _ hn1) (e := elem) (lo := 0) (hi := 0) (fz - o) (ty := ty) (fun t ht => ⟨by rcases hq4 with hq4 | hq4 <;> simp_all, rfl⟩) (w' := w.drew.alloc (.cells (old.toArray ++ cs2.toArray ++ rest) elem)) rfl rfl rfl rfl (.inl (Nat.zero_le _))
                            exact ⟨_, _, hrun, _, (Evo.drop b).trans e1, e2, .slice (Inj.add_self _ _ _) (Nat.le_refl _) hn1 (.inr ⟨by simp; omega, by simp⟩)⟩
                        · cases hd
                      · cases hd
                    · cases hd
              · cases hd
            · cases hd
      · cases hd
    · cases hd
  · cases hd
end
end Go.Dm

set_option linter.unusedVariables false
set_option linter.unusedSimpArgs false
namespace Go.Dm

section
variable {P : Program} {E : Env} (hE : EnvOk P E) {w : World} {m : Inj} {ok : OkC} {G : Nat} {h : H}
theorem firstCells_take {n k q : Nat} {x x' : Value} {cs : List Value} (R : HRel ok G m h w) (hx : VRel m x x') (hs : srcD n x h = some (k, cs)) (hq : q ≤ k) (hn : cs.length = k * n) :
    ∃ cs' : List Value, LRel m (cs.take (q * n)) cs' ∧ (Builtin.firstCells n q x').run P w = .ok cs'.toArray w := by
  unfold srcD at hs
  split at hs
  · cases hs
    obtain ⟨rfl, _⟩ := hx.nils
    obtain rfl : q = 0 := by omega
    exact ⟨[], by simp; exact .nil, rfl⟩
  · rename_i b o len c
    obtain ⟨a', c', rfl, h1, h2, h3⟩ := hx.slicev
    split at hs
    · rename_i h0
      cases hs
      obtain rfl : q = 0 := by omega
      refine ⟨[], by simp; exact .nil, ?_⟩
      show (loadCells a' (0 * n)).run P w = _
      rw [Nat.zero_mul]; rfl
    · rename_i h0
      cases hr : readD b o (len * n) h with
      | none => rw [hr] at hs; cases hs
      | some vs =>
        rw [hr] at hs
        cases hs
        unfold readD at hr
        split at hr
        · rename_i q' st own fz hg
          split at hr
          · rename_i hle
            cases hr
            rcases h3 with ⟨q1, _, _⟩ | ⟨i, hi, _, rfl, _⟩
            · omega
            · have hqn := Nat.mul_le_mul_right n hq
              obtain ⟨vs', k1, k2, k3, _⟩ := cells_sim (P := P) R hi hg (o := o) (n := q * n) (by omega)
              refine ⟨vs', ?_, k3⟩
              rw [List.take_take, Nat.min_eq_left hqn]
              exact k1
          · cases hr
        · cases hr
  · rename_i s
    obtain rfl := hx.string
    cases hs
    refine ⟨_, LRel.plain (List.all_eq_true.2 fun v hv => by obtain ⟨b, _, rfl⟩ := List.mem_map.1 (List.mem_of_mem_take hv); rfl), ?_⟩
    show Result.ok ((s.extract 0 q).data.map fun b => Value.int .u8 b.toNat) w = _
    congr 1
    apply Array.ext'
    simp at hn
    have hn1 : q * n = q ∨ s.size = 0 := by
      rcases Nat.eq_zero_or_pos s.size with h0 | h0
      · exact .inr h0
      · left
        have : n = 1 := by
          have h5 : s.size * n = s.size * 1 := by omega
          exact Nat.eq_of_mul_eq_mul_left h0 h5
        rw [this, Nat.mul_one]
    rcases hn1 with e | e
    · rw [e]; simp [List.map_take]
    · obtain rfl : q = 0 := by omega
      simp
  · cases hs
theorem firstCells_zero {n k : Nat} {x' : Value} (hk : (Builtin.lenOf x').run P w = .ok k w) : (Builtin.firstCells n 0 x').run P w = .ok #[] w := by
  cases x' with
  | string s =>
    show Result.ok ((s.extract 0 0).data.map fun b => Value.int .u8 b.toNat) w = _
    simp
  | slice a l c =>
    cases a with
    | none => rfl
    | some a => show (loadCells a (0 * n)).run P w = _; rw [Nat.zero_mul]; rfl
  | _ => simp [Builtin.lenOf] at hk
include hE in
theorem copy_sim (R : HRel ok G m h w) {ts : Array TypeId} {r : TypeId} {d d' x x' v : Value} {h' : H} (hd : VRel m d d') (hx : VRel m x x') (hc : copyD E ts.toList d x h = some (v, h')) :
    ∃ v' w', (Builtin.copy_ ts r #[d', x']).run P w = .ok v' w' ∧ Step ok G m h w v h' v' w' := by
  unfold copyD at hc
  split at hc
  · rename_i t rest hts
    have ht0 : ts[0]? = some t := by rw [← Array.getElem?_toList, hts]; rfl
    split at hc
    · rename_i elem hu
      split at hc
      · rename_i n hn
        split at hc
        · rename_i q hsrc
          cases hc
          obtain ⟨k, cs⟩ := q
          obtain ⟨rfl, _, _⟩ := hd.nils
          obtain ⟨hk, _⟩ := src_sim (P := P) R hx hsrc
          have hf := firstCells_zero (n := n) hk
          refine ⟨intV 0, w, ?_, Step.same R (.plain rfl)⟩
          simp [Builtin.copy_, ht0, run_underlying hE hu, hk, run_siz hE hn, hf, goInt, intV]
        · rename_i b o len cap k cs hsrc
          obtain ⟨a', c', rfl, h1, h2, h3⟩ := hd.slicev
          obtain ⟨hk, _⟩ := src_sim (P := P) R hx hsrc
          split at hc
          · cases hc
          · rename_i hlen
            simp at hlen
            obtain ⟨cs', hc1, hc2⟩ := firstCells_take (P := P) R hx hsrc (Nat.min_le_left k len) hlen
            split at hc
            · rename_i h0
              cases hc
              have hmin : Nat.min k len = 0 := h0
              rw [h0] at hc1 hc2
              have : cs' = [] := by have := hc1.length; simpa using this
              subst this
              refine ⟨intV 0, w, ?_, Step.same R (.plain rfl)⟩
              simp only [Builtin.copy_, ht0, List.getElem?_toArray, List.getElem?_cons_zero, List.getElem?_cons_succ, Sem.run_bind, run_underlying hE hu, Result.andThen_ok, hk, run_siz hE hn, hmin, hc2]
              rfl
            · rename_i h0
              split at hc
              · rename_i h2' hst
                cases hc
                rcases h3 with ⟨q1, _, _⟩ | ⟨i, hi, _, rfl, _⟩
                · subst q1; simp at h0
                · obtain ⟨w', s1, s2, s3⟩ := stCells_sim (P := P) R hi hc1 hst
                  refine ⟨intV (min k len : Nat), w', ?_, m, s2, s3, .plain rfl⟩
                  have hmm : Nat.min k len = min k len := rfl
                  simp only [Builtin.copy_, ht0, List.getElem?_toArray, List.getElem?_cons_zero, List.getElem?_cons_succ, Sem.run_bind, run_underlying hE hu, Result.andThen_ok, hk, run_siz hE hn, hmm, hc2, s1]
                  rfl
              · cases hc
        · cases hc
      · cases hc
    · cases hc
  · cases hc
end
end Go.Dm

set_option linter.unusedVariables false
set_option linter.unusedSimpArgs false
namespace Go.Dm

/-- What was found, and what the model finds. -/
def Fnd (m : Inj) : Option (Nat × MapEntry) → Option (Nat × Value) → Prop
  | none, none => True
  | some (j, e), some (j', v') => j' = j ∧ VRel m e.val v'
  | _, _ => False
theorem VRel.eq0 {m : Inj} {v v' : Value} (h : VRel m v v') (hp : plain0 v = true) : v' = v := by
  cases h with
  | plain => rfl
  | _ => simp [plain0] at hp
  
theorem VRel.eq1 {m : Inj} {v v' : Value} (h : VRel m v v') (hp : Dm.plain1 v = true) : v' = v := by
  cases v with
  | iface t u => obtain ⟨u', rfl, hu⟩ := h.ifacev; rw [hu.eq0 hp]
  | _ => exact h.eq0 hp
theorem LRel.eq1 {m : Inj} {l l' : List Value} (h : LRel m l l') (hp : l.all plain1 = true) : l' = l := by
  induction l generalizing l' with
  | nil => cases h; rfl
  | cons v l ih =>
    cases h with
    | cons h1 h2 =>
      simp only [List.all_cons, Bool.and_eq_true] at hp
      rw [h1.eq1 hp.1, ih h2 hp.2]
theorem VRel.eqV {m : Inj} {v v' : Value} (h : VRel m v v') (hp : Dm.plainV v = true) : v' = v := by
  cases v with
  | agg cs =>
    obtain ⟨cs', rfl, hc⟩ := h.aggv
    have := hc.eq1 hp
    obtain ⟨a⟩ := cs; obtain ⟨b⟩ := cs'
    simp at this; rw [this]
  | tuple cs =>
    obtain ⟨cs', rfl, hc⟩ := h.tuplev
    have := hc.eq1 hp
    obtain ⟨a⟩ := cs; obtain ⟨b⟩ := cs'
    simp at this; rw [this]
  | _ => exact h.eq1 hp

section
variable {P : Program} {E : Env} (hE : EnvOk P E) {w : World} {m : Inj} {ok : OkC} {G : Nat} {h : H}
include hE
theorem part_run {t : TypeId} {cs : Array Value} {off : Nat} {v : Value} (h : partD E t cs.toList off = some v) : (part t cs off).run P w = .ok v w := by
  unfold partD at h
  cases ha : aggN E t with
  | none => rw [ha] at h; cases h
  | some a =>
    rw [ha] at h
    cases a with
    | none =>
      simp only at h
      simp only [part, Sem.run_bind, run_isAgg_none hE ha, Result.andThen_ok, Bool.false_eq_true, if_false]
      simp at h
      simp [h]
    | some n =>
      simp only at h
      split at h
      · cases h
        have ⟨h1, h2⟩ := run_isAgg_some hE (w := w) ha
        simp only [part, Sem.run_bind, h1, Result.andThen_ok, if_true, h2, Sem.run_pure]
        congr 2
        apply Array.ext'
        simp [Array.toList_extract, List.extract]
      · cases h
theorem chk_fields {d : Nat} (e : Bool) (ih : ∀ {t : TypeId} {v : Value}, chkKeyD E d t v = true → (Instr.checkKey e d t v).run P w = .ok () w) {cs : Array Value} :
    ∀ (fs : List Field), chkFieldsD E (chkKeyD E d) cs.toList fs = true →
    (forIn (m := Sem) fs PUnit.unit fun (f : Field) (_ : PUnit) => if f.name ≠ "_" then do
        let a ← part f.type cs f.offset
        Instr.checkKey e d f.type a
        pure (ForInStep.yield PUnit.unit)
      else pure (ForInStep.yield PUnit.unit)).run P w = .ok PUnit.unit w := by
  intro fs
  induction fs with
  | nil => intro _; rfl
  | cons f fs ihf =>
    intro hc
    simp only [chkFieldsD, Bool.and_eq_true, Bool.or_eq_true, beq_iff_eq] at hc
    simp only [List.forIn_cons]
    by_cases hn : f.name = "_"
    · simp only [hn, ne_eq, not_true_eq_false, if_false, Sem.run_bind, Sem.run_pure, Result.andThen_ok]
      exact ihf hc.2
    · have h1 := hc.1.resolve_left hn
      split at h1
      · rename_i v hv
        simp only [hn, ne_eq, not_false_eq_true, if_true, Sem.run_bind, part_run hE hv, ih h1, Result.andThen_ok, Sem.run_pure]
        exact ihf hc.2
      · cases h1
theorem chk_run (e : Bool) : ∀ (d : Nat) {t : TypeId} {v : Value}, chkKeyD E d t v = true → (Instr.checkKey e d t v).run P w = .ok () w := by
  intro d
  induction d with
  | zero => intro t v h; cases h
  | succ d ih =>
    intro t v h
    simp only [chkKeyD] at h
    cases hu : E.und t with
    | none => rw [hu] at h; cases h
    | some x =>
      rw [hu] at h
      cases x with
      | «interface» ms => cases h
      | array n el => cases h
      | struct fs =>
        cases v with
        | agg cs =>
          simp only at h
          simp only [Instr.checkKey, Sem.run_bind, run_underlying hE hu, Result.andThen_ok]
          rw [← Array.forIn_toList]
          refine Eq.trans (congrArg (fun r => Result.andThen r _) (chk_fields hE e ih fs.toList h)) ?_
          rfl
        | _ => cases h
      | _ => simp [Instr.checkKey, run_underlying hE hu]

omit hE in
theorem same_bool {k q : Value} {b : Bool} {d : Nat} {t : TypeId} (hu : E.und t = some .bool) (h : eqD E (d + 1) t k q = some b) : Instr.sameNow .bool k q = some b := by
  simp only [eqD, hu] at h
  cases k with
  | bool a => cases q with
    | bool c => exact h
    | _ => cases h
  | _ => cases h
omit hE in
theorem same_int {kk : IntKind} {k q : Value} {b : Bool} {d : Nat} {t : TypeId} (hu : E.und t = some (.int kk)) (h : eqD E (d + 1) t k q = some b) : Instr.sameNow (.int kk) k q = some b := by
  simp only [eqD, hu] at h
  cases k with
  | int a n => cases q with
    | int c n' => exact h
    | _ => cases h
  | _ => cases h
omit hE in
theorem same_string {k q : Value} {b : Bool} {d : Nat} {t : TypeId} (hu : E.und t = some .string) (h : eqD E (d + 1) t k q = some b) : Instr.sameNow .string k q = some b := by
  simp only [eqD, hu] at h
  cases k with
  | string a => cases q with
    | string c => exact h
    | _ => cases h
  | _ => cases h
omit hE in
theorem findNow_of {d : TypeDesc} {t : TypeId} {k : Value} (hs : ∀ {q : Value} {b : Bool}, eqD E 10000 t k q = some b → Instr.sameNow d k q = some b) :
    ∀ {es es' : List MapEntry} {i : Nat}, MRel m es es' → 
      (∀ {r : Option (Nat × MapEntry)}, findD E t k es i = some r → ∃ r' : Option (Nat × Value), Instr.findNow d k es' i = some r' ∧
        Fnd m r r') := by
  intro es es' i hm
  induction hm generalizing i with
  | nil => intro r h; simp only [findD] at h; cases h; exact ⟨none, rfl, trivial⟩
  | cons he hkk ih =>
    rename_i e e' l l'
    intro r h
    simp only [findD] at h
    simp only [Instr.findNow, he.key]
    cases hq : eqD E 10000 t k e.key with
    | none => rw [hq] at h; cases h
    | some b =>
      rw [hq] at h
      rw [hs hq]
      cases b with
      | true => cases h; exact ⟨some (i, e'.val), rfl, rfl, he.val⟩
      | false => exact ih h
theorem findAsk_of {t : TypeId} {k : Value} (hk : plainV k = true) :
    ∀ {es es' : List MapEntry} {i : Nat}, MRel m es es' → 
      (∀ {r : Option (Nat × MapEntry)}, findD E t k es i = some r → ∃ r' : Option (Nat × Value), (Instr.findAsking t k es' i).run P w = .ok r' w ∧
        Fnd m r r') := by
  intro es es' i hm
  induction hm generalizing i with
  | nil => intro r h; simp only [findD] at h; cases h; exact ⟨none, rfl, trivial⟩
  | cons he hkk ih =>
    rename_i e e' l l'
    intro r h
    simp only [findD] at h
    cases hq : eqD E 10000 t k e.key with
    | none => rw [hq] at h; cases h
    | some b =>
      rw [hq] at h
      have hrun : (Op.equal t k e'.key).run P w = .ok b w := by
        rw [he.key]
        exact eq_sim hE 10000 (VRel.plainV (m := m) hk) (VRel.plainV (m := m) he.plain) hq
      simp only [Instr.findAsking, Sem.run_bind, hrun, Result.andThen_ok]
      cases b with
      | true => cases h; exact ⟨some (i, e'.val), rfl, rfl, he.val⟩
      | false => exact ih h
theorem find_sim {t : TypeId} {k : Value} (hk : plainV k = true) {es es' : List MapEntry} (hm : MRel m es es') {d : TypeDesc} (hu : E.und t = some d) {r : Option (Nat × MapEntry)} (h : findD E t k es 0 = some r) :
    ∃ r' : Option (Nat × Value), (Instr.findKey t k es').run P w = .ok r' w ∧ Fnd m r r' := by
  have fast : ∀ (hs : ∀ {q : Value} {b : Bool}, eqD E 10000 t k q = some b → Instr.sameNow d k q = some b), ∃ r' : Option (Nat × Value), (Instr.findKey t k es').run P w = .ok r' w ∧ Fnd m r r' := by
    intro hs
    obtain ⟨r', h1, h2⟩ := findNow_of hs hm h
    exact ⟨r', by simp [Instr.findKey, run_underlying hE hu, h1], h2⟩
  have slow : (∀ (q : Value), Instr.sameNow d k q = none) → ∃ r' : Option (Nat × Value), (Instr.findKey t k es').run P w = .ok r' w ∧ Fnd m r r' := by
    intro hs
    cases hm with
    | nil =>
      simp only [findD] at h
      cases h
      exact ⟨none, by simp [Instr.findKey, run_underlying hE hu, Instr.findNow], trivial⟩
    | cons he hk' =>
      rename_i e e' l l'
      obtain ⟨r', h1, h2⟩ := findAsk_of hE (w := w) hk (.cons he hk') h
      refine ⟨r', ?_, h2⟩
      simp only [Instr.findKey, Sem.run_bind, run_underlying hE hu, Result.andThen_ok, Instr.findNow, hs]
      exact h1
  cases d with
  | bool => exact fast (same_bool (d := 9999) hu)
  | int kk => exact fast (same_int (d := 9999) hu)
  | string => exact fast (same_string (d := 9999) hu)
  | _ => exact slow fun q => by cases k <;> cases q <;> rfl
omit hE in
theorem chk_und {d : Nat} {t : TypeId} {v : Value} (h : chkKeyD E (d + 1) t v = true) : ∃ x, E.und t = some x := by
  simp only [chkKeyD] at h
  cases hq : E.und t with
  | none => rw [hq] at h; cases h
  | some x => exact ⟨x, rfl⟩
theorem lookup_sim (R : HRel ok G m h w) {t : TypeId} {x x' k k' v : Value} {c : Bool} (hx : VRel m x x') (hk : VRel m k k') (hl : lookupD E t x k c h = some v) :
    ∃ v', (Instr.lookup t x' k' c).run P w = .ok v' w ∧ VRel m v v' := by
  unfold lookupD at hl
  split at hl
  · rename_i kt et hu
    have key : ∀ (es : List MapEntry) (es' : Array MapEntry), MRel m es es'.toList → 
        (if (chkKeyD E 10000 kt k && plainV k) = true then match findD E kt k es 0, zeroD E et with
        | some (some (_, e)), _ => some (if c then .tuple #[e.val, .bool true] else e.val)
        | some none, some z => some (if c then .tuple #[z, .bool false] else z)
        | _, _ => none
      else none) = some v →
        ∃ v', (do
          Instr.checkKey es'.isEmpty 10000 kt k'
          let (v, ok) ← match ← Instr.findKey kt k' es'.toList with
            | some (_, v) => pure (v, true)
            | none => pure (← zeroValue et, false)
          pure (if c then .tuple #[v, .bool ok] else v) : Sem Value).run P w = .ok v' w ∧ VRel m v v' := by
      intro es es' hm hd
      split at hd
      · rename_i hc
        simp only [Bool.and_eq_true] at hc
        have hkk : k' = k := hk.eqV hc.2
        subst hkk
        have hchk := fun e => chk_run hE (w := w) e 10000 hc.1
        have hdu : ∃ d, E.und kt = some d := chk_und (d := 9999) hc.1
        obtain ⟨d, hd0⟩ := hdu
        split at hd
        · rename_i i e hf
          cases hd
          obtain ⟨r', h1, h2⟩ := find_sim hE (w := w) hc.2 hm hd0 hf
          cases r' with
          | none => exact h2.elim
          | some r' =>
            obtain ⟨j', v'⟩ := r'
            obtain ⟨_, hv⟩ := h2
            refine ⟨if c then .tuple #[v', .bool true] else v', ?_, ?_⟩
            · simp only [Sem.run_bind, Result.andThen_ok, hchk, h1, Sem.run_pure]
            · split
              · exact .tuple (.cons hv (.cons (.plain rfl) .nil))
              · exact hv
        · rename_i z hf hz
          cases hd
          obtain ⟨r', h1, h2⟩ := find_sim hE (w := w) hc.2 hm hd0 hf
          cases r' with
          | some r' => exact h2.elim
          | none =>
            refine ⟨if c then .tuple #[z, .bool false] else z, ?_, ?_⟩
            · simp only [Sem.run_bind, Result.andThen_ok, hchk, h1, Sem.run_pure, run_zero hE hz]
            · have hz' := VRel.plainV (m := m) (zero_plain hz)
              split
              · exact .tuple (.cons hz' (.cons (.plain rfl) .nil))
              · exact hz'
        · cases hd
      · cases hd
    cases x with
    | map b =>
      cases b with
      | none =>
        obtain rfl := hx.nilm
        simp only at hl
        obtain ⟨v', h1, h2⟩ := key [] #[] .nil hl
        refine ⟨v', ?_, h2⟩
        simp only [Instr.lookup, Sem.run_bind, run_underlying hE hu, Result.andThen_ok, Sem.run_pure] at h1 ⊢
        exact h1
      | some b =>
        obtain ⟨i, hi, rfl⟩ := hx.mapv
        simp only at hl
        cases hb : h.get b with
        | none => rw [hb] at hl; cases hl
        | some o =>
          rw [hb] at hl
          cases o with
          | map es clock =>
            simp only at hl
            obtain ⟨es', k1, k2⟩ := R.obj b _ i hb hi
            have hg : (getObj i.blk).run P w = .ok (.map es' clock) w := by simp [getObj, Sem.run, k1]
            obtain ⟨v', h1, h2⟩ := key es es' k2 hl
            refine ⟨v', ?_, h2⟩
            simp only [Instr.lookup, Sem.run_bind, run_underlying hE hu, Result.andThen_ok, hg, Sem.run_pure] at h1 ⊢
            exact h1
          | _ => cases hl
    | _ => cases hl
  · cases hl
end
end Go.Dm

set_option linter.unusedVariables false
set_option linter.unusedSimpArgs false
namespace Go.Dm

theorem MRel.get {m : Inj} {l l' : List MapEntry} (h : MRel m l l') {i : Nat} {e : MapEntry} (he : l[i]? = some e) : ∃ e', l'[i]? = some e' ∧ ERel m e e' := by
  induction h generalizing i with
  | nil => simp at he
  | cons hx _ ih =>
    cases i with
    | zero => simp at he; subst he; exact ⟨_, rfl, hx⟩
    | succ i => exact ih (by simpa using he)
theorem MRel.length {m : Inj} {l l' : List MapEntry} (h : MRel m l l') : l'.length = l.length := by
  induction h with
  | nil => rfl
  | cons _ _ ih => simp [ih]
theorem MRel.set {m : Inj} {l l' : List MapEntry} (h : MRel m l l') (i : Nat) {e e' : MapEntry} (he : ERel m e e') : MRel m (l.set i e) (l'.set i e') := by
  induction h generalizing i with
  | nil => exact .nil
  | cons hx hk ih =>
    cases i with
    | zero => exact .cons he hk
    | succ i => exact .cons hx (ih i)
theorem MRel.snoc {m : Inj} {l l' : List MapEntry} (h : MRel m l l') {e e' : MapEntry} (he : ERel m e e') : MRel m (l ++ [e]) (l' ++ [e']) := by
  induction h with
  | nil => exact .cons he .nil
  | cons hx _ ih => exact .cons hx ih
theorem MRel.erase {m : Inj} {l l' : List MapEntry} (h : MRel m l l') (i : Nat) : MRel m (l.eraseIdx i) (l'.eraseIdx i) := by
  induction h generalizing i with
  | nil => exact .nil
  | cons hx hk ih =>
    cases i with
    | zero => exact hk
    | succ i => exact .cons hx (ih i)
theorem findD_at {E : Env} {t : TypeId} {k : Value} : ∀ {es : List MapEntry} {i j : Nat} {e : MapEntry}, findD E t k es i = some (some (j, e)) → i ≤ j ∧ es[j - i]? = some e := by
  intro es
  induction es with
  | nil => intro i j e h; simp [findD] at h
  | cons x es ih =>
    intro i j e h
    simp only [findD] at h
    split at h
    · cases h; simp
    · have := ih h
      refine ⟨by omega, ?_⟩
      rw [show j - i = (j - (i + 1)) + 1 by omega]
      exact this.2
    · cases h
/-- The model's block r gets another object. -/
def setObjW (w : World) (r : Nat) (o : Obj) : World := { w with heap := w.heap.setIfInBounds r o }
theorem setObjW_facts (w : World) (r : Nat) (o : Obj) : SetFacts w (setObjW w r o) r where
  os := rfl
  tape := rfl
  output := rfl
  size := by simp [setObjW]
  other k hk := by simp [setObjW, Array.getElem?_setIfInBounds, Ne.symm hk]
theorem setObjW_at {w : World} {r : Nat} {x : Obj} (h : w.heap[r]? = some x) (o : Obj) : (setObjW w r o).heap[r]? = some o := by
  have : r < w.heap.size := (Array.getElem?_eq_some_iff.1 h).1
  simp [setObjW, this]
theorem run_setObjW {P : Program} {w : World} {r : Nat} {x : Obj} (h : w.heap[r]? = some x) (hc : ∀ c e f, x ≠ .cells c e f) (o : Obj) : (setObj r o).run P w = .ok () (setObjW w r o) := by
  unfold setObj
  simp only [Sem.run, h]
  cases x with
  | cells c e f => exact absurd rfl (hc c e f)
  | _ => rfl

section
variable {P : Program} {E : Env} (hE : EnvOk P E) {w : World} {m : Inj} {ok : OkC} {G : Nat} {h : H}
include hE
theorem mapPut_sim (R : HRel ok G m h w) {t : TypeId} {x x' k k' v v' : Value} {h' : H} (hx : VRel m x x') (hk : VRel m k k') (hv : VRel m v v') (hd : mapPutD E t x k v h = some h') :
    ∃ w', (Instr.mapUpdate t x' k' v').run P w = .ok () w' ∧ Evo m h w m h' w' ∧ HRel ok G m h' w' := by
  unfold mapPutD at hd
  split at hd
  · rename_i kt et b hu
    obtain ⟨i, hi, rfl⟩ := hx.mapv
    split at hd
    · rename_i es clock hb
      obtain ⟨es', k1, k2⟩ := R.obj b _ i hb hi
      have hg : (getObj i.blk).run P w = .ok (.map es' clock) w := by simp [getObj, Sem.run, k1]
      split at hd
      · rename_i hc
        simp only [Bool.and_eq_true] at hc
        obtain rfl := hk.eqV hc.2
        have hchk := chk_run hE (w := w) false 10000 hc.1
        obtain ⟨d, hd0⟩ := chk_und (d := 9999) hc.1
        have hset := fun o => run_setObjW (P := P) k1 (by intro c e f q; cases q) o
        split at hd
        · rename_i j e hf
          split at hd
          · rename_i hsb
            cases hd
            obtain ⟨r', h1, h2⟩ := find_sim hE (w := w) hc.2 k2 hd0 hf
            obtain ⟨_, hat⟩ := findD_at hf
            cases r' with
            | none => exact h2.elim
            | some r' =>
              obtain ⟨j', u⟩ := r'
              obtain ⟨rfl, _⟩ := h2
              obtain ⟨e', he1, he2⟩ := k2.get hat
              simp at he1
              have hkey : (Instr.keyThatStays (((es'[j']?).map (·.key)).getD k') k').run P w = .ok k' w := by
                simp only [he1, Option.map_some, Option.getD_some, he2.key, Instr.keyThatStays, hsb, if_true, Sem.run_pure]
              refine ⟨setObjW w i.blk (.map (es'.modify j' fun e => { e with key := k', val := v' }) clock), ?_, Evo.upd hb rfl hi rfl rfl rfl (setObjW_facts ..).size (setObjW_facts ..).other, ?_⟩
              · simp only [Instr.mapUpdate, Sem.run_bind, run_underlying hE hu, Result.andThen_ok, hg, hchk, h1, hkey, hset]
              · refine R.upd hb rfl hi (setObjW_facts ..).size (setObjW_facts ..).other ⟨_, setObjW_at k1 _, ?_⟩
                have hm : (es'.modify j' fun e => { e with key := k', val := v' }).toList = es'.toList.set j' { e' with key := k', val := v' } := by
                  rw [Array.toList_modify]
                  apply List.ext_getElem?
                  intro q
                  rw [List.getElem?_modify, List.getElem?_set]
                  by_cases hq : j' = q
                  · subst hq
                    have : j' < es'.size := (Array.getElem?_eq_some_iff.1 he1).1
                    have h3 : es'.toList[j']? = some e' := by simpa using he1
                    have h4 : es'[j'] = e' := by rw [Array.getElem?_eq_getElem this] at he1; cases he1; rfl
                    simp [h3, this, h4]
                  · simp [hq]
                rw [hm]
                exact k2.set _ ⟨rfl, hc.2, hv, he2.born⟩
          · cases hd
        · rename_i hf
          cases hd
          obtain ⟨r', h1, h2⟩ := find_sim hE (w := w) hc.2 k2 hd0 hf
          cases r' with
          | some r' => exact h2.elim
          | none =>
            refine ⟨setObjW w i.blk (.map (es'.push { key := k', val := v', born := clock }) (clock + 1)), ?_, Evo.upd hb rfl hi rfl rfl rfl (setObjW_facts ..).size (setObjW_facts ..).other, ?_⟩
            · simp only [Instr.mapUpdate, Sem.run_bind, run_underlying hE hu, Result.andThen_ok, hg, hchk, h1, hset]
            · refine R.upd hb rfl hi (setObjW_facts ..).size (setObjW_facts ..).other ⟨_, setObjW_at k1 _, ?_⟩
              rw [Array.toList_push]
              exact k2.snoc ⟨rfl, hc.2, hv, rfl⟩
        · cases hd
      · cases hd
    · cases hd
  · cases hd
theorem mapDel_sim (R : HRel ok G m h w) {t : TypeId} {ts : Array TypeId} {rt : TypeId} {rest : List TypeId} (hts : ts.toList = t :: rest) {x x' k k' : Value} {h' : H} (hx : VRel m x x') (hk : VRel m k k') (hd : mapDelD E t x k h = some h') :
    ∃ w', (Builtin.delete_ ts rt #[x', k']).run P w = .ok (.tuple #[]) w' ∧ Evo m h w m h' w' ∧ HRel ok G m h' w' := by
  have ht0 : ts[0]? = some t := by rw [← Array.getElem?_toList, hts]; rfl
  unfold mapDelD at hd
  split at hd
  · rename_i kt et b hu
    obtain ⟨i, hi, rfl⟩ := hx.mapv
    split at hd
    · rename_i es clock hb
      obtain ⟨es', k1, k2⟩ := R.obj b _ i hb hi
      have hg : (getObj i.blk).run P w = .ok (.map es' clock) w := by simp [getObj, Sem.run, k1]
      split at hd
      · rename_i hc
        simp only [Bool.and_eq_true] at hc
        obtain rfl := hk.eqV hc.2
        have hchk := fun e => chk_run hE (w := w) e 10000 hc.1
        obtain ⟨d, hd0⟩ := chk_und (d := 9999) hc.1
        have hset := fun o => run_setObjW (P := P) k1 (by intro c e f q; cases q) o
        split at hd
        · rename_i j e hf
          cases hd
          obtain ⟨r', h1, h2⟩ := find_sim hE (w := w) hc.2 k2 hd0 hf
          obtain ⟨_, hat⟩ := findD_at hf
          cases r' with
          | none => exact h2.elim
          | some r' =>
            obtain ⟨j', u⟩ := r'
            obtain ⟨rfl, _⟩ := h2
            refine ⟨setObjW w i.blk (.map (es'.eraseIdxIfInBounds j') clock), ?_, Evo.upd hb rfl hi rfl rfl rfl (setObjW_facts ..).size (setObjW_facts ..).other, ?_⟩
            · simp only [Builtin.delete_, ht0, List.getElem?_toArray, List.getElem?_cons_zero, List.getElem?_cons_succ, Sem.run_bind, run_underlying hE hu, Result.andThen_ok, hg, hchk, h1, hset, Sem.run_pure]
            · refine R.upd hb rfl hi (setObjW_facts ..).size (setObjW_facts ..).other ⟨_, setObjW_at k1 _, ?_⟩
              have hm : (es'.eraseIdxIfInBounds j').toList = es'.toList.eraseIdx j' := by
                unfold Array.eraseIdxIfInBounds
                split
                · simp
                · rename_i hn
                  rw [List.eraseIdx_of_length_le (by simpa using hn)]
              rw [hm]
              exact k2.erase _
        · rename_i hf
          cases hd
          obtain ⟨r', h1, h2⟩ := find_sim hE (w := w) hc.2 k2 hd0 hf
          cases r' with
          | some r' => exact h2.elim
          | none =>
            have hw : setObjW w i.blk (.map es' clock) = w := by
              unfold setObjW
              have : w.heap.setIfInBounds i.blk (.map es' clock) = w.heap := by
                apply Array.ext
                · simp
                · intro j h1 h2
                  rw [Array.getElem_setIfInBounds h2]
                  split
                  · rename_i e
                    subst e
                    rw [Array.getElem?_eq_getElem h2] at k1
                    exact (Option.some.inj k1).symm
                  · rfl
              rw [this]
            refine ⟨w, ?_, Evo.refl _ _ _, R⟩
            simp only [Builtin.delete_, ht0, List.getElem?_toArray, List.getElem?_cons_zero, List.getElem?_cons_succ, Sem.run_bind, run_underlying hE hu, Result.andThen_ok, hg, hchk, h1, hset, hw, Sem.run_pure]
        · cases hd
      · cases hd
    · cases hd
  · cases hd
omit hE in
/-- A new object that is no row of cells. -/
theorem newObj_sim (R : HRel ok G m h w) {o : DObj} {ob : Obj} (ho : ∀ w' : World, w'.heap[w.heap.size]? = some ob → ORel ok (m.add h.addr ⟨w.heap.size, 0, 0, 0⟩) w' ⟨w.heap.size, 0, 0, 0⟩ o) :
    Evo m h w (m.add h.addr ⟨w.heap.size, 0, 0, 0⟩) (h.new o) (w.alloc ob) ∧ HRel ok G (m.add h.addr ⟨w.heap.size, 0, 0, 0⟩) (h.new o) (w.alloc ob) := by
  have hs : (w.alloc ob).heap.size = w.heap.size + 1 := World.size_alloc ..
  have hw : ∀ r, r < w.heap.size → (w.alloc ob).heap[r]? = w.heap[r]? := by
    intro r hr
    show (w.heap.push _)[r]? = _
    rw [Array.getElem?_push, if_neg (Nat.ne_of_lt hr)]
  refine ⟨Evo.alloc R rfl rfl rfl rfl hs hw, R.alloc rfl hs hw (ho _ ?_)⟩
  show (w.heap.push _)[w.heap.size]? = _
  simp
theorem method_sim {t : TypeId} {v v' rv : Value} {name : String} {f : FuncId} (hv : VRel m v v') (h : methodD E t v name = some (f, rv)) (n : Nat) :
    rv = v ∧ (method (n + 1) t v' name).run P w = .ok (f, v') w := by
  unfold methodD at h
  split at h
  · rename_i i hi
    split at h
    · rename_i mm hm
      split at h
      · rename_i hp
        have hm' : i.methods.find? (·.name == name) = some mm := by rw [← Array.find?_toList]; exact hm
        have hpath : mm.path.toList = [] := by
          have : mm.path = #[] := Array.eq_empty_of_size_eq_zero hp
          rw [this]
        split at h
        · rename_i g e hf hu
          cases h
          refine ⟨rfl, ?_⟩
          simp only [method, Sem.run_bind, run_typeInfo hE hi, Result.andThen_ok, hm', hpath, follow, Sem.run_pure, hf, receiverAt, run_underlying hE hu, Place.get]
        · cases h
        · rename_i g d hnp hf hu
          cases h
          refine ⟨rfl, ?_⟩
          simp only [method, Sem.run_bind, run_typeInfo hE hi, Result.andThen_ok, hm', hpath, follow, Sem.run_pure, hf, receiverAt, run_underlying hE hu, Place.get]
        · cases h
      · cases h
    · cases h
  · cases h
end
end Go.Dm
