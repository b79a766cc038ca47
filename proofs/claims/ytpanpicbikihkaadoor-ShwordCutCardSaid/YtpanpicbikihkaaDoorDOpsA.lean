/- The machine D, 4: its operations are followed by the model's: reading. -/
import Derived.Test.YtpanpicbikihkaaDoorDRel
set_option linter.unusedVariables false
set_option linter.unusedSimpArgs false
namespace Go.Dm

structure EnvOk (P : Program) (E : Env) : Prop where
  ty : ∀ t, E.ty t = P.info? t
  fn : ∀ (f : FuncId) (fn : Func), E.fn f = some fn → P.funcs[f]? = some fn
  nm : ∀ (f : FuncId) (fn : Func), E.fn f = some fn → fn.body.isSome = true → (fn.name == "runtime.NumGoroutine") = false
  eqo : ∀ t, E.eqo t = true → P.stoodInHeld t = false ∧ P.eqGuardType P.depth t = false

section
variable {P : Program} {E : Env} (hE : EnvOk P E) {w : World}
include hE
theorem und_eq (t : TypeId) : E.und t = P.underlying t := by
  unfold Env.und Program.underlying
  simp only [hE.ty]
  cases P.info? t with
  | none => rfl
  | some i => obtain ⟨d⟩ := i; cases d <;> rfl
theorem run_underlying {t : TypeId} {d : TypeDesc} (h : E.und t = some d) : (underlying t).run P w = .ok d w := by
  rw [und_eq hE] at h
  simp [underlying, h]
theorem run_typeInfo {t : TypeId} {i : TypeInfo} (h : E.ty t = some i) : (typeInfo t).run P w = .ok i w := by
  rw [hE.ty] at h
  simp [typeInfo, h]
theorem run_siz {t : TypeId} {n : Nat} (h : E.siz t = some n) : (sizeOf t).run P w = .ok n w := by
  unfold Env.siz at h
  cases hi : E.ty t with
  | none => rw [hi] at h; simp at h
  | some i => rw [hi] at h; simp at h; simp [sizeOf, run_typeInfo hE hi, h]
theorem run_zero {t : TypeId} {z : Value} (h : zeroD E t = some z) : (zeroValue t).run P w = .ok z w := by
  unfold zeroD at h
  cases hi : E.ty t with
  | none => rw [hi] at h; simp at h
  | some i =>
    rw [hi] at h
    simp only at h
    cases hz : i.zero with
    | none => rw [hz] at h; simp at h
    | some z' =>
      rw [hz] at h
      simp only at h
      split at h
      · cases h; simp [zeroValue, run_typeInfo hE hi, hz]
      · cases h
omit hE in
theorem zero_plain {t : TypeId} {z : Value} (h : zeroD E t = some z) : plainV z = true := by
  unfold zeroD at h
  split at h
  · split at h
    · split at h
      · cases h; assumption
      · cases h
    · cases h
  · cases h
theorem run_isAgg_some {t : TypeId} {n : Nat} (h : aggN E t = some (some n)) : (isAgg t).run P w = .ok true w ∧ (sizeOf t).run P w = .ok n w := by
  unfold aggN at h
  split at h
  · rename_i fs hu
    simp at h
    exact ⟨by simp [isAgg, run_underlying hE hu], run_siz hE h⟩
  · rename_i k e hu
    simp at h
    exact ⟨by simp [isAgg, run_underlying hE hu], run_siz hE h⟩
  · cases h
  · cases h
theorem run_isAgg_none {t : TypeId} (h : aggN E t = some none) : (isAgg t).run P w = .ok false w := by
  unfold aggN at h
  split at h
  · simp at h
  · simp at h
  · rename_i d h1 h2 hu
    simp only [isAgg, Sem.run_bind, run_underlying hE hu, Result.andThen_ok]
    first | rfl | (cases d <;> first | rfl | (exact absurd rfl (h1 _)) | (exact absurd rfl (h2 _ _)) | simp_all)
  · cases h

omit hE in
theorem add_plain (b o n : Nat) : (⟨b, o, none⟩ : Addr).add n = ⟨b, o + n, none⟩ := by
  unfold Addr.add; split <;> simp_all

omit hE in
theorem run_loadCellsFrom (b o : Nat) : ∀ (vs : List Value) (i : Nat) (acc : Array Value), (∀ (j : Nat) (v : Value), vs[j]? = some v → w.cell? ⟨b, o + i + j, none⟩ = some v) →
    (loadCellsFrom ⟨b, o, none⟩ i vs.length acc).run P w = .ok (acc ++ vs.toArray) w := by
  intro vs
  induction vs with
  | nil => intro i acc _; simp [loadCellsFrom]
  | cons v vs ih =>
    intro i acc h
    have h0 := h 0 v rfl
    have ha : (⟨b, o, none⟩ : Addr).add i = ⟨b, o + i + 0, none⟩ := by unfold Addr.add; split <;> simp_all
    simp only [List.length_cons, loadCellsFrom, Sem.run_bind, run_load, ha, h0, Result.andThen_ok]
    rw [ih (i + 1) (acc.push v) (fun j u hu => by rw [show o + (i + 1) + j = o + i + (j + 1) by omega]; exact h (j + 1) u (by simpa using hu))]
    simp
omit hE in
theorem run_loadCells_list {b o : Nat} {vs : List Value} (h : ∀ (j : Nat) (v : Value), vs[j]? = some v → w.cell? ⟨b, o + j, none⟩ = some v) :
    (loadCells ⟨b, o, none⟩ vs.length).run P w = .ok vs.toArray w := by
  unfold loadCells
  rw [run_loadCellsFrom b o vs 0 #[] (by simpa using h)]
  simp

omit hE in
theorem cell_of {r : Nat} {c : Array Value} {e : TypeId} {f : Nat × Nat} (h : w.heap[r]? = some (.cells c e f)) (o : Nat) : w.cell? ⟨r, o, none⟩ = c[o]? := by
  simp [World.cell?, h]

theorem part_sim {m : Inj} {t : TypeId} {cs cs' : Array Value} (hc : LRel m cs.toList cs'.toList) {off : Nat} {v : Value} (h : partD E t cs.toList off = some v) :
    ∃ v', (part t cs' off).run P w = .ok v' w ∧ VRel m v v' := by
  unfold partD at h
  cases ha : aggN E t with
  | none => rw [ha] at h; cases h
  | some a =>
    rw [ha] at h
    cases a with
    | none =>
      simp only at h
      obtain ⟨v', h1, h2⟩ := hc.get h
      refine ⟨v', ?_, h2⟩
      simp only [part, Sem.run_bind, run_isAgg_none hE ha, Result.andThen_ok, Bool.false_eq_true, if_false]
      simp at h1
      simp [h1]
    | some n =>
      simp only at h
      split at h
      · cases h
        refine ⟨.agg (cs'.extract off (off + n)), ?_, ?_⟩
        · have ⟨h1, h2⟩ := run_isAgg_some hE (w := w) ha
          simp only [part, Sem.run_bind, h1, Result.andThen_ok, if_true, h2, Sem.run_pure]
        · have := (hc.drop off).take n
          have e : cs'.extract off (off + n) = Array.mk ((cs'.toList.drop off).take n) := by
            apply Array.ext'
            simp [Array.toList_extract, List.extract]
          rw [e]
          exact .agg this
      · cases h

variable {ok : OkC} {G : Nat} {m : Inj} {h : H} (R : HRel ok G m h w)
omit hE
include R
/-- Cells of D's that are read: the model's. -/
theorem cells_sim {b : Nat} {i : Img} (hi : m b = some i) {c : List Value} {s fz : Nat} {own : Bool} {ty : Option TypeId} (hb : h.get b = some (.cells c s own fz ty)) {o n : Nat} (hn : o + n ≤ c.length) :
    ∃ vs' : List Value, LRel m ((c.drop o).take n) vs' ∧ vs'.length = n ∧ (loadCells ⟨i.blk, o + i.off, none⟩ n).run P w = .ok vs'.toArray w ∧ ∀ (j : Nat) (v : Value), vs'[j]? = some v → w.cell? ⟨i.blk, o + i.off + j, none⟩ = some v := by
  obtain ⟨h0, c', e, lo, hh, h1, h2, h3, h4, h5⟩ := R.obj b _ i hb hi
  have hlen : ((c.drop o).take n).length = n := by simp; omega
  have hl : ((c'.toList.drop (i.off + o)).take n).length = n := by simp; omega
  have hcell : ∀ (j : Nat) (v : Value), ((c'.toList.drop (i.off + o)).take n)[j]? = some v → w.cell? ⟨i.blk, o + i.off + j, none⟩ = some v := by
    intro j v hv
    rw [List.getElem?_take] at hv
    split at hv
    · rw [List.getElem?_drop] at hv
      rw [cell_of h1, show o + i.off + j = i.off + o + j by omega]
      simpa using hv
    · cases hv
  refine ⟨(c'.toList.drop (i.off + o)).take n, LRel.of_get (by rw [hl, hlen]) fun j v hv => ?_, hl, ?_, hcell⟩
  · rw [List.getElem?_take] at hv ⊢
    split at hv
    · rename_i hj
      rw [if_pos hj]
      rw [List.getElem?_drop] at hv ⊢
      obtain ⟨v', a, b⟩ := h4 _ v hv
      exact ⟨v', by rw [show i.off + o + j = i.off + (o + j) by omega]; simpa using a, b⟩
    · cases hv
  · have := run_loadCells_list (P := P) hcell
    rw [hl] at this
    exact this
include hE
theorem ld_sim {t : TypeId} {a a' v : Value} (ha : VRel m a a') (hl : ld E t a h = some v) : ∃ v', (Instr.loadAt t a').run P w = .ok v' w ∧ VRel m v v' := by
  unfold ld at hl
  split at hl
  · rename_i b o
    obtain ⟨i, hi, _, rfl⟩ := ha.pointer
    simp only at hi
    unfold ldAt at hl
    split at hl
    · rename_i c s own fz ty hb
      unfold partD at hl
      cases hg : aggN E t with
      | none => rw [hg] at hl; cases hl
      | some g =>
        rw [hg] at hl
        cases g with
        | none =>
          simp only at hl
          obtain ⟨h0, c', e, lo, hh, h1, h2, h3, h4, h5⟩ := R.obj b _ i hb hi
          obtain ⟨v', hv1, hv2⟩ := h4 o v hl
          refine ⟨v', ?_, hv2⟩
          simp only [Instr.loadAt, Instr.sureAddr, loadVar, Sem.run_bind, Sem.run_pure, Result.andThen_ok, run_isAgg_none hE hg, Bool.false_eq_true, if_false, run_load, cell_of h1]
          rw [show o + i.off = i.off + o by omega, hv1]
        | some n =>
          simp only at hl
          split at hl
          · rename_i hn
            cases hl
            obtain ⟨vs', k1, k2, k3, _⟩ := cells_sim (P := P) R hi hb hn
            refine ⟨.agg vs'.toArray, ?_, .agg k1⟩
            have ⟨g1, g2⟩ := run_isAgg_some hE (w := w) hg
            simp only [Instr.loadAt, Instr.sureAddr, loadVar, Sem.run_bind, Sem.run_pure, Result.andThen_ok, g1, g2, if_true, k3]
          · cases hl
    · cases hl
  · cases hl
omit R
theorem field_sim {t : TypeId} {x x' v : Value} {f : Nat} (hx : VRel m x x') (hf : fieldD E t x f = some v) : ∃ v', (Instr.field t x' f).run P w = .ok v' w ∧ VRel m v v' := by
  unfold fieldD at hf
  split at hf
  · rename_i fields cs hu
    obtain ⟨cs', rfl, hc⟩ := hx.aggv
    cases hg : fields[f]? with
    | none => rw [hg] at hf; cases hf
    | some g =>
      rw [hg] at hf
      obtain ⟨v', h1, h2⟩ := part_sim hE (w := w) hc hf
      exact ⟨v', by simp [Instr.field, run_underlying hE hu, hg, asAgg, h1], h2⟩
  · cases hf
theorem index_sim {t : TypeId} {x x' y y' v : Value} (hx : VRel m x x') (hy : VRel m y y') (hf : indexD E t x y = some v) : ∃ v', (Instr.index t x' y').run P w = .ok v' w ∧ VRel m v v' := by
  unfold indexD at hf
  split at hf
  · rename_i len elem cs k i hu
    obtain ⟨cs', rfl, hc⟩ := hx.aggv
    obtain rfl := hy.int
    split at hf
    · rename_i hb
      simp at hb
      cases hs : E.siz elem with
      | none => rw [hs] at hf; cases hf
      | some n =>
        rw [hs] at hf
        obtain ⟨v', h1, h2⟩ := part_sim hE (w := w) hc hf
        exact ⟨v', by simp [Instr.index, asIntOf, run_underlying hE hu, hb, run_siz hE hs, h1], h2⟩
    · cases hf
  · rename_i s k i hu
    obtain rfl := hx.string
    obtain rfl := hy.int
    split at hf
    · rename_i hb
      split at hf
      · rename_i c hc
        cases hf
        refine ⟨.int .u8 c.toNat, ?_, .plain rfl⟩
        have : s[i.toNat]? = some c := by
          rw [List.getElem?_eq_some_iff] at hc
          obtain ⟨h1, h2⟩ := hc
          have h1' : i.toNat < s.size := by simpa using h1
          rw [getElem?_pos s i.toNat h1']
          exact congrArg some h2
        simp [Instr.index, asIntOf, run_underlying hE hu, hb, this]
      · cases hf
    · cases hf
  · cases hf
omit hE in
theorem extract_sim {x x' v : Value} {i : Nat} (hx : VRel m x x') (hf : extractD x i = some v) : ∃ v', (Instr.extract x' i).run P w = .ok v' w ∧ VRel m v v' := by
  unfold extractD at hf
  split at hf
  · obtain ⟨cs', rfl, hc⟩ := hx.tuplev
    obtain ⟨v', h1, h2⟩ := hc.get hf
    simp at h1
    exact ⟨v', by simp [Instr.extract, h1], h2⟩
  · cases hf
theorem fieldAddr_sim {t : TypeId} {x x' v : Value} {f : Nat} (hx : VRel m x x') (hf : fieldAddrD E t x f = some v) : ∃ v', (Instr.fieldAt t x' f).run P w = .ok v' w ∧ VRel m v v' := by
  unfold fieldAddrD at hf
  split at hf
  · rename_i fields b o hu
    obtain ⟨i, hi, _, rfl⟩ := hx.pointer
    simp only at hi
    cases hg : fields[f]? with
    | none => rw [hg] at hf; cases hf
    | some g =>
      rw [hg] at hf
      simp only at hf
      cases hs : E.siz g.type with
      | none => rw [hs] at hf; cases hf
      | some n =>
        rw [hs] at hf
        simp only at hf
        split at hf
        · cases hf
        · rename_i hn
          cases hf
          refine ⟨.pointer (some ⟨i.blk, (o + g.offset) + i.off, none⟩), ?_, .ptr hi⟩
          simp [Instr.fieldAt, run_underlying hE hu, hg, Instr.sureAddr, fieldPlace, run_siz hE hs, hn, add_plain]
          omega
  · cases hf
theorem indexAddr_sim {t : TypeId} {x x' y y' v : Value} (hx : VRel m x x') (hy : VRel m y y') (hf : indexAddrD E t x y = some v) : ∃ v', (Instr.indexAt t x' y').run P w = .ok v' w ∧ VRel m v v' := by
  unfold indexAddrD at hf
  split at hf
  · rename_i len elem b o k i hu
    obtain ⟨im, hi, _, rfl⟩ := hx.pointer
    obtain rfl := hy.int
    simp only at hi
    split at hf
    · rename_i hb
      simp at hb
      cases hs : E.siz elem with
      | none => rw [hs] at hf; cases hf
      | some n =>
        rw [hs] at hf
        cases hf
        refine ⟨.pointer (some ⟨im.blk, (o + i.toNat * n) + im.off, none⟩), ?_, .ptr hi⟩
        simp [Instr.indexAt, asIntOf, run_underlying hE hu, Instr.sureAddr, run_siz hE hs, hb, add_plain]
        omega
    · cases hf
  · rename_i elem b o len cap k i hu
    obtain ⟨a', c', rfl, h1, h2, h3⟩ := hx.slicev
    obtain rfl := hy.int
    split at hf
    · rename_i hb
      simp at hb
      cases hs : E.siz elem with
      | none => rw [hs] at hf; cases hf
      | some n =>
        rw [hs] at hf
        cases hf
        rcases h3 with ⟨rfl, _⟩ | ⟨im, hi, _, rfl, _⟩
        · omega
        · simp only at hi
          refine ⟨.pointer (some ⟨im.blk, (o + i.toNat * n) + im.off, none⟩), ?_, .ptr hi⟩
          simp [Instr.indexAt, asIntOf, run_underlying hE hu, run_siz hE hs, hb, add_plain]
          omega
    · cases hf
  · cases hf
omit hE in
theorem nilCheck_sim {x x' v : Value} (hx : VRel m x x') (hf : nilCheckD x = some v) : v = x ∧ ∀ (ρ : Operand → Value) (o : Oper) (y : Operand), o.op = .nilCheck y → ρ y = x' → (execOp ρ o).run P w = .ok (.value x') w := by
  unfold nilCheckD at hf
  split at hf <;> first | cases hf | skip
  all_goals refine ⟨rfl, fun ρ o y ho hy => ?_⟩
  · obtain ⟨i, hi, _, rfl⟩ := hx.pointer
    simp [execOp, ho, hy]
  · obtain ⟨a', b', rfl, _, _⟩ := hx.funcv
    simp [execOp, ho, hy]
  · obtain ⟨u, rfl, _⟩ := hx.ifacev
    simp [execOp, ho, hy]
  · rename_i a n c
    cases a with
    | none => obtain ⟨rfl, _⟩ := hx.nils; simp [execOp, ho, hy]
    | some a => obtain ⟨a', c', rfl, _⟩ := hx.slicev; simp [execOp, ho, hy]
  · obtain ⟨i, hi, rfl⟩ := hx.mapv
    simp [execOp, ho, hy]
end
end Go.Dm
