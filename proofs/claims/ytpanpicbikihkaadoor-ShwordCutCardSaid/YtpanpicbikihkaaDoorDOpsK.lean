/- The machine D, 14: its operations are followed by the model's: maps that are written, a text's runes, new objects. -/
import Derived.Test.YtpanpicbikihkaaDoorDOpsJ
set_option linter.unusedVariables false
set_option linter.unusedSimpArgs false
namespace Go.Dm

theorem MRel.get {m : Inj} {l l' : List MapEntry} (h : MRel m l l') {i : Nat} {e : MapEntry} (he : l[i]? = some e) : ∃ e', l'[i]? = some e' ∧ ERel m e e' := by
  induction h generalizing i with
  | nil => simp at he
  | cons hx _ ih =>
    cases i with
    | zero => simp at he; subst he; exact ⟨_, rfl, hx⟩
    | succ i => exact ih (by simpa using he)
theorem MRel.length {m : Inj} {l l' : List MapEntry} (h : MRel m l l') : l'.length = l.length := by
  induction h with
  | nil => rfl
  | cons _ _ ih => simp [ih]
theorem MRel.set {m : Inj} {l l' : List MapEntry} (h : MRel m l l') (i : Nat) {e e' : MapEntry} (he : ERel m e e') : MRel m (l.set i e) (l'.set i e') := by
  induction h generalizing i with
  | nil => exact .nil
  | cons hx hk ih =>
    cases i with
    | zero => exact .cons he hk
    | succ i => exact .cons hx (ih i)
theorem MRel.snoc {m : Inj} {l l' : List MapEntry} (h : MRel m l l') {e e' : MapEntry} (he : ERel m e e') : MRel m (l ++ [e]) (l' ++ [e']) := by
  induction h with
  | nil => exact .cons he .nil
  | cons hx _ ih => exact .cons hx ih
theorem MRel.erase {m : Inj} {l l' : List MapEntry} (h : MRel m l l') (i : Nat) : MRel m (l.eraseIdx i) (l'.eraseIdx i) := by
  induction h generalizing i with
  | nil => exact .nil
  | cons hx hk ih =>
    cases i with
    | zero => exact hk
    | succ i => exact .cons hx (ih i)
theorem findD_at {E : Env} {t : TypeId} {k : Value} : ∀ {es : List MapEntry} {i j : Nat} {e : MapEntry}, findD E t k es i = some (some (j, e)) → i ≤ j ∧ es[j - i]? = some e := by
  intro es
  induction es with
  | nil => intro i j e h; simp [findD] at h
  | cons x es ih =>
    intro i j e h
    simp only [findD] at h
    split at h
    · cases h; simp
    · have := ih h
      refine ⟨by omega, ?_⟩
      rw [show j - i = (j - (i + 1)) + 1 by omega]
      exact this.2
    · cases h
/-- The model's block r gets another object. -/
def setObjW (w : World) (r : Nat) (o : Obj) : World := { w with heap := w.heap.setIfInBounds r o }
theorem setObjW_facts (w : World) (r : Nat) (o : Obj) : SetFacts w (setObjW w r o) r where
  os := rfl
  tape := rfl
  output := rfl
  size := by simp [setObjW]
  other k hk := by simp [setObjW, Array.getElem?_setIfInBounds, Ne.symm hk]
theorem setObjW_at {w : World} {r : Nat} {x : Obj} (h : w.heap[r]? = some x) (o : Obj) : (setObjW w r o).heap[r]? = some o := by
  have : r < w.heap.size := (Array.getElem?_eq_some_iff.1 h).1
  simp [setObjW, this]
theorem run_setObjW {P : Program} {w : World} {r : Nat} {x : Obj} (h : w.heap[r]? = some x) (hc : ∀ c e f, x ≠ .cells c e f) (o : Obj) : (setObj r o).run P w = .ok () (setObjW w r o) := by
  unfold setObj
  simp only [Sem.run, h]
  cases x with
  | cells c e f => exact absurd rfl (hc c e f)
  | _ => rfl

section
variable {P : Program} {E : Env} (hE : EnvOk P E) {w : World} {m : Inj} {ok : OkC} {G : Nat} {h : H}
include hE
theorem mapPut_sim (R : HRel ok G m h w) {t : TypeId} {x x' k k' v v' : Value} {h' : H} (hx : VRel m x x') (hk : VRel m k k') (hv : VRel m v v') (hd : mapPutD E t x k v h = some h') :
    ∃ w', (Instr.mapUpdate t x' k' v').run P w = .ok () w' ∧ Evo m h w m h' w' ∧ HRel ok G m h' w' := by
  unfold mapPutD at hd
  split at hd
  · rename_i kt et b hu
    obtain ⟨i, hi, rfl⟩ := hx.mapv
    split at hd
    · rename_i es clock hb
      obtain ⟨es', k1, k2⟩ := R.obj b _ i hb hi
      have hg : (getObj i.blk).run P w = .ok (.map es' clock) w := by simp [getObj, Sem.run, k1]
      split at hd
      · rename_i hc
        simp only [Bool.and_eq_true] at hc
        obtain rfl := hk.eqV hc.2
        have hchk := chk_run hE (w := w) false 10000 hc.1
        obtain ⟨d, hd0⟩ := chk_und (d := 9999) hc.1
        have hset := fun o => run_setObjW (P := P) k1 (by intro c e f q; cases q) o
        split at hd
        · rename_i j e hf
          split at hd
          · rename_i hsb
            cases hd
            obtain ⟨r', h1, h2⟩ := find_sim hE (w := w) hc.2 k2 hd0 hf
            obtain ⟨_, hat⟩ := findD_at hf
            cases r' with
            | none => exact h2.elim
            | some r' =>
              obtain ⟨j', u⟩ := r'
              obtain ⟨rfl, _⟩ := h2
              obtain ⟨e', he1, he2⟩ := k2.get hat
              simp at he1
              have hkey : (Instr.keyThatStays (((es'[j']?).map (·.key)).getD k') k').run P w = .ok k' w := by
                simp only [he1, Option.map_some, Option.getD_some, he2.key, Instr.keyThatStays, hsb, if_true, Sem.run_pure]
              refine ⟨setObjW w i.blk (.map (es'.modify j' fun e => { e with key := k', val := v' }) clock), ?_, Evo.upd hb rfl hi rfl rfl rfl (setObjW_facts ..).size (setObjW_facts ..).other, ?_⟩
              · simp only [Instr.mapUpdate, Sem.run_bind, run_underlying hE hu, Result.andThen_ok, hg, hchk, h1, hkey, hset]
              · refine R.upd hb rfl hi (setObjW_facts ..).size (setObjW_facts ..).other ⟨_, setObjW_at k1 _, ?_⟩
                have hm : (es'.modify j' fun e => { e with key := k', val := v' }).toList = es'.toList.set j' { e' with key := k', val := v' } := by
                  rw [Array.toList_modify]
                  apply List.ext_getElem?
                  intro q
                  rw [List.getElem?_modify, List.getElem?_set]
                  by_cases hq : j' = q
                  · subst hq
                    have : j' < es'.size := (Array.getElem?_eq_some_iff.1 he1).1
                    have h3 : es'.toList[j']? = some e' := by simpa using he1
                    have h4 : es'[j'] = e' := by rw [Array.getElem?_eq_getElem this] at he1; cases he1; rfl
                    simp [h3, this, h4]
                  · simp [hq]
                rw [hm]
                exact k2.set _ ⟨rfl, hc.2, hv, he2.born⟩
          · cases hd
        · rename_i hf
          cases hd
          obtain ⟨r', h1, h2⟩ := find_sim hE (w := w) hc.2 k2 hd0 hf
          cases r' with
          | some r' => exact h2.elim
          | none =>
            refine ⟨setObjW w i.blk (.map (es'.push { key := k', val := v', born := clock }) (clock + 1)), ?_, Evo.upd hb rfl hi rfl rfl rfl (setObjW_facts ..).size (setObjW_facts ..).other, ?_⟩
            · simp only [Instr.mapUpdate, Sem.run_bind, run_underlying hE hu, Result.andThen_ok, hg, hchk, h1, hset]
            · refine R.upd hb rfl hi (setObjW_facts ..).size (setObjW_facts ..).other ⟨_, setObjW_at k1 _, ?_⟩
              rw [Array.toList_push]
              exact k2.snoc ⟨rfl, hc.2, hv, rfl⟩
        · cases hd
      · cases hd
    · cases hd
  · cases hd
theorem mapDel_sim (R : HRel ok G m h w) {t : TypeId} {ts : Array TypeId} {rt : TypeId} {rest : List TypeId} (hts : ts.toList = t :: rest) {x x' k k' : Value} {h' : H} (hx : VRel m x x') (hk : VRel m k k') (hd : mapDelD E t x k h = some h') :
    ∃ w', (Builtin.delete_ ts rt #[x', k']).run P w = .ok (.tuple #[]) w' ∧ Evo m h w m h' w' ∧ HRel ok G m h' w' := by
  have ht0 : ts[0]? = some t := by rw [← Array.getElem?_toList, hts]; rfl
  unfold mapDelD at hd
  split at hd
  · rename_i kt et b hu
    obtain ⟨i, hi, rfl⟩ := hx.mapv
    split at hd
    · rename_i es clock hb
      obtain ⟨es', k1, k2⟩ := R.obj b _ i hb hi
      have hg : (getObj i.blk).run P w = .ok (.map es' clock) w := by simp [getObj, Sem.run, k1]
      split at hd
      · rename_i hc
        simp only [Bool.and_eq_true] at hc
        obtain rfl := hk.eqV hc.2
        have hchk := fun e => chk_run hE (w := w) e 10000 hc.1
        obtain ⟨d, hd0⟩ := chk_und (d := 9999) hc.1
        have hset := fun o => run_setObjW (P := P) k1 (by intro c e f q; cases q) o
        split at hd
        · rename_i j e hf
          cases hd
          obtain ⟨r', h1, h2⟩ := find_sim hE (w := w) hc.2 k2 hd0 hf
          obtain ⟨_, hat⟩ := findD_at hf
          cases r' with
          | none => exact h2.elim
          | some r' =>
            obtain ⟨j', u⟩ := r'
            obtain ⟨rfl, _⟩ := h2
            refine ⟨setObjW w i.blk (.map (es'.eraseIdxIfInBounds j') clock), ?_, Evo.upd hb rfl hi rfl rfl rfl (setObjW_facts ..).size (setObjW_facts ..).other, ?_⟩
            · simp only [Builtin.delete_, ht0, List.getElem?_toArray, List.getElem?_cons_zero, List.getElem?_cons_succ, Sem.run_bind, run_underlying hE hu, Result.andThen_ok, hg, hchk, h1, hset, Sem.run_pure]
            · refine R.upd hb rfl hi (setObjW_facts ..).size (setObjW_facts ..).other ⟨_, setObjW_at k1 _, ?_⟩
              have hm : (es'.eraseIdxIfInBounds j').toList = es'.toList.eraseIdx j' := by
                unfold Array.eraseIdxIfInBounds
                split
                · simp
                · rename_i hn
                  rw [List.eraseIdx_of_length_le (by simpa using hn)]
              rw [hm]
              exact k2.erase _
        · rename_i hf
          cases hd
          obtain ⟨r', h1, h2⟩ := find_sim hE (w := w) hc.2 k2 hd0 hf
          cases r' with
          | some r' => exact h2.elim
          | none =>
            have hw : setObjW w i.blk (.map es' clock) = w := by
              unfold setObjW
              have : w.heap.setIfInBounds i.blk (.map es' clock) = w.heap := by
                apply Array.ext
                · simp
                · intro j h1 h2
                  rw [Array.getElem_setIfInBounds h2]
                  split
                  · rename_i e
                    subst e
                    rw [Array.getElem?_eq_getElem h2] at k1
                    exact (Option.some.inj k1).symm
                  · rfl
              rw [this]
            refine ⟨w, ?_, Evo.refl _ _ _, R⟩
            simp only [Builtin.delete_, ht0, List.getElem?_toArray, List.getElem?_cons_zero, List.getElem?_cons_succ, Sem.run_bind, run_underlying hE hu, Result.andThen_ok, hg, hchk, h1, hset, hw, Sem.run_pure]
        · cases hd
      · cases hd
    · cases hd
  · cases hd
omit hE in
/-- A new object that is no row of cells. -/
theorem newObj_sim (R : HRel ok G m h w) {o : DObj} {ob : Obj} (ho : ∀ w' : World, w'.heap[w.heap.size]? = some ob → ORel ok (m.add h.addr ⟨w.heap.size, 0, 0, 0⟩) w' ⟨w.heap.size, 0, 0, 0⟩ o) :
    Evo m h w (m.add h.addr ⟨w.heap.size, 0, 0, 0⟩) (h.new o) (w.alloc ob) ∧ HRel ok G (m.add h.addr ⟨w.heap.size, 0, 0, 0⟩) (h.new o) (w.alloc ob) := by
  have hs : (w.alloc ob).heap.size = w.heap.size + 1 := World.size_alloc ..
  have hw : ∀ r, r < w.heap.size → (w.alloc ob).heap[r]? = w.heap[r]? := by
    intro r hr
    show (w.heap.push _)[r]? = _
    rw [Array.getElem?_push, if_neg (Nat.ne_of_lt hr)]
  refine ⟨Evo.alloc R rfl rfl rfl rfl hs hw, R.alloc rfl hs hw (ho _ ?_)⟩
  show (w.heap.push _)[w.heap.size]? = _
  simp
theorem method_sim {t : TypeId} {v v' rv : Value} {name : String} {f : FuncId} (hv : VRel m v v') (h : methodD E t v name = some (f, rv)) (n : Nat) :
    rv = v ∧ (method (n + 1) t v' name).run P w = .ok (f, v') w := by
  unfold methodD at h
  split at h
  · rename_i i hi
    split at h
    · rename_i mm hm
      split at h
      · rename_i hp
        have hm' : i.methods.find? (·.name == name) = some mm := by rw [← Array.find?_toList]; exact hm
        have hpath : mm.path.toList = [] := by
          have : mm.path = #[] := Array.eq_empty_of_size_eq_zero hp
          rw [this]
        split at h
        · rename_i g e hf hu
          cases h
          refine ⟨rfl, ?_⟩
          simp only [method, Sem.run_bind, run_typeInfo hE hi, Result.andThen_ok, hm', hpath, follow, Sem.run_pure, hf, receiverAt, run_underlying hE hu, Place.get]
        · cases h
        · rename_i g d hnp hf hu
          cases h
          refine ⟨rfl, ?_⟩
          simp only [method, Sem.run_bind, run_typeInfo hE hi, Result.andThen_ok, hm', hpath, follow, Sem.run_pure, hf, receiverAt, run_underlying hE hu, Place.get]
        · cases h
      · cases h
    · cases h
  · cases h
end
end Go.Dm
