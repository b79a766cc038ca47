/- The machine D, 6: its operations are followed by the model's: stores and new memory. -/
import Derived.Test.YtpanpicbikihkaaDoorDOpsB
set_option linter.unusedVariables false
set_option linter.unusedSimpArgs false
namespace Go.Dm

def setCells (w : World) (b : Nat) : Nat → List Value → World
  | _, [] => w
  | o, v :: vs => setCells (w.setCell ⟨b, o, none⟩ v) b (o + 1) vs
theorem setCell_block {w : World} {b : Nat} {c : Array Value} {e : TypeId} {f : Nat × Nat} (h : w.heap[b]? = some (.cells c e f)) (o : Nat) (v : Value) :
    (w.setCell ⟨b, o, none⟩ v).heap[b]? = some (.cells (c.setIfInBounds o v) e f) := by
  simp [World.setCell, Array.getElem?_modify, h]
theorem setCell_other {w : World} {b r : Nat} (h : r ≠ b) (o : Nat) (v : Value) : (w.setCell ⟨b, o, none⟩ v).heap[r]? = w.heap[r]? := by
  simp [World.setCell, Array.getElem?_modify, Ne.symm h]
structure SetFacts (w w' : World) (b : Nat) : Prop where
  os : w'.os = w.os
  tape : w'.tape = w.tape
  output : w'.output = w.output
  size : w'.heap.size = w.heap.size
  other : ∀ r, r ≠ b → w'.heap[r]? = w.heap[r]?
theorem setCells_facts (b : Nat) : ∀ (vs : List Value) (w : World) (o : Nat), SetFacts w (setCells w b o vs) b := by
  intro vs
  induction vs with
  | nil => intro w o; exact ⟨rfl, rfl, rfl, rfl, fun _ _ => rfl⟩
  | cons v vs ih =>
    intro w o
    have h := ih (w.setCell ⟨b, o, none⟩ v) (o + 1)
    exact ⟨h.os, h.tape, h.output, h.size.trans (World.size_setCell ..), fun r hr => (h.other r hr).trans (setCell_other hr o v)⟩
theorem setCells_block (b : Nat) : ∀ (vs : List Value) (w : World) (o : Nat) (c : Array Value) (e : TypeId) (f : Nat × Nat), w.heap[b]? = some (.cells c e f) →
    (setCells w b o vs).heap[b]? = some (.cells (Array.mk (setAt c.toList o vs)) e f) := by
  intro vs
  induction vs with
  | nil => intro w o c e f h; exact h
  | cons v vs ih =>
    intro w o c e f h
    have := ih _ (o + 1) _ e f (setCell_block h o v)
    rw [setCells, this, setAt]
    simp
theorem run_storeCells {P : Program} (b o : Nat) : ∀ (vs : List Value) (w : World) (i : Nat) (c : Array Value) (e : TypeId) (lo hi : Nat), w.heap[b]? = some (.cells c e (lo, hi)) →
    o + i + vs.length ≤ c.size → (∀ v ∈ vs, v.oneCell' = true) → (∀ j, o + i ≤ j → j < o + i + vs.length → ¬ (lo ≤ j ∧ j < hi)) →
    (storeCells ⟨b, o, none⟩ vs i).run P w = .ok () (setCells w b (o + i) vs) := by
  intro vs
  induction vs with
  | nil => intro w i c e lo hi _ _ _ _; rfl
  | cons v vs ih =>
    intro w i c e lo hi h hl hv hf
    simp only [List.length_cons] at hl hf
    have hc : w.cell? ⟨b, o + i, none⟩ = some c[o + i] := by rw [cell_of h]; simp
    have hz : w.frozen? ⟨b, o + i, none⟩ = false := by
      have := hf (o + i) (Nat.le_refl _) (by omega)
      simp only [World.frozen?, h]
      simpa using fun a => Nat.le_of_not_lt fun b => this ⟨a, b⟩
    simp only [storeCells, add_plain, Sem.run_bind]
    rw [run_store P w _ v _ (hv v (by simp))]
    simp only [hc, hz, Bool.false_eq_true, if_false, Result.andThen_ok]
    rw [ih _ (i + 1) _ e lo hi (setCell_block h (o + i) v) (by simp; omega) (fun u hu => hv u (by simp [hu])) (fun j h1 h2 => hf j (by omega) (by omega))]
    rfl

section
variable {P : Program} {E : Env} (hE : EnvOk P E) {w : World} {m : Inj} {ok : OkC} {G : Nat} {h : H} (R : HRel ok G m h w)

/-- What is known of an operation behind which memory may be another. -/
def Step (ok : OkC) (G : Nat) (m : Inj) (h : H) (w : World) (v : Value) (h' : H) (v' : Value) (w' : World) : Prop :=
  ∃ m', Evo m h w m' h' w' ∧ HRel ok G m' h' w' ∧ VRel m' v v'
include R in
theorem Step.same {v v' : Value} (hv : VRel m v v') : Step ok G m h w v h v' w := ⟨m, Evo.refl m h w, R, hv⟩
include R in
theorem stCells_sim {b o : Nat} {vs vs' : List Value} {h' : H} {i : Img} (hi : m b = some i) (hv : LRel m vs vs') (hs : stCells b o vs h = some h') :
    ∃ w', (storeCells ⟨i.blk, o + i.off, none⟩ vs' 0).run P w = .ok () w' ∧ Evo m h w m h' w' ∧ HRel ok G m h' w' := by
  unfold stCells at hs
  split at hs
  · rename_i c s fz ty hb
    split at hs
    · rename_i hc
      simp at hc
      obtain ⟨⟨hc1, hc2⟩, hc3⟩ := hc
      cases hs
      obtain ⟨h0, c', e, lo, hi', h1, h2, h3, h4, h5, h6⟩ := R.obj b _ i hb hi
      have hlen := hv.length
      have hF := setCells_facts i.blk vs' w (o + i.off + 0)
      have hB := setCells_block i.blk vs' w (o + i.off + 0) c' e (lo, hi') h1
      have hone : ∀ v ∈ vs', v.oneCell' = true := by
        intro v' hv'
        obtain ⟨j, hj, e⟩ := List.getElem_of_mem hv'
        have hj' : j < vs.length := by omega
        obtain ⟨u, hu1, hu2⟩ := hv.get (List.getElem?_eq_getElem hj')
        rw [List.getElem?_eq_getElem hj, e] at hu1
        cases hu1
        exact hu2.cellV (hc3 _ (List.getElem_mem hj'))
      refine ⟨setCells w i.blk (o + i.off + 0) vs', run_storeCells i.blk (o + i.off) vs' w 0 c' e lo hi' h1 (by omega) hone ?_, ?_, ?_⟩
      · intro j j1 j2
        have := h5 rfl
        omega
      · exact Evo.upd hb rfl hi hF.os hF.tape hF.output hF.size hF.other
      · refine R.upd hb rfl hi hF.size hF.other ⟨h0, _, e, lo, hi', hB, ?_, ?_, ?_, ?_, h6⟩
        · simp [setAt_length]; exact h2
        · simp [setAt_length]; exact h3
        · intro j v hj
          rw [setAt_get] at hj
          simp only [List.getElem?_toArray, setAt_get, Array.length_toList]
          by_cases q : o ≤ j ∧ j < o + vs.length ∧ j < c.length
          · rw [if_pos q] at hj
            rw [if_pos (by omega), show i.off + j - (o + i.off + 0) = j - o by omega]
            exact hv.get hj
          · rw [if_neg q] at hj
            obtain ⟨v', k1, k2⟩ := h4 j v hj
            have hjl : j < c.length := (List.getElem?_eq_some_iff.1 hj).1
            rw [if_neg (by omega)]
            exact ⟨v', by simpa using k1, k2⟩
        · exact h5
    · cases hs
  · cases hs
include hE R in
theorem st_sim {t : TypeId} {a a' v v' : Value} {h' : H} (ha : VRel m a a') (hv : VRel m v v') (hs : st E t a v h = some h') :
    ∃ w', (Instr.storeAt t a' v').run P w = .ok () w' ∧ Evo m h w m h' w' ∧ HRel ok G m h' w' := by
  unfold st at hs
  split at hs
  · rename_i b o
    obtain ⟨i, hi, _, rfl⟩ := ha.pointer
    simp only at hi
    unfold stAt at hs
    split at hs
    · rename_i n hn
      split at hs
      · rename_i hsz
        obtain ⟨w', h1, h2, h3⟩ := stCells_sim (P := P) R hi hv.cells hs
        refine ⟨w', ?_, h2, h3⟩
        have hsz' : v'.cells.size = n := by rw [hv.cells_size, hsz]
        simp only [Instr.storeAt, Instr.sureAddr, storeVar, Sem.run_bind, Sem.run_pure, Result.andThen_ok, run_siz hE hn, hsz', ne_eq, not_true_eq_false, if_false]
        exact h1
      · cases hs
    · cases hs
  · cases hs

include R in
/-- A new row of cells. -/
theorem new_simW {cs cs' : List Value} (hc : LRel m cs cs') (stride : Nat) {cs2 : Array Value} {n2 : Nat} (hn : cs2.size = n2) (hp : ∀ j : Nat, j < cs.length → cs2[j]? = cs'[j]?) (hle : cs.length ≤ n2) {e : TypeId} {lo hi : Nat} (fz : Nat) {ty : Option TypeId} (hty : ∀ t, ty = some t → e = t ∧ lo = hi)
    {w' : World} (hW : w'.heap = w.heap.push (.cells cs2 e (lo, hi))) (k1 : w'.os = w.os) (k2 : w'.tape = w.tape) (k3 : w'.output = w.output) (hfz : hi ≤ fz ∨ hi ≤ lo ∨ n2 ≤ lo) :
    Evo m h w (m.add h.addr ⟨w.heap.size, 0, stride, n2⟩) (h.new (.cells cs stride true fz ty)) w' ∧
    HRel ok G (m.add h.addr ⟨w.heap.size, 0, stride, n2⟩) (h.new (.cells cs stride true fz ty)) w' := by
  have hs : w'.heap.size = w.heap.size + 1 := by rw [hW]; simp
  have hw : ∀ r, r < w.heap.size → w'.heap[r]? = w.heap[r]? := by
    intro r hr
    rw [hW, Array.getElem?_push, if_neg (Nat.ne_of_lt hr)]
  refine ⟨Evo.alloc R rfl k1 k2 k3 hs hw, R.alloc rfl hs hw ⟨rfl, cs2, e, lo, hi, ?_, hn, ?_, ?_, ?_, fun t ht => ⟨(hty t ht).1, rfl, .inl (hty t ht).2⟩⟩⟩
  · rw [hW]; simp
  · simp; omega
  · intro j v hj
    have hjl : j < cs.length := (List.getElem?_eq_some_iff.1 hj).1
    obtain ⟨v', h1, h2⟩ := hc.get hj
    exact ⟨v', by simp only [Nat.zero_add]; rw [hp j hjl, h1], h2.mono (Inj.ext_add _ R.fresh)⟩
  · intro _; simp only [Nat.zero_add]; exact hfz
include R in
theorem new_sim {cs cs' : List Value} (hc : LRel m cs cs') (stride : Nat) {cs2 : Array Value} {n2 : Nat} (hn : cs2.size = n2) (hp : ∀ j : Nat, j < cs.length → cs2[j]? = cs'[j]?) (hle : cs.length ≤ n2) (e : TypeId) (fz : Nat) {ty : Option TypeId} (hty : ∀ t, ty = some t → e = t) :
    Evo m h w (m.add h.addr ⟨w.heap.size, 0, stride, n2⟩) (h.new (.cells cs stride true fz ty)) (w.alloc (.cells cs2 e)) ∧
    HRel ok G (m.add h.addr ⟨w.heap.size, 0, stride, n2⟩) (h.new (.cells cs stride true fz ty)) (w.alloc (.cells cs2 e)) :=
  new_simW R hc stride hn hp hle fz (fun t ht => ⟨hty t ht, rfl⟩) rfl rfl rfl rfl (.inr (.inl (Nat.le_refl _)))
include R in
theorem newD_sim {cs cs' : List Value} (hc : LRel m cs cs') (stride : Nat) {ty : Option TypeId} (e : TypeId) (hty : ∀ t, ty = some t → e = t) :
    ∃ w', (newRow e cs'.toArray).run P w = .ok ⟨w.heap.size, 0, none⟩ w' ∧ Step ok G m h w (newD stride ty cs h).1 (newD stride ty cs h).2 (.pointer (some ⟨w.heap.size, 0, none⟩)) w' := by
  obtain ⟨h1, h2⟩ := new_sim R hc stride (cs2 := cs'.toArray) (n2 := cs.length) (by simpa using hc.length) (fun j _ => by simp) (Nat.le_refl _) e 0 hty
  refine ⟨_, by simp [newRow], _, h1, h2, ?_⟩
  exact .ptr (Inj.add_self _ _ _)
end
end Go.Dm
