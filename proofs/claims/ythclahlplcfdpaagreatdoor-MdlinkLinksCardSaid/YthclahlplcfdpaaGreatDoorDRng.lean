/- The machine D, 34: a range over a map: whichever entry comes next. -/
import Derived.Test.YthclahlplcfdpaaGreatDoorDNon
import Derived.Maps.RangeRun
set_option linter.unusedVariables false
set_option linter.unusedSimpArgs false
namespace Go.Dm
open Go.ChangeMaps (setBlock)
section
variable {P : Program} {E : Env} (hE : EnvOk P E) {ok : OkC} {G N : Nat} {ck : CK} (C : CallSim P ok G ck) {ro : Option Nat} {Q : Exit → Act → World → Prop} {ops : Array Oper}
include hE C in
/-- As ops_sim, with more behind it. -/
theorem ops_tail (rest : List Nat) : ∀ (l : List Oper) (k : Nat), (∀ j o, l[j]? = some o → ops[k + j]? = some o) → l.all (okO G N) = true → ∀ {fr : T Value} {h : H} {fr' : T Value} {h' : H}, regD E ck ops l fr h = some (fr', h') →
    ∀ {m : Inj} {a : Act} {w : World}, HRel ok G m h w → FRel m fr a.tmps → a.tmps.size = N →
    (∀ m' a' w', Evo m h w m' h'.clr w' → HRel ok G m' h'.clr w' → FRel m' fr' a'.tmps → a'.tmps.size = N → a'.defers = a.defers → wpOpsIn (FW ro) 0 P ops Q rest a' w') →
    wpOpsIn (FW ro) 0 P ops Q (List.range' k l.length ++ rest) a w := by
  intro l
  induction l with
  | nil =>
    intro k _ _ fr h fr' h' hr m a w R hf hN hq
    simp only [regD, Option.some.injEq, Prod.mk.injEq] at hr
    obtain ⟨rfl, rfl⟩ := hr
    exact hq m a w ((Evo.refl m h w).view (fun _ _ _ => rfl) (fun _ _ _ => rfl)) R.clr hf hN rfl
  | cons o l ih =>
    intro k hk hok fr h fr' h' hr m a w R hf hN hq
    simp only [List.all_cons, Bool.and_eq_true] at hok
    have ho : ops[k]? = some o := by simpa using hk 0 o rfl
    have hk' : ∀ j o, l[j]? = some o → ops[k + 1 + j]? = some o := fun j o hj => by
      have := hk (j + 1) o (by simpa using hj)
      rwa [Nat.add_assoc, Nat.add_comm 1 j]
    have hdst : ∀ u, o.dst = some u → u < a.tmps.size := fun u hu => by
      have := hok.1
      simp only [okO, Bool.and_eq_true, hu, okD, decide_eq_true_eq] at this
      rw [hN]; exact this.1.2
    rw [List.length_cons, List.range'_succ, List.cons_append, wpOpsIn_cons]
    simp only [wpOpIn, ho]
    simp only [regD] at hr
    split at hr
    · rename_i hw
      rw [wanted_sim (fun t v _ ht => hf t v ht) hw]
      simp only [if_true]
      split at hr
      · rename_i v h1 hd
        refine op_wp hE C R.clr hf hok.1 hd ?_
        intro m' v' w' e R' hv
        refine ih (k + 1) hk' hok.2 hr R' ?_ (by rw [put_size]; exact hN) ?_
        · intro t u hu
          rw [putD_get] at hu
          rw [put_tmps _ _ _ _ hdst]
          by_cases hdt : o.dst = some t
          · rw [if_pos hdt] at hu ⊢; cases hu; exact ⟨_, rfl, hv⟩
          · rw [if_neg hdt] at hu ⊢; exact hf.mono e.ext t u hu
        · intro m'' a'' w'' e' R'' hf' hN' hd'
          exact hq m'' a'' w'' ((Evo.view (h2 := h) e (fun _ _ _ => rfl) (fun _ _ _ => rfl)).trans e') R'' hf' hN' (hd'.trans (put_defers ..))
      · cases hr
    · rename_i hw
      rw [wanted_sim (fun t v _ ht => hf t v ht) hw]
      simp only [Bool.false_eq_true, if_false]
      refine ⟨fun _ _ => trivial, ih (k + 1) hk' hok.2 hr R ?_ (by rw [put_size]; exact hN) ?_⟩
      · intro t u hu
        rw [putD_get] at hu
        rw [put_tmps _ _ _ _ hdst]
        by_cases hdt : o.dst = some t
        · rw [if_pos hdt] at hu ⊢; cases hu; exact ⟨_, rfl, VRel.undef m⟩
        · rw [if_neg hdt] at hu ⊢; exact hf t u hu
      · intro m'' a'' w'' e' R'' hf' hN' hd'
        exact hq m'' a'' w'' e' R'' hf' hN' (hd'.trans (put_defers ..))
    · cases hr
end
section
variable {P : Program} {ok : OkC} {G N bs : Nat} {m0 m : Inj} {h0 h : H} {w0 w : World} {fr : T Value} {a : Act} {rs : List Nat}
/-- No block of D's is an iterator. -/
theorem HRel.noIter (R : HRel ok G m h w) {r : Nat} {mm : Option Nat} {s c : Nat} {seen : Array Nat} (hr : w.heap[r]? = some (.mapIter mm s seen c)) {b : Nat} {o : DObj} {i : Img} (hb : h.get b = some o) (hi : m b = some i) : i.blk ≠ r := by
  rintro rfl
  have h1 := R.obj b o i hb hi
  cases o with
  | cells c s own fz ty => obtain ⟨_, c', e, lo, hi', h3, _⟩ := h1; rw [hr] at h3; cases h3
  | map es cl => obtain ⟨es', h3, _⟩ := h1; rw [hr] at h3; cases h3
  | siter s p => have h3 := h1.2; rw [hr] at h3; cases h3
  | loop l => obtain ⟨l', h3, _⟩ := h1; rw [hr] at h3; cases h3
/-- The iterator's block alone is written. -/
theorem Xs.touch (x : Xs ok G m0 h0 w0 bs N m h w fr a rs) {r : Nat} {mm : Option Nat} {s c : Nat} {seen : Array Nat} (hr0 : w0.heap.size ≤ r) (hr : w.heap[r]? = some (.mapIter mm s seen c)) {w' : World}
    (hos : w'.os = w.os) (htp : w'.tape = w.tape) (hou : w'.output = w.output) (hsz : w'.heap.size = w.heap.size) (hot : ∀ q, q ≠ r → w'.heap[q]? = w.heap[q]?) : Xs ok G m0 h0 w0 bs N m h w' fr a rs where
  evo := { ext := x.evo.ext, os := hos.trans x.evo.os, tape := htp.trans x.evo.tape, output := hou.trans x.evo.output, size := by rw [hsz]; exact x.evo.size
           keep := fun q hq hn => (hot q (by omega)).trans (x.evo.keep q hq hn)
           new := x.evo.new, own := x.evo.own }
  rel := { obj := fun b o i hb hi => (x.rel.obj b o i hb hi).congr (Ext.refl m) (hot _ (x.rel.noIter hr hb hi))
           inj := x.rel.inj
           dom := fun b i hi => ⟨(x.rel.dom b i hi).1, by rw [hsz]; exact (x.rel.dom b i hi).2⟩
           one := x.rel.one, wf := x.rel.wf, glob := x.rel.glob }
  frel := x.frel
  size := x.size
  defers := x.defers
  base := x.base
  marks := ⟨x.marks.nodup, fun q hq => ⟨(x.marks.at_ q hq).1, by
    have h2 := (x.marks.at_ q hq).2
    rw [hot q (fun e => by subst e; rw [hr] at h2; cases h2)]
    exact h2⟩⟩
/-- A range over D's map mb is under way: these entries are behind; its iterator is what D's pointer ib tells. -/
def It (m : Inj) (w : World) (base ib mb clock : Nat) (vis : List MapEntry) : Prop :=
  ∃ (j i : Img), m ib = some j ∧ j.off = 0 ∧ m mb = some i ∧ w.heap[j.blk]? = some (.mapIter (some i.blk) clock (vis.map (·.born)).toArray clock) ∧ base ≤ j.blk
theorem It.evo {m' : Inj} {h' : H} {w' : World} {base ib mb clock : Nat} {vis : List MapEntry} (it : It m w base ib mb clock vis) (R : HRel ok G m h w) (e : Evo m h w m' h' w') : It m' w' base ib mb clock vis := by
  obtain ⟨j, i, h1, h2, h3, h4, h6⟩ := it
  refine ⟨j, i, e.ext _ _ h1, h2, e.ext _ _ h3, ?_, h6⟩
  rw [e.keep j.blk (R.dom _ _ h1).2 ?_]
  · exact h4
  · rintro ⟨b, o, k, hb, _, hk, ek⟩
    exact R.noIter h4 hb hk ek
theorem MRel.left {m : Inj} {es es' : List MapEntry} (h : MRel m es es') : ∀ e' ∈ es', ∃ e ∈ es, ERel m e e' := by
  induction h with
  | nil => intro e' he; cases he
  | cons h _ ih =>
    intro e' he
    rcases List.mem_cons.1 he with rfl | he
    · exact ⟨_, List.mem_cons_self .., h⟩
    · obtain ⟨e, h1, h2⟩ := ih e' he
      exact ⟨e, List.mem_cons_of_mem _ h1, h2⟩
theorem MRel.right {m : Inj} {es es' : List MapEntry} (h : MRel m es es') : ∀ e ∈ es, ∃ e' ∈ es', ERel m e e' := by
  induction h with
  | nil => intro e' he; cases he
  | cons h _ ih =>
    intro e' he
    rcases List.mem_cons.1 he with rfl | he
    · exact ⟨_, List.mem_cons_self .., h⟩
    · obtain ⟨e, h1, h2⟩ := ih e' he
      exact ⟨e, List.mem_cons_of_mem _ h1, h2⟩
theorem MRel.borns {m : Inj} {es es' : List MapEntry} (h : MRel m es es') : es'.map (·.born) = es.map (·.born) := by
  induction h with
  | nil => rfl
  | cons h _ ih => simp [h.born, ih]
/-- The step: all is behind, or some entry that is not comes out. -/
theorem next_step (x : Xs ok G m0 h0 w0 bs N m h w fr a rs) {ib mb clock : Nat} {vis es : List MapEntry} (it : It m w w0.heap.size ib mb clock vis) (hmb : h.get mb = some (.map es clock)) (hes : ∀ e ∈ es, e.born < clock) {t : Tmp}
    (hfr : fr.get t = some (.pointer (some ⟨ib, 0, none⟩))) {o : Oper} (hop : o.op = .next (.tmp t) false) {ro : Option Nat} {next : Act → World → Prop} {Q : Exit → Act → World → Prop}
    (hdone : (∀ e ∈ es, e.born ∈ vis.map (·.born)) → next (a.put o.dst (.tuple #[.bool false])) w)
    (hmore : ∀ e ∈ es, e.born ∉ vis.map (·.born) → ∀ v' w', VRel m (.tuple #[.bool true, e.key, e.val]) v' → Xs ok G m0 h0 w0 bs N m h w' fr a rs → It m w' w0.heap.size ib mb clock (vis ++ [e]) → next (a.put o.dst v') w') :
    o.wpIn (FW ro) 0 P a w next Q := by
  obtain ⟨j, i, h1, h2, h3, h4, h6⟩ := it
  have hit : a.eval (.tmp t) = .pointer (some ⟨j.blk, 0, none⟩) := by
    obtain ⟨v', e1, e2⟩ := x.frel t _ hfr
    obtain ⟨j', g1, _, g3⟩ := e2.pointer
    rw [h1] at g1
    cases g1
    simp only [Act.eval, Array.getD_eq_getD_getElem?, e1, Option.getD_some, g3, h2]
  obtain ⟨es', hb, hM⟩ := x.rel.obj mb _ i hmb h3
  have hold : ∀ y ∈ es'.toList, y.born < clock := fun y hy => by
    obtain ⟨e, he, r⟩ := hM.left y hy
    rw [r.born]; exact hes e he
  refine ⟨fun _ _ => trivial, ?_⟩
  rw [show (FW ro).round = ro from rfl, Oper.semAt_eq _ _ _ (by rw [hop]; intro c hc'; cases hc')]
  rcases run_next_at (P := P) w o.type j.blk i.blk clock clock _ es' clock h4 hb hold (Nat.le_refl _) with ⟨hz, hrun⟩ | ⟨e', he', w1, hw1, hrun⟩
  · simp [execOp, hop, hit, hrun, Result.andThen]
    refine hdone fun e he => ?_
    obtain ⟨e', he', r⟩ := hM.right e he
    apply Classical.byContradiction
    intro hn
    have : e' ∈ (leftOf es' (vis.map (·.born)).toArray).toList := by
      unfold leftOf
      simp only [Array.toList_filter, List.mem_filter]
      exact ⟨he', by simpa [r.born] using hn⟩
    rw [Array.eq_empty_of_size_eq_zero hz] at this
    simp at this
  · simp [execOp, hop, hit, hrun, Result.andThen]
    unfold leftOf at he'
    simp only [Array.toList_filter, List.mem_filter] at he'
    obtain ⟨hem, hnot⟩ := he'
    obtain ⟨e, he, r⟩ := hM.left e' hem
    have hsz : j.blk < w.heap.size := (x.rel.dom _ _ h1).2
    have hw1h : w1.heap = w.heap ∧ w1.os = w.os ∧ w1.tape = w.tape ∧ w1.output = w.output := by
      rcases hw1 with rfl | rfl <;> exact ⟨rfl, rfl, rfl, rfl⟩
    obtain ⟨g1, g2, g3, g4⟩ := hw1h
    refine hmore e he (by simpa [r.born] using hnot) _ _ ?_ (x.touch h6 h4 ?_ ?_ ?_ ?_ ?_) ⟨j, i, h1, h2, h3, ?_, h6⟩
    · exact .tuple (.cons (.plain rfl) (.cons (by rw [r.key]; exact VRel.plainV r.plain) (.cons r.val .nil)))
    · exact g2
    · exact g3
    · exact g4
    · simp [setBlock, g1]
    · intro q hq
      simp only [setBlock, g1]
      rw [Array.getElem?_setIfInBounds_ne (fun e => hq e.symm)]
    · simp only [setBlock, g1]
      rw [Array.getElem?_setIfInBounds_self_of_lt hsz]
      simp [r.born]
/-- What the step gave is read. -/
theorem entry_step (x : Xs ok G m0 h0 w0 bs N m h w fr a rs) {ib mb clock : Nat} {vis es : List MapEntry} {e : MapEntry} (it : It m w w0.heap.size ib mb clock (vis ++ [e])) (hmb : h.get mb = some (.map es clock)) (he : e ∈ es) (hnd : (es.map (·.born)).Nodup)
    {t : Tmp} (hfr : fr.get t = some (.pointer (some ⟨ib, 0, none⟩)))
    {o : Oper} (hop : o.op = .entry (.tmp t)) {ro : Option Nat} {next : Act → World → Prop} {Q : Exit → Act → World → Prop}
    (hk : ∀ v', VRel m (.tuple #[e.key, e.val]) v' → next (a.put o.dst v') w) : o.wpIn (FW ro) 0 P a w next Q := by
  obtain ⟨j, i, h1, h2, h3, h4, h6⟩ := it
  have hit : a.eval (.tmp t) = .pointer (some ⟨j.blk, 0, none⟩) := by
    obtain ⟨v', e1, e2⟩ := x.frel t _ hfr
    obtain ⟨j', g1, _, g3⟩ := e2.pointer
    rw [h1] at g1
    cases g1
    simp only [Act.eval, Array.getD_eq_getD_getElem?, e1, Option.getD_some, g3, h2]
  obtain ⟨es', hb, hM⟩ := x.rel.obj mb _ i hmb h3
  obtain ⟨e', he', r⟩ := hM.right e he
  have hn' : (es'.toList.map (·.born)).Nodup := by rw [hM.borns]; exact hnd
  have hrun := run_entry_at (P := P) w j.blk i.blk clock (vis.map (·.born)).toArray es' clock e' (by rw [h4]; simp [r.born]) hb he' hn'
  refine ⟨fun _ _ => trivial, ?_⟩
  rw [show (FW ro).round = ro from rfl, Oper.semAt_eq _ _ _ (by rw [hop]; intro c hc'; cases hc')]
  simp [execOp, hop, hit, hrun, Result.andThen]
  exact hk _ (.tuple (.cons (by rw [r.key]; exact VRel.plainV r.plain) (.cons r.val .nil)))
end
/-! ### The range begins -/
def H.skip (h : H) : H := { h with next := h.next + 1 }
@[simp] theorem H.skip_get (h : H) (b : Nat) : h.skip.get b = h.get b := _root_.id rfl
@[simp] theorem H.skip_next (h : H) : h.skip.next = h.next + 1 := _root_.id rfl
@[simp] theorem H.skip_one (h : H) : h.skip.one = h.one := _root_.id rfl
def addM (m : Inj) (b : Nat) (i : Img) : Inj := fun c => if c = b then some i else m c
section
variable {P : Program} {E : Env} (hE : EnvOk P E) {ok : OkC} {G N bs : Nat} {m0 m : Inj} {h0 h : H} {w0 w : World} {fr : T Value} {a : Act} {rs : List Nat}
include hE in
theorem range_step (x : Xs ok G m0 h0 w0 bs N m h w fr a rs) {mb clock : Nat} {es : List MapEntry} (hmb : h.get mb = some (.map es clock)) {t : TypeId} {kt et : TypeId} (ht : E.und t = some (.map kt et)) {u it : Tmp} (hfr : fr.get u = some (.map (some mb)))
    {o : Oper} (hop : o.op = .range t (.tmp u)) (hd : o.dst = some it) (hit : it < N) {ro : Option Nat} {next : Act → World → Prop} {Q : Exit → Act → World → Prop}
    (hk : ∀ m' a' w', Xs ok G m0 h0 w0 bs N m' h.skip w' (fr.set it (some (.pointer (some ⟨h.next, 0, none⟩)))) a' rs → It m' w' w0.heap.size h.next mb clock [] → next a' w') : o.wpIn (FW ro) 0 P a w next Q := by
  obtain ⟨v', e1, e2⟩ := x.frel u _ hfr
  obtain ⟨i, hi, rfl⟩ : ∃ i, m mb = some i ∧ v' = .map (some i.blk) := by cases e2 with
    | plain h => simp [plain0] at h
    | map h => exact ⟨_, h, rfl⟩
  have hev : a.eval (.tmp u) = .map (some i.blk) := by simp only [Act.eval, Array.getD_eq_getD_getElem?, e1, Option.getD_some]
  obtain ⟨es', hb, hM⟩ := x.rel.obj mb _ i hmb hi
  have hrun := run_range_map (P := P) w t kt et i.blk es' clock (by rw [← und_eq hE]; exact ht) hb
  refine ⟨fun _ _ => trivial, ?_⟩
  rw [show (FW ro).round = ro from rfl, Oper.semAt_eq _ _ _ (by rw [hop]; intro c hc'; cases hc')]
  simp [execOp, hop, hev, hrun, Result.andThen]
  have hal := MapKept.heap_alloc w (.mapIter (some i.blk) clock #[] clock)
  have hnm : m h.next = none := by
    cases hc : m h.next with
    | none => rfl
    | some k => exact absurd (x.rel.dom _ _ hc).1 (Nat.lt_irrefl _)
  obtain ⟨m', hm'⟩ : ∃ m', m' = addM m h.next ⟨w.heap.size, 0, 0, 0⟩ := ⟨_, rfl⟩
  have hold : ∀ b, b ≠ h.next → m' b = m b := fun b hb => by rw [hm']; simp [addM, hb]
  have hnew : m' h.next = some ⟨w.heap.size, 0, 0, 0⟩ := by rw [hm']; simp [addM]
  have hext : Ext m m' := fun b k hk => (hold b (fun e => by rw [e, hnm] at hk; cases hk)).trans hk
  have hgn : ∀ b o, h.get b = some o → b ≠ h.next := fun b o hb e => by rw [e, x.rel.wf _ (Nat.le_refl _)] at hb; cases hb
  have hsz : (w.alloc (.mapIter (some i.blk) clock #[] clock)).heap.size = w.heap.size + 1 := by simp
  have hevo : Evo m h w m' h.skip (w.alloc (.mapIter (some i.blk) clock #[] clock)) := {
    ext := hext, os := rfl, tape := rfl, output := rfl
    size := by rw [hsz]; omega
    keep := fun r hr _ => hal.2 r hr
    new := fun b k hb hn => by
      by_cases e : b = h.next
      · subst e; rw [hnew] at hb; cases hb; exact .inl (Nat.le_refl _)
      · rw [hold b e, hn] at hb; cases hb
    own := fun r _ ⟨b, o, k, hb, hm, hk, ek⟩ => ⟨b, o, k, hb, hm, by rw [← hold b (hgn b o hb)]; exact hk, ek⟩ }
  have hrel : HRel ok G m' h.skip (w.alloc (.mapIter (some i.blk) clock #[] clock)) := {
    obj := fun b o k hb hk => by
      rw [hold b (hgn b o hb)] at hk
      exact (x.rel.obj b o k hb hk).congr hext (hal.2 _ (x.rel.dom _ _ hk).2)
    inj := fun b b' o o' k k' hb hm hb' hk hk' => by
      rw [hold b (hgn b o hb)] at hk
      rw [hold b' (hgn b' o' hb')] at hk'
      exact x.rel.inj b b' o o' k k' hb hm hb' hk hk'
    dom := fun b k hk => by
      by_cases e : b = h.next
      · subst e; rw [hnew] at hk; cases hk; exact ⟨by simp, by rw [hsz]; simp⟩
      · rw [hold b e] at hk
        have := x.rel.dom b k hk
        exact ⟨by simp; omega, by rw [hsz]; omega⟩
    one := fun b hb => by
      have := x.rel.one b hb
      exact ⟨by simp; omega, by rw [hold b (by omega)]; exact this.2⟩
    wf := fun b hb => x.rel.wf b (by simp at hb; omega)
    glob := fun g hg => by
      obtain ⟨k, k1, k2, k3⟩ := x.rel.glob g hg
      exact ⟨k, hext _ _ k1, k2, k3⟩ }
  have hdst : ∀ v, o.dst = some v → v < a.tmps.size := fun v hv => by rw [hd] at hv; cases hv; rw [x.size]; exact hit
  refine hk m' _ _ (x.step hevo hrel ?_ (by rw [put_size]; exact x.size) (put_defers ..)) ⟨_, i, hnew, rfl, hext _ _ hi, by rw [hal.1]; rfl, x.evo.size⟩
  intro v u' hu
  rw [put_tmps _ _ _ _ hdst, hd]
  rw [T.get_set] at hu
  by_cases e : it = v
  · subst e
    rw [if_pos rfl] at hu
    cases hu
    exact ⟨_, by simp, .ptr (i := ⟨w.heap.size, 0, 0, 0⟩) hnew⟩
  · rw [if_neg (fun q => e q.symm)] at hu
    rw [if_neg (fun q => e (Option.some.inj q))]
    exact x.frel.mono hext v u' hu
theorem Xs.here (x : Xs ok G m0 h0 w0 bs N m h w fr a rs) : Xs ok G m h w bs N m h w fr a rs := ⟨Evo.refl .., x.rel, x.frel, x.size, x.defers, Nat.le_trans x.base x.evo.size, x.marks⟩
theorem Xs.on (x : Xs ok G m0 h0 w0 bs N m h w fr a rs) {m' : Inj} {h' : H} {w' : World} {fr' : T Value} {a' : Act} {rs' : List Nat} (y : Xs ok G m h w bs N m' h' w' fr' a' rs') : Xs ok G m0 h0 w0 bs N m' h' w' fr' a' rs' :=
  ⟨x.evo.trans y.evo, y.rel, y.frel, y.size, y.defers, x.base, y.marks⟩
end
theorem perm_mid {α : Type} {vis l1 l2 es : List α} {e : α} (p : (vis ++ (l1 ++ e :: l2)).Perm es) : (vis ++ [e] ++ (l1 ++ l2)).Perm es := by
  refine List.Perm.trans ?_ p
  rw [List.append_assoc]
  exact List.Perm.append_left vis (by simpa using (List.perm_middle (a := e) (l₁ := l1) (l₂ := l2)).symm)
section
variable {P : Program} {E : Env} {G N : Nat} {X : Plug} {Q : Post} {fr : T Value} {h : H}
/-- One round's code. -/
def rngCode (iB iS iA : Nat) (opsB opsS opsA : Array Oper) (out nb : Nat) (more : Tmp) (body : Code) : Code :=
  .seq (.region iB opsB false) (.block out (.loop (.seq (.region iS opsS false) (.seq (.cond (.tmp more) .skip (.exit out)) (.block nb (.seq (.region iA opsA false) body))))))
/-- A range over a map: whatever order is drawn. -/
theorem WN.mapRange (hE : EnvOk P E) (hm : P.follows .mixedOrders = true) (hF : ∀ f fn b, E.fn f = some fn → fn.body = some b → okC E G true fn.ntmps b = true) (hX : PlugOk P (okC E G false) G X)
    {iB iS iA : Nat} {opsB opsS opsA : Array Oper} {out nb : Nat} {more it nx pair u : Tmp} {body : Code} {pre rest : List Oper} {oR oN oX oE : Oper} {mt kt et : TypeId} (L : List Nat)
    (hB : opsB.toList = pre ++ [oR]) (hR : oR.op = .range mt (.tmp u)) (hRd : oR.dst = some it) (hRg : oR.guard = none) (hmt : E.und mt = some (.map kt et))
    (hS : opsS.toList = [oN, oX]) (hN : oN.op = .next (.tmp it) false) (hNd : oN.dst = some nx) (hNg : oN.guard = none)
    (hA : opsA.toList = oE :: rest) (hEn : oE.op = .entry (.tmp it)) (hEd : oE.dst = some pair) (hEg : oE.guard = none)
    (hok : (pre.all (okO G N) && (okO G N oX && (rest.all (okO G N) && okC E G true N body))) = true) (hit : it < N) (hnx : nx < N) (hpr : pair < N) (hl : noLax E L body = true)
    {ib mb clock : Nat} {es : List MapEntry} (hes : ∀ e ∈ es, e.born < clock) (hnd : (es.map (·.born)).Nodup) (I : List MapEntry → T Value → H → Prop)
    (hI : ∀ vis fr h, I vis fr h → fr.get it = some (.pointer (some ⟨ib, 0, none⟩)) ∧ h.get mb = some (.map es clock))
    (start : regW E X opsB pre fr h fun fr1 h1 => fr1.get u = some (.map (some mb)) ∧ h1.clr.get mb = some (.map es clock) ∧ h1.clr.next = ib ∧ I [] (fr1.set it (some (.pointer (some ⟨ib, 0, none⟩)))) h1.clr.skip)
    (round : ∀ vis e fr h, I vis fr h → e ∈ es → e.born ∉ vis.map (·.born) → vis.length < es.length →
      regW E X opsS [oX] (fr.set nx (some (.tuple #[.bool true, e.key, e.val]))) h fun fr3 h3 => fr3.get more = some (.bool true) ∧ fr3.get it = some (.pointer (some ⟨ib, 0, none⟩)) ∧ h3.clr.get mb = some (.map es clock) ∧
        regW E X opsA rest (fr3.set pair (some (.tuple #[e.key, e.val]))) h3.clr fun fr4 h4 => wpd E X L body none (fun ex fr5 h5 => (ex = .normal ∨ ex = .exit nb) ∧ I (vis ++ [e]) fr5 h5) fr4 h4.clr)
    (done : ∀ vis fr h, I vis fr h → vis.Perm es →
      regW E X opsS [oX] (fr.set nx (some (.tuple #[.bool false]))) h fun fr3 h3 => fr3.get more = some (.bool false) ∧ Q .normal fr3 h3.clr) :
    WN P E G N (rngCode iB iS iA opsB opsS opsA out nb more body) Q fr h := by
  intro m0 h0 w0 bs m w a rs R x hQ
  simp only [Bool.and_eq_true] at hok
  obtain ⟨hok1, hok2, hok3, hok4⟩ := hok
  have cs := fun n => call_sim hE hm hF hX n
  obtain ⟨fr1, h1, ⟨n1, r1⟩, k1, k2, k3, k4⟩ := regW_sound start
  have hlB : opsB.size = pre.length + 1 := by rw [← Array.length_toList, hB]; simp
  have hRat : opsB[pre.length]? = some oR := by rw [← Array.getElem?_toList, hB]; simp
  refine wpIn_seq (wpIn_region ?_)
  rw [hlB, List.range_eq_range', show pre.length + 1 = pre.length + 1 from rfl, List.range'_concat, Nat.one_mul, Nat.zero_add]
  have hpre : ∀ j o, pre[j]? = some o → opsB[0 + j]? = some o := by
    intro j o hj
    have hjl : j < pre.length := by
      rcases Nat.lt_or_ge j pre.length with h | h
      · exact h
      · rw [List.getElem?_eq_none h] at hj; cases hj
    rw [Nat.zero_add, ← Array.getElem?_toList, hB, List.getElem?_append_left hjl]
    exact hj
  refine ops_tail hE (cs n1) [pre.length] pre 0 hpre hok1 (r1 n1 (Nat.le_refl _)) x.rel x.frel x.size ?_
  intro m1 a1 w1 e1 R1 f1 s1 d1
  have x1 := x.step e1 R1 f1 s1 d1
  simp only [wpOpsIn, hRat]
  rw [show Region.wanted oR (yielded opsB a1.tmps) = true by simp [Region.wanted, hRg], if_pos rfl]
  refine range_step hE x1 k2 hmt k1 hR hRd hit ?_
  intro m2 a2 w2 x2 it2
  rw [k3] at x2 it2
  obtain ⟨j, i, j1, j2, j3, j4, j6⟩ := id it2
  refine wpIn_block (wpIn_loop (fun a w => ∃ m h fr rs vis left, Xs (okC E G false) G m0 h0 w0 bs N m h w fr a rs ∧ It m w w0.heap.size ib mb clock vis ∧ m ib = some j ∧ I vis fr h ∧ (vis ++ left).Perm es)
    (fun _ w => match w.heap[j.blk]? with | some (.mapIter _ _ seen _) => es.length - seen.size | _ => 0) ⟨m2, _, _, _, [], es, x2, it2, j1, k4, List.Perm.refl _⟩ ?_)
  rintro a3 w3 ⟨m3, h3, fr3, rs3, vis, left, x3, it3, mj3, hi3, hp⟩
  obtain ⟨q1, q2⟩ := hI vis fr3 h3 hi3
  have hborn : (vis.map (·.born) ++ left.map (·.born)).Nodup := by
    rw [← List.map_append]; exact ((hp.map (·.born)).nodup_iff).2 hnd
  have hlS : opsS.size = 2 := by rw [← Array.length_toList, hS]; rfl
  have hN0 : opsS[0]? = some oN := by rw [← Array.getElem?_toList, hS]; rfl
  have hX1 : ∀ j o, [oX][j]? = some o → opsS[1 + j]? = some o := by
    intro j o hj
    rw [← Array.getElem?_toList, hS, Nat.add_comm]
    simpa using hj
  refine wpIn_seq (wpIn_region ?_)
  rw [hlS, show List.range 2 = [0, 1] from rfl]
  rw [wpOpsIn_cons]
  simp only [wpOpIn, hN0]
  rw [show Region.wanted oN (yielded opsS a3.tmps) = true by simp [Region.wanted, hNg], if_pos rfl]
  have hput : ∀ {m : Inj} {fr : T Value} {a : Act} {o : Oper} {d : Tmp} {v v' : Value}, FRel m fr a.tmps → a.tmps.size = N → o.dst = some d → d < N → VRel m v v' → FRel m (fr.set d (some v)) (a.put o.dst v').tmps ∧ (a.put o.dst v').tmps.size = N := by
    intro m fr a o d v v' hf hs hd hdN hv
    have hdst : ∀ v, o.dst = some v → v < a.tmps.size := fun v hv => by rw [hd] at hv; cases hv; rw [hs]; exact hdN
    refine ⟨?_, by rw [put_size]; exact hs⟩
    intro t u' hu
    rw [put_tmps _ _ _ _ hdst, hd]
    rw [T.get_set] at hu
    by_cases e : d = t
    · subst e
      rw [if_pos rfl] at hu
      cases hu
      exact ⟨_, by simp, hv⟩
    · rw [if_neg (fun q => e q.symm)] at hu
      rw [if_neg (fun q => e (Option.some.inj q))]
      exact hf t u' hu
  refine next_step x3 it3 q2 hes q1 hN ?_ ?_
  · intro hall
    have hleft : left = [] := by
      cases left with
      | nil => rfl
      | cons e l =>
        have he : e ∈ es := hp.mem_iff.1 (List.mem_append_right _ (List.mem_cons_self ..))
        exact absurd rfl ((List.nodup_append.1 hborn).2.2 e.born (hall e he) e.born (by simp))
    subst hleft
    rw [List.append_nil] at hp
    obtain ⟨fr4, h4, ⟨n4, r4⟩, d1', d2'⟩ := regW_sound (done vis fr3 h3 hi3 hp)
    obtain ⟨g1, g2⟩ := hput x3.frel x3.size hNd hnx (VRel.tuple (m := m3) (.cons (.plain (v := .bool false) rfl) .nil))
    refine ops_tail hE (cs n4) [] [oX] 1 hX1 (by simpa using hok2) (r4 n4 (Nat.le_refl _)) x3.rel g1 g2 ?_
    intro m5 a5 w5 e5 R5 f5 s5 dd5
    have x5 := x3.step e5 R5 f5 s5 (dd5.trans (put_defers ..))
    show Exit.then _ _ .normal a5 w5
    simp only [Exit.then]
    refine wpIn_seq (wpIn_cond (ev_sim x5.rel x5.frel (x := .tmp more) rfl d1').bool ?_)
    simp only [Bool.false_eq_true, if_false]
    refine wpIn_exit ?_
    simp only [Exit.then, Exit.inBlock, if_pos]
    exact hQ .normal fr4 h4.clr m5 w5 a5 rs3 d2' x5
  · intro e he hne v' w4 hv x4 it4
    have hel : e ∈ left := by
      have := hp.mem_iff.2 he
      rcases List.mem_append.1 this with h1 | h1
      · exact absurd (List.mem_map.2 ⟨e, h1, rfl⟩) hne
      · exact h1
    obtain ⟨l1, l2, rfl⟩ := List.append_of_mem hel
    obtain ⟨fr4, h4, ⟨n4, r4⟩, c1, c2, c3, c4⟩ := regW_sound (round vis e fr3 h3 hi3 he hne (by have := hp.length_eq; simp at this; omega))
    obtain ⟨fr5, h5, ⟨n5, r5⟩, c5⟩ := regW_sound c4
    obtain ⟨g1, g2⟩ := hput x4.frel x4.size hNd hnx hv
    refine ops_tail hE (cs n4) [] [oX] 1 hX1 (by simpa using hok2) (r4 n4 (Nat.le_refl _)) x4.rel g1 g2 ?_
    intro m5 a5 w5 e5 R5 f5 s5 dd5
    have x5 := x4.step e5 R5 f5 s5 (dd5.trans (put_defers ..))
    have it5 := it4.evo x4.rel e5
    have mj5 := e5.ext _ _ mj3
    show Exit.then _ _ .normal a5 w5
    simp only [Exit.then]
    refine wpIn_seq (wpIn_cond (ev_sim x5.rel x5.frel (x := .tmp more) rfl c1).bool ?_)
    simp only [if_true]
    refine wpIn_skip ?_
    show Exit.then _ _ .normal a5 w5
    simp only [Exit.then]
    refine wpIn_block (wpIn_seq (wpIn_region ?_))
    have hlA : opsA.size = rest.length + 1 := by rw [← Array.length_toList, hA]; simp
    have hA0 : opsA[0]? = some oE := by rw [← Array.getElem?_toList, hA]; rfl
    have hA1 : ∀ j o, rest[j]? = some o → opsA[1 + j]? = some o := by
      intro j o hj
      rw [← Array.getElem?_toList, hA, Nat.add_comm]
      simpa using hj
    rw [hlA, List.range_eq_range', List.range'_succ, wpOpsIn_cons]
    simp only [wpOpIn, hA0]
    rw [show Region.wanted oE (yielded opsA a5.tmps) = true by simp [Region.wanted, hEg], if_pos rfl]
    refine entry_step x5 it5 c3 he hnd c2 hEn ?_
    intro v6 hv6
    obtain ⟨g3, g4⟩ := hput x5.frel x5.size hEd hpr hv6
    have tail := fun (Q' : Exit → Act → World → Prop) hq => ops_tail (ro := none) (Q := Q') hE (cs n5) [] rest 1 hA1 hok3 (r5 n5 (Nat.le_refl _)) x5.rel g3 g4 hq
    simp only [List.append_nil] at tail
    refine tail _ ?_
    intro m7 a7 w7 e7 R7 f7 s7 dd7
    have x7 := x5.step e7 R7 f7 s7 (dd7.trans (put_defers ..))
    have it7 := it5.evo x5.rel e7
    have mj7 := e7.ext _ _ mj5
    show Exit.then _ _ .normal a7 w7
    simp only [Exit.then]
    obtain ⟨ex, fr8, h8, ⟨n8, hn8⟩, hex, hi8⟩ := wpd_sound hl c5
    refine exec_sim (rf := true) hE (cs n8) hm (fun _ => rfl) n8 body none (hn8 n8 (Nat.le_refl _)) hok4 x7.here ?_
    intro m8 w8 a8 rs8 x8
    have x9 := x7.on x8
    have it8 := it7.evo x7.rel x8.evo
    have mj8 := x8.evo.ext _ _ mj7
    have inv : (∃ m h fr rs vis left, Xs (okC E G false) G m0 h0 w0 bs N m h w8 fr a8 rs ∧ It m w8 w0.heap.size ib mb clock vis ∧ m ib = some j ∧ I vis fr h ∧ (vis ++ left).Perm es) :=
      ⟨m8, h8, fr8, rs8, vis ++ [e], l1 ++ l2, x9, it8, mj8, hi8, perm_mid hp⟩
    have hlen : vis.length + (l1.length + (l2.length + 1)) = es.length := by have := hp.length_eq; simpa using this
    have meas : (match w8.heap[j.blk]? with | some (.mapIter _ _ seen _) => es.length - seen.size | _ => 0) < (match w3.heap[j.blk]? with | some (.mapIter _ _ seen _) => es.length - seen.size | _ => 0) := by
      obtain ⟨j', i', t1, t2, t3, t4, t5⟩ := it8
      rw [mj8] at t1
      cases t1
      obtain ⟨j'', i'', u1, u2, u3, u4, u5⟩ := it3
      rw [mj3] at u1
      cases u1
      rw [t4, u4]
      simp
      omega
    rcases hex with rfl | rfl
    · exact ⟨inv, meas⟩
    · show (if nb = nb then _ else _)
      rw [if_pos rfl]
      exact ⟨inv, meas⟩
end
end Go.Dm
