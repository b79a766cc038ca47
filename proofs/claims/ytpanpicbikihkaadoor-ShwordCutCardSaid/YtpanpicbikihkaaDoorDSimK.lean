/- The machine D, 25: ranges over functions; all code. -/
import Derived.Test.YtpanpicbikihkaaDoorDSimJ
set_option linter.unusedVariables false
set_option linter.unusedSimpArgs false
namespace Go.Dm

section
variable {P : Program} {E : Env} (hE : EnvOk P E) {G N : Nat} {ck : CK} (C : CallSim P (okC E G false) G ck) {ro : Option Nat} (hm : P.follows .mixedOrders = true) {rf : Bool} (hrf : rf = true → ro = none)
  {m0 : Inj} {h0 : H} {w0 : World}
/-- The end of a range over a function. -/
theorem endLoop_sim {l : Nat} {fr : T Value} {h : H} {e : Ex} {fr' : T Value} {h' : H} (hd : endLoopD l fr h = some (e, fr', h')) {m : Inj} {w : World} {i : Img} (R : HRel (okC E G false) G m h w) (hi : m l = some i) :
    fr' = fr ∧ ∃ jump w', (Instr.endLoop i.blk).run P w = .ok jump w' ∧ Evo m h w m h' w' ∧ HRel (okC E G false) G m h' w' ∧
      (match jump with | none => e = .normal | some c => (c = .ret ∧ e = .ret) ∨ (∃ id, c = .exit id ∧ e = .exit id) ∨ (∃ t, c = .goto t ∧ e = .goto t)) := by
  unfold endLoopD at hd
  split at hd
  · rename_i r hl
    split at hd
    · cases hd
    · rename_i hst
      obtain ⟨r', h1, h2, h3, h4, h5, h6, h7, h8, h9, h10⟩ := R.obj l _ i hl hi
      have hput := loop_put R hl hi h1 (r2 := { r with state := .exhausted }) (r2' := { r' with state := .exhausted }) ⟨_, setObjW_at h1 _, rfl, h3, h4, h5, h6, h7, h8, h9, h10⟩
      have hrun : (Instr.endLoop i.blk).run P w = .ok r'.pending (setObjW w i.blk (.loop { r' with state := .exhausted })) := by
        have hb : (r'.state == LoopState.busy) = false := by
          rw [h2]
          cases hs : r.state <;> first | rfl | exact absurd hs hst
        simp only [Instr.endLoop, Sem.run_bind, run_getLoop h1, Result.andThen_ok, hb, Bool.false_eq_true, if_false, run_setLoop h1, Sem.run_pure]
      generalize hw4 : setObjW w i.blk (.loop { r' with state := .exhausted }) = w4 at hrun hput
      rw [h3] at hrun
      split at hd
      · rename_i hp
        cases hd
        exact ⟨rfl, _, _, hrun, hput.1, hput.2, by rw [hp]⟩
      · rename_i hp
        cases hd
        exact ⟨rfl, _, _, hrun, hput.1, hput.2, by rw [hp]; exact .inl ⟨rfl, rfl⟩⟩
      · rename_i id hp
        cases hd
        exact ⟨rfl, _, _, hrun, hput.1, hput.2, by rw [hp]; exact .inr (.inl ⟨_, rfl, rfl⟩)⟩
      · rename_i t hp
        cases hd
        exact ⟨rfl, _, _, hrun, hput.1, hput.2, by rw [hp]; exact .inr (.inr ⟨_, rfl, rfl⟩)⟩
      · cases hd
  · cases hd

include C in
theorem range_sim {fuel : Nat} {g : Operand} {ps : Array Tmp} {assign body : Code} (hro : ro = none) {fr : T Value} {h : H} {e : Ex} {fr' : T Value} {h' : H}
    (hd : execD E ck fuel (.rangeFunc g ps assign body) none fr h = some (e, fr', h')) (hok : okC E G rf N (.rangeFunc g ps assign body) = true)
    {m : Inj} {w : World} {a : Act} {rs : List Nat} {Q : Exit → Act → World → Prop} (X : Xs (okC E G false) G m0 h0 w0 N m h w fr a rs)
    (hq : ∀ m' w' a' rs', Xs (okC E G false) G m0 h0 w0 N m' h' w' fr' a' rs' → Q (exOf e) a' w') : (Code.rangeFunc g ps assign body).wpIn (FW ro) 0 P Q a w := by
  subst hro
  simp only [okC, Bool.and_eq_true] at hok
  obtain ⟨⟨⟨⟨_, hxg⟩, hps⟩, hoka⟩, hokb⟩ := hok
  simp only [execD] at hd
  split at hd
  · rename_i f first cap hev
    split at hd
    · rename_i v0 h1 hck
      have hr := ev_sim X.rel X.frel hxg hev
      obtain ⟨first', cap', hval, l1, l2⟩ := hr.funcv
      refine wpIn_rangeFunc ?_
      intro fn _
      -- the two records
      have e1 : Evo m h w m h (w.alloc (.deferred (some []))) := Evo.push ..
      have R1 : HRel (okC E G false) G m h (w.alloc (.deferred (some []))) := X.rel.push _
      let wa := w.alloc (.deferred (some []))
      let rec' : Loop := { state := .ready, pending := none, fn, tmps := a.tmps, params := ps, assign, body, defers := w.heap.size }
      let lp : Lp := { state := .ready, pending := none, fr, params := ps.toList, assign, body }
      have hsa : wa.heap.size = w.heap.size + 1 := alloc_size ..
      have hO : ORel (okC E G false) (m.add h.addr ⟨wa.heap.size, 0, 0, 0⟩) (wa.alloc (.loop rec')) ⟨wa.heap.size, 0, 0, 0⟩ (.loop lp) := by
        refine ⟨rec', alloc_at .., rfl, rfl, rfl, rfl, rfl, X.frel.mono (Inj.ext_add _ X.rel.fresh), ?_, ?_, ?_⟩
        · show okC E G false a.tmps.size assign = true; rw [X.size]; exact hoka
        · show okC E G false a.tmps.size body = true; rw [X.size]; exact hokb
        · intro p hp
          have := List.all_eq_true.1 hps p hp
          show p < a.tmps.size
          rw [X.size]; simpa using this
      have R2 : HRel (okC E G false) G (m.add h.addr ⟨wa.heap.size, 0, 0, 0⟩) (h.new (.loop lp)) (wa.alloc (.loop rec')) := R1.alloc rfl (alloc_size ..) (fun r hr => alloc_lt _ _ hr) hO
      have e2 : Evo m h wa (m.add h.addr ⟨wa.heap.size, 0, 0, 0⟩) (h.new (.loop lp)) (wa.alloc (.loop rec')) := Evo.alloc R1 rfl rfl rfl rfl (alloc_size ..) (fun r hr => alloc_lt _ _ hr)
      have hx2 := Inj.ext_add ⟨wa.heap.size, 0, 0, 0⟩ X.rel.fresh
      have hargs : LRel (m.add h.addr ⟨wa.heap.size, 0, 0, 0⟩) (first.toList ++ [Value.func (.yield h.addr) #[] #[]] ++ cap.toList) (first'.toList ++ [Value.func (.yield wa.heap.size) #[] #[]] ++ cap'.toList) :=
        ((LRel.mono hx2 l1).append (.cons (.yld (Inj.add_self _ _ _)) .nil)).append (LRel.mono hx2 l2)
      obtain ⟨⟨fn2, q1, q2, q3⟩, hcall⟩ := C.fn hck R2 hargs
      have harr : (first' ++ #[Value.func (.yield wa.heap.size) #[] #[]]) ++ cap' = (first'.toList ++ [Value.func (.yield wa.heap.size) #[] #[]] ++ cap'.toList).toArray := by
        apply Array.ext'; simp
      refine ⟨wa.heap.size, [{ target := .collected w.heap.size, args := #[] }], wa.alloc (.loop rec'), { target := .fn (.func f) cap', args := first' ++ #[Value.func (.yield wa.heap.size) #[] #[]] }, wa.alloc (.loop rec'), f, (first'.toList ++ [Value.func (.yield wa.heap.size) #[] #[]] ++ cap'.toList).toArray, wa.alloc (.loop rec'), ?_, ?_, fun _ _ => trivial, ?_, fun h => (by cases h), callsIn_FW (hcall.mono ?_)⟩
      · rfl
      · have hc : a.eval (.const (.func (.yield wa.heap.size) #[] #[])) = .func (.yield wa.heap.size) #[] #[] := rfl
        simp only [resolve, rangeCall, hval, Deferred.ofValue, List.map_toArray, List.map_cons, List.map_nil, hc, Sem.run_pure]
      · simp only [invoke]
        have := callFunc_run (w := wa.alloc (.loop rec')) q1 q2 q3 (first'.toList ++ [Value.func (.yield wa.heap.size) #[] #[]] ++ cap'.toList).toArray
        rw [harr]
        exact this
      · rintro ed w3 ⟨v', rfl, m3, k1, k2, k3⟩
        have hi3 : m3 h.addr = some ⟨wa.heap.size, 0, 0, 0⟩ := k1.ext _ _ (Inj.add_self _ _ _)
        obtain ⟨rfl, jump, w4, hrun, e4, R4, hj⟩ := endLoop_sim (P := P) hd k2 hi3
        have eAll : Evo m h w m3 h' w4 := ((e1.trans e2).trans k1).trans e4
        have hX : Xs (okC E G false) G m0 h0 w0 N m3 h' w4 fr' { a with defers := [{ target := .collected w.heap.size, args := #[] }] ++ a.defers } (w.heap.size :: rs) := by
          refine ⟨X.evo.trans eAll, R4, X.frel.mono eAll.ext, X.size, ?_, ?_, ?_⟩
          · show _ ++ a.defers = _; rw [X.defers]; rfl
          · refine List.nodup_cons.2 ⟨fun hmem => ?_, X.marks.nodup⟩
            exact absurd (lt_of_at (X.marks.at_ _ hmem).2) (Nat.lt_irrefl _)
          · intro r hr
            rcases List.mem_cons.1 hr with rfl | hr
            · refine ⟨X.evo.size, ?_⟩
              have hd0 : wa.heap[w.heap.size]? = some (.deferred (some [])) := alloc_at ..
              have hd1 := (e2.keep _ (lt_of_at hd0) (not_own R1 hd0)).trans hd0
              have hd2 := (k1.keep _ (lt_of_at hd1) (not_own R2 hd1)).trans hd1
              exact (e4.keep _ (lt_of_at hd2) (not_own k2 hd2)).trans hd2
            · exact (X.marks.evo X.rel eAll).at_ r hr
        have hQ := hq m3 w4 _ _ hX
        refine ⟨jump, w4, hrun, ?_⟩
        cases jump with
        | none => simp only at hj ⊢; rw [hj] at hQ; exact hQ
        | some c =>
          simp only at hj ⊢
          rcases hj with ⟨rfl, rfl⟩ | ⟨id, rfl, rfl⟩ | ⟨t, rfl, rfl⟩
          · exact wpIn_ret hQ
          · exact wpIn_exit hQ
          · exact wpIn_goto hQ
    · cases hd
  · cases hd

include hE C hm hrf in
theorem exec_sim (fuel : Nat) : ∀ c : Code, CodeSim P E G N ck ro rf m0 h0 w0 fuel c := by
  intro c
  induction c with
  | skip =>
    intro sk fr h e fr' h' hd hok m w a rs Q X hq
    cases sk with
    | none => simp only [execD] at hd; cases hd; exact wpIn_skip (hq _ _ _ _ X)
    | some l => simp only [execD] at hd; cases hd
  | label l =>
    intro sk fr h e fr' h' hd hok m w a rs Q X hq
    cases sk with
    | none => simp only [execD] at hd; cases hd; exact wpIn_label (hq _ _ _ _ X)
    | some l' =>
      simp only [execD] at hd
      split at hd
      · rename_i hl
        cases hd
        exact ⟨.skip, by simp [findLabel, hl], wpIn_skip (hq _ _ _ _ X)⟩
      · cases hd
  | region id ops draw =>
    intro sk fr h e fr' h' hd hok m w a rs Q X hq
    cases sk with
    | some l => simp only [execD] at hd; cases hd
    | none =>
      simp only [execD] at hd
      simp only [okC, Bool.and_eq_true, Bool.or_eq_true, Bool.not_eq_true'] at hok
      split at hd
      · rename_i fr1 h1 hr
        split at hd
        · cases hd
        · rename_i hl
          cases hd
          refine region_sim hE C hm (N := N) hok.1 (fun hdr => hok.2.resolve_left (by simp [hdr])) hr (fun hdr => ?_) X.rel X.frel X.size ?_
          · subst hdr
            simpa using hl
          · intro m' a' w' e1 R1 f1 s1 d1
            exact hq _ _ _ _ (X.step e1 R1 f1 s1 d1)
      · cases hd
  | seq x y ihx ihy =>
    intro sk fr h e fr' h' hd hok m w a rs Q X hq
    simp only [okC, Bool.and_eq_true] at hok
    have two : ∀ {sk : Option Nat} {r : Ex × T Value × H}, execD E ck fuel x sk fr h = some r → (match r with | (.normal, fr1, h1) => execD E ck fuel y none fr1 h1 = some (e, fr', h') | (e1, fr1, h1) => (e1, fr1, h1) = (e, fr', h')) →
        Wp ro P x sk (Exit.then (y.wpIn (FW ro) 0 P Q) Q) a w := by
      intro sk r hx hr
      obtain ⟨e1, fr1, h1⟩ := r
      refine ihx sk hx hok.1 X ?_
      intro m' w' a' rs' X'
      cases e1 with
      | normal => exact ihy none hr hok.2 X' hq
      | exit id => cases hr; exact hq _ _ _ _ X'
      | goto l => cases hr; exact hq _ _ _ _ X'
      | ret => cases hr; exact hq _ _ _ _ X'
    cases sk with
    | none =>
      simp only [execD] at hd
      refine wpIn_seq ?_
      split at hd
      · rename_i fr1 h1 hx
        exact two (sk := none) hx hd
      · rename_i r hr
        refine two (sk := none) hd ?_
        cases e with
        | normal => exact absurd hd (hr _ _)
        | _ => rfl
    | some l =>
      simp only [execD] at hd
      split at hd
      · rename_i hl
        rw [hasLabel_iff] at hl
        have key : Wp ro P x (some l) (Exit.then (y.wpIn (FW ro) 0 P Q) Q) a w := by
          split at hd
          · rename_i fr1 h1 hx
            exact two (sk := some l) hx hd
          · rename_i r hr
            refine two (sk := some l) hd ?_
            cases e with
            | normal => exact absurd hd (hr _ _)
            | _ => rfl
        obtain ⟨rest, hf, hwp⟩ := key
        exact ⟨.seq rest y, by simp [findLabel, hf], wpIn_seq hwp⟩
      · rename_i hl
        rw [hasLabel_iff] at hl
        obtain ⟨rest, hf, hwp⟩ := ihy (some l) hd hok.2 X hq
        refine ⟨rest, ?_, hwp⟩
        cases hx : findLabel x l with
        | none => simp [findLabel, hx, hf]
        | some r => rw [hx] at hl; exact absurd rfl hl
  | cond c x y ihx ihy =>
    intro sk fr h e fr' h' hd hok m w a rs Q X hq
    cases sk with
    | some l => simp only [execD] at hd; cases hd
    | none =>
      simp only [okC, Bool.and_eq_true] at hok
      simp only [execD] at hd
      split at hd
      · rename_i t hc
        have hb := (ev_sim X.rel X.frel hok.1.1 hc).bool
        refine wpIn_cond hb ?_
        cases t with
        | true => simp only [if_true] at hd ⊢; exact ihx none hd hok.1.2 X hq
        | false => simp only [Bool.false_eq_true, if_false] at hd ⊢; exact ihy none hd hok.2 X hq
      · cases hd
  | block id c ih =>
    intro sk fr h e fr' h' hd hok m w a rs Q X hq
    cases sk with
    | some l => simp only [execD] at hd; cases hd
    | none =>
      simp only [okC] at hok
      simp only [execD] at hd
      refine wpIn_block ?_
      split at hd
      · rename_i id' fr1 h1 hc
        refine ih none hc hok X ?_
        intro m' w' a' rs' X'
        show (if id' = id then Q .normal a' w' else Q (.exit id') a' w')
        split at hd
        · rename_i he
          cases hd
          rw [if_pos he]; exact hq _ _ _ _ X'
        · rename_i he
          cases hd
          rw [if_neg he]; exact hq _ _ _ _ X'
      · rename_i r hr
        refine ih none hd hok X ?_
        intro m' w' a' rs' X'
        have hQ := hq _ _ _ _ X'
        cases e with
        | exit id' => exact absurd hd (hr _ _ _)
        | _ => exact hQ
  | loop c ih =>
    intro sk fr h e fr' h' hd hok m w a rs Q X hq
    cases sk with
    | some l => simp only [execD] at hd; cases hd
    | none =>
      simp only [okC] at hok
      simp only [execD] at hd
      exact loop_sim ih hok hd X hq
  | scope c ih =>
    intro sk fr h e fr' h' hd hok m w a rs Q X hq
    cases sk with
    | some l => simp only [execD] at hd; cases hd
    | none =>
      simp only [okC] at hok
      simp only [execD] at hd
      exact wpIn_scope (scope_sim ih hok hq fuel none hd X)
  | exit id =>
    intro sk fr h e fr' h' hd hok m w a rs Q X hq
    cases sk with
    | none => simp only [execD] at hd; cases hd; exact wpIn_exit (hq _ _ _ _ X)
    | some l => simp only [execD] at hd; cases hd
  | goto t =>
    intro sk fr h e fr' h' hd hok m w a rs Q X hq
    cases sk with
    | none => simp only [execD] at hd; cases hd; exact wpIn_goto (hq _ _ _ _ X)
    | some l => simp only [execD] at hd; cases hd
  | ret =>
    intro sk fr h e fr' h' hd hok m w a rs Q X hq
    cases sk with
    | none => simp only [execD] at hd; cases hd; exact wpIn_ret (hq _ _ _ _ X)
    | some l => simp only [execD] at hd; cases hd
  | rangeFunc g ps x y _ _ =>
    intro sk fr h e fr' h' hd hok m w a rs Q X hq
    cases sk with
    | some l => simp only [execD] at hd; cases hd
    | none =>
      have hrft : rf = true := by
        simp only [okC, Bool.and_eq_true] at hok
        exact hok.1.1.1.1
      exact range_sim C (hrf hrft) hd hok X hq
  | refuse s =>
    intro sk fr h e fr' h' hd hok
    cases hok
end
end Go.Dm
