/- The machine D, 27: what D's calls come to, the model's come to. -/
import Derived.Test.YtpanpicbikihkaaDoorDSimL
set_option linter.unusedVariables false
set_option linter.unusedSimpArgs false
namespace Go.Dm

/-- What is asked of functions that are given by hand. -/
def PlugOk (P : Program) (ok : OkC) (G : Nat) (X : Plug) : Prop :=
  ∀ {f : FuncId} {args : List Value} {h : H} {v : Value} {h' : H}, X f args h = some (v, h') → ∀ {m : Inj} {w : World} {args' : List Value}, HRel ok G m h w → LRel m args args' →
    (∃ fn, P.funcs[f]? = some fn ∧ fn.body.isSome = true ∧ (fn.name == "runtime.NumGoroutine") = false) ∧
    Calls P f args'.toArray w fun e w' => ∃ v', e = .returned v' ∧ Step ok G m h w v h' v' w'
theorem PlugOk.none (P : Program) (ok : OkC) (G : Nat) : PlugOk P ok G fun _ _ _ => none := fun h => by cases h

section
variable {P : Program} {E : Env} (hE : EnvOk P E) {G : Nat} {ck : CK} (C : CallSim P (okC E G false) G ck) (hm : P.follows .mixedOrders = true)
  (hF : ∀ f fn c, E.fn f = some fn → fn.body = some c → okC E G true fn.ntmps c = true)
/-- The marks are taken; what is left is the results' value. -/
theorem leaves_marks {m0 : Inj} {h0 : H} {w0 : World} {fn : Func} {tmps : Array Value} {m : Inj} {h : H} {R : Ending → World → Prop} : ∀ {rs : List Nat} {w : World}, MK w0.heap.size w rs → Evo m0 h0 w0 m h w → HRel (okC E G false) G m h w →
    (∀ w', Evo m0 h0 w0 m h w' → HRel (okC E G false) G m h w' → LeavesInM (FW none) 0 P fn tmps R [] .returning w') → LeavesInM (FW none) 0 P fn tmps R (mkD rs) .returning w := by
  intro rs
  induction rs with
  | nil => intro w _ e R h; exact h w e R
  | cons r rs ih =>
    intro w k e R0 hfin
    have hr := k.at_ r (List.mem_cons_self ..)
    have hnd := List.nodup_cons.1 k.nodup
    refine ⟨by simp, .inl ⟨r, setObjW w r (.deferred none), rfl, ?_, ih ?_ ?_ ?_ hfin⟩⟩
    · simp only [Instr.takeDeferred, Sem.run_bind, getObj]
      have hg : (Sem.getObj r Sem.pure).run P w = .ok (.deferred (some [])) w := by simp [Sem.run, hr.2]
      rw [hg]
      simp only [Result.andThen_ok, Sem.run_bind, run_setObjW hr.2 (by intro c e f q; cases q), Sem.run_pure]
    · refine ⟨hnd.2, fun q hq => ?_⟩
      have := k.at_ q (List.mem_cons_of_mem _ hq)
      have hne : q ≠ r := fun e => hnd.1 (e ▸ hq)
      exact ⟨this.1, ((setObjW_facts w r (.deferred none)).other q hne).trans this.2⟩
    · exact {
        ext := e.ext, os := e.os, tape := e.tape, output := e.output
        size := by rw [(setObjW_facts w r _).size]; exact e.size
        keep := fun q hq hn => by
          rw [(setObjW_facts w r _).other q (by have := hr.1; omega)]
          exact e.keep q hq hn
        new := e.new, own := e.own }
    · exact {
        obj := fun b o i hb hi => (R0.obj b o i hb hi).congr (Ext.refl m) ((setObjW_facts w r _).other _ fun e => by
          have h1 := R0.obj b o i hb hi
          have h2 := hr.2
          rw [← e] at h2
          cases o with
          | cells c s own fz ty => obtain ⟨_, c', e, lo, hi', h3, _⟩ := h1; rw [h2] at h3; cases h3
          | map es cl => obtain ⟨es', h3, _⟩ := h1; rw [h2] at h3; cases h3
          | siter s p => have h3 := h1.2; rw [h2] at h3; cases h3
          | loop l => obtain ⟨l', h3, _⟩ := h1; rw [h2] at h3; cases h3)
        inj := R0.inj
        dom := fun b i hi => ⟨(R0.dom b i hi).1, by rw [(setObjW_facts w r _).size]; exact (R0.dom b i hi).2⟩
        one := R0.one, wf := R0.wf, glob := R0.glob }

include hE C hm hF in
theorem body_sim {k : Nat} {f : FuncId} {args : List Value} {h : H} {v : Value} {h' : H} (hd : bodyD E ck k f args h = some (v, h')) {m : Inj} {w : World} {args' : List Value} (R : HRel (okC E G false) G m h w) (hL : LRel m args args') :
    (∃ fn, P.funcs[f]? = some fn ∧ fn.body.isSome = true ∧ (fn.name == "runtime.NumGoroutine") = false) ∧
    Calls P f args'.toArray w fun e w' => ∃ v', e = .returned v' ∧ Step (okC E G false) G m h w v h' v' w' := by
  unfold bodyD at hd
  split at hd
  · rename_i fn hfn
    split at hd
    · rename_i c hc
      split at hd
      · rename_i hlen
        have hP := hE.fn f fn hfn
        have hbs : fn.body.isSome = true := by rw [hc]; rfl
        refine ⟨⟨fn, hP, hbs, hE.nm f fn hfn hbs⟩, ?_⟩
        refine callsIn_wide.1 (callsIn_of_wp_marks (F := FW none) (n := 0) hP hc trivial ?_ rfl)
        have hsz : (args'.toArray ++ Array.replicate (fn.ntmps - args'.toArray.size) undef).size = fn.ntmps := by
          have := hL.length
          simp; omega
        have X : Xs (okC E G false) G m h w fn.ntmps m h w (frOf args 0 .leaf) { tmps := args'.toArray ++ Array.replicate (fn.ntmps - args'.toArray.size) undef, defers := [] } [] :=
          ⟨Evo.refl .., R, frOf_sim hL _ hlen, hsz, rfl, ⟨List.nodup_nil, fun r hr => by cases hr⟩⟩
        have fin : ∀ {m' : Inj} {w' : World} {a' : Act} {rs : List Nat} {fr : T Value} {h1 : H} {vs : List Value}, Xs (okC E G false) G m h w fn.ntmps m' h1 w' fr a' rs → resD E fr h1 fn.results.toList = some vs → v = oneD vs → h' = h1 →
            LeavesInM (FW none) 0 P fn a'.tmps (fun e w' => ∃ v', e = .returned v' ∧ Step (okC E G false) G m h w v h' v' w') a'.defers .returning w' := by
          intro m' w' a' rs fr h1 vs X' hres hv hh
          subst hv hh
          rw [X'.defers]
          refine leaves_marks X'.marks X'.evo X'.rel ?_
          intro w2 e2 R2
          obtain ⟨v', q1, q2⟩ := results_sim hE R2 X'.frel hres
          exact ⟨v', q1, v', rfl, m', e2, R2, q2⟩
        split at hd
        · rename_i fr h1 he
          obtain ⟨vs, h2, h3⟩ := map_some hd
          cases h3
          exact exec_sim (rf := true) hE C hm (fun _ => rfl) k c none he (hF f fn c hfn hc) X fun m' w' a' rs X' => fin X' h2 rfl rfl
        · rename_i fr h1 he
          obtain ⟨vs, h2, h3⟩ := map_some hd
          cases h3
          exact exec_sim (rf := true) hE C hm (fun _ => rfl) k c none he (hF f fn c hfn hc) X fun m' w' a' rs X' => fin X' h2 rfl rfl
        · cases hd
      · cases hd
    · cases hd
  · cases hd

theorem puts_sim {m : Inj} : ∀ {ps : List Tmp} {vs vs' : List Value} {fr fr' : T Value} {tmps : Array Value}, putsD ps vs fr = some fr' → LRel m vs vs' → FRel m fr tmps → (∀ p ∈ ps, p < tmps.size) →
    vs'.length = ps.length ∧ FRel m fr' ((ps.zip vs').foldl (fun tmps (t, a) => tmps.setIfInBounds t a) tmps) ∧ ((ps.zip vs').foldl (fun tmps (t, a) => tmps.setIfInBounds t a) tmps).size = tmps.size := by
  intro ps
  induction ps with
  | nil =>
    intro vs vs' fr fr' tmps hp hl hf hs
    cases hl with
    | nil => simp only [putsD] at hp; cases hp; exact ⟨rfl, hf, rfl⟩
    | cons _ _ => cases hp
  | cons p ps ih =>
    intro vs vs' fr fr' tmps hp hl hf hs
    cases hl with
    | nil => cases hp
    | cons h1 h2 =>
      simp only [putsD] at hp
      have hps := hs p (List.mem_cons_self ..)
      obtain ⟨q1, q2, q3⟩ := ih hp h2 (hf.set hps h1) (fun q hq => by simpa using hs q (List.mem_cons_of_mem _ hq))
      exact ⟨by simp [q1], q2, q3.trans (by simp)⟩

/-- The end of a round. -/
theorem endRound_sim {l : Nat} {jump : Option Code} {h : H} {v : Value} {h' : H} (hd : endRoundD l jump h = some (v, h')) {m : Inj} {w : World} {i : Img} (R : HRel (okC E G false) G m h w) (hi : m l = some i) :
    ∃ v' w', (Instr.endRound i.blk jump).run P w = .ok v' w' ∧ Step (okC E G false) G m h w v h' v' w' := by
  unfold endRoundD at hd
  split at hd
  · rename_i r hl
    cases hd
    obtain ⟨r', h1, h2, h3, h4, h5, h6, h7, h8, h9, h10⟩ := R.obj l _ i hl hi
    have hput := loop_put R hl hi h1 (r2 := { r with state := if jump.isNone then .ready else .done, pending := jump }) (r2' := { r' with state := if jump.isNone then .ready else .done, pending := jump })
      ⟨_, setObjW_at h1 _, rfl, rfl, h4, h5, h6, h7, h8, h9, h10⟩
    refine ⟨.bool jump.isNone, _, ?_, m, hput.1, hput.2, .plain rfl⟩
    simp only [Instr.endRound, Sem.run_bind, run_getLoop h1, Result.andThen_ok, run_setLoop h1, Sem.run_pure]
  · cases hd

include hE C hm in
theorem round_sim {k l : Nat} {args : List Value} {h : H} {v : Value} {h' : H} (hd : roundD E ck k l args h = some (v, h')) {m : Inj} {w : World} {args' : List Value} {i : Img} (R : HRel (okC E G false) G m h w) (hL : LRel m args args') (hi : m l = some i) :
    ∃ f tmps assign body, (Instr.yield i.blk args'.toArray).run P w = .ok (.round i.blk f tmps assign body) w ∧
      ∀ ro, RoundIn (FW ro) 0 P i.blk f tmps assign body w fun e w' => ∃ v', e = .returned v' ∧ Step (okC E G false) G m h w v h' v' w' := by
  unfold roundD at hd
  split at hd
  · rename_i r hl
    split at hd
    · rename_i fr hputs
      obtain ⟨r', h1, h2, h3, h4, h5, h6, h7, h8, h9, h10⟩ := R.obj l _ i hl hi
      obtain ⟨q1, q2, q3⟩ := puts_sim hputs hL h7 h10
      have hzip : (r'.params.zip args'.toArray).foldl (fun tmps (t, a) => tmps.setIfInBounds t a) r'.tmps = (r.params.zip args').foldl (fun tmps (t, a) => tmps.setIfInBounds t a) r'.tmps := by
        rw [← Array.foldl_toList, Array.toList_zip, h4]
      refine ⟨r'.fn, (r'.params.zip args'.toArray).foldl (fun tmps (t, a) => tmps.setIfInBounds t a) r'.tmps, r'.assign, r'.body, ?_, ?_⟩
      · have hsz : ¬ (args'.toArray.size ≠ r'.params.size) := by
          have : r'.params.size = r.params.length := by rw [← h4]; simp
          simp [q1, this]
        simp only [Instr.yield, Sem.run_bind, run_getLoop h1, Result.andThen_ok, hsz, if_false, Sem.run_pure]
      · intro ro
        rw [hzip, h5, h6]
        refine roundIn_of_wpIn (F := FW ro) trivial ?_
        have X : Xs (okC E G false) G m h w r'.tmps.size m h w fr { tmps := (r.params.zip args').foldl (fun tmps (t, a) => tmps.setIfInBounds t a) r'.tmps, defers := [] } [] :=
          ⟨Evo.refl .., R, q2, q3, rfl, ⟨List.nodup_nil, fun r hr => by cases hr⟩⟩
        split at hd
        · rename_i fr1 hh1 he
          refine exec_sim (rf := false) (ro := some i.blk) hE C hm (fun h => by cases h) k r.assign none he h8 X ?_
          intro m1 w1 a1 rs1 X1
          split at hd
          · rename_i r1 hl1
            split at hd
            · rename_i hst
              have hi1 := X1.evo.ext _ _ hi
              obtain ⟨p', g1, g2, g3, g4, g5, g6, g7, g8, g9, g10⟩ := X1.rel.obj l _ i hl1 hi1
              have hput := loop_put X1.rel hl1 hi1 g1 (r2 := { r1 with state := .busy }) (r2' := { p' with state := .busy }) ⟨_, setObjW_at g1 _, rfl, g3, g4, g5, g6, g7, g8, g9, g10⟩
              refine ⟨setObjW w1 i.blk (.loop { p' with state := .busy }), ?_, ?_⟩
              · simp only [Instr.beginRound, Sem.run_bind, run_getLoop g1, Result.andThen_ok, run_setLoop g1, g2, hst, Sem.run_pure]
              · have X2 := X1.step hput.1 hput.2 X1.frel X1.size rfl
                have fin : ∀ {jump : Option Code} {hh2 : H} {fr2 : T Value} {m2 : Inj} {w2 : World} {a2 : Act} {rs2 : List Nat}, endRoundD l jump hh2 = some (v, h') → Xs (okC E G false) G m h w r'.tmps.size m2 hh2 w2 fr2 a2 rs2 →
                    ∃ v' w', (Instr.endRound i.blk jump).run P w2 = .ok v' w' ∧ ∃ v'', Ending.returned v' = .returned v'' ∧ Step (okC E G false) G m h w v h' v'' w' := by
                  intro jump hh2 fr2 m2 w2 a2 rs2 hend X3
                  obtain ⟨v', w', e1, m3, e2, e3, e4⟩ := endRound_sim (P := P) hend X3.rel (X3.evo.ext _ _ hi)
                  exact ⟨v', w', e1, v', rfl, m3, X3.evo.trans e2, e3, e4⟩
                split at hd
                · rename_i fr2 hh2 hb
                  exact exec_sim (rf := false) (ro := some i.blk) hE C hm (fun h => by cases h) k r.body none hb h9 X2 fun m2 w2 a2 rs2 X3 => fin hd X3
                · rename_i fr2 hh2 hb
                  exact exec_sim (rf := false) (ro := some i.blk) hE C hm (fun h => by cases h) k r.body none hb h9 X2 fun m2 w2 a2 rs2 X3 => fin hd X3
                · rename_i id fr2 hh2 hb
                  exact exec_sim (rf := false) (ro := some i.blk) hE C hm (fun h => by cases h) k r.body none hb h9 X2 fun m2 w2 a2 rs2 X3 => fin hd X3
                · rename_i t fr2 hh2 hb
                  exact exec_sim (rf := false) (ro := some i.blk) hE C hm (fun h => by cases h) k r.body none hb h9 X2 fun m2 w2 a2 rs2 X3 => fin hd X3
                · cases hd
            · cases hd
          · cases hd
        · cases hd
    · cases hd
  · cases hd

include hE hm hF in
/-- What D's calls come to, the model's come to. -/
theorem call_sim {X : Plug} (hX : PlugOk P (okC E G false) G X) : ∀ k, CallSim P (okC E G false) G (callD E X k) := by
  intro k
  induction k with
  | zero =>
    refine ⟨?_, ?_⟩
    · intro f args h v h' hd; cases hd
    · intro l args h v h' hd; cases hd
  | succ k ih =>
    refine ⟨?_, ?_⟩
    · intro f args h v h' hd m w args' R hL
      simp only [callD] at hd
      split at hd
      · rename_i r hr
        cases hd
        exact hX hr R hL
      · exact body_sim hE ih hm hF hd R hL
    · intro l args h v h' hd m w args' i R hL hi
      simp only [callD] at hd
      exact round_sim hE ih hm hd R hL hi
end
end Go.Dm
