/- The machine D, 17: an operation's walk in the model, Go calls and all. -/
import Derived.Test.YtpanpicbikihkaaDoorDSimB
set_option linter.unusedVariables false
set_option linter.unusedSimpArgs false
namespace Go.Dm

section
variable {P : Program} {E : Env} (hE : EnvOk P E) {w : World} {m : Inj} {ok : OkC} {G N : Nat} {h : H} {fr : T Value} {a : Act} {ck : CK}
theorem callsIn_FW {ro : Option Nat} {n : Nat} {f : FuncId} {args : Array Value} {R : Ending → World → Prop} (hc : Calls P f args w R) : CallsIn (FW ro) n P f args w R :=
  callsIn_wide.2 hc
theorem callFunc_run {f : FuncId} {fn : Func} (h1 : P.funcs[f]? = some fn) (h2 : fn.body.isSome = true) (h3 : (fn.name == "runtime.NumGoroutine") = false) (args : Array Value) :
    (callFunc f args).run P w = .ok (.enter f args) w := by
  have h4 : fn.body.isNone = false := by cases hb : fn.body <;> simp_all
  simp only [callFunc, Sem.run_bind, run_program, Result.andThen_ok, h1, h3, h4, Bool.false_eq_true, if_false]
  rfl
include hE in
theorem op_wp (C : CallSim P ok G ck) (R : HRel ok G m h w) (hf : FRel m fr a.tmps) {o : Oper} {v : Value} {h' : H} (hok : okO G N o = true) (hd : opD E ck o.op fr h = some (v, h'))
    {ro : Option Nat} {next : Act → World → Prop} {Q : Exit → Act → World → Prop}
    (hn : ∀ m' v' w', Evo m h w m' h' w' → HRel ok G m' h' w' → VRel m' v v' → next (a.put o.dst v') w') : o.wpIn (FW ro) 0 P a w next Q := by
  have hdef : ∀ c, o.op ≠ .defer c := by
    intro c hc
    simp only [okO, Bool.and_eq_true, hc, notDefer] at hok
    exact absurd hok.2 (by simp)
  refine ⟨fun _ _ => trivial, ?_⟩
  rw [show (FW ro).round = ro from rfl, Oper.semAt_eq _ _ _ hdef]
  by_cases hg : goCall o.op = false
  · rcases op_done hE R hf hok hd hg with ⟨v', w', hr, m', k1, k2, k3⟩ | ⟨rfl, w', hr, m', k1, k2, k3⟩
    · rw [hr]; exact hn m' v' w' k1 k2 k3
    · rw [hr]; exact hn m' undef w' k1 k2 k3
  · cases hop : o.op with
    | call c =>
      have hx := all_of hop hok
      have hxa : c.args.toList.all (okX G) = true := by
        simp only [Op.operands, Call.operands, Array.toList_append, List.all_append, Bool.and_eq_true] at hx
        exact hx.2
      have hm : c.args.map a.eval = (c.args.toList.map a.eval).toArray := by apply Array.ext'; simp
      rw [hop] at hd hg
      simp only [opD] at hd
      split at hd
      · cases hd
      · rename_i args hargs
        have hL := evs_sim R hf hxa hargs
        have fin : ∀ (g : FuncId) (full : List Value) (full' : List Value), LRel m full full' → ck (.fn g) full h = some (v, h') → (execOp a.eval o).run P w = (callFunc g full'.toArray).run P w →
            o.uponIn (FW ro) 0 P a next Q ((execOp a.eval o).run P w) := by
          intro g full full' hl hck he
          obtain ⟨⟨fn, e1, e2, e3⟩, hcall⟩ := C.fn hck R hl
          rw [he, callFunc_run e1 e2 e3]
          refine ⟨fun h => (by cases h), callsIn_FW (hcall.mono ?_)⟩
          rintro e w' ⟨v', rfl, m', k1, k2, k3⟩
          exact hn m' v' w' k1 k2 k3
        cases hcal : c.callee with
        | builtin b => simp [goCall, hcal] at hg
        | value f =>
          rw [hcal] at hd
          simp only at hd
          split at hd
          · rename_i fv hfv
            have hxf : okX G f = true := by
              simp only [Op.operands, Call.operands, hcal, Array.toList_append, List.all_append, Bool.and_eq_true] at hx
              simpa using hx.1
            have hr := ev_sim R hf hxf hfv
            unfold callFnD at hd
            split at hd
            · rename_i g first cap
              obtain ⟨first', cap', e, l1, l2⟩ := hr.funcv
              refine fin g _ (first'.toList ++ c.args.toList.map a.eval ++ cap'.toList) ((l1.append hL).append l2) hd ?_
              have harr : (first' ++ c.args.map a.eval) ++ cap' = (first'.toList ++ c.args.toList.map a.eval ++ cap'.toList).toArray := by
                apply Array.ext'; simp
              simp only [execOp, hop, resolve, hcal, e, Deferred.ofValue, Sem.run_bind, Sem.run_pure, Result.andThen_ok, invoke, harr]
            · rename_i l x1 x2
              obtain ⟨i, hi, e, _, _⟩ := hr.yieldv
              obtain ⟨f', tmps, assign, body, hy, hround⟩ := C.yd hd R hL hi
              have hrun : (execOp a.eval o).run P w = .ok (.round i.blk f' tmps assign body) w := by
                simp only [execOp, hop, resolve, hcal, e, Deferred.ofValue, Sem.run_bind, Sem.run_pure, Result.andThen_ok, invoke]
                rw [show (#[] ++ c.args.map a.eval) = (c.args.toList.map a.eval).toArray by apply Array.ext'; simp]
                exact hy
              rw [hrun]
              refine ⟨fun h => (by cases h), (hround ro).mono ?_⟩
              rintro e w' ⟨v', rfl, m', k1, k2, k3⟩
              exact hn m' v' w' k1 k2 k3
            · cases hd
          · cases hd
        | invoke r name =>
          rw [hcal] at hd
          simp only at hd
          split at hd
          · rename_i t u hr0
            have hxr : okX G r = true := by
              simp only [Op.operands, Call.operands, hcal, Array.toList_append, List.all_append, Bool.and_eq_true] at hx
              simpa using hx.1
            obtain ⟨u', e, hu⟩ := (ev_sim R hf hxr hr0).ifacev
            split at hd
            · rename_i g rv hmd
              obtain ⟨rfl, hmr⟩ := method_sim hE (w := w) hu hmd (P.types.size + Made.depth - 1)
              have hfuel : P.types.size + Made.depth - 1 + 1 = P.types.size + Made.depth := by
                have : 1 ≤ Made.depth := by decide
                omega
              rw [hfuel] at hmr
              refine fin g _ (u' :: c.args.toList.map a.eval) (.cons hu hL) hd ?_
              have harr : (#[a.eval r] ++ c.args.map a.eval).extract 1 (#[a.eval r] ++ c.args.map a.eval).size = c.args.map a.eval := by
                apply Array.ext'; simp [Array.toList_extract, List.extract, List.take_of_length_le]
              have h0 : (#[a.eval r] ++ c.args.map a.eval)[0]? = some (.iface t u') := by rw [Array.getElem?_append_left (by simp)]; simp [e]
              have harr2 : #[u'] ++ c.args.map a.eval = (u' :: c.args.toList.map a.eval).toArray := by apply Array.ext'; simp
              simp only [execOp, hop, resolve, hcal, Sem.run_bind, Sem.run_pure, Result.andThen_ok, invoke, h0, harr, callMethod, run_program, hmr, harr2]
            · cases hd
          · cases hd
    | _ => simp [goCall, hop] at hg
end
end Go.Dm
