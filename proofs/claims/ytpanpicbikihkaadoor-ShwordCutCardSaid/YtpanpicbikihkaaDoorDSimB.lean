/- The machine D, 16: each operation of D's is followed by the model's: one by one. -/
import Derived.Test.YtpanpicbikihkaaDoorDSimA
set_option linter.unusedVariables false
set_option linter.unusedSimpArgs false
namespace Go.Dm

/-- Is it the call of a Go function? -/
def goCall : Op → Bool
  | .call c => match c.callee with
    | .builtin _ => false
    | _ => true
  | _ => false

section
variable {P : Program} {E : Env} (hE : EnvOk P E) {w : World} {m : Inj} {ok : OkC} {G N : Nat} {h : H} {fr : T Value} {a : Act} {ck : CK}
theorem all_of {o : Oper} {op : Op} (ho : o.op = op) (hok : okO G N o = true) : op.operands.toList.all (okX G) = true := by
  simp only [okO, Bool.and_eq_true, ho] at hok; exact hok.1.1
theorem map_some {α β : Type} {f : α → β} {x : Option α} {y : β} (e : x.map f = some y) : ∃ z, x = some z ∧ f z = y := by
  cases x with
  | none => cases e
  | some z => cases e; exact ⟨z, rfl, rfl⟩

set_option maxHeartbeats 1000000 in
include hE in
theorem op_done (R : HRel ok G m h w) (hf : FRel m fr a.tmps) {o : Oper} {v : Value} {h' : H} (hok : okO G N o = true) (hd : opD E ck o.op fr h = some (v, h')) (hc : goCall o.op = false) :
    Done ok G m h w v h' ((execOp a.eval o).run P w) := by
  cases hop : o.op with
  | move x =>
    have hx := all_of hop hok; simp [Op.operands] at hx
    rw [hop] at hd
    obtain ⟨u, h1, h2⟩ := map_some hd
    cases h2
    exact .inl ⟨_, w, by simp [execOp, hop], Step.same R (ev_sim R hf hx h1)⟩
  | assign x =>
    have hx := all_of hop hok; simp [Op.operands] at hx
    rw [hop] at hd
    obtain ⟨u, h1, h2⟩ := map_some hd
    cases h2
    exact .inl ⟨_, w, by simp [execOp, hop], Step.same R (ev_sim R hf hx h1)⟩
  | pick c x y =>
    have hx := all_of hop hok; simp [Op.operands] at hx
    rw [hop] at hd
    simp only [opD] at hd
    split at hd
    · rename_i t hc'
      obtain ⟨u, h1, h2⟩ := map_some hd
      cases h2
      have hb := (ev_sim R hf hx.1 hc').bool
      cases t with
      | true => exact .inl ⟨_, w, by simp [execOp, hop, hb, asBool], Step.same R (ev_sim R hf hx.2.1 h1)⟩
      | false => exact .inl ⟨_, w, by simp [execOp, hop, hb, asBool], Step.same R (ev_sim R hf hx.2.2 h1)⟩
    · cases hd
  | alloc t =>
    rw [hop] at hd
    obtain ⟨z, h1, h2⟩ := map_some hd
    obtain ⟨w', k1, k2⟩ := newD_sim (P := P) R ((VRel.plainV (m := m) (zero_plain h1)).cells) 0 t (E.tag_eq t)
    cases h2
    exact .inl ⟨_, w', by simp [execOp, hop, Instr.alloc, run_zero hE h1, newVar, k1], k2⟩
  | box t x =>
    have hx := all_of hop hok; simp [Op.operands] at hx
    rw [hop] at hd
    obtain ⟨u, h1, h2⟩ := map_some hd
    obtain ⟨w', k1, k2⟩ := newD_sim (P := P) R ((ev_sim R hf hx h1).cells) 0 (ty := none) t (fun _ h => by cases h)
    cases h2
    have k1' : (newRow t (a.eval x).cells).run P w = .ok ⟨w.heap.size, 0, none⟩ w' := by simpa using k1
    exact .inl ⟨_, w', by simp [execOp, hop, Instr.box, newVar, k1'], k2⟩
  | build t parts =>
    have hx := all_of hop hok; simp [Op.operands] at hx
    rw [hop] at hd
    simp only [opD] at hd
    split at hd
    · rename_i ps hps
      obtain ⟨u, h1, h2⟩ := map_some hd
      cases h2
      have hP := evps_sim R hf (xs := parts.toList) (by simpa using hx) hps
      obtain ⟨v', k1, k2⟩ := build_sim hE (w := w) hP h1
      refine .inl ⟨v', w, ?_, Step.same R k2⟩
      have e : (parts.map fun (i, x) => (i, a.eval x)) = (parts.toList.map fun (i, x) => (i, a.eval x)).toArray := by
        apply Array.ext'; simp
      simp [execOp, hop, e, k1]
    · cases hd
  | buildSlice t n parts =>
    have hx := all_of hop hok; simp [Op.operands] at hx
    rw [hop] at hd
    simp only [opD] at hd
    split at hd
    · rename_i ps hps
      have hP := evps_sim R hf (xs := parts.toList) (by simpa using hx) hps
      obtain ⟨v', w', k1, k2⟩ := buildSlice_sim hE R hP hd
      refine .inl ⟨v', w', ?_, k2⟩
      have e : (parts.map fun (i, x) => (i, a.eval x)) = (parts.toList.map fun (i, x) => (i, a.eval x)).toArray := by
        apply Array.ext'; simp
      simp [execOp, hop, e, k1]
    · cases hd
  | insert t x k u =>
    have hx := all_of hop hok; simp [Op.operands] at hx
    rw [hop] at hd
    simp only [opD] at hd
    split at hd
    · rename_i a1 a2 a3 h1 h2 h3
      obtain ⟨q, h4, h5⟩ := map_some hd
      cases h5
      obtain ⟨w', k1, k2, k3⟩ := mapPut_sim hE R (ev_sim R hf hx.1 h1) (ev_sim R hf hx.2.1 h2) (ev_sim R hf hx.2.2 h3) h4
      exact .inr ⟨rfl, w', by simp [execOp, hop, k1], m, k2, k3, VRel.undef m⟩
    · cases hd
  | mapUpdate t x k u =>
    have hx := all_of hop hok; simp [Op.operands] at hx
    rw [hop] at hd
    simp only [opD] at hd
    split at hd
    · rename_i a1 a2 a3 h1 h2 h3
      obtain ⟨q, h4, h5⟩ := map_some hd
      cases h5
      obtain ⟨w', k1, k2, k3⟩ := mapPut_sim hE R (ev_sim R hf hx.1 h1) (ev_sim R hf hx.2.1 h2) (ev_sim R hf hx.2.2 h3) h4
      exact .inr ⟨rfl, w', by simp [execOp, hop, k1], m, k2, k3, VRel.undef m⟩
    · cases hd
  | load t x =>
    have hx := all_of hop hok; simp [Op.operands] at hx
    rw [hop] at hd
    simp only [opD] at hd
    split at hd
    · rename_i a1 h1
      obtain ⟨q, h4, h5⟩ := map_some hd
      cases h5
      obtain ⟨v', k1, k2⟩ := ld_sim hE R (ev_sim R hf hx h1) h4
      exact .inl ⟨v', w, by simp [execOp, hop, k1], Step.same R k2⟩
    · cases hd
  | store t x u =>
    have hx := all_of hop hok; simp [Op.operands] at hx
    rw [hop] at hd
    simp only [opD] at hd
    split at hd
    · rename_i a1 a2 h1 h2
      obtain ⟨q, h4, h5⟩ := map_some hd
      cases h5
      obtain ⟨w', k1, k2, k3⟩ := st_sim hE R (ev_sim R hf hx.1 h1) (ev_sim R hf hx.2 h2) h4
      exact .inr ⟨rfl, w', by simp [execOp, hop, k1], m, k2, k3, VRel.undef m⟩
    · cases hd
  | nilCheck x =>
    have hx := all_of hop hok; simp [Op.operands] at hx
    rw [hop] at hd
    simp only [opD] at hd
    split at hd
    · rename_i a1 h1
      obtain ⟨q, h4, h5⟩ := map_some hd
      cases h5
      have hr := ev_sim R hf hx h1
      obtain ⟨e, k1⟩ := nilCheck_sim (P := P) (w := w) hr h4
      subst e
      exact .inl ⟨_, w, k1 a.eval o x hop rfl, Step.same R hr⟩
    · cases hd
  | binOp op t x y yt =>
    have hx := all_of hop hok; simp [Op.operands] at hx
    rw [hop] at hd
    simp only [opD] at hd
    split at hd
    · rename_i a1 a2 h1 h2
      obtain ⟨q, h4, h5⟩ := map_some hd
      cases h5
      obtain ⟨k1, k2⟩ := bin_sim hE (w := w) (ev_sim R hf hx.1 h1) (ev_sim R hf hx.2 h2) h4
      refine .inl ⟨_, w, ?_, Step.same R (.plain k1)⟩
      simp only [execOp, hop]
      simp only [Sem.run_bind] at k2 ⊢
      rw [k2]; rfl
    · cases hd
  | unOp op t x =>
    have hx := all_of hop hok; simp [Op.operands] at hx
    rw [hop] at hd
    simp only [opD] at hd
    split at hd
    · rename_i a1 h1
      obtain ⟨q, h4, h5⟩ := map_some hd
      cases h5
      obtain ⟨k1, k2⟩ := un_sim (P := P) (w := w) (ev_sim R hf hx h1) h4
      exact .inl ⟨_, w, by simp [execOp, hop, k1], Step.same R (.plain k2)⟩
    · cases hd
  | convert s d x =>
    have hx := all_of hop hok; simp [Op.operands] at hx
    rw [hop] at hd
    simp only [opD] at hd
    split at hd
    · rename_i a1 h1
      obtain ⟨v', w', k1, k2⟩ := conv_sim hE R (ev_sim R hf hx h1) hd
      exact .inl ⟨v', w', by simp [execOp, hop, k1], k2⟩
    · cases hd
  | makeInterface t x =>
    have hx := all_of hop hok; simp [Op.operands] at hx
    rw [hop] at hd
    simp only [opD] at hd
    split at hd
    · cases hd
    · rename_i a1 d hn h1 hu
      cases hd
      refine .inl ⟨.iface t (a.eval x), w, ?_, Step.same R (.iface (ev_sim R hf hx h1))⟩
      simp only [execOp, hop, Instr.makeInterface, Sem.run_bind, run_underlying hE hu, Result.andThen_ok]
      cases d <;> first | rfl | (exact absurd hu (hn _))
    · cases hd
  | makeFunc fn first cap =>
    have hx := all_of hop hok
    simp only [Op.operands, Array.toList_append, List.all_append, Bool.and_eq_true] at hx
    rw [hop] at hd
    cases fn with
    | func f =>
      simp only [opD] at hd
      split at hd
      · rename_i a1 a2 h1 h2
        cases hd
        have e1 := evs_sim R hf (xs := first.toList) hx.1 h1
        have e2 := evs_sim R hf (xs := cap.toList) hx.2 h2
        refine .inl ⟨.func (.func f) (first.map a.eval) (cap.map a.eval), w, by simp [execOp, hop, Instr.makeFunc], Step.same R ?_⟩
        have q1 : first.map a.eval = Array.mk (first.toList.map a.eval) := by apply Array.ext'; simp
        have q2 : cap.map a.eval = Array.mk (cap.toList.map a.eval) := by apply Array.ext'; simp
        rw [q1, q2]
        exact .func e1 e2
      · cases hd
    | _ => cases hd
  | makeMap t r =>
    rw [hop] at hd
    cases r with
    | some r => cases hd
    | none =>
      simp only [opD] at hd
      cases hd
      obtain ⟨k1, k2⟩ := newObj_sim (w := w) R (o := .map [] 0) (ob := .map #[] 0) (fun w' hw' => ⟨#[], hw', .nil⟩)
      refine .inl ⟨.map (some w.heap.size), _, ?_, _, k1, k2, .map (Inj.add_self _ _ _)⟩
      simp [execOp, hop, Instr.makeMap]
  | makeSlice t l c =>
    have hx := all_of hop hok; simp [Op.operands] at hx
    rw [hop] at hd
    simp only [opD] at hd
    split at hd
    · rename_i a1 a2 h1 h2
      obtain ⟨v', w', k1, k2⟩ := makeSlice_sim hE R (ev_sim R hf hx.1 h1) (ev_sim R hf hx.2 h2) hd
      exact .inl ⟨v', w', by simp [execOp, hop, k1], k2⟩
    · cases hd
  | slice t x lo hi mx =>
    have hx := all_of hop hok
    simp only [Op.operands, Array.toList_append, List.all_append, Bool.and_eq_true] at hx
    rw [hop] at hd
    simp only [opD] at hd
    split at hd
    · rename_i a1 a2 a3 a4 h1 h2 h3 h4
      obtain ⟨q, h5, h6⟩ := map_some hd
      cases h6
      have hxx : okX G x = true := by simpa using hx.1.1.1
      obtain ⟨v', k1, k2⟩ := slice_sim hE R (ev_sim R hf hxx h1) (evo_sim R hf (by simpa using hx.1.1.2) h2) (evo_sim R hf (by simpa using hx.1.2) h3) (evo_sim R hf (by simpa using hx.2) h4) h5
      exact .inl ⟨v', w, by simp [execOp, hop, k1], Step.same R k2⟩
    · cases hd
  | fieldAddr s x f =>
    have hx := all_of hop hok; simp [Op.operands] at hx
    rw [hop] at hd
    simp only [opD] at hd
    split at hd
    · rename_i a1 h1
      obtain ⟨q, h4, h5⟩ := map_some hd
      cases h5
      obtain ⟨v', k1, k2⟩ := fieldAddr_sim hE (w := w) (ev_sim R hf hx h1) h4
      exact .inl ⟨v', w, by simp [execOp, hop, k1], Step.same R k2⟩
    · cases hd
  | field s x f =>
    have hx := all_of hop hok; simp [Op.operands] at hx
    rw [hop] at hd
    simp only [opD] at hd
    split at hd
    · rename_i a1 h1
      obtain ⟨q, h4, h5⟩ := map_some hd
      cases h5
      obtain ⟨v', k1, k2⟩ := field_sim hE (w := w) (ev_sim R hf hx h1) h4
      exact .inl ⟨v', w, by simp [execOp, hop, k1], Step.same R k2⟩
    · cases hd
  | indexAddr t x i =>
    have hx := all_of hop hok; simp [Op.operands] at hx
    rw [hop] at hd
    simp only [opD] at hd
    split at hd
    · rename_i a1 a2 h1 h2
      obtain ⟨q, h4, h5⟩ := map_some hd
      cases h5
      obtain ⟨v', k1, k2⟩ := indexAddr_sim hE (w := w) (ev_sim R hf hx.1 h1) (ev_sim R hf hx.2 h2) h4
      exact .inl ⟨v', w, by simp [execOp, hop, k1], Step.same R k2⟩
    · cases hd
  | index t x i =>
    have hx := all_of hop hok; simp [Op.operands] at hx
    rw [hop] at hd
    simp only [opD] at hd
    split at hd
    · rename_i a1 a2 h1 h2
      obtain ⟨q, h4, h5⟩ := map_some hd
      cases h5
      obtain ⟨v', k1, k2⟩ := index_sim hE (w := w) (ev_sim R hf hx.1 h1) (ev_sim R hf hx.2 h2) h4
      exact .inl ⟨v', w, by simp [execOp, hop, k1], Step.same R k2⟩
    · cases hd
  | lookup t x k c =>
    have hx := all_of hop hok; simp [Op.operands] at hx
    rw [hop] at hd
    simp only [opD] at hd
    split at hd
    · rename_i a1 a2 h1 h2
      obtain ⟨q, h4, h5⟩ := map_some hd
      cases h5
      obtain ⟨v', k1, k2⟩ := lookup_sim hE R (ev_sim R hf hx.1 h1) (ev_sim R hf hx.2 h2) h4
      exact .inl ⟨v', w, by simp [execOp, hop, k1], Step.same R k2⟩
    · cases hd
  | extract x i =>
    have hx := all_of hop hok; simp [Op.operands] at hx
    rw [hop] at hd
    simp only [opD] at hd
    split at hd
    · rename_i a1 h1
      obtain ⟨q, h4, h5⟩ := map_some hd
      cases h5
      obtain ⟨v', k1, k2⟩ := extract_sim (P := P) (w := w) (ev_sim R hf hx h1) h4
      exact .inl ⟨v', w, by simp [execOp, hop, k1], Step.same R k2⟩
    · cases hd
  | range t x =>
    have hx := all_of hop hok; simp [Op.operands] at hx
    rw [hop] at hd
    simp only [opD] at hd
    split at hd
    · rename_i s hu h1
      cases hd
      have hs := (ev_sim R hf hx h1).string
      obtain ⟨k1, k2⟩ := newObj_sim (w := w) R (o := .siter s 0) (ob := .stringIter s 0) (fun w' hw' => ⟨rfl, hw'⟩)
      refine .inl ⟨.pointer (some ⟨w.heap.size, 0, none⟩), _, ?_, _, k1, k2, ?_⟩
      · simp [execOp, hop, Instr.range, run_underlying hE hu, hs]
      · exact .ptr (Inj.add_self _ _ _)
    · cases hd
  | next it b =>
    have hx := all_of hop hok; simp [Op.operands] at hx
    rw [hop] at hd
    cases b with
    | false => cases hd
    | true =>
      simp only [opD] at hd
      split at hd
      · rename_i r h1
        obtain ⟨i, hi, _, hp⟩ := (ev_sim R hf hx h1).pointer
        split at hd
        · rename_i s pos hb
          obtain ⟨hoff, hob⟩ := R.obj r _ i hb hi
          simp only [hoff, Nat.add_zero] at hp
          have hg : (getObj i.blk).run P w = .ok (.stringIter s pos) w := by simp [getObj, Sem.run, hob]
          have hset := fun o => run_setObjW (P := P) hob (by intro c e f q; cases q) o
          split at hd
          · rename_i hlt
            cases hd
            refine .inl ⟨_, setObjW w i.blk (.stringIter s (pos + (Utf8.decode s pos).2)), ?_, m, Evo.upd hb rfl hi rfl rfl rfl (setObjW_facts ..).size (setObjW_facts ..).other, R.upd hb rfl hi (setObjW_facts ..).size (setObjW_facts ..).other ⟨hoff, setObjW_at hob _⟩, .tuple (.cons (.plain rfl) (.cons (.plain rfl) (.cons (.plain rfl) .nil)))⟩
            simp [execOp, hop, Instr.next, hp, hg, hlt, hset, goInt, intV]
          · rename_i hlt
            cases hd
            refine .inl ⟨_, w, ?_, Step.same R (.tuple (.cons (.plain rfl) .nil))⟩
            simp [execOp, hop, Instr.next, hp, hg, hlt]
        · cases hd
      · cases hd
  | call c =>
    have hx := all_of hop hok
    rw [hop] at hd hc
    simp only [opD] at hd
    split at hd
    · cases hd
    · rename_i args hargs
      have hxa : c.args.toList.all (okX G) = true := by
        simp only [Op.operands, Call.operands, Array.toList_append, List.all_append, Bool.and_eq_true] at hx
        exact hx.2
      have hL := evs_sim R hf hxa hargs
      have hm : c.args.map a.eval = (c.args.toList.map a.eval).toArray := by apply Array.ext'; simp
      cases hcal : c.callee with
      | value f => simp [goCall, hcal] at hc
      | invoke r n => simp [goCall, hcal] at hc
      | builtin b =>
        rw [hcal] at hd
        cases b with
        | len =>
          simp only at hd
          split at hd
          · rename_i t x hts
            obtain ⟨q, h4, h5⟩ := map_some hd
            cases h5
            rcases hLL : c.args.toList.map a.eval with _ | ⟨x', _ | ⟨y', l⟩⟩
            · rw [hLL] at hL; cases hL
            · rw [hLL] at hL hm
              cases hL with
              | cons hv _ =>
                obtain ⟨k1, k2⟩ := len_sim (P := P) hE R (r := o.type) hv hts h4
                refine .inl ⟨_, w, ?_, Step.same R (.plain k2)⟩
                simp only [execOp, hop, resolve, hcal, invoke, builtin, Sem.run_bind, Sem.run_pure, Result.andThen_ok, hm, k1]
            · rw [hLL] at hL; cases hL with | cons _ k => cases k
          · cases hd
        | append =>
          simp only at hd
          split at hd
          · rename_i s x
            rcases hLL : c.args.toList.map a.eval with _ | ⟨x', _ | ⟨y', _ | ⟨z', l⟩⟩⟩
            · rw [hLL] at hL; cases hL
            · rw [hLL] at hL; cases hL with | cons _ k => cases k
            · rw [hLL] at hL hm
              cases hL with
              | cons hv k =>
                cases k with
                | cons hv2 _ =>
                  obtain ⟨v', w', k1, k2⟩ := append_sim (P := P) hE R (r := o.type) hv hv2 hd
                  refine .inl ⟨v', w', ?_, k2⟩
                  simp only [execOp, hop, resolve, hcal, invoke, builtin, Sem.run_bind, Sem.run_pure, Result.andThen_ok, hm, k1]
            · rw [hLL] at hL; cases hL with | cons _ k => cases k with | cons _ k => cases k
          · cases hd
        | copy =>
          simp only at hd
          split at hd
          · rename_i s x
            rcases hLL : c.args.toList.map a.eval with _ | ⟨x', _ | ⟨y', _ | ⟨z', l⟩⟩⟩
            · rw [hLL] at hL; cases hL
            · rw [hLL] at hL; cases hL with | cons _ k => cases k
            · rw [hLL] at hL hm
              cases hL with
              | cons hv k =>
                cases k with
                | cons hv2 _ =>
                  obtain ⟨v', w', k1, k2⟩ := copy_sim (P := P) hE R (r := o.type) hv hv2 hd
                  refine .inl ⟨v', w', ?_, k2⟩
                  simp only [execOp, hop, resolve, hcal, invoke, builtin, Sem.run_bind, Sem.run_pure, Result.andThen_ok, hm, k1]
            · rw [hLL] at hL; cases hL with | cons _ k => cases k with | cons _ k => cases k
          · cases hd
        | min =>
          simp only at hd
          split at hd
          · rename_i s x
            obtain ⟨q, h4, h5⟩ := map_some hd
            cases h5
            rcases hLL : c.args.toList.map a.eval with _ | ⟨x', _ | ⟨y', _ | ⟨z', l⟩⟩⟩
            · rw [hLL] at hL; cases hL
            · rw [hLL] at hL; cases hL with | cons _ k => cases k
            · rw [hLL] at hL hm
              cases hL with
              | cons hv k =>
                cases k with
                | cons hv2 _ =>
                  obtain ⟨k1, k2⟩ := min_sim (P := P) (w := w) hv hv2 h4
                  refine .inl ⟨_, w, ?_, Step.same R (.plain k2)⟩
                  simp only [execOp, hop, resolve, hcal, invoke, builtin, Builtin.min_, Sem.run_bind, Sem.run_pure, Result.andThen_ok, hm, List.foldlM_cons, List.foldlM_nil, k1]
            · rw [hLL] at hL; cases hL with | cons _ k => cases k with | cons _ k => cases k
          · cases hd
        | max =>
          simp only at hd
          split at hd
          · rename_i s x
            obtain ⟨q, h4, h5⟩ := map_some hd
            cases h5
            rcases hLL : c.args.toList.map a.eval with _ | ⟨x', _ | ⟨y', _ | ⟨z', l⟩⟩⟩
            · rw [hLL] at hL; cases hL
            · rw [hLL] at hL; cases hL with | cons _ k => cases k
            · rw [hLL] at hL hm
              cases hL with
              | cons hv k =>
                cases k with
                | cons hv2 _ =>
                  obtain ⟨k1, k2⟩ := max_sim (P := P) (w := w) hv hv2 h4
                  refine .inl ⟨_, w, ?_, Step.same R (.plain k2)⟩
                  simp only [execOp, hop, resolve, hcal, invoke, builtin, Builtin.max_, Sem.run_bind, Sem.run_pure, Result.andThen_ok, hm, List.foldlM_cons, List.foldlM_nil, k1]
            · rw [hLL] at hL; cases hL with | cons _ k => cases k with | cons _ k => cases k
          · cases hd
        | delete =>
          simp only at hd
          split at hd
          · rename_i t rest s x hts
            obtain ⟨q, h4, h5⟩ := map_some hd
            cases h5
            rcases hLL : c.args.toList.map a.eval with _ | ⟨x', _ | ⟨y', _ | ⟨z', l⟩⟩⟩
            · rw [hLL] at hL; cases hL
            · rw [hLL] at hL; cases hL with | cons _ k => cases k
            · rw [hLL] at hL hm
              cases hL with
              | cons hv k =>
                cases k with
                | cons hv2 _ =>
                  obtain ⟨w', k1, k2, k3⟩ := mapDel_sim (P := P) hE R (rt := o.type) hts hv hv2 h4
                  refine .inl ⟨_, w', ?_, m, k2, k3, .tuple .nil⟩
                  simp only [execOp, hop, resolve, hcal, invoke, builtin, Sem.run_bind, Sem.run_pure, Result.andThen_ok, hm, k1]
            · rw [hLL] at hL; cases hL with | cons _ k => cases k with | cons _ k => cases k
          · cases hd
        | _ => cases hd
  | _ => rw [hop] at hd; cases hd
end
end Go.Dm
