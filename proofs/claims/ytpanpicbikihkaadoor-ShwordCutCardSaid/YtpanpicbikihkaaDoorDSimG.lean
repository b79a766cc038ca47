/- The machine D, 21: a region that draws. -/
import Derived.Test.YtpanpicbikihkaaDoorDSimF
set_option linter.unusedVariables false
set_option linter.unusedSimpArgs false
namespace Go.Dm

/-- The slots of a list, nothing more. -/
def onlyF (fr : T Value) : List Tmp → T Value
  | [] => .leaf
  | t :: ts => (onlyF fr ts).set t (fr.get t)
theorem get_onlyF (fr : T Value) (t : Tmp) : ∀ ts : List Tmp, (onlyF fr ts).get t = if t ∈ ts then fr.get t else none := by
  intro ts
  induction ts with
  | nil => simp [onlyF]
  | cons u ts ih =>
    simp only [onlyF, T.get_set, ih, List.mem_cons]
    by_cases e : t = u
    · subst e; simp
    · simp [e]
theorem ev_onlyF {ops : Array Oper} {o : Oper} {fr : T Value} {x : Operand} (hx : x ∈ o.op.operands.toList) : ev fr x = ev (onlyF fr (looksD ops o)) x := by
  cases x with
  | tmp t =>
    simp only [ev, get_onlyF]
    rw [if_pos]
    exact List.mem_append_left _ (List.mem_filterMap.2 ⟨.tmp t, hx, rfl⟩)
  | _ => rfl

section
variable {E : Env} {ops : Array Oper} {S : Nat → T Value × H} {ck : CK}
structure Slots (ops : Array Oper) (S : Nat → T Value × H) (N : Nat) (L : Nat → Prop) (m : Inj) (a : Act) : Prop where
  size : a.tmps.size = N
  get : ∀ i, i ≤ ops.size → ∀ t v, (S i).1.get t = some v → (∀ k o, ops[k]? = some o → o.dst = some t → (L k ↔ k < i)) → ∃ v', a.tmps[t]? = some v' ∧ VRel m v v'
variable (hS : ∀ i o, ops[i]? = some o → StepD E ck ops o (S i) (S (i + 1))) (hD : okDraw E ops = true)
  {L : Nat → Prop} {m : Inj} (hL : ∀ i, L i → ClosedL ops L i) {N : Nat} {a : Act} (I : Slots ops S N L m a)
  {j : Nat} {o : Oper} (ho : ops[j]? = some o) (hn : ¬ L j) (hj : ClosedL ops L j)
include hD hL I ho hn hj in
theorem looks_ok {t : Tmp} {v : Value} (ht : t ∈ looksD ops o) (hv : (S j).1.get t = some v) : ∃ v', a.tmps[t]? = some v' ∧ VRel m v v' := by
  refine I.get j (Nat.le_of_lt (get_lt ho)) t v hv ?_
  intro k q hk hq
  rcases Nat.lt_trichotomy k j with h | h | h
  · exact iff_of_true (back hD hL hj hk ho h fun hp => (apartD_spec hp.apart).1 t hq ht) h
  · subst h; exact iff_of_false hn (Nat.lt_irrefl _)
  · exact iff_of_false (fore hD hL hn hk ho h fun hp => (apartD_spec hp.apart).2.2 t hq ht) (by omega)
theorem stepD_get {o : Oper} {s s' : T Value × H} (hs : StepD E ck ops o s s') {t : Tmp} (ht : o.dst ≠ some t) : s'.1.get t = s.1.get t := by
  rcases hs with ⟨_, v, h', _, rfl⟩ | ⟨_, rfl⟩ <;> simp only [putD_get, if_neg ht]
include hS in
theorem still_get {i : Nat} {t : Tmp} : ∀ (d : Nat), i + d ≤ ops.size → (∀ k q, i ≤ k → k < i + d → ops[k]? = some q → q.dst ≠ some t) → (S (i + d)).1.get t = (S i).1.get t := by
  intro d
  induction d with
  | zero => intro _ _; rfl
  | succ d ih =>
    intro hd hc
    have hq : ops[i + d]? = some ops[i + d] := Array.getElem?_eq_getElem (by omega)
    rw [← Nat.add_assoc, stepD_get (hS _ _ hq) (hc _ _ (by omega) (by omega) hq)]
    exact ih (by omega) fun k q h1 h2 => hc k q h1 (by omega)
include hS hD hL I ho hn hj in
theorem slots_put (hdst : okD N o.dst = true) {m' : Inj} (he : Ext m m') {v v' : Value} (hv : VRel m' v v') (hF : (S (j + 1)).1 = putD (S j).1 o.dst v) : Slots ops S N (fun k => k = j ∨ L k) m' (a.put o.dst v') where
  size := (put_size ..).trans I.size
  get i hi t u hu hw := by
    have hdst : ∀ u, o.dst = some u → u < a.tmps.size := fun u hu => by
      rw [hu] at hdst
      rw [I.size]; simpa [okD] using hdst
    rw [put_tmps _ _ _ _ hdst]
    by_cases hdt : o.dst = some t
    · rw [if_pos hdt]
      have hji : j < i := (hw j o ho hdt).1 (.inl rfl)
      have h1 : (S i).1.get t = (S (j + 1)).1.get t := by
        have := still_get hS (i := j + 1) (t := t) (i - (j + 1)) (by omega) ?_
        · rwa [show j + 1 + (i - (j + 1)) = i by omega] at this
        · intro k q hk1 hk2 hk hq
          have hk3 : k < i := by omega
          rcases (hw k q hk hq).2 hk3 with h | h
          · omega
          · exact fore hD hL hn hk ho (by omega) (fun hp => (apartD_spec hp.apart).2.1 t hdt hq) h
      rw [h1, hF, putD_get, if_pos hdt] at hu
      cases hu
      exact ⟨_, rfl, hv⟩
    · rw [if_neg hdt]
      obtain ⟨v1, h1, h2⟩ := I.get i hi t u hu fun k q hk hq => by
        rw [← hw k q hk hq]
        refine ⟨.inr, fun h => h.resolve_left fun e => ?_⟩
        subst e; rw [ho] at hk; cases hk; exact hdt hq
      exact ⟨v1, h1, h2.mono he⟩
end

section
variable {P : Program} {E : Env} (hE : EnvOk P E) {ok : OkC} {G N : Nat} {ck : CK} (C : CallSim P ok G ck) {ro : Option Nat} {Q : Exit → Act → World → Prop} {ops : Array Oper}
  {S : Nat → T Value × H} (hS : ∀ i o, ops[i]? = some o → StepD E ck ops o (S i) (S (i + 1))) (hD : okDraw E ops = true) (hok : ops.toList.all (okO G N) = true)
  (hlax : ∀ j k oj ok, ops[j]? = some oj → ops[k]? = some ok → cls E oj.op = .read → cls E ok.op = .other → ((ancD ops.toList []).getD (max j k) 0).testBit (min j k) = false → wantedD ops oj (S j).1 = some true →
      ∃ v x y, opD E ck oj.op (S j).1 (hh S j) = some (v, x) ∧ opD E ck oj.op (S j).1 (hh S (if k < j then k else segEnd E ops (k + 1))) = some (v, y))
  {m0 : Inj} {h0 : H} {w0 : World} {a0 : Act}
  (hQ : ∀ m' a' w', Evo m0 h0 w0 m' (hh S ops.size) w' → HRel ok G m' (hh S ops.size) w' → FRel m' (S ops.size).1 a'.tmps → a'.tmps.size = N → a'.defers = a0.defers → Q .normal a' w')
abbrev LL (listed : Array Bool) : Nat → Prop := fun i => listed.getD i false = true
theorem LL_set {listed : Array Bool} {j : Nat} (hj : j < listed.size) : LL (listed.setIfInBounds j true) = fun k => k = j ∨ LL listed k := by
  funext k
  apply propext
  unfold LL
  simp only [Array.getD_eq_getD_getElem?, Array.getElem?_setIfInBounds]
  by_cases e : j = k
  · subst e; simp [hj]
  · rw [if_neg e]
    exact ⟨.inr, fun h => h.resolve_left (Ne.symm e)⟩
include hE C hS hD hok hlax hQ in
theorem any_sim : ∀ (fuel : Nat) (listed : Array Bool) (a : Act) (w : World) (m : Inj) (p : Nat), listed.size = ops.size → listed.toList.count false ≤ fuel → (∀ i, LL listed i → ClosedL ops (LL listed) i) →
    HP E ops S ok G m0 h0 w0 (LL listed) m w p → Slots ops S N (LL listed) m a → a.defers = a0.defers → wpAnyIn (FW ro) 0 P .any ops Q fuel listed a w := by
  have fin : ∀ (listed : Array Bool) (a : Act) (w : World) (m : Inj) (p : Nat), (∀ i, i < ops.size → LL listed i) → HP E ops S ok G m0 h0 w0 (LL listed) m w p → Slots ops S N (LL listed) m a → a.defers = a0.defers → Q .normal a w := by
    intro listed a w m p hall I J hd
    have hs : segEnd E ops p = ops.size := by
      have h1 := segEnd_le (E := E) I.ple
      rcases Nat.lt_or_ge (segEnd E ops p) ops.size with h | h
      · obtain ⟨q, hq, hcq⟩ := segEnd_at (E := E) (ops := ops) (p := p) h
        have := (I.pW _ _ hq hcq).1 (hall _ h)
        have := segEnd_ge E ops p
        omega
      · omega
    have e := I.evo
    have R := I.rel
    rw [hs] at e R
    refine hQ m a w e R ?_ J.size hd
    intro t v hv
    exact J.get ops.size (Nat.le_refl _) t v hv fun k q hk _ => iff_of_true (hall k (get_lt hk)) (get_lt hk)
  have nil : ∀ (listed : Array Bool), listed.size = ops.size → Region.ready .any ops listed = [] → ∀ i, i < ops.size → LL listed i := by
    intro listed hsz hr i
    induction i using Nat.strongRecOn with
    | _ i ih =>
      intro hi
      cases hb : listed.getD i false with
      | true => exact hb
      | false =>
        have hoi : ops[i]? = some ops[i] := Array.getElem?_eq_getElem hi
        have : i ∈ Region.ready .any ops listed := mem_ready.2 ⟨by
          have : i < listed.size := by omega
          simp only [Array.getD_eq_getD_getElem?, Array.getElem?_eq_getElem this, Option.getD_some] at hb ⊢; exact hb, _, hoi, fun e he hbi => by
            have hlt := (okDraw_spec hD).1 i _ hoi e (by simpa using he) hbi
            exact ih _ hlt (by omega)⟩
        rw [hr] at this
        cases this
  intro fuel
  induction fuel with
  | zero =>
    intro listed a w m p hsz hc hL I J hd
    have hall : ∀ i, i < ops.size → LL listed i := by
      intro i hi
      have h0 : listed.toList.count false = 0 := by omega
      have h1 : i < listed.size := by omega
      rw [List.count_eq_zero] at h0
      have h2 : listed[i] ∈ listed.toList := by simp
      show listed.getD i false = true
      simp only [Array.getD_eq_getD_getElem?, Array.getElem?_eq_getElem h1, Option.getD_some]
      cases hb : listed[i] with
      | true => rfl
      | false => rw [hb] at h2; exact absurd h2 h0
    refine ⟨?_, fin listed a w m p hall I J hd⟩
    refine List.eq_nil_iff_forall_not_mem.2 fun j hj => ?_
    obtain ⟨h1, o, ho, _⟩ := mem_ready.1 hj
    have := hall j (get_lt ho)
    have h3 : j < listed.size := by rw [hsz]; exact get_lt ho
    unfold LL at this
    simp only [Array.getD_eq_getD_getElem?, Array.getElem?_eq_getElem h3, Option.getD_some] at this h1
    rw [this] at h1; cases h1
  | succ fuel ih =>
    intro listed a w m p hsz hc hL I J hd
    refine ⟨fun hr => fin listed a w m p (nil listed hsz hr) I J hd, fun j hr => ?_⟩
    obtain ⟨h1, o, ho, hafter⟩ := mem_ready.1 hr
    have hlt := get_lt ho
    have hjs : j < listed.size := by omega
    have hn : ¬ LL listed j := by
      unfold LL
      simp only [Array.getD_eq_getD_getElem?, Array.getElem?_eq_getElem hjs, Option.getD_some] at h1 ⊢
      rw [h1]; simp
    have hj : ClosedL ops (LL listed) j := fun q hq e he hb => by
      rw [ho] at hq; cases hq
      exact hafter e (by simpa using he) hb
    have hokj : okO G N o = true := by
      have := List.all_eq_true.1 hok o (by rw [← Array.getElem?_toList] at ho; exact List.mem_of_getElem? ho)
      exact this
    have hdst : okD N o.dst = true := by
      simp only [okO, Bool.and_eq_true] at hokj
      exact hokj.1.2
    have hLset := LL_set hjs
    have hsz' : (listed.setIfInBounds j true).size = ops.size := by simpa using hsz
    have hcnt : (listed.setIfInBounds j true).toList.count false ≤ fuel := by
      have hjf : listed.toList[j]? = some false := by
        simp only [Array.getD_eq_getD_getElem?, Array.getElem?_eq_getElem hjs, Option.getD_some] at h1
        rw [Array.getElem?_toList, Array.getElem?_eq_getElem hjs, h1]
      have hlen : j < listed.toList.length := by simpa using hjs
      have hx : listed.toList[j] = false := by rw [List.getElem?_eq_getElem hlen] at hjf; exact Option.some.inj hjf
      have hcs := List.count_set (a := true) (b := false) hlen
      have hpos : 0 < listed.toList.count false := List.count_pos_iff.2 (hx ▸ List.getElem_mem hlen)
      rw [Array.toList_setIfInBounds, hcs]
      simp only [hx, beq_self_eq_true, if_true]
      show _ - 1 + 0 ≤ fuel
      omega
    have hLcl : ∀ i, LL (listed.setIfInBounds j true) i → ClosedL ops (LL (listed.setIfInBounds j true)) i := by
      rw [hLset]
      intro i hi q hq e he hb
      rcases hi with rfl | hi
      · exact .inr (hj q hq e he hb)
      · exact .inr (hL i hi q hq e he hb)
    have hlooks : ∀ t v, t ∈ looksD ops o → (S j).1.get t = some v → ∃ v', a.tmps[t]? = some v' ∧ VRel m v v' := fun t v ht hv => looks_ok hD hL J ho hn hj ht hv
    simp only [wpOpIn, ho]
    rcases hS j o ho with ⟨hw, v, h', hdo, hnext⟩ | ⟨hw, hnext⟩
    · rw [wanted_sim hlooks hw]
      simp only [if_true]
      have hfr : FRel m (onlyF (S j).1 (looksD ops o)) a.tmps := by
        intro t u hu
        rw [get_onlyF] at hu
        by_cases ht : t ∈ looksD ops o
        · rw [if_pos ht] at hu; exact hlooks t u ht hu
        · rw [if_neg ht] at hu; cases hu
      have hn1 : h'.clr = hh S (j + 1) := by show _ = (S (j + 1)).2.clr; rw [hnext]
      have hF1 : (S (j + 1)).1 = putD (S j).1 o.dst v := by rw [hnext]
      by_cases hcl : cls E o.op = .other
      · have hs := other_at hD I hL ho hn hj hcl
        have R := I.rel
        rw [hs] at R
        refine op_wp hE C R hfr hokj (by rw [← opD_congr fun x hx => ev_onlyF hx]; exact hdo) ?_
        intro m' v' w' e R' hv
        refine ih _ _ _ m' (j + 1) hsz' hcnt hLcl ?_ ?_ ((put_defers ..).trans hd)
        · rw [hLset]; exact heap_other hS hD I hL ho hn hj hcl e R' hn1
        · rw [hLset]; exact slots_put hS hD hL J ho hn hj hdst e.ext hv hF1
      · obtain ⟨hx, hx', Rx, hdx, hpost⟩ := heap_step hS hD I hL ho hn hj hcl hlax hw hdo hn1
        refine op_wp hE C Rx hfr hokj (by rw [← opD_congr fun x hx => ev_onlyF hx]; exact hdx) ?_
        intro m' v' w' e R' hv
        refine ih _ _ _ m' p hsz' hcnt hLcl ?_ ?_ ((put_defers ..).trans hd)
        · rw [hLset]; exact hpost m' w' e R'
        · rw [hLset]; exact slots_put hS hD hL J ho hn hj hdst e.ext hv hF1
    · rw [wanted_sim hlooks hw]
      simp only [Bool.false_eq_true, if_false]
      have hn1 : (S j).2.clr = hh S (j + 1) := by show _ = (S (j + 1)).2.clr; rw [hnext]
      have hF1 : (S (j + 1)).1 = putD (S j).1 o.dst undef := by rw [hnext]
      refine ⟨fun _ _ => trivial, ?_⟩
      by_cases hcl : cls E o.op = .other
      · have hs := other_at hD I hL ho hn hj hcl
        have R := I.rel
        rw [hs] at R
        refine ih _ _ _ m (j + 1) hsz' hcnt hLcl ?_ ?_ ((put_defers ..).trans hd)
        · rw [hLset]; exact heap_other hS hD I hL ho hn hj hcl (Evo.refl ..) R hn1
        · rw [hLset]; exact slots_put hS hD hL J ho hn hj hdst (Ext.refl m) (VRel.undef m) hF1
      · refine ih _ _ _ m p hsz' hcnt hLcl ?_ ?_ ((put_defers ..).trans hd)
        · rw [hLset]
          exact heap_stay I ho hcl I.evo I.rel fun k q hk hks _ hnk hc' hnew => I.un k q hk hks hnk hc' hnew
        · rw [hLset]; exact slots_put hS hD hL J ho hn hj hdst (Ext.refl m) (VRel.undef m) hF1
end
end Go.Dm
