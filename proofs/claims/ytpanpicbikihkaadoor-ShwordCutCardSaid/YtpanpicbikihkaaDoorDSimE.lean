/- The machine D, 19: regions in the text's order; what the checks of a region that draws come to. -/
import Derived.Test.YtpanpicbikihkaaDoorDSimD
import Derived.OrdersIn
set_option linter.unusedVariables false
set_option linter.unusedSimpArgs false
namespace Go.Dm

theorem putD_get (fr : T Value) (d : Option Tmp) (v : Value) (t : Nat) : (putD fr d v).get t = if d = some t then some v else fr.get t := by
  cases d with
  | none => simp [putD]
  | some d =>
    simp only [putD, T.get_set, Option.some.injEq]
    by_cases e : t = d
    · subst e; simp
    · rw [if_neg e, if_neg (Ne.symm e)]
theorem put_tmps (a : Act) (d : Option Tmp) (v : Value) (t : Nat) (hd : ∀ u, d = some u → u < a.tmps.size) : (a.put d v).tmps[t]? = if d = some t then some v else a.tmps[t]? := by
  cases d with
  | none => simp [Act.put]
  | some d =>
    simp only [Act.put, Option.some.injEq, Array.getElem?_setIfInBounds]
    by_cases e : d = t
    · subst e; simp [hd d rfl]
    · rw [if_neg e, if_neg e]
theorem put_size (a : Act) (d : Option Tmp) (v : Value) : (a.put d v).tmps.size = a.tmps.size := by
  cases d <;> simp [Act.put]
theorem put_defers (a : Act) (d : Option Tmp) (v : Value) : (a.put d v).defers = a.defers := by
  cases d <;> rfl
theorem HRel.clr {ok : OkC} {G : Nat} {m : Inj} {h : H} {w : World} (R : HRel ok G m h w) : HRel ok G m h.clr w :=
  R.view (fun _ _ _ => rfl) (fun b i hi => (R.dom b i hi).1) R.wf (fun a ha => by cases ha)

def boolOf : Value → Option Bool
  | .bool b => some b
  | _ => none
section
variable {P : Program} {E : Env} {m : Inj} {ops : Array Oper} {fr : T Value}
theorem wanted_sim {tmps : Array Value} {o : Oper} {b : Bool} (hf : ∀ t v, t ∈ looksD ops o → fr.get t = some v → ∃ v', tmps[t]? = some v' ∧ VRel m v v') (hw : wantedD ops o fr = some b) : Region.wanted o (yielded ops tmps) = b := by
  unfold wantedD at hw
  unfold Region.wanted
  cases hg : o.guard with
  | none => rw [hg] at hw; cases hw; rfl
  | some jw =>
    obtain ⟨j, want⟩ := jw
    rw [hg] at hw
    simp only at hw ⊢
    cases hd : (ops[j]?).bind (·.dst) with
    | none => rw [hd] at hw; cases hw
    | some d =>
      rw [hd] at hw
      simp only at hw
      cases hv : fr.get d with
      | none => rw [hv] at hw; cases hw
      | some v =>
        obtain ⟨v', h1, h2⟩ := hf d v (by simp [looksD, hg, hd]) hv
        rw [hv] at hw
        have hy : yielded ops tmps j = boolOf v' := by
          unfold yielded
          rw [hd]
          simp only [Option.bind_some, h1]
          cases v' <;> rfl
        rw [hy]
        cases v with
        | bool c =>
          simp only [Option.some.injEq] at hw
          rw [h2.bool]
          subst hw
          cases c <;> cases want <;> rfl
        | _ =>
          simp only [Option.some.injEq] at hw
          subst hw
          cases h2 <;> first | rfl | (rename_i hp; simp [plain0] at hp; done) | rfl

/-! ### A region in the text's order -/
section
variable (hE : EnvOk P E) {ok : OkC} {G N : Nat} {ck : CK} (C : CallSim P ok G ck) {ro : Option Nat} {Q : Exit → Act → World → Prop}
include hE C in
theorem ops_sim : ∀ (l : List Oper) (k : Nat), (∀ j o, l[j]? = some o → ops[k + j]? = some o) → l.all (okO G N) = true → ∀ {fr : T Value} {h : H} {fr' : T Value} {h' : H}, regD E ck ops l fr h = some (fr', h') →
    ∀ {m : Inj} {a : Act} {w : World}, HRel ok G m h w → FRel m fr a.tmps → a.tmps.size = N →
    (∀ m' a' w', Evo m h w m' h'.clr w' → HRel ok G m' h'.clr w' → FRel m' fr' a'.tmps → a'.tmps.size = N → a'.defers = a.defers → Q .normal a' w') →
    wpOpsIn (FW ro) 0 P ops Q (List.range' k l.length) a w := by
  intro l
  induction l with
  | nil =>
    intro k _ _ fr h fr' h' hr m a w R hf hN hq
    simp only [regD, Option.some.injEq, Prod.mk.injEq] at hr
    obtain ⟨rfl, rfl⟩ := hr
    exact hq m a w ((Evo.refl m h w).view (fun _ _ _ => rfl) (fun _ _ _ => rfl)) R.clr hf hN rfl
  | cons o l ih =>
    intro k hk hok fr h fr' h' hr m a w R hf hN hq
    simp only [List.all_cons, Bool.and_eq_true] at hok
    have ho : ops[k]? = some o := by simpa using hk 0 o rfl
    have hk' : ∀ j o, l[j]? = some o → ops[k + 1 + j]? = some o := fun j o hj => by
      have := hk (j + 1) o (by simpa using hj)
      rwa [Nat.add_assoc, Nat.add_comm 1 j]
    have hdst : ∀ u, o.dst = some u → u < a.tmps.size := fun u hu => by
      have := hok.1
      simp only [okO, Bool.and_eq_true, hu, okD, decide_eq_true_eq] at this
      rw [hN]; exact this.1.2
    rw [List.length_cons, List.range'_succ, wpOpsIn_cons]
    simp only [wpOpIn, ho]
    simp only [regD] at hr
    split at hr
    · rename_i hw
      rw [wanted_sim (fun t v _ ht => hf t v ht) hw]
      simp only [if_true]
      split at hr
      · rename_i v h1 hd
        refine op_wp hE C R.clr hf hok.1 hd ?_
        intro m' v' w' e R' hv
        refine ih (k + 1) hk' hok.2 hr R' ?_ (by rw [put_size]; exact hN) ?_
        · intro t u hu
          rw [putD_get] at hu
          rw [put_tmps _ _ _ _ hdst]
          by_cases hdt : o.dst = some t
          · rw [if_pos hdt] at hu ⊢; cases hu; exact ⟨_, rfl, hv⟩
          · rw [if_neg hdt] at hu ⊢; exact hf.mono e.ext t u hu
        · intro m'' a'' w'' e' R'' hf' hN' hd'
          exact hq m'' a'' w'' ((Evo.view (h2 := h) e (fun _ _ _ => rfl) (fun _ _ _ => rfl)).trans e') R'' hf' hN' (hd'.trans (put_defers ..))
      · cases hr
    · rename_i hw
      rw [wanted_sim (fun t v _ ht => hf t v ht) hw]
      simp only [Bool.false_eq_true, if_false]
      refine ⟨fun _ _ => trivial, ih (k + 1) hk' hok.2 hr R ?_ (by rw [put_size]; exact hN) ?_⟩
      · intro t u hu
        rw [putD_get] at hu
        rw [put_tmps _ _ _ _ hdst]
        by_cases hdt : o.dst = some t
        · rw [if_pos hdt] at hu ⊢; cases hu; exact ⟨_, rfl, VRel.undef m⟩
        · rw [if_neg hdt] at hu ⊢; exact hf t u hu
      · intro m'' a'' w'' e' R'' hf' hN' hd'
        exact hq m'' a'' w'' e' R'' hf' hN' (hd'.trans (put_defers ..))
    · cases hr
end
end

/-! ### Masks -/
def ClosedL (ops : Array Oper) (L : Nat → Prop) (j : Nat) : Prop := ∀ o, ops[j]? = some o → ∀ e ∈ o.after.toList, Region.binds .any e = true → L e.on
theorem foldl_mask {acc : List Nat} {k : Nat} : ∀ (es : List Edge) (s : Nat), (es.foldl (fun s e => if Region.binds .any e then s ||| 2 ^ e.on ||| acc.getD e.on 0 else s) s).testBit k = true →
    s.testBit k = true ∨ ∃ e ∈ es, Region.binds .any e = true ∧ (k = e.on ∨ (acc.getD e.on 0).testBit k = true) := by
  intro es
  induction es with
  | nil => intro s h; exact .inl h
  | cons e es ih =>
    intro s h
    simp only [List.foldl_cons] at h
    rcases ih _ h with h1 | ⟨e', h1, h2, h3⟩
    · by_cases hb : Region.binds .any e = true
      · rw [if_pos hb, Nat.testBit_or, Nat.testBit_or, Nat.testBit_two_pow] at h1
        simp only [Bool.or_eq_true, decide_eq_true_eq] at h1
        rcases h1 with (h1 | h1) | h1
        · exact .inl h1
        · exact .inr ⟨e, List.mem_cons_self .., hb, .inl h1.symm⟩
        · exact .inr ⟨e, List.mem_cons_self .., hb, .inr h1⟩
      · rw [if_neg hb] at h1; exact .inl h1
    · exact .inr ⟨e', List.mem_cons_of_mem _ h1, h2, h3⟩
theorem ancD_spec {ops : Array Oper} {L : Nat → Prop} : ∀ (rest pre : List Oper) (acc : List Nat), ops.toList = pre ++ rest → acc.length = pre.length →
    (∀ j, j < acc.length → ∀ k, (acc.getD j 0).testBit k = true → (∀ i, L i → ClosedL ops L i) → ClosedL ops L j → L k) →
    ∀ j k, ((ancD rest acc).getD j 0).testBit k = true → (∀ i, L i → ClosedL ops L i) → ClosedL ops L j → L k := by
  intro rest
  induction rest with
  | nil =>
    intro pre acc _ _ hacc j k hk hL hj
    rcases Nat.lt_or_ge j acc.length with h | h
    · exact hacc j h k hk hL hj
    · simp [ancD, List.getD_eq_getElem?_getD, List.getElem?_eq_none h] at hk
  | cons o rest ih =>
    intro pre acc hops hlen hacc
    refine ih (pre ++ [o]) (acc ++ [maskD acc o]) (by simp [hops]) (by simp [hlen]) ?_
    intro j hj k hk hL hcl
    rcases Nat.lt_or_ge j acc.length with h | h
    · have : (acc ++ [maskD acc o]).getD j 0 = acc.getD j 0 := by simp [List.getD_eq_getElem?_getD, List.getElem?_append_left h]
      rw [this] at hk
      exact hacc j h k hk hL hcl
    · have hje : j = acc.length := by simp at hj; omega
      subst hje
      have : (acc ++ [maskD acc o]).getD acc.length 0 = maskD acc o := by simp [List.getD_eq_getElem?_getD]
      rw [this] at hk
      have ho : ops[acc.length]? = some o := by
        rw [← Array.getElem?_toList, hops, hlen]; simp
      rcases foldl_mask _ _ hk with h1 | ⟨e, h1, h2, h3⟩
      · simp at h1
      · have he := hcl o ho e h1 h2
        rcases h3 with rfl | h3
        · exact he
        · rcases Nat.lt_or_ge e.on acc.length with h4 | h4
          · exact hacc _ h4 k h3 hL (hL _ he)
          · simp [List.getD_eq_getElem?_getD, List.getElem?_eq_none h4] at h3
theorem anc_spec {ops : Array Oper} {L : Nat → Prop} {j k : Nat} (hk : ((ancD ops.toList []).getD j 0).testBit k = true) (hL : ∀ i, L i → ClosedL ops L i) (hj : ClosedL ops L j) : L k :=
  ancD_spec ops.toList [] [] rfl rfl (fun j hj => by simp at hj) j k hk hL hj

/-! ### Values that are the same -/
theorem eqv0_sound : ∀ (a b : Value), eqv0 a b = true → a = b
  | .iface t a, b, h => by
    cases b <;> simp [eqv0] at h
    rw [h.1, eqv0_sound a _ h.2]
  | .bool _, b, h | .int _ _, b, h | .string _, b, h | .pointer _, b, h | .slice _ _ _, b, h | .map _, b, h | .nilFunc, b, h | .nilIface, b, h => by cases b <;> simp_all [eqv0]
  | .float _ _, b, h | .complex _ _ _, b, h | .chan _, b, h | .func _ _ _, b, h | .agg _, b, h | .tuple _, b, h => by cases b <;> simp [eqv0] at h
theorem eqvL_sound : ∀ {a b : List Value}, eqvL a b = true → a = b := by
  intro a
  induction a with
  | nil => intro b h; cases b <;> simp_all [eqvL]
  | cons x a ih =>
    intro b h
    cases b with
    | nil => simp [eqvL] at h
    | cons y b => simp [eqvL] at h; rw [eqv0_sound _ _ h.1, ih h.2]
theorem eqv_sound {a b : Value} (h : eqv a b = true) : a = b := by
  unfold eqv at h
  split at h
  · rename_i x y; obtain ⟨x⟩ := x; obtain ⟨y⟩ := y; exact congrArg (fun l => Value.agg (Array.mk l)) (eqvL_sound h)
  · rename_i x y; obtain ⟨x⟩ := x; obtain ⟨y⟩ := y; exact congrArg (fun l => Value.tuple (Array.mk l)) (eqvL_sound h)
  · exact eqv0_sound _ _ h

/-! ### The checks -/
structure Pair (E : Env) (ops : Array Oper) (i : Nat) (oi : Oper) (j : Nat) (oj : Oper) : Prop where
  apart : apartD ops oi oj = true
  free : freeD (cls E oi.op) (cls E oj.op) = true
theorem okDraw_spec {E : Env} {ops : Array Oper} (h : okDraw E ops = true) :
    (∀ j oj, ops[j]? = some oj → ∀ e ∈ oj.after.toList, Region.binds .any e = true → e.on < j) ∧
    ∀ i j oi oj, i < j → ops[i]? = some oi → ops[j]? = some oj → ((ancD ops.toList []).getD j 0).testBit i = true ∨ Pair E ops i oi j oj := by
  unfold okDraw at h
  simp only [List.all_eq_true, List.mem_range] at h
  have hlt : ∀ {j : Nat} {o : Oper}, ops[j]? = some o → j < ops.size := fun {j o} hj => (Array.getElem?_eq_some_iff.1 hj).1
  constructor
  · intro j oj hj e he hb
    have := h j (hlt hj)
    rw [hj] at this
    simp only [Bool.and_eq_true, List.all_eq_true] at this
    have := this.1 e he
    simpa [hb] using this
  · intro i j oi oj hij hi hj
    have := h j (hlt hj)
    rw [hj] at this
    simp only [Bool.and_eq_true, List.all_eq_true, List.mem_range] at this
    have := this.2 i hij
    rw [hi] at this
    simp only [pairD, Bool.or_eq_true, Bool.and_eq_true] at this
    exact this.imp id fun h => ⟨h.1, h.2⟩
theorem apartD_spec {ops : Array Oper} {x y : Oper} (h : apartD ops x y = true) :
    (∀ d, x.dst = some d → d ∉ looksD ops y) ∧ (∀ d, x.dst = some d → y.dst ≠ some d) ∧ (∀ d, y.dst = some d → d ∉ looksD ops x) := by
  refine ⟨fun d hd => ?_, fun d hd => ?_, fun d hd => ?_⟩ <;> simp [apartD, hd] at h
  · exact h.1.1
  · exact h.1.2
  · exact h.2
theorem segEnd_ge (E : Env) (ops : Array Oper) (p : Nat) : p ≤ segEnd E ops p := Nat.le_add_right _ _
theorem segEnd_min {E : Env} {ops : Array Oper} {p k : Nat} {o : Oper} (hp : p ≤ k) (hk : k < segEnd E ops p) (ho : ops[k]? = some o) : cls E o.op ≠ .other := by
  unfold segEnd at hk
  have hlt : k - p < (ops.toList.drop p).findIdx fun o => cls E o.op == .other := by omega
  have h1 := List.not_of_lt_findIdx hlt
  have hlen : k - p < (ops.toList.drop p).length := Nat.lt_of_lt_of_le hlt (List.findIdx_le_length)
  have h2 : (ops.toList.drop p)[k - p] = o := by
    have : (ops.toList.drop p)[k - p]? = some o := by
      rw [List.getElem?_drop, show p + (k - p) = k by omega, Array.getElem?_toList]; exact ho
    rw [List.getElem?_eq_getElem hlen] at this
    exact Option.some.inj this
  rw [h2] at h1
  simpa using h1
theorem segEnd_le {E : Env} {ops : Array Oper} {p : Nat} (hp : p ≤ ops.size) : segEnd E ops p ≤ ops.size := by
  unfold segEnd
  have := List.findIdx_le_length (p := fun o : Oper => cls E o.op == .other) (xs := ops.toList.drop p)
  simp at this
  omega
theorem segEnd_at {E : Env} {ops : Array Oper} {p : Nat} (h : segEnd E ops p < ops.size) : ∃ o, ops[segEnd E ops p]? = some o ∧ cls E o.op = .other := by
  refine ⟨ops[segEnd E ops p], by simp [h], ?_⟩
  have hlt : (ops.toList.drop p).findIdx (fun o => cls E o.op == .other) < (ops.toList.drop p).length := by
    have := h
    unfold segEnd at this
    simp only [List.length_drop, Array.length_toList]
    omega
  have h1 := List.findIdx_getElem (w := hlt)
  simp only [beq_iff_eq] at h1
  rw [← h1]
  congr 1
  have h2 : (ops.toList.drop p)[List.findIdx (fun o => cls E o.op == .other) (ops.toList.drop p)]? = ops[segEnd E ops p]? := by
    rw [List.getElem?_drop, Array.getElem?_toList]; rfl
  rw [List.getElem?_eq_getElem hlt, Array.getElem?_eq_getElem h] at h2
  rw [Option.some.inj h2]
end Go.Dm
