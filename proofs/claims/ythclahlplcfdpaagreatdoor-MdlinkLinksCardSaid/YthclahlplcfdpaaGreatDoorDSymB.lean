/- The machine D, 28: a calculus on D itself: code that comes to an end, told by what holds then. -/
import Derived.Test.YthclahlplcfdpaaGreatDoorDSimM
set_option linter.unusedVariables false
set_option linter.unusedSimpArgs false
namespace Go.Dm

/-- From some fuel on the answer is a. -/
def Evt {α : Type} (F : Nat → Option α) (a : α) : Prop := ∃ n0, ∀ n, n0 ≤ n → F n = some a
theorem Evt.const {α : Type} {F : Nat → Option α} {a : α} (h : ∀ n, F n = some a) : Evt F a := ⟨0, fun n _ => h n⟩
theorem Evt.bind {α β : Type} {F : Nat → Option α} {a : α} {G : Nat → Option β} {b : β} (h : Evt F a) (k : Evt G b) {L : Nat → Option β} (e : ∀ n, F n = some a → G n = some b → L n = some b) : Evt L b := by
  obtain ⟨n1, h1⟩ := h
  obtain ⟨n2, h2⟩ := k
  exact ⟨max n1 n2, fun n hn => e n (h1 n (by omega)) (h2 n (by omega))⟩
theorem Evt.map {α β : Type} {F : Nat → Option α} {a : α} (h : Evt F a) {L : Nat → Option β} {b : β} (e : ∀ n, F n = some a → L n = some b) : Evt L b := by
  obtain ⟨n1, h1⟩ := h
  exact ⟨n1, fun n hn => e n (h1 n hn)⟩
theorem Evt.succ {α : Type} {F : Nat → Option α} {a : α} (h : Evt (fun n => F (n + 1)) a) : Evt F a := by
  obtain ⟨n1, h1⟩ := h
  refine ⟨n1 + 1, fun n hn => ?_⟩
  obtain ⟨m, rfl⟩ : ∃ m, n = m + 1 := ⟨n - 1, by omega⟩
  exact h1 m (by omega)

abbrev Post := Ex → T Value → H → Prop
abbrev VPost := Value → H → Prop

/-! ### What an operation comes to -/
def OptW (o : Option (Value × H)) (K : VPost) : Prop := ∃ r, o = some r ∧ K r.1 r.2
def ValW (o : Option Value) (h : H) (K : VPost) : Prop := ∃ v, o = some v ∧ K v h
def HpW (o : Option H) (v : Value) (K : VPost) : Prop := ∃ h', o = some h' ∧ K v h'
theorem OptW.some (v : Value) (h : H) (K : VPost) : OptW (some (v, h)) K = K v h := by simp [OptW]
theorem OptW.none (K : VPost) : OptW none K = False := by simp [OptW]
theorem OptW.mapV (o : Option Value) (h : H) (K : VPost) : OptW (o.map fun x => (x, h)) K = ValW o h K := by cases o <;> simp [OptW, ValW]
theorem OptW.mapH (o : Option H) (v : Value) (K : VPost) : OptW (o.map fun x => (v, x)) K = HpW o v K := by cases o <;> simp [OptW, HpW]
theorem OptW.ite (c : Prop) [Decidable c] (o : Option (Value × H)) (K : VPost) : OptW (if c then o else Option.none) K = (c ∧ OptW o K) := by by_cases h : c <;> simp [h, OptW]
theorem OptW.ite' (c : Prop) [Decidable c] (o : Option (Value × H)) (K : VPost) : OptW (if c then Option.none else o) K = (¬ c ∧ OptW o K) := by by_cases h : c <;> simp [h, OptW]
theorem ValW.some (v : Value) (h : H) (K : VPost) : ValW (some v) h K = K v h := by simp [ValW]
theorem ValW.none (h : H) (K : VPost) : ValW none h K = False := by simp [ValW]
theorem ValW.ite (c : Prop) [Decidable c] (o : Option Value) (h : H) (K : VPost) : ValW (if c then o else Option.none) h K = (c ∧ ValW o h K) := by by_cases e : c <;> simp [e, ValW]
theorem ValW.ite' (c : Prop) [Decidable c] (o : Option Value) (h : H) (K : VPost) : ValW (if c then Option.none else o) h K = (¬ c ∧ ValW o h K) := by by_cases e : c <;> simp [e, ValW]
theorem HpW.some (v : Value) (h : H) (K : VPost) : HpW (some h) v K = K v h := by simp [HpW]
theorem HpW.none (v : Value) (K : VPost) : HpW none v K = False := by simp [HpW]
theorem HpW.ite (c : Prop) [Decidable c] (o : Option H) (v : Value) (K : VPost) : HpW (if c then o else Option.none) v K = (c ∧ HpW o v K) := by by_cases e : c <;> simp [e, HpW]
theorem HpW.ite' (c : Prop) [Decidable c] (o : Option H) (v : Value) (K : VPost) : HpW (if c then Option.none else o) v K = (¬ c ∧ HpW o v K) := by by_cases e : c <;> simp [e, HpW]

section
variable (E : Env) (X : Plug)
def CallW (tg : Tg) (args : List Value) (h : H) (K : VPost) : Prop := ∃ v h', Evt (fun n => callD E X n tg args h) (v, h') ∧ K v h'
def callFnW (f : Value) (args : List Value) (h : H) (K : VPost) : Prop :=
  match f with
  | .func (.func g) first cap => CallW E X (.fn g) (first.toList ++ args ++ cap.toList) h K
  | .func (.yield l) _ _ => CallW E X (.yd l) args h K
  | _ => False
abbrev ckN : CK := fun _ _ _ => none
def calleeW (c : Callee) (full : Op) (args : List Value) (fr : T Value) (h : H) (K : VPost) : Prop :=
  match c with
  | .value f => match ev fr f with
    | some v => callFnW E X v args h K
    | none => False
  | .invoke r name => match ev fr r with
    | some (.iface t v) => match methodD E t v name with
      | some (f, rv) => CallW E X (.fn f) (rv :: args) h K
      | none => False
    | _ => False
  | .builtin _ => OptW (opD E ckN full fr h) K
def opW (o : Op) (fr : T Value) (h : H) (K : VPost) : Prop :=
  match o with
  | .call c => match evs fr c.args.toList with
    | none => False
    | some args => calleeW E X c.callee (.call c) args fr h K
  | o => OptW (opD E ckN o fr h) K
def GdW (t : Bool) (o : Oper) (fr : T Value) (h : H) (A B : VPost) : Prop := if t then opW E X o.op fr h.clr A else B undef h
/-- The operations from one on. -/
def regW (ops : Array Oper) : List Oper → T Value → H → (T Value → H → Prop) → Prop
  | [], fr, h, K => K fr h
  | o :: rest, fr, h, K => match wantedD ops o fr with
    | some t => GdW E X t o fr h (fun v h' => regW ops rest (putD fr o.dst v) h' K) (fun v h' => regW ops rest (putD fr o.dst v) h' K)
    | none => False
def regK (ops : Array Oper) (rest : List Oper) (fr : T Value) (dst : Option Tmp) (K : T Value → H → Prop) : VPost := fun v h' => regW E X ops rest (putD fr dst v) h' K
def laxW (ops : Array Oper) (draw : Bool) (fr : T Value) (h : H) : Prop := draw = true → ∃ n0, ∀ n, n0 ≤ n → laxD E (callD E X n) ops fr h (laxPairs E ops) = true
/-- No region but those of L needs to be looked at. -/
def noLax (E : Env) (L : List Nat) : Code → Bool
  | .region i ops draw => L.contains i || !draw || (laxPairs E ops).isEmpty
  | .seq a b => noLax E L a && noLax E L b
  | .cond _ a b => noLax E L a && noLax E L b
  | .block _ c => noLax E L c
  | .loop c => noLax E L c
  | .scope c => noLax E L c
  | _ => true
def laxN (L : List Nat) (i : Nat) (ops : Array Oper) (draw : Bool) (fr : T Value) (h : H) : Prop := L.contains i = true → laxW E X ops draw fr h
def W (x : Code) (sk : Option Nat) (Q : Post) (fr : T Value) (h : H) : Prop := ∃ e fr' h', Evt (fun n => execD E (callD E X n) n x sk fr h) (e, fr', h') ∧ Q e fr' h'
/-- The branch that a test opens. -/
def BrW (t : Bool) (A B : Prop) : Prop := if t then A else B
def regPost (Q : Post) : T Value → H → Prop := fun fr h => Q .normal fr h.clr
def blockPost (id : Nat) (Q : Post) : Post := fun e fr h => match e with
  | .exit i => if i = id then Q .normal fr h else Q (.exit i) fr h
  | e => Q e fr h
def wpd (L : List Nat) : Code → Option Nat → Post → T Value → H → Prop
  | .skip, none, Q, fr, h => Q .normal fr h
  | .label _, none, Q, fr, h => Q .normal fr h
  | .label l, some l', Q, fr, h => l = l' ∧ Q .normal fr h
  | .region i ops draw, none, Q, fr, h => laxN E X L i ops draw fr h ∧ regW E X ops ops.toList fr h (regPost Q)
  | .seq a b, none, Q, fr, h => wpd L a none (fun e fr h => match e with | .normal => wpd L b none Q fr h | e => Q e fr h) fr h
  | .seq a b, some l, Q, fr, h => if hasLabel a l then wpd L a (some l) (fun e fr h => match e with | .normal => wpd L b none Q fr h | e => Q e fr h) fr h else wpd L b (some l) Q fr h
  | .cond c a b, none, Q, fr, h => match ev fr c with
    | some (.bool t) => BrW t (wpd L a none Q fr h) (wpd L b none Q fr h)
    | _ => False
  | .block id c, none, Q, fr, h => wpd L c none (blockPost id Q) fr h
  | .exit id, none, Q, fr, h => Q (.exit id) fr h
  | .goto l, none, Q, fr, h => Q (.goto l) fr h
  | .ret, none, Q, fr, h => Q .ret fr h
  | x, sk, Q, fr, h => noLax E L x = true → W E X x sk Q fr h
def seqPost (L : List Nat) (b : Code) (Q : Post) : Post := fun e fr h => match e with | .normal => wpd E X L b none Q fr h | e => Q e fr h
end

section
variable {E : Env} {X : Plug}
theorem CallW.mono {tg : Tg} {args : List Value} {h : H} {K K' : VPost} (c : CallW E X tg args h K) (k : ∀ v h', K v h' → K' v h') : CallW E X tg args h K' := by
  obtain ⟨v, h', e, q⟩ := c; exact ⟨v, h', e, k _ _ q⟩
theorem W.mono {x : Code} {sk : Option Nat} {Q Q' : Post} {fr : T Value} {h : H} (c : W E X x sk Q fr h) (k : ∀ e fr h, Q e fr h → Q' e fr h) : W E X x sk Q' fr h := by
  obtain ⟨e, fr', h', a, q⟩ := c; exact ⟨e, fr', h', a, k _ _ _ q⟩

theorem opD_ck {ck ck' : CK} {o : Op} {fr : T Value} {h : H} (ho : ∀ c, o ≠ .call c) : opD E ck o fr h = opD E ck' o fr h := by
  cases o with
  | call c => exact absurd rfl (ho c)
  | makeFunc f a b => cases f <;> rfl
  | makeMap t r => cases r <;> rfl
  | next i s => cases s <;> rfl
  | _ => rfl
theorem opW_sound {o : Op} {fr : T Value} {h : H} {K : VPost} (w : opW E X o fr h K) : ∃ v h', Evt (fun n => opD E (callD E X n) o fr h) (v, h') ∧ K v h' := by
  by_cases ho : ∃ c, o = .call c
  · obtain ⟨c, rfl⟩ := ho
    simp only [opW] at w
    split at w
    · exact absurd w id
    · rename_i args ha
      unfold calleeW at w
      split at w
      · rename_i f hc
        split at w
        · rename_i v hv
          unfold callFnW at w
          split at w
          · obtain ⟨v', h', e, q⟩ := w
            exact ⟨v', h', e.map fun n hn => by simp only [opD, ha, hc, hv, callFnD]; exact hn, q⟩
          · obtain ⟨v', h', e, q⟩ := w
            exact ⟨v', h', e.map fun n hn => by simp only [opD, ha, hc, hv, callFnD]; exact hn, q⟩
          · exact absurd w id
        · exact absurd w id
      · rename_i r name hc
        split at w
        · rename_i t v hv
          split at w
          · rename_i f rv hm
            obtain ⟨v', h', e, q⟩ := w
            exact ⟨v', h', e.map fun n hn => by simp only [opD, ha, hc, hv, hm]; exact hn, q⟩
          · exact absurd w id
        · exact absurd w id
      · rename_i b hc
        obtain ⟨⟨v', h'⟩, e, q⟩ := w
        refine ⟨v', h', Evt.const fun n => ?_, q⟩
        rw [← e]
        simp only [opD, ha]
        rw [hc]
        cases b <;> rfl
  · have hw : OptW (opD E ckN o fr h) K := by
      unfold opW at w
      split at w
      · exact absurd ⟨_, rfl⟩ ho
      · exact w
    obtain ⟨⟨v', h'⟩, e, q⟩ := hw
    exact ⟨v', h', Evt.const fun n => by rw [← e]; exact opD_ck fun c hc => ho ⟨c, hc⟩, q⟩
theorem regW_sound {ops : Array Oper} : ∀ {l : List Oper} {fr : T Value} {h : H} {K : T Value → H → Prop}, regW E X ops l fr h K → ∃ fr' h', Evt (fun n => regD E (callD E X n) ops l fr h) (fr', h') ∧ K fr' h' := by
  intro l
  induction l with
  | nil => intro fr h K w; exact ⟨fr, h, Evt.const fun n => rfl, w⟩
  | cons o rest ih =>
    intro fr h K w
    simp only [regW] at w
    split at w
    · rename_i t ht
      unfold GdW at w
      cases t with
      | true =>
        rw [if_pos rfl] at w
        obtain ⟨v, h1, e1, q1⟩ := opW_sound w
        obtain ⟨fr', h', e2, q2⟩ := ih q1
        exact ⟨fr', h', e1.bind e2 fun n a b => by simp only [regD, ht, a]; exact b, q2⟩
      | false =>
        rw [if_neg (by decide)] at w
        obtain ⟨fr', h', e2, q2⟩ := ih w
        exact ⟨fr', h', e2.map fun n b => by simp only [regD, ht]; exact b, q2⟩
    · exact absurd w id
theorem Evt.max {α : Type} {F : Nat → Option α} {a : α} (h : Evt F a) : ∃ n0, ∀ n, n0 ≤ n → F n = some a := h
theorem wpd_sound {L : List Nat} : ∀ {x : Code} {sk : Option Nat} {Q : Post} {fr : T Value} {h : H}, noLax E L x = true → wpd E X L x sk Q fr h → W E X x sk Q fr h := by
  intro x
  induction x with
  | skip => intro sk Q fr h hx w; cases sk with | none => exact ⟨_, _, _, Evt.const fun n => rfl, w⟩ | some l => exact w hx
  | label l =>
    intro sk Q fr h hx w
    cases sk with
    | none => exact ⟨_, _, _, Evt.const fun n => rfl, w⟩
    | some l' => obtain ⟨e, w⟩ := w; exact ⟨_, _, _, Evt.const fun n => by simp only [execD, e, if_true], w⟩
  | region i ops draw =>
    intro sk Q fr h hx w
    cases sk with
    | some l => exact w hx
    | none =>
      obtain ⟨hl', w⟩ := w
      have hl : laxW E X ops draw fr h := by
        simp only [noLax, Bool.or_eq_true, Bool.not_eq_true', List.isEmpty_iff] at hx
        rcases hx with (hx | hx) | hx
        · exact hl' hx
        · intro hd; rw [hd] at hx; cases hx
        · intro _; exact ⟨0, fun n _ => by rw [hx]; rfl⟩
      obtain ⟨fr', h', e, q⟩ := regW_sound w
      refine ⟨.normal, fr', h'.clr, ?_, q⟩
      cases draw with
      | false => exact e.map fun n hn => by simp only [execD, hn, Bool.false_and]; rfl
      | true =>
        obtain ⟨n1, h1⟩ := hl rfl
        obtain ⟨n2, h2⟩ := e
        refine ⟨Nat.max n1 n2, fun n hn => ?_⟩
        have a1 := h1 n (Nat.le_trans (Nat.le_max_left ..) hn)
        have a2 := h2 n (Nat.le_trans (Nat.le_max_right ..) hn)
        simp only [execD, a2, a1, Bool.not_true, Bool.and_false]; rfl
  | seq a b iha ihb =>
    intro sk Q fr h hx w
    simp only [noLax, Bool.and_eq_true] at hx
    cases sk with
    | none =>
      obtain ⟨e, fr1, h1, e1, q1⟩ := iha hx.1 w
      cases e with
      | normal =>
        obtain ⟨e, fr2, h2, e2, q2⟩ := ihb hx.2 q1
        exact ⟨e, fr2, h2, e1.bind e2 fun n x y => by simp only [execD, x]; exact y, q2⟩
      | exit i => exact ⟨_, _, _, e1.map fun n x => by simp only [execD, x], q1⟩
      | goto i => exact ⟨_, _, _, e1.map fun n x => by simp only [execD, x], q1⟩
      | ret => exact ⟨_, _, _, e1.map fun n x => by simp only [execD, x], q1⟩
    | some l =>
      simp only [wpd] at w
      by_cases hl : hasLabel a l = true
      · rw [if_pos hl] at w
        obtain ⟨e, fr1, h1, e1, q1⟩ := iha hx.1 w
        cases e with
        | normal =>
          obtain ⟨e, fr2, h2, e2, q2⟩ := ihb hx.2 q1
          exact ⟨e, fr2, h2, e1.bind e2 fun n x y => by simp only [execD, hl, if_true, x]; exact y, q2⟩
        | exit i => exact ⟨_, _, _, e1.map fun n x => by simp only [execD, hl, if_true, x], q1⟩
        | goto i => exact ⟨_, _, _, e1.map fun n x => by simp only [execD, hl, if_true, x], q1⟩
        | ret => exact ⟨_, _, _, e1.map fun n x => by simp only [execD, hl, if_true, x], q1⟩
      · rw [if_neg hl] at w
        obtain ⟨e, fr1, h1, e1, q1⟩ := ihb hx.2 w
        exact ⟨_, _, _, e1.map fun n x => by simp only [execD, hl]; exact x, q1⟩
  | cond c a b iha ihb =>
    intro sk Q fr h hx w
    cases sk with
    | some l => exact w hx
    | none =>
      simp only [noLax, Bool.and_eq_true] at hx
      simp only [wpd] at w
      split at w
      · rename_i t ht
        unfold BrW at w
        cases t with
        | true =>
          rw [if_pos rfl] at w
          obtain ⟨e, fr1, h1, e1, q1⟩ := iha hx.1 w
          exact ⟨_, _, _, e1.map fun n x => by simp only [execD, ht, if_true]; exact x, q1⟩
        | false =>
          rw [if_neg (by decide)] at w
          obtain ⟨e, fr1, h1, e1, q1⟩ := ihb hx.2 w
          exact ⟨_, _, _, e1.map fun n x => by simp only [execD, ht]; exact x, q1⟩
      · exact absurd w id
  | block id c ih =>
    intro sk Q fr h hx w
    cases sk with
    | some l => exact w hx
    | none =>
      obtain ⟨e, fr1, h1, e1, q1⟩ := ih (sk := none) hx w
      cases e with
      | exit i =>
        simp only [blockPost] at q1
        by_cases hi : i = id
        · rw [if_pos hi] at q1; exact ⟨_, _, _, e1.map fun n x => by simp only [execD, x, hi, if_true], q1⟩
        · rw [if_neg hi] at q1; exact ⟨_, _, _, e1.map fun n x => by simp only [execD, x, hi, if_false], q1⟩
      | normal => exact ⟨_, _, _, e1.map fun n x => by simp only [execD, x], q1⟩
      | goto i => exact ⟨_, _, _, e1.map fun n x => by simp only [execD, x], q1⟩
      | ret => exact ⟨_, _, _, e1.map fun n x => by simp only [execD, x], q1⟩
  | exit i => intro sk Q fr h hx w; cases sk with | none => exact ⟨_, _, _, Evt.const fun n => rfl, w⟩ | some l => exact w hx
  | goto i => intro sk Q fr h hx w; cases sk with | none => exact ⟨_, _, _, Evt.const fun n => rfl, w⟩ | some l => exact w hx
  | ret => intro sk Q fr h hx w; cases sk with | none => exact ⟨_, _, _, Evt.const fun n => rfl, w⟩ | some l => exact w hx
  | _ => intro sk Q fr h hx w; cases sk <;> exact w hx
end
end Go.Dm

set_option linter.unusedVariables false
set_option linter.unusedSimpArgs false
namespace Go.Dm

/-- The slots that code may write. -/
def wrs : Code → List Nat
  | .region _ ops _ => ops.toList.filterMap (·.dst)
  | .seq a b => wrs a ++ wrs b
  | .cond _ a b => wrs a ++ wrs b
  | .block _ c => wrs c
  | .loop c => wrs c
  | .scope c => wrs c
  | _ => []
def FrEq (ws : List Nat) (fr fr' : T Value) : Prop := ∀ t, ws.contains t = false → fr'.get t = fr.get t
theorem FrEq.refl (ws : List Nat) (fr : T Value) : FrEq ws fr fr := fun _ _ => rfl
theorem FrEq.trans {ws : List Nat} {a b c : T Value} (h : FrEq ws a b) (k : FrEq ws b c) : FrEq ws a c := fun t ht => (k t ht).trans (h t ht)
theorem FrEq.mono {ws ws' : List Nat} {a b : T Value} (h : FrEq ws a b) (k : ∀ t, t ∈ ws → t ∈ ws') : FrEq ws' a b := fun t ht => h t (by
  cases hc : ws.contains t with
  | false => rfl
  | true => rw [List.contains_iff_mem] at hc; have := k t hc; rw [← List.contains_iff_mem, ht] at this; cases this)
section
variable {E : Env} {ck : CK}
theorem regD_frame {ops : Array Oper} : ∀ {l : List Oper} {fr : T Value} {h : H} {fr' : T Value} {h' : H}, regD E ck ops l fr h = some (fr', h') → FrEq (l.filterMap (·.dst)) fr fr' := by
  intro l
  induction l with
  | nil => intro fr h fr' h' e; cases e; exact FrEq.refl _ _
  | cons o rest ih =>
    intro fr h fr' h' e
    have put : ∀ v, FrEq ((o :: rest).filterMap (·.dst)) fr (putD fr o.dst v) := by
      intro v t ht
      unfold putD
      cases hd : o.dst with
      | none => rfl
      | some d =>
        simp only [List.filterMap_cons, hd, List.contains_cons, Bool.or_eq_false_iff, beq_eq_false_iff_ne] at ht
        exact T.get_set_ne _ _ ht.1
    have step : ∀ {a b : T Value}, FrEq (rest.filterMap (·.dst)) a b → FrEq ((o :: rest).filterMap (·.dst)) a b := fun h => h.mono fun t ht => by
      simp only [List.filterMap_cons]; split
      · exact ht
      · exact List.mem_cons_of_mem _ ht
    simp only [regD] at e
    split at e
    · split at e
      · exact (put _).trans (step (ih e))
      · cases e
    · exact (put _).trans (step (ih e))
    · cases e
theorem loopD_frame {ws : List Nat} {body : T Value → H → Option (Ex × T Value × H)} (hb : ∀ fr h e fr' h', body fr h = some (e, fr', h') → FrEq ws fr fr') : ∀ (n : Nat) {fr : T Value} {h : H} {e : Ex} {fr' : T Value} {h' : H}, loopD body n fr h = some (e, fr', h') → FrEq ws fr fr' := by
  intro n
  induction n with
  | zero => intro fr h e fr' h' q; cases q
  | succ n ih =>
    intro fr h e fr' h' q
    simp only [loopD] at q
    split at q
    · rename_i fr1 h1 hq; exact (hb _ _ _ _ _ hq).trans (ih q)
    · exact hb _ _ _ _ _ q
theorem scopeD_frame {ws : List Nat} {lab : Nat → Bool} {body : Option Nat → T Value → H → Option (Ex × T Value × H)} (hb : ∀ sk fr h e fr' h', body sk fr h = some (e, fr', h') → FrEq ws fr fr') : ∀ (n : Nat) {sk : Option Nat} {fr : T Value} {h : H} {e : Ex} {fr' : T Value} {h' : H}, scopeD lab body n sk fr h = some (e, fr', h') → FrEq ws fr fr' := by
  intro n
  induction n with
  | zero => intro sk fr h e fr' h' q; cases q
  | succ n ih =>
    intro sk fr h e fr' h' q
    simp only [scopeD] at q
    split at q
    · rename_i l fr1 h1 hq
      split at q
      · exact (hb _ _ _ _ _ _ hq).trans (ih q)
      · cases q; exact hb _ _ _ _ _ _ hq
    · exact hb _ _ _ _ _ _ q
theorem execD_frame (n : Nat) : ∀ {x : Code} {sk : Option Nat} {fr : T Value} {h : H} {e : Ex} {fr' : T Value} {h' : H}, execD E ck n x sk fr h = some (e, fr', h') → FrEq (wrs x) fr fr' := by
  intro x
  induction x with
  | region i ops draw =>
    intro sk fr h e fr' h' q
    cases sk with
    | some l => cases q
    | none =>
      simp only [execD] at q
      split at q
      · rename_i fr1 h1 hq
        split at q
        · cases q
        · cases q; exact regD_frame hq
      · cases q
  | seq a b iha ihb =>
    intro sk fr h e fr' h' q
    have la : ∀ {x y : T Value}, FrEq (wrs a) x y → FrEq (wrs (.seq a b)) x y := fun h => h.mono fun t ht => List.mem_append_left _ ht
    have lb : ∀ {x y : T Value}, FrEq (wrs b) x y → FrEq (wrs (.seq a b)) x y := fun h => h.mono fun t ht => List.mem_append_right _ ht
    cases sk with
    | none =>
      simp only [execD] at q
      split at q
      · rename_i fr1 h1 hq; exact (la (iha hq)).trans (lb (ihb q))
      · exact la (iha q)
    | some l =>
      simp only [execD] at q
      split at q
      · split at q
        · rename_i fr1 h1 hq; exact (la (iha hq)).trans (lb (ihb q))
        · exact la (iha q)
      · exact lb (ihb q)
  | cond c a b iha ihb =>
    intro sk fr h e fr' h' q
    cases sk with
    | some l => cases q
    | none =>
      simp only [execD] at q
      split at q
      · split at q
        · exact (iha q).mono fun t ht => List.mem_append_left _ ht
        · exact (ihb q).mono fun t ht => List.mem_append_right _ ht
      · cases q
  | block id c ih =>
    intro sk fr h e fr' h' q
    cases sk with
    | some l => cases q
    | none =>
      simp only [execD] at q
      split at q
      · rename_i i fr1 h1 hq
        split at q <;> cases q <;> exact ih hq
      · exact ih q
  | loop c ih =>
    intro sk fr h e fr' h' q
    cases sk with
    | some l => cases q
    | none => exact loopD_frame (fun _ _ _ _ _ k => ih k) n q
  | scope c ih =>
    intro sk fr h e fr' h' q
    cases sk with
    | some l => cases q
    | none => exact scopeD_frame (fun _ _ _ _ _ _ k => ih k) n q
  | rangeFunc f ps a b =>
    intro sk fr h e fr' h' q
    cases sk with
    | some l => cases q
    | none =>
      simp only [execD] at q
      split at q
      · split at q
        · rename_i v h1 hq
          unfold endLoopD at q
          split at q
          · split at q
            · cases q
            · split at q <;> cases q <;> exact FrEq.refl _ _
          · cases q
        · cases q
      · cases q
  | label l =>
    intro sk fr h e fr' h' q
    cases sk with
    | none => cases q; exact FrEq.refl _ _
    | some l' =>
      simp only [execD] at q
      split at q <;> cases q
      exact FrEq.refl _ _
  | skip => intro sk fr h e fr' h' q; cases sk <;> cases q; exact FrEq.refl _ _
  | exit i => intro sk fr h e fr' h' q; cases sk <;> cases q; exact FrEq.refl _ _
  | goto i => intro sk fr h e fr' h' q; cases sk <;> cases q; exact FrEq.refl _ _
  | ret => intro sk fr h e fr' h' q; cases sk <;> cases q; exact FrEq.refl _ _
  | _ => intro sk fr h e fr' h' q; cases sk <;> cases q
end

section
variable {E : Env} {X : Plug}
theorem W.frame {x : Code} {sk : Option Nat} {Q : Post} {fr : T Value} {h : H} (w : W E X x sk Q fr h) : W E X x sk (fun e fr' h' => FrEq (wrs x) fr fr' ∧ Q e fr' h') fr h := by
  obtain ⟨e, fr', h', q, r⟩ := w
  obtain ⟨n, hn⟩ := q
  exact ⟨e, fr', h', ⟨n, hn⟩, execD_frame n (hn n (Nat.le_refl _)), r⟩

def loopPost {σ : Type} (I : σ → T Value → H → Prop) (μ : σ → Nat) (s : σ) (Q : Post) : Post := fun e fr h => match e with
  | .normal => ∃ s', μ s' < μ s ∧ I s' fr h
  | e => Q e fr h
/-- A loop: what holds at each round's beginning, and a measure. -/
theorem W.loop {c : Code} {Q : Post} {fr : T Value} {h : H} {σ : Type} (I : σ → T Value → H → Prop) (μ : σ → Nat) (s : σ) (hI : I s fr h)
    {L : List Nat} (hl : noLax E L c = true) (round : ∀ s fr' h', I s fr' h' → FrEq (wrs c) fr fr' → wpd E X L c none (loopPost I μ s Q) fr' h') : W E X (.loop c) none Q fr h := by
  have key : ∀ k s fr' h', μ s = k → I s fr' h' → FrEq (wrs c) fr fr' → ∃ e fr2 h2, (∃ n0, ∀ n, n0 ≤ n → ∀ m, n0 ≤ m → loopD (fun fr h => execD E (callD E X n) n c none fr h) m fr' h' = some (e, fr2, h2)) ∧ Q e fr2 h2 := by
    intro k
    induction k using Nat.strongRecOn with
    | _ k ih =>
      intro s fr' h' hk hs hf
      obtain ⟨e, fr1, h1, ⟨n1, e1⟩, hf1, q1⟩ := (wpd_sound hl (round s fr' h' hs hf)).frame
      cases e with
      | normal =>
        obtain ⟨s', hlt, hs'⟩ := q1
        obtain ⟨e, fr2, h2, ⟨n2, e2⟩, q2⟩ := ih (μ s') (by omega) s' fr1 h1 rfl hs' (hf.trans hf1)
        refine ⟨e, fr2, h2, ⟨n1 + n2 + 1, fun n hn m hm => ?_⟩, q2⟩
        obtain ⟨j, rfl⟩ : ∃ j, m = j + 1 := ⟨m - 1, by omega⟩
        simp only [loopD, e1 n (by omega)]
        exact e2 n (by omega) j (by omega)
      | exit i =>
        refine ⟨_, fr1, h1, ⟨n1 + 1, fun n hn m hm => ?_⟩, q1⟩
        obtain ⟨j, rfl⟩ : ∃ j, m = j + 1 := ⟨m - 1, by omega⟩
        simp only [loopD, e1 n (by omega)]
      | goto i =>
        refine ⟨_, fr1, h1, ⟨n1 + 1, fun n hn m hm => ?_⟩, q1⟩
        obtain ⟨j, rfl⟩ : ∃ j, m = j + 1 := ⟨m - 1, by omega⟩
        simp only [loopD, e1 n (by omega)]
      | ret =>
        refine ⟨_, fr1, h1, ⟨n1 + 1, fun n hn m hm => ?_⟩, q1⟩
        obtain ⟨j, rfl⟩ : ∃ j, m = j + 1 := ⟨m - 1, by omega⟩
        simp only [loopD, e1 n (by omega)]
  obtain ⟨e, fr2, h2, ⟨n0, e0⟩, q⟩ := key (μ s) s fr h rfl hI (FrEq.refl _ _)
  exact ⟨e, fr2, h2, ⟨n0, fun n hn => e0 n hn n hn⟩, q⟩

def scopePost {σ : Type} (c : Code) (I : Option Nat → σ → T Value → H → Prop) (μ : σ → Nat) (s : σ) (Q : Post) : Post := fun e fr h => match e with
  | .goto l => if hasLabel c l then ∃ s', μ s' < μ s ∧ I (some l) s' fr h else Q (.goto l) fr h
  | e => Q e fr h
/-- A scope: what holds at its beginning and at each label, and a measure. -/
theorem W.scope {c : Code} {Q : Post} {fr : T Value} {h : H} {σ : Type} (I : Option Nat → σ → T Value → H → Prop) (μ : σ → Nat) (s : σ) (hI : I none s fr h)
    {L : List Nat} (hl : noLax E L c = true) (round : ∀ sk s fr' h', I sk s fr' h' → FrEq (wrs c) fr fr' → wpd E X L c sk (scopePost c I μ s Q) fr' h') : W E X (.scope c) none Q fr h := by
  have key : ∀ k sk s fr' h', μ s = k → I sk s fr' h' → FrEq (wrs c) fr fr' → ∃ e fr2 h2, (∃ n0, ∀ n, n0 ≤ n → ∀ m, n0 ≤ m → scopeD (hasLabel c) (fun sk fr h => execD E (callD E X n) n c sk fr h) m sk fr' h' = some (e, fr2, h2)) ∧ Q e fr2 h2 := by
    intro k
    induction k using Nat.strongRecOn with
    | _ k ih =>
      intro sk s fr' h' hk hs hf
      obtain ⟨e, fr1, h1, ⟨n1, e1⟩, hf1, q1⟩ := (wpd_sound hl (round sk s fr' h' hs hf)).frame
      cases e with
      | goto l =>
        simp only [scopePost] at q1
        by_cases hlb : hasLabel c l = true
        · rw [if_pos hlb] at q1
          obtain ⟨s', hlt, hs'⟩ := q1
          obtain ⟨e, fr2, h2, ⟨n2, e2⟩, q2⟩ := ih (μ s') (by omega) (some l) s' fr1 h1 rfl hs' (hf.trans hf1)
          refine ⟨e, fr2, h2, ⟨n1 + n2 + 1, fun n hn m hm => ?_⟩, q2⟩
          obtain ⟨j, rfl⟩ : ∃ j, m = j + 1 := ⟨m - 1, by omega⟩
          simp only [scopeD, e1 n (by omega), hlb, if_true]
          exact e2 n (by omega) j (by omega)
        · rw [if_neg hlb] at q1
          refine ⟨_, fr1, h1, ⟨n1 + 1, fun n hn m hm => ?_⟩, q1⟩
          obtain ⟨j, rfl⟩ : ∃ j, m = j + 1 := ⟨m - 1, by omega⟩
          simp only [scopeD, e1 n (by omega), hlb]
          rfl
      | normal =>
        refine ⟨_, fr1, h1, ⟨n1 + 1, fun n hn m hm => ?_⟩, q1⟩
        obtain ⟨j, rfl⟩ : ∃ j, m = j + 1 := ⟨m - 1, by omega⟩
        simp only [scopeD, e1 n (by omega)]
      | exit i =>
        refine ⟨_, fr1, h1, ⟨n1 + 1, fun n hn m hm => ?_⟩, q1⟩
        obtain ⟨j, rfl⟩ : ∃ j, m = j + 1 := ⟨m - 1, by omega⟩
        simp only [scopeD, e1 n (by omega)]
      | ret =>
        refine ⟨_, fr1, h1, ⟨n1 + 1, fun n hn m hm => ?_⟩, q1⟩
        obtain ⟨j, rfl⟩ : ∃ j, m = j + 1 := ⟨m - 1, by omega⟩
        simp only [scopeD, e1 n (by omega)]
  obtain ⟨e, fr2, h2, ⟨n0, e0⟩, q⟩ := key (μ s) none s fr h rfl hI (FrEq.refl _ _)
  exact ⟨e, fr2, h2, ⟨n0, fun n hn => e0 n hn n hn⟩, q⟩

/-! ### Functions -/
def resW (E : Env) (rs : List ResultVar) (K : VPost) (fr : T Value) (h : H) : Prop := ∃ vs, resD E fr h rs = some vs ∧ K (oneD vs) h
def retPost (E : Env) (rs : List ResultVar) (K : VPost) : Post := fun e fr h => match e with
  | .normal => resW E rs K fr h
  | .ret => resW E rs K fr h
  | _ => False
theorem CallW.body {f : FuncId} {fn : Func} {c : Code} (hf : E.fn f = some fn) (hb : fn.body = some c) {args : List Value} {h : H} (hX : X f args h = none) (hn' : Nat.ble args.length fn.ntmps = true) {K : VPost}
    (L : List Nat) (hl : noLax E L c = true) (hw : wpd E X L c none (retPost E fn.results.toList K) (frOf args 0 .leaf) h) : CallW E X (.fn f) args h K := by
  have hn : args.length ≤ fn.ntmps := Nat.le_of_ble_eq_true hn'
  obtain ⟨e, fr', h', e1, q1⟩ := wpd_sound hl hw
  have fin : ∀ vs, (e = .normal ∨ e = .ret) → resD E fr' h' fn.results.toList = some vs → K (oneD vs) h' → CallW E X (.fn f) args h K := by
    intro vs he hr hk
    refine ⟨oneD vs, h', Evt.succ (e1.map fun n hn' => ?_), hk⟩
    simp only [callD, hX, bodyD, hf, hb, hn, if_true, hn']
    rcases he with rfl | rfl <;> simp only [hr, Option.map_some]
  cases e with
  | normal => obtain ⟨vs, a, b⟩ := q1; exact fin vs (.inl rfl) a b
  | ret => obtain ⟨vs, a, b⟩ := q1; exact fin vs (.inr rfl) a b
  | exit i => exact absurd q1 id
  | goto i => exact absurd q1 id
/-- What a function given by hand comes to. -/
theorem CallW.plug {f : FuncId} {args : List Value} {h : H} {v : Value} {h' : H} (hX : X f args h = some (v, h')) {K : VPost} (k : K v h') : CallW E X (.fn f) args h K :=
  ⟨v, h', Evt.succ (Evt.const fun n => by simp only [callD, hX]), k⟩
end
end Go.Dm

set_option linter.unusedVariables false
set_option linter.unusedSimpArgs false
namespace Go.Dm

section
variable {E : Env} {X : Plug} {L : List Nat} {Q : Post} {fr : T Value} {h : H} {K : VPost}
def CondC (E : Env) (X : Plug) (L : List Nat) (v : Option Value) (a b : Code) (Q : Post) (fr : T Value) (h : H) : Prop := match v with
  | some (.bool t) => BrW t (wpd E X L a none Q fr h) (wpd E X L b none Q fr h)
  | _ => False
def BrC (E : Env) (X : Plug) (L : List Nat) (t : Bool) (a b : Code) (Q : Post) (fr : T Value) (h : H) : Prop := BrW t (wpd E X L a none Q fr h) (wpd E X L b none Q fr h)
theorem BrC.split {t : Bool} {a b : Code} (h1 : t = true → wpd E X L a none Q fr h) (h2 : t = false → wpd E X L b none Q fr h) : BrC E X L t a b Q fr h := by
  cases t
  · exact h2 rfl
  · exact h1 rfl
/-- An operation without what a run does not need; its guard's slot found. -/
structure SOp where
  d : Option Tmp
  o : Op
  g : Option (Option Tmp × Bool)
def gdOf (v : Option Value) (w : Bool) : Option Bool := match v with
  | some (.bool b) => some (b == w)
  | some _ => some false
  | none => none
def gdT (g : Option (Option Tmp × Bool)) (fr : T Value) : Option Bool := match g with
  | none => some true
  | some (some d, w) => gdOf (fr.get d) w
  | some (none, _) => none
def slim1 (ops : List Oper) (o : Oper) : SOp := ⟨o.dst, o.op, o.guard.map fun g => ((ops[g.1]?).bind (·.dst), g.2)⟩
def slW (E : Env) (X : Plug) : List SOp → T Value → H → (T Value → H → Prop) → Prop
  | [], fr, h, K => K fr h
  | o :: rest, fr, h, K => match gdT o.g fr with
    | some true => opW E X o.o fr h.clr (fun v h' => slW E X rest (putD fr o.d v) h' K)
    | some false => slW E X rest (putD fr o.d undef) h K
    | none => False
def slK (E : Env) (X : Plug) (rest : List SOp) (fr : T Value) (dst : Option Tmp) (K : T Value → H → Prop) : VPost := fun v h' => slW E X rest (putD fr dst v) h' K
def GdC (E : Env) (X : Plug) (t : Option Bool) (o : SOp) (rest : List SOp) (fr : T Value) (h : H) (K : T Value → H → Prop) : Prop := match t with
  | some true => opW E X o.o fr h.clr (slK E X rest fr o.d K)
  | some false => slW E X rest (putD fr o.d undef) h K
  | none => False
theorem GdC.split {t : Bool} {o : SOp} {rest : List SOp} {K : T Value → H → Prop} (h1 : t = true → opW E X o.o fr h.clr (slK E X rest fr o.d K)) (h2 : t = false → slW E X rest (putD fr o.d undef) h K) : GdC E X (some t) o rest fr h K := by
  cases t
  · exact h2 rfl
  · exact h1 rfl
theorem gdT_slim (ops : Array Oper) (o : Oper) : gdT (slim1 ops.toList o).g fr = wantedD ops o fr := by
  unfold gdT slim1 wantedD gdOf
  cases o.guard with
  | none => rfl
  | some g =>
    obtain ⟨j, w⟩ := g
    simp only [Option.map_some, Array.getElem?_toList]
    cases (ops[j]?).bind (·.dst) with
    | none => rfl
    | some d =>
      simp only
      cases fr.get d with
      | none => rfl
      | some v => cases v <;> rfl
theorem slW_eq (ops : Array Oper) : ∀ (l : List Oper) (fr : T Value) (h : H) (K : T Value → H → Prop), slW E X (l.map (slim1 ops.toList)) fr h K = regW E X ops l fr h K := by
  intro l
  induction l with
  | nil => intro fr h K; rfl
  | cons o rest ih =>
    intro fr h K
    simp only [List.map_cons, slW, regW, gdT_slim]
    cases wantedD ops o fr with
    | none => rfl
    | some t => cases t <;> simp [GdW, ih, slim1]

@[simp] theorem wpd_seq (a b : Code) : wpd E X L (.seq a b) none Q fr h = wpd E X L a none (seqPost E X L b Q) fr h := _root_.id rfl
def SkC (E : Env) (X : Plug) (L : List Nat) (t : Bool) (a b : Code) (l : Nat) (Q : Post) (fr : T Value) (h : H) : Prop := if t then wpd E X L a (some l) (seqPost E X L b Q) fr h else wpd E X L b (some l) Q fr h
@[simp] theorem wpd_seq_in (a b : Code) (l : Nat) : wpd E X L (.seq a b) (some l) Q fr h = SkC E X L (hasLabel a l) a b l Q fr h := _root_.id rfl
@[simp] theorem SkC_true (a b : Code) (l : Nat) : SkC E X L true a b l Q fr h = wpd E X L a (some l) (seqPost E X L b Q) fr h := _root_.id rfl
@[simp] theorem SkC_false (a b : Code) (l : Nat) : SkC E X L false a b l Q fr h = wpd E X L b (some l) Q fr h := _root_.id rfl
attribute [simp] hasLabel
@[simp] theorem wpd_skip : wpd E X L .skip none Q fr h = Q .normal fr h := _root_.id rfl
@[simp] theorem wpd_label (l : Nat) : wpd E X L (.label l) none Q fr h = Q .normal fr h := _root_.id rfl
@[simp] theorem wpd_label_in (l : Nat) : wpd E X L (.label l) (some l) Q fr h = Q .normal fr h := by simp [wpd]
@[simp] theorem wpd_region (i : Nat) (ops : Array Oper) (draw : Bool) : wpd E X L (.region i ops draw) none Q fr h = (laxN E X L i ops draw fr h ∧ slW E X (ops.toList.map (slim1 ops.toList)) fr h (regPost Q)) := by
  rw [slW_eq]; rfl
@[simp] theorem wpd_cond (c : Operand) (a b : Code) : wpd E X L (.cond c a b) none Q fr h = CondC E X L (ev fr c) a b Q fr h := _root_.id rfl
@[simp] theorem wpd_block (id : Nat) (c : Code) : wpd E X L (.block id c) none Q fr h = wpd E X L c none (blockPost id Q) fr h := _root_.id rfl
@[simp] theorem wpd_exit (id : Nat) : wpd E X L (.exit id) none Q fr h = Q (.exit id) fr h := _root_.id rfl
@[simp] theorem wpd_goto (l : Nat) : wpd E X L (.goto l) none Q fr h = Q (.goto l) fr h := _root_.id rfl
@[simp] theorem wpd_ret : wpd E X L .ret none Q fr h = Q .ret fr h := _root_.id rfl
@[simp] theorem CondC_bool (t : Bool) (a b : Code) : CondC E X L (some (.bool t)) a b Q fr h = BrC E X L t a b Q fr h := _root_.id rfl
@[simp] theorem BrC_true (a b : Code) : BrC E X L true a b Q fr h = wpd E X L a none Q fr h := _root_.id rfl
@[simp] theorem BrC_false (a b : Code) : BrC E X L false a b Q fr h = wpd E X L b none Q fr h := _root_.id rfl
@[simp] theorem seqPost_normal (b : Code) : seqPost E X L b Q .normal fr h = wpd E X L b none Q fr h := _root_.id rfl
@[simp] theorem seqPost_exit (b : Code) (i : Nat) : seqPost E X L b Q (.exit i) fr h = Q (.exit i) fr h := _root_.id rfl
@[simp] theorem seqPost_goto (b : Code) (i : Nat) : seqPost E X L b Q (.goto i) fr h = Q (.goto i) fr h := _root_.id rfl
@[simp] theorem seqPost_ret (b : Code) : seqPost E X L b Q .ret fr h = Q .ret fr h := _root_.id rfl
@[simp] theorem blockPost_normal (id : Nat) : blockPost id Q .normal fr h = Q .normal fr h := _root_.id rfl
@[simp] theorem blockPost_exit (id i : Nat) : blockPost id Q (.exit i) fr h = if i = id then Q .normal fr h else Q (.exit i) fr h := _root_.id rfl
@[simp] theorem blockPost_goto (id i : Nat) : blockPost id Q (.goto i) fr h = Q (.goto i) fr h := _root_.id rfl
@[simp] theorem blockPost_ret (id : Nat) : blockPost id Q .ret fr h = Q .ret fr h := _root_.id rfl
@[simp] theorem regPost_app : regPost Q fr h = Q .normal fr h.clr := _root_.id rfl
@[simp] theorem loopPost_normal {σ : Type} (I : σ → T Value → H → Prop) (μ : σ → Nat) (s : σ) : loopPost I μ s Q .normal fr h = ∃ s', μ s' < μ s ∧ I s' fr h := _root_.id rfl
@[simp] theorem loopPost_exit {σ : Type} (I : σ → T Value → H → Prop) (μ : σ → Nat) (s : σ) (i : Nat) : loopPost I μ s Q (.exit i) fr h = Q (.exit i) fr h := _root_.id rfl
@[simp] theorem loopPost_goto {σ : Type} (I : σ → T Value → H → Prop) (μ : σ → Nat) (s : σ) (i : Nat) : loopPost I μ s Q (.goto i) fr h = Q (.goto i) fr h := _root_.id rfl
@[simp] theorem loopPost_ret {σ : Type} (I : σ → T Value → H → Prop) (μ : σ → Nat) (s : σ) : loopPost I μ s Q .ret fr h = Q .ret fr h := _root_.id rfl
@[simp] theorem scopePost_normal {σ : Type} (c : Code) (I : Option Nat → σ → T Value → H → Prop) (μ : σ → Nat) (s : σ) : scopePost c I μ s Q .normal fr h = Q .normal fr h := _root_.id rfl
@[simp] theorem scopePost_exit {σ : Type} (c : Code) (I : Option Nat → σ → T Value → H → Prop) (μ : σ → Nat) (s : σ) (i : Nat) : scopePost c I μ s Q (.exit i) fr h = Q (.exit i) fr h := _root_.id rfl
@[simp] theorem scopePost_ret {σ : Type} (c : Code) (I : Option Nat → σ → T Value → H → Prop) (μ : σ → Nat) (s : σ) : scopePost c I μ s Q .ret fr h = Q .ret fr h := _root_.id rfl
def GoC {σ : Type} (t : Bool) (I : Option Nat → σ → T Value → H → Prop) (μ : σ → Nat) (s : σ) (Q : Post) (l : Nat) (fr : T Value) (h : H) : Prop := if t then ∃ s', μ s' < μ s ∧ I (some l) s' fr h else Q (.goto l) fr h
@[simp] theorem scopePost_goto {σ : Type} (c : Code) (I : Option Nat → σ → T Value → H → Prop) (μ : σ → Nat) (s : σ) (l : Nat) : scopePost c I μ s Q (.goto l) fr h = GoC (hasLabel c l) I μ s Q l fr h := _root_.id rfl
@[simp] theorem GoC_true {σ : Type} (I : Option Nat → σ → T Value → H → Prop) (μ : σ → Nat) (s : σ) (l : Nat) : GoC true I μ s Q l fr h = ∃ s', μ s' < μ s ∧ I (some l) s' fr h := by simp [GoC]
@[simp] theorem GoC_false {σ : Type} (I : Option Nat → σ → T Value → H → Prop) (μ : σ → Nat) (s : σ) (l : Nat) : GoC false I μ s Q l fr h = Q (.goto l) fr h := by simp [GoC]
@[simp] theorem retPost_normal (rs : List ResultVar) : retPost E rs K .normal fr h = resW E rs K fr h := _root_.id rfl
@[simp] theorem retPost_ret (rs : List ResultVar) : retPost E rs K .ret fr h = resW E rs K fr h := _root_.id rfl
@[simp] theorem laxN_nil (i : Nat) (ops : Array Oper) (draw : Bool) : laxN E X [] i ops draw fr h = True := by simp [laxN]
@[simp] theorem laxW_false (ops : Array Oper) : laxW E X ops false fr h = True := by simp [laxW]
theorem laxW_nil {ops : Array Oper} {draw : Bool} (hl : laxPairs E ops = []) : laxW E X ops draw fr h := fun _ => ⟨0, fun n _ => by rw [hl]; rfl⟩
@[simp] theorem slW_nil (K : T Value → H → Prop) : slW E X [] fr h K = K fr h := _root_.id rfl
@[simp] theorem slW_cons (o : SOp) (rest : List SOp) (K : T Value → H → Prop) : slW E X (o :: rest) fr h K = GdC E X (gdT o.g fr) o rest fr h K := by
  simp only [slW, GdC]
  cases gdT o.g fr with
  | none => rfl
  | some t => cases t <;> rfl
@[simp] theorem GdC_true (o : SOp) (rest : List SOp) (K : T Value → H → Prop) : GdC E X (some true) o rest fr h K = opW E X o.o fr h.clr (slK E X rest fr o.d K) := _root_.id rfl
@[simp] theorem GdC_false (o : SOp) (rest : List SOp) (K : T Value → H → Prop) : GdC E X (some false) o rest fr h K = slW E X rest (putD fr o.d undef) h K := _root_.id rfl
@[simp] theorem slK_app (rest : List SOp) (dst : Option Tmp) (K : T Value → H → Prop) (v : Value) (h' : H) : slK E X rest fr dst K v h' = slW E X rest (putD fr dst v) h' K := _root_.id rfl
@[simp] theorem gdT_none : gdT none fr = some true := _root_.id rfl
@[simp] theorem gdT_some (d : Tmp) (w : Bool) : gdT (some (some d, w)) fr = gdOf (fr.get d) w := _root_.id rfl
@[simp] theorem gdOf_bool (b w : Bool) : gdOf (some (.bool b)) w = some (b == w) := _root_.id rfl
@[simp] theorem gdOf_undef (w : Bool) : gdOf (some undef) w = some false := _root_.id rfl
@[simp] theorem gdOf_undef' (w : Bool) : gdOf (some (.tuple #[])) w = some false := _root_.id rfl
def dstOf (ops : List Oper) (j : Nat) : Option Tmp := (ops[j]?).bind (·.dst)
@[simp] theorem slim_none (ops : List Oper) (dst : Option Tmp) (op : Op) (ty : TypeId) (pos : String) (after : Array Edge) : slim1 ops { dst := dst, op := op, type := ty, pos := pos, after := after, guard := none } = ⟨dst, op, none⟩ := _root_.id rfl
@[simp] theorem slim_some (ops : List Oper) (dst : Option Tmp) (op : Op) (ty : TypeId) (pos : String) (after : Array Edge) (j : Nat) (w : Bool) : slim1 ops { dst := dst, op := op, type := ty, pos := pos, after := after, guard := some (j, w) } = ⟨dst, op, some (dstOf ops j, w)⟩ := _root_.id rfl
@[simp] theorem dstOf_zero (dst : Option Tmp) (op : Op) (ty : TypeId) (pos : String) (after : Array Edge) (g : Option (Nat × Bool)) (l : List Oper) : dstOf ({ dst := dst, op := op, type := ty, pos := pos, after := after, guard := g } :: l) 0 = dst := _root_.id rfl
@[simp] theorem dstOf_succ (o : Oper) (l : List Oper) (n : Nat) : dstOf (o :: l) (n + 1) = dstOf l n := by simp [dstOf]
@[simp] theorem putD_some (d : Tmp) (v : Value) : putD fr (some d) v = fr.set d (some v) := _root_.id rfl
@[simp] theorem putD_none (v : Value) : putD fr none v = fr := _root_.id rfl
@[simp] theorem ev_tmp (t : Tmp) : ev fr (.tmp t) = fr.get t := _root_.id rfl
@[simp] theorem ev_const (v : Value) : ev fr (.const v) = some v := _root_.id rfl
@[simp] theorem ev_global (g : Nat) : ev fr (.global g) = some (.pointer (some ⟨g, 0, none⟩)) := _root_.id rfl
@[simp] theorem ev_func (g : Nat) : ev fr (.func g) = some (.func (.func g) #[] #[]) := _root_.id rfl
@[simp] theorem evs_nil : evs fr [] = some [] := _root_.id rfl
def consO : Option Value → Option (List Value) → Option (List Value)
  | some v, some vs => some (v :: vs)
  | _, _ => none
@[simp] theorem consO_some (v : Value) (vs : List Value) : consO (some v) (some vs) = some (v :: vs) := _root_.id rfl
@[simp] theorem evs_cons (x : Operand) (xs : List Operand) : evs fr (x :: xs) = consO (ev fr x) (evs fr xs) := by
  simp only [evs]
  cases ev fr x <;> cases evs fr xs <;> rfl
@[simp] theorem evo_none : evo fr none = some none := _root_.id rfl
@[simp] theorem evo_some (x : Operand) : evo fr (some x) = (ev fr x).map some := _root_.id rfl
@[simp] theorem get_set_lit (n m : Nat) (x : Option Value) : (fr.set n x).get m = if m = n then x else fr.get m := T.get_set ..
@[simp] theorem frOf_nil (i : Nat) : frOf [] i fr = fr := _root_.id rfl
@[simp] theorem frOf_cons (v : Value) (vs : List Value) (i : Nat) : frOf (v :: vs) i fr = frOf vs (i + 1) (fr.set i (some v)) := _root_.id rfl
@[simp] theorem resW_tmps (l : List ResultVar) : resW E l K fr h = ∃ vs, resD E fr h l = some vs ∧ K (oneD vs) h := _root_.id rfl

theorem wpd_loop {c : Code} {σ : Type} (I : σ → T Value → H → Prop) (μ : σ → Nat) (s : σ) (hI : I s fr h)
    (round : ∀ s fr' h', I s fr' h' → FrEq (wrs c) fr fr' → wpd E X L c none (loopPost I μ s Q) fr' h') : wpd E X L (.loop c) none Q fr h := fun hl => W.loop I μ s hI hl round
theorem wpd_scope {c : Code} {σ : Type} (I : Option Nat → σ → T Value → H → Prop) (μ : σ → Nat) (s : σ) (hI : I none s fr h)
    (round : ∀ sk s fr' h', I sk s fr' h' → FrEq (wrs c) fr fr' → wpd E X L c sk (scopePost c I μ s Q) fr' h') : wpd E X L (.scope c) none Q fr h := fun hl => W.scope I μ s hI hl round

/-! operations -/
attribute [simp] OptW.some OptW.none OptW.mapV OptW.mapH OptW.ite OptW.ite' ValW.some ValW.none ValW.ite ValW.ite' HpW.some HpW.none HpW.ite HpW.ite'
@[simp] theorem opW_move (x : Operand) : opW E X (.move x) fr h K = ValW (ev fr x) h K := by simp [opW, opD]
@[simp] theorem opW_assign (x : Operand) : opW E X (.assign x) fr h K = ValW (ev fr x) h K := by simp [opW, opD]
def pickO (c : Option Value) (a b : Option Value) : Option Value := match c with
  | some (.bool t) => if t then a else b
  | _ => none
@[simp] theorem pickO_bool (t : Bool) (a b : Option Value) : pickO (some (.bool t)) a b = if t then a else b := _root_.id rfl
@[simp] theorem opW_pick (c a b : Operand) : opW E X (.pick c a b) fr h K = ValW (pickO (ev fr c) (ev fr a) (ev fr b)) h K := by
  simp only [opW, opD, pickO]
  cases ev fr c with
  | none => simp
  | some v => cases v <;> simp
def allocO (ty : Option TypeId) (z : Option Value) (h : H) : Option (Value × H) := z.map fun z => newD 0 ty z.cells.toList h
@[simp] theorem opW_alloc (t : TypeId) : opW E X (.alloc t) fr h K = OptW (allocO (E.tag t) (zeroD E t) h) K := _root_.id rfl
@[simp] theorem opW_box (t : TypeId) (x : Operand) : opW E X (.box t x) fr h K = OptW (allocO (E.tag t) (ev fr x) h) K := _root_.id rfl
@[simp] theorem allocO_some (ty : Option TypeId) (v : Value) (h : H) : allocO ty (some v) h = some (.pointer (some ⟨h.addr, 0, none⟩), h.new (.cells v.cells.toList 0 true 0 ty)) := _root_.id rfl
@[simp] theorem ld_ptr (t : TypeId) (b o : Nat) (h : H) : ld E t (.pointer (some ⟨b, o, none⟩)) h = ldAt E t b o h := _root_.id rfl
@[simp] theorem st_ptr (t : TypeId) (b o : Nat) (v : Value) (h : H) : st E t (.pointer (some ⟨b, o, none⟩)) v h = stAt E t b o v h := _root_.id rfl
/-- One operand; two; three. -/
def b1 (a : Option Value) (f : Value → Option Value) : Option Value := a.bind f
def b2 (a b : Option Value) (f : Value → Value → Option Value) : Option Value := a.bind fun a => b.bind fun b => f a b
@[simp] theorem b1_some (a : Value) (f : Value → Option Value) : b1 (some a) f = f a := _root_.id rfl
@[simp] theorem b2_some (a b : Value) (f : Value → Value → Option Value) : b2 (some a) (some b) f = f a b := _root_.id rfl
def p1 (a : Option Value) (f : Value → Option (Value × H)) : Option (Value × H) := a.bind f
def p2 (a b : Option Value) (f : Value → Value → Option (Value × H)) : Option (Value × H) := a.bind fun a => b.bind fun b => f a b
@[simp] theorem p1_some (a : Value) (f : Value → Option (Value × H)) : p1 (some a) f = f a := _root_.id rfl
@[simp] theorem p2_some (a b : Value) (f : Value → Value → Option (Value × H)) : p2 (some a) (some b) f = f a b := _root_.id rfl
def h2 (a b : Option Value) (f : Value → Value → Option H) : Option H := a.bind fun a => b.bind fun b => f a b
def h3 (a b c : Option Value) (f : Value → Value → Value → Option H) : Option H := a.bind fun a => b.bind fun b => c.bind fun c => f a b c
@[simp] theorem h2_some (a b : Value) (f : Value → Value → Option H) : h2 (some a) (some b) f = f a b := _root_.id rfl
@[simp] theorem h3_some (a b c : Value) (f : Value → Value → Value → Option H) : h3 (some a) (some b) (some c) f = f a b c := _root_.id rfl
@[simp] theorem opW_load (t : TypeId) (a : Operand) : opW E X (.load t a) fr h K = ValW (b1 (ev fr a) fun a => ld E t a h) h K := by
  simp only [opW, opD]; cases ev fr a <;> simp [b1]
@[simp] theorem opW_store (t : TypeId) (a x : Operand) : opW E X (.store t a x) fr h K = HpW (h2 (ev fr a) (ev fr x) fun a v => st E t a v h) undef K := by
  simp only [opW, opD]; cases ev fr a <;> cases ev fr x <;> simp [h2]
@[simp] theorem opW_nilCheck (x : Operand) : opW E X (.nilCheck x) fr h K = ValW (b1 (ev fr x) nilCheckD) h K := by
  simp only [opW, opD]; cases ev fr x <;> simp [b1]
@[simp] theorem opW_binOp (op : BinOp) (t : TypeId) (x y : Operand) (r : TypeId) : opW E X (.binOp op t x y r) fr h K = ValW (b2 (ev fr x) (ev fr y) fun a b => binHD E op t x y a b h) h K := by
  simp only [opW, opD]; cases ev fr x <;> cases ev fr y <;> simp [b2]
@[simp] theorem binH_int (op : BinOp) (t : TypeId) (x y : Operand) (k : IntKind) (a : Int) (b : Value) (h : H) : binHD E op t x y (.int k a) b h = binD E op t x y (.int k a) b := by cases op <;> rfl
@[simp] theorem binH_bool (op : BinOp) (t : TypeId) (x y : Operand) (a : Bool) (b : Value) (h : H) : binHD E op t x y (.bool a) b h = binD E op t x y (.bool a) b := by cases op <;> rfl
@[simp] theorem binH_string (op : BinOp) (t : TypeId) (x y : Operand) (a : ByteArray) (b : Value) (h : H) : binHD E op t x y (.string a) b h = binD E op t x y (.string a) b := by cases op <;> rfl
@[simp] theorem binH_agg (op : BinOp) (t : TypeId) (x y : Operand) (a : Array Value) (b : Value) (h : H) : binHD E op t x y (.agg a) b h = binD E op t x y (.agg a) b := by cases op <;> rfl
@[simp] theorem binH_nilp (op : BinOp) (t : TypeId) (x y : Operand) (b : Value) (h : H) : binHD E op t x y (.pointer none) b h = binD E op t x y (.pointer none) b := by cases op <;> rfl
@[simp] theorem binH_pnil (op : BinOp) (t : TypeId) (x y : Operand) (p : Addr) (h : H) : binHD E op t x y (.pointer (some p)) (.pointer none) h = binD E op t x y (.pointer (some p)) (.pointer none) := by cases op <;> rfl
@[simp] theorem binH_slice (op : BinOp) (t : TypeId) (x y : Operand) (a : Option Addr) (n c : Nat) (b : Value) (h : H) : binHD E op t x y (.slice a n c) b h = binD E op t x y (.slice a n c) b := by cases op <;> rfl
@[simp] theorem binH_map (op : BinOp) (t : TypeId) (x y : Operand) (a : Option Nat) (b : Value) (h : H) : binHD E op t x y (.map a) b h = binD E op t x y (.map a) b := by cases op <;> rfl
@[simp] theorem binH_nilf (op : BinOp) (t : TypeId) (x y : Operand) (b : Value) (h : H) : binHD E op t x y .nilFunc b h = binD E op t x y .nilFunc b := by cases op <;> rfl
@[simp] theorem binH_func (op : BinOp) (t : TypeId) (x y : Operand) (f : Fn) (a c : Array Value) (b : Value) (h : H) : binHD E op t x y (.func f a c) b h = binD E op t x y (.func f a c) b := by cases op <;> rfl
@[simp] theorem binH_nili (op : BinOp) (t : TypeId) (x y : Operand) (b : Value) (h : H) : binHD E op t x y .nilIface b h = binD E op t x y .nilIface b := by cases op <;> rfl
@[simp] theorem binH_iface (op : BinOp) (t : TypeId) (x y : Operand) (u : TypeId) (v b : Value) (h : H) : binHD E op t x y (.iface u v) b h = binD E op t x y (.iface u v) b := by cases op <;> rfl
def ptrT (E : Env) (u : Option TypeDesc) (p q : Addr) (h : H) : Option Bool := match u with
  | some (.pointer e) => match E.siz e with
    | some n => if n = 0 then none else ptrEq p q h
    | none => none
  | _ => none
@[simp] theorem binH_eqp (t : TypeId) (x y : Operand) (p q : Addr) (h : H) : binHD E .eql t x y (.pointer (some p)) (.pointer (some q)) h = (ptrT E (E.und t) p q h).map .bool := _root_.id rfl
@[simp] theorem binH_nep (t : TypeId) (x y : Operand) (p q : Addr) (h : H) : binHD E .neq t x y (.pointer (some p)) (.pointer (some q)) h = (ptrT E (E.und t) p q h).map fun r => .bool !r := _root_.id rfl
@[simp] theorem opW_unOp (op : UnOp) (t : TypeId) (x : Operand) : opW E X (.unOp op t x) fr h K = ValW (b1 (ev fr x) fun a => unD op a) h K := by
  simp only [opW, opD]; cases ev fr x <;> simp [b1]
@[simp] theorem opW_convert (s d : TypeId) (x : Operand) : opW E X (.convert s d x) fr h K = OptW (p1 (ev fr x) fun a => convD E s d a h) K := by
  simp only [opW, opD]; cases ev fr x <;> simp [p1]
def mkIf (E : Env) (t : TypeId) (a : Option Value) : Option Value := match a, E.und t with
  | some _, some (.interface _) => none
  | some a, some _ => some (.iface t a)
  | _, _ => none
@[simp] theorem opW_makeInterface (t : TypeId) (x : Operand) : opW E X (.makeInterface t x) fr h K = ValW (mkIf E t (ev fr x)) h K := by
  simp only [opW, opD, mkIf]; cases ev fr x with
  | none => simp
  | some v => cases E.und t with
    | none => simp
    | some d => cases d <;> simp
def mkFn (f : FuncId) (a b : Option (List Value)) : Option Value := match a, b with
  | some a, some b => some (.func (.func f) a.toArray b.toArray)
  | _, _ => none
@[simp] theorem mkFn_some (f : FuncId) (a b : List Value) : mkFn f (some a) (some b) = some (.func (.func f) a.toArray b.toArray) := _root_.id rfl
@[simp] theorem opW_makeFunc (f : FuncId) (a b : Array Operand) : opW E X (.makeFunc (.func f) a b) fr h K = ValW (mkFn f (evs fr a.toList) (evs fr b.toList)) h K := by
  simp only [opW, opD, mkFn]; cases evs fr a.toList <;> cases evs fr b.toList <;> simp
@[simp] theorem opW_makeMap (t : TypeId) : opW E X (.makeMap t none) fr h K = K (.map (some h.addr)) (h.new (.map [] 0)) := by
  simp only [opW, opD, OptW.some]
@[simp] theorem opW_makeSlice (t : TypeId) (l c : Operand) : opW E X (.makeSlice t l c) fr h K = OptW (p2 (ev fr l) (ev fr c) fun a b => makeSliceD E t a b h) K := by
  simp only [opW, opD]; cases ev fr l <;> cases ev fr c <;> simp [p2]
def slO (E : Env) (t : TypeId) (a : Option Value) (lo hi mx : Option (Option Value)) (h : H) : Option Value := match a, lo, hi, mx with
  | some a, some lo, some hi, some mx => sliceD E t a lo hi mx h
  | _, _, _, _ => none
@[simp] theorem slO_some (t : TypeId) (a : Value) (lo hi mx : Option Value) (h : H) : slO E t (some a) (some lo) (some hi) (some mx) h = sliceD E t a lo hi mx h := _root_.id rfl
@[simp] theorem opW_slice (t : TypeId) (x : Operand) (lo hi mx : Option Operand) : opW E X (.slice t x lo hi mx) fr h K = ValW (slO E t (ev fr x) (evo fr lo) (evo fr hi) (evo fr mx) h) h K := by
  simp only [opW, opD, slO]; cases ev fr x <;> cases evo fr lo <;> cases evo fr hi <;> cases evo fr mx <;> simp
@[simp] theorem opW_fieldAddr (s : TypeId) (x : Operand) (f : Nat) : opW E X (.fieldAddr s x f) fr h K = ValW (b1 (ev fr x) fun a => fieldAddrD E s a f) h K := by
  simp only [opW, opD]; cases ev fr x <;> simp [b1]
@[simp] theorem opW_field (s : TypeId) (x : Operand) (f : Nat) : opW E X (.field s x f) fr h K = ValW (b1 (ev fr x) fun a => fieldD E s a f) h K := by
  simp only [opW, opD]; cases ev fr x <;> simp [b1]
@[simp] theorem opW_indexAddr (t : TypeId) (x i : Operand) : opW E X (.indexAddr t x i) fr h K = ValW (b2 (ev fr x) (ev fr i) fun a b => indexAddrD E t a b) h K := by
  simp only [opW, opD]; cases ev fr x <;> cases ev fr i <;> simp [b2]
@[simp] theorem opW_index (t : TypeId) (x i : Operand) : opW E X (.index t x i) fr h K = ValW (b2 (ev fr x) (ev fr i) fun a b => indexD E t a b) h K := by
  simp only [opW, opD]; cases ev fr x <;> cases ev fr i <;> simp [b2]
@[simp] theorem opW_lookup (t : TypeId) (m k : Operand) (ok : Bool) : opW E X (.lookup t m k ok) fr h K = ValW (b2 (ev fr m) (ev fr k) fun a b => lookupD E t a b ok h) h K := by
  simp only [opW, opD]; cases ev fr m <;> cases ev fr k <;> simp [b2]
@[simp] theorem opW_mapUpdate (t : TypeId) (m k v : Operand) : opW E X (.mapUpdate t m k v) fr h K = HpW (h3 (ev fr m) (ev fr k) (ev fr v) fun a b c => mapPutD E t a b c h) undef K := by
  simp only [opW, opD]; cases ev fr m <;> cases ev fr k <;> cases ev fr v <;> simp [h3]
@[simp] theorem opW_insert (t : TypeId) (m k v : Operand) : opW E X (.insert t m k v) fr h K = HpW (h3 (ev fr m) (ev fr k) (ev fr v) fun a b c => mapPutD E t a b c h) undef K := by
  simp only [opW, opD]; cases ev fr m <;> cases ev fr k <;> cases ev fr v <;> simp [h3]
@[simp] theorem opW_extract (x : Operand) (i : Nat) : opW E X (.extract x i) fr h K = ValW (b1 (ev fr x) fun a => extractD a i) h K := by
  simp only [opW, opD]; cases ev fr x <;> simp [b1]
def psO (l : List (Nat × Operand)) (fr : T Value) : Option (List (Nat × Value)) := evps fr l
def consP (i : Nat) : Option Value → Option (List (Nat × Value)) → Option (List (Nat × Value))
  | some v, some vs => some ((i, v) :: vs)
  | _, _ => none
@[simp] theorem consP_some (i : Nat) (v : Value) (vs : List (Nat × Value)) : consP i (some v) (some vs) = some ((i, v) :: vs) := _root_.id rfl
@[simp] theorem evps_nil : evps fr [] = some [] := _root_.id rfl
@[simp] theorem evps_cons (i : Nat) (x : Operand) (xs : List (Nat × Operand)) : evps fr ((i, x) :: xs) = consP i (ev fr x) (evps fr xs) := by
  simp only [evps]; cases ev fr x <;> cases evps fr xs <;> rfl
def pb (a : Option (List (Nat × Value))) (f : List (Nat × Value) → Option Value) : Option Value := a.bind f
@[simp] theorem pb_some (a : List (Nat × Value)) (f : List (Nat × Value) → Option Value) : pb (some a) f = f a := _root_.id rfl
def pbs (a : Option (List (Nat × Value))) (f : List (Nat × Value) → Option (Value × H)) : Option (Value × H) := a.bind f
@[simp] theorem pbs_some (a : List (Nat × Value)) (f : List (Nat × Value) → Option (Value × H)) : pbs (some a) f = f a := _root_.id rfl
@[simp] theorem opW_build (t : TypeId) (ps : Array (Nat × Operand)) : opW E X (.build t ps) fr h K = ValW (pb (evps fr ps.toList) fun ps => buildD E t ps) h K := by
  simp only [opW, opD]; cases evps fr ps.toList <;> simp [pb]
@[simp] theorem opW_buildSlice (t : TypeId) (n : Nat) (ps : Array (Nat × Operand)) : opW E X (.buildSlice t n ps) fr h K = OptW (pbs (evps fr ps.toList) fun ps => buildSliceD E t n ps h) K := by
  simp only [opW, opD]; cases evps fr ps.toList <;> simp [pbs]
def biD (E : Env) (b : Builtin) (ts : List TypeId) (args : List Value) (h : H) : Option (Value × H) := match b with
  | .len => match ts, args with
    | [t], [x] => (lenD E t x h).map (·, h)
    | _, _ => none
  | .append => match args with
    | [s, x] => appendD E ts s x h
    | _ => none
  | .copy => match args with
    | [s, x] => copyD E ts s x h
    | _ => none
  | .min => match args with
    | [a, b] => (minD a b).map (·, h)
    | _ => none
  | .max => match args with
    | [a, b] => (maxD a b).map (·, h)
    | _ => none
  | .delete => match ts, args with
    | t :: _, [m, k] => (mapDelD E t m k h).map (.tuple #[], ·)
    | _, _ => none
  | _ => none
@[simp] theorem biD_len (t : TypeId) (x : Value) (h : H) : biD E .len [t] [x] h = (lenD E t x h).map (·, h) := _root_.id rfl
@[simp] theorem biD_append (ts : List TypeId) (s x : Value) (h : H) : biD E .append ts [s, x] h = appendD E ts s x h := _root_.id rfl
@[simp] theorem biD_copy (ts : List TypeId) (s x : Value) (h : H) : biD E .copy ts [s, x] h = copyD E ts s x h := _root_.id rfl
@[simp] theorem biD_min (ts : List TypeId) (s x : Value) (h : H) : biD E .min ts [s, x] h = (minD s x).map (·, h) := _root_.id rfl
@[simp] theorem biD_max (ts : List TypeId) (s x : Value) (h : H) : biD E .max ts [s, x] h = (maxD s x).map (·, h) := _root_.id rfl
@[simp] theorem biD_delete (t : TypeId) (ts : List TypeId) (s x : Value) (h : H) : biD E .delete (t :: ts) [s, x] h = (mapDelD E t s x h).map (.tuple #[], ·) := _root_.id rfl
def callV (E : Env) (X : Plug) (f : Option Value) (args : List Value) (h : H) (K : VPost) : Prop := match f with
  | some v => callFnW E X v args h K
  | none => False
@[simp] theorem callV_fn (g : FuncId) (a b : List Value) (args : List Value) : callV E X (some (.func (.func g) a.toArray b.toArray)) args h K = CallW E X (.fn g) (a ++ args ++ b) h K := _root_.id rfl
@[simp] theorem callV_yd (l : Nat) (a b : Array Value) (args : List Value) : callV E X (some (.func (.yield l) a b)) args h K = CallW E X (.yd l) args h K := _root_.id rfl
def invW (E : Env) (X : Plug) (r : Option Value) (name : String) (args : List Value) (h : H) (K : VPost) : Prop := match r with
  | some (.iface t v) => match methodD E t v name with
    | some (f, rv) => CallW E X (.fn f) (rv :: args) h K
    | none => False
  | _ => False
def callC (E : Env) (X : Plug) (c : Callee) (ts : List TypeId) (args : Option (List Value)) (fr : T Value) (h : H) (K : VPost) : Prop := match args with
  | some args => match c with
    | .value f => callV E X (ev fr f) args h K
    | .invoke r name => invW E X (ev fr r) name args h K
    | .builtin b => OptW (biD E b ts args h) K
  | none => False
@[simp] theorem callC_value (f : Operand) (ts : List TypeId) (args : List Value) : callC E X (.value f) ts (some args) fr h K = callV E X (ev fr f) args h K := _root_.id rfl
@[simp] theorem callC_invoke (r : Operand) (name : String) (ts : List TypeId) (args : List Value) : callC E X (.invoke r name) ts (some args) fr h K = invW E X (ev fr r) name args h K := _root_.id rfl
@[simp] theorem callC_builtin (b : Builtin) (ts : List TypeId) (args : List Value) : callC E X (.builtin b) ts (some args) fr h K = OptW (biD E b ts args h) K := _root_.id rfl
@[simp] theorem opW_call (c : Callee) (args : Array Operand) (ts : Array TypeId) : opW E X (.call { callee := c, args := args, argTypes := ts }) fr h K = callC E X c ts.toList (evs fr args.toList) fr h K := by
  simp only [opW, callC]
  cases hx : evs fr args.toList with
  | none => rfl
  | some xs =>
    cases c with
    | value f => simp only [calleeW, callV]; try (cases ev fr f <;> rfl)
    | invoke r name =>
      simp only [calleeW, invW]
      try (cases ev fr r with
      | none => rfl
      | some v => cases v <;> rfl)
    | builtin b => simp only [calleeW, opD, hx]; cases b <;> rfl

def tagO (m : Bool) (t : TypeId) : Option TypeId := if m then some t else none
@[simp] theorem tag_eq (t : TypeId) : E.tag t = tagO (E.mark t) t := _root_.id rfl
@[simp] theorem tagO_true (t : TypeId) : tagO true t = some t := _root_.id rfl
@[simp] theorem tagO_false (t : TypeId) : tagO false t = none := _root_.id rfl
/-! ### memory -/
@[simp] theorem get_clr (h : H) (b : Nat) : h.clr.get b = h.get b := _root_.id rfl
@[simp] theorem next_clr (h : H) : h.clr.next = h.next := _root_.id rfl
@[simp] theorem one_clr (h : H) : h.clr.one = [] := _root_.id rfl
@[simp] theorem one_put (h : H) (b : Nat) (o : DObj) : (h.put b o).one = h.one := _root_.id rfl
@[simp] theorem one_drop (h : H) (b : Nat) : (h.drop b).one = h.one := _root_.id rfl
/-- A new block, behind all others. -/
def H.nw (h : H) (o : DObj) : H := h.clr.new o
@[simp] theorem one_nw (h : H) (o : DObj) : (h.nw o).one = [] := _root_.id rfl
@[simp] theorem next_nw (h : H) (o : DObj) : (h.nw o).next = h.next + 1 := _root_.id rfl
@[simp] theorem get_nw (h : H) (o : DObj) (c : Nat) : (h.nw o).get c = if c = h.next then some o else h.get c := H.get_new h.clr o c
@[simp] theorem clr_nw (h : H) (o : DObj) : (h.nw o).clr = h.nw o := _root_.id rfl
@[simp] theorem nw_clr (h : H) (o : DObj) : h.clr.nw o = h.nw o := _root_.id rfl
@[simp] theorem clr_new (h : H) (o : DObj) : h.clr.new o = h.nw o := _root_.id rfl
@[simp] theorem addr_clr (h : H) : h.clr.addr = h.next := _root_.id rfl
@[simp] theorem new_one (h : H) (o : DObj) (h1 : h.one = []) : h.new o = h.nw o := by
  unfold H.nw
  have : h.clr = h := by cases h; cases h1; rfl
  rw [this]
@[simp] theorem next_put (h : H) (b : Nat) (o : DObj) : (h.put b o).next = h.next := _root_.id rfl
@[simp] theorem next_drop (h : H) (b : Nat) : (h.drop b).next = h.next := _root_.id rfl
@[simp] theorem addr_one (h : H) (h1 : h.one = []) : h.addr = h.next := by simp [H.addr, h1]
@[simp] theorem clr_one (h : H) (h1 : h.one = []) : h.clr = h := by cases h; cases h1; rfl
theorem get_new (h : H) (o : DObj) (c : Nat) (h1 : h.one = []) : (h.new o).get c = if c = h.next then some o else h.get c := by rw [H.get_new, addr_one h h1]
attribute [simp] H.get_put H.get_drop
@[simp] theorem put_clr (h : H) (b : Nat) (o : DObj) : h.clr.put b o = (h.put b o).clr := _root_.id rfl
@[simp] theorem drop_clr (h : H) (b : Nat) : h.clr.drop b = (h.drop b).clr := _root_.id rfl
@[simp] theorem clr_clr (h : H) : h.clr.clr = h.clr := _root_.id rfl
def ldC (E : Env) (t : TypeId) (o : Nat) (x : Option DObj) : Option Value := match x with
  | some (.cells c _ _ _ _) => partD E t c o
  | _ => none
@[simp] theorem ldC_some (t : TypeId) (o : Nat) (c : List Value) (s : Nat) (own : Bool) (fz : Nat) (ty : Option TypeId) : ldC E t o (some (.cells c s own fz ty)) = partD E t c o := _root_.id rfl
@[simp] theorem ldAt_eq (t : TypeId) (b o : Nat) (h : H) : ldAt E t b o h = ldC E t o (h.get b) := _root_.id rfl
def partN (a : Option (Option Nat)) (cs : List Value) (off : Nat) : Option Value := match a with
  | some (some n) => if off + n ≤ cs.length then some (.agg ((cs.drop off).take n).toArray) else none
  | some none => cs[off]?
  | none => none
@[simp] theorem partN_agg (n : Nat) (cs : List Value) (off : Nat) : partN (some (some n)) cs off = if off + n ≤ cs.length then some (.agg ((cs.drop off).take n).toArray) else none := _root_.id rfl
@[simp] theorem partN_one (cs : List Value) (off : Nat) : partN (some none) cs off = cs[off]? := _root_.id rfl
@[simp] theorem partD_eq (t : TypeId) (cs : List Value) (off : Nat) : partD E t cs off = partN (aggN E t) cs off := _root_.id rfl
def stC (b o : Nat) (vs : List Value) (h : H) (x : Option DObj) : Option H := match x with
  | some (.cells c s true fz ty) => if o + vs.length ≤ c.length && fz ≤ o && vs.all cellV then some (h.put b (.cells (setAt c o vs) s true fz ty)) else none
  | _ => none
@[simp] theorem stC_some (b o : Nat) (vs : List Value) (h : H) (c : List Value) (s fz : Nat) (ty : Option TypeId) : stC b o vs h (some (.cells c s true fz ty)) = if o + vs.length ≤ c.length && fz ≤ o && vs.all cellV then some (h.put b (.cells (setAt c o vs) s true fz ty)) else none := _root_.id rfl
@[simp] theorem stCells_eq (b o : Nat) (vs : List Value) (h : H) : stCells b o vs h = stC b o vs h (h.get b) := _root_.id rfl
def stN (n : Option Nat) (b o : Nat) (v : Value) (h : H) : Option H := match n with
  | some n => if v.cells.size = n then stCells b o v.cells.toList h else none
  | none => none
@[simp] theorem stN_some (n b o : Nat) (v : Value) (h : H) : stN (some n) b o v h = if v.cells.size = n then stCells b o v.cells.toList h else none := _root_.id rfl
@[simp] theorem stAt_eq (t : TypeId) (b o : Nat) (v : Value) (h : H) : stAt E t b o v h = stN (E.siz t) b o v h := _root_.id rfl
@[simp] theorem cells_agg (cs : Array Value) : (Value.agg cs).cells = cs := _root_.id rfl
@[simp] theorem cells_int (k : IntKind) (n : Int) : (Value.int k n).cells = #[.int k n] := _root_.id rfl
@[simp] theorem cells_bool (b : Bool) : (Value.bool b).cells = #[.bool b] := _root_.id rfl
@[simp] theorem cells_string (s : ByteArray) : (Value.string s).cells = #[.string s] := _root_.id rfl
@[simp] theorem cells_pointer (a : Option Addr) : (Value.pointer a).cells = #[.pointer a] := _root_.id rfl
@[simp] theorem cells_slice (a : Option Addr) (n c : Nat) : (Value.slice a n c).cells = #[.slice a n c] := _root_.id rfl
@[simp] theorem cells_map (a : Option Nat) : (Value.map a).cells = #[.map a] := _root_.id rfl
@[simp] theorem cells_func (f : Fn) (a b : Array Value) : (Value.func f a b).cells = #[.func f a b] := _root_.id rfl
@[simp] theorem cells_nilFunc : Value.nilFunc.cells = #[.nilFunc] := _root_.id rfl
@[simp] theorem cells_nilIface : Value.nilIface.cells = #[.nilIface] := _root_.id rfl
@[simp] theorem cells_iface (t : TypeId) (v : Value) : (Value.iface t v).cells = #[.iface t v] := _root_.id rfl
@[simp] theorem cellV_int (k : IntKind) (n : Int) : cellV (.int k n) = true := _root_.id rfl
@[simp] theorem cellV_bool (b : Bool) : cellV (.bool b) = true := _root_.id rfl
@[simp] theorem cellV_string (s : ByteArray) : cellV (.string s) = true := _root_.id rfl
@[simp] theorem cellV_pointer (a : Option Addr) : cellV (.pointer a) = true := _root_.id rfl
@[simp] theorem cellV_slice (a : Option Addr) (n c : Nat) : cellV (.slice a n c) = true := _root_.id rfl
@[simp] theorem cellV_map (a : Option Nat) : cellV (.map a) = true := _root_.id rfl
@[simp] theorem cellV_func (f : Fn) (a b : Array Value) : cellV (.func f a b) = true := _root_.id rfl
@[simp] theorem cellV_nilFunc : cellV .nilFunc = true := _root_.id rfl
@[simp] theorem cellV_nilIface : cellV .nilIface = true := _root_.id rfl
@[simp] theorem cellV_iface (t : TypeId) (v : Value) : cellV (.iface t v) = true := _root_.id rfl
attribute [simp] setAt

/-! ### integers -/
theorem wrap_u {k : IntKind} {x : Int} (hk : k.signed = false) (h1 : 0 ≤ x) (h2 : x < 2 ^ k.bits) : k.wrap x = x := by
  unfold IntKind.wrap
  simp only [hk, Bool.false_and]
  exact Int.emod_eq_of_lt h1 h2
theorem wrap_i64 {x : Int} (h1 : -9223372036854775808 ≤ x) (h2 : x < 9223372036854775808) : IntKind.i64.wrap x = x := by
  simp [IntKind.wrap, IntKind.bits, IntKind.signed]
  split <;> omega
theorem wrap_i32 {x : Int} (h1 : -2147483648 ≤ x) (h2 : x < 2147483648) : IntKind.i32.wrap x = x := by
  simp [IntKind.wrap, IntKind.bits, IntKind.signed]
  split <;> omega
theorem wrap_u8 {x : Int} (h1 : 0 ≤ x) (h2 : x < 256) : IntKind.u8.wrap x = x := wrap_u rfl h1 h2
theorem wrap_u64 {x : Int} (h1 : 0 ≤ x) (h2 : x < 18446744073709551616) : IntKind.u64.wrap x = x := wrap_u rfl h1 h2
@[simp] theorem bin_int (op : BinOp) (t : TypeId) (x y : Operand) (k : IntKind) (a b : Int) (h1 : op ≠ .shl) (h2 : op ≠ .shr) : binD E op t x y (.int k a) (.int k b) = intD op k a b := by
  cases op <;> first | exact absurd rfl h1 | exact absurd rfl h2 | simp [binD]
@[simp] theorem bin_str (op : BinOp) (t : TypeId) (x y : Operand) (a b : ByteArray) : binD E op t x y (.string a) (.string b) = strD op a b := by
  cases op <;> rfl
@[simp] theorem int_add (k : IntKind) (a b : Int) : intD .add k a b = some (.int k (k.wrap (a + b))) := _root_.id rfl
@[simp] theorem int_sub (k : IntKind) (a b : Int) : intD .sub k a b = some (.int k (k.wrap (a - b))) := _root_.id rfl
@[simp] theorem int_mul (k : IntKind) (a b : Int) : intD .mul k a b = some (.int k (k.wrap (a * b))) := _root_.id rfl
@[simp] theorem int_quo (k : IntKind) (a b : Int) : intD .quo k a b = if b = 0 then none else some (.int k (k.wrap (a.tdiv b))) := _root_.id rfl
@[simp] theorem int_rem (k : IntKind) (a b : Int) : intD .rem k a b = if b = 0 then none else some (.int k (a.tmod b)) := _root_.id rfl
@[simp] theorem int_eql (k : IntKind) (a b : Int) : intD .eql k a b = some (.bool (decide (a = b))) := _root_.id rfl
@[simp] theorem int_neq (k : IntKind) (a b : Int) : intD .neq k a b = some (.bool (decide (a ≠ b))) := by
  show some (Value.bool (!decide (a = b))) = _
  simp
@[simp] theorem int_lss (k : IntKind) (a b : Int) : intD .lss k a b = some (.bool (decide (a < b))) := _root_.id rfl
@[simp] theorem int_leq (k : IntKind) (a b : Int) : intD .leq k a b = some (.bool (decide (a ≤ b))) := _root_.id rfl
@[simp] theorem int_gtr (k : IntKind) (a b : Int) : intD .gtr k a b = some (.bool (decide (b < a))) := _root_.id rfl
@[simp] theorem int_geq (k : IntKind) (a b : Int) : intD .geq k a b = some (.bool (decide (b ≤ a))) := _root_.id rfl
@[simp] theorem un_not (b : Bool) : unD .not (.bool b) = some (.bool !b) := _root_.id rfl
@[simp] theorem un_neg (k : IntKind) (n : Int) : unD .neg (.int k n) = some (.int k (k.wrap (0 - n))) := _root_.id rfl

/-! ### strings: lists of bytes -/
def str (l : List UInt8) : Value := .string ⟨l.toArray⟩
theorem bytes_ext {a b : ByteArray} (h : a.data.toList = b.data.toList) : a = b := by
  obtain ⟨⟨x⟩⟩ := a; obtain ⟨⟨y⟩⟩ := b; cases h; rfl
theorem bytes_size (l : List UInt8) : (ByteArray.mk l.toArray).size = l.length := by simp [ByteArray.size]
def lenT (d : Option TypeDesc) (x : Value) (h : H) : Option Value := match d, x with
  | some .string, .string s => some (intV s.size)
  | some (.array n _), _ => some (intV n)
  | some (.slice _), .slice _ n _ => some (intV n)
  | some (.map _ _), .map none => some (intV 0)
  | some (.map _ _), .map (some r) => match h.get r with
    | some (.map es _) => some (intV es.length)
    | _ => none
  | _, _ => none
@[simp] theorem lenD_eq (t : TypeId) (x : Value) (h : H) : lenD E t x h = lenT (E.und t) x h := _root_.id rfl
@[simp] theorem lenT_str (l : List UInt8) (h : H) : lenT (some .string) (str l) h = some (.int .i64 l.length) := by simp [lenT, str, intV, bytes_size]
@[simp] theorem lenT_array (n : Nat) (t : TypeId) (x : Value) (h : H) : lenT (some (.array n t)) x h = some (.int .i64 n) := by cases x <;> rfl
@[simp] theorem lenT_slice (t : TypeId) (a : Option Addr) (n c : Nat) (h : H) : lenT (some (.slice t)) (.slice a n c) h = some (.int .i64 n) := _root_.id rfl
@[simp] theorem binH_str (op : BinOp) (t : TypeId) (x y : Operand) (l : List UInt8) (b : Value) (h : H) : binHD E op t x y (str l) b h = binD E op t x y (str l) b := by cases op <;> rfl
@[simp] theorem cells_str (l : List UInt8) : (str l).cells = #[str l] := _root_.id rfl
@[simp] theorem cellV_str (l : List UInt8) : cellV (str l) = true := _root_.id rfl
theorem str_inj {a b : List UInt8} : (str a = str b) = (a = b) := by simp [str]
def strLD (op : BinOp) (x y : List UInt8) : Option Value := match op with
  | .add => if x.length + y.length ≤ 2 ^ 62 then some (str (x ++ y)) else none
  | .eql => some (.bool (decide (x = y)))
  | .neq => some (.bool (decide (x ≠ y)))
  | .lss => some (.bool (Op.bytesLess x y))
  | .leq => some (.bool (Op.bytesLess x y || decide (x = y)))
  | .gtr => some (.bool !(Op.bytesLess x y || decide (x = y)))
  | .geq => some (.bool !Op.bytesLess x y)
  | _ => none
theorem bytes_toList (l : List UInt8) : (ByteArray.mk l.toArray).toList = l := by rw [ByteArray.toList_eq]
@[simp] theorem bin_strL (op : BinOp) (t : TypeId) (x y : Operand) (a b : List UInt8) : binD E op t x y (str a) (str b) = strLD op a b := by
  unfold str
  rw [bin_str]
  have hb : (a == b) = decide (a = b) := by rw [Bool.eq_iff_iff]; simp
  have ha : (ByteArray.mk a.toArray ++ ByteArray.mk b.toArray) = ByteArray.mk (a ++ b).toArray := by
    apply bytes_ext; simp
  cases op <;> simp [strD, strLD, bytes_size, bytes_toList, str, bne, hb, ha]
@[simp] theorem string_lit (l : List UInt8) : Value.string ⟨l.toArray⟩ = str l := _root_.id rfl
def byteAt (l : List UInt8) (i : Int) : Int := (l.getD i.toNat 0).toNat
def idxB (l : List UInt8) (i : Int) : Option Value := if 0 ≤ i ∧ i < l.length then some (.int .u8 (byteAt l i)) else none
theorem idxB_in {l : List UInt8} {i : Int} (h0 : 0 ≤ i) (h1 : i < l.length) : idxB l i = some (.int .u8 (byteAt l i)) := if_pos ⟨h0, h1⟩
def indexT (E : Env) (d : Option TypeDesc) (x index : Value) : Option Value :=
  match d, x, index with
  | some (.array len elem), .agg cs, .int _ i => if 0 ≤ i && i < (len : Int) then match E.siz elem with
      | some n => partD E elem cs.toList (i.toNat * n)
      | none => none
    else none
  | some .string, .string s, .int _ i => if 0 ≤ i then match s.data.toList[i.toNat]? with
      | some b => some (.int .u8 b.toNat)
      | none => none
    else none
  | _, _, _ => none
@[simp] theorem indexD_eq (t : TypeId) (x i : Value) : indexD E t x i = indexT E (E.und t) x i := _root_.id rfl
@[simp] theorem indexT_str (l : List UInt8) (k : IntKind) (i : Int) : indexT E (some .string) (str l) (.int k i) = idxB l i := by
  show (if 0 ≤ i then match (ByteArray.mk l.toArray).data.toList[i.toNat]? with
      | some b => some (Value.int .u8 b.toNat)
      | none => none
    else none) = _
  unfold idxB byteAt
  by_cases h0 : 0 ≤ i
  · by_cases h1 : i < l.length
    · have h2 : i.toNat < l.length := by omega
      simp [h0, h1, h2]
    · have h2 : l.length ≤ i.toNat := by omega
      simp [h0, h1, h2]
  · simp [h0]
def sliceT (E : Env) (d : Option TypeDesc) (x : Value) (low high max : Option Value) (h : H) : Option Value :=
  match d, x with
  | some .string, .string s => if max.isSome then none else match boundsD s.size s.size low high none with
    | some (l, hi, _) => some (.string (s.extract l hi))
    | none => none
  | some (.array n elem), .pointer (some ⟨b, o, none⟩) => match boundsD n n low high max, E.siz elem with
    | some (l, hi, m), some sz => some (.slice (some ⟨b, if m = l then o else o + l * sz, none⟩) (hi - l) (m - l))
    | _, _ => none
  | some (.slice elem), .slice (some ⟨b, o, none⟩) len cap => match boundsD len cap low high max, E.siz elem, h.get b with
    | some (l, hi, m), some sz, some (.cells _ s _ _ _) => if s == 0 || s == sz then some (.slice (some ⟨b, o + l * sz, none⟩) (hi - l) (m - l)) else none
    | _, _, _ => none
  | some (.slice elem), .slice none 0 0 => match boundsD 0 0 low high max, E.siz elem with
    | some _, some _ => some (.slice none 0 0)
    | _, _ => none
  | _, _ => none
@[simp] theorem sliceD_eq (t : TypeId) (x : Value) (lo hi mx : Option Value) (h : H) : sliceD E t x lo hi mx h = sliceT E (E.und t) x lo hi mx h := _root_.id rfl
theorem extract_list (l : List UInt8) (a b : Nat) : (ByteArray.mk l.toArray).extract a b = ByteArray.mk ((l.take b).drop a).toArray := by
  apply bytes_ext
  simp [ByteArray.data_extract, List.extract, List.drop_take]
@[simp] theorem sliceT_str_lo (l : List UInt8) (k : IntKind) (a : Int) (h : H) : sliceT E (some .string) (str l) (some (.int k a)) none none h = if 0 ≤ a ∧ a ≤ l.length then some (str (l.drop a.toNat)) else none := by
  simp only [sliceT, str, boundsD, bytes_size, Option.isSome_none, Bool.false_eq_true, if_false, Bool.and_eq_true, decide_eq_true_eq]
  by_cases hc : 0 ≤ a ∧ a ≤ l.length
  · simp [hc, extract_list]
  · simp [hc]
@[simp] theorem sliceT_str_hi (l : List UInt8) (k : IntKind) (a : Int) (h : H) : sliceT E (some .string) (str l) none (some (.int k a)) none h = if 0 ≤ a ∧ a ≤ l.length then some (str (l.take a.toNat)) else none := by
  simp only [sliceT, str, boundsD, bytes_size, Option.isSome_none, Bool.false_eq_true, if_false, Bool.and_eq_true, decide_eq_true_eq]
  by_cases hc : 0 ≤ a ∧ a ≤ l.length
  · simp [hc, extract_list]
  · simp [hc]
@[simp] theorem sliceT_str_lh (l : List UInt8) (k k' : IntKind) (a b : Int) (h : H) : sliceT E (some .string) (str l) (some (.int k a)) (some (.int k' b)) none h = if 0 ≤ b ∧ b ≤ l.length ∧ 0 ≤ a ∧ a ≤ b then some (str ((l.take b.toNat).drop a.toNat)) else none := by
  simp only [sliceT, str, boundsD, bytes_size, Option.isSome_none, Bool.false_eq_true, if_false, Bool.and_eq_true, decide_eq_true_eq]
  by_cases hc : 0 ≤ b ∧ b ≤ l.length
  · by_cases hd : 0 ≤ a ∧ a ≤ b
    · have : a ≤ max b 0 := by omega
      simp [hc, hd, extract_list, this]
    · have : ¬ (0 ≤ a ∧ a ≤ max b 0) := by omega
      simp [hc, hd, this]
  · have : ¬ (0 ≤ b ∧ b ≤ l.length ∧ 0 ≤ a ∧ a ≤ b) := fun h => hc ⟨h.1, h.2.1⟩
    simp [hc, this]
end
end Go.Dm

set_option linter.unusedVariables false
set_option linter.unusedSimpArgs false
namespace Go.Dm
section
variable {E : Env} {X : Plug}
def aggT (d : Option TypeDesc) (n : Option Nat) : Option (Option Nat) := match d with
  | some (.struct _) | some (.array _ _) => n.map some
  | some _ => some none
  | none => none
@[simp] theorem aggN_eq (t : TypeId) : aggN E t = aggT (E.und t) (E.siz t) := _root_.id rfl
@[simp] theorem aggT_struct (fs : Array Field) (n : Nat) : aggT (some (.struct fs)) (some n) = some (some n) := _root_.id rfl
@[simp] theorem aggT_array (k : Nat) (t : TypeId) (n : Nat) : aggT (some (.array k t)) (some n) = some (some n) := _root_.id rfl
@[simp] theorem aggT_bool (n : Option Nat) : aggT (some .bool) n = some none := _root_.id rfl
@[simp] theorem aggT_int (k : IntKind) (n : Option Nat) : aggT (some (.int k)) n = some none := _root_.id rfl
@[simp] theorem aggT_string (n : Option Nat) : aggT (some .string) n = some none := _root_.id rfl
@[simp] theorem aggT_pointer (t : TypeId) (n : Option Nat) : aggT (some (.pointer t)) n = some none := _root_.id rfl
@[simp] theorem aggT_slice (t : TypeId) (n : Option Nat) : aggT (some (.slice t)) n = some none := _root_.id rfl
@[simp] theorem aggT_map (k t : TypeId) (n : Option Nat) : aggT (some (.map k t)) n = some none := _root_.id rfl
@[simp] theorem aggT_func (a b : Array TypeId) (v : Bool) (n : Option Nat) : aggT (some (.func a b v)) n = some none := _root_.id rfl
@[simp] theorem aggT_iface (a : Array (String × TypeId)) (n : Option Nat) : aggT (some (.interface a)) n = some none := _root_.id rfl
/-! fields -/
def faN (b o : Nat) (n : Option Nat) : Option Value := match n with
  | some n => if n = 0 then none else some (.pointer (some ⟨b, o, none⟩))
  | none => none
@[simp] theorem faN_some (b o n : Nat) : faN b o (some n) = if n = 0 then none else some (.pointer (some ⟨b, o, none⟩)) := _root_.id rfl
def faF (E : Env) (b o : Nat) (f : Option Field) : Option Value := match f with
  | some f => faN b (o + f.offset) (E.siz f.type)
  | none => none
@[simp] theorem faF_some (b o : Nat) (f : Field) : faF E b o (some f) = faN b (o + f.offset) (E.siz f.type) := _root_.id rfl
def fieldAddrT (E : Env) (d : Option TypeDesc) (a : Value) (field : Nat) : Option Value := match d, a with
  | some (.struct fields), .pointer (some ⟨b, o, none⟩) => faF E b o fields.toList[field]?
  | _, _ => none
@[simp] theorem fieldAddrD_eq (s : TypeId) (a : Value) (f : Nat) : fieldAddrD E s a f = fieldAddrT E (E.und s) a f := by
  unfold fieldAddrD fieldAddrT
  generalize E.und s = d
  split
  · rename_i fs b o
    simp only [faF, Array.getElem?_toList]
    cases fs[f]? with
    | none => rfl
    | some x => simp only [faN]; cases E.siz x.type <;> rfl
  · rename_i hh
    split
    · exact absurd rfl (hh _ _ _ rfl)
    · rfl
@[simp] theorem fieldAddrT_ptr (fs : Array Field) (b o f : Nat) : fieldAddrT E (some (.struct fs)) (.pointer (some ⟨b, o, none⟩)) f = faF E b o fs.toList[f]? := _root_.id rfl
def fieldF (E : Env) (cs : List Value) (f : Option Field) : Option Value := match f with
  | some f => partD E f.type cs f.offset
  | none => none
@[simp] theorem fieldF_some (cs : List Value) (f : Field) : fieldF E cs (some f) = partD E f.type cs f.offset := _root_.id rfl
def fieldT (E : Env) (d : Option TypeDesc) (x : Value) (field : Nat) : Option Value := match d, x with
  | some (.struct fields), .agg cs => fieldF E cs.toList fields.toList[field]?
  | _, _ => none
@[simp] theorem fieldD_eq (t : TypeId) (x : Value) (f : Nat) : fieldD E t x f = fieldT E (E.und t) x f := by
  unfold fieldD fieldT
  generalize E.und t = d
  split
  · rename_i fs cs
    simp only [fieldF, Array.getElem?_toList]
    cases fs[f]? <;> rfl
  · rename_i hh
    split
    · exact absurd rfl (hh _ _ rfl)
    · rfl
@[simp] theorem fieldT_agg (fs : Array Field) (cs : Array Value) (f : Nat) : fieldT E (some (.struct fs)) (.agg cs) f = fieldF E cs.toList fs.toList[f]? := _root_.id rfl
/-! indexes -/
def iaN (b o : Nat) (i : Int) (len : Nat) (n : Option Nat) : Option Value := match n with
  | some n => if 0 ≤ i ∧ i < (len : Int) then some (.pointer (some ⟨b, o + i.toNat * n, none⟩)) else none
  | none => none
@[simp] theorem iaN_some (b o len n : Nat) (i : Int) : iaN b o i len (some n) = if 0 ≤ i ∧ i < (len : Int) then some (.pointer (some ⟨b, o + i.toNat * n, none⟩)) else none := _root_.id rfl
def indexAddrT (E : Env) (d : Option TypeDesc) (x index : Value) : Option Value := match d, x, index with
  | some (.array len elem), .pointer (some ⟨b, o, none⟩), .int _ i => iaN b o i len (E.siz elem)
  | some (.slice elem), .slice (some ⟨b, o, none⟩) len _, .int _ i => iaN b o i len (E.siz elem)
  | _, _, _ => none
@[simp] theorem indexAddrD_eq (t : TypeId) (x i : Value) : indexAddrD E t x i = indexAddrT E (E.und t) x i := by
  unfold indexAddrD indexAddrT
  generalize E.und t = d
  split
  · rename_i len elem b o k j
    show _ = iaN b o j len (E.siz elem)
    unfold iaN
    generalize E.siz elem = n
    cases n <;> simp
  · rename_i elem b o len c k j
    show _ = iaN b o j len (E.siz elem)
    unfold iaN
    generalize E.siz elem = n
    cases n <;> simp
  · rename_i h1 h2
    split
    · exact absurd rfl (h1 _ _ _ _ _ _ rfl rfl)
    · exact absurd rfl (h2 _ _ _ _ _ _ _ rfl rfl)
    · rfl
@[simp] theorem indexAddrT_array (len : Nat) (elem : TypeId) (b o : Nat) (k : IntKind) (i : Int) : indexAddrT E (some (.array len elem)) (.pointer (some ⟨b, o, none⟩)) (.int k i) = iaN b o i len (E.siz elem) := _root_.id rfl
@[simp] theorem indexAddrT_slice (elem : TypeId) (b o len cap : Nat) (k : IntKind) (i : Int) : indexAddrT E (some (.slice elem)) (.slice (some ⟨b, o, none⟩) len cap) (.int k i) = iaN b o i len (E.siz elem) := _root_.id rfl
def ixN (E : Env) (elem : TypeId) (cs : List Value) (i : Int) (len : Nat) (n : Option Nat) : Option Value := match n with
  | some n => if 0 ≤ i ∧ i < (len : Int) then partD E elem cs (i.toNat * n) else none
  | none => none
@[simp] theorem ixN_some (elem : TypeId) (cs : List Value) (i : Int) (len n : Nat) : ixN E elem cs i len (some n) = if 0 ≤ i ∧ i < (len : Int) then partD E elem cs (i.toNat * n) else none := _root_.id rfl
@[simp] theorem indexT_array (len : Nat) (elem : TypeId) (cs : Array Value) (k : IntKind) (i : Int) : indexT E (some (.array len elem)) (.agg cs) (.int k i) = ixN E elem cs.toList i len (E.siz elem) := by
  show (if 0 ≤ i && i < (len : Int) then match E.siz elem with
      | some n => partD E elem cs.toList (i.toNat * n)
      | none => none
    else none) = _
  unfold ixN
  generalize E.siz elem = n
  cases n with
  | none => simp
  | some n => by_cases c : 0 ≤ i ∧ i < (len : Int) <;> simp [c]
/-! building -/
def consPl (off : Nat) (n : Option Nat) (r : Option (List (Nat × Nat))) : Option (List (Nat × Nat)) := match n, r with
  | some n, some r => some ((off, n) :: r)
  | _, _ => none
@[simp] theorem consPl_some (off n : Nat) (r : List (Nat × Nat)) : consPl off (some n) (some r) = some ((off, n) :: r) := _root_.id rfl
@[simp] theorem placesD_nil : placesD E [] = some [] := _root_.id rfl
@[simp] theorem placesD_cons (f : Field) (fs : List Field) : placesD E (f :: fs) = consPl f.offset (E.siz f.type) (placesD E fs) := by
  simp only [placesD, consPl]
  cases E.siz f.type <;> cases placesD E fs <;> rfl
def fillS (place : Nat → Option (Nat × Nat)) (cells : List Value) (v : Value) (rest : List (Nat × Value)) (p : Option (Nat × Nat)) : Option (List Value) := match p with
  | none => none
  | some (off, size) => if v.cells.size = size ∧ off + size ≤ cells.length then fillD place (setAt cells off v.cells.toList) rest else none
@[simp] theorem fillS_some (place : Nat → Option (Nat × Nat)) (cells : List Value) (v : Value) (rest : List (Nat × Value)) (off size : Nat) : fillS place cells v rest (some (off, size)) = if v.cells.size = size ∧ off + size ≤ cells.length then fillD place (setAt cells off v.cells.toList) rest else none := _root_.id rfl
@[simp] theorem fillD_nil (place : Nat → Option (Nat × Nat)) (cells : List Value) : fillD place cells [] = some cells := _root_.id rfl
@[simp] theorem fillD_cons (place : Nat → Option (Nat × Nat)) (cells : List Value) (i : Nat) (v : Value) (rest : List (Nat × Value)) : fillD place cells ((i, v) :: rest) = fillS place cells v rest (place i) := by
  simp only [fillD, fillS]
  cases place i with
  | none => rfl
  | some p =>
    obtain ⟨off, size⟩ := p
    by_cases h : v.cells.size = size
    · simp [h]
    · simp [h]
def aggO (o : Option (List Value)) : Option Value := match o with
  | some cs => some (.agg cs.toArray)
  | none => none
@[simp] theorem aggO_some (cs : List Value) : aggO (some cs) = some (.agg cs.toArray) := _root_.id rfl
@[simp] theorem aggO_ite (c : Prop) [Decidable c] (o : Option (List Value)) : aggO (if c then o else none) = if c then aggO o else none := by by_cases h : c <;> simp [h, aggO]
def fillP (z : List Value) (ps : List (Nat × Value)) (pl : Option (List (Nat × Nat))) : Option (List Value) := match pl with
  | some pl => fillD (pl[·]?) z ps
  | none => none
@[simp] theorem fillP_some (z : List Value) (ps : List (Nat × Value)) (pl : List (Nat × Nat)) : fillP z ps (some pl) = fillD (pl[·]?) z ps := _root_.id rfl
def fillA (z : List Value) (ps : List (Nat × Value)) (n : Option Nat) : Option (List Value) := match n with
  | some n => fillD (fun i => some (i * n, n)) z ps
  | none => none
@[simp] theorem fillA_some (z : List Value) (ps : List (Nat × Value)) (n : Nat) : fillA z ps (some n) = fillD (fun i => some (i * n, n)) z ps := _root_.id rfl
def buildT (E : Env) (z : Option Value) (d : Option TypeDesc) (ps : List (Nat × Value)) : Option Value := match z, d with
  | some z, some (.struct fields) => aggO (fillP z.cells.toList ps (placesD E fields.toList))
  | some z, some (.array _ elem) => aggO (fillA z.cells.toList ps (E.siz elem))
  | _, _ => none
@[simp] theorem buildD_eq (t : TypeId) (ps : List (Nat × Value)) : buildD E t ps = buildT E (zeroD E t) (E.und t) ps := by
  unfold buildD buildT
  generalize E.und t = d
  generalize zeroD E t = z
  split
  · rename_i z fs
    simp only [aggO, fillP]
    cases placesD E fs.toList with
    | none => rfl
    | some pl => cases fillD (pl[·]?) z.cells.toList ps <;> rfl
  · rename_i z n elem
    simp only [aggO, fillA]
    cases E.siz elem with
    | none => rfl
    | some n => cases fillD (fun i => some (i * n, n)) z.cells.toList ps <;> rfl
  · rename_i h1 h2
    split
    · exact absurd rfl (h1 _ _ rfl)
    · exact absurd rfl (h2 _ _ _ rfl)
    · rfl
@[simp] theorem buildT_struct (z : Value) (fs : Array Field) (ps : List (Nat × Value)) : buildT E (some z) (some (.struct fs)) ps = aggO (fillP z.cells.toList ps (placesD E fs.toList)) := _root_.id rfl
@[simp] theorem buildT_array (z : Value) (n : Nat) (elem : TypeId) (ps : List (Nat × Value)) : buildT E (some z) (some (.array n elem)) ps = aggO (fillA z.cells.toList ps (E.siz elem)) := _root_.id rfl
def slNew (n len : Nat) (h : H) (o : Option (List Value)) : Option (Value × H) := match o with
  | some cs => some (.slice (some ⟨h.addr, 0, none⟩) len len, h.new (.cells cs n true 0 none))
  | none => none
@[simp] theorem slNew_some (n len : Nat) (h : H) (cs : List Value) : slNew n len h (some cs) = some (.slice (some ⟨h.addr, 0, none⟩) len len, h.new (.cells cs n true 0 none)) := _root_.id rfl
@[simp] theorem slNew_ite (n len : Nat) (h : H) (c : Prop) [Decidable c] (o : Option (List Value)) : slNew n len h (if c then o else none) = if c then slNew n len h o else none := by by_cases e : c <;> simp [e, slNew]
def bsN (len : Nat) (ps : List (Nat × Value)) (h : H) (n : Option Nat) (z : Option Value) : Option (Value × H) := match n, z with
  | some n, some z => if len * n ≤ 2 ^ 24 ∧ z.cells.size = n ∧ 0 < n then slNew n len h (fillD (fun i => some (i * n, n)) (zerosD z.cells.toList (len * n)) ps) else none
  | _, _ => none
@[simp] theorem bsN_some (len : Nat) (ps : List (Nat × Value)) (h : H) (n : Nat) (z : Value) : bsN len ps h (some n) (some z) = if len * n ≤ 2 ^ 24 ∧ z.cells.size = n ∧ 0 < n then slNew n len h (fillD (fun i => some (i * n, n)) (zerosD z.cells.toList (len * n)) ps) else none := _root_.id rfl
def bsT (E : Env) (d : Option TypeDesc) (len : Nat) (ps : List (Nat × Value)) (h : H) : Option (Value × H) := match d with
  | some (.slice elem) => bsN len ps h (E.siz elem) (zeroD E elem)
  | _ => none
@[simp] theorem buildSliceD_eq (t : TypeId) (len : Nat) (ps : List (Nat × Value)) (h : H) : buildSliceD E t len ps h = bsT E (E.und t) len ps h := by
  unfold buildSliceD bsT
  cases E.und t with
  | none => rfl
  | some d =>
    cases d <;> try rfl
    rename_i elem
    simp only [bsN]
    cases E.siz elem with
    | none => rfl
    | some n =>
      cases zeroD E elem with
      | none => rfl
      | some z =>
        by_cases c1 : len * n ≤ 2 ^ 24 ∧ z.cells.size = n ∧ 0 < n
        · have c2 : (decide (len * n ≤ 2 ^ 24) && z.cells.size == n && decide (0 < n)) = true := by simp [c1]
          dsimp only
          rw [if_pos c2, if_pos c1]
          unfold slNew
          cases fillD (fun i => some (i * n, n)) (zerosD z.cells.toList (len * n)) ps <;> rfl
        · have c2 : ¬ (decide (len * n ≤ 2 ^ 24) && z.cells.size == n && decide (0 < n)) = true := by
            simp only [Bool.and_eq_true, decide_eq_true_eq, beq_iff_eq]; exact fun x => c1 ⟨x.1.1, x.1.2, x.2⟩
          dsimp only
          rw [if_neg c2, if_neg c1]
@[simp] theorem bsT_slice (elem : TypeId) (len : Nat) (ps : List (Nat × Value)) (h : H) : bsT E (some (.slice elem)) len ps h = bsN len ps h (E.siz elem) (zeroD E elem) := _root_.id rfl
@[simp] theorem zerosD_zero (z : List Value) : zerosD z 0 = [] := _root_.id rfl
def undefs (n : Nat) : List Value := List.replicate n undef
/-! extract -/
@[simp] theorem extractD_tuple (vs : List Value) (i : Nat) : extractD (.tuple vs.toArray) i = vs[i]? := by simp [extractD]
/-! append -/
def Env.byt (E : Env) (t : TypeId) : Option Nat := (E.ty t).map (·.bytes)
def appS (ty0 : Option TypeId) (elem : TypeId) (n by' : Nat) (s : Value) (k : Nat) (cs : List Value) (h : H) : Option (Value × H) := match s with
  | .slice none 0 0 => if k = 0 then some (s, h) else
    if k * (by' + 1) ≤ 2 ^ 44 && by' ≤ 2 ^ 32 then some (.slice (some ⟨h.addr, 0, none⟩) k k, h.new (.cells cs n true 0 ty0)) else none
  | .slice (some ⟨b, o, none⟩) len cap =>
    if k = 0 then some (s, h) else
    if len + k ≤ cap then
      match stCells b (o + len * n) cs h with
      | some h' => some (.slice (some ⟨b, o, none⟩) (len + k) cap, h')
      | none => none
    else if (len + k) * (by' + 1) ≤ 2 ^ 44 && by' ≤ 2 ^ 32 && cs.all cellV then
      match h.get b with
      | some (.cells c st true fz ty) => if st = n && o + len * n ≤ c.length && fz ≤ o + len * n && (ty == none || (ty == some elem && o == 0)) then
          some (.slice (some ⟨h.addr, 0, none⟩) (len + k) (len + k), (h.drop b).new (.cells ((c.drop o).take (len * n) ++ cs) n true (fz - o) ty))
        else none
      | _ => none
    else none
  | _ => none
def appX (ty0 : Option TypeId) (elem : TypeId) (n by' : Nat) (s : Value) (src : Option (Nat × List Value)) (h : H) : Option (Value × H) := match src with
  | some (k, cs) => if cs.length = k * n then appS ty0 elem n by' s k cs h else none
  | none => none
@[simp] theorem appX_some (ty0 : Option TypeId) (elem : TypeId) (n by' : Nat) (s : Value) (k : Nat) (cs : List Value) (h : H) : appX ty0 elem n by' s (some (k, cs)) h = if cs.length = k * n then appS ty0 elem n by' s k cs h else none := _root_.id rfl
def appU (ty0 : Option TypeId) (elem : TypeId) (n by' : Option Nat) (z : Option Value) (s x : Value) (h : H) : Option (Value × H) := match n, by', z with
  | some n, some b, some z => if n = 0 ∨ z.cells.size ≠ n then none else appX ty0 elem n b s (srcD n x h) h
  | _, _, _ => none
@[simp] theorem appU_some (ty0 : Option TypeId) (elem : TypeId) (n b : Nat) (z : Value) (s x : Value) (h : H) : appU ty0 elem (some n) (some b) (some z) s x h = if n = 0 ∨ z.cells.size ≠ n then none else appX ty0 elem n b s (srcD n x h) h := _root_.id rfl
def appT (E : Env) (d xd : Option TypeDesc) (s x : Value) (h : H) : Option (Value × H) := match d, xd with
  | some (.slice elem), some xd => if isIntT xd then none else appU (E.tag elem) elem (E.siz elem) (E.byt elem) (zeroD E elem) s x h
  | _, _ => none
@[simp] theorem appendD_eq (t xt : TypeId) (s x : Value) (h : H) : appendD E [t, xt] s x h = appT E (E.und t) (E.und xt) s x h := by
  unfold appendD appT
  dsimp only
  generalize E.und t = d
  generalize E.und xt = xd
  cases d with
  | none => rfl
  | some d =>
    cases d <;> try (cases xd <;> rfl)
    rename_i elem
    cases xd with
    | none => rfl
    | some xd =>
      dsimp only
      unfold appU Env.siz Env.byt
      generalize E.ty elem = ty
      generalize zeroD E elem = z
      cases ty with
      | none => simp
      | some i =>
        cases z with
        | none => simp
        | some z =>
          simp only [Option.map_some]
          by_cases h1 : isIntT xd = true
          · simp [h1]
          · by_cases h2 : i.size = 0
            · simp [h1, h2]
            · by_cases h3 : z.cells.size = i.size
              · simp only [h1, h2, h3, appX]
                simp only [beq_self_eq_true, Bool.not_true, Bool.or_false, beq_iff_eq, h2, if_false, or_self, ne_eq, not_true_eq_false, Bool.false_eq_true, Bool.or_eq_true]
                cases srcD i.size x h with
                | none => rfl
                | some r =>
                  obtain ⟨k, cs⟩ := r
                  simp only
                  by_cases h4 : cs.length = k * i.size
                  · simp only [h4, if_true, appS]
                    rfl
                  · simp only [h4, if_false]
              · have h3' : (z.cells.size == i.size) = false := by simpa using h3
                simp [h1, h2, h3]
@[simp] theorem appT_slice (elem : TypeId) (xd : TypeDesc) (s x : Value) (h : H) : appT E (some (.slice elem)) (some xd) s x h = if isIntT xd then none else appU (E.tag elem) elem (E.siz elem) (E.byt elem) (zeroD E elem) s x h := _root_.id rfl
@[simp] theorem isIntT_slice (t : TypeId) : isIntT (.slice t) = false := _root_.id rfl
@[simp] theorem isIntT_string : isIntT .string = false := _root_.id rfl
@[simp] theorem appS_nil (ty0 : Option TypeId) (elem : TypeId) (n b k : Nat) (cs : List Value) (h : H) : appS ty0 elem n b (.slice none 0 0) k cs h = if k = 0 then some (.slice none 0 0, h) else if k * (b + 1) ≤ 2 ^ 44 ∧ b ≤ 2 ^ 32 then some (.slice (some ⟨h.addr, 0, none⟩) k k, h.new (.cells cs n true 0 ty0)) else none := by
  simp [appS]
def growC (elem : TypeId) (n : Nat) (b o len k : Nat) (cs : List Value) (h : H) (x : Option DObj) : Option (Value × H) := match x with
  | some (.cells c st true fz ty) => if st = n ∧ o + len * n ≤ c.length ∧ fz ≤ o + len * n ∧ (ty = none ∨ ty = some elem ∧ o = 0) then
      some (.slice (some ⟨h.addr, 0, none⟩) (len + k) (len + k), (h.drop b).new (.cells ((c.drop o).take (len * n) ++ cs) n true (fz - o) ty)) else none
  | _ => none
@[simp] theorem growC_some (elem : TypeId) (n b o len k : Nat) (cs : List Value) (h : H) (c : List Value) (st fz : Nat) (ty : Option TypeId) : growC elem n b o len k cs h (some (.cells c st true fz ty)) = if st = n ∧ o + len * n ≤ c.length ∧ fz ≤ o + len * n ∧ (ty = none ∨ ty = some elem ∧ o = 0) then
      some (.slice (some ⟨h.addr, 0, none⟩) (len + k) (len + k), (h.drop b).new (.cells ((c.drop o).take (len * n) ++ cs) n true (fz - o) ty)) else none := rfl
def roomC (b o len k cap : Nat) (x : Option H) : Option (Value × H) := match x with
  | some h' => some (.slice (some ⟨b, o, none⟩) (len + k) cap, h')
  | none => none
@[simp] theorem roomC_some (b o len k cap : Nat) (h : H) : roomC b o len k cap (some h) = some (.slice (some ⟨b, o, none⟩) (len + k) cap, h) := _root_.id rfl
@[simp] theorem roomC_ite (b o len k cap : Nat) (c : Prop) [Decidable c] (x : Option H) : roomC b o len k cap (if c then x else none) = if c then roomC b o len k cap x else none := by by_cases e : c <;> simp [e, roomC]
theorem appS_some (ty0 : Option TypeId) (elem : TypeId) (n by' k : Nat) (cs : List Value) (b o len cap : Nat) (h : H) : appS ty0 elem n by' (.slice (some ⟨b, o, none⟩) len cap) k cs h = if k = 0 then some (.slice (some ⟨b, o, none⟩) len cap, h) else if len + k ≤ cap then roomC b o len k cap (stCells b (o + len * n) cs h) else if (len + k) * (by' + 1) ≤ 2 ^ 44 ∧ by' ≤ 2 ^ 32 ∧ cs.all cellV = true then growC elem n b o len k cs h (h.get b) else none := by
  simp only [appS]
  by_cases hk : k = 0
  · simp [hk]
  · simp only [hk, if_false]
    by_cases hl : len + k ≤ cap
    · simp only [hl, if_true, roomC]
    · simp only [hl, if_false]
      by_cases h1 : (len + k) * (by' + 1) ≤ 2 ^ 44 ∧ by' ≤ 2 ^ 32 ∧ cs.all cellV = true
      · simp only [h1, decide_true, Bool.and_self, Bool.and_true, if_true, and_self]
        cases h.get b with
        | none => rfl
        | some x =>
          cases x with
          | cells c st own fz ty =>
            cases own with
            | false => rfl
            | true =>
              dsimp only [growC]
              by_cases q : st = n ∧ o + len * n ≤ c.length ∧ fz ≤ o + len * n ∧ (ty = none ∨ ty = some elem ∧ o = 0)
              · rw [if_pos q, if_pos]
                simp only [Bool.and_eq_true, decide_eq_true_eq, Bool.or_eq_true, beq_iff_eq]
                exact ⟨⟨⟨q.1, q.2.1⟩, q.2.2.1⟩, q.2.2.2⟩
              · rw [if_neg q, if_neg]
                simp only [Bool.and_eq_true, decide_eq_true_eq, Bool.or_eq_true, beq_iff_eq]
                exact fun hh => q ⟨hh.1.1.1, hh.1.1.2, hh.1.2, hh.2⟩
          | _ => rfl
      · have : ((decide ((len + k) * (by' + 1) ≤ 2 ^ 44) && decide (by' ≤ 2 ^ 32) && cs.all cellV)) = false := by
          rw [Bool.eq_false_iff]; intro hh; simp only [Bool.and_eq_true, decide_eq_true_eq] at hh; exact h1 ⟨hh.1.1, hh.1.2, hh.2⟩
        rw [this, if_neg h1]; rfl
attribute [simp] appS_some
def readC (o n : Nat) (x : Option DObj) : Option (List Value) := match x with
  | some (.cells c _ _ _ _) => if o + n ≤ c.length then some ((c.drop o).take n) else none
  | _ => none
@[simp] theorem readC_some (o n : Nat) (c : List Value) (s : Nat) (own : Bool) (fz : Nat) (ty : Option TypeId) : readC o n (some (.cells c s own fz ty)) = if o + n ≤ c.length then some ((c.drop o).take n) else none := _root_.id rfl
@[simp] theorem readD_eq (b o n : Nat) (h : H) : readD b o n h = readC o n (h.get b) := _root_.id rfl
def lenC (len : Nat) (x : Option (List Value)) : Option (Nat × List Value) := x.map fun c => (len, c)
@[simp] theorem lenC_some (len : Nat) (c : List Value) : lenC len (some c) = some (len, c) := _root_.id rfl
@[simp] theorem lenC_ite (len : Nat) (c : Prop) [Decidable c] (x : Option (List Value)) : lenC len (if c then x else none) = if c then lenC len x else none := by by_cases e : c <;> simp [e, lenC]
@[simp] theorem srcD_nil (n c : Nat) (h : H) : srcD n (.slice none 0 c) h = some (0, []) := _root_.id rfl
@[simp] theorem srcD_some (n b o len c : Nat) (h : H) : srcD n (.slice (some ⟨b, o, none⟩) len c) h = if len = 0 then some (0, []) else lenC len (readD b o (len * n) h) := _root_.id rfl
@[simp] theorem srcD_str (n : Nat) (l : List UInt8) (h : H) : srcD n (str l) h = some (l.length, l.map fun b => .int .u8 b.toNat) := by
  simp only [srcD, str, bytes_size]
@[simp] theorem appX_ite (ty0 : Option TypeId) (elem : TypeId) (n by' : Nat) (s : Value) (c : Prop) [Decidable c] (x : Option (Nat × List Value)) (h : H) : appX ty0 elem n by' s (if c then x else none) h = if c then appX ty0 elem n by' s x h else none := by by_cases e : c <;> simp [e, appX]
/-! slices of slices and arrays -/
def slR (b o sz : Nat) (r : Option (Nat × Nat × Nat)) (x : Option DObj) : Option Value := match r, x with
  | some (l, hi, m), some (.cells _ s _ _ _) => if s = 0 ∨ s = sz then some (.slice (some ⟨b, o + l * sz, none⟩) (hi - l) (m - l)) else none
  | _, _ => none
@[simp] theorem slR_some (b o sz l hi m : Nat) (c : List Value) (s : Nat) (own : Bool) (fz : Nat) (ty : Option TypeId) : slR b o sz (some (l, hi, m)) (some (.cells c s own fz ty)) = if s = 0 ∨ s = sz then some (.slice (some ⟨b, o + l * sz, none⟩) (hi - l) (m - l)) else none := _root_.id rfl
def slS (b o : Nat) (r : Option (Nat × Nat × Nat)) (x : Option DObj) (n : Option Nat) : Option Value := match n with
  | some sz => slR b o sz r x
  | none => none
@[simp] theorem slS_some (b o : Nat) (r : Option (Nat × Nat × Nat)) (x : Option DObj) (n : Nat) : slS b o r x (some n) = slR b o n r x := _root_.id rfl
@[simp] theorem slS_ite (b o : Nat) (c : Prop) [Decidable c] (r : Option (Nat × Nat × Nat)) (x : Option DObj) (n : Option Nat) : slS b o (if c then r else none) x n = if c then slS b o r x n else none := by
  by_cases e : c
  · simp [e]
  · simp only [e, if_false]; cases n <;> rfl
@[simp] theorem sliceT_slice (elem : TypeId) (b o len cap : Nat) (lo hi mx : Option Value) (h : H) : sliceT E (some (.slice elem)) (.slice (some ⟨b, o, none⟩) len cap) lo hi mx h = slS b o (boundsD len cap lo hi mx) (h.get b) (E.siz elem) := by
  simp only [sliceT, slS, slR]
  cases boundsD len cap lo hi mx with
  | none => cases E.siz elem <;> rfl
  | some r =>
    cases E.siz elem with
    | none => rfl
    | some sz =>
      cases h.get b with
      | none => rfl
      | some x => cases x <;> simp
def slN (r : Option (Nat × Nat × Nat)) (n : Option Nat) : Option Value := match r, n with
  | some _, some _ => some (.slice none 0 0)
  | _, _ => none
@[simp] theorem slN_some (r : Nat × Nat × Nat) (n : Nat) : slN (some r) (some n) = some (.slice none 0 0) := _root_.id rfl
@[simp] theorem slN_ite (c : Prop) [Decidable c] (r : Option (Nat × Nat × Nat)) (n : Option Nat) : slN (if c then r else none) n = if c then slN r n else none := by
  by_cases e : c
  · simp [e]
  · simp only [e, if_false]; cases n <;> rfl
@[simp] theorem sliceT_nil (elem : TypeId) (lo hi mx : Option Value) (h : H) : sliceT E (some (.slice elem)) (.slice none 0 0) lo hi mx h = slN (boundsD 0 0 lo hi mx) (E.siz elem) := by
  simp only [sliceT, slN]
  try (cases boundsD 0 0 lo hi mx <;> cases E.siz elem <;> rfl)
def slA (b o : Nat) (r : Option (Nat × Nat × Nat)) (n : Option Nat) : Option Value := match r, n with
  | some (l, hi, m), some sz => some (.slice (some ⟨b, if m = l then o else o + l * sz, none⟩) (hi - l) (m - l))
  | _, _ => none
@[simp] theorem slA_some (b o l hi m sz : Nat) : slA b o (some (l, hi, m)) (some sz) = some (.slice (some ⟨b, if m = l then o else o + l * sz, none⟩) (hi - l) (m - l)) := _root_.id rfl
@[simp] theorem slA_ite (b o : Nat) (c : Prop) [Decidable c] (r : Option (Nat × Nat × Nat)) (n : Option Nat) : slA b o (if c then r else none) n = if c then slA b o r n else none := by
  by_cases e : c
  · simp [e]
  · simp only [e, if_false]; cases n <;> rfl
@[simp] theorem sliceT_array (len : Nat) (elem : TypeId) (b o : Nat) (lo hi mx : Option Value) (h : H) : sliceT E (some (.array len elem)) (.pointer (some ⟨b, o, none⟩)) lo hi mx h = slA b o (boundsD len len lo hi mx) (E.siz elem) := by
  simp only [sliceT, slA]
  try (cases boundsD len len lo hi mx <;> cases E.siz elem <;> rfl)
@[simp] theorem bounds_00 (len cap : Nat) : boundsD len cap none none none = some (0, len, cap) := _root_.id rfl
@[simp] theorem bounds_lo (len cap : Nat) (k : IntKind) (a : Int) : boundsD len cap (some (.int k a)) none none = if 0 ≤ a ∧ a ≤ (len : Int) then some (a.toNat, len, cap) else none := by
  simp [boundsD]
@[simp] theorem bounds_hi (len cap : Nat) (k : IntKind) (a : Int) : boundsD len cap none (some (.int k a)) none = if 0 ≤ a ∧ a ≤ (cap : Int) then some (0, a.toNat, cap) else none := by
  simp only [boundsD, Option.isSome_none, Bool.and_eq_true, decide_eq_true_eq]
  by_cases h : 0 ≤ a ∧ a ≤ (cap : Int) <;> simp [h]
@[simp] theorem bounds_lh (len cap : Nat) (k k' : IntKind) (a b : Int) : boundsD len cap (some (.int k a)) (some (.int k' b)) none = if 0 ≤ b ∧ b ≤ (cap : Int) ∧ 0 ≤ a ∧ a ≤ b then some (a.toNat, b.toNat, cap) else none := by
  simp only [boundsD, Option.isSome_none, Bool.and_eq_true, decide_eq_true_eq]
  by_cases h : 0 ≤ b ∧ b ≤ (cap : Int)
  · by_cases h2 : 0 ≤ a ∧ a ≤ b
    · have : 0 ≤ a ∧ a ≤ max b 0 := by omega
      simp [h, h2, this]
    · have : ¬ (0 ≤ a ∧ a ≤ max b 0) := by omega
      simp [h, h2, this]
  · have : ¬ (0 ≤ b ∧ b ≤ (cap : Int) ∧ 0 ≤ a ∧ a ≤ b) := fun x => h ⟨x.1, x.2.1⟩
    simp [h, this]
/-! conversions -/
def convT (d e : Option TypeDesc) (E : Env) (x : Value) (h : H) : Option (Value × H) :=
  match d, e, x with
  | some _, some (.int k), .int _ n => some (.int k (k.wrap n), h)
  | some _, some .string, .int _ n => some (.string (Utf8.encode n), h)
  | some _, some .string, .string s => some (.string s, h)
  | some _, some (.slice e), .string s => match E.und e with
    | some (.int .u8) => if s.size ≤ 2 ^ 45 then some (.slice (some ⟨h.addr, 0, none⟩) s.size s.size, h.new (.cells (s.data.toList.map fun b => .int .u8 b.toNat) 1 true 0 none)) else none
    | _ => none
  | some (.slice e), some .string, .slice none 0 0 => match E.und e with
    | some (.int .u8) => some (.string .empty, h)
    | _ => none
  | some (.slice e), some .string, .slice (some ⟨b, o, none⟩) len _ => match E.und e with
    | some (.int .u8) => if len = 0 then some (.string .empty, h) else match readD b o len h with
      | some vs => (bytesD vs).map fun l => (.string ⟨l.toArray⟩, h)
      | none => none
    | _ => none
  | _, _, _ => none
@[simp] theorem convD_eq (s d : TypeId) (x : Value) (h : H) : convD E s d x h = convT (E.und s) (E.und d) E x h := _root_.id rfl
@[simp] theorem convT_int (d : TypeDesc) (k k' : IntKind) (n : Int) (h : H) : convT (some d) (some (.int k)) E (.int k' n) h = some (.int k (k.wrap n), h) := by cases d <;> rfl
@[simp] theorem convT_str (d : TypeDesc) (l : List UInt8) (h : H) : convT (some d) (some .string) E (str l) h = some (str l, h) := by cases d <;> rfl
theorem bytesD_map (l : List UInt8) : bytesD (l.map fun b => .int .u8 b.toNat) = some l := by
  induction l with
  | nil => rfl
  | cons b l ih => simp [bytesD, ih]
@[simp] theorem convT_nilbytes (e : TypeId) (h : H) (he : E.und e = some (.int .u8)) : convT (some (.slice e)) (some .string) E (.slice none 0 0) h = some (str [], h) := by
  simp only [convT, he]; rfl
def strB (h : H) (o : Option (List UInt8)) : Option (Value × H) := o.map fun l => (str l, h)
def strR (h : H) (o : Option (List Value)) : Option (Value × H) := match o with
  | some vs => strB h (bytesD vs)
  | none => none
@[simp] theorem strB_some (h : H) (l : List UInt8) : strB h (some l) = some (str l, h) := _root_.id rfl
@[simp] theorem strR_some (h : H) (vs : List Value) : strR h (some vs) = strB h (bytesD vs) := _root_.id rfl
@[simp] theorem strR_ite (h : H) (c : Prop) [Decidable c] (o : Option (List Value)) : strR h (if c then o else none) = if c then strR h o else none := by by_cases e : c <;> simp [e, strR]
attribute [simp] bytesD_map
@[simp] theorem convT_bytes (e : TypeId) (b o len cap : Nat) (h : H) (he : E.und e = some (.int .u8)) : convT (some (.slice e)) (some .string) E (.slice (some ⟨b, o, none⟩) len cap) h = if len = 0 then some (str [], h) else strR h (readD b o len h) := by
  simp only [convT, he, strR, strB]; rfl
@[simp] theorem convT_tobytes (d : TypeDesc) (e : TypeId) (l : List UInt8) (h : H) (he : E.und e = some (.int .u8)) : convT (some d) (some (.slice e)) E (str l) h = if l.length ≤ 2 ^ 45 then some (.slice (some ⟨h.addr, 0, none⟩) l.length l.length, h.new (.cells (l.map fun b => .int .u8 b.toNat) 1 true 0 none)) else none := by
  unfold str; cases d <;> simp only [convT, he, bytes_size]
@[simp] theorem resD_nil (fr : T Value) (h : H) : resD E fr h [] = some [] := _root_.id rfl
@[simp] theorem resD_tmp (fr : T Value) (h : H) (t : Tmp) (rs : List ResultVar) : resD E fr h (.tmp t :: rs) = consO (fr.get t) (resD E fr h rs) := by
  simp only [resD]; cases fr.get t <;> cases resD E fr h rs <;> rfl
@[simp] theorem resD_cell (fr : T Value) (h : H) (a t : Nat) (rs : List ResultVar) : resD E fr h (.cell a t :: rs) = consO (b1 (fr.get a) fun p => ld E t p h) (resD E fr h rs) := by
  simp only [resD, b1]
  cases fr.get a with
  | none => rfl
  | some p =>
    simp only [Option.bind_some]
    cases ld E t p h <;> cases resD E fr h rs <;> rfl
attribute [simp] oneD strLD
/-! numbers that are counts -/
@[simp] theorem add_lits (a n m : Nat) : a + no_index (OfNat.ofNat n) + no_index (OfNat.ofNat m) = a + (OfNat.ofNat n + OfNat.ofNat m) := Nat.add_assoc ..
@[simp] theorem icast_eq (a n : Nat) : ((a : Int) = (no_index (OfNat.ofNat n) : Int)) = (a = OfNat.ofNat n) := by
  apply propext
  constructor
  · intro h; have : (a : Int) = ((n : Nat) : Int) := h; exact Int.ofNat.inj this
  · intro h; subst h; rfl
@[simp] theorem icast_lt (a n : Nat) : ((a : Int) < (no_index (OfNat.ofNat n) : Int)) = (a < OfNat.ofNat n) := by
  apply propext
  show (a : Int) < ((n : Nat) : Int) ↔ a < n
  omega
@[simp] theorem icast_gt (a n : Nat) : ((no_index (OfNat.ofNat n) : Int) < (a : Int)) = (OfNat.ofNat n < a) := by
  apply propext
  show ((n : Nat) : Int) < (a : Int) ↔ n < a
  omega
@[simp] theorem icast_le (a n : Nat) : ((a : Int) ≤ (no_index (OfNat.ofNat n) : Int)) = (a ≤ OfNat.ofNat n) := by
  apply propext
  show (a : Int) ≤ ((n : Nat) : Int) ↔ a ≤ n
  omega
@[simp] theorem icast_ge (a n : Nat) : ((no_index (OfNat.ofNat n) : Int) ≤ (a : Int)) = (OfNat.ofNat n ≤ a) := by
  apply propext
  show ((n : Nat) : Int) ≤ (a : Int) ↔ n ≤ a
  omega
@[simp] theorem icast_al_eq (a n c : Nat) : ((a : Int) + (no_index (OfNat.ofNat n) : Int) = (c : Int)) = (a + OfNat.ofNat n = c) := by
  apply propext
  show (a : Int) + ((n : Nat) : Int) = (c : Int) ↔ a + n = c
  omega
@[simp] theorem icast_la_eq (a n c : Nat) : ((c : Int) = (a : Int) + (no_index (OfNat.ofNat n) : Int)) = (c = a + OfNat.ofNat n) := by
  apply propext
  show (c : Int) = (a : Int) + ((n : Nat) : Int) ↔ c = a + n
  omega
@[simp] theorem icast_aa_eq (a b c : Nat) : ((a : Int) + (b : Int) = (c : Int)) = (a + b = c) := by
  apply propext
  omega
@[simp] theorem icast_ca_eq (a b c : Nat) : ((c : Int) = (a : Int) + (b : Int)) = (c = a + b) := by
  apply propext
  omega
@[simp] theorem icast_al_le (a n c : Nat) : ((a : Int) + (no_index (OfNat.ofNat n) : Int) ≤ (c : Int)) = (a + OfNat.ofNat n ≤ c) := by
  apply propext
  show (a : Int) + ((n : Nat) : Int) ≤ (c : Int) ↔ a + n ≤ c
  omega
@[simp] theorem icast_la_le (a n c : Nat) : ((c : Int) ≤ (a : Int) + (no_index (OfNat.ofNat n) : Int)) = (c ≤ a + OfNat.ofNat n) := by
  apply propext
  show (c : Int) ≤ (a : Int) + ((n : Nat) : Int) ↔ c ≤ a + n
  omega
@[simp] theorem icast_aa_le (a b c : Nat) : ((a : Int) + (b : Int) ≤ (c : Int)) = (a + b ≤ c) := by
  apply propext
  omega
@[simp] theorem icast_ca_le (a b c : Nat) : ((c : Int) ≤ (a : Int) + (b : Int)) = (c ≤ a + b) := by
  apply propext
  omega
@[simp] theorem icast_al_lt (a n c : Nat) : ((a : Int) + (no_index (OfNat.ofNat n) : Int) < (c : Int)) = (a + OfNat.ofNat n < c) := by
  apply propext
  show (a : Int) + ((n : Nat) : Int) < (c : Int) ↔ a + n < c
  omega
@[simp] theorem icast_la_lt (a n c : Nat) : ((c : Int) < (a : Int) + (no_index (OfNat.ofNat n) : Int)) = (c < a + OfNat.ofNat n) := by
  apply propext
  show (c : Int) < (a : Int) + ((n : Nat) : Int) ↔ c < a + n
  omega
@[simp] theorem icast_aa_lt (a b c : Nat) : ((a : Int) + (b : Int) < (c : Int)) = (a + b < c) := by
  apply propext
  omega
@[simp] theorem icast_ca_lt (a b c : Nat) : ((c : Int) < (a : Int) + (b : Int)) = (c < a + b) := by
  apply propext
  omega
@[simp] theorem toNat_al (a n : Nat) : ((a : Int) + (no_index (OfNat.ofNat n) : Int)).toNat = a + OfNat.ofNat n := by
  show ((a : Int) + ((n : Nat) : Int)).toNat = a + n
  omega
@[simp] theorem toNat_aa (a b : Nat) : ((a : Int) + (b : Int)).toNat = a + b := by omega
@[simp] theorem nneg_al (a n : Nat) : ((0 : Int) ≤ (a : Int) + (no_index (OfNat.ofNat n) : Int)) = True := by
  apply eq_true
  show (0 : Int) ≤ (a : Int) + ((n : Nat) : Int)
  omega
@[simp] theorem nneg_aa (a b : Nat) : ((0 : Int) ≤ (a : Int) + (b : Int)) = True := by
  apply eq_true
  omega
/-- A list's byte. -/
def bt (l : List UInt8) (k : Nat) : UInt8 := l.getD k 0
theorem idxB_nat {l : List UInt8} {k : Nat} (h : k < l.length) : idxB l (k : Int) = some (.int .u8 (bt l k).toNat) := by
  rw [idxB_in (by omega) (by omega)]; rfl
theorem wrap_nat {k : Nat} (h : k < 9223372036854775808) : IntKind.i64.wrap (k : Int) = k := wrap_i64 (by omega) (by omega)
theorem wrap_succ {k : Nat} (h : k < 9223372036854775807) : IntKind.i64.wrap ((k : Int) + 1) = (k : Int) + 1 := wrap_i64 (by omega) (by omega)
theorem wrap_add {a b : Nat} (h : a + b < 9223372036854775808) : IntKind.i64.wrap ((a : Int) + b) = (a : Int) + b := wrap_i64 (by omega) (by omega)
theorem wrap_sub {a b : Nat} (h1 : b ≤ a) (h2 : a < 9223372036854775808) : IntKind.i64.wrap ((a : Int) - b) = ((a - b : Nat) : Int) := by rw [wrap_i64 (by omega) (by omega)]; omega
theorem wrap_pred {a : Nat} (h1 : 1 ≤ a) (h2 : a < 9223372036854775808) : IntKind.i64.wrap ((a : Int) - 1) = ((a - 1 : Nat) : Int) := by rw [wrap_i64 (by omega) (by omega)]; omega
theorem idxB_succ {l : List UInt8} {k : Nat} (h : k + 1 < l.length) : idxB l ((k : Int) + 1) = some (.int .u8 (bt l (k + 1)).toNat) := by
  rw [idxB_in (by omega) (by omega)]; unfold byteAt bt; rw [toNat_al]
/-- Below block B nothing has changed. -/
structure Fr (B : Nat) (h h' : H) : Prop where
  one : h'.one = []
  next : h.next ≤ h'.next
  get : ∀ b, b < B → h'.get b = h.get b
theorem Fr.refl {B : Nat} {h : H} (h1 : h.one = []) : Fr B h h := ⟨h1, Nat.le_refl _, fun _ _ => rfl⟩
theorem Fr.trans {B : Nat} {a b c : H} (x : Fr B a b) (y : Fr B b c) : Fr B a c := ⟨y.one, Nat.le_trans x.next y.next, fun k hk => (y.get k hk).trans (x.get k hk)⟩
theorem Fr.mono {B B' : Nat} {a b : H} (x : Fr B a b) (hB : B' ≤ B) : Fr B' a b := ⟨x.one, x.next, fun k hk => x.get k (by omega)⟩
theorem Fr.nw {B : Nat} {a b : H} (x : Fr B a b) (hB : B ≤ b.next) (o : DObj) : Fr B a (b.nw o) := ⟨rfl, Nat.le_trans x.next (Nat.le_succ _), fun k hk => by rw [get_nw, if_neg (by omega)]; exact x.get k hk⟩
theorem Fr.put {B : Nat} {a b : H} (x : Fr B a b) {c : Nat} (hc : B ≤ c) (o : DObj) : Fr B a (b.put c o) := ⟨x.one, x.next, fun k hk => by rw [H.get_put, if_neg (by omega)]; exact x.get k hk⟩
theorem Fr.drop {B : Nat} {a b : H} (x : Fr B a b) {c : Nat} (hc : B ≤ c) : Fr B a (b.drop c) := ⟨x.one, x.next, fun k hk => by rw [H.get_drop, if_neg (by omega)]; exact x.get k hk⟩
/-! comparisons of structs -/
theorem bin_eq_agg (t : TypeId) (x y : Operand) (a b : Array Value) : binD E .eql t x y (.agg a) (.agg b) = (eqD E 10000 t (.agg a) (.agg b)).map .bool := rfl
theorem bin_neq_agg (t : TypeId) (x y : Operand) (a b : Array Value) : binD E .neq t x y (.agg a) (.agg b) = (eqD E 10000 t (.agg a) (.agg b)).map fun r => .bool !r := rfl
end
end Go.Dm
