/- The machine D, 28: a calculus on D itself: code that comes to an end, told by what holds then. -/
import Derived.Test.YtpanpicbikihkaaDoorDSimM
set_option linter.unusedVariables false
set_option linter.unusedSimpArgs false
namespace Go.Dm

/-- From some fuel on the answer is a. -/
def Evt {α : Type} (F : Nat → Option α) (a : α) : Prop := ∃ n0, ∀ n, n0 ≤ n → F n = some a
theorem Evt.const {α : Type} {F : Nat → Option α} {a : α} (h : ∀ n, F n = some a) : Evt F a := ⟨0, fun n _ => h n⟩
theorem Evt.bind {α β : Type} {F : Nat → Option α} {a : α} {G : Nat → Option β} {b : β} (h : Evt F a) (k : Evt G b) {L : Nat → Option β} (e : ∀ n, F n = some a → G n = some b → L n = some b) : Evt L b := by
  obtain ⟨n1, h1⟩ := h
  obtain ⟨n2, h2⟩ := k
  exact ⟨max n1 n2, fun n hn => e n (h1 n (by omega)) (h2 n (by omega))⟩
theorem Evt.map {α β : Type} {F : Nat → Option α} {a : α} (h : Evt F a) {L : Nat → Option β} {b : β} (e : ∀ n, F n = some a → L n = some b) : Evt L b := by
  obtain ⟨n1, h1⟩ := h
  exact ⟨n1, fun n hn => e n (h1 n hn)⟩
theorem Evt.succ {α : Type} {F : Nat → Option α} {a : α} (h : Evt (fun n => F (n + 1)) a) : Evt F a := by
  obtain ⟨n1, h1⟩ := h
  refine ⟨n1 + 1, fun n hn => ?_⟩
  obtain ⟨m, rfl⟩ : ∃ m, n = m + 1 := ⟨n - 1, by omega⟩
  exact h1 m (by omega)

abbrev Post := Ex → T Value → H → Prop
abbrev VPost := Value → H → Prop

/-! ### What an operation comes to -/
def OptW (o : Option (Value × H)) (K : VPost) : Prop := ∃ r, o = some r ∧ K r.1 r.2
def ValW (o : Option Value) (h : H) (K : VPost) : Prop := ∃ v, o = some v ∧ K v h
def HpW (o : Option H) (v : Value) (K : VPost) : Prop := ∃ h', o = some h' ∧ K v h'
theorem OptW.some (v : Value) (h : H) (K : VPost) : OptW (some (v, h)) K = K v h := by simp [OptW]
theorem OptW.none (K : VPost) : OptW none K = False := by simp [OptW]
theorem OptW.mapV (o : Option Value) (h : H) (K : VPost) : OptW (o.map fun x => (x, h)) K = ValW o h K := by cases o <;> simp [OptW, ValW]
theorem OptW.mapH (o : Option H) (v : Value) (K : VPost) : OptW (o.map fun x => (v, x)) K = HpW o v K := by cases o <;> simp [OptW, HpW]
theorem OptW.ite (c : Prop) [Decidable c] (o : Option (Value × H)) (K : VPost) : OptW (if c then o else Option.none) K = (c ∧ OptW o K) := by by_cases h : c <;> simp [h, OptW]
theorem OptW.ite' (c : Prop) [Decidable c] (o : Option (Value × H)) (K : VPost) : OptW (if c then Option.none else o) K = (¬ c ∧ OptW o K) := by by_cases h : c <;> simp [h, OptW]
theorem ValW.some (v : Value) (h : H) (K : VPost) : ValW (some v) h K = K v h := by simp [ValW]
theorem ValW.none (h : H) (K : VPost) : ValW none h K = False := by simp [ValW]
theorem ValW.ite (c : Prop) [Decidable c] (o : Option Value) (h : H) (K : VPost) : ValW (if c then o else Option.none) h K = (c ∧ ValW o h K) := by by_cases e : c <;> simp [e, ValW]
theorem ValW.ite' (c : Prop) [Decidable c] (o : Option Value) (h : H) (K : VPost) : ValW (if c then Option.none else o) h K = (¬ c ∧ ValW o h K) := by by_cases e : c <;> simp [e, ValW]
theorem HpW.some (v : Value) (h : H) (K : VPost) : HpW (some h) v K = K v h := by simp [HpW]
theorem HpW.none (v : Value) (K : VPost) : HpW none v K = False := by simp [HpW]
theorem HpW.ite (c : Prop) [Decidable c] (o : Option H) (v : Value) (K : VPost) : HpW (if c then o else Option.none) v K = (c ∧ HpW o v K) := by by_cases e : c <;> simp [e, HpW]
theorem HpW.ite' (c : Prop) [Decidable c] (o : Option H) (v : Value) (K : VPost) : HpW (if c then Option.none else o) v K = (¬ c ∧ HpW o v K) := by by_cases e : c <;> simp [e, HpW]

section
variable (E : Env) (X : Plug)
def CallW (tg : Tg) (args : List Value) (h : H) (K : VPost) : Prop := ∃ v h', Evt (fun n => callD E X n tg args h) (v, h') ∧ K v h'
def callFnW (f : Value) (args : List Value) (h : H) (K : VPost) : Prop :=
  match f with
  | .func (.func g) first cap => CallW E X (.fn g) (first.toList ++ args ++ cap.toList) h K
  | .func (.yield l) _ _ => CallW E X (.yd l) args h K
  | _ => False
abbrev ckN : CK := fun _ _ _ => none
def calleeW (c : Callee) (full : Op) (args : List Value) (fr : T Value) (h : H) (K : VPost) : Prop :=
  match c with
  | .value f => match ev fr f with
    | some v => callFnW E X v args h K
    | none => False
  | .invoke r name => match ev fr r with
    | some (.iface t v) => match methodD E t v name with
      | some (f, rv) => CallW E X (.fn f) (rv :: args) h K
      | none => False
    | _ => False
  | .builtin _ => OptW (opD E ckN full fr h) K
def opW (o : Op) (fr : T Value) (h : H) (K : VPost) : Prop :=
  match o with
  | .call c => match evs fr c.args.toList with
    | none => False
    | some args => calleeW E X c.callee (.call c) args fr h K
  | o => OptW (opD E ckN o fr h) K
def GdW (t : Bool) (o : Oper) (fr : T Value) (h : H) (A B : VPost) : Prop := if t then opW E X o.op fr h.clr A else B undef h
/-- The operations from one on. -/
def regW (ops : Array Oper) : List Oper → T Value → H → (T Value → H → Prop) → Prop
  | [], fr, h, K => K fr h
  | o :: rest, fr, h, K => match wantedD ops o fr with
    | some t => GdW E X t o fr h (fun v h' => regW ops rest (putD fr o.dst v) h' K) (fun v h' => regW ops rest (putD fr o.dst v) h' K)
    | none => False
def regK (ops : Array Oper) (rest : List Oper) (fr : T Value) (dst : Option Tmp) (K : T Value → H → Prop) : VPost := fun v h' => regW E X ops rest (putD fr dst v) h' K
def laxW (ops : Array Oper) (draw : Bool) (fr : T Value) (h : H) : Prop := draw = true → ∃ n0, ∀ n, n0 ≤ n → laxD E (callD E X n) ops fr h (laxPairs E ops) = true
/-- No region but those of L needs to be looked at. -/
def noLax (E : Env) (L : List Nat) : Code → Bool
  | .region i ops draw => L.contains i || !draw || (laxPairs E ops).isEmpty
  | .seq a b => noLax E L a && noLax E L b
  | .cond _ a b => noLax E L a && noLax E L b
  | .block _ c => noLax E L c
  | .loop c => noLax E L c
  | .scope c => noLax E L c
  | _ => true
def laxN (L : List Nat) (i : Nat) (ops : Array Oper) (draw : Bool) (fr : T Value) (h : H) : Prop := L.contains i = true → laxW E X ops draw fr h
def W (x : Code) (sk : Option Nat) (Q : Post) (fr : T Value) (h : H) : Prop := ∃ e fr' h', Evt (fun n => execD E (callD E X n) n x sk fr h) (e, fr', h') ∧ Q e fr' h'
/-- The branch that a test opens. -/
def BrW (t : Bool) (A B : Prop) : Prop := if t then A else B
def regPost (Q : Post) : T Value → H → Prop := fun fr h => Q .normal fr h.clr
def blockPost (id : Nat) (Q : Post) : Post := fun e fr h => match e with
  | .exit i => if i = id then Q .normal fr h else Q (.exit i) fr h
  | e => Q e fr h
def wpd (L : List Nat) : Code → Option Nat → Post → T Value → H → Prop
  | .skip, none, Q, fr, h => Q .normal fr h
  | .label _, none, Q, fr, h => Q .normal fr h
  | .label l, some l', Q, fr, h => l = l' ∧ Q .normal fr h
  | .region i ops draw, none, Q, fr, h => laxN E X L i ops draw fr h ∧ regW E X ops ops.toList fr h (regPost Q)
  | .seq a b, none, Q, fr, h => wpd L a none (fun e fr h => match e with | .normal => wpd L b none Q fr h | e => Q e fr h) fr h
  | .seq a b, some l, Q, fr, h => if hasLabel a l then wpd L a (some l) (fun e fr h => match e with | .normal => wpd L b none Q fr h | e => Q e fr h) fr h else wpd L b (some l) Q fr h
  | .cond c a b, none, Q, fr, h => match ev fr c with
    | some (.bool t) => BrW t (wpd L a none Q fr h) (wpd L b none Q fr h)
    | _ => False
  | .block id c, none, Q, fr, h => wpd L c none (blockPost id Q) fr h
  | .exit id, none, Q, fr, h => Q (.exit id) fr h
  | .goto l, none, Q, fr, h => Q (.goto l) fr h
  | .ret, none, Q, fr, h => Q .ret fr h
  | x, sk, Q, fr, h => noLax E L x = true → W E X x sk Q fr h
def seqPost (L : List Nat) (b : Code) (Q : Post) : Post := fun e fr h => match e with | .normal => wpd E X L b none Q fr h | e => Q e fr h
end

section
variable {E : Env} {X : Plug}
theorem CallW.mono {tg : Tg} {args : List Value} {h : H} {K K' : VPost} (c : CallW E X tg args h K) (k : ∀ v h', K v h' → K' v h') : CallW E X tg args h K' := by
  obtain ⟨v, h', e, q⟩ := c; exact ⟨v, h', e, k _ _ q⟩
theorem W.mono {x : Code} {sk : Option Nat} {Q Q' : Post} {fr : T Value} {h : H} (c : W E X x sk Q fr h) (k : ∀ e fr h, Q e fr h → Q' e fr h) : W E X x sk Q' fr h := by
  obtain ⟨e, fr', h', a, q⟩ := c; exact ⟨e, fr', h', a, k _ _ _ q⟩

theorem opD_ck {ck ck' : CK} {o : Op} {fr : T Value} {h : H} (ho : ∀ c, o ≠ .call c) : opD E ck o fr h = opD E ck' o fr h := by
  cases o with
  | call c => exact absurd rfl (ho c)
  | makeFunc f a b => cases f <;> rfl
  | makeMap t r => cases r <;> rfl
  | next i s => cases s <;> rfl
  | _ => rfl
theorem opW_sound {o : Op} {fr : T Value} {h : H} {K : VPost} (w : opW E X o fr h K) : ∃ v h', Evt (fun n => opD E (callD E X n) o fr h) (v, h') ∧ K v h' := by
  by_cases ho : ∃ c, o = .call c
  · obtain ⟨c, rfl⟩ := ho
    simp only [opW] at w
    split at w
    · exact absurd w id
    · rename_i args ha
      unfold calleeW at w
      split at w
      · rename_i f hc
        split at w
        · rename_i v hv
          unfold callFnW at w
          split at w
          · obtain ⟨v', h', e, q⟩ := w
            exact ⟨v', h', e.map fun n hn => by simp only [opD, ha, hc, hv, callFnD]; exact hn, q⟩
          · obtain ⟨v', h', e, q⟩ := w
            exact ⟨v', h', e.map fun n hn => by simp only [opD, ha, hc, hv, callFnD]; exact hn, q⟩
          · exact absurd w id
        · exact absurd w id
      · rename_i r name hc
        split at w
        · rename_i t v hv
          split at w
          · rename_i f rv hm
            obtain ⟨v', h', e, q⟩ := w
            exact ⟨v', h', e.map fun n hn => by simp only [opD, ha, hc, hv, hm]; exact hn, q⟩
          · exact absurd w id
        · exact absurd w id
      · rename_i b hc
        obtain ⟨⟨v', h'⟩, e, q⟩ := w
        refine ⟨v', h', Evt.const fun n => ?_, q⟩
        rw [← e]
        simp only [opD, ha]
        rw [hc]
        cases b <;> rfl
  · have hw : OptW (opD E ckN o fr h) K := by
      unfold opW at w
      split at w
      · exact absurd ⟨_, rfl⟩ ho
      · exact w
    obtain ⟨⟨v', h'⟩, e, q⟩ := hw
    exact ⟨v', h', Evt.const fun n => by rw [← e]; exact opD_ck fun c hc => ho ⟨c, hc⟩, q⟩
theorem regW_sound {ops : Array Oper} : ∀ {l : List Oper} {fr : T Value} {h : H} {K : T Value → H → Prop}, regW E X ops l fr h K → ∃ fr' h', Evt (fun n => regD E (callD E X n) ops l fr h) (fr', h') ∧ K fr' h' := by
  intro l
  induction l with
  | nil => intro fr h K w; exact ⟨fr, h, Evt.const fun n => rfl, w⟩
  | cons o rest ih =>
    intro fr h K w
    simp only [regW] at w
    split at w
    · rename_i t ht
      unfold GdW at w
      cases t with
      | true =>
        rw [if_pos rfl] at w
        obtain ⟨v, h1, e1, q1⟩ := opW_sound w
        obtain ⟨fr', h', e2, q2⟩ := ih q1
        exact ⟨fr', h', e1.bind e2 fun n a b => by simp only [regD, ht, a]; exact b, q2⟩
      | false =>
        rw [if_neg (by decide)] at w
        obtain ⟨fr', h', e2, q2⟩ := ih w
        exact ⟨fr', h', e2.map fun n b => by simp only [regD, ht]; exact b, q2⟩
    · exact absurd w id
theorem Evt.max {α : Type} {F : Nat → Option α} {a : α} (h : Evt F a) : ∃ n0, ∀ n, n0 ≤ n → F n = some a := h
theorem wpd_sound {L : List Nat} : ∀ {x : Code} {sk : Option Nat} {Q : Post} {fr : T Value} {h : H}, noLax E L x = true → wpd E X L x sk Q fr h → W E X x sk Q fr h := by
  intro x
  induction x with
  | skip => intro sk Q fr h hx w; cases sk with | none => exact ⟨_, _, _, Evt.const fun n => rfl, w⟩ | some l => exact w hx
  | label l =>
    intro sk Q fr h hx w
    cases sk with
    | none => exact ⟨_, _, _, Evt.const fun n => rfl, w⟩
    | some l' => obtain ⟨e, w⟩ := w; exact ⟨_, _, _, Evt.const fun n => by simp only [execD, e, if_true], w⟩
  | region i ops draw =>
    intro sk Q fr h hx w
    cases sk with
    | some l => exact w hx
    | none =>
      obtain ⟨hl', w⟩ := w
      have hl : laxW E X ops draw fr h := by
        simp only [noLax, Bool.or_eq_true, Bool.not_eq_true', List.isEmpty_iff] at hx
        rcases hx with (hx | hx) | hx
        · exact hl' hx
        · intro hd; rw [hd] at hx; cases hx
        · intro _; exact ⟨0, fun n _ => by rw [hx]; rfl⟩
      obtain ⟨fr', h', e, q⟩ := regW_sound w
      refine ⟨.normal, fr', h'.clr, ?_, q⟩
      cases draw with
      | false => exact e.map fun n hn => by simp only [execD, hn, Bool.false_and]; rfl
      | true =>
        obtain ⟨n1, h1⟩ := hl rfl
        obtain ⟨n2, h2⟩ := e
        refine ⟨Nat.max n1 n2, fun n hn => ?_⟩
        have a1 := h1 n (Nat.le_trans (Nat.le_max_left ..) hn)
        have a2 := h2 n (Nat.le_trans (Nat.le_max_right ..) hn)
        simp only [execD, a2, a1, Bool.not_true, Bool.and_false]; rfl
  | seq a b iha ihb =>
    intro sk Q fr h hx w
    simp only [noLax, Bool.and_eq_true] at hx
    cases sk with
    | none =>
      obtain ⟨e, fr1, h1, e1, q1⟩ := iha hx.1 w
      cases e with
      | normal =>
        obtain ⟨e, fr2, h2, e2, q2⟩ := ihb hx.2 q1
        exact ⟨e, fr2, h2, e1.bind e2 fun n x y => by simp only [execD, x]; exact y, q2⟩
      | exit i => exact ⟨_, _, _, e1.map fun n x => by simp only [execD, x], q1⟩
      | goto i => exact ⟨_, _, _, e1.map fun n x => by simp only [execD, x], q1⟩
      | ret => exact ⟨_, _, _, e1.map fun n x => by simp only [execD, x], q1⟩
    | some l =>
      simp only [wpd] at w
      by_cases hl : hasLabel a l = true
      · rw [if_pos hl] at w
        obtain ⟨e, fr1, h1, e1, q1⟩ := iha hx.1 w
        cases e with
        | normal =>
          obtain ⟨e, fr2, h2, e2, q2⟩ := ihb hx.2 q1
          exact ⟨e, fr2, h2, e1.bind e2 fun n x y => by simp only [execD, hl, if_true, x]; exact y, q2⟩
        | exit i => exact ⟨_, _, _, e1.map fun n x => by simp only [execD, hl, if_true, x], q1⟩
        | goto i => exact ⟨_, _, _, e1.map fun n x => by simp only [execD, hl, if_true, x], q1⟩
        | ret => exact ⟨_, _, _, e1.map fun n x => by simp only [execD, hl, if_true, x], q1⟩
      · rw [if_neg hl] at w
        obtain ⟨e, fr1, h1, e1, q1⟩ := ihb hx.2 w
        exact ⟨_, _, _, e1.map fun n x => by simp only [execD, hl]; exact x, q1⟩
  | cond c a b iha ihb =>
    intro sk Q fr h hx w
    cases sk with
    | some l => exact w hx
    | none =>
      simp only [noLax, Bool.and_eq_true] at hx
      simp only [wpd] at w
      split at w
      · rename_i t ht
        unfold BrW at w
        cases t with
        | true =>
          rw [if_pos rfl] at w
          obtain ⟨e, fr1, h1, e1, q1⟩ := iha hx.1 w
          exact ⟨_, _, _, e1.map fun n x => by simp only [execD, ht, if_true]; exact x, q1⟩
        | false =>
          rw [if_neg (by decide)] at w
          obtain ⟨e, fr1, h1, e1, q1⟩ := ihb hx.2 w
          exact ⟨_, _, _, e1.map fun n x => by simp only [execD, ht]; exact x, q1⟩
      · exact absurd w id
  | block id c ih =>
    intro sk Q fr h hx w
    cases sk with
    | some l => exact w hx
    | none =>
      obtain ⟨e, fr1, h1, e1, q1⟩ := ih (sk := none) hx w
      cases e with
      | exit i =>
        simp only [blockPost] at q1
        by_cases hi : i = id
        · rw [if_pos hi] at q1; exact ⟨_, _, _, e1.map fun n x => by simp only [execD, x, hi, if_true], q1⟩
        · rw [if_neg hi] at q1; exact ⟨_, _, _, e1.map fun n x => by simp only [execD, x, hi, if_false], q1⟩
      | normal => exact ⟨_, _, _, e1.map fun n x => by simp only [execD, x], q1⟩
      | goto i => exact ⟨_, _, _, e1.map fun n x => by simp only [execD, x], q1⟩
      | ret => exact ⟨_, _, _, e1.map fun n x => by simp only [execD, x], q1⟩
  | exit i => intro sk Q fr h hx w; cases sk with | none => exact ⟨_, _, _, Evt.const fun n => rfl, w⟩ | some l => exact w hx
  | goto i => intro sk Q fr h hx w; cases sk with | none => exact ⟨_, _, _, Evt.const fun n => rfl, w⟩ | some l => exact w hx
  | ret => intro sk Q fr h hx w; cases sk with | none => exact ⟨_, _, _, Evt.const fun n => rfl, w⟩ | some l => exact w hx
  | _ => intro sk Q fr h hx w; cases sk <;> exact w hx
end
end Go.Dm
