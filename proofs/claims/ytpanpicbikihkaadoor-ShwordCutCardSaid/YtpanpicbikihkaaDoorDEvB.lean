/- The machine D, 29: the calculus: loops, scopes, functions; what slots code leaves alone. -/
import Derived.Test.YtpanpicbikihkaaDoorDEv
set_option linter.unusedVariables false
set_option linter.unusedSimpArgs false
namespace Go.Dm

/-- The slots that code may write. -/
def wrs : Code → List Nat
  | .region _ ops _ => ops.toList.filterMap (·.dst)
  | .seq a b => wrs a ++ wrs b
  | .cond _ a b => wrs a ++ wrs b
  | .block _ c => wrs c
  | .loop c => wrs c
  | .scope c => wrs c
  | _ => []
def FrEq (ws : List Nat) (fr fr' : T Value) : Prop := ∀ t, ws.contains t = false → fr'.get t = fr.get t
theorem FrEq.refl (ws : List Nat) (fr : T Value) : FrEq ws fr fr := fun _ _ => rfl
theorem FrEq.trans {ws : List Nat} {a b c : T Value} (h : FrEq ws a b) (k : FrEq ws b c) : FrEq ws a c := fun t ht => (k t ht).trans (h t ht)
theorem FrEq.mono {ws ws' : List Nat} {a b : T Value} (h : FrEq ws a b) (k : ∀ t, t ∈ ws → t ∈ ws') : FrEq ws' a b := fun t ht => h t (by
  cases hc : ws.contains t with
  | false => rfl
  | true => rw [List.contains_iff_mem] at hc; have := k t hc; rw [← List.contains_iff_mem, ht] at this; cases this)
section
variable {E : Env} {ck : CK}
theorem regD_frame {ops : Array Oper} : ∀ {l : List Oper} {fr : T Value} {h : H} {fr' : T Value} {h' : H}, regD E ck ops l fr h = some (fr', h') → FrEq (l.filterMap (·.dst)) fr fr' := by
  intro l
  induction l with
  | nil => intro fr h fr' h' e; cases e; exact FrEq.refl _ _
  | cons o rest ih =>
    intro fr h fr' h' e
    have put : ∀ v, FrEq ((o :: rest).filterMap (·.dst)) fr (putD fr o.dst v) := by
      intro v t ht
      unfold putD
      cases hd : o.dst with
      | none => rfl
      | some d =>
        simp only [List.filterMap_cons, hd, List.contains_cons, Bool.or_eq_false_iff, beq_eq_false_iff_ne] at ht
        exact T.get_set_ne _ _ ht.1
    have step : ∀ {a b : T Value}, FrEq (rest.filterMap (·.dst)) a b → FrEq ((o :: rest).filterMap (·.dst)) a b := fun h => h.mono fun t ht => by
      simp only [List.filterMap_cons]; split
      · exact ht
      · exact List.mem_cons_of_mem _ ht
    simp only [regD] at e
    split at e
    · split at e
      · exact (put _).trans (step (ih e))
      · cases e
    · exact (put _).trans (step (ih e))
    · cases e
theorem loopD_frame {ws : List Nat} {body : T Value → H → Option (Ex × T Value × H)} (hb : ∀ fr h e fr' h', body fr h = some (e, fr', h') → FrEq ws fr fr') : ∀ (n : Nat) {fr : T Value} {h : H} {e : Ex} {fr' : T Value} {h' : H}, loopD body n fr h = some (e, fr', h') → FrEq ws fr fr' := by
  intro n
  induction n with
  | zero => intro fr h e fr' h' q; cases q
  | succ n ih =>
    intro fr h e fr' h' q
    simp only [loopD] at q
    split at q
    · rename_i fr1 h1 hq; exact (hb _ _ _ _ _ hq).trans (ih q)
    · exact hb _ _ _ _ _ q
theorem scopeD_frame {ws : List Nat} {lab : Nat → Bool} {body : Option Nat → T Value → H → Option (Ex × T Value × H)} (hb : ∀ sk fr h e fr' h', body sk fr h = some (e, fr', h') → FrEq ws fr fr') : ∀ (n : Nat) {sk : Option Nat} {fr : T Value} {h : H} {e : Ex} {fr' : T Value} {h' : H}, scopeD lab body n sk fr h = some (e, fr', h') → FrEq ws fr fr' := by
  intro n
  induction n with
  | zero => intro sk fr h e fr' h' q; cases q
  | succ n ih =>
    intro sk fr h e fr' h' q
    simp only [scopeD] at q
    split at q
    · rename_i l fr1 h1 hq
      split at q
      · exact (hb _ _ _ _ _ _ hq).trans (ih q)
      · cases q; exact hb _ _ _ _ _ _ hq
    · exact hb _ _ _ _ _ _ q
theorem execD_frame (n : Nat) : ∀ {x : Code} {sk : Option Nat} {fr : T Value} {h : H} {e : Ex} {fr' : T Value} {h' : H}, execD E ck n x sk fr h = some (e, fr', h') → FrEq (wrs x) fr fr' := by
  intro x
  induction x with
  | region i ops draw =>
    intro sk fr h e fr' h' q
    cases sk with
    | some l => cases q
    | none =>
      simp only [execD] at q
      split at q
      · rename_i fr1 h1 hq
        split at q
        · cases q
        · cases q; exact regD_frame hq
      · cases q
  | seq a b iha ihb =>
    intro sk fr h e fr' h' q
    have la : ∀ {x y : T Value}, FrEq (wrs a) x y → FrEq (wrs (.seq a b)) x y := fun h => h.mono fun t ht => List.mem_append_left _ ht
    have lb : ∀ {x y : T Value}, FrEq (wrs b) x y → FrEq (wrs (.seq a b)) x y := fun h => h.mono fun t ht => List.mem_append_right _ ht
    cases sk with
    | none =>
      simp only [execD] at q
      split at q
      · rename_i fr1 h1 hq; exact (la (iha hq)).trans (lb (ihb q))
      · exact la (iha q)
    | some l =>
      simp only [execD] at q
      split at q
      · split at q
        · rename_i fr1 h1 hq; exact (la (iha hq)).trans (lb (ihb q))
        · exact la (iha q)
      · exact lb (ihb q)
  | cond c a b iha ihb =>
    intro sk fr h e fr' h' q
    cases sk with
    | some l => cases q
    | none =>
      simp only [execD] at q
      split at q
      · split at q
        · exact (iha q).mono fun t ht => List.mem_append_left _ ht
        · exact (ihb q).mono fun t ht => List.mem_append_right _ ht
      · cases q
  | block id c ih =>
    intro sk fr h e fr' h' q
    cases sk with
    | some l => cases q
    | none =>
      simp only [execD] at q
      split at q
      · rename_i i fr1 h1 hq
        split at q <;> cases q <;> exact ih hq
      · exact ih q
  | loop c ih =>
    intro sk fr h e fr' h' q
    cases sk with
    | some l => cases q
    | none => exact loopD_frame (fun _ _ _ _ _ k => ih k) n q
  | scope c ih =>
    intro sk fr h e fr' h' q
    cases sk with
    | some l => cases q
    | none => exact scopeD_frame (fun _ _ _ _ _ _ k => ih k) n q
  | rangeFunc f ps a b =>
    intro sk fr h e fr' h' q
    cases sk with
    | some l => cases q
    | none =>
      simp only [execD] at q
      split at q
      · split at q
        · rename_i v h1 hq
          unfold endLoopD at q
          split at q
          · split at q
            · cases q
            · split at q <;> cases q <;> exact FrEq.refl _ _
          · cases q
        · cases q
      · cases q
  | label l =>
    intro sk fr h e fr' h' q
    cases sk with
    | none => cases q; exact FrEq.refl _ _
    | some l' =>
      simp only [execD] at q
      split at q <;> cases q
      exact FrEq.refl _ _
  | skip => intro sk fr h e fr' h' q; cases sk <;> cases q; exact FrEq.refl _ _
  | exit i => intro sk fr h e fr' h' q; cases sk <;> cases q; exact FrEq.refl _ _
  | goto i => intro sk fr h e fr' h' q; cases sk <;> cases q; exact FrEq.refl _ _
  | ret => intro sk fr h e fr' h' q; cases sk <;> cases q; exact FrEq.refl _ _
  | _ => intro sk fr h e fr' h' q; cases sk <;> cases q
end

section
variable {E : Env} {X : Plug}
theorem W.frame {x : Code} {sk : Option Nat} {Q : Post} {fr : T Value} {h : H} (w : W E X x sk Q fr h) : W E X x sk (fun e fr' h' => FrEq (wrs x) fr fr' ∧ Q e fr' h') fr h := by
  obtain ⟨e, fr', h', q, r⟩ := w
  obtain ⟨n, hn⟩ := q
  exact ⟨e, fr', h', ⟨n, hn⟩, execD_frame n (hn n (Nat.le_refl _)), r⟩

def loopPost {σ : Type} (I : σ → T Value → H → Prop) (μ : σ → Nat) (s : σ) (Q : Post) : Post := fun e fr h => match e with
  | .normal => ∃ s', μ s' < μ s ∧ I s' fr h
  | e => Q e fr h
/-- A loop: what holds at each round's beginning, and a measure. -/
theorem W.loop {c : Code} {Q : Post} {fr : T Value} {h : H} {σ : Type} (I : σ → T Value → H → Prop) (μ : σ → Nat) (s : σ) (hI : I s fr h)
    {L : List Nat} (hl : noLax E L c = true) (round : ∀ s fr' h', I s fr' h' → FrEq (wrs c) fr fr' → wpd E X L c none (loopPost I μ s Q) fr' h') : W E X (.loop c) none Q fr h := by
  have key : ∀ k s fr' h', μ s = k → I s fr' h' → FrEq (wrs c) fr fr' → ∃ e fr2 h2, (∃ n0, ∀ n, n0 ≤ n → ∀ m, n0 ≤ m → loopD (fun fr h => execD E (callD E X n) n c none fr h) m fr' h' = some (e, fr2, h2)) ∧ Q e fr2 h2 := by
    intro k
    induction k using Nat.strongRecOn with
    | _ k ih =>
      intro s fr' h' hk hs hf
      obtain ⟨e, fr1, h1, ⟨n1, e1⟩, hf1, q1⟩ := (wpd_sound hl (round s fr' h' hs hf)).frame
      cases e with
      | normal =>
        obtain ⟨s', hlt, hs'⟩ := q1
        obtain ⟨e, fr2, h2, ⟨n2, e2⟩, q2⟩ := ih (μ s') (by omega) s' fr1 h1 rfl hs' (hf.trans hf1)
        refine ⟨e, fr2, h2, ⟨n1 + n2 + 1, fun n hn m hm => ?_⟩, q2⟩
        obtain ⟨j, rfl⟩ : ∃ j, m = j + 1 := ⟨m - 1, by omega⟩
        simp only [loopD, e1 n (by omega)]
        exact e2 n (by omega) j (by omega)
      | exit i =>
        refine ⟨_, fr1, h1, ⟨n1 + 1, fun n hn m hm => ?_⟩, q1⟩
        obtain ⟨j, rfl⟩ : ∃ j, m = j + 1 := ⟨m - 1, by omega⟩
        simp only [loopD, e1 n (by omega)]
      | goto i =>
        refine ⟨_, fr1, h1, ⟨n1 + 1, fun n hn m hm => ?_⟩, q1⟩
        obtain ⟨j, rfl⟩ : ∃ j, m = j + 1 := ⟨m - 1, by omega⟩
        simp only [loopD, e1 n (by omega)]
      | ret =>
        refine ⟨_, fr1, h1, ⟨n1 + 1, fun n hn m hm => ?_⟩, q1⟩
        obtain ⟨j, rfl⟩ : ∃ j, m = j + 1 := ⟨m - 1, by omega⟩
        simp only [loopD, e1 n (by omega)]
  obtain ⟨e, fr2, h2, ⟨n0, e0⟩, q⟩ := key (μ s) s fr h rfl hI (FrEq.refl _ _)
  exact ⟨e, fr2, h2, ⟨n0, fun n hn => e0 n hn n hn⟩, q⟩

def scopePost {σ : Type} (c : Code) (I : Option Nat → σ → T Value → H → Prop) (μ : σ → Nat) (s : σ) (Q : Post) : Post := fun e fr h => match e with
  | .goto l => if hasLabel c l then ∃ s', μ s' < μ s ∧ I (some l) s' fr h else Q (.goto l) fr h
  | e => Q e fr h
/-- A scope: what holds at its beginning and at each label, and a measure. -/
theorem W.scope {c : Code} {Q : Post} {fr : T Value} {h : H} {σ : Type} (I : Option Nat → σ → T Value → H → Prop) (μ : σ → Nat) (s : σ) (hI : I none s fr h)
    {L : List Nat} (hl : noLax E L c = true) (round : ∀ sk s fr' h', I sk s fr' h' → FrEq (wrs c) fr fr' → wpd E X L c sk (scopePost c I μ s Q) fr' h') : W E X (.scope c) none Q fr h := by
  have key : ∀ k sk s fr' h', μ s = k → I sk s fr' h' → FrEq (wrs c) fr fr' → ∃ e fr2 h2, (∃ n0, ∀ n, n0 ≤ n → ∀ m, n0 ≤ m → scopeD (hasLabel c) (fun sk fr h => execD E (callD E X n) n c sk fr h) m sk fr' h' = some (e, fr2, h2)) ∧ Q e fr2 h2 := by
    intro k
    induction k using Nat.strongRecOn with
    | _ k ih =>
      intro sk s fr' h' hk hs hf
      obtain ⟨e, fr1, h1, ⟨n1, e1⟩, hf1, q1⟩ := (wpd_sound hl (round sk s fr' h' hs hf)).frame
      cases e with
      | goto l =>
        simp only [scopePost] at q1
        by_cases hlb : hasLabel c l = true
        · rw [if_pos hlb] at q1
          obtain ⟨s', hlt, hs'⟩ := q1
          obtain ⟨e, fr2, h2, ⟨n2, e2⟩, q2⟩ := ih (μ s') (by omega) (some l) s' fr1 h1 rfl hs' (hf.trans hf1)
          refine ⟨e, fr2, h2, ⟨n1 + n2 + 1, fun n hn m hm => ?_⟩, q2⟩
          obtain ⟨j, rfl⟩ : ∃ j, m = j + 1 := ⟨m - 1, by omega⟩
          simp only [scopeD, e1 n (by omega), hlb, if_true]
          exact e2 n (by omega) j (by omega)
        · rw [if_neg hlb] at q1
          refine ⟨_, fr1, h1, ⟨n1 + 1, fun n hn m hm => ?_⟩, q1⟩
          obtain ⟨j, rfl⟩ : ∃ j, m = j + 1 := ⟨m - 1, by omega⟩
          simp only [scopeD, e1 n (by omega), hlb]
          rfl
      | normal =>
        refine ⟨_, fr1, h1, ⟨n1 + 1, fun n hn m hm => ?_⟩, q1⟩
        obtain ⟨j, rfl⟩ : ∃ j, m = j + 1 := ⟨m - 1, by omega⟩
        simp only [scopeD, e1 n (by omega)]
      | exit i =>
        refine ⟨_, fr1, h1, ⟨n1 + 1, fun n hn m hm => ?_⟩, q1⟩
        obtain ⟨j, rfl⟩ : ∃ j, m = j + 1 := ⟨m - 1, by omega⟩
        simp only [scopeD, e1 n (by omega)]
      | ret =>
        refine ⟨_, fr1, h1, ⟨n1 + 1, fun n hn m hm => ?_⟩, q1⟩
        obtain ⟨j, rfl⟩ : ∃ j, m = j + 1 := ⟨m - 1, by omega⟩
        simp only [scopeD, e1 n (by omega)]
  obtain ⟨e, fr2, h2, ⟨n0, e0⟩, q⟩ := key (μ s) none s fr h rfl hI (FrEq.refl _ _)
  exact ⟨e, fr2, h2, ⟨n0, fun n hn => e0 n hn n hn⟩, q⟩

/-! ### Functions -/
def resW (E : Env) (rs : List ResultVar) (K : VPost) (fr : T Value) (h : H) : Prop := ∃ vs, resD E fr h rs = some vs ∧ K (oneD vs) h
def retPost (E : Env) (rs : List ResultVar) (K : VPost) : Post := fun e fr h => match e with
  | .normal => resW E rs K fr h
  | .ret => resW E rs K fr h
  | _ => False
theorem CallW.body {f : FuncId} {fn : Func} {c : Code} (hf : E.fn f = some fn) (hb : fn.body = some c) {args : List Value} {h : H} (hX : X f args h = none) (hn' : Nat.ble args.length fn.ntmps = true) {K : VPost}
    (L : List Nat) (hl : noLax E L c = true) (hw : wpd E X L c none (retPost E fn.results.toList K) (frOf args 0 .leaf) h) : CallW E X (.fn f) args h K := by
  have hn : args.length ≤ fn.ntmps := Nat.le_of_ble_eq_true hn'
  obtain ⟨e, fr', h', e1, q1⟩ := wpd_sound hl hw
  have fin : ∀ vs, (e = .normal ∨ e = .ret) → resD E fr' h' fn.results.toList = some vs → K (oneD vs) h' → CallW E X (.fn f) args h K := by
    intro vs he hr hk
    refine ⟨oneD vs, h', Evt.succ (e1.map fun n hn' => ?_), hk⟩
    simp only [callD, hX, bodyD, hf, hb, hn, if_true, hn']
    rcases he with rfl | rfl <;> simp only [hr, Option.map_some]
  cases e with
  | normal => obtain ⟨vs, a, b⟩ := q1; exact fin vs (.inl rfl) a b
  | ret => obtain ⟨vs, a, b⟩ := q1; exact fin vs (.inr rfl) a b
  | exit i => exact absurd q1 id
  | goto i => exact absurd q1 id
/-- What a function given by hand comes to. -/
theorem CallW.plug {f : FuncId} {args : List Value} {h : H} {v : Value} {h' : H} (hX : X f args h = some (v, h')) {K : VPost} (k : K v h') : CallW E X (.fn f) args h K :=
  ⟨v, h', Evt.succ (Evt.const fun n => by simp only [callD, hX]), k⟩
end
end Go.Dm
