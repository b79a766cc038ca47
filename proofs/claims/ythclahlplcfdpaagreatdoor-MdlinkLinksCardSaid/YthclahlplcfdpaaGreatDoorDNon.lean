/- The machine D, 33: code whose outcome is drawn (ranges over maps): what the model may come to. -/
import Derived.Test.YthclahlplcfdpaaGreatDoorDMid
set_option linter.unusedVariables false
set_option linter.unusedSimpArgs false
namespace Go.Dm
/-- What code may come to, from every state of the model that is as D's. -/
def WN (P : Program) (E : Env) (G N : Nat) (c : Code) (Q : Post) (fr : T Value) (h : H) : Prop :=
  ∀ ⦃m0 : Inj⦄ ⦃h0 : H⦄ ⦃w0 : World⦄ ⦃bs : Nat⦄ ⦃m : Inj⦄ ⦃w : World⦄ ⦃a : Act⦄ ⦃rs : List Nat⦄ ⦃R : Exit → Act → World → Prop⦄, Xs (okC E G false) G m0 h0 w0 bs N m h w fr a rs →
    (∀ e fr' h' m' w' a' rs', Q e fr' h' → Xs (okC E G false) G m0 h0 w0 bs N m' h' w' fr' a' rs' → R (exOf e) a' w') → Wp none P c none R a w
section
variable {P : Program} {E : Env} {G N : Nat} {X : Plug} {Q : Post} {fr : T Value} {h : H}
theorem WN.mono {c : Code} {Q' : Post} (w : WN P E G N c Q fr h) (k : ∀ e fr' h', Q e fr' h' → Q' e fr' h') : WN P E G N c Q' fr h := by
  intro m0 h0 w0 bs m w1 a rs R x hR
  exact w x fun e fr' h' m' w' a' rs' q x' => hR e fr' h' m' w' a' rs' (k e fr' h' q) x'
/-- What D walks. -/
theorem WN.of_wpd (hE : EnvOk P E) (hm : P.follows .mixedOrders = true) (hF : ∀ f fn b, E.fn f = some fn → fn.body = some b → okC E G true fn.ntmps b = true) (hX : PlugOk P (okC E G false) G X)
    {c : Code} (L : List Nat) (hl : noLax E L c = true) (hok : okC E G true N c = true) (w : wpd E X L c none Q fr h) : WN P E G N c Q fr h := by
  intro m0 h0 w0 bs m w1 a rs R x hR
  obtain ⟨e, fr', h', ⟨n, hn⟩, q⟩ := wpd_sound hl w
  exact exec_sim (rf := true) hE (call_sim hE hm hF hX n) hm (fun _ => rfl) n c none (hn n (Nat.le_refl _)) hok x fun m' w' a' rs' x' => hR e fr' h' m' w' a' rs' q x'
theorem WN.seq {b c : Code} (w : WN P E G N b (fun e fr' h' => match e with | .normal => WN P E G N c Q fr' h' | e => Q e fr' h') fr h) : WN P E G N (.seq b c) Q fr h := by
  intro m0 h0 w0 bs m w1 a rs R x hR
  refine wpIn_seq (w x ?_)
  intro e fr' h' m' w' a' rs' q x'
  cases e with
  | normal => exact q x' hR
  | exit id => exact hR (.exit id) fr' h' m' w' a' rs' q x'
  | goto l => exact hR (.goto l) fr' h' m' w' a' rs' q x'
  | ret => exact hR .ret fr' h' m' w' a' rs' q x'
/-- Every call of the model's that is as D's comes to this. -/
def CallN (P : Program) (E : Env) (G : Nat) (f : FuncId) (args : List Value) (h : H) (v : Value) (h' : H) : Prop :=
  ∀ ⦃m : Inj⦄ ⦃w : World⦄ ⦃args' : List Value⦄, HRel (okC E G false) G m h w → LRel m args args' →
    (∃ fn, P.funcs[f]? = some fn ∧ fn.body.isSome = true ∧ (fn.name == "runtime.NumGoroutine") = false) ∧
    Calls P f args'.toArray w fun e w' => ∃ v', e = .returned v' ∧ Step (okC E G false) G m h w v h' v' w'
/-- A state of D's may be told by another one. -/
def Told (E : Env) (G : Nat) (h : H) (v1 : Value) (h1 : H) (v : Value) (h' : H) : Prop :=
  ∀ ⦃m : Inj⦄ ⦃w : World⦄ ⦃v' : Value⦄ ⦃w' : World⦄, HRel (okC E G false) G m h w → Step (okC E G false) G m h w v1 h1 v' w' → Step (okC E G false) G m h w v h' v' w'
theorem Told.refl (h : H) (v : Value) (h' : H) : Told E G h v h' v h' := fun _ _ _ _ _ s => s
theorem CallN.told {f : FuncId} {args : List Value} {v1 v : Value} {h1 h' : H} (c : CallN P E G f args h v1 h1) (t : Told E G h v1 h1 v h') : CallN P E G f args h v h' := by
  intro m w args' R L
  refine ⟨(c R L).1, (c R L).2.mono ?_⟩
  rintro e w' ⟨v', e1, s⟩
  exact ⟨v', e1, t R s⟩
theorem CallN.body (hE : EnvOk P E) {f : FuncId} {fn : Func} {c : Code} (hfn : E.fn f = some fn) (hc : fn.body = some c) {args : List Value} (hlen : Nat.ble args.length fn.ntmps = true) {v : Value} {h' : H}
    (hw : WN P E G fn.ntmps c (fun e fr1 h1 => (e = .normal ∨ e = .ret) ∧ ∃ vs, resD E fr1 h1 fn.results.toList = some vs ∧ Told E G h (oneD vs) h1 v h') (frOf args 0 .leaf) h) : CallN P E G f args h v h' := by
  intro m w args' R hL
  have hlen := Nat.le_of_ble_eq_true hlen
  have hP := hE.fn f fn hfn
  have hbs : fn.body.isSome = true := by rw [hc]; rfl
  refine ⟨⟨fn, hP, hbs, hE.nm f fn hfn hbs⟩, ?_⟩
  refine callsIn_wide.1 (callsIn_of_wp_marks (F := FW none) (n := 0) hP hc trivial ?_ rfl)
  have hsz : (args'.toArray ++ Array.replicate (fn.ntmps - args'.toArray.size) undef).size = fn.ntmps := by
    have := hL.length
    simp; omega
  have x : Xs (okC E G false) G m h w w.heap.size fn.ntmps m h w (frOf args 0 .leaf) { tmps := args'.toArray ++ Array.replicate (fn.ntmps - args'.toArray.size) undef, defers := [] } [] :=
    ⟨Evo.refl .., R, frOf_sim hL _ hlen, hsz, rfl, Nat.le_refl _, ⟨List.nodup_nil, fun r hr => by cases hr⟩⟩
  have fin : ∀ {m' : Inj} {w' : World} {a' : Act} {rs : List Nat} {fr : T Value} {h1 : H} {vs : List Value}, Xs (okC E G false) G m h w w.heap.size fn.ntmps m' h1 w' fr a' rs → resD E fr h1 fn.results.toList = some vs → Told E G h (oneD vs) h1 v h' →
      LeavesInM (FW none) 0 P fn a'.tmps (fun e w' => ∃ v', e = .returned v' ∧ Step (okC E G false) G m h w v h' v' w') a'.defers .returning w' := by
    intro m' w' a' rs fr h1 vs x' hres ht
    rw [x'.defers]
    refine leaves_marks x'.marks x'.evo x'.rel ?_
    intro w2 e2 R2
    obtain ⟨v', q1, q2⟩ := results_sim hE R2 x'.frel hres
    exact ⟨v', q1, v', rfl, ht R ⟨m', e2, R2, q2⟩⟩
  refine hw x ?_
  rintro e fr' h1 m' w' a' rs' ⟨he, vs, hres, ht⟩ x'
  rcases he with rfl | rfl
  · exact fin x' hres ht
  · exact fin x' hres ht
/-! ### Plugs whose outcome is told by a predicate -/
open Classical in
noncomputable def choosePlug (P : Program) (E : Env) (G : Nat) (Post : FuncId → List Value → H → Value × H → Prop) : Plug := fun f args h =>
  if hx : ∃ r : Value × H, CallN P E G f args h r.1 r.2 ∧ Post f args h r then some (Classical.choose hx) else none
theorem choosePlug_ok (P : Program) (E : Env) (G : Nat) (Post : FuncId → List Value → H → Value × H → Prop) : PlugOk P (okC E G false) G (choosePlug P E G Post) := by
  intro f args h v h' hX m w args' R L
  unfold choosePlug at hX
  split at hX
  · rename_i hx
    have e := Option.some.inj hX
    have q := (Classical.choose_spec hx).1 R L
    rw [e] at q
    exact q
  · cases hX
theorem choosePlug_use {Post : FuncId → List Value → H → Value × H → Prop} {f : FuncId} {args : List Value} {v : Value} {h' : H} (c : CallN P E G f args h v h') (p : Post f args h (v, h')) : ∃ r, choosePlug P E G Post f args h = some r ∧ Post f args h r := by
  have hx : ∃ r : Value × H, CallN P E G f args h r.1 r.2 ∧ Post f args h r := ⟨(v, h'), c, p⟩
  unfold choosePlug
  rw [dif_pos hx]
  exact ⟨_, rfl, (Classical.choose_spec hx).2⟩
end
end Go.Dm
