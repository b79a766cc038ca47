/- The machine D, 37: code whose outcome is drawn, and that comes to some one state of D's with a property. -/
import Derived.Test.YthglbdbdhhbkhaaDSlC
set_option linter.unusedVariables false
set_option linter.unusedSimpArgs false
namespace Go.Dm
section
variable {P : Program} {E : Env} {G N : Nat} {X : Plug}
theorem WN.of_w (hE : EnvOk P E) (hm : P.follows .mixedOrders = true) (hF : ∀ f fn b, E.fn f = some fn → fn.body = some b → okC E G true fn.ntmps b = true) (hX : PlugOk P (okC E G false) G X)
    {c : Code} {Q : Post} {fr : T Value} {h : H} (hok : okC E G true N c = true) (w : W E X c none Q fr h) : WN P E G N c Q fr h := by
  intro m0 h0 w0 bs m w1 a rs R x hR
  obtain ⟨e, fr', h', ⟨n, hn⟩, q⟩ := w
  exact exec_sim (rf := true) hE (call_sim hE hm hF hX n) hm (fun _ => rfl) n c none (hn n (Nat.le_refl _)) hok x fun m' w' a' rs' x' => hR e fr' h' m' w' a' rs' q x'
/-- It comes to a result and a state of D's, whatever is drawn, with a property. -/
def WNE (P : Program) (E : Env) (G N : Nat) (hs : H) (res : List ResultVar) (Post : Value → H → Prop) (c : Code) (fr : T Value) (h : H) : Prop :=
  ∃ v h', Post v h' ∧ WN P E G N c (fun e fr1 h1 => (e = .normal ∨ e = .ret) ∧ ∃ vs, resD E fr1 h1 res = some vs ∧ Told E G hs (oneD vs) h1 v h') fr h
theorem WNE.seq (hE : EnvOk P E) (hm : P.follows .mixedOrders = true) (hF : ∀ f fn b, E.fn f = some fn → fn.body = some b → okC E G true fn.ntmps b = true) (hX : PlugOk P (okC E G false) G X)
    {hs : H} {res : List ResultVar} {Post : Value → H → Prop} {b c : Code} {fr : T Value} {h : H} (L : List Nat) (hl : noLax E L b = true) (hok : okC E G true N b = true)
    (w : wpd E X L b none (fun e fr1 h1 => match e with
      | .normal => WNE P E G N hs res Post c fr1 h1
      | e => e = .ret ∧ ∃ vs, resD E fr1 h1 res = some vs ∧ Post (oneD vs) h1) fr h) : WNE P E G N hs res Post (.seq b c) fr h := by
  obtain ⟨e, fr', h', hex, q⟩ := wpd_sound hl w
  have w2 : W E X b none (fun e1 fr1 h1 => e1 = e ∧ fr1 = fr' ∧ h1 = h') fr h := ⟨e, fr', h', hex, rfl, rfl, rfl⟩
  cases e with
  | normal =>
    obtain ⟨v, hh, p, wn⟩ := q
    refine ⟨v, hh, p, WN.seq ((WN.of_w hE hm hF hX hok w2).mono ?_)⟩
    rintro e1 fr1 h1 ⟨rfl, rfl, rfl⟩
    exact wn
  | exit id => cases q.1
  | goto l => cases q.1
  | ret =>
    obtain ⟨_, vs, hv, p⟩ := q
    refine ⟨_, _, p, WN.seq ((WN.of_w hE hm hF hX hok w2).mono ?_)⟩
    rintro e1 fr1 h1 ⟨rfl, rfl, rfl⟩
    exact ⟨.inr rfl, vs, hv, Told.refl ..⟩
/-- The end. -/
theorem WNE.last (hE : EnvOk P E) (hm : P.follows .mixedOrders = true) (hF : ∀ f fn b, E.fn f = some fn → fn.body = some b → okC E G true fn.ntmps b = true) (hX : PlugOk P (okC E G false) G X)
    {hs : H} {res : List ResultVar} {Post : Value → H → Prop} {b : Code} {fr : T Value} {h : H} (L : List Nat) (hl : noLax E L b = true) (hok : okC E G true N b = true)
    (w : wpd E X L b none (fun e fr1 h1 => (e = .normal ∨ e = .ret) ∧ ∃ vs, resD E fr1 h1 res = some vs ∧ Post (oneD vs) h1) fr h) : WNE P E G N hs res Post b fr h := by
  obtain ⟨e, fr', h', hex, he, vs, hv, p⟩ := wpd_sound hl w
  have w2 : W E X b none (fun e1 fr1 h1 => e1 = e ∧ fr1 = fr' ∧ h1 = h') fr h := ⟨e, fr', h', hex, rfl, rfl, rfl⟩
  refine ⟨_, _, p, (WN.of_w hE hm hF hX hok w2).mono ?_⟩
  rintro e1 fr1 h1 ⟨rfl, rfl, rfl⟩
  exact ⟨he, vs, hv, Told.refl ..⟩
theorem CallN.of_wne (hE : EnvOk P E) {f : FuncId} {fn : Func} {c : Code} (hfn : E.fn f = some fn) (hc : fn.body = some c) {args : List Value} {h : H} (hlen : Nat.ble args.length fn.ntmps = true) {Post : Value → H → Prop}
    (hw : WNE P E G fn.ntmps h fn.results.toList Post c (frOf args 0 .leaf) h) : ∃ v h', Post v h' ∧ CallN P E G f args h v h' := by
  obtain ⟨v, h', p, wn⟩ := hw
  exact ⟨v, h', p, CallN.body hE hfn hc hlen wn⟩
/-- The state, as it is told in the model, is well formed. -/
theorem WN.wf {c : Code} {Q : Post} {fr : T Value} {h : H} (w : (∀ b, h.next ≤ b → h.get b = none) → WN P E G N c Q fr h) : WN P E G N c Q fr h := by
  intro m0 h0 w0 bs m w1 a rs R x hR
  exact w x.rel.wf x hR
end
end Go.Dm
