/- The machine D, 33: drawn regions in which a reader and a caller are not ordered. -/
import Derived.Test.YtpanpicbikihkaaDoorDSymB
set_option linter.unusedVariables false
set_option linter.unusedSimpArgs false
namespace Go.Dm
section
variable {E : Env} {X : Plug} {L : List Nat} {fr : T Value} {h : H}
@[simp] theorem laxN_eq (i : Nat) (ops : Array Oper) (draw : Bool) : laxN E X L i ops draw fr h = (L.contains i = true → laxW E X ops draw fr h) := _root_.id rfl
/-- The reader's answer here and there. -/
def LaxQ (E : Env) (o : SOp) (fr : T Value) (h1 h2 : H) : Prop := match gdT o.g fr with
  | some true => ∃ v u, (opD E ckN o.o fr h1.clr).map (·.1) = some v ∧ (opD E ckN o.o fr h2.clr).map (·.1) = some u ∧ eqv v u = true
  | some false => True
  | none => False
def LaxK2 (E : Env) (o : SOp) (frj : T Value) (hj : H) : T Value → H → Prop := fun _ hk => LaxQ E o frj hj hk
def LaxK1 (E : Env) (X : Plug) (o : SOp) (l : List SOp) (fr : T Value) (h : H) : T Value → H → Prop := fun frj hj => slW E X l fr h (LaxK2 E o frj hj)
@[simp] theorem LaxK1_app (o : SOp) (l : List SOp) (fr frj : T Value) (h hj : H) : LaxK1 E X o l fr h frj hj = slW E X l fr h (LaxK2 E o frj hj) := _root_.id rfl
@[simp] theorem LaxK2_app (o : SOp) (frj frk : T Value) (hj hk : H) : LaxK2 E o frj hj frk hk = LaxQ E o frj hj hk := _root_.id rfl
def LaxP (E : Env) (X : Plug) (ops : List SOp) (fr : T Value) (h : H) (j m : Nat) : Prop := match ops[j]? with
  | some o => slW E X (ops.take j) fr h (LaxK1 E X o (ops.take m) fr h)
  | none => True
theorem regW_sl (ops : Array Oper) (l : List Oper) (K : T Value → H → Prop) (w : slW E X (l.map (slim1 ops.toList)) fr h K) : ∃ fr' h', Evt (fun n => regD E (callD E X n) ops l fr h) (fr', h') ∧ K fr' h' := regW_sound ((slW_eq ops l fr h K) ▸ w)
/-- Where each pair's reader stands, and how far to go on the other side. -/
def laxPs (E : Env) (ops : Array Oper) : List (Nat × Nat) := (laxPairs E ops).map fun p => (p.1, if p.2 < p.1 then p.2 else segEnd E ops (p.2 + 1))
theorem isRead {ops : Array Oper} {j k : Nat} (hm : (j, k) ∈ laxPairs E ops) : ∃ o, ops[j]? = some o ∧ cls E o.op = .read := by
  unfold laxPairs at hm
  simp only [List.mem_flatMap, List.mem_range] at hm
  obtain ⟨i, hi, hx⟩ := hm
  cases ho : ops[i]? with
  | none => rw [ho] at hx; cases hx
  | some o =>
    rw [ho] at hx
    simp only at hx
    cases hc : cls E o.op with
    | read =>
      rw [hc] at hx
      simp only [List.mem_filterMap, List.mem_range] at hx
      obtain ⟨k', _, hk⟩ := hx
      cases hok : ops[k']? with
      | none => rw [hok] at hk; cases hk
      | some ok =>
        rw [hok] at hk
        simp only at hk
        cases hc2 : cls E ok.op with
        | other =>
          rw [hc2] at hk
          simp only at hk
          split at hk
          · cases hk
          · cases hk; exact ⟨o, ho, hc⟩
        | _ => rw [hc2] at hk; cases hk
    | _ => rw [hc] at hx; cases hx
theorem read_ck {ck : CK} {o : Op} (hr : cls E o = .read) (fr : T Value) (h : H) : opD E ck o fr h = opD E ckN o fr h := by
  cases o with
  | call c =>
    obtain ⟨callee, args, tys⟩ := c
    cases callee with
    | value f => cases hr
    | invoke r n => cases hr
    | builtin b => cases b <;> rfl
  | makeFunc f a b => cases f <;> rfl
  | makeMap t r => cases r <;> rfl
  | next i s => cases s <;> rfl
  | _ => rfl
theorem laxW_of {ops : Array Oper} {draw : Bool} (ps : List (Nat × Nat)) (hps : laxPs E ops = ps) (hp : ∀ p ∈ ps, LaxP E X (ops.toList.map (slim1 ops.toList)) fr h p.1 p.2) : laxW E X ops draw fr h := by
  intro _
  have key : ∀ l : List (Nat × Nat), (∀ p ∈ l, p ∈ laxPairs E ops) → ∃ n0, ∀ n, n0 ≤ n → laxD E (callD E X n) ops fr h l = true := by
    intro l
    induction l with
    | nil => intro _; exact ⟨0, fun n _ => rfl⟩
    | cons p l ih =>
      intro hl
      obtain ⟨n1, h1⟩ := ih fun q hq => hl q (List.mem_cons_of_mem _ hq)
      obtain ⟨j, k⟩ := p
      have hm := hl _ (List.mem_cons_self ..)
      obtain ⟨o, ho, hread⟩ := isRead hm
      have hP := hp (j, if k < j then k else segEnd E ops (k + 1)) (by rw [← hps]; exact List.mem_map.2 ⟨(j, k), hm, rfl⟩)
      unfold LaxP at hP
      simp only [List.getElem?_map, Array.getElem?_toList, ho, Option.map_some, ← List.map_take] at hP
      obtain ⟨frj, hj, ⟨n2, h2⟩, hP⟩ := regW_sl ops _ _ hP
      obtain ⟨frk, hk, ⟨n3, h3⟩, hP⟩ := regW_sl ops _ _ hP
      refine ⟨n1 + n2 + n3, fun n hn => ?_⟩
      simp only [laxD, ho, h2 n (by omega), h3 n (by omega), h1 n (by omega), Bool.and_true]
      have hg := gdT_slim (fr := frj) ops o
      simp only [LaxK2_app, LaxQ, hg] at hP
      cases hw : wantedD ops o frj with
      | none => rw [hw] at hP; exact absurd hP id
      | some t =>
        rw [hw] at hP
        cases t with
        | false => rfl
        | true =>
          obtain ⟨v, u, e1, e2, e3⟩ := hP
          have q1 := read_ck (ck := callD E X n) hread frj hj.clr
          have q2 := read_ck (ck := callD E X n) hread frj hk.clr
          have hop : (slim1 ops.toList o).o = o.op := rfl
          rw [hop] at e1 e2
          simp only [q1, q2]
          cases hx : opD E ckN o.op frj hj.clr with
          | none => rw [hx] at e1; cases e1
          | some a =>
            cases hy : opD E ckN o.op frj hk.clr with
            | none => rw [hy] at e2; cases e2
            | some b =>
              rw [hx] at e1; rw [hy] at e2
              cases e1; cases e2
              exact e3
  exact key _ fun p hp => hp
/-- The reader's answer, by the calculus' words. -/
theorem opD_load (t : TypeId) (a : Operand) (fr : T Value) (h : H) : (opD E ckN (.load t a) fr h).map (·.1) = b1 (ev fr a) fun a => ld E t a h := by
  simp only [opD, b1]
  cases ev fr a with
  | none => rfl
  | some v => simp only [Option.bind_some, Option.map_map]; cases ld E t v h <;> rfl
def LaxG (E : Env) (t : Option Bool) (o : Op) (fr : T Value) (h1 h2 : H) : Prop := match t with
  | some true => ∃ v u, (opD E ckN o fr h1.clr).map (·.1) = some v ∧ (opD E ckN o fr h2.clr).map (·.1) = some u ∧ eqv v u = true
  | some false => True
  | none => False
@[simp] theorem LaxQ_eq (d : Option Tmp) (o : Op) (g : Option (Option Tmp × Bool)) (fr : T Value) (h1 h2 : H) : LaxQ E ⟨d, o, g⟩ fr h1 h2 = LaxG E (gdT g fr) o fr h1 h2 := _root_.id rfl
@[simp] theorem LaxG_false (o : Op) (fr : T Value) (h1 h2 : H) : LaxG E (some false) o fr h1 h2 = True := _root_.id rfl
@[simp] theorem LaxG_load (t : TypeId) (a : Operand) (fr : T Value) (h1 h2 : H) : LaxG E (some true) (.load t a) fr h1 h2 = ∃ v u, (b1 (ev fr a) fun a => ld E t a h1.clr) = some v ∧ (b1 (ev fr a) fun a => ld E t a h2.clr) = some u ∧ eqv v u = true := by
  simp only [LaxG, opD_load]
attribute [simp] eqv eqv0 eqvL
end
end Go.Dm
