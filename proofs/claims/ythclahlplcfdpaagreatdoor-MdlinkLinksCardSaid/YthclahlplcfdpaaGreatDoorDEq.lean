/- The machine D, 32: from D's answer to the model's call: what comes in lies in blocks that are only read. -/
import Derived.Test.YthclahlplcfdpaaGreatDoorDSymB
import Derived.Below
set_option linter.unusedVariables false
set_option linter.unusedSimpArgs false
namespace Go.Dm
open Go.RowKit

/-- A piece of a block of the model's, as D sees it. -/
structure Win where
  blk : Nat
  off : Nat
  cells : List Value
def sizeB (w : World) (b : Nat) : Nat := match w.heap[b]? with
  | some (.cells c _ _) => c.size
  | _ => 0
def winsInj (G : Nat) (w : World) (ws : List Win) : Inj := fun b => if b < G then some ⟨b, 0, 0, sizeB w b⟩ else (ws[b - G]?).map fun x => ⟨x.blk, x.off, 0, sizeB w x.blk⟩
/-- The globals' cells (as far as they are told) and the pieces. -/
def winsT (gs : List (Nat × List Value)) : Nat → List Win → T DObj
  | _, [] => gs.foldl (fun t p => t.set p.1 (some (.cells p.2 0 false 0 none))) .leaf
  | k, x :: ws => (winsT gs (k + 1) ws).set k (some (.cells x.cells 0 false 0 none))
def winsH (G : Nat) (gs : List (Nat × List Value)) (ws : List Win) : H := { next := G + ws.length, objs := winsT gs G ws, one := [] }
theorem foldl_get (gs : List (Nat × List Value)) : ∀ (t : T DObj) (b : Nat) (o : DObj), (gs.foldl (fun t p => t.set p.1 (some (.cells p.2 0 false 0 none))) t).get b = some o → (∃ p, p ∈ gs ∧ p.1 = b ∧ o = .cells p.2 0 false 0 none) ∨ t.get b = some o := by
  induction gs with
  | nil => intro t b o h; exact .inr h
  | cons p gs ih =>
    intro t b o h
    rcases ih _ b o h with ⟨q, h1, h2⟩ | h1
    · exact .inl ⟨q, List.mem_cons_of_mem _ h1, h2⟩
    · rw [T.get_set] at h1
      split at h1
      · rename_i e; cases h1; exact .inl ⟨p, List.mem_cons_self .., e.symm, rfl⟩
      · exact .inr h1
theorem winsT_get (gs : List (Nat × List Value)) : ∀ (ws : List Win) (k b : Nat) (o : DObj), (winsT gs k ws).get b = some o → (∃ j x, ws[j]? = some x ∧ b = k + j ∧ o = .cells x.cells 0 false 0 none) ∨ ((∀ j, j < ws.length → b ≠ k + j) ∧ ∃ p, p ∈ gs ∧ p.1 = b ∧ o = .cells p.2 0 false 0 none) := by
  intro ws
  induction ws with
  | nil =>
    intro k b o h
    rcases foldl_get gs .leaf b o h with h1 | h1
    · exact .inr ⟨fun j hj => absurd hj (Nat.not_lt_zero _), h1⟩
    · simp at h1
  | cons x ws ih =>
    intro k b o h
    simp only [winsT, T.get_set] at h
    split at h
    · rename_i e; cases h; exact .inl ⟨0, x, rfl, e, rfl⟩
    · rename_i hne
      rcases ih (k + 1) b o h with ⟨j, y, h1, h2, h3⟩ | ⟨h1, h2⟩
      · exact .inl ⟨j + 1, y, h1, by omega, h3⟩
      · refine .inr ⟨fun j hj => ?_, h2⟩
        cases j with
        | zero => simpa using hne
        | succ j => have := h1 j (by simpa using hj); omega

structure WinsOk (G : Nat) (gs : List (Nat × List Value)) (ws : List Win) (w : World) : Prop where
  size : G ≤ w.heap.size
  glob : ∀ p ∈ gs, p.1 < G ∧ ∃ c' e fr, w.heap[p.1]? = some (.cells c' e fr) ∧ p.2.length ≤ c'.size ∧ ∀ (j : Nat) v, p.2[j]? = some v → ∃ v', c'[j]? = some v' ∧ VRel (winsInj G w ws) v v'
  win : ∀ (k : Nat) x, ws[k]? = some x → ∃ c' e fr, w.heap[x.blk]? = some (.cells c' e fr) ∧ x.off + x.cells.length ≤ c'.size ∧ ∀ (j : Nat) v, x.cells[j]? = some v → ∃ v', c'[x.off + j]? = some v' ∧ VRel (winsInj G w ws) v v'
theorem WinsOk.lt {G : Nat} {gs : List (Nat × List Value)} {ws : List Win} {w : World} (h : WinsOk G gs ws w) {k : Nat} {x : Win} (hx : ws[k]? = some x) : x.blk < w.heap.size := by
  obtain ⟨c', e, fr, h1, _⟩ := h.win k x hx
  rcases Nat.lt_or_ge x.blk w.heap.size with h' | h'
  · exact h'
  · rw [Array.getElem?_eq_none h'] at h1; cases h1
theorem winsH_ro (G : Nat) (gs : List (Nat × List Value)) (ws : List Win) (b : Nat) (o : DObj) (h : (winsH G gs ws).get b = some o) : o.mut = false := by
  rcases winsT_get gs ws G b o h with ⟨j, x, _, _, rfl⟩ | ⟨_, p, _, _, rfl⟩ <;> rfl
theorem winsH_rel (ok : OkC) {G : Nat} {gs : List (Nat × List Value)} {ws : List Win} {w : World} (h : WinsOk G gs ws w) : HRel ok G (winsInj G w ws) (winsH G gs ws) w where
  obj := by
    intro b o i hb hi
    rcases winsT_get gs ws G b o hb with ⟨j, x, hx, rfl, rfl⟩ | ⟨hne, p, hp, rfl, rfl⟩
    · obtain ⟨c', e, ⟨lo, hi'⟩, h1, h2, h3⟩ := h.win j x hx
      have he : i = ⟨x.blk, x.off, 0, sizeB w x.blk⟩ := by
        unfold winsInj at hi
        rw [if_neg (by omega), show G + j - G = j by omega, hx] at hi
        simpa using hi.symm
      subst he
      exact ⟨rfl, c', e, lo, hi', h1, by simp [sizeB, h1], h2, h3, fun hh => (by cases hh), fun t ht => by cases ht⟩
    · obtain ⟨hlt, c', e, ⟨lo, hi'⟩, h1, h2, h3⟩ := h.glob p hp
      have he : i = ⟨p.1, 0, 0, sizeB w p.1⟩ := by
        unfold winsInj at hi
        rw [if_pos hlt] at hi
        simpa using hi.symm
      subst he
      exact ⟨rfl, c', e, lo, hi', h1, by simp [sizeB, h1], by simpa using h2, fun j v hv => by simpa using h3 j v hv, fun hh => (by cases hh), fun t ht => by cases ht⟩
  inj := fun b b' o o' i i' hb hm => by rw [winsH_ro G gs ws b o hb] at hm; cases hm
  dom := by
    intro b i hi
    unfold winsInj at hi
    split at hi
    · rename_i hlt
      cases hi
      exact ⟨Nat.lt_of_lt_of_le hlt (Nat.le_add_right ..), Nat.lt_of_lt_of_le hlt h.size⟩
    · rename_i hge
      cases hx : ws[b - G]? with
      | none => rw [hx] at hi; cases hi
      | some x =>
        rw [hx] at hi; cases hi
        have hl := (List.getElem?_eq_some_iff.1 hx).1
        exact ⟨show b < G + ws.length by omega, h.lt hx⟩
  one := fun a ha => by cases ha
  wf := by
    intro b hb
    show (winsT gs G ws).get b = none
    cases hx : (winsT gs G ws).get b with
    | none => rfl
    | some o =>
      have hb' : G + ws.length ≤ b := hb
      rcases winsT_get gs ws G b o hx with ⟨j, x, h1, rfl, _⟩ | ⟨_, p, hp, rfl, _⟩
      · have hl := (List.getElem?_eq_some_iff.1 h1).1; omega
      · have := (h.glob p hp).1; omega
  glob := fun g hg => ⟨_, if_pos hg, rfl, rfl⟩

/-- D's answer is the model's, and nothing that was there has changed. -/
theorem call_below {P : Program} {E : Env} {G : Nat} {X : Plug} (hE : EnvOk P E) (hm : P.follows .mixedOrders = true) (hF : ∀ f fn b, E.fn f = some fn → fn.body = some b → okC E G true fn.ntmps b = true) (hX : PlugOk P (okC E G false) G X)
    {f : FuncId} {args args' : List Value} {h : H} {m : Inj} {W : World} (R : HRel (okC E G false) G m h W) (hro : ∀ b o, h.get b = some o → o.mut = false) (hL : LRel m args args') (hc : CallW E X (.fn f) args h fun v _ => v = .bool true) :
    Calls P f args'.toArray W fun e W' => e = .returned (.bool true) ∧ Below W.heap.size W W' := by
  obtain ⟨v, h', ⟨n, hn⟩, rfl⟩ := hc
  refine ((call_sim hE hm hF hX n).fn (hn n (Nat.le_refl _)) R hL).2.mono ?_
  rintro e W' ⟨v', rfl, m', ev, R', hv⟩
  refine ⟨by rw [hv.bool], ev.os, ev.tape, ev.output, ev.size, fun k hk => ev.keep k hk ?_⟩
  rintro ⟨b, o, i, h1, h2, _⟩
  rw [hro b o h1] at h2; cases h2
end Go.Dm

set_option linter.unusedVariables false
set_option linter.unusedSimpArgs false
namespace Go.Dm
section
variable {E : Env} {X : Plug} {L : List Nat} {fr : T Value} {h : H}
@[simp] theorem laxN_eq (i : Nat) (ops : Array Oper) (draw : Bool) : laxN E X L i ops draw fr h = (L.contains i = true → laxW E X ops draw fr h) := _root_.id rfl
/-- The reader's answer here and there. -/
def LaxQ (E : Env) (o : SOp) (fr : T Value) (h1 h2 : H) : Prop := match gdT o.g fr with
  | some true => ∃ v u, (opD E ckN o.o fr h1.clr).map (·.1) = some v ∧ (opD E ckN o.o fr h2.clr).map (·.1) = some u ∧ eqv v u = true
  | some false => True
  | none => False
def LaxK2 (E : Env) (o : SOp) (frj : T Value) (hj : H) : T Value → H → Prop := fun _ hk => LaxQ E o frj hj hk
def LaxK1 (E : Env) (X : Plug) (o : SOp) (l : List SOp) (fr : T Value) (h : H) : T Value → H → Prop := fun frj hj => slW E X l fr h (LaxK2 E o frj hj)
@[simp] theorem LaxK1_app (o : SOp) (l : List SOp) (fr frj : T Value) (h hj : H) : LaxK1 E X o l fr h frj hj = slW E X l fr h (LaxK2 E o frj hj) := _root_.id rfl
@[simp] theorem LaxK2_app (o : SOp) (frj frk : T Value) (hj hk : H) : LaxK2 E o frj hj frk hk = LaxQ E o frj hj hk := _root_.id rfl
def LaxP (E : Env) (X : Plug) (ops : List SOp) (fr : T Value) (h : H) (j m : Nat) : Prop := match ops[j]? with
  | some o => slW E X (ops.take j) fr h (LaxK1 E X o (ops.take m) fr h)
  | none => True
theorem regW_sl (ops : Array Oper) (l : List Oper) (K : T Value → H → Prop) (w : slW E X (l.map (slim1 ops.toList)) fr h K) : ∃ fr' h', Evt (fun n => regD E (callD E X n) ops l fr h) (fr', h') ∧ K fr' h' := regW_sound ((slW_eq ops l fr h K) ▸ w)
/-- Where each pair's reader stands, and how far to go on the other side. -/
def laxPs (E : Env) (ops : Array Oper) : List (Nat × Nat) := (laxPairs E ops).map fun p => (p.1, if p.2 < p.1 then p.2 else segEnd E ops (p.2 + 1))
theorem isRead {ops : Array Oper} {j k : Nat} (hm : (j, k) ∈ laxPairs E ops) : ∃ o, ops[j]? = some o ∧ cls E o.op = .read := by
  unfold laxPairs at hm
  simp only [List.mem_flatMap, List.mem_range] at hm
  obtain ⟨i, hi, hx⟩ := hm
  cases ho : ops[i]? with
  | none => rw [ho] at hx; cases hx
  | some o =>
    rw [ho] at hx
    simp only at hx
    cases hc : cls E o.op with
    | read =>
      rw [hc] at hx
      simp only [List.mem_filterMap, List.mem_range] at hx
      obtain ⟨k', _, hk⟩ := hx
      cases hok : ops[k']? with
      | none => rw [hok] at hk; cases hk
      | some ok =>
        rw [hok] at hk
        simp only at hk
        cases hc2 : cls E ok.op with
        | other =>
          rw [hc2] at hk
          simp only at hk
          split at hk
          · cases hk
          · cases hk; exact ⟨o, ho, hc⟩
        | _ => rw [hc2] at hk; cases hk
    | _ => rw [hc] at hx; cases hx
theorem read_ck {ck : CK} {o : Op} (hr : cls E o = .read) (fr : T Value) (h : H) : opD E ck o fr h = opD E ckN o fr h := by
  cases o with
  | call c =>
    obtain ⟨callee, args, tys⟩ := c
    cases callee with
    | value f => cases hr
    | invoke r n => cases hr
    | builtin b => cases b <;> rfl
  | makeFunc f a b => cases f <;> rfl
  | makeMap t r => cases r <;> rfl
  | next i s => cases s <;> rfl
  | _ => rfl
theorem laxW_of {ops : Array Oper} {draw : Bool} (ps : List (Nat × Nat)) (hps : laxPs E ops = ps) (hp : ∀ p ∈ ps, LaxP E X (ops.toList.map (slim1 ops.toList)) fr h p.1 p.2) : laxW E X ops draw fr h := by
  intro _
  have key : ∀ l : List (Nat × Nat), (∀ p ∈ l, p ∈ laxPairs E ops) → ∃ n0, ∀ n, n0 ≤ n → laxD E (callD E X n) ops fr h l = true := by
    intro l
    induction l with
    | nil => intro _; exact ⟨0, fun n _ => rfl⟩
    | cons p l ih =>
      intro hl
      obtain ⟨n1, h1⟩ := ih fun q hq => hl q (List.mem_cons_of_mem _ hq)
      obtain ⟨j, k⟩ := p
      have hm := hl _ (List.mem_cons_self ..)
      obtain ⟨o, ho, hread⟩ := isRead hm
      have hP := hp (j, if k < j then k else segEnd E ops (k + 1)) (by rw [← hps]; exact List.mem_map.2 ⟨(j, k), hm, rfl⟩)
      unfold LaxP at hP
      simp only [List.getElem?_map, Array.getElem?_toList, ho, Option.map_some, ← List.map_take] at hP
      obtain ⟨frj, hj, ⟨n2, h2⟩, hP⟩ := regW_sl ops _ _ hP
      obtain ⟨frk, hk, ⟨n3, h3⟩, hP⟩ := regW_sl ops _ _ hP
      refine ⟨n1 + n2 + n3, fun n hn => ?_⟩
      simp only [laxD, ho, h2 n (by omega), h3 n (by omega), h1 n (by omega), Bool.and_true]
      have hg := gdT_slim (fr := frj) ops o
      simp only [LaxK2_app, LaxQ, hg] at hP
      cases hw : wantedD ops o frj with
      | none => rw [hw] at hP; exact absurd hP id
      | some t =>
        rw [hw] at hP
        cases t with
        | false => rfl
        | true =>
          obtain ⟨v, u, e1, e2, e3⟩ := hP
          have q1 := read_ck (ck := callD E X n) hread frj hj.clr
          have q2 := read_ck (ck := callD E X n) hread frj hk.clr
          have hop : (slim1 ops.toList o).o = o.op := rfl
          rw [hop] at e1 e2
          simp only [q1, q2]
          cases hx : opD E ckN o.op frj hj.clr with
          | none => rw [hx] at e1; cases e1
          | some a =>
            cases hy : opD E ckN o.op frj hk.clr with
            | none => rw [hy] at e2; cases e2
            | some b =>
              rw [hx] at e1; rw [hy] at e2
              cases e1; cases e2
              exact e3
  exact key _ fun p hp => hp
/-- The reader's answer, by the calculus' words. -/
theorem opD_load (t : TypeId) (a : Operand) (fr : T Value) (h : H) : (opD E ckN (.load t a) fr h).map (·.1) = b1 (ev fr a) fun a => ld E t a h := by
  simp only [opD, b1]
  cases ev fr a with
  | none => rfl
  | some v => simp only [Option.bind_some, Option.map_map]; cases ld E t v h <;> rfl
def LaxG (E : Env) (t : Option Bool) (o : Op) (fr : T Value) (h1 h2 : H) : Prop := match t with
  | some true => ∃ v u, (opD E ckN o fr h1.clr).map (·.1) = some v ∧ (opD E ckN o fr h2.clr).map (·.1) = some u ∧ eqv v u = true
  | some false => True
  | none => False
@[simp] theorem LaxQ_eq (d : Option Tmp) (o : Op) (g : Option (Option Tmp × Bool)) (fr : T Value) (h1 h2 : H) : LaxQ E ⟨d, o, g⟩ fr h1 h2 = LaxG E (gdT g fr) o fr h1 h2 := _root_.id rfl
@[simp] theorem LaxG_false (o : Op) (fr : T Value) (h1 h2 : H) : LaxG E (some false) o fr h1 h2 = True := _root_.id rfl
@[simp] theorem LaxG_load (t : TypeId) (a : Operand) (fr : T Value) (h1 h2 : H) : LaxG E (some true) (.load t a) fr h1 h2 = ∃ v u, (b1 (ev fr a) fun a => ld E t a h1.clr) = some v ∧ (b1 (ev fr a) fun a => ld E t a h2.clr) = some u ∧ eqv v u = true := by
  simp only [LaxG, opD_load]
attribute [simp] eqv eqv0 eqvL
end
end Go.Dm

set_option linter.unusedVariables false
set_option linter.unusedSimpArgs false
namespace Go.Dm
/-- A slice of the call's own: nil and empty, or a row of its own from block B on. -/
def SlG (ty : Option TypeId) (n B : Nat) (h : H) (v : Value) (cs : List Value) (len : Nat) : Prop :=
  (len = 0 ∧ v = .slice none 0 0 ∧ cs = []) ∨ (0 < len ∧ cs.length = len * n ∧ ∃ g, B ≤ g ∧ g < h.next ∧ v = .slice (some ⟨g, 0, none⟩) len len ∧ h.get g = some (.cells cs n true 0 ty))
theorem SlG.nil (ty : Option TypeId) (n B : Nat) (h : H) : SlG ty n B h (.slice none 0 0) [] 0 := .inl ⟨rfl, rfl, rfl⟩
theorem SlG.of_get {ty : Option TypeId} {n B : Nat} {h h' : H} {v : Value} {cs : List Value} {len : Nat} (s : SlG ty n B h v cs len) (hn : h.next ≤ h'.next) (hg : ∀ g, B ≤ g → g < h.next → h'.get g = h.get g) : SlG ty n B h' v cs len := by
  rcases s with s | ⟨s1, s2, g, s3, s4, s5, s6⟩
  · exact .inl s
  · exact .inr ⟨s1, s2, g, s3, by omega, s5, (hg g s3 s4).trans s6⟩
theorem SlG.nw {ty : Option TypeId} {n B : Nat} {h : H} {v : Value} {cs : List Value} {len : Nat} (s : SlG ty n B h v cs len) (o : DObj) : SlG ty n B (h.nw o) v cs len :=
  s.of_get (by simp) fun g _ hg => by rw [get_nw, if_neg (by omega)]
theorem SlG.put {ty : Option TypeId} {n B : Nat} {h : H} {v : Value} {cs : List Value} {len : Nat} (s : SlG ty n B h v cs len) {b : Nat} (hb : b < B) (o : DObj) : SlG ty n B (h.put b o) v cs len :=
  s.of_get (by simp) fun g hg _ => by rw [H.get_put, if_neg (by omega)]
theorem SlG.cs_len {ty : Option TypeId} {n B : Nat} {h : H} {v : Value} {cs : List Value} {len : Nat} (s : SlG ty n B h v cs len) : cs.length = len * n := by
  rcases s with ⟨rfl, _, rfl⟩ | ⟨_, s2, _⟩
  · simp
  · exact s2
theorem SlG.slice {ty : Option TypeId} {n B : Nat} {h : H} {v : Value} {cs : List Value} {len : Nat} (s : SlG ty n B h v cs len) : ∃ a, v = .slice a len len := by
  rcases s with ⟨rfl, rfl, _⟩ | ⟨_, _, g, _, _, rfl, _⟩ <;> exact ⟨_, rfl⟩
/-- k elements are appended; all blocks but the slice's stay. -/
theorem SlG.app2 {ty : Option TypeId} {elem : TypeId} {n B : Nat} {h : H} {v : Value} {cs : List Value} {len : Nat} (s : SlG ty n B h v cs len) (h1 : h.one = []) (hB : B ≤ h.next) {k by' : Nat} {xs : List Value} (hx : xs.length = k * n) (hn : 0 < n)
    (hc : xs.all cellV = true) (hl : (len + k) * (by' + 1) ≤ 2 ^ 44) (hb : by' ≤ 2 ^ 32) (ht : ty = none ∨ ty = some elem) {K : VPost} (hK : ∀ v' h', SlG ty n B h' v' (cs ++ xs) (len + k) → Fr B h h' → (∀ b, b < h.next → (∀ g x y, v = .slice (some ⟨g, 0, none⟩) x y → g ≠ b) → h'.get b = h.get b) → K v' h') : OptW (appS ty elem n by' v k xs h) K := by
  by_cases hk : k = 0
  · subst hk
    have hxs : xs = [] := List.eq_nil_of_length_eq_zero (by simpa using hx)
    subst hxs
    have hr : OptW (appS ty elem n by' v 0 [] h) K = K v h := by
      rcases s with ⟨_, rfl, _⟩ | ⟨_, _, g, _, _, rfl, _⟩
      · rw [appS_nil, if_pos rfl, OptW.some]
      · rw [appS_some, if_pos rfl, OptW.some]
    rw [hr]
    exact hK v h (by simpa using s) (Fr.refl h1) (fun _ _ _ => rfl)
  · have hadr : h.addr = h.next := addr_one h h1
    rcases s with ⟨rfl, rfl, rfl⟩ | ⟨s1, s2, g, s3, s4, rfl, s6⟩
    · have hb2 : k * (by' + 1) ≤ 2 ^ 44 := by simpa using hl
      rw [appS_nil, if_neg hk, if_pos ⟨hb2, hb⟩, OptW.some, hadr, new_one h _ h1]
      refine hK _ _ (.inr ⟨by omega, by simpa using hx, h.next, hB, by simp, by simp, by simp⟩) ((Fr.refl h1).nw hB _) (fun b hb _ => by rw [get_nw, if_neg (by omega)])
    · have e1 : ¬ len + k ≤ len := by omega
      rw [appS_some, if_neg hk, if_neg e1, if_pos ⟨hl, hb, hc⟩, s6, growC_some]
      have e2 : n = n ∧ 0 + len * n ≤ cs.length ∧ 0 ≤ 0 + len * n ∧ (ty = none ∨ ty = some elem ∧ 0 = 0) := ⟨rfl, by omega, by omega, ht.imp id fun x => ⟨x, rfl⟩⟩
      have e3 : (cs.drop 0).take (len * n) = cs := by rw [List.drop_zero, ← s2, List.take_length]
      have h2 : (h.drop g).one = [] := h1
      rw [if_pos e2, OptW.some, e3, hadr, new_one _ _ h2]
      refine hK _ _ (.inr ⟨by omega, ?_, h.next, hB, by simp, by simp, by simp⟩) (((Fr.refl h1).drop s3).nw (by simpa using hB) _) (fun b hb hne => by
        have e5 : b ≠ g := fun e => hne g len len rfl e.symm
        rw [get_nw, if_neg (by simp; omega), H.get_drop, if_neg e5])
      rw [List.length_append, s2, hx, Nat.add_mul]
/-- k elements are appended. -/
theorem SlG.app {ty : Option TypeId} {elem : TypeId} {n B : Nat} {h : H} {v : Value} {cs : List Value} {len : Nat} (s : SlG ty n B h v cs len) (h1 : h.one = []) (hB : B ≤ h.next) {k by' : Nat} {xs : List Value} (hx : xs.length = k * n) (hn : 0 < n)
    (hc : xs.all cellV = true) (hl : (len + k) * (by' + 1) ≤ 2 ^ 44) (hb : by' ≤ 2 ^ 32) (ht : ty = none ∨ ty = some elem) {K : VPost} (hK : ∀ v' h', SlG ty n B h' v' (cs ++ xs) (len + k) → Fr B h h' → K v' h') : OptW (appS ty elem n by' v k xs h) K := by
  by_cases hk : k = 0
  · subst hk
    have hxs : xs = [] := List.eq_nil_of_length_eq_zero (by simpa using hx)
    subst hxs
    have hr : OptW (appS ty elem n by' v 0 [] h) K = K v h := by
      rcases s with ⟨_, rfl, _⟩ | ⟨_, _, g, _, _, rfl, _⟩
      · rw [appS_nil, if_pos rfl, OptW.some]
      · rw [appS_some, if_pos rfl, OptW.some]
    rw [hr]
    exact hK v h (by simpa using s) (Fr.refl h1)
  · have hadr : h.addr = h.next := addr_one h h1
    rcases s with ⟨rfl, rfl, rfl⟩ | ⟨s1, s2, g, s3, s4, rfl, s6⟩
    · have hb2 : k * (by' + 1) ≤ 2 ^ 44 := by simpa using hl
      rw [appS_nil, if_neg hk, if_pos ⟨hb2, hb⟩, OptW.some, hadr, new_one h _ h1]
      refine hK _ _ (.inr ⟨by omega, by simpa using hx, h.next, hB, by simp, by simp, by simp⟩) ((Fr.refl h1).nw hB _)
    · have e1 : ¬ len + k ≤ len := by omega
      rw [appS_some, if_neg hk, if_neg e1, if_pos ⟨hl, hb, hc⟩, s6, growC_some]
      have e2 : n = n ∧ 0 + len * n ≤ cs.length ∧ 0 ≤ 0 + len * n ∧ (ty = none ∨ ty = some elem ∧ 0 = 0) := ⟨rfl, by omega, by omega, ht.imp id fun x => ⟨x, rfl⟩⟩
      have e3 : (cs.drop 0).take (len * n) = cs := by rw [List.drop_zero, ← s2, List.take_length]
      have h2 : (h.drop g).one = [] := h1
      rw [if_pos e2, OptW.some, e3, hadr, new_one _ _ h2]
      refine hK _ _ (.inr ⟨by omega, ?_, h.next, hB, by simp, by simp, by simp⟩) (((Fr.refl h1).drop s3).nw (by simpa using hB) _)
      rw [List.length_append, s2, hx, Nat.add_mul]
theorem SlG.lt {ty : Option TypeId} {n B : Nat} {h : H} {v : Value} {cs : List Value} {len : Nat} (s : SlG ty n B h v cs len) : ∀ g x y, v = .slice (some ⟨g, 0, none⟩) x y → B ≤ g ∧ g < h.next := by
  intro g x y e
  rcases s with ⟨_, rfl, _⟩ | ⟨_, _, g', s3, s4, rfl, _⟩
  · cases e
  · cases e; exact ⟨s3, s4⟩
section
variable {E : Env}
/-- Bytes become a string. -/
theorem SlG.str {ty : Option TypeId} {B : Nat} {h : H} {v : Value} {l : List UInt8} {e : TypeId} (s : SlG ty 1 B h v (l.map fun b => .int .u8 b.toNat) l.length) (he : E.und e = some (.int .u8)) : convT (some (.slice e)) (some .string) E v h = some (Dm.str l, h) := by
  rcases s with ⟨h0, rfl, hc⟩ | ⟨s1, s2, g, s3, s4, rfl, s6⟩
  · have : l = [] := List.eq_nil_of_length_eq_zero h0
    subst this
    exact convT_nilbytes e h he
  · rw [convT_bytes _ _ _ _ _ _ he, if_neg (by omega), readD_eq, s6, readC_some, if_pos (by simp)]
    have : ((l.map fun b => Value.int .u8 b.toNat).drop 0).take l.length = l.map fun b => Value.int .u8 b.toNat := by
      rw [List.drop_zero]; exact List.take_of_length_le (by simp)
    rw [strR_some, this, bytesD_map, strB_some]
end
end Go.Dm

set_option linter.unusedVariables false
set_option linter.unusedSimpArgs false
namespace Go.Dm
section
variable {E : Env}
def eqT (E : Env) (d : Nat) (t : TypeId) (u : Option TypeDesc) (x y : Value) : Option Bool :=
    match u, x, y with
    | some .bool, .bool a, .bool b => some (a == b)
    | some (.int _), .int k a, .int k' b => if k = k' then some (a == b) else none
    | some .string, .string a, .string b => some (a == b)
    | some (.pointer _), .pointer none, .pointer none => some true
    | some (.pointer _), .pointer none, .pointer (some _) => some false
    | some (.pointer _), .pointer (some _), .pointer none => some false
    | some (.slice _), .slice none _ _, .slice none _ _ => some true
    | some (.slice _), .slice none _ _, .slice (some _) _ _ => some false
    | some (.slice _), .slice (some _) _ _, .slice none _ _ => some false
    | some (.map _ _), .map none, .map none => some true
    | some (.map _ _), .map none, .map (some _) => some false
    | some (.map _ _), .map (some _), .map none => some false
    | some (.interface _), .nilIface, .iface _ _ => some false
    | some (.interface _), .iface _ _, .nilIface => some false
    | some (.func _ _ _), .nilFunc, .nilFunc => some true
    | some (.func _ _ _), .nilFunc, .func _ _ _ => some false
    | some (.func _ _ _), .func _ _ _, .nilFunc => some false
    | some (.struct fields), .agg xs, .agg ys => if E.eqo t then eqFieldsD E (eqD E d) xs.toList ys.toList fields.toList else none
    | some (.array len elem), .agg xs, .agg ys => match E.siz elem with
      | some n => if E.eqo t then eqElemsD E (eqD E d) elem n xs.toList ys.toList 0 len else none
      | none => none
    | _, _, _ => none
@[simp] theorem eqD_succ (d : Nat) (t : TypeId) (x y : Value) : eqD E (d + 1) t x y = eqT E d t (E.und t) x y := _root_.id rfl
@[simp] theorem eqT_bool (d : Nat) (t : TypeId) (a b : Bool) : eqT E d t (some .bool) (.bool a) (.bool b) = some (a == b) := _root_.id rfl
@[simp] theorem eqT_int (d : Nat) (t : TypeId) (k k' k'' : IntKind) (a b : Int) : eqT E d t (some (.int k)) (.int k' a) (.int k'' b) = if k' = k'' then some (decide (a = b)) else none := _root_.id rfl
@[simp] theorem eqT_str (d : Nat) (t : TypeId) (a b : List UInt8) : eqT E d t (some .string) (str a) (str b) = some (decide (a = b)) := by
  show some (a.toArray == b.toArray) = _
  congr 1
  rw [Bool.eq_iff_iff, decide_eq_true_eq, beq_iff_eq]
  simp
@[simp] theorem eqT_struct (d : Nat) (t : TypeId) (fs : Array Field) (xs ys : Array Value) : eqT E d t (some (.struct fs)) (.agg xs) (.agg ys) = if E.eqo t then eqFieldsD E (eqD E d) xs.toList ys.toList fs.toList else none := _root_.id rfl
def eqB (r : Option Bool) (k : Option Bool) : Option Bool := match r with
  | some true => k
  | r => r
@[simp] theorem eqB_some (b : Bool) (c : Bool) : eqB (some b) (some c) = some (b && c) := by cases b <;> rfl
def eqP (eq : TypeId → Value → Value → Option Bool) (t : TypeId) (x y : Option Value) (k : Option Bool) : Option Bool := match x, y with
  | some x, some y => eqB (eq t x y) k
  | _, _ => none
@[simp] theorem eqP_some (eq : TypeId → Value → Value → Option Bool) (t : TypeId) (x y : Value) (k : Option Bool) : eqP eq t (some x) (some y) k = eqB (eq t x y) k := _root_.id rfl
@[simp] theorem eqFields_nil (eq : TypeId → Value → Value → Option Bool) (xs ys : List Value) : eqFieldsD E eq xs ys [] = some true := _root_.id rfl
@[simp] theorem eqFields_cons (eq : TypeId → Value → Value → Option Bool) (xs ys : List Value) (f : Field) (fs : List Field) : eqFieldsD E eq xs ys (f :: fs) = if f.name = "_" then eqFieldsD E eq xs ys fs else eqP eq f.type (partD E f.type xs f.offset) (partD E f.type ys f.offset) (eqFieldsD E eq xs ys fs) := by
  simp only [eqFieldsD, eqP]
  by_cases h : f.name = "_"
  · simp [h]
  · simp only [h, if_false]
    cases partD E f.type xs f.offset with
    | none => rfl
    | some x =>
      cases partD E f.type ys f.offset with
      | none => rfl
      | some y =>
        cases eq f.type x y with
        | none => rfl
        | some b => cases b <;> rfl
attribute [simp] bin_eq_agg bin_neq_agg
end
end Go.Dm

set_option linter.unusedVariables false
set_option linter.unusedSimpArgs false
namespace Go.Dm
section
variable {E : Env} {X : Plug}
/-! ### Loops over a function -/
def jumpOf : Ex → Option Code
  | .normal => none
  | .ret => some .ret
  | .exit i => some (.exit i)
  | .goto t => some (.goto t)
/-- Such a loop's end. -/
def endW (l : Nat) (Q : Post) (fr : T Value) (h : H) : Prop := ∃ r e, h.get l = some (.loop r) ∧ r.state ≠ .busy ∧ r.pending = jumpOf e ∧ Q e fr (h.put l (.loop { r with state := .exhausted }))
theorem wpd_range {L : List Nat} {f : Operand} {params : Array Tmp} {assign body : Code} {Q : Post} {fr : T Value} {h : H} {g : FuncId} {first cap : Array Value}
    (h1 : h.one = []) (hf : ev fr f = some (.func (.func g) first cap))
    (c : CallW E X (.fn g) (first.toList ++ [.func (.yield h.next) #[] #[]] ++ cap.toList) (h.nw (.loop { state := .ready, pending := none, fr := fr, params := params.toList, assign := assign, body := body })) fun _ h' => endW h.next Q fr h') :
    wpd E X L (.rangeFunc f params assign body) none Q fr h := by
  intro _
  obtain ⟨v, h', ⟨n0, e0⟩, r, e, hr, hs, hp, q⟩ := c
  refine ⟨e, fr, _, ⟨n0, fun n hn => ?_⟩, q⟩
  have ha : h.addr = h.next := by unfold H.addr; rw [h1]
  have key := e0 n hn
  rw [← new_one h _ h1] at key
  simp only [execD, hf, ha]
  simp only at key
  rw [key]
  simp only [endLoopD, hr, if_neg hs, hp]
  cases e <;> rfl
/-- What a round leaves. -/
def rndPost (l : Nat) (K : VPost) : Post := fun e _ h2 => ∃ r2, h2.get l = some (.loop r2) ∧ K (.bool (jumpOf e).isNone) (h2.put l (.loop { r2 with state := if (jumpOf e).isNone then .ready else .done, pending := jumpOf e }))
/-- What the round's variables leave to the body. -/
def asgPost (E : Env) (X : Plug) (l : Nat) (L : List Nat) (bd : Code) (K : VPost) : Post := fun e fr1 h1 => e = .normal ∧ ∃ r1, h1.get l = some (.loop r1) ∧ r1.state = .ready ∧ wpd E X L bd none (rndPost l K) fr1 (h1.put l (.loop { r1 with state := .busy }))
theorem CallW.yd {l : Nat} {args : List Value} {h : H} {K : VPost} {r : Lp} {fr0 : T Value} (hr : h.get l = some (.loop r)) (hp : putsD r.params args r.fr = some fr0)
    (La L : List Nat) (ha : noLax E La r.assign = true) (hb : noLax E L r.body = true) (w : wpd E X La r.assign none (asgPost E X l L r.body K) fr0 h) : CallW E X (.yd l) args h K := by
  obtain ⟨e1, fr1, h1, ⟨n1, e1'⟩, rfl, r1, hr1, hs1, w1⟩ := wpd_sound ha w
  obtain ⟨e, fr', h', ⟨n0, e0⟩, r2, hr2, q⟩ := wpd_sound hb w1
  refine ⟨_, _, ⟨n0 + n1 + 1, fun n hn => ?_⟩, q⟩
  obtain ⟨k, rfl⟩ : ∃ k, n = k + 1 := ⟨n - 1, by omega⟩
  have f0 := e0 k (by omega)
  have f1 := e1' k (by omega)
  simp only at f0 f1
  simp only [callD, roundD, hr, hp, f1, hr1, hs1, if_true, f0]
  cases e <;> (simp only [endRoundD, hr2]; rfl)
end
end Go.Dm
