/- The machine D, 32: from D's answer to the model's call: what comes in lies in blocks that are only read. -/
import Derived.Test.YtpanpicbikihkaaDoorDSymB
import Derived.Below
set_option linter.unusedVariables false
set_option linter.unusedSimpArgs false
namespace Go.Dm
open Go.RowKit

/-- A piece of a block of the model's, as D sees it. -/
structure Win where
  blk : Nat
  off : Nat
  cells : List Value
def sizeB (w : World) (b : Nat) : Nat := match w.heap[b]? with
  | some (.cells c _ _) => c.size
  | _ => 0
def winsInj (G : Nat) (w : World) (ws : List Win) : Inj := fun b => if b < G then some ⟨b, 0, 0, sizeB w b⟩ else (ws[b - G]?).map fun x => ⟨x.blk, x.off, 0, sizeB w x.blk⟩
/-- The globals' cells (as far as they are told) and the pieces. -/
def winsT (gs : List (Nat × List Value)) : Nat → List Win → T DObj
  | _, [] => gs.foldl (fun t p => t.set p.1 (some (.cells p.2 0 false 0 none))) .leaf
  | k, x :: ws => (winsT gs (k + 1) ws).set k (some (.cells x.cells 0 false 0 none))
def winsH (G : Nat) (gs : List (Nat × List Value)) (ws : List Win) : H := { next := G + ws.length, objs := winsT gs G ws, one := [] }
theorem foldl_get (gs : List (Nat × List Value)) : ∀ (t : T DObj) (b : Nat) (o : DObj), (gs.foldl (fun t p => t.set p.1 (some (.cells p.2 0 false 0 none))) t).get b = some o → (∃ p, p ∈ gs ∧ p.1 = b ∧ o = .cells p.2 0 false 0 none) ∨ t.get b = some o := by
  induction gs with
  | nil => intro t b o h; exact .inr h
  | cons p gs ih =>
    intro t b o h
    rcases ih _ b o h with ⟨q, h1, h2⟩ | h1
    · exact .inl ⟨q, List.mem_cons_of_mem _ h1, h2⟩
    · rw [T.get_set] at h1
      split at h1
      · rename_i e; cases h1; exact .inl ⟨p, List.mem_cons_self .., e.symm, rfl⟩
      · exact .inr h1
theorem winsT_get (gs : List (Nat × List Value)) : ∀ (ws : List Win) (k b : Nat) (o : DObj), (winsT gs k ws).get b = some o → (∃ j x, ws[j]? = some x ∧ b = k + j ∧ o = .cells x.cells 0 false 0 none) ∨ ((∀ j, j < ws.length → b ≠ k + j) ∧ ∃ p, p ∈ gs ∧ p.1 = b ∧ o = .cells p.2 0 false 0 none) := by
  intro ws
  induction ws with
  | nil =>
    intro k b o h
    rcases foldl_get gs .leaf b o h with h1 | h1
    · exact .inr ⟨fun j hj => absurd hj (Nat.not_lt_zero _), h1⟩
    · simp at h1
  | cons x ws ih =>
    intro k b o h
    simp only [winsT, T.get_set] at h
    split at h
    · rename_i e; cases h; exact .inl ⟨0, x, rfl, e, rfl⟩
    · rename_i hne
      rcases ih (k + 1) b o h with ⟨j, y, h1, h2, h3⟩ | ⟨h1, h2⟩
      · exact .inl ⟨j + 1, y, h1, by omega, h3⟩
      · refine .inr ⟨fun j hj => ?_, h2⟩
        cases j with
        | zero => simpa using hne
        | succ j => have := h1 j (by simpa using hj); omega

structure WinsOk (G : Nat) (gs : List (Nat × List Value)) (ws : List Win) (w : World) : Prop where
  size : G ≤ w.heap.size
  glob : ∀ p ∈ gs, p.1 < G ∧ ∃ c' e fr, w.heap[p.1]? = some (.cells c' e fr) ∧ p.2.length ≤ c'.size ∧ ∀ (j : Nat) v, p.2[j]? = some v → ∃ v', c'[j]? = some v' ∧ VRel (winsInj G w ws) v v'
  win : ∀ (k : Nat) x, ws[k]? = some x → ∃ c' e fr, w.heap[x.blk]? = some (.cells c' e fr) ∧ x.off + x.cells.length ≤ c'.size ∧ ∀ (j : Nat) v, x.cells[j]? = some v → ∃ v', c'[x.off + j]? = some v' ∧ VRel (winsInj G w ws) v v'
theorem WinsOk.lt {G : Nat} {gs : List (Nat × List Value)} {ws : List Win} {w : World} (h : WinsOk G gs ws w) {k : Nat} {x : Win} (hx : ws[k]? = some x) : x.blk < w.heap.size := by
  obtain ⟨c', e, fr, h1, _⟩ := h.win k x hx
  rcases Nat.lt_or_ge x.blk w.heap.size with h' | h'
  · exact h'
  · rw [Array.getElem?_eq_none h'] at h1; cases h1
theorem winsH_ro (G : Nat) (gs : List (Nat × List Value)) (ws : List Win) (b : Nat) (o : DObj) (h : (winsH G gs ws).get b = some o) : o.mut = false := by
  rcases winsT_get gs ws G b o h with ⟨j, x, _, _, rfl⟩ | ⟨_, p, _, _, rfl⟩ <;> rfl
theorem winsH_rel (ok : OkC) {G : Nat} {gs : List (Nat × List Value)} {ws : List Win} {w : World} (h : WinsOk G gs ws w) : HRel ok G (winsInj G w ws) (winsH G gs ws) w where
  obj := by
    intro b o i hb hi
    rcases winsT_get gs ws G b o hb with ⟨j, x, hx, rfl, rfl⟩ | ⟨hne, p, hp, rfl, rfl⟩
    · obtain ⟨c', e, ⟨lo, hi'⟩, h1, h2, h3⟩ := h.win j x hx
      have he : i = ⟨x.blk, x.off, 0, sizeB w x.blk⟩ := by
        unfold winsInj at hi
        rw [if_neg (by omega), show G + j - G = j by omega, hx] at hi
        simpa using hi.symm
      subst he
      exact ⟨rfl, c', e, lo, hi', h1, by simp [sizeB, h1], h2, h3, fun hh => (by cases hh), fun t ht => by cases ht⟩
    · obtain ⟨hlt, c', e, ⟨lo, hi'⟩, h1, h2, h3⟩ := h.glob p hp
      have he : i = ⟨p.1, 0, 0, sizeB w p.1⟩ := by
        unfold winsInj at hi
        rw [if_pos hlt] at hi
        simpa using hi.symm
      subst he
      exact ⟨rfl, c', e, lo, hi', h1, by simp [sizeB, h1], by simpa using h2, fun j v hv => by simpa using h3 j v hv, fun hh => (by cases hh), fun t ht => by cases ht⟩
  inj := fun b b' o o' i i' hb hm => by rw [winsH_ro G gs ws b o hb] at hm; cases hm
  dom := by
    intro b i hi
    unfold winsInj at hi
    split at hi
    · rename_i hlt
      cases hi
      exact ⟨Nat.lt_of_lt_of_le hlt (Nat.le_add_right ..), Nat.lt_of_lt_of_le hlt h.size⟩
    · rename_i hge
      cases hx : ws[b - G]? with
      | none => rw [hx] at hi; cases hi
      | some x =>
        rw [hx] at hi; cases hi
        have hl := (List.getElem?_eq_some_iff.1 hx).1
        exact ⟨show b < G + ws.length by omega, h.lt hx⟩
  one := fun a ha => by cases ha
  wf := by
    intro b hb
    show (winsT gs G ws).get b = none
    cases hx : (winsT gs G ws).get b with
    | none => rfl
    | some o =>
      have hb' : G + ws.length ≤ b := hb
      rcases winsT_get gs ws G b o hx with ⟨j, x, h1, rfl, _⟩ | ⟨_, p, hp, rfl, _⟩
      · have hl := (List.getElem?_eq_some_iff.1 h1).1; omega
      · have := (h.glob p hp).1; omega
  glob := fun g hg => ⟨_, if_pos hg, rfl, rfl⟩

/-- D's answer is the model's, and nothing that was there has changed. -/
theorem call_below {P : Program} {E : Env} {G : Nat} {X : Plug} (hE : EnvOk P E) (hm : P.follows .mixedOrders = true) (hF : ∀ f fn b, E.fn f = some fn → fn.body = some b → okC E G true fn.ntmps b = true) (hX : PlugOk P (okC E G false) G X)
    {f : FuncId} {args args' : List Value} {h : H} {m : Inj} {W : World} (R : HRel (okC E G false) G m h W) (hro : ∀ b o, h.get b = some o → o.mut = false) (hL : LRel m args args') (hc : CallW E X (.fn f) args h fun v _ => v = .bool true) :
    Calls P f args'.toArray W fun e W' => e = .returned (.bool true) ∧ Below W.heap.size W W' := by
  obtain ⟨v, h', ⟨n, hn⟩, rfl⟩ := hc
  refine ((call_sim hE hm hF hX n).fn (hn n (Nat.le_refl _)) R hL).2.mono ?_
  rintro e W' ⟨v', rfl, m', ev, R', hv⟩
  refine ⟨by rw [hv.bool], ev.os, ev.tape, ev.output, ev.size, fun k hk => ev.keep k hk ?_⟩
  rintro ⟨b, o, i, h1, h2, _⟩
  rw [hro b o h1] at h2; cases h2
end Go.Dm
