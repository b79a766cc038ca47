/- The machine D, 20: a region that draws: memory, at each stage of each order. -/
import Derived.Test.YtpanpicbikihkaaDoorDSimE
set_option linter.unusedVariables false
set_option linter.unusedSimpArgs false
namespace Go.Dm

section
variable {E : Env} {ops : Array Oper} {ck : CK}
theorem regD_append (l1 l2 : List Oper) : ∀ (fr : T Value) (h : H), regD E ck ops (l1 ++ l2) fr h = (match regD E ck ops l1 fr h with | some (f1, h1) => regD E ck ops l2 f1 h1 | none => none) := by
  induction l1 with
  | nil => intro fr h; rfl
  | cons o l1 ih =>
    intro fr h
    simp only [List.cons_append, regD]
    split
    · split
      · exact ih _ _
      · rfl
    · exact ih _ _
    · rfl
def St (E : Env) (ck : CK) (ops : Array Oper) (fr : T Value) (h : H) (i : Nat) : T Value × H := (regD E ck ops (ops.toList.take i) fr h).getD (fr, h)
def StepD (E : Env) (ck : CK) (ops : Array Oper) (o : Oper) (s s' : T Value × H) : Prop :=
  (wantedD ops o s.1 = some true ∧ ∃ v h', opD E ck o.op s.1 s.2.clr = some (v, h') ∧ s' = (putD s.1 o.dst v, h')) ∨
  (wantedD ops o s.1 = some false ∧ s' = (putD s.1 o.dst undef, s.2))
variable {fr : T Value} {h : H} {r : T Value × H}
theorem st_some (hr : regD E ck ops ops.toList fr h = some r) (i : Nat) : regD E ck ops (ops.toList.take i) fr h = some (St E ck ops fr h i) := by
  unfold St
  have h1 : ops.toList = ops.toList.take i ++ ops.toList.drop i := (List.take_append_drop ..).symm
  have h2 : regD E ck ops (ops.toList.take i ++ ops.toList.drop i) fr h = some r := by rw [← h1]; exact hr
  rw [regD_append] at h2
  cases e : regD E ck ops (ops.toList.take i) fr h with
  | none => rw [e] at h2; cases h2
  | some s => rfl
theorem st_zero : St E ck ops fr h 0 = (fr, h) := by simp [St, regD]
theorem st_end (hr : regD E ck ops ops.toList fr h = some r) : St E ck ops fr h ops.size = r := by
  have := st_some hr ops.size
  rw [List.take_of_length_le (by simp), hr] at this
  exact (Option.some.inj this).symm
theorem st_step (hr : regD E ck ops ops.toList fr h = some r) {i : Nat} {o : Oper} (ho : ops[i]? = some o) : StepD E ck ops o (St E ck ops fr h i) (St E ck ops fr h (i + 1)) := by
  have h1 := st_some hr i
  have h2 := st_some hr (i + 1)
  have ht : ops.toList.take (i + 1) = ops.toList.take i ++ [o] := by
    have : ops.toList[i]? = some o := by rw [Array.getElem?_toList]; exact ho
    rw [List.take_add_one, this]; rfl
  rw [ht, regD_append, h1] at h2
  simp only [regD] at h2
  unfold StepD
  split at h2
  · rename_i hw
    split at h2
    · rename_i v h' hd
      exact .inl ⟨hw, v, h', hd, (Option.some.inj h2).symm⟩
    · cases h2
  · rename_i hw
    exact .inr ⟨hw, (Option.some.inj h2).symm⟩
  · cases h2
end

/-- Memory has got new blocks, nothing more. -/
structure Grow (h h' : H) : Prop where
  next : h.next ≤ h'.next
  get : ∀ b, b < h.next → h'.get b = h.get b
  wf : (∀ b, h.next ≤ b → h.get b = none) → ∀ b, h'.next ≤ b → h'.get b = none
theorem Grow.refl (h : H) : Grow h h := ⟨Nat.le_refl _, fun _ _ => rfl, id⟩
theorem Grow.trans {a b c : H} (x : Grow a b) (y : Grow b c) : Grow a c :=
  ⟨Nat.le_trans x.next y.next, fun n hn => (y.get n (Nat.lt_of_lt_of_le hn x.next)).trans (x.get n hn), fun hw => y.wf (x.wf hw)⟩
theorem clr_addr (h : H) : h.clr.addr = h.next := rfl
theorem clr_new_next (h : H) (ob : DObj) : (h.clr.new ob).next = h.next + 1 := rfl
theorem Grow.new (h : H) (ob : DObj) : Grow h.clr (h.clr.new ob) where
  next := Nat.le_succ _
  get b hb := by
    have hb : b < h.next := hb
    rw [H.get_new, if_neg (by rw [clr_addr]; omega)]
  wf hw b hb := by
    have hb : h.next + 1 ≤ b := hb
    rw [H.get_new, if_neg (by rw [clr_addr]; omega)]
    exact hw b (by have : h.clr.next = h.next := rfl; omega)
theorem Grow.holds {h h' : H} (g : Grow h h') (hw : ∀ b, h.next ≤ b → h.get b = none) : Holds h h' := by
  intro b o hb
  rcases Nat.lt_or_ge b h.next with hlt | hge
  · rw [g.get b hlt]; exact hb
  · rw [hw b hge] at hb; cases hb

section
variable {E : Env} {ops : Array Oper} {ck : CK} {S : Nat → T Value × H}
theorem step_grow {o : Oper} {s s' : T Value × H} (hs : StepD E ck ops o s s') (hc : cls E o.op ≠ .other) :
    s'.2.clr = s.2.clr ∨ (cls E o.op = .fresh ∧ ∃ ob, s'.2.clr = s.2.clr.new ob) := by
  rcases hs with ⟨hw, v, h', hd, rfl⟩ | ⟨hw, rfl⟩
  · cases hcl : cls E o.op with
    | pure => exact .inl (by rw [(pureOp hcl hd).1]; rfl)
    | read => exact .inl (by rw [(readOp hcl hd).1]; rfl)
    | fresh =>
      obtain ⟨ob, h1, _⟩ := freshOp hcl hd
      exact .inr ⟨rfl, ob, by rw [h1]; rfl⟩
    | other => exact absurd hcl hc
  · exact .inl rfl
theorem seg_grow (hS : ∀ i o, ops[i]? = some o → StepD E ck ops o (S i) (S (i + 1))) {i : Nat} : ∀ (d : Nat), i + d ≤ ops.size → (∀ k o, i ≤ k → k < i + d → ops[k]? = some o → cls E o.op ≠ .other) → Grow (S i).2.clr (S (i + d)).2.clr := by
  intro d
  induction d with
  | zero => intro _ _; exact .refl _
  | succ d ih =>
    intro hd hc
    refine (ih (by omega) fun k o h1 h2 h3 => hc k o h1 (by omega) h3).trans ?_
    have ho : ops[i + d]? = some ops[i + d] := Array.getElem?_eq_getElem (by omega)
    rcases step_grow (hS _ _ ho) (hc _ _ (by omega) (by omega) ho) with e | ⟨_, ob, e⟩
    · rw [← Nat.add_assoc, e]; exact .refl _
    · rw [← Nat.add_assoc, e]; exact .new _ _
end

section
variable (E : Env) (ops : Array Oper) (S : Nat → T Value × H) (ok : OkC) (G : Nat) (m0 : Inj) (h0 : H) (w0 : World)
abbrev hh (i : Nat) : H := (S i).2.clr
/-- How memory stands when the operations L are done, the callers among them those ahead of p. -/
structure HP (L : Nat → Prop) (m : Inj) (w : World) (p : Nat) : Prop where
  ple : p ≤ ops.size
  pW : ∀ k o, ops[k]? = some o → cls E o.op = .other → (L k ↔ k < p)
  pz : p = 0 ∨ ∃ o, ops[p - 1]? = some o ∧ cls E o.op = .other
  evo : Evo m0 h0 w0 m (hh S (segEnd E ops p)) w
  rel : HRel ok G m (hh S (segEnd E ops p)) w
  un : ∀ k o, ops[k]? = some o → k < segEnd E ops p → ¬ L k → cls E o.op = .fresh → (hh S k).next < (hh S (k + 1)).next → m (hh S k).next = none
  wfp : ∀ b, (hh S p).next ≤ b → (hh S p).get b = none
end

section
variable {E : Env} {ops : Array Oper} {S : Nat → T Value × H} {ok : OkC} {G : Nat} {m0 : Inj} {h0 : H} {w0 : World} {ck : CK}
  (hS : ∀ i o, ops[i]? = some o → StepD E ck ops o (S i) (S (i + 1))) (hD : okDraw E ops = true)
  {L : Nat → Prop} {m : Inj} {w : World} {p : Nat} (I : HP E ops S ok G m0 h0 w0 L m w p) (hL : ∀ i, L i → ClosedL ops L i)
  {j : Nat} {o : Oper} (ho : ops[j]? = some o) (hn : ¬ L j) (hj : ClosedL ops L j)
theorem get_lt {ops : Array Oper} {j : Nat} {o : Oper} (ho : ops[j]? = some o) : j < ops.size := (Array.getElem?_eq_some_iff.1 ho).1
include hD hL hj in
/-- What must come ahead of j has come. -/
theorem back {i : Nat} {oi : Oper} (hi : ops[i]? = some oi) (ho : ops[j]? = some o) (hij : i < j) (hf : ¬ Pair E ops i oi j o) : L i := by
  rcases (okDraw_spec hD).2 i j oi o hij hi ho with h | h
  · exact anc_spec h hL hj
  · exact absurd h hf
include hD hL hn in
/-- What must come after j has not come. -/
theorem fore {i : Nat} {oi : Oper} (hi : ops[i]? = some oi) (ho : ops[j]? = some o) (hij : j < i) (hf : ¬ Pair E ops j o i oi) : ¬ L i := by
  intro hLi
  rcases (okDraw_spec hD).2 j i o oi hij ho hi with h | h
  · exact hn (anc_spec h hL (hL i hLi))
  · exact hf h
theorem notPair {i j : Nat} {oi oj : Oper} (h : freeD (cls E oi.op) (cls E oj.op) = false) : ¬ Pair E ops i oi j oj := fun hp => by rw [hp.free] at h; cases h
include hS in
theorem grow_seg {i i' : Nat} (h1 : i ≤ i') (hp : p ≤ i) (h2 : i' ≤ segEnd E ops p) (ple : p ≤ ops.size) : Grow (hh S i) (hh S i') := by
  have h3 : segEnd E ops p ≤ ops.size := segEnd_le ple
  have := seg_grow hS (i := i) (i' - i) (by omega) fun k o hk1 hk2 hk => segEnd_min (p := p) (by omega) (by omega) hk
  rwa [show i + (i' - i) = i' by omega] at this
include hD I hL in
theorem fresh_ge {k : Nat} {ok' : Oper} (hk : ops[k]? = some ok') (hnk : ¬ L k) (hc : cls E ok'.op = .fresh) : p ≤ k := by
  rcases Nat.lt_or_ge k p with h | h
  · rcases I.pz with h0 | ⟨q, hq, hcq⟩
    · omega
    · have hLp : L (p - 1) := (I.pW _ _ hq hcq).2 (by omega)
      have hne : k ≠ p - 1 := fun e => by subst e; rw [hk] at hq; cases hq; rw [hc] at hcq; cases hcq
      exact absurd (back hD hL (hL _ hLp) hk hq (by omega) (notPair (by rw [hc, hcq]; rfl))) hnk
  · exact h
include hD I hL ho hn hj in
theorem other_at (hc : cls E o.op = .other) : segEnd E ops p = j := by
  have hjp : p ≤ j := by
    rcases Nat.lt_or_ge j p with h | h
    · exact absurd ((I.pW _ _ ho hc).2 h) hn
    · exact h
  have h1 : segEnd E ops p ≤ j := by
    rcases Nat.lt_or_ge j (segEnd E ops p) with h | h
    · exact absurd hc (segEnd_min hjp h ho)
    · exact h
  rcases Nat.lt_or_ge (segEnd E ops p) j with h | h
  · obtain ⟨q, hq, hcq⟩ := segEnd_at (E := E) (ops := ops) (p := p) (Nat.lt_trans h (get_lt ho))
    have hLs := back hD hL hj hq ho h (notPair (by rw [hc, hcq]; rfl))
    have := (I.pW _ _ hq hcq).1 hLs
    have := segEnd_ge E ops p
    omega
  · omega
include hS hD I hL ho hn hj in
theorem heap_other (hc : cls E o.op = .other) {m' : Inj} {h' : H} {w' : World} (e : Evo m (hh S j) w m' h' w') (R : HRel ok G m' h' w') (he : h'.clr = hh S (j + 1)) :
    HP E ops S ok G m0 h0 w0 (fun k => k = j ∨ L k) m' w' (j + 1) := by
  have hs := other_at hD I hL ho hn hj hc
  have hlt := get_lt ho
  have hnx : h'.next = (hh S (j + 1)).next := by rw [← he]; rfl
  have hge : ∀ b, h'.get b = (hh S (j + 1)).get b := fun b => by rw [← he]; rfl
  have hg : Grow (hh S (j + 1)) (hh S (segEnd E ops (j + 1))) := grow_seg hS (p := j + 1) (segEnd_ge ..) (Nat.le_refl _) (Nat.le_refl _) hlt
  have hwf : ∀ b, (hh S (j + 1)).next ≤ b → (hh S (j + 1)).get b = none := fun b hb => by rw [← hge]; exact R.wf b (by rw [hnx]; exact hb)
  have hv : ∀ b i, m' b = some i → (hh S (segEnd E ops (j + 1))).get b = h'.get b := fun b i hb => by
    rw [hge]; exact hg.get b (by rw [← hnx]; exact (R.dom b i hb).1)
  refine ⟨hlt, ?_, .inr ⟨o, by simpa using ho, hc⟩, ?_, ?_, ?_, hwf⟩
  · intro k ok' hk hck
    constructor
    · rintro (rfl | h)
      · exact Nat.lt_succ_self _
      · have := (I.pW _ _ hk hck).1 h
        have := segEnd_ge E ops p
        omega
    · intro h
      rcases Nat.lt_or_ge k j with h1 | h1
      · exact .inr (back hD hL hj hk ho h1 (notPair (by rw [hc, hck]; rfl)))
      · exact .inl (by omega)
  · have e0 := I.evo
    rw [hs] at e0
    exact (e0.trans e).view (fun _ _ _ => rfl) hv
  · exact R.view hv (fun b i hb => Nat.lt_of_lt_of_le (R.dom b i hb).1 (by rw [hnx]; exact hg.next)) (hg.wf hwf) (fun a ha => by cases ha)
  · intro k ok' hk hks hnk hck hnew
    have hkj : j + 1 ≤ k := by
      rcases Nat.lt_or_ge j k with h | h
      · exact h
      · have hne : k ≠ j := fun e => hnk (.inl e)
        exact absurd (.inr (back hD hL hj hk ho (by omega) (notPair (by rw [hc, hck]; rfl)))) hnk
    have hg2 : Grow (hh S (j + 1)) (hh S k) := grow_seg hS (p := j + 1) hkj (Nat.le_refl _) (Nat.le_of_lt hks) hlt
    cases hm : m' (hh S k).next with
    | none => rfl
    | some i =>
      have := (R.dom _ i hm).1
      have := hg2.next
      omega
include I ho in
theorem heap_stay (hc : cls E o.op ≠ .other) {m' : Inj} {w' : World} (e : Evo m0 h0 w0 m' (hh S (segEnd E ops p)) w') (R : HRel ok G m' (hh S (segEnd E ops p)) w')
    (un : ∀ k o, ops[k]? = some o → k < segEnd E ops p → k ≠ j → ¬ L k → cls E o.op = .fresh → (hh S k).next < (hh S (k + 1)).next → m' (hh S k).next = none) :
    HP E ops S ok G m0 h0 w0 (fun k => k = j ∨ L k) m' w' p where
  ple := I.ple
  pW k ok' hk hck := by
    rw [← I.pW k ok' hk hck]
    constructor
    · rintro (rfl | h)
      · rw [ho] at hk; cases hk; exact absurd hck hc
      · exact h
    · exact .inr
  pz := I.pz
  evo := e
  rel := R
  un k ok' hk hks hnk := un k ok' hk hks (fun e => hnk (.inl e)) (fun h => hnk (.inr h))
  wfp := I.wfp
open Classical in
/-- The places of the new blocks that are still to come. -/
noncomputable def toCome (E : Env) (ops : Array Oper) (S : Nat → T Value × H) (L : Nat → Prop) (p j : Nat) : List Nat :=
  ((List.range (segEnd E ops p)).filter fun k => decide (k ≠ j ∧ ¬ L k ∧ (∃ o, ops[k]? = some o ∧ cls E o.op = .fresh) ∧ (hh S k).next < (hh S (k + 1)).next)).map fun k => (hh S k).next
theorem mem_toCome {a : Nat} : a ∈ toCome E ops S L p j ↔ ∃ k, k < segEnd E ops p ∧ (k ≠ j ∧ ¬ L k ∧ (∃ o, ops[k]? = some o ∧ cls E o.op = .fresh) ∧ (hh S k).next < (hh S (k + 1)).next) ∧ (hh S k).next = a := by
  simp [toCome, List.mem_map, List.mem_filter, and_assoc]
include hS hD I hL in
theorem toCome_ok {a : Nat} (ha : a ∈ toCome E ops S L p j) : a < (hh S (segEnd E ops p)).next ∧ m a = none := by
  obtain ⟨k, hk, ⟨_, hnk, ⟨q, hq, hcq⟩, hnew⟩, rfl⟩ := mem_toCome.1 ha
  refine ⟨?_, I.un k q hq hk hnk hcq hnew⟩
  have hp := fresh_ge hD I hL hq hnk hcq
  have := (grow_seg hS (i := k + 1) (i' := segEnd E ops p) (p := p) hk (by omega) (Nat.le_refl _) I.ple).next
  omega
include hS hD I hL ho hn hj in
theorem heap_step (hc : cls E o.op ≠ .other)
    (hlax : ∀ j k oj ok, ops[j]? = some oj → ops[k]? = some ok → cls E oj.op = .read → cls E ok.op = .other → ((ancD ops.toList []).getD (max j k) 0).testBit (min j k) = false → wantedD ops oj (S j).1 = some true →
      ∃ v x y, opD E ck oj.op (S j).1 (hh S j) = some (v, x) ∧ opD E ck oj.op (S j).1 (hh S (if k < j then k else segEnd E ops (k + 1))) = some (v, y))
    (hw : wantedD ops o (S j).1 = some true) {v : Value} {h' : H} (hd : opD E ck o.op (S j).1 (hh S j) = some (v, h')) (hnx : h'.clr = hh S (j + 1)) :
    ∃ hx hx', HRel ok G m hx w ∧ opD E ck o.op (S j).1 hx = some (v, hx') ∧ ∀ m' w', Evo m hx w m' hx' w' → HRel ok G m' hx' w' → HP E ops S ok G m0 h0 w0 (fun k => k = j ∨ L k) m' w' p := by
  have hlt := get_lt ho
  have hsl : segEnd E ops p ≤ ops.size := segEnd_le I.ple
  -- no new block: memory with places bespoken
  have stay : opD E ck o.op (S j).1 { hh S (segEnd E ops p) with one := toCome E ops S L p j } = some (v, { hh S (segEnd E ops p) with one := toCome E ops S L p j }) →
      ∃ hx hx', HRel ok G m hx w ∧ opD E ck o.op (S j).1 hx = some (v, hx') ∧ ∀ m' w', Evo m hx w m' hx' w' → HRel ok G m' hx' w' → HP E ops S ok G m0 h0 w0 (fun k => k = j ∨ L k) m' w' p := by
    intro hd'
    refine ⟨_, _, ?_, hd', ?_⟩
    · exact I.rel.view (fun _ _ _ => rfl) (fun b i hi => (I.rel.dom b i hi).1) I.rel.wf (fun a ha => toCome_ok hS hD I hL ha)
    · intro m' w' e R
      refine heap_stay I ho hc ?_ ?_ ?_
      · exact I.evo.trans (Evo.view (h2 := hh S (segEnd E ops p)) (h2' := hh S (segEnd E ops p)) e (fun _ _ _ => rfl) (fun _ _ _ => rfl))
      · exact R.view (fun _ _ _ => rfl) (fun b i hi => (R.dom b i hi).1) R.wf (fun a ha => by cases ha)
      · intro k q hq hk hkj hnk hcq hnew
        exact (R.one _ (mem_toCome.2 ⟨k, hk, ⟨hkj, hnk, ⟨q, hq, hcq⟩, hnew⟩, rfl⟩)).2
  cases hcl : cls E o.op with
  | other => exact absurd hcl hc
  | pure => exact stay ((pureOp hcl hd).2 _)
  | read =>
    have hown : opD E ck o.op (S j).1 (hh S (segEnd E ops p)) = some (v, hh S (segEnd E ops p)) := by
      have lax : ∀ k q, ops[k]? = some q → cls E q.op = .other → ((ancD ops.toList []).getD (max j k) 0).testBit (min j k) = false → (if k < j then k else segEnd E ops (k + 1)) = segEnd E ops p →
          opD E ck o.op (S j).1 (hh S (segEnd E ops p)) = some (v, hh S (segEnd E ops p)) := by
        intro k q hq hcq hb he
        obtain ⟨u, x, y, h1, h2⟩ := hlax j k o q ho hq hcl hcq hb hw
        rw [hd] at h1; cases h1
        rw [he] at h2
        have := (readOp hcl h2).1
        rw [this] at h2
        exact h2
      rcases Nat.lt_or_ge j p with h1 | h1
      · -- the caller came earlier, though it stands later
        rcases I.pz with h0 | ⟨q, hq, hcq⟩
        · omega
        · have hLp : L (p - 1) := (I.pW _ _ hq hcq).2 (by omega)
          have hne : j ≠ p - 1 := fun e => hn (e ▸ hLp)
          refine lax (p - 1) q hq hcq ?_ ?_
          · cases hb : ((ancD ops.toList []).getD (max j (p - 1)) 0).testBit (min j (p - 1)) with
            | false => rfl
            | true =>
              rw [Nat.max_eq_right (by omega), Nat.min_eq_left (by omega)] at hb
              exact absurd (anc_spec hb hL (hL _ hLp)) hn
          · rw [if_neg (by omega), show p - 1 + 1 = p by omega]
      · rcases Nat.lt_or_ge (segEnd E ops p) j with h2 | h2
        · obtain ⟨q, hq, hcq⟩ := segEnd_at (E := E) (ops := ops) (p := p) (Nat.lt_trans h2 hlt)
          refine lax _ q hq hcq ?_ (if_pos h2)
          cases hb : ((ancD ops.toList []).getD (max j (segEnd E ops p)) 0).testBit (min j (segEnd E ops p)) with
          | false => rfl
          | true =>
            rw [Nat.max_eq_left (by omega), Nat.min_eq_right (by omega)] at hb
            have hLs := anc_spec hb hL hj
            have := (I.pW _ _ hq hcq).1 hLs
            have := segEnd_ge E ops p
            omega
        · have hg : Grow (hh S j) (hh S (segEnd E ops p)) := grow_seg hS h2 h1 (Nat.le_refl _) I.ple
          have hwj : ∀ b, (hh S j).next ≤ b → (hh S j).get b = none := (grow_seg hS (i := p) (i' := j) h1 (Nat.le_refl _) h2 I.ple).wf I.wfp
          exact (readOp hcl hd).2 _ (hg.holds hwj)
    exact stay ((readOp hcl hown).2 _ (fun b q hb => hb))
  | fresh =>
    obtain ⟨ob, h1, h2⟩ := freshOp hcl hd
    have hjp := fresh_ge hD I hL ho hn hcl
    have hjs : j < segEnd E ops p := by
      rcases Nat.lt_or_ge j (segEnd E ops p) with h | h
      · exact h
      · obtain ⟨q, hq, hcq⟩ := segEnd_at (E := E) (ops := ops) (p := p) (Nat.lt_of_le_of_lt h hlt)
        have hne : segEnd E ops p ≠ j := fun e => by rw [e, ho] at hq; cases hq; exact hc hcq
        have hLs := back hD hL hj hq ho (by omega) (notPair (by rw [hcl, hcq]; rfl))
        have := (I.pW _ _ hq hcq).1 hLs
        have := segEnd_ge E ops p
        omega
    have hS1 : hh S (j + 1) = (hh S j).new ob := by rw [← hnx, h1]; rfl
    have hnew : (hh S j).next < (hh S (j + 1)).next := by rw [hS1]; exact Nat.lt_succ_self _
    have hmn : m (hh S j).next = none := I.un j o ho hjs hn hcl hnew
    have hg1 : Grow (hh S (j + 1)) (hh S (segEnd E ops p)) := grow_seg hS hjs (by omega) (Nat.le_refl _) I.ple
    have hat : (hh S (segEnd E ops p)).get (hh S j).next = some ob := by
      rw [hg1.get _ hnew, hS1, H.get_new, if_pos (show (hh S j).next = (hh S j).addr from rfl)]
    let hx : H := { next := (hh S (segEnd E ops p)).next, objs := (hh S (segEnd E ops p)).objs.set (hh S j).next none, one := (hh S j).next :: toCome E ops S L p j }
    have hxg : ∀ b, hx.get b = if b = (hh S j).next then none else (hh S (segEnd E ops p)).get b := fun b => T.get_set ..
    refine ⟨hx, hx.new ob, ?_, h2 hx rfl, ?_⟩
    · refine I.rel.view ?_ (fun b i hi => (I.rel.dom b i hi).1) ?_ ?_
      · intro b i hi
        rw [hxg, if_neg (fun e => by rw [e, hmn] at hi; cases hi)]
      · intro b hb
        rw [hxg]
        by_cases e : b = (hh S j).next
        · rw [if_pos e]
        · rw [if_neg e]; exact I.rel.wf b hb
      · intro a ha
        rcases List.mem_cons.1 ha with rfl | ha
        · exact ⟨Nat.lt_of_lt_of_le hnew hg1.next, hmn⟩
        · exact toCome_ok hS hD I hL ha
    · intro m' w' e R
      have hv : ∀ b, (hh S (segEnd E ops p)).get b = (hx.new ob).get b := by
        intro b
        rw [H.get_new]
        by_cases e : b = (hh S j).next
        · rw [if_pos (show b = hx.addr from e), e, hat]
        · rw [if_neg (show ¬ b = hx.addr from e), hxg, if_neg e]
      refine heap_stay I ho hc ?_ ?_ ?_
      · refine I.evo.trans (Evo.view (h2 := hh S (segEnd E ops p)) (h2' := hh S (segEnd E ops p)) e ?_ (fun b _ _ => hv b))
        intro b i hi
        rw [hxg, if_neg (fun e => by rw [e, hmn] at hi; cases hi)]
      · exact R.view (fun b _ _ => hv b) (fun b i hi => (R.dom b i hi).1) (fun b hb => by rw [hv]; exact R.wf b hb) (fun a ha => by cases ha)
      · intro k q hq hk hkj hnk hcq hnewk
        have hne : (hh S k).next ≠ (hh S j).next := by
          have hkp := fresh_ge hD I hL hq hnk hcq
          rcases Nat.lt_or_gt_of_ne hkj with hlt' | hgt
          · have := (grow_seg hS (i := k + 1) (i' := j) (p := p) hlt' (by omega) (by omega) I.ple).next
            omega
          · have := (grow_seg hS (i := j + 1) (i' := k) (p := p) hgt (by omega) (by omega) I.ple).next
            omega
        refine (R.one _ ?_).2
        show _ ∈ (toCome E ops S L p j).filter (· != (hh S j).next)
        exact List.mem_filter.2 ⟨mem_toCome.2 ⟨k, hk, ⟨hkj, hnk, ⟨q, hq, hcq⟩, hnewk⟩, rfl⟩, by simpa using hne⟩
end
end Go.Dm
