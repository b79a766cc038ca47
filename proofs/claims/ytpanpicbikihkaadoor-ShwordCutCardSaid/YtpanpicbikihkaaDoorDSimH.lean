/- The machine D, 22: a region's walk, drawn or not; what is asked of code. -/
import Derived.Test.YtpanpicbikihkaaDoorDSimG
set_option linter.unusedVariables false
set_option linter.unusedSimpArgs false
namespace Go.Dm

/-- What is asked of code ahead of all running. 'rf': may it range over functions? -/
def okC (E : Env) (G : Nat) : Bool → OkC
  | rf, N, .region _ ops draw => ops.toList.all (okO G N) && (!draw || okDraw E ops)
  | rf, N, .seq a b => okC E G rf N a && okC E G rf N b
  | rf, N, .cond c a b => okX G c && okC E G rf N a && okC E G rf N b
  | rf, N, .block _ c => okC E G rf N c
  | rf, N, .loop c => okC E G rf N c
  | rf, N, .scope c => okC E G rf N c
  | rf, N, .rangeFunc f ps a b => rf && okX G f && ps.toList.all (fun p => decide (p < N)) && okC E G false N a && okC E G false N b
  | _, _, .refuse _ => false
  | _, _, _ => true

section
variable {E : Env} {ck : CK} {ops : Array Oper} {fr : T Value} {h : H} {r : T Value × H}
theorem laxD_spec (hr : regD E ck ops ops.toList fr h = some r) : ∀ {l : List (Nat × Nat)}, laxD E ck ops fr h l = true → ∀ j k, (j, k) ∈ l → ∀ o, ops[j]? = some o → wantedD ops o (St E ck ops fr h j).1 = some true →
    ∃ v x y, opD E ck o.op (St E ck ops fr h j).1 (hh (St E ck ops fr h) j) = some (v, x) ∧ opD E ck o.op (St E ck ops fr h j).1 (hh (St E ck ops fr h) (if k < j then k else segEnd E ops (k + 1))) = some (v, y) := by
  intro l
  induction l with
  | nil => intro _ j k hm; cases hm
  | cons jk l ih =>
    intro hl j k hm o ho hw
    obtain ⟨j', k'⟩ := jk
    simp only [laxD, Bool.and_eq_true] at hl
    rcases List.mem_cons.1 hm with e | hm
    · cases e
      have h1 := hl.1
      rw [ho, st_some hr j, st_some hr (if k < j then k else segEnd E ops (k + 1))] at h1
      simp only [hw] at h1
      split at h1
      · rename_i v x u y e1 e2
        have := eqv_sound h1
        subst this
        exact ⟨v, x, y, e1, e2⟩
      · cases h1
    · exact ih hl.2 j k hm o ho hw
theorem mem_laxPairs {j k : Nat} {oj ok : Oper} (hj : ops[j]? = some oj) (hk : ops[k]? = some ok) (h1 : cls E oj.op = .read) (h2 : cls E ok.op = .other) (h3 : ((ancD ops.toList []).getD (max j k) 0).testBit (min j k) = false) :
    (j, k) ∈ laxPairs E ops := by
  unfold laxPairs
  refine List.mem_flatMap.2 ⟨j, List.mem_range.2 (get_lt hj), ?_⟩
  rw [hj]
  simp only [h1]
  refine List.mem_filterMap.2 ⟨k, List.mem_range.2 (get_lt hk), ?_⟩
  rw [hk]
  simp only [h2, h3]
  rfl
end

section
variable {P : Program} {E : Env} (hE : EnvOk P E) {ok : OkC} {G N : Nat} {ck : CK} (C : CallSim P ok G ck) {ro : Option Nat} {Q : Exit → Act → World → Prop} {ops : Array Oper}
include hE C in
theorem region_sim (hm : P.follows .mixedOrders = true) {id : Nat} {draw : Bool} (hok : ops.toList.all (okO G N) = true) (hdr : draw = true → okDraw E ops = true) {fr : T Value} {h : H} {fr' : T Value} {h' : H}
    (hr : regD E ck ops ops.toList fr h = some (fr', h')) (hl : draw = true → laxD E ck ops fr h (laxPairs E ops) = true)
    {m : Inj} {a : Act} {w : World} (R : HRel ok G m h w) (hf : FRel m fr a.tmps) (hN : a.tmps.size = N)
    (hq : ∀ m' a' w', Evo m h w m' h'.clr w' → HRel ok G m' h'.clr w' → FRel m' fr' a'.tmps → a'.tmps.size = N → a'.defers = a.defers → Q .normal a' w') :
    (Code.region id ops draw).wpIn (FW ro) 0 P Q a w := by
  cases draw with
  | false =>
    refine wpIn_region ?_
    have := ops_sim hE C (ro := ro) (Q := Q) (ops := ops) ops.toList 0 (fun j o hj => by rw [Nat.zero_add, ← Array.getElem?_toList]; exact hj) hok hr R hf hN hq
    rwa [Array.length_toList, ← List.range_eq_range'] at this
  | true =>
    refine wpIn_region_any hm ?_
    have hS : ∀ i o, ops[i]? = some o → StepD E ck ops o (St E ck ops fr h i) (St E ck ops fr h (i + 1)) := fun i o ho => st_step hr ho
    have hz : St E ck ops fr h 0 = (fr, h) := st_zero
    have hend := st_end hr
    have R' : HRel ok G m h { w with drawn := w.drawn + 1 } := R.same rfl
    have hg0 : Grow (hh (St E ck ops fr h) 0) (hh (St E ck ops fr h) (segEnd E ops 0)) := grow_seg hS (Nat.zero_le _) (Nat.le_refl _) (Nat.le_refl _) (Nat.zero_le _)
    have hh0 : hh (St E ck ops fr h) 0 = h.clr := by show (St E ck ops fr h 0).2.clr = _; rw [hz]
    have hv : ∀ b i, m b = some i → (hh (St E ck ops fr h) (segEnd E ops 0)).get b = h.get b := fun b i hb => by
      rw [hg0.get b (by rw [hh0]; exact (R.dom b i hb).1), hh0]; rfl
    have hwf0 : ∀ b, (hh (St E ck ops fr h) 0).next ≤ b → (hh (St E ck ops fr h) 0).get b = none := by rw [hh0]; exact R.wf
    have hL : ∀ i, ¬ LL (Array.replicate ops.size false) i := by
      intro i hi
      unfold LL at hi
      simp only [Array.getD_eq_getD_getElem?, Array.getElem?_replicate] at hi
      split at hi <;> cases hi
    refine any_sim hE C hS (hdr rfl) hok (fun j k oj ok' hj hk h1 h2 h3 hw => laxD_spec hr (hl rfl) j k (mem_laxPairs hj hk h1 h2 h3) oj hj hw)
      (m0 := m) (h0 := h) (w0 := { w with drawn := w.drawn + 1 }) (a0 := a) ?_ ops.size _ a _ m 0 (by simp) ?_ (fun i hi => absurd hi (hL i)) ?_ ?_ rfl
    · intro m' a' w' e R1 hf' hN' hd
      have he : hh (St E ck ops fr h) ops.size = h'.clr := by show (St E ck ops fr h ops.size).2.clr = _; rw [hend]
      rw [he] at e R1
      rw [hend] at hf'
      exact hq m' a' w' ((Evo.same (m := m) (h := h) (w := w) (w' := { w with drawn := w.drawn + 1 }) rfl rfl rfl rfl).trans e) R1 hf' hN' hd
    · simp
    · refine ⟨Nat.zero_le _, fun k o _ _ => iff_of_false (hL k) (Nat.not_lt_zero _), .inl rfl, ?_, ?_, ?_, hwf0⟩
      · exact (Evo.refl m h _).view (fun _ _ _ => rfl) hv
      · exact R'.view hv (fun b i hb => Nat.lt_of_lt_of_le (R.dom b i hb).1 (by have := hg0.next; rw [hh0] at this; exact this)) (hg0.wf hwf0) (fun a ha => by cases ha)
      · intro k o hk hks _ _ _
        have hg := (grow_seg hS (i := 0) (i' := k) (p := 0) (Nat.zero_le _) (Nat.le_refl _) (Nat.le_of_lt hks) (Nat.zero_le _)).next
        rw [hh0] at hg
        have hg : h.next ≤ (hh (St E ck ops fr h) k).next := hg
        cases hm : m (hh (St E ck ops fr h) k).next with
        | none => rfl
        | some i => have := (R.dom _ i hm).1; omega
    · refine ⟨hN, fun i hi t v hv' hc => ?_⟩
      have h1 : (St E ck ops fr h (0 + i)).1.get t = (St E ck ops fr h 0).1.get t := still_get hS i (by omega) fun k q _ hk hq hdq => hL k ((hc k q hq hdq).2 (by omega))
      rw [Nat.zero_add, hz] at h1
      rw [h1] at hv'
      exact hf t v hv'
end
end Go.Dm
