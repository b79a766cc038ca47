/- The machine D, 13: its operations are followed by the model's: maps, a text's runes. -/
import Derived.Test.YtpanpicbikihkaaDoorDOpsI
set_option linter.unusedVariables false
set_option linter.unusedSimpArgs false
namespace Go.Dm

/-- What was found, and what the model finds. -/
def Fnd (m : Inj) : Option (Nat × MapEntry) → Option (Nat × Value) → Prop
  | none, none => True
  | some (j, e), some (j', v') => j' = j ∧ VRel m e.val v'
  | _, _ => False
theorem VRel.eq0 {m : Inj} {v v' : Value} (h : VRel m v v') (hp : plain0 v = true) : v' = v := by
  cases h with
  | plain => rfl
  | _ => simp [plain0] at hp
  
theorem VRel.eq1 {m : Inj} {v v' : Value} (h : VRel m v v') (hp : Dm.plain1 v = true) : v' = v := by
  cases v with
  | iface t u => obtain ⟨u', rfl, hu⟩ := h.ifacev; rw [hu.eq0 hp]
  | _ => exact h.eq0 hp
theorem LRel.eq1 {m : Inj} {l l' : List Value} (h : LRel m l l') (hp : l.all plain1 = true) : l' = l := by
  induction l generalizing l' with
  | nil => cases h; rfl
  | cons v l ih =>
    cases h with
    | cons h1 h2 =>
      simp only [List.all_cons, Bool.and_eq_true] at hp
      rw [h1.eq1 hp.1, ih h2 hp.2]
theorem VRel.eqV {m : Inj} {v v' : Value} (h : VRel m v v') (hp : Dm.plainV v = true) : v' = v := by
  cases v with
  | agg cs =>
    obtain ⟨cs', rfl, hc⟩ := h.aggv
    have := hc.eq1 hp
    obtain ⟨a⟩ := cs; obtain ⟨b⟩ := cs'
    simp at this; rw [this]
  | tuple cs =>
    obtain ⟨cs', rfl, hc⟩ := h.tuplev
    have := hc.eq1 hp
    obtain ⟨a⟩ := cs; obtain ⟨b⟩ := cs'
    simp at this; rw [this]
  | _ => exact h.eq1 hp

section
variable {P : Program} {E : Env} (hE : EnvOk P E) {w : World} {m : Inj} {ok : OkC} {G : Nat} {h : H}
include hE
theorem part_run {t : TypeId} {cs : Array Value} {off : Nat} {v : Value} (h : partD E t cs.toList off = some v) : (part t cs off).run P w = .ok v w := by
  unfold partD at h
  cases ha : aggN E t with
  | none => rw [ha] at h; cases h
  | some a =>
    rw [ha] at h
    cases a with
    | none =>
      simp only at h
      simp only [part, Sem.run_bind, run_isAgg_none hE ha, Result.andThen_ok, Bool.false_eq_true, if_false]
      simp at h
      simp [h]
    | some n =>
      simp only at h
      split at h
      · cases h
        have ⟨h1, h2⟩ := run_isAgg_some hE (w := w) ha
        simp only [part, Sem.run_bind, h1, Result.andThen_ok, if_true, h2, Sem.run_pure]
        congr 2
        apply Array.ext'
        simp [Array.toList_extract, List.extract]
      · cases h
theorem chk_fields {d : Nat} (e : Bool) (ih : ∀ {t : TypeId} {v : Value}, chkKeyD E d t v = true → (Instr.checkKey e d t v).run P w = .ok () w) {cs : Array Value} :
    ∀ (fs : List Field), chkFieldsD E (chkKeyD E d) cs.toList fs = true →
    (forIn (m := Sem) fs PUnit.unit fun (f : Field) (_ : PUnit) => if f.name ≠ "_" then do
        let a ← part f.type cs f.offset
        Instr.checkKey e d f.type a
        pure (ForInStep.yield PUnit.unit)
      else pure (ForInStep.yield PUnit.unit)).run P w = .ok PUnit.unit w := by
  intro fs
  induction fs with
  | nil => intro _; rfl
  | cons f fs ihf =>
    intro hc
    simp only [chkFieldsD, Bool.and_eq_true, Bool.or_eq_true, beq_iff_eq] at hc
    simp only [List.forIn_cons]
    by_cases hn : f.name = "_"
    · simp only [hn, ne_eq, not_true_eq_false, if_false, Sem.run_bind, Sem.run_pure, Result.andThen_ok]
      exact ihf hc.2
    · have h1 := hc.1.resolve_left hn
      split at h1
      · rename_i v hv
        simp only [hn, ne_eq, not_false_eq_true, if_true, Sem.run_bind, part_run hE hv, ih h1, Result.andThen_ok, Sem.run_pure]
        exact ihf hc.2
      · cases h1
theorem chk_run (e : Bool) : ∀ (d : Nat) {t : TypeId} {v : Value}, chkKeyD E d t v = true → (Instr.checkKey e d t v).run P w = .ok () w := by
  intro d
  induction d with
  | zero => intro t v h; cases h
  | succ d ih =>
    intro t v h
    simp only [chkKeyD] at h
    cases hu : E.und t with
    | none => rw [hu] at h; cases h
    | some x =>
      rw [hu] at h
      cases x with
      | «interface» ms => cases h
      | array n el => cases h
      | struct fs =>
        cases v with
        | agg cs =>
          simp only at h
          simp only [Instr.checkKey, Sem.run_bind, run_underlying hE hu, Result.andThen_ok]
          rw [← Array.forIn_toList]
          refine Eq.trans (congrArg (fun r => Result.andThen r _) (chk_fields hE e ih fs.toList h)) ?_
          rfl
        | _ => cases h
      | _ => simp [Instr.checkKey, run_underlying hE hu]

omit hE in
theorem same_bool {k q : Value} {b : Bool} {d : Nat} {t : TypeId} (hu : E.und t = some .bool) (h : eqD E (d + 1) t k q = some b) : Instr.sameNow .bool k q = some b := by
  simp only [eqD, hu] at h
  cases k with
  | bool a => cases q with
    | bool c => exact h
    | _ => cases h
  | _ => cases h
omit hE in
theorem same_int {kk : IntKind} {k q : Value} {b : Bool} {d : Nat} {t : TypeId} (hu : E.und t = some (.int kk)) (h : eqD E (d + 1) t k q = some b) : Instr.sameNow (.int kk) k q = some b := by
  simp only [eqD, hu] at h
  cases k with
  | int a n => cases q with
    | int c n' => exact h
    | _ => cases h
  | _ => cases h
omit hE in
theorem same_string {k q : Value} {b : Bool} {d : Nat} {t : TypeId} (hu : E.und t = some .string) (h : eqD E (d + 1) t k q = some b) : Instr.sameNow .string k q = some b := by
  simp only [eqD, hu] at h
  cases k with
  | string a => cases q with
    | string c => exact h
    | _ => cases h
  | _ => cases h
omit hE in
theorem findNow_of {d : TypeDesc} {t : TypeId} {k : Value} (hs : ∀ {q : Value} {b : Bool}, eqD E 10000 t k q = some b → Instr.sameNow d k q = some b) :
    ∀ {es es' : List MapEntry} {i : Nat}, MRel m es es' → 
      (∀ {r : Option (Nat × MapEntry)}, findD E t k es i = some r → ∃ r' : Option (Nat × Value), Instr.findNow d k es' i = some r' ∧
        Fnd m r r') := by
  intro es es' i hm
  induction hm generalizing i with
  | nil => intro r h; simp only [findD] at h; cases h; exact ⟨none, rfl, trivial⟩
  | cons he hkk ih =>
    rename_i e e' l l'
    intro r h
    simp only [findD] at h
    simp only [Instr.findNow, he.key]
    cases hq : eqD E 10000 t k e.key with
    | none => rw [hq] at h; cases h
    | some b =>
      rw [hq] at h
      rw [hs hq]
      cases b with
      | true => cases h; exact ⟨some (i, e'.val), rfl, rfl, he.val⟩
      | false => exact ih h
theorem findAsk_of {t : TypeId} {k : Value} (hk : plainV k = true) :
    ∀ {es es' : List MapEntry} {i : Nat}, MRel m es es' → 
      (∀ {r : Option (Nat × MapEntry)}, findD E t k es i = some r → ∃ r' : Option (Nat × Value), (Instr.findAsking t k es' i).run P w = .ok r' w ∧
        Fnd m r r') := by
  intro es es' i hm
  induction hm generalizing i with
  | nil => intro r h; simp only [findD] at h; cases h; exact ⟨none, rfl, trivial⟩
  | cons he hkk ih =>
    rename_i e e' l l'
    intro r h
    simp only [findD] at h
    cases hq : eqD E 10000 t k e.key with
    | none => rw [hq] at h; cases h
    | some b =>
      rw [hq] at h
      have hrun : (Op.equal t k e'.key).run P w = .ok b w := by
        rw [he.key]
        exact eq_sim hE 10000 (VRel.plainV (m := m) hk) (VRel.plainV (m := m) he.plain) hq
      simp only [Instr.findAsking, Sem.run_bind, hrun, Result.andThen_ok]
      cases b with
      | true => cases h; exact ⟨some (i, e'.val), rfl, rfl, he.val⟩
      | false => exact ih h
theorem find_sim {t : TypeId} {k : Value} (hk : plainV k = true) {es es' : List MapEntry} (hm : MRel m es es') {d : TypeDesc} (hu : E.und t = some d) {r : Option (Nat × MapEntry)} (h : findD E t k es 0 = some r) :
    ∃ r' : Option (Nat × Value), (Instr.findKey t k es').run P w = .ok r' w ∧ Fnd m r r' := by
  have fast : ∀ (hs : ∀ {q : Value} {b : Bool}, eqD E 10000 t k q = some b → Instr.sameNow d k q = some b), ∃ r' : Option (Nat × Value), (Instr.findKey t k es').run P w = .ok r' w ∧ Fnd m r r' := by
    intro hs
    obtain ⟨r', h1, h2⟩ := findNow_of hs hm h
    exact ⟨r', by simp [Instr.findKey, run_underlying hE hu, h1], h2⟩
  have slow : (∀ (q : Value), Instr.sameNow d k q = none) → ∃ r' : Option (Nat × Value), (Instr.findKey t k es').run P w = .ok r' w ∧ Fnd m r r' := by
    intro hs
    cases hm with
    | nil =>
      simp only [findD] at h
      cases h
      exact ⟨none, by simp [Instr.findKey, run_underlying hE hu, Instr.findNow], trivial⟩
    | cons he hk' =>
      rename_i e e' l l'
      obtain ⟨r', h1, h2⟩ := findAsk_of hE (w := w) hk (.cons he hk') h
      refine ⟨r', ?_, h2⟩
      simp only [Instr.findKey, Sem.run_bind, run_underlying hE hu, Result.andThen_ok, Instr.findNow, hs]
      exact h1
  cases d with
  | bool => exact fast (same_bool (d := 9999) hu)
  | int kk => exact fast (same_int (d := 9999) hu)
  | string => exact fast (same_string (d := 9999) hu)
  | _ => exact slow fun q => by cases k <;> cases q <;> rfl
omit hE in
theorem chk_und {d : Nat} {t : TypeId} {v : Value} (h : chkKeyD E (d + 1) t v = true) : ∃ x, E.und t = some x := by
  simp only [chkKeyD] at h
  cases hq : E.und t with
  | none => rw [hq] at h; cases h
  | some x => exact ⟨x, rfl⟩
theorem lookup_sim (R : HRel ok G m h w) {t : TypeId} {x x' k k' v : Value} {c : Bool} (hx : VRel m x x') (hk : VRel m k k') (hl : lookupD E t x k c h = some v) :
    ∃ v', (Instr.lookup t x' k' c).run P w = .ok v' w ∧ VRel m v v' := by
  unfold lookupD at hl
  split at hl
  · rename_i kt et hu
    have key : ∀ (es : List MapEntry) (es' : Array MapEntry), MRel m es es'.toList → 
        (if (chkKeyD E 10000 kt k && plainV k) = true then match findD E kt k es 0, zeroD E et with
        | some (some (_, e)), _ => some (if c then .tuple #[e.val, .bool true] else e.val)
        | some none, some z => some (if c then .tuple #[z, .bool false] else z)
        | _, _ => none
      else none) = some v →
        ∃ v', (do
          Instr.checkKey es'.isEmpty 10000 kt k'
          let (v, ok) ← match ← Instr.findKey kt k' es'.toList with
            | some (_, v) => pure (v, true)
            | none => pure (← zeroValue et, false)
          pure (if c then .tuple #[v, .bool ok] else v) : Sem Value).run P w = .ok v' w ∧ VRel m v v' := by
      intro es es' hm hd
      split at hd
      · rename_i hc
        simp only [Bool.and_eq_true] at hc
        have hkk : k' = k := hk.eqV hc.2
        subst hkk
        have hchk := fun e => chk_run hE (w := w) e 10000 hc.1
        have hdu : ∃ d, E.und kt = some d := chk_und (d := 9999) hc.1
        obtain ⟨d, hd0⟩ := hdu
        split at hd
        · rename_i i e hf
          cases hd
          obtain ⟨r', h1, h2⟩ := find_sim hE (w := w) hc.2 hm hd0 hf
          cases r' with
          | none => exact h2.elim
          | some r' =>
            obtain ⟨j', v'⟩ := r'
            obtain ⟨_, hv⟩ := h2
            refine ⟨if c then .tuple #[v', .bool true] else v', ?_, ?_⟩
            · simp only [Sem.run_bind, Result.andThen_ok, hchk, h1, Sem.run_pure]
            · split
              · exact .tuple (.cons hv (.cons (.plain rfl) .nil))
              · exact hv
        · rename_i z hf hz
          cases hd
          obtain ⟨r', h1, h2⟩ := find_sim hE (w := w) hc.2 hm hd0 hf
          cases r' with
          | some r' => exact h2.elim
          | none =>
            refine ⟨if c then .tuple #[z, .bool false] else z, ?_, ?_⟩
            · simp only [Sem.run_bind, Result.andThen_ok, hchk, h1, Sem.run_pure, run_zero hE hz]
            · have hz' := VRel.plainV (m := m) (zero_plain hz)
              split
              · exact .tuple (.cons hz' (.cons (.plain rfl) .nil))
              · exact hz'
        · cases hd
      · cases hd
    cases x with
    | map b =>
      cases b with
      | none =>
        obtain rfl := hx.nilm
        simp only at hl
        obtain ⟨v', h1, h2⟩ := key [] #[] .nil hl
        refine ⟨v', ?_, h2⟩
        simp only [Instr.lookup, Sem.run_bind, run_underlying hE hu, Result.andThen_ok, Sem.run_pure] at h1 ⊢
        exact h1
      | some b =>
        obtain ⟨i, hi, rfl⟩ := hx.mapv
        simp only at hl
        cases hb : h.get b with
        | none => rw [hb] at hl; cases hl
        | some o =>
          rw [hb] at hl
          cases o with
          | map es clock =>
            simp only at hl
            obtain ⟨es', k1, k2⟩ := R.obj b _ i hb hi
            have hg : (getObj i.blk).run P w = .ok (.map es' clock) w := by simp [getObj, Sem.run, k1]
            obtain ⟨v', h1, h2⟩ := key es es' k2 hl
            refine ⟨v', ?_, h2⟩
            simp only [Instr.lookup, Sem.run_bind, run_underlying hE hu, Result.andThen_ok, hg, Sem.run_pure] at h1 ⊢
            exact h1
          | _ => cases hl
    | _ => cases hl
  · cases hl
end
end Go.Dm
