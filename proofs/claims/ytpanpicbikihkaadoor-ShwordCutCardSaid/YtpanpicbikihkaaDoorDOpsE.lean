/- The machine D, 8: its operations are followed by the model's: comparisons, arithmetic, conversions. -/
import Derived.Test.YtpanpicbikihkaaDoorDOpsD
import Derived.Laws.StructEq
set_option linter.unusedVariables false
set_option linter.unusedSimpArgs false
namespace Go.Dm

section
variable {P : Program} {E : Env} (hE : EnvOk P E) {w : World} {m : Inj}
include hE
theorem eqFields_sim {d : Nat} (ih : ∀ {t : TypeId} {x y x' y' : Value} {b : Bool}, VRel m x x' → VRel m y y' → eqD E d t x y = some b → (Op.equalIn d t x' y').run P w = .ok b w)
    {xs ys : List Value} {xs' ys' : Array Value} (hx : LRel m xs xs'.toList) (hy : LRel m ys ys'.toList) :
    ∀ {fs : List Field} {b : Bool}, eqFieldsD E (eqD E d) xs ys fs = some b → (Op.eqFields d xs' ys' fs).run P w = .ok b w := by
  intro fs
  induction fs with
  | nil => intro b h; simp only [eqFieldsD] at h; cases h; rfl
  | cons f fs ihf =>
    intro b h
    simp only [eqFieldsD] at h
    simp only [Op.eqFields]
    by_cases hn : f.name = "_"
    · rw [if_pos hn] at h
      rw [if_neg (by simp [hn])]
      exact ihf h
    · rw [if_neg hn] at h
      rw [if_pos (by simp [hn])]
      split at h
      · rename_i u v hu hv
        obtain ⟨u', hu1, hu2⟩ := part_sim hE (w := w) (cs := xs.toArray) (by simpa using hx) (by simpa using hu)
        obtain ⟨v', hv1, hv2⟩ := part_sim hE (w := w) (cs := ys.toArray) (by simpa using hy) (by simpa using hv)
        simp only [Sem.run_bind, hu1, hv1, Result.andThen_ok]
        cases he : eqD E d f.type u v with
        | none => rw [he] at h; cases h
        | some r =>
          rw [he] at h
          rw [ih hu2 hv2 he]
          simp only [Result.andThen_ok]
          cases r with
          | true => exact ihf h
          | false => cases h; rfl
      · cases h
/-- The loop over an array's elements, as the model has it. -/
def eqElems (d : Nat) (elem : TypeId) (n : Nat) (xs ys : Array Value) : List Nat → Sem Bool
  | [] => pure true
  | i :: is => do
    let a ← part elem xs (i * n)
    let b ← part elem ys (i * n)
    let r ← Op.equalIn d elem a b
    if (!r) = true then pure false else eqElems d elem n xs ys is
theorem run_equalIn_array (d : Nat) (t elem : TypeId) (len n : Nat) (xs ys : Array Value) (ht : E.und t = some (.array len elem)) (hn : E.siz elem = some n) :
    (Op.equalIn (d + 1) t (.agg xs) (.agg ys)).run P w = (eqElems d elem n xs ys (List.range' 0 len)).run P w := by
  simp only [Op.equalIn, Sem.run_bind, run_underlying hE ht, Result.andThen_ok, run_siz hE hn]
  rw [Std.Legacy.Range.forIn_eq_forIn_range']
  simp only [Std.Legacy.Range.size, Nat.sub_zero, Nat.add_sub_cancel, Nat.div_one]
  generalize List.range' 0 len = is
  clear ht
  induction is generalizing w with
  | nil => simp [eqElems]
  | cons i is ih =>
    simp only [List.forIn_cons, eqElems, Sem.run_bind]
    generalize (part elem xs (i * n)).run P w = r1
    cases r1 with
    | ok a w1 =>
      simp only [Result.andThen_ok]
      generalize (part elem ys (i * n)).run P w1 = r2
      cases r2 with
      | ok b w2 =>
        simp only [Result.andThen_ok]
        generalize (Op.equalIn d elem a b).run P w2 = r3
        cases r3 with
        | ok r w3 =>
          cases r with
          | false => simp
          | true => simpa using ih
        | halt h w3 => rfl
      | halt h w2 => rfl
    | halt h w1 => rfl
theorem eqElems_sim {d : Nat} (ih : ∀ {t : TypeId} {x y x' y' : Value} {b : Bool}, VRel m x x' → VRel m y y' → eqD E d t x y = some b → (Op.equalIn d t x' y').run P w = .ok b w)
    {elem : TypeId} {n : Nat} {xs ys : List Value} {xs' ys' : Array Value} (hx : LRel m xs xs'.toList) (hy : LRel m ys ys'.toList) :
    ∀ {k i : Nat} {b : Bool}, eqElemsD E (eqD E d) elem n xs ys i k = some b → (eqElems d elem n xs' ys' (List.range' i k)).run P w = .ok b w := by
  intro k
  induction k with
  | zero => intro i b h; simp only [eqElemsD] at h; cases h; rfl
  | succ k ihk =>
    intro i b h
    simp only [eqElemsD] at h
    simp only [List.range'_succ, eqElems]
    split at h
    · rename_i u v hu hv
      obtain ⟨u', hu1, hu2⟩ := part_sim hE (w := w) (cs := xs.toArray) (by simpa using hx) (by simpa using hu)
      obtain ⟨v', hv1, hv2⟩ := part_sim hE (w := w) (cs := ys.toArray) (by simpa using hy) (by simpa using hv)
      simp only [Sem.run_bind, hu1, hv1, Result.andThen_ok]
      cases he : eqD E d elem u v with
      | none => rw [he] at h; cases h
      | some r =>
        rw [he] at h
        rw [ih hu2 hv2 he]
        simp only [Result.andThen_ok]
        cases r with
        | true => exact ihk h
        | false => cases h; rfl
    · cases h
theorem eq_sim : ∀ (d : Nat) {t : TypeId} {x y x' y' : Value} {b : Bool}, VRel m x x' → VRel m y y' → eqD E d t x y = some b → (Op.equalIn d t x' y').run P w = .ok b w := by
  intro d
  induction d with
  | zero => intro t x y x' y' b _ _ h; simp [eqD] at h
  | succ d ih =>
    intro t x y x' y' b hx hy h
    simp only [eqD] at h
    split at h
    · rename_i p q hu
      obtain rfl := hx.bool; obtain rfl := hy.bool
      cases h; simp [Op.equalIn, run_underlying hE hu]
    · rename_i p k q k' q' hu
      obtain rfl := hx.int; obtain rfl := hy.int
      split at h
      · rename_i hk; cases h; simp [Op.equalIn, run_underlying hE hu, hk]
      · cases h
    · rename_i p q hu
      obtain rfl := hx.string; obtain rfl := hy.string
      cases h; simp [Op.equalIn, run_underlying hE hu]
    · rename_i hu
      obtain rfl := hx.nilp; obtain rfl := hy.nilp
      cases h; simp [Op.equalIn, run_underlying hE hu]
    · rename_i hu
      obtain rfl := hx.nilp; obtain ⟨i, _, _, rfl⟩ := hy.pointer
      cases h; simp [Op.equalIn, run_underlying hE hu]
    · rename_i hu
      obtain rfl := hy.nilp; obtain ⟨i, _, _, rfl⟩ := hx.pointer
      cases h; simp [Op.equalIn, run_underlying hE hu]
    · rename_i hu
      obtain ⟨rfl, _⟩ := hx.nils; obtain ⟨rfl, _⟩ := hy.nils
      cases h; simp [Op.equalIn, run_underlying hE hu]
    · rename_i hu
      obtain ⟨rfl, _⟩ := hx.nils; obtain ⟨a', c', rfl, _⟩ := hy.slicev
      cases h; simp [Op.equalIn, run_underlying hE hu]
    · rename_i hu
      obtain ⟨rfl, _⟩ := hy.nils; obtain ⟨a', c', rfl, _⟩ := hx.slicev
      cases h; simp [Op.equalIn, run_underlying hE hu]
    · rename_i hu
      obtain rfl := hx.nilm; obtain rfl := hy.nilm
      cases h; simp [Op.equalIn, run_underlying hE hu]
    · rename_i hu
      obtain rfl := hx.nilm; obtain ⟨i, _, rfl⟩ := hy.mapv
      cases h; simp [Op.equalIn, run_underlying hE hu]
    · rename_i hu
      obtain rfl := hy.nilm; obtain ⟨i, _, rfl⟩ := hx.mapv
      cases h; simp [Op.equalIn, run_underlying hE hu]
    · rename_i hu
      obtain rfl := hx.nili; obtain ⟨u, rfl, _⟩ := hy.ifacev
      cases h; simp [Op.equalIn, run_underlying hE hu]
    · rename_i hu
      obtain rfl := hy.nili; obtain ⟨u, rfl, _⟩ := hx.ifacev
      cases h; simp [Op.equalIn, run_underlying hE hu]
    · rename_i hu
      obtain rfl := hx.nilf; obtain rfl := hy.nilf
      cases h; simp [Op.equalIn, run_underlying hE hu]
    · rename_i hu
      obtain rfl := hx.nilf
      cases h
      cases hy with
      | plain hp => simp [plain0] at hp
      | func => simp [Op.equalIn, run_underlying hE hu]
      | yld => simp [Op.equalIn, run_underlying hE hu]
    · rename_i hu
      obtain rfl := hy.nilf
      cases h
      cases hx with
      | plain hp => simp [plain0] at hp
      | func => simp [Op.equalIn, run_underlying hE hu]
      | yld => simp [Op.equalIn, run_underlying hE hu]
    · rename_i fields xs ys hu
      obtain ⟨xs', rfl, hxs⟩ := hx.aggv; obtain ⟨ys', rfl, hys⟩ := hy.aggv
      split at h
      · rename_i ho
        have hp : P.underlying t = some (.struct fields) := by rw [← und_eq hE]; exact hu
        have hf : P.fieldsOf t = fields := by simp [Program.fieldsOf, hp]
        rw [run_equalIn_struct w d t xs' ys' (by rw [hf]; exact hp) (hE.eqo t ho).1, hf]
        exact eqFields_sim hE ih hxs hys h
      · cases h
    · rename_i len elem xs ys hu
      obtain ⟨xs', rfl, hxs⟩ := hx.aggv; obtain ⟨ys', rfl, hys⟩ := hy.aggv
      split at h
      · rename_i n hn
        split at h
        · rename_i ho
          rw [run_equalIn_array hE d t elem len n xs' ys' hu hn]
          exact eqElems_sim hE ih hxs hys h
        · cases h
      · cases h
    · cases h
end
end Go.Dm
