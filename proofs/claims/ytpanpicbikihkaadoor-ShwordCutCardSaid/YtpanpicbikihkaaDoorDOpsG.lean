/- The machine D, 10: its operations are followed by the model's: texts and bytes, len, append, copy. -/
import Derived.Test.YtpanpicbikihkaaDoorDOpsF
set_option linter.unusedVariables false
set_option linter.unusedSimpArgs false
namespace Go.Dm

section
variable {P : Program} {E : Env} (hE : EnvOk P E) {w : World} {m : Inj}
theorem un_sim {op : UnOp} {x x' v : Value} (hx : VRel m x x') (h : unD op x = some v) : (Op.unary op x').run P w = .ok v w ∧ plain0 v = true := by
  unfold unD at h
  split at h
  · obtain rfl := hx.int; cases h; exact ⟨rfl, rfl⟩
  · obtain rfl := hx.int; exact bits_run h
  · obtain rfl := hx.bool; cases h; exact ⟨rfl, rfl⟩
  · cases h
theorem min_sim {a a' b b' v : Value} (ha : VRel m a a') (hb : VRel m b b') (h : minD a b = some v) : (Builtin.min2 a' b').run P w = .ok v w ∧ plain0 v = true := by
  unfold minD at h
  split at h
  · obtain rfl := ha.int; obtain rfl := hb.int
    split at h
    · rename_i hk; cases h; exact ⟨by simp [Builtin.min2], rfl⟩
    · cases h
  · cases h
theorem max_sim {a a' b b' v : Value} (ha : VRel m a a') (hb : VRel m b b') (h : maxD a b = some v) : (Builtin.max2 a' b').run P w = .ok v w ∧ plain0 v = true := by
  unfold maxD at h
  split at h
  · obtain rfl := ha.int; obtain rfl := hb.int
    split at h
    · rename_i hk; cases h; exact ⟨by simp [Builtin.max2], rfl⟩
    · cases h
  · cases h

theorem modify_last {α : Type} (a : Array α) (x : α) (f : α → α) : (a.push x).modify a.size f = a.push (f x) := by
  apply Array.ext
  · simp
  · intro j h1 h2
    simp only [Array.getElem_modify, Array.getElem_push]
    by_cases e : a.size = j
    · subst e; simp
    · rw [if_neg e]
      have : j < a.size := by simp at h2; omega
      simp [this]
theorem bytes_loop : ∀ (vs : List Value) (l : List UInt8) (s : ByteArray), bytesD vs = some l →
    (forIn (m := Sem) vs s fun (c : Value) (r : ByteArray) =>
        match c with
        | .int .u8 n => do pure (ForInStep.yield (r.push (UInt8.ofNat n.toNat)))
        | _ => do
          stuck (α := Unit) "bytesToString: byte expected"
          pure (ForInStep.yield r)).run P w = .ok ⟨s.data ++ l.toArray⟩ w := by
  intro vs
  induction vs with
  | nil => intro l s h; simp only [bytesD] at h; cases h; simp
  | cons v vs ih =>
    intro l s h
    unfold bytesD at h
    split at h
    · rename_i h1; cases h1
    · rename_i n vs' h1
      cases h1
      cases hb : bytesD vs with
      | none => rw [hb] at h; cases h
      | some l' =>
        rw [hb] at h
        cases h
        simp only [List.forIn_cons, Sem.run_bind, Sem.run_pure, Result.andThen_ok]
        rw [ih l' _ hb]
        congr 1
        show (⟨(s.data.push _) ++ l'.toArray⟩ : ByteArray) = _
        congr 1
        simp
    · cases h
theorem LRel.bytes {l l' : List Value} (h : LRel m l l') : ∀ {bs : List UInt8}, bytesD l = some bs → l' = l := by
  induction l generalizing l' with
  | nil => intro bs _; cases h; rfl
  | cons v l ih =>
    intro bs hb
    cases h with
    | cons h1 h2 =>
      unfold bytesD at hb
      split at hb
      · rename_i q; cases q
      · rename_i n vs q
        cases q
        cases hb2 : bytesD l with
        | none => rw [hb2] at hb; cases hb
        | some l' => rw [ih h2 hb2, h1.int]
      · cases hb
include hE in
theorem conv_sim {ok : OkC} {G : Nat} {h : H} (R : HRel ok G m h w) {s d : TypeId} {x x' v : Value} {h' : H} (hx : VRel m x x') (hc : convD E s d x h = some (v, h')) :
    ∃ v' w', (convert s d x').run P w = .ok v' w' ∧ Step ok G m h w v h' v' w' := by
  unfold convD at hc
  split at hc
  · rename_i sd k kk n hs hd
    obtain rfl := hx.int
    cases hc
    refine ⟨_, w, ?_, Step.same R (.plain rfl)⟩
    simp only [convert, Sem.run_bind, run_underlying hE hs, run_underlying hE hd, Result.andThen_ok]
    cases sd <;> rfl
  · rename_i sd kk n hs hd
    obtain rfl := hx.int
    cases hc
    refine ⟨_, w, ?_, Step.same R (.plain rfl)⟩
    simp only [convert, Sem.run_bind, run_underlying hE hs, run_underlying hE hd, Result.andThen_ok]
    cases sd <;> rfl
  · rename_i sd q hs hd
    obtain rfl := hx.string
    cases hc
    refine ⟨_, w, ?_, Step.same R (.plain rfl)⟩
    simp only [convert, Sem.run_bind, run_underlying hE hs, run_underlying hE hd, Result.andThen_ok]
    cases sd <;> rfl
  · rename_i sd e q hs hd
    obtain rfl := hx.string
    split at hc
    · rename_i he
      split at hc
      · rename_i hsz
        cases hc
        have hL : LRel m (q.data.toList.map fun (b : UInt8) => Value.int .u8 b.toNat) (q.data.toList.map fun (b : UInt8) => Value.int .u8 b.toNat) :=
          LRel.plain (List.all_eq_true.2 fun v hv => by obtain ⟨b, _, rfl⟩ := List.mem_map.1 hv; rfl)
        have hcap : ∃ cap, (Question.appendCap q.size 0 e).cut (w.tape w.drawn (.appendCap q.size 0 e)) = cap ∧ q.size ≤ cap := ⟨_, rfl, by simp [Question.cut]⟩
        obtain ⟨cap, hcap1, hcap2⟩ := hcap
        obtain ⟨bs, hbs⟩ : ∃ bs : Array Value, bs = q.data.map (fun (b : UInt8) => Value.int .u8 b.toNat) ++ Array.replicate (cap - q.size) (Value.int .u8 0) := ⟨_, rfl⟩
        have hsize : bs.size = cap := by
          rw [hbs]; simp; have : q.data.size = q.size := rfl; omega
        let w' : World := { (w.drew) with heap := w.heap.push (.cells bs e (cap, cap + 1)) }
        obtain ⟨e1, e2⟩ := new_simW R hL 1 (cs2 := bs) (n2 := cap) hsize (fun j hj => by
            simp at hj
            rw [hbs, Array.getElem?_append_left (by simpa using hj)]
            simp) (by simp; exact hcap2) (e := e) (lo := cap) (hi := cap + 1) 0 (ty := none) (fun _ h => by cases h) (w' := w') rfl rfl rfl rfl (.inr (.inr (Nat.le_refl _)))
        refine ⟨.slice (some ⟨w.heap.size, 0, none⟩) q.size cap, w', ?_, _, e1, e2, ?_⟩
        · have hfr : (Question.appendCap q.size 0 e).forced = false := rfl
          have hbody : (Conv.stringToBytes e q).run P w = .ok (.slice (some ⟨w.heap.size, 0, none⟩) q.size cap) w' := by
            simp only [Conv.stringToBytes, Sem.run_bind, run_choose, hfr, Bool.false_eq_true, if_false, hcap1, Result.andThen_ok, newRow, run_newObj, Sem.run_pure, ← hbs]
            simp only [markStringish, Sem.run_bind, run_shape, World.shape?, Array.getElem?_push_size, Result.andThen_ok, run_freeze, hsize]
            simp only [World.freeze, Sem.run_pure, Result.andThen_ok]
            congr 1
            simp only [w', World.drew]
            rw [if_neg (by decide), modify_last]
            simp
          simp only [convert, Sem.run_bind, run_underlying hE hs, run_underlying hE hd, Result.andThen_ok]
          cases sd <;> simp only [Sem.run_bind, run_underlying hE he, Result.andThen_ok] <;> exact hbody
        · exact .slice (Inj.add_self _ _ _) (Nat.le_refl _) hcap2 (.inr ⟨by simp, by simp⟩)
      · cases hc
    · cases hc
  · rename_i e hs hd
    obtain ⟨rfl, _⟩ := hx.nils
    split at hc
    · rename_i he
      cases hc
      refine ⟨_, w, ?_, Step.same R (.plain rfl)⟩
      simp [convert, run_underlying hE hs, run_underlying hE hd, run_underlying hE he, Conv.bytesToString]
    · cases hc
  · rename_i e b o len cap hs hd
    obtain ⟨a', c', rfl, h1, h2, h3⟩ := hx.slicev
    split at hc
    · rename_i he
      have hrun : ∀ (vs : List Value) (l : List UInt8), bytesD vs = some l → (loadCells a' len).run P w = .ok vs.toArray w →
          (convert s d (.slice (some a') len c')).run P w = .ok (.string ⟨l.toArray⟩) w := by
        intro vs l hb hl
        simp only [convert, Sem.run_bind, run_underlying hE hs, run_underlying hE hd, run_underlying hE he, Result.andThen_ok, Conv.bytesToString, hl]
        rw [← Array.forIn_toList]
        have := bytes_loop (P := P) (w := w) vs l .empty hb
        rw [show (vs.toArray).toList = vs from rfl]
        refine Eq.trans (congrArg (fun r => Result.andThen r _) this) ?_
        simp
      split at hc
      · rename_i h0
        cases hc
        subst h0
        refine ⟨_, w, hrun [] [] rfl rfl, Step.same R (.plain rfl)⟩
      · rename_i h0
        split at hc
        · rename_i vs hr
          cases hb : bytesD vs with
          | none => rw [hb] at hc; cases hc
          | some l =>
            rw [hb] at hc
            cases hc
            unfold readD at hr
            split at hr
            · rename_i c st own fz ty hg
              split at hr
              · rename_i hle
                cases hr
                rcases h3 with ⟨q1, _, _⟩ | ⟨i, hi, _, rfl, _⟩
                · omega
                · obtain ⟨vs', k1, k2, k3, _⟩ := cells_sim (P := P) R hi hg hle
                  have := k1.bytes hb
                  subst this
                  exact ⟨_, w, hrun _ l hb k3, Step.same R (.plain rfl)⟩
              · cases hr
            · cases hr
        · cases hc
    · cases hc
  · cases hc

/-! ### len, append, copy -/
include hE in
theorem len_sim {ok : OkC} {G : Nat} {h : H} (R : HRel ok G m h w) {t : TypeId} {ts : Array TypeId} {r : TypeId} {x x' v : Value} (hx : VRel m x x') (ht : ts.toList = [t]) (hl : lenD E t x h = some v) :
    (Builtin.len_ ts r #[x']).run P w = .ok v w ∧ plain0 v = true := by
  have ht0 : ts[0]? = some t := by rw [← Array.getElem?_toList, ht]; rfl
  unfold lenD at hl
  split at hl
  · rename_i s hu
    obtain rfl := hx.string
    cases hl
    exact ⟨by simp [Builtin.len_, ht0, run_underlying hE hu, goInt, intV], rfl⟩
  · rename_i n el hu
    cases hl
    exact ⟨by simp [Builtin.len_, ht0, run_underlying hE hu, goInt, intV], rfl⟩
  · rename_i el a n c hu
    cases hl
    cases a with
    | none =>
      obtain ⟨rfl, rfl, _⟩ := hx.nils
      exact ⟨by simp [Builtin.len_, ht0, run_underlying hE hu, goInt, intV], rfl⟩
    | some a =>
      obtain ⟨a', c', rfl, _⟩ := hx.slicev
      exact ⟨by simp [Builtin.len_, ht0, run_underlying hE hu, goInt, intV], rfl⟩
  · rename_i k el hu
    obtain rfl := hx.nilm
    cases hl
    exact ⟨by simp [Builtin.len_, ht0, run_underlying hE hu, goInt, intV], rfl⟩
  · rename_i k el b hu
    obtain ⟨i, hi, rfl⟩ := hx.mapv
    split at hl
    · rename_i es cl hb
      cases hl
      obtain ⟨es', h1, h2⟩ := R.obj b _ i hb hi
      have hlen : es'.size = es.length := by
        have : ∀ {l l' : List MapEntry}, MRel m l l' → l'.length = l.length := by
          intro l l' h
          induction h with
          | nil => rfl
          | cons _ _ ih => simp [ih]
        simpa using this h2
      exact ⟨by simp [Builtin.len_, ht0, run_underlying hE hu, goInt, intV, getObj, Sem.run, h1, hlen], rfl⟩
    · cases hl
  · cases hl
end
end Go.Dm
