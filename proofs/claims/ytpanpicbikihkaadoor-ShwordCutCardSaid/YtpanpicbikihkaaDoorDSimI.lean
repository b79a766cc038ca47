/- The machine D, 23: scopes; what holds on the way through code. -/
import Derived.Test.YtpanpicbikihkaaDoorDSimH
import Derived.Scope
import Derived.RangeFuncLeaves
set_option linter.unusedVariables false
set_option linter.unusedSimpArgs false
namespace Go.Dm

/-! ### Scopes, fenced -/
section
variable {F : Fence} {n : Nat} {P : Program} {b : Frame} {a : Act} {k : List Item} {cs : List Frame} {w : World} {Q : Exit → Act → World → Prop}
theorem stepR_scope {c : Code} : step P (lone (b.atR a (.code (.scope c) :: k)) cs w) = .next (lone (b.atR a (.code c :: .inScope c :: k)) cs w) :=
  step_lone_go (by simp [stepG, stepG.exec, Frame.atR])
theorem stepR_inScope {c : Code} : step P (lone (b.atR a (.inScope c :: k)) cs w) = .next (lone (b.atR a k) cs w) :=
  step_lone_go (by simp [stepG, stepG.exec, Frame.atR])
/-- Code x runs within scope c. -/
def InSc (F : Fence) (n : Nat) (P : Program) (c x : Code) (Q : Exit → Act → World → Prop) (a : Act) (w : World) : Prop :=
  ∀ (b : Frame) (k : List Item) (cs : List Frame), b.roundOf = F.round → F.fn b.fn → F.room (cs.length + 1 + n) →
    ∃ e a' w', Q e a' w' ∧ ArrivesIn (Machine.fenced P F) P (lone (b.atR a (.code x :: .inScope c :: k)) cs w) b k cs e a' w'
/-- How code within a scope may be left. -/
def scPost (F : Fence) (n : Nat) (P : Program) (c : Code) (Q : Exit → Act → World → Prop) : Exit → Act → World → Prop
  | .goto l, a, w => (findLabel c l = none ∧ Q (.goto l) a w) ∨ ∃ rest, findLabel c l = some rest ∧ InSc F n P c rest Q a w
  | e, a, w => Q e a w
theorem inSc_pass {c x : Code} (h : x.wpIn F n P (scPost F n P c Q) a w) : InSc F n P c x Q a w := by
  intro b k cs hro hb hr
  obtain ⟨e, a₁, w₁, hq, harr⟩ := h b (.inScope c :: k) cs hro hb hr
  cases e with
  | normal => exact ⟨.normal, a₁, w₁, hq, StepsIn.trans harr (.one (fenced_calm hb hr rfl) stepR_inScope)⟩
  | exit id =>
    have hx : exitTo id (.inScope c :: k) = exitTo id k := by simp [exitTo]
    exact ⟨.exit id, a₁, w₁, hq, fun k' hk => harr.1 k' (by rw [hx]; exact hk), fun hr' hk => harr.2 hr' (by rw [hx]; exact hk)⟩
  | goto l =>
    rcases hq with ⟨hf, hq⟩ | ⟨rest, hf, hin⟩
    · have hx : gotoIn l (.inScope c :: k) = gotoIn l k := by simp [gotoIn, hf]
      exact ⟨.goto l, a₁, w₁, hq, fun k' hk => harr.1 k' (by rw [hx]; exact hk), fun hr' hk => harr.2 hr' (by rw [hx]; exact hk)⟩
    · have hx : gotoIn l (.inScope c :: k) = some (.code rest :: .inScope c :: k) := by simp [gotoIn, hf]
      obtain ⟨e₂, a₂, w₂, hq₂, harr₂⟩ := hin b k cs hro hb hr
      exact ⟨e₂, a₂, w₂, hq₂, .of_steps (harr.1 _ hx) harr₂⟩
  | ret => exact ⟨_, a₁, w₁, hq, harr⟩
  | panic ch => exact ⟨_, a₁, w₁, hq, harr⟩
  | outgrown => exact ⟨_, a₁, w₁, hq, harr⟩
theorem wpIn_scope {c : Code} (h : InSc F n P c c Q a w) : (Code.scope c).wpIn F n P Q a w := by
  intro b k cs hro hb hr
  obtain ⟨e, a₁, w₁, hq, harr⟩ := h b k cs hro hb hr
  exact ⟨e, a₁, w₁, hq, .of_steps (.one (fenced_calm hb hr rfl) stepR_scope) harr⟩
end
theorem hasLabel_iff : ∀ (c : Code) (l : Nat), hasLabel c l = (findLabel c l).isSome
  | .seq a b, l => by
    simp only [hasLabel, findLabel, hasLabel_iff a l, hasLabel_iff b l]
    cases findLabel a l <;> rfl
  | .label l', l => by
    simp only [hasLabel, findLabel]
    cases l' == l <;> rfl
  | .skip, _ | .region _ _ _, _ | .cond _ _ _, _ | .block _ _, _ | .loop _, _ | .rangeFunc _ _ _ _, _ | .exit _, _ | .scope _, _ | .goto _, _ | .ret, _ | .refuse _, _ => rfl

/-! ### Marks of rounds' deferred calls -/
def mkD (rs : List Nat) : List Deferred := rs.map fun r => { target := .collected r, args := #[] }
structure MK (base : Nat) (w : World) (rs : List Nat) : Prop where
  nodup : rs.Nodup
  at_ : ∀ r, r ∈ rs → base ≤ r ∧ w.heap[r]? = some (.deferred (some []))
theorem not_own {ok : OkC} {G : Nat} {m : Inj} {h : H} {w : World} (R : HRel ok G m h w) {r : Nat} {d : Option (List Deferred)} (hr : w.heap[r]? = some (.deferred d)) : ¬ Own m h r := by
  rintro ⟨b, o, i, hb, _, hi, rfl⟩
  have := R.obj b o i hb hi
  cases o with
  | cells c s own fz ty => obtain ⟨_, c', e, lo, hi', h1, _⟩ := this; rw [hr] at h1; cases h1
  | map es cl => obtain ⟨es', h1, _⟩ := this; rw [hr] at h1; cases h1
  | siter s p => have h2 := this.2; rw [hr] at h2; cases h2
  | loop l => obtain ⟨l', h1, _⟩ := this; rw [hr] at h1; cases h1
theorem lt_of_at {w : World} {r : Nat} {o : Obj} (h : w.heap[r]? = some o) : r < w.heap.size := (Array.getElem?_eq_some_iff.1 h).1
theorem MK.evo {ok : OkC} {G : Nat} {m m' : Inj} {h h' : H} {w w' : World} {base : Nat} {rs : List Nat} (k : MK base w rs) (R : HRel ok G m h w) (e : Evo m h w m' h' w') : MK base w' rs where
  nodup := k.nodup
  at_ r hr := ⟨(k.at_ r hr).1, (e.keep r (lt_of_at (k.at_ r hr).2) (not_own R (k.at_ r hr).2)).trans (k.at_ r hr).2⟩

/-- What holds on the way through an activation's code, begun at (m0, h0, w0). -/
structure Xs (ok : OkC) (G : Nat) (m0 : Inj) (h0 : H) (w0 : World) (N : Nat) (m : Inj) (h : H) (w : World) (fr : T Value) (a : Act) (rs : List Nat) : Prop where
  evo : Evo m0 h0 w0 m h w
  rel : HRel ok G m h w
  frel : FRel m fr a.tmps
  size : a.tmps.size = N
  defers : a.defers = mkD rs
  marks : MK w0.heap.size w rs
theorem Xs.step {ok : OkC} {G : Nat} {m0 : Inj} {h0 : H} {w0 : World} {N : Nat} {m m' : Inj} {h h' : H} {w w' : World} {fr fr' : T Value} {a a' : Act} {rs : List Nat} (X : Xs ok G m0 h0 w0 N m h w fr a rs)
    (e : Evo m h w m' h' w') (R : HRel ok G m' h' w') (f : FRel m' fr' a'.tmps) (s : a'.tmps.size = N) (d : a'.defers = a.defers) : Xs ok G m0 h0 w0 N m' h' w' fr' a' rs :=
  ⟨X.evo.trans e, R, f, s, d.trans X.defers, X.marks.evo X.rel e⟩
def exOf : Ex → Exit
  | .normal => .normal
  | .exit id => .exit id
  | .goto l => .goto l
  | .ret => .ret

/-! ### A loop's record -/
section
variable {P : Program} {w : World} {m : Inj} {ok : OkC} {G : Nat} {h : H}
theorem run_getLoop {l : Nat} {r : Loop} (h : w.heap[l]? = some (.loop r)) : (Instr.getLoop l).run P w = .ok r w := by
  simp [Instr.getLoop, getObj, Sem.run, h]
theorem run_setLoop {l : Nat} {r : Loop} (h : w.heap[l]? = some (.loop r)) (o : Obj) : (setObj l o).run P w = .ok () (setObjW w l o) := run_setObjW h (by intro c e f q; cases q) o
/-- A loop's record gets another state. -/
theorem loop_put (R : HRel ok G m h w) {l : Nat} {r r2 : Lp} {i : Img} (hl : h.get l = some (.loop r)) (hi : m l = some i) {r' r2' : Loop} (hr : w.heap[i.blk]? = some (.loop r'))
    (hO : ORel ok m (setObjW w i.blk (.loop r2')) i (.loop r2)) : Evo m h w m (h.put l (.loop r2)) (setObjW w i.blk (.loop r2')) ∧ HRel ok G m (h.put l (.loop r2)) (setObjW w i.blk (.loop r2')) :=
  ⟨Evo.upd hl rfl hi rfl rfl rfl (setObjW_facts ..).size (setObjW_facts ..).other, R.upd hl rfl hi (setObjW_facts ..).size (setObjW_facts ..).other hO⟩
end
end Go.Dm
