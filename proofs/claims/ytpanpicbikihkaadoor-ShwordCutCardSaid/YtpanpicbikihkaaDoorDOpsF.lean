/- The machine D, 9: its operations are followed by the model's: arithmetic, conversions, len. -/
import Derived.Test.YtpanpicbikihkaaDoorDOpsE
set_option linter.unusedVariables false
set_option linter.unusedSimpArgs false
namespace Go.Dm

section
variable {P : Program} {E : Env} (hE : EnvOk P E) {w : World} {m : Inj}
theorem cmp_run {op : BinOp} {x y : Int} {v : Value} (h : cmpD op x y = some v) : (Op.intCmp op x y).run P w = .ok v w ∧ plain0 v = true := by
  cases op <;> simp only [cmpD] at h <;> first | (cases h; done) | (cases h; exact ⟨rfl, rfl⟩)
theorem bits_run {op : BinOp} {k : IntKind} {x y : Int} {v : Value} (h : bitsD op k x y = some v) : (Op.intBits op k x y).run P w = .ok v w ∧ plain0 v = true := by
  cases op <;> simp only [bitsD] at h <;> first | (cases h; done) | (cases h; exact ⟨rfl, rfl⟩)
theorem int_run {op : BinOp} {k : IntKind} {x y : Int} {v : Value} (hs : op ≠ .shl) (hs' : op ≠ .shr) (h : intD op k x y = some v) : (binOp op 0 (.int k x) (.int k y)).run P w = .ok v w ∧ plain0 v = true := by
  cases op
  case shl => exact absurd rfl hs
  case shr => exact absurd rfl hs'
  case quo =>
    simp only [intD] at h
    split at h
    · cases h
    · rename_i hy; cases h; exact ⟨by simp [binOp, Op.intDiv, hy], rfl⟩
  case rem =>
    simp only [intD] at h
    split at h
    · cases h
    · rename_i hy; cases h; exact ⟨by simp [binOp, Op.intDiv, hy], rfl⟩
  all_goals simp only [intD] at h
  case add => cases h; exact ⟨by simp [binOp, Op.intArith], rfl⟩
  case sub => cases h; exact ⟨by simp [binOp, Op.intArith], rfl⟩
  case mul => cases h; exact ⟨by simp [binOp, Op.intArith], rfl⟩
  all_goals first
    | (have := bits_run (P := P) (w := w) h; exact ⟨by simpa [binOp] using this.1, this.2⟩)
    | (have := cmp_run (P := P) (w := w) h; exact ⟨by simpa [binOp] using this.1, this.2⟩)
theorem shift_run {op : BinOp} (ho : op = .shl ∨ op = .shr) {k k' : IntKind} {x y : Int} {v : Value} (h : shiftD op k x y = some v) : (binOp op 0 (.int k x) (.int k' y)).run P w = .ok v w ∧ plain0 v = true := by
  unfold shiftD at h
  split at h
  · cases h
  · rename_i hy
    rcases ho with rfl | rfl
    · simp only at h; cases h; exact ⟨by simp [binOp, Op.shift, hy], rfl⟩
    · simp only at h; cases h; exact ⟨by simp [binOp, Op.shift, hy], rfl⟩
theorem str_run {op : BinOp} {x y : ByteArray} {v : Value} (h : strD op x y = some v) : (Op.stringOp op x y).run P w = .ok v w ∧ plain0 v = true := by
  cases op <;> simp only [strD] at h <;> first | (cases h; done) | (cases h; exact ⟨rfl, rfl⟩) | skip
  split at h
  · rename_i hs
    cases h
    refine ⟨?_, rfl⟩
    simp only [Op.stringOp]
    rw [if_neg]
    · rfl
    · simp [IntKind.max, IntKind.signed, IntKind.bits]; omega
  · cases h
theorem eqD_agg {d : Nat} {t : TypeId} {c e : Array Value} {r : Bool} (h : eqD E (d + 1) t (.agg c) (.agg e) = some r) : E.eqo t = true := by
  simp only [eqD] at h
  cases hu : E.und t with
  | none => rw [hu] at h; cases h
  | some x =>
    rw [hu] at h
    cases x with
    | struct fs =>
      simp only at h
      split at h
      · assumption
      · cases h
    | array n el =>
      simp only at h
      split at h
      · split at h
        · assumption
        · cases h
      · cases h
    | _ => cases h
theorem guard_plain {op : BinOp} {t : TypeId} {x y : Operand} {u v : Value} (h1 : ∀ c d, ¬ (u = .agg c ∧ v = .agg d)) (h2 : ¬ (u = .nilIface ∧ v = .nilIface)) : (eqGuard op t x y u v).run P w = .ok () w := by
  unfold eqGuard
  cases op <;> first | rfl | skip
  all_goals cases u <;> cases v <;> first | rfl | (exact absurd ⟨rfl, rfl⟩ h2) | (exact absurd ⟨rfl, rfl⟩ (h1 _ _))
theorem guard_nil {op : BinOp} {t : TypeId} {x y : Operand} (h : (isC x || isC y) = true) : (eqGuard op t x y .nilIface .nilIface).run P w = .ok () w := by
  unfold eqGuard
  cases op <;> first | rfl | skip
  all_goals cases x <;> cases y <;> first | rfl | (simp [isC] at h)
include hE in
theorem equal_nil {d : Nat} {t : TypeId} {ms : Array (String × TypeId)} (h : E.und t = some (.interface ms)) : (Op.equalIn (d + 1) t .nilIface .nilIface).run P w = .ok true w := by
  simp [Op.equalIn, run_underlying hE h]
include hE in
theorem eqTop_sim {op : BinOp} {t : TypeId} {x y : Operand} {a a' b b' : Value} {r : Bool} (ha : VRel m a a') (hb : VRel m b b') (h : eqTopD E t x y a b = some r) :
    (eqGuard op t x y a' b').run P w = .ok () w ∧ (Op.equal t a' b').run P w = .ok r w := by
  unfold eqTopD at h
  split at h
  · obtain rfl := ha.nili; obtain rfl := hb.nili
    split at h
    · rename_i hc
      split at h
      · rename_i ms hu
        cases h
        exact ⟨guard_nil hc, equal_nil hE hu⟩
      · cases h
    · cases h
  · rename_i n1
    refine ⟨?_, eq_sim hE 10000 ha hb h⟩
    by_cases hag : ∃ c d, a' = .agg c ∧ b' = .agg d
    · obtain ⟨c, d, rfl, rfl⟩ := hag
      have hq : P.eqGuardType P.depth t = false := by
        cases ha with
        | plain hp => simp [plain0] at hp
        | agg ha =>
          cases hb with
          | plain hp => simp [plain0] at hp
          | agg hb => exact (hE.eqo t (eqD_agg h)).2
      exact run_eqGuard_agg w op t x y c d hq
    · refine guard_plain (fun c d hcd => hag ⟨c, d, hcd⟩) ?_
      rintro ⟨rfl, rfl⟩
      cases ha; cases hb
      exact n1 rfl rfl
theorem eqD_float {d : Nat} {t : TypeId} {k : FloatKind} {p : Nat} {y : Value} : eqD E (d + 1) t (.float k p) y = none := by
  simp only [eqD]
  cases E.und t with
  | none => rfl
  | some x => cases x <;> rfl
theorem eqD_complex {d : Nat} {t : TypeId} {k : FloatKind} {p q : Nat} {y : Value} : eqD E (d + 1) t (.complex k p q) y = none := by
  simp only [eqD]
  cases E.und t with
  | none => rfl
  | some x => cases x <;> rfl
theorem bin_eq {t : TypeId} {a b : Value} (h1 : ∀ k n k' n', ¬ (a = .int k n ∧ b = .int k' n')) (h2 : ∀ s s', ¬ (a = .string s ∧ b = .string s')) (h3 : ∀ k n, a ≠ .float k n) (h4 : ∀ k n n', a ≠ .complex k n n') :
    binOp .eql t a b = (Op.equal t a b >>= fun r => pure (.bool r)) ∧ binOp .neq t a b = (Op.equal t a b >>= fun r => pure (.bool !r)) := by
  cases a with
  | float k n => exact absurd rfl (h3 k n)
  | complex k n n' => exact absurd rfl (h4 k n n')
  | int k n => cases b with
    | int k' n' => exact absurd ⟨rfl, rfl⟩ (h1 _ _ _ _)
    | _ => exact ⟨rfl, rfl⟩
  | string s => cases b with
    | string s' => exact absurd ⟨rfl, rfl⟩ (h2 _ _)
    | _ => exact ⟨rfl, rfl⟩
  | _ => exact ⟨by cases b <;> rfl, by cases b <;> rfl⟩
theorem bin_eq_of {t : TypeId} {x y : Operand} {a a' b b' : Value} {r : Bool} (ha : VRel m a a') (hb : VRel m b b') (n1 : ∀ (k : IntKind) (p : Int) (k' : IntKind) (q : Int), a = .int k p → b = .int k' q → False)
    (n2 : ∀ (p q : ByteArray), a = .string p → b = .string q → False) (he : eqTopD E t x y a b = some r) :
    binOp .eql t a' b' = (Op.equal t a' b' >>= fun r => pure (.bool r)) ∧ binOp .neq t a' b' = (Op.equal t a' b' >>= fun r => pure (.bool !r)) := by
  refine bin_eq ?_ ?_ ?_ ?_
  · rintro k n k' n' ⟨rfl, rfl⟩
    cases ha; cases hb; exact n1 _ _ _ _ rfl rfl
  · rintro s s' ⟨rfl, rfl⟩
    cases ha; cases hb; exact n2 _ _ rfl rfl
  · rintro k n rfl
    cases ha
    simp only [eqTopD] at he
    rw [eqD_float (d := 9999)] at he; cases he
  · rintro k n n' rfl
    cases ha
    simp only [eqTopD] at he
    rw [eqD_complex (d := 9999)] at he; cases he
include hE in
theorem bin_sim {op : BinOp} {t : TypeId} {x y : Operand} {a a' b b' v : Value} (ha : VRel m a a') (hb : VRel m b b') (h : binD E op t x y a b = some v) :
    plain0 v = true ∧ (do eqGuard op t x y a' b'; binOp op t a' b').run P w = .ok v w := by
  have hgi : ∀ (k k' : IntKind) (p q : Int), (eqGuard op t x y (.int k p) (.int k' q)).run P w = .ok () w := fun k k' p q => guard_plain (fun c d h => by cases h.1) (fun h => by cases h.1)
  have hgs : ∀ (p q : ByteArray), (eqGuard op t x y (.string p) (.string q)).run P w = .ok () w := fun p q => guard_plain (fun c d h => by cases h.1) (fun h => by cases h.1)
  unfold binD at h
  split at h
  · rename_i k p k' q
    obtain rfl := ha.int; obtain rfl := hb.int
    have := shift_run (P := P) (w := w) (.inl rfl) (k' := k') h
    exact ⟨this.2, by simp only [Sem.run_bind, hgi, Result.andThen_ok]; simpa [binOp] using this.1⟩
  · rename_i k p k' q
    obtain rfl := ha.int; obtain rfl := hb.int
    have := shift_run (P := P) (w := w) (.inr rfl) (k' := k') h
    exact ⟨this.2, by simp only [Sem.run_bind, hgi, Result.andThen_ok]; simpa [binOp] using this.1⟩
  · rename_i k p k' q n1 n2
    obtain rfl := ha.int; obtain rfl := hb.int
    split at h
    · rename_i hk
      subst hk
      have h1 : op ≠ .shl := n1
      have h2 : op ≠ .shr := n2
      have := int_run (P := P) (w := w) h1 h2 h
      refine ⟨this.2, ?_⟩
      simp only [Sem.run_bind, hgi, Result.andThen_ok]
      rw [← this.1]
      cases op <;> first | rfl | (exact absurd rfl h1) | (exact absurd rfl h2)
    · cases h
  · obtain rfl := ha.string; obtain rfl := hb.string
    have := str_run (P := P) (w := w) h
    refine ⟨this.2, ?_⟩
    simp only [Sem.run_bind, hgs, Result.andThen_ok]
    rw [← this.1]
    cases op <;> rfl
  · rename_i n1 n2
    cases he : eqTopD E t x y a b with
    | none => rw [he] at h; cases h
    | some r =>
      rw [he] at h
      cases h
      obtain ⟨g1, g2⟩ := eqTop_sim hE (w := w) (op := .eql) ha hb he
      refine ⟨rfl, ?_⟩
      simp only [Sem.run_bind, g1, Result.andThen_ok]
      rw [(bin_eq_of ha hb n1 n2 he).1]
      simp [g2]
  · rename_i n1 n2
    cases he : eqTopD E t x y a b with
    | none => rw [he] at h; cases h
    | some r =>
      rw [he] at h
      cases h
      obtain ⟨g1, g2⟩ := eqTop_sim hE (w := w) (op := .neq) ha hb he
      refine ⟨rfl, ?_⟩
      simp only [Sem.run_bind, g1, Result.andThen_ok]
      rw [(bin_eq_of ha hb n1 n2 he).2]
      simp [g2]
  · cases h
end
end Go.Dm
