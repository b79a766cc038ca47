/- The machine D, 18: which operations look at memory, which take a new block, and what an operation looks at. -/
import Derived.Test.YtpanpicbikihkaaDoorDSimC
set_option linter.unusedVariables false
set_option linter.unusedSimpArgs false
namespace Go.Dm

/-! ### An operation looks at its operands alone -/
theorem evs_congr {fr fr2 : T Value} : ∀ {xs : List Operand}, (∀ x ∈ xs, ev fr x = ev fr2 x) → evs fr xs = evs fr2 xs := by
  intro xs
  induction xs with
  | nil => intro _; rfl
  | cons x xs ih =>
    intro h
    simp only [evs, h x (List.mem_cons_self ..), ih fun y hy => h y (List.mem_cons_of_mem _ hy)]
theorem evps_congr {fr fr2 : T Value} : ∀ {xs : List (Nat × Operand)}, (∀ x ∈ xs.map (·.2), ev fr x = ev fr2 x) → evps fr xs = evps fr2 xs := by
  intro xs
  induction xs with
  | nil => intro _; rfl
  | cons x xs ih =>
    intro h
    obtain ⟨i, x⟩ := x
    simp only [List.map_cons, List.mem_cons, forall_eq_or_imp] at h
    simp only [evps, h.1, ih h.2]
theorem evo_congr {fr fr2 : T Value} {x : Option Operand} (h : ∀ y ∈ x.toList, ev fr y = ev fr2 y) : evo fr x = evo fr2 x := by
  cases x with
  | none => rfl
  | some x => simp only [evo, h x (by simp)]
theorem opD_congr {E : Env} {ck : CK} {o : Op} {fr fr2 : T Value} {h : H} (hx : ∀ x ∈ o.operands.toList, ev fr x = ev fr2 x) : opD E ck o fr h = opD E ck o fr2 h := by
  cases o with
  | build t ps =>
    have : evps fr ps.toList = evps fr2 ps.toList := evps_congr (by simpa [Op.operands] using hx)
    simp only [opD, this]
  | buildSlice t n ps =>
    have : evps fr ps.toList = evps fr2 ps.toList := evps_congr (by simpa [Op.operands] using hx)
    simp only [opD, this]
  | makeFunc f a b =>
    simp only [Op.operands, Array.toList_append, List.mem_append] at hx
    have h1 : evs fr a.toList = evs fr2 a.toList := evs_congr fun x hm => hx x (.inl hm)
    have h2 : evs fr b.toList = evs fr2 b.toList := evs_congr fun x hm => hx x (.inr hm)
    cases f <;> simp only [opD, h1, h2]
  | slice t x lo hi mx =>
    simp only [Op.operands, Array.toList_append, List.mem_append] at hx
    have h1 : evo fr lo = evo fr2 lo := evo_congr fun x hm => hx x (.inl (.inl (.inr (by simpa using hm))))
    have h2 : evo fr hi = evo fr2 hi := evo_congr fun x hm => hx x (.inl (.inr (by simpa using hm)))
    have h3 : evo fr mx = evo fr2 mx := evo_congr fun x hm => hx x (.inr (by simpa using hm))
    simp only [opD, h1, h2, h3, hx x (by simp)]
  | call c =>
    simp only [Op.operands, Call.operands, Array.toList_append, List.mem_append] at hx
    have h1 : evs fr c.args.toList = evs fr2 c.args.toList := evs_congr fun x hm => hx x (.inr hm)
    simp only [opD, h1]
    cases hc : c.callee with
    | value f => rw [hc] at hx; simp only [hx f (.inl (by simp))]
    | invoke r n => rw [hc] at hx; simp only [hx r (.inl (by simp))]
    | builtin b =>
      cases evs fr2 c.args.toList with
      | none => rfl
      | some args => cases b <;> rfl
  | next it b =>
    cases b with
    | true => simp only [opD, hx it (by simp [Op.operands])]
    | false => rfl
  | makeMap t r => cases r <;> rfl
  | _ => simp [Op.operands] at hx <;> simp only [opD, hx]

/-- What is read in one memory is read in any that holds as much. -/
def Holds (h h2 : H) : Prop := ∀ b o, h.get b = some o → h2.get b = some o
/-- Close an operation's effect: memory unchanged. -/
def PureOp (E : Env) (ck : CK) (o : Op) (fr : T Value) (h : H) (v : Value) (h' : H) : Prop := h' = h ∧ ∀ h2, opD E ck o fr h2 = some (v, h2)
def ReadOp (E : Env) (ck : CK) (o : Op) (fr : T Value) (h : H) (v : Value) (h' : H) : Prop := h' = h ∧ ∀ h2, Holds h h2 → opD E ck o fr h2 = some (v, h2)
def FreshOp (E : Env) (ck : CK) (o : Op) (fr : T Value) (h : H) (v : Value) (h' : H) : Prop := ∃ ob, h' = h.new ob ∧ ∀ h2 : H, h2.addr = h.addr → opD E ck o fr h2 = some (v, h2.new ob)

theorem opt_map {α : Type} {x : Option α} {v : α} {h h' : H} (e : x.map (·, h) = some (v, h')) : h' = h ∧ ∀ h2 : H, x.map (·, h2) = some (v, h2) := by
  cases x with
  | none => cases e
  | some u => cases e; exact ⟨rfl, fun _ => rfl⟩
section
variable {E : Env} {ck : CK} {fr : T Value} {h h' : H} {v : Value}
theorem pureOp {o : Op} (hc : cls E o = .pure) (hd : opD E ck o fr h = some (v, h')) : PureOp E ck o fr h v h' := by
  unfold PureOp
  cases o with
  | move x => exact opt_map hd
  | assign x => exact opt_map hd
  | pick c a b =>
    simp only [opD] at hd ⊢
    split at hd
    · exact opt_map hd
    · cases hd
  | build t ps =>
    simp only [opD] at hd ⊢
    split at hd
    · exact opt_map hd
    · cases hd
  | nilCheck x =>
    simp only [opD] at hd ⊢
    split at hd
    · exact opt_map hd
    · cases hd
  | binOp op t x y yt =>
    simp only [opD] at hd ⊢
    split at hd
    · exact opt_map hd
    · cases hd
  | unOp op t x =>
    simp only [opD] at hd ⊢
    split at hd
    · exact opt_map hd
    · cases hd
  | makeInterface t x =>
    simp only [opD] at hd ⊢
    split at hd
    · cases hd
    · cases hd; exact ⟨rfl, fun _ => rfl⟩
    · cases hd
  | makeFunc f a b =>
    cases f with
    | func f =>
      simp only [opD] at hd ⊢
      split at hd
      · cases hd; exact ⟨rfl, fun _ => rfl⟩
      · cases hd
    | _ => cases hd
  | fieldAddr s x f =>
    simp only [opD] at hd ⊢
    split at hd
    · exact opt_map hd
    · cases hd
  | field s x f =>
    simp only [opD] at hd ⊢
    split at hd
    · exact opt_map hd
    · cases hd
  | indexAddr s x f =>
    simp only [opD] at hd ⊢
    split at hd
    · exact opt_map hd
    · cases hd
  | index s x f =>
    simp only [opD] at hd ⊢
    split at hd
    · exact opt_map hd
    · cases hd
  | extract x f =>
    simp only [opD] at hd ⊢
    split at hd
    · exact opt_map hd
    · cases hd
  | slice t x lo hi mx =>
    simp only [opD] at hd ⊢
    split at hd
    · rename_i a1 a2 a3 a4 e1 e2 e3 e4
      have hs : ∀ h2, sliceD E t a1 a2 a3 a4 h2 = sliceD E t a1 a2 a3 a4 h := by
        intro h2
        simp only [cls] at hc
        unfold sliceD
        split at hc
        · rename_i hu; rw [hu]; cases a1 <;> rfl
        · rename_i hu; rw [hu]
          cases a1 with
          | pointer p =>
            cases p with
            | none => rfl
            | some p => obtain ⟨b, o, sp⟩ := p; cases sp <;> rfl
          | _ => rfl
        · cases hc
      have := opt_map hd
      exact ⟨this.1, fun h2 => by rw [hs h2]; exact this.2 h2⟩
    · cases hd
  | convert s d x =>
    simp only [opD] at hd ⊢
    split at hd
    · rename_i a1 e1
      simp only [cls] at hc
      split at hc
      · rename_i k e2 e3
        unfold convD at hd ⊢
        rw [e2, e3] at hd ⊢
        cases a1 <;> simp at hd ⊢
        exact ⟨hd.2.symm, fun _ => hd.1⟩
      all_goals cases hc
    · cases hd
  | call c =>
    simp only [cls] at hc
    split at hc
    · rename_i hcal
      split at hc
      · rename_i t hts
        simp only [opD] at hd ⊢
        split at hd
        · cases hd
        · rename_i args ha
          rw [hcal] at hd ⊢
          simp only [hts] at hd ⊢
          split at hd
          · rename_i t' x ht
            cases ht
            have hl : ∀ h2, lenD E t x h2 = lenD E t x h := by
              intro h2
              unfold lenD
              split at hc
              · rename_i hu; rw [hu]; cases x <;> rfl
              · rename_i hu; rw [hu]; cases x <;> rfl
              · rename_i hu; rw [hu]
              · cases hc
            have := opt_map hd
            exact ⟨this.1, fun h2 => by rw [hl h2]; exact this.2 h2⟩
          · cases hd
      · cases hc
    · rename_i hcal
      simp only [opD] at hd ⊢
      split at hd
      · cases hd
      · rw [hcal] at hd ⊢
        simp only at hd ⊢
        split at hd
        · exact opt_map hd
        · cases hd
    · rename_i hcal
      simp only [opD] at hd ⊢
      split at hd
      · cases hd
      · rw [hcal] at hd ⊢
        simp only at hd ⊢
        split at hd
        · exact opt_map hd
        · cases hd
    · cases hc
  | makeMap t r => cases r <;> cases hc
  | _ => cases hc
theorem readAt {b o len : Nat} {h h2 : H} (hh : Holds h h2) {vs : List Value} (e : readD b o len h = some vs) : readD b o len h2 = some vs := by
  unfold readD at e ⊢
  split at e
  · rename_i hb; rw [hh _ _ hb]; exact e
  · cases e
theorem readOp {o : Op} (hc : cls E o = .read) (hd : opD E ck o fr h = some (v, h')) : ReadOp E ck o fr h v h' := by
  unfold ReadOp
  cases o with
  | load t x =>
    simp only [opD] at hd ⊢
    split at hd
    · rename_i a ha
      have hm := opt_map hd
      refine ⟨hm.1, fun h2 hh => ?_⟩
      obtain ⟨u, e1, e2⟩ := map_some hd
      have : ld E t a h2 = some u := by
        unfold ld at e1 ⊢
        split at e1
        · unfold ldAt at e1 ⊢
          split at e1
          · rename_i hb; rw [hh _ _ hb]; exact e1
          · cases e1
        · cases e1
      rw [this]; cases e2; rfl
    · cases hd
  | lookup t x k c =>
    simp only [opD] at hd ⊢
    split at hd
    · rename_i a b ha hb
      have hm := opt_map hd
      refine ⟨hm.1, fun h2 hh => ?_⟩
      obtain ⟨u, e1, e2⟩ := map_some hd
      have : lookupD E t a b c h2 = some u := by
        unfold lookupD at e1 ⊢
        split at e1
        · cases a with
          | map r =>
            cases r with
            | none => exact e1
            | some r =>
              simp only at e1 ⊢
              cases hr : h.get r with
              | none => rw [hr] at e1; cases e1
              | some ob => rw [hh _ _ hr]; rw [hr] at e1; exact e1
          | _ => exact e1
        · cases e1
      rw [this]; cases e2; rfl
    · cases hd
  | slice t x lo hi mx =>
    simp only [opD] at hd ⊢
    split at hd
    · rename_i a1 a2 a3 a4 e1 e2 e3 e4
      have hm := opt_map hd
      refine ⟨hm.1, fun h2 hh => ?_⟩
      obtain ⟨u, e1, e2⟩ := map_some hd
      have : sliceD E t a1 a2 a3 a4 h2 = some u := by
        unfold sliceD at e1 ⊢
        split at e1
        · exact e1
        · exact e1
        · split at e1
          · rename_i q1 q2 q3; rw [q1, q2, hh _ _ q3]; exact e1
          · cases e1
        · exact e1
        · cases e1
      rw [this]; cases e2; rfl
    · cases hd
  | convert s d x =>
    simp only [opD] at hd ⊢
    split at hd
    · rename_i a1 e1
      simp only [cls] at hc
      split at hc
      · cases hc
      · cases hc
      · rename_i el e2 e3
        unfold convD at hd ⊢
        rw [e2, e3] at hd ⊢
        cases a1 with
        | slice p n c =>
          cases p with
          | none =>
            cases n with
            | zero =>
              cases c with
              | zero => simp only at hd ⊢; split at hd <;> first | (cases hd; exact ⟨rfl, fun _ _ => rfl⟩) | cases hd
              | succ c => cases hd
            | succ n => cases hd
          | some p =>
            obtain ⟨b, o, sp⟩ := p
            cases sp with
            | some sp => cases hd
            | none =>
              simp only at hd ⊢
              split at hd
              · split at hd
                · cases hd; refine ⟨rfl, fun _ _ => ?_⟩; simp [*]
                · rename_i hn
                  split at hd
                  · rename_i vs hvs
                    obtain ⟨q, q1, q2⟩ := map_some hd
                    cases q2
                    refine ⟨rfl, fun h2 hh => ?_⟩
                    rw [if_neg hn, readAt hh hvs]; simp only [q1, Option.map_some]
                  · cases hd
              · cases hd
        | string s => simp at hd; exact ⟨hd.2.symm, fun _ _ => by simp [hd.1]⟩
        | int k n => simp at hd; exact ⟨hd.2.symm, fun _ _ => by simp [hd.1]⟩
        | _ => cases hd
      · cases hc
    · cases hd
  | call c =>
    simp only [cls] at hc
    split at hc
    · rename_i hcal
      split at hc
      · rename_i t hts
        simp only [opD] at hd ⊢
        split at hd
        · cases hd
        · rename_i args ha
          rw [hcal] at hd ⊢
          simp only [hts] at hd ⊢
          split at hd
          · rename_i t' x ht
            cases ht
            have hm := opt_map hd
            refine ⟨hm.1, fun h2 hh => ?_⟩
            obtain ⟨u, e1, e2⟩ := map_some hd
            have : lenD E t x h2 = some u := by
              unfold lenD at e1 ⊢
              split at e1
              · exact e1
              · exact e1
              · exact e1
              · exact e1
              · split at e1
                · rename_i q; rw [hh _ _ q]; exact e1
                · cases e1
              · cases e1
            rw [this]; cases e2; rfl
          · cases hd
      · cases hc
    · cases hc
    · cases hc
    · cases hc
  | makeMap t r => cases r <;> cases hc
  | _ => cases hc
theorem freshOp {o : Op} (hc : cls E o = .fresh) (hd : opD E ck o fr h = some (v, h')) : FreshOp E ck o fr h v h' := by
  unfold FreshOp
  cases o with
  | alloc t =>
    simp only [opD] at hd ⊢
    obtain ⟨z, e1, e2⟩ := map_some hd
    cases e2
    exact ⟨_, rfl, fun h2 ha => by rw [e1]; simp only [Option.map_some, newD, ha]⟩
  | box t x =>
    simp only [opD] at hd ⊢
    obtain ⟨z, e1, e2⟩ := map_some hd
    cases e2
    exact ⟨_, rfl, fun h2 ha => by rw [e1]; simp only [Option.map_some, newD, ha]⟩
  | buildSlice t n ps =>
    simp only [opD] at hd ⊢
    split at hd
    · unfold buildSliceD at hd ⊢
      split at hd
      · split at hd
        · split at hd
          · rename_i q
            split at hd
            · rename_i cs qq
              cases hd
              exact ⟨_, rfl, fun h2 ha => by rw [if_pos q]; simp only [ha]⟩
            · cases hd
          · cases hd
        · cases hd
      · cases hd
    · cases hd
  | makeSlice t l c =>
    simp only [opD] at hd ⊢
    split at hd
    · unfold makeSliceD at hd ⊢
      split at hd
      · split at hd
        · split at hd
          · rename_i q
            cases hd
            exact ⟨_, rfl, fun h2 ha => by rw [if_pos q]; simp only [ha]⟩
          · cases hd
        · cases hd
      · cases hd
    · cases hd
  | makeMap t r =>
    cases r with
    | some r => cases hc
    | none =>
      simp only [opD] at hd ⊢
      cases hd
      exact ⟨_, rfl, fun h2 ha => by rw [ha]⟩
  | convert s d x =>
    simp only [opD] at hd ⊢
    split at hd
    · rename_i a1 e1
      simp only [cls] at hc
      split at hc
      · cases hc
      · rename_i el e2 e3
        unfold convD at hd ⊢
        rw [e2, e3] at hd ⊢
        cases a1 with
        | string s =>
          simp only at hd ⊢
          split at hd
          · split at hd
            · rename_i q
              cases hd
              exact ⟨_, rfl, fun h2 ha => by rw [if_pos q, ha]⟩
            · cases hd
          · cases hd
        | _ => cases hd
      · cases hc
      · cases hc
    · cases hd
  | slice t x lo hi mx =>
    simp only [cls] at hc
    split at hc <;> cases hc
  | call c =>
    simp only [cls] at hc
    split at hc
    · split at hc
      · split at hc <;> cases hc
      · cases hc
    all_goals cases hc
  | _ => cases hc
end
end Go.Dm
