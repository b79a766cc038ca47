/- Links: what lies in memory while they are read. -/
import Derived.Test.YthclahlplcfdpaaGreatDoorMdAb
set_option linter.unusedVariables false
set_option linter.unusedSimpArgs false
namespace Go.Dm
open Go.Proofs
/-- A slice of strings that is read. -/
def RdS (h : H) (v : Value) (ws : List (List UInt8)) : Prop := (∃ a : Option Nat, v = .slice (a.map fun b => ⟨b, 0, none⟩) 0 0 ∧ ws = []) ∨ ∃ b cap c st own fz ty, v = .slice (some ⟨b, 0, none⟩) ws.length cap ∧ ws.length ≤ cap ∧ h.get b = some (.cells c st own fz ty) ∧ b < h.next ∧ c.take ws.length = ws.map str ∧ (st = 0 ∨ st = 1)
theorem RdS.of_get {h h' : H} {v : Value} {l : List (List UInt8)} (r : RdS h v l) (hn : h.next ≤ h'.next) (hg : ∀ b, b < h.next → h'.get b = h.get b) : RdS h' v l := by
  rcases r with r | ⟨b, cap, c, st, own, fz, ty, a1, a2, a3, a4, a5⟩
  · exact .inl r
  · exact .inr ⟨b, cap, c, st, own, fz, ty, a1, a2, (hg b a4).trans a3, Nat.lt_of_lt_of_le a4 hn, a5⟩
theorem RdS.fr {h h' : H} {v : Value} {l : List (List UInt8)} (r : RdS h v l) (f : Fr h.next h h') : RdS h' v l := r.of_get f.next f.get
theorem RdS.sl {h : H} {v : Value} {l : List (List UInt8)} (r : RdS h v l) : ∃ a cap, v = .slice a l.length cap := by
  rcases r with ⟨a, rfl, rfl⟩ | ⟨b, cap, c, st, own, fz, ty, rfl, _⟩
  · exact ⟨_, 0, rfl⟩
  · exact ⟨_, _, rfl⟩
theorem RdS.at {h : H} {v : Value} {l : List (List UInt8)} (r : RdS h v l) {i : Nat} (hi : i < l.length) : ∃ b cap c st own fz ty, v = .slice (some ⟨b, 0, none⟩) l.length cap ∧ h.get b = some (.cells c st own fz ty) ∧ c[i]? = some (str l[i]) ∧ b < h.next := by
  rcases r with ⟨a, rfl, rfl⟩ | ⟨b, cap, c, st, own, fz, ty, rfl, _, a3, a4, a5, _⟩
  · simp at hi
  · refine ⟨b, cap, c, st, own, fz, ty, rfl, a3, ?_, a4⟩
    have := congrArg (fun l => l[i]?) a5
    simp only [List.getElem?_take, hi, if_true, List.getElem?_map, List.getElem?_eq_getElem hi, Option.map_some] at this
    exact this
/-- What lies in memory. -/
structure LM (B : Nat) (h : H) (s : List UInt8) (kn : List UInt8 → Bool) (vo vs : Value) (out : List Lk) (op : List Opn) : Prop where
  rd : RdOk h (B + 1) B s kn
  tb : h.get (B + 2) = some (.cells [vo] 0 true 0 none)
  ob : h.get (B + 3) = some (.cells [vs] 0 true 0 none)
  o : Row 5 (B + 4) h vo (encLs out) out.length
  p : Row 4 (B + 4) h vs (encO op) op.length
  ne : ∀ g x y x' y', vo = .slice (some ⟨g, 0, none⟩) x y → vs = .slice (some ⟨g, 0, none⟩) x' y' → False
  nx : B + 4 ≤ h.next
  one : h.one = []
theorem Row.rng {n B : Nat} {h : H} {v : Value} {cs : List Value} {len : Nat} (s : Row n B h v cs len) : ∀ g x y, v = .slice (some ⟨g, 0, none⟩) x y → B ≤ g ∧ g < h.next := by
  intro g x y e
  rcases s with ⟨rfl, _⟩ | ⟨g', cap, c, a1, a2, a3, a4, _⟩
  · cases e
  · rw [a1] at e; cases e; exact ⟨a3, a4⟩
theorem LM.fr {B : Nat} {h h' : H} {s : List UInt8} {kn : List UInt8 → Bool} {vo vs : Value} {out : List Lk} {op : List Opn} (M : LM B h s kn vo vs out op) (f : Fr h.next h h') : LM B h' s kn vo vs out op := by
  have hn := M.nx
  exact ⟨M.rd.fr f (by omega) (by omega), (f.get _ (by omega)).trans M.tb, (f.get _ (by omega)).trans M.ob, M.o.of_get f.next fun g x y e => f.get g (M.o.rng g x y e).2, M.p.of_get f.next fun g x y e => f.get g (M.p.rng g x y e).2, M.ne, Nat.le_trans hn f.next, f.one⟩
theorem Kp.fr {B ob : Nat} {v v' : Value} {h h' : H} (k : Kp ob v v' h h') (hob : B ≤ ob) (hB : B ≤ h.next) (hv : ∀ g x y, v = .slice (some ⟨g, 0, none⟩) x y → B ≤ g) : Fr B h h' :=
  ⟨k.one, k.next, fun b hb => k.get b (by omega) (by omega) fun g x y e => by have := hv g x y e; omega⟩
theorem LM.st {B : Nat} {h h' : H} {s : List UInt8} {kn : List UInt8 → Bool} {vo vs v' : Value} {out : List Lk} {op op' : List Opn} (M : LM B h s kn vo vs out op) (k : Kp (B + 3) vs v' h h') (hg : h'.get (B + 3) = some (.cells [v'] 0 true 0 none)) (sl : Row 4 (B + 4) h' v' (encO op') op'.length) : LM B h' s kn vo v' out op' ∧ Fr B h h' := by
  have hn := M.nx
  have hk : ∀ b, b < B + 3 → h'.get b = h.get b := fun b hb => k.get b (by omega) (by omega) fun g x y e => by have := (M.p.rng g x y e).1; omega
  refine ⟨⟨⟨(hk _ (by omega)).trans M.rd.blk, M.rd.mp.of_get (hk _ (by omega)), Nat.lt_of_lt_of_le M.rd.rl k.next, Nat.lt_of_lt_of_le M.rd.ml k.next⟩, (hk _ (by omega)).trans M.tb, hg, M.o.of_get k.next fun g x y e => ?_, sl, fun g x y x' y' e e' => ?_, Nat.le_trans hn k.next, k.one⟩, k.fr (by omega) (by omega) fun g x y e => by have := (M.p.rng g x y e).1; omega⟩
  · have := M.o.rng g x y e
    exact k.get g this.2 (by omega) fun g' x' y' e' q => M.ne g x y x' y' e (q ▸ e')
  · rcases k.blk g x' y' e' with ⟨x2, y2, q⟩ | q
    · exact M.ne g x y x2 y2 e q
    · have := (M.o.rng g x y e).2; omega
theorem LM.ou {B : Nat} {h h' : H} {s : List UInt8} {kn : List UInt8 → Bool} {vo vs v' : Value} {out out' : List Lk} {op : List Opn} (M : LM B h s kn vo vs out op) (k : Kp (B + 2) vo v' h h') (hg : h'.get (B + 2) = some (.cells [v'] 0 true 0 none)) (sl : Row 5 (B + 4) h' v' (encLs out') out'.length) : LM B h' s kn v' vs out' op ∧ Fr B h h' := by
  have hn := M.nx
  have hk : ∀ b, b < B + 4 → b ≠ B + 2 → h'.get b = h.get b := fun b hb hb2 => k.get b (by omega) hb2 fun g x y e => by have := (M.o.rng g x y e).1; omega
  refine ⟨⟨⟨(hk _ (by omega) (by omega)).trans M.rd.blk, M.rd.mp.of_get (hk _ (by omega) (by omega)), Nat.lt_of_lt_of_le M.rd.rl k.next, Nat.lt_of_lt_of_le M.rd.ml k.next⟩, hg, (hk _ (by omega) (by omega)).trans M.ob, sl, M.p.of_get k.next fun g x y e => ?_, fun g x y x' y' e e' => ?_, Nat.le_trans hn k.next, k.one⟩, k.fr (by omega) (by omega) fun g x y e => by have := (M.o.rng g x y e).1; omega⟩
  · have := M.p.rng g x y e
    exact k.get g this.2 (by omega) fun g' x' y' e' q => M.ne g' x' y' x y e' (by rw [q]; exact e)
  · rcases k.blk g x y e with ⟨x2, y2, q⟩ | q
    · exact M.ne g x2 y2 x' y' q e'
    · have := (M.p.rng g x' y' e').2; omega
theorem encO_at : ∀ (l : List Opn) (i j : Nat) (hi : i < l.length), j < 4 → (encO l)[i * 4 + j]? = (opC l[i])[j]?
  | x :: l, 0, j, hi, hj => by
    show (opC x ++ encO l)[0 * 4 + j]? = _
    rw [show 0 * 4 + j = j by omega, List.getElem?_append_left (by simp [opC]; omega)]
    rfl
  | x :: l, i + 1, j, hi, hj => by
    show (opC x ++ encO l)[(i + 1) * 4 + j]? = _
    have e : (i + 1) * 4 + j - (opC x).length = i * 4 + j := by simp [opC]; omega
    rw [List.getElem?_append_right (by simp [opC]; omega), e, encO_at l i j (by simpa using hi) hj]
    rfl
theorem encO_set : ∀ (l : List Opn) (i : Nat) (b : Bool) (hi : i < l.length), encO (l.set i { l[i] with bar := b }) = (encO l).set (i * 4 + 3) (.bool b)
  | x :: l, 0, b, hi => rfl
  | x :: l, i + 1, b, hi => by
    have hi' : i < l.length := by simpa using hi
    show opC x ++ encO (l.set i { l[i]'hi' with bar := b }) = (opC x ++ encO l).set ((i + 1) * 4 + 3) _
    have e : (i + 1) * 4 + 3 - (opC x).length = i * 4 + 3 := by simp [opC]; omega
    rw [List.set_append_right _ _ (by simp [opC]; omega), e, encO_set l i b hi']
theorem bar_step (img : Bool) (l : List Opn) (i : Nat) (hi : i < l.length) : barL img (l.take (i + 1)) ++ l.drop (i + 1) = (barL img (l.take i) ++ l.drop i).set i { l[i] with bar := l[i].bar || (!img && !l[i].img) } := by
  have e1 : (barL img (l.take i)).length = i := by simp [barL]; omega
  rw [List.drop_eq_getElem_cons hi, List.set_append_right _ _ (by omega), e1, Nat.sub_self, List.set_cons_zero, List.take_succ_eq_append_getElem hi]
  unfold barL
  rw [List.map_append, List.append_assoc]
  rfl
theorem bar_at (img : Bool) (l : List Opn) (i : Nat) (hi : i < l.length) : (barL img (l.take i) ++ l.drop i)[i]? = some l[i] := by
  have e1 : (barL img (l.take i)).length = i := by simp [barL]; omega
  rw [List.drop_eq_getElem_cons hi, List.getElem?_append_right (by omega), e1, Nat.sub_self]
  rfl
theorem bar_len (img : Bool) (l : List Opn) (i : Nat) : (barL img (l.take i) ++ l.drop i).length = l.length := by simp [barL]; omega
theorem Row.low {n B B' : Nat} {h : H} {v : Value} {cs : List Value} {len : Nat} (s : Row n B h v cs len) (hB : B' ≤ B) : Row n B' h v cs len := by
  rcases s with s | ⟨g, cap, c, a1, a2, a3, a4⟩
  · exact .inl s
  · exact .inr ⟨g, cap, c, a1, a2, by omega, a4⟩
section
variable {h : H}
theorem mkIf_lk (v : Value) : mkIf E0 27 (some v) = some (.iface 27 v) := by
  unfold mkIf
  rw [und27]
theorem srtLk_small {l : List Lk} (h : l.length ≤ 1) : srtLk l = l := by
  have hp := (srtLk_pw l).2
  match l, h with
  | [], _ => exact hp.eq_nil
  | [x], _ => exact List.perm_singleton.1 hp
theorem srtLk_len (l : List Lk) : (srtLk l).length = l.length := (srtLk_pw l).2.length_eq
theorem encLs_len : ∀ l : List Lk, (encLs l).length = l.length * 5
  | [] => rfl
  | x :: l => by
    have := encLs_len l
    show (encLk x ++ encLs l).length = _
    rw [List.length_append, this]
    simp [encLk]
    omega
theorem encLs_app (l m : List Lk) : encLs (l ++ m) = encLs l ++ encLs m := by simp [encLs]
/-- The links are sorted by where they begin. -/
theorem sort_sp (tb B : Nat) (v : Value) (out : List Lk) (hl : out.length < 2 ^ 31) (h1 : h.one = []) (ht : h.get tb = some (.cells [v] 0 true 0 none)) (hb : tb < B) (s : Row 5 B h v (encLs out) out.length) :
    CallW E0 X0 (.fn 35) [.iface 27 v, .func (.func 36) #[] #[.pointer (some ⟨tb, 0, none⟩)]] h (fun r h' => r = .tuple #[] ∧ Row 5 B h' v (encLs (srtLk out)) (srtLk out).length ∧ Fr B h h' ∧ h'.next = h.next) := by
  by_cases hs : out.length ≤ 1
  · obtain ⟨a, cp, rfl⟩ := s.sl
    refine CallW.plug (v := .tuple #[]) (h' := h) ?_ ⟨rfl, by rw [srtLk_small hs]; exact s, Fr.refl h1, rfl⟩
    show slcP [.iface 27 (.slice a out.length cp), .func (.func 36) #[] #[.pointer (some ⟨tb, 0, none⟩)]] h = _
    unfold slcP
    simp only
    rw [if_pos (by refine ⟨?_, ?_, ?_⟩ <;> first | trivial | rfl), if_pos hs]
  · rcases s with ⟨_, _, e⟩ | ⟨g, cap, c, rfl, a2, a3, a4, a5, a6, a7⟩
    · omega
    · have htk : (c.drop 0).take (out.length * 5) = encLs out := by rw [List.drop_zero]; exact a7
      have hcl : 0 + out.length * 5 ≤ c.length := by rw [a6]; have := Nat.mul_le_mul_right 5 a2; omega
      refine CallW.plug (v := .tuple #[]) (h' := h.put g (.cells (setAt c 0 (encLs (srtLk out))) 5 true 0 none)) ?_ ⟨rfl, .inr ⟨g, cap, setAt c 0 (encLs (srtLk out)), by rw [srtLk_len], by rw [srtLk_len]; exact a2, a3, a4, by simp, by rw [setAt_length]; exact a6, ?_⟩, (Fr.refl h1).put a3 _, rfl⟩
      · show slcP [.iface 27 (.slice (some ⟨g, 0, none⟩) out.length cap), .func (.func 36) #[] #[.pointer (some ⟨tb, 0, none⟩)]] h = _
        unfold slcP
        simp only
        rw [if_pos (by refine ⟨?_, ?_, ?_⟩ <;> first | trivial | rfl), if_neg hs]
        simp only [ht, a5, htk, lksD_enc]
        rw [if_pos (by refine ⟨?_, ?_, ?_, ?_⟩ <;> first | trivial | rfl | omega), if_pos (by refine ⟨?_, ?_, ?_⟩ <;> first | trivial | rfl | omega)]
      · rw [setAt_eq _ _ _ (by rw [encLs_len, srtLk_len]; exact hcl), List.take_zero, List.nil_append]
        rw [List.take_append_of_le_length (by rw [encLs_len]; exact Nat.le_refl _), List.take_of_length_le (by rw [encLs_len]; exact Nat.le_refl _)]
end
end Go.Dm
