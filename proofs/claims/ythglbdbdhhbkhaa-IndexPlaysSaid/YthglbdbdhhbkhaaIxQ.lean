/- The program's Put. -/
import Derived.Test.YthglbdbdhhbkhaaIxL
set_option linter.unusedVariables false
set_option linter.unusedSimpArgs false
namespace Go.Dm
open Go.Proofs
/-- What the entries' map holds. -/
def EntOk (h : H) (f : Int → Option Value) (L : List En) : Prop := ∀ n, match getL L n with
  | none => f n = none
  | some e => ∃ v1 v2, f n = some (.agg #[v1, v2]) ∧ RdY (fun _ => True) h v1 e.d ∧ RdY (fun _ => True) h v2 e.m
def dF (L : List En) : List UInt8 × Int → Option Value := fun k => if k.1 ∈ dOf L k.2 then some (.bool true) else none
def mF (L : List En) : List UInt8 × Int → Option Value := fun k => if k.1 ∈ mOf L k.2 then some (.bool true) else none
/-- An index in memory: its entries; f: what its entries' map holds. -/
structure Rep (h : H) (xb em dm mm cm : Nat) (L : List En) (f : Int → Option Value) : Prop where
  x : h.get xb = some (.cells [.map (some em), .map (some dm), .map (some mm), .map (some cm)] 0 true 0 none)
  xlt : xb < h.next
  elt : em < h.next
  dlt : dm < h.next
  mlt : mm < h.next
  clt : cm < h.next
  ne : Ne4 em dm mm cm
  e : MapAt (Value.int .i64) h em f
  en : EntOk h f L
  d : MapAt keyS h dm (dF L)
  m : MapAt keyS h mm (mF L)
  c : MapAt str h cm (cnF (cntL L))
  ris : Ris L
  up : ∀ e ∈ L, Up e.d ∧ Up e.m
  ml : ∀ e ∈ L, ∀ s ∈ e.d, s.length ≤ maxLen
/-- A slice in a block with a property, or none. -/
def InY (Y : Nat → Prop) (v : Value) : Prop := v = .slice none 0 0 ∨ ∃ b n c, v = .slice (some ⟨b, 0, none⟩) n c ∧ Y b
def OwnE (Y : Nat → Prop) (o : Option Value) : Prop := o = none ∨ ∃ v1 v2, o = some (.agg #[v1, v2]) ∧ InY Y v1 ∧ InY Y v2
theorem RdY.inY {Y : Nat → Prop} {h : H} {v : Value} {ws : List (List UInt8)} (r : RdY Y h v ws) : InY Y v := by
  rcases r with r | ⟨b, cap, c, a1, a2, a3, a4, a5, a6⟩
  · exact .inl r.1
  · exact .inr ⟨b, _, _, a1, a5⟩
/-- What a call of Put leaves. -/
def PutPost (xb em dm mm cm : Nat) (L L' : List En) (f : Int → Option Value) (n : Int) (h : H) (v : Value) (h' : H) : Prop :=
  ∃ rv o, v = .tuple #[rv, .int .i64 0] ∧ RdS h' rv (toldL L L') ∧ Rep h' xb em dm mm cm L' (updF f n o) ∧ (OwnE (fun b => h.next ≤ b ∧ b < h'.next) o ∧ InY (fun b => h.next ≤ b) rv) ∧ (∀ b, b < h.next → b ≠ em → b ≠ dm → b ≠ mm → b ≠ cm → h'.get b = h.get b) ∧ h.next ≤ h'.next ∧ h'.one = []
theorem RdS.map {w : Nat} {h h' : H} {v : Value} {l : List (List UInt8)} (r : RdS h v l) (u : Upd w h h') (hm : ∀ c st o fz ty, h.get w ≠ some (.cells c st o fz ty)) : RdS h' v l := by
  rcases r with r | ⟨b, cap, c, st, own, fz, ty, a1, a2, a3, a4, a5⟩
  · exact .inl r
  · refine .inr ⟨b, cap, c, st, own, fz, ty, a1, a2, (u.get b ?_).trans a3, by rw [u.next]; exact a4, a5⟩
    rintro rfl
    exact hm _ _ _ _ _ a3
theorem MapAt.nc {K : Type} {ek : K → Value} {h : H} {r : Nat} {f : K → Option Value} (m : MapAt ek h r f) (c : List Value) (st : Nat) (o : Bool) (fz : Nat) (ty : Option TypeId) : h.get r ≠ some (.cells c st o fz ty) := by
  obtain ⟨es, clock, q, _⟩ := m
  rw [q]
  intro e
  cases e
def delF (f : List UInt8 × Int → Option Value) (n : Int) (l : List (List UInt8)) : List UInt8 × Int → Option Value := fun k => if k.2 = n ∧ k.1 ∈ l then none else f k
def addF (f : List UInt8 × Int → Option Value) (n : Int) (l : List (List UInt8)) : List UInt8 × Int → Option Value := fun k => if k.2 = n ∧ k.1 ∈ l then some (.bool true) else f k
def subC (cn : List UInt8 → Nat) (l : List (List UInt8)) : List UInt8 → Nat := fun s => cn s - (if s ∈ l then 1 else 0)
def addC (cn : List UInt8 → Nat) (l : List (List UInt8)) : List UInt8 → Nat := fun s => cn s + (if s ∈ l then 1 else 0)
theorem mem_take1 {l : List (List UInt8)} {i : Nat} (hi : i < l.length) (s : List UInt8) : s ∈ l.take (i + 1) ↔ s ∈ l.take i ∨ s = l[i] := by
  rw [List.take_succ_eq_append_getElem hi, List.mem_append, List.mem_singleton]
theorem not_take {l : List (List UInt8)} (u : Up l) {i : Nat} (hi : i < l.length) : ¬ l[i] ∈ l.take i := by
  intro h
  obtain ⟨j, hj, e⟩ := List.mem_iff_getElem.1 h
  have hj' : j < i := by simp at hj; omega
  rw [List.getElem_take] at e
  have := List.pairwise_iff_getElem.1 u j i (by omega) hi hj'
  rw [e] at this
  exact List.lt_irrefl _ this
theorem delF_step (f : List UInt8 × Int → Option Value) (n : Int) {l : List (List UInt8)} {i : Nat} (hi : i < l.length) (k : List UInt8 × Int) : updF (delF f n (l.take i)) (l[i], n) none k = delF f n (l.take (i + 1)) k := by
  obtain ⟨k1, k2⟩ := k
  unfold updF delF
  by_cases h1 : k2 = n
  · subst h1
    by_cases h2 : k1 = l[i]
    · subst h2
      rw [if_pos rfl, if_pos ⟨rfl, (mem_take1 hi _).2 (.inr rfl)⟩]
    · rw [if_neg (fun e => h2 (congrArg Prod.fst e))]
      by_cases h3 : k1 ∈ l.take i
      · rw [if_pos ⟨rfl, h3⟩, if_pos ⟨rfl, (mem_take1 hi _).2 (.inl h3)⟩]
      · rw [if_neg (fun e => h3 e.2), if_neg (fun e => ((mem_take1 hi _).1 e.2).elim h3 h2)]
  · rw [if_neg (fun e => h1 (congrArg Prod.snd e)), if_neg (fun e => h1 e.1), if_neg (fun e => h1 e.1)]
theorem addF_step (f : List UInt8 × Int → Option Value) (n : Int) {l : List (List UInt8)} {i : Nat} (hi : i < l.length) (k : List UInt8 × Int) : updF (addF f n (l.take i)) (l[i], n) (some (.bool true)) k = addF f n (l.take (i + 1)) k := by
  obtain ⟨k1, k2⟩ := k
  unfold updF addF
  by_cases h1 : k2 = n
  · subst h1
    by_cases h2 : k1 = l[i]
    · subst h2
      rw [if_pos rfl, if_pos ⟨rfl, (mem_take1 hi _).2 (.inr rfl)⟩]
    · rw [if_neg (fun e => h2 (congrArg Prod.fst e))]
      by_cases h3 : k1 ∈ l.take i
      · rw [if_pos ⟨rfl, h3⟩, if_pos ⟨rfl, (mem_take1 hi _).2 (.inl h3)⟩]
      · rw [if_neg (fun e => h3 e.2), if_neg (fun e => ((mem_take1 hi _).1 e.2).elim h3 h2)]
  · rw [if_neg (fun e => h1 (congrArg Prod.snd e)), if_neg (fun e => h1 e.1), if_neg (fun e => h1 e.1)]
theorem delF_nil (f : List UInt8 × Int → Option Value) (n : Int) : delF f n [] = f := by funext k; simp [delF]
theorem addF_nil (f : List UInt8 × Int → Option Value) (n : Int) : addF f n [] = f := by funext k; simp [addF]
theorem subC_nil (cn : List UInt8 → Nat) : subC cn [] = cn := by funext k; simp [subC]
theorem addC_nil (cn : List UInt8 → Nat) : addC cn [] = cn := by funext k; simp [addC]
theorem subC_at {cn : List UInt8 → Nat} {l : List (List UInt8)} (u : Up l) {i : Nat} (hi : i < l.length) : subC cn (l.take i) l[i] = cn l[i] := by
  unfold subC; rw [if_neg (not_take u hi)]; rfl
theorem addC_at {cn : List UInt8 → Nat} {l : List (List UInt8)} (u : Up l) {i : Nat} (hi : i < l.length) : addC cn (l.take i) l[i] = cn l[i] := by
  unfold addC; rw [if_neg (not_take u hi)]; rfl
theorem subC_step {cn : List UInt8 → Nat} {l : List (List UInt8)} (u : Up l) {i : Nat} (hi : i < l.length) (s : List UInt8) : subC cn (l.take (i + 1)) s = if s = l[i] then cn l[i] - 1 else subC cn (l.take i) s := by
  unfold subC
  by_cases h2 : s = l[i]
  · subst h2
    rw [if_pos rfl, if_pos ((mem_take1 hi _).2 (.inr rfl))]
  · rw [if_neg h2]
    by_cases h3 : s ∈ l.take i
    · rw [if_pos h3, if_pos ((mem_take1 hi _).2 (.inl h3))]
    · rw [if_neg h3, if_neg (fun e => ((mem_take1 hi _).1 e).elim h3 h2)]
theorem addC_step {cn : List UInt8 → Nat} {l : List (List UInt8)} (u : Up l) {i : Nat} (hi : i < l.length) (s : List UInt8) : addC cn (l.take (i + 1)) s = if s = l[i] then cn l[i] + 1 else addC cn (l.take i) s := by
  unfold addC
  by_cases h2 : s = l[i]
  · subst h2
    rw [if_pos rfl, if_pos ((mem_take1 hi _).2 (.inr rfl))]
  · rw [if_neg h2]
    by_cases h3 : s ∈ l.take i
    · rw [if_pos h3, if_pos ((mem_take1 hi _).2 (.inl h3))]
    · rw [if_neg h3, if_neg (fun e => ((mem_take1 hi _).1 e).elim h3 h2)]
theorem row_vrel {ok : OkC} {m1 m2 : Inj} {vb Mn len cap : Nat} {c : List Value} {v' : Value} {c2 : List Value} (hc : c.take len = c2) (hl : c2.length = c2.length) (hcap : cap ≤ c.length) (hm : m2 Mn = m1 vb)
    (hO : ∀ i, m1 vb = some i → ∃ w, ORel ok m1 w i (.cells c 1 true 0 none)) (hv : VRel m1 (.slice (some ⟨vb, 0, none⟩) len cap) v') : VRel m2 (.slice (some ⟨Mn, 0, none⟩) len len) v' := by
  cases hv with
  | plain h => simp [plain0] at h
  | slice0 => exact .slice0
  | @slice _ _ _ _ c' i h h1 h2 h3 =>
    obtain ⟨w, h0, c', e, lo, hi, g1, g2, g3, _⟩ := hO i h
    rcases h3 with rfl | ⟨q1, q2⟩
    · exact .slice (hm.trans h) (Nat.le_refl _) (by omega) (.inr ⟨by rw [h0]; exact Nat.one_pos, by rw [h0]; omega⟩)
    · exact .slice (hm.trans h) (Nat.le_refl _) (by omega) (.inr ⟨q1, q2⟩)
/-- Of the entries behind those that turned. -/
def outT (cn : List UInt8 → Nat) (vis : List MapEntry) : List (List UInt8) := vis.filterMap fun e => match e.key, e.val with
  | .string s, .bool b => if b != decide (0 < cn s.data.toList) then some s.data.toList else none
  | _, _ => none
theorem outT_app (cn : List UInt8 → Nat) (a b : List MapEntry) : outT cn (a ++ b) = outT cn a ++ outT cn b := List.filterMap_append ..
theorem outT_len (cn : List UInt8 → Nat) (vis : List MapEntry) : (outT cn vis).length ≤ vis.length := List.length_filterMap_le ..
theorem outT_perm (cn : List UInt8 → Nat) {a b : List MapEntry} (h : a.Perm b) : (outT cn a).Perm (outT cn b) := h.filterMap _
theorem outT_one (cn : List UInt8 → Nat) (s : List UInt8) (b : Bool) (k : Nat) : outT cn [⟨str s, .bool b, k⟩] = if b != decide (0 < cn s) then [s] else [] := by
  show List.filterMap _ [_] = _
  simp only [List.filterMap_cons, List.filterMap_nil, str]
  cases (b != decide (0 < cn s)) <;> rfl
theorem was_eq (cn : List UInt8 → Nat) (a b : List (List UInt8)) (s : List UInt8) : lookF (lookF (fun _ => none) cn a) cn b s = if s ∈ a ∨ s ∈ b then some (.bool (decide (0 < cn s))) else none := by
  unfold lookF
  by_cases h1 : s ∈ a <;> by_cases h2 : s ∈ b <;> simp [h1, h2]
theorem out_mem {cn cn2 : List UInt8 → Nat} {es : AM (List UInt8)} (hb : ∀ s v b, (s, v, b) ∈ es → v = .bool (decide (0 < cn s))) (s : List UInt8) : s ∈ outT cn2 (encA str es) ↔ (∃ v b, (s, v, b) ∈ es) ∧ (decide (0 < cn s) != decide (0 < cn2 s)) = true := by
  induction es with
  | nil => simp [encA, outT]
  | cons e es ih =>
    obtain ⟨s', v, b⟩ := e
    have hv := hb s' v b (List.mem_cons_self ..)
    subst hv
    have ih := ih fun s v b h => hb s v b (List.mem_cons_of_mem _ h)
    have e1 : encA str ((s', Value.bool (decide (0 < cn s')), b) :: es) = [⟨str s', .bool (decide (0 < cn s')), b⟩] ++ encA str es := rfl
    rw [e1, outT_app, outT_one, List.mem_append, ih]
    constructor
    · rintro (h | ⟨⟨v, b', h⟩, h2⟩)
      · by_cases hq : (decide (0 < cn s') != decide (0 < cn2 s')) = true
        · rw [if_pos hq] at h
          obtain rfl := List.mem_singleton.1 h
          exact ⟨⟨_, _, List.mem_cons_self ..⟩, hq⟩
        · rw [if_neg hq] at h; cases h
      · exact ⟨⟨v, b', List.mem_cons_of_mem _ h⟩, h2⟩
    · rintro ⟨⟨v, b', h⟩, h2⟩
      rcases List.mem_cons.1 h with h | h
      · cases h
        rw [if_pos h2]
        exact .inl (List.mem_singleton.2 rfl)
      · exact .inr ⟨⟨v, b', h⟩, h2⟩
set_option maxRecDepth 100000 in
set_option maxHeartbeats 8000000 in
theorem Put_n (xb em dm mm cm : Nat) (L : List En) (fe : Int → Option Value) (n : Int) (dv mv : Value) (ds ms : List (List UInt8)) (h : H) (h1 : h.one = []) (rep : Rep h xb em dm mm cm L fe) (hd : RdS h dv ds) (hm : RdS h mv ms) (hn0 : 0 ≤ n)
    (hT : totL L + ds.length + ms.length < 2 ^ 20) (hml : ∀ s ∈ ds, s.length ≤ maxLen) :
    ∃ v h', PutPost xb em dm mm cm L (putL L n (riseL ds) (riseL ms)) fe n h v h' ∧ CallN Try.prog E0 G0 16 [.pointer (some ⟨xb, 0, none⟩), .int .i64 n, dv, mv] h v h' := by
  refine CallN.of_wne env0 (fn := Try.f16) efn16 rfl (by rfl) ?_
  have hn0' : ¬ n < 0 := by omega
  have hx := rep.x
  have me := rep.e
  have ent := rep.en
  refine WNE.seq env0 mixed0 code0 plug1 [] (by kernel_rfl) (by kernel_rfl) ?_
  simp [h1]
  refine WNE.seq env0 mixed0 code0 plug1 [] (by kernel_rfl) (by kernel_rfl) ?_
  simp [h1, hn0']
  refine WNE.seq env0 mixed0 code0 plug1 [] (by kernel_rfl) (by kernel_rfl) ?_
  simp [h1]
  refine WNE.seq env0 mixed0 code0 plug1 [] (by kernel_rfl) (by kernel_rfl) ?_
  simp [h1]
  generalize hF : (T.set _ 11 _ : T Value) = F
  generalize hH : (H.put (H.nw (H.nw (H.nw h _) _) _) _ _) = h4
  have g1 : F.get 1 = some (.int .i64 n) := by rw [← hF]; simp
  have g2 : F.get 2 = some dv := by rw [← hF]; simp
  have g3 : F.get 3 = some mv := by rw [← hF]; simp
  have g4 : F.get 4 = some (.pointer (some ⟨h.next, 0, none⟩)) := by rw [← hF]; simp
  have g10 : F.get 10 = some (.pointer (some ⟨h.next + 2, 0, none⟩)) := by rw [← hF]; simp
  have g11 : F.get 11 = some (.func (.func 29) #[] #[.pointer (some ⟨h.next + 2, 0, none⟩), .pointer (some ⟨h.next, 0, none⟩)]) := by rw [← hF]; simp
  have n4 : h4.next = h.next + 3 := by rw [← hH]; simp
  have f4 : Fr h.next h h4 := by rw [← hH]; exact ((((Fr.refl h1).nw (Nat.le_refl _) _).nw (by simp) _).nw (by simp) _).put (by omega) _
  have p4 : h4.get h.next = some (.cells [.pointer (some ⟨xb, 0, none⟩)] 0 true 0 none) := by rw [← hH]; simp
  have wm4 : h4.get (h.next + 1) = some (.map [] 0) := by rw [← hH]; simp
  have wb4 : h4.get (h.next + 2) = some (.cells [.map (some (h.next + 1))] 0 true 0 none) := by rw [← hH]; simp
  clear hF hH
  have hx4 := (f4.get _ rep.xlt).trans hx
  have me4 := me.of_get (f4.get _ rep.elt)
  obtain ⟨v1, v2, hv, rv1, rv2⟩ : ∃ v1 v2, (fe n).getD (.agg #[.slice none 0 0, .slice none 0 0]) = .agg #[v1, v2] ∧ RdY (fun _ => True) h v1 (dOf L n) ∧ RdY (fun _ => True) h v2 (mOf L n) := by
    have q := ent n
    unfold dOf mOf
    cases hg : getL L n with
    | none => rw [hg] at q; simp only at q ⊢; rw [q]; exact ⟨_, _, rfl, .inl ⟨rfl, rfl⟩, .inl ⟨rfl, rfl⟩⟩
    | some e => rw [hg] at q; obtain ⟨v1, v2, q1, q2, q3⟩ := q; rw [q1]; exact ⟨v1, v2, rfl, q2, q3⟩
  have hlk := lookup_at ko_int und52 zer67 me4 n false
  obtain ⟨a1, k1, rfl⟩ := rv1.rd.sl
  obtain ⟨a2, k2, rfl⟩ := rv2.rd.sl
  simp only [Bool.false_eq_true, if_false, hv] at hlk
  refine WNE.seq env0 mixed0 code0 plug1 [] (by kernel_rfl) (by kernel_rfl) ?_
  simp [-lookupD_eq, f4.one, g1, g4, p4, hx4, hlk]
  refine WNE.seq env0 mixed0 code0 plug1 [] (by kernel_rfl) (by kernel_rfl) ?_
  generalize hF : (T.set _ 12 _ : T Value) = F2
  generalize hH : (H.put (H.nw h4 _) _ _) = h5
  have F2o : ∀ t, t < 12 → F2.get t = F.get t := by
    intro t ht
    rw [← hF]
    simp [show ¬ t = 12 by omega, show ¬ t = 38 by omega, show ¬ t = 37 by omega, show ¬ t = 36 by omega, show ¬ t = 35 by omega, show ¬ t = 34 by omega, show ¬ t = 33 by omega]
  have F12 : F2.get 12 = some (.pointer (some ⟨h4.next, 0, none⟩)) := by rw [← hF]; simp
  have n5 : h5.next = h.next + 4 := by rw [← hH]; simp; omega
  have f5 : Fr h4.next h4 h5 := by rw [← hH]; exact (((Fr.refl f4.one).nw (Nat.le_refl _) _)).put (Nat.le_refl _) _
  have ob5 : h5.get (h.next + 3) = some (.cells [.slice a1 (dOf L n).length k1, .slice a2 (mOf L n).length k2] 0 true 0 none) := by rw [← hH]; simp [n4]
  rw [n4] at F12
  clear hF hH
  have G1 := (F2o 1 (by omega)).trans g1
  have G2 := (F2o 2 (by omega)).trans g2
  have G3 := (F2o 3 (by omega)).trans g3
  have G4 := (F2o 4 (by omega)).trans g4
  have G10 := (F2o 10 (by omega)).trans g10
  have G11 := (F2o 11 (by omega)).trans g11
  clear F2o g1 g2 g3 g4 g10 g11
  have f05 : Fr h.next h h5 := f4.trans (f5.mono (by omega))
  simp [f5.one, G1, G2, G3]
  refine (rise_sp dv ds (by omega) h5 f5.one (hd.fr f05)).mono ?_
  rintro r1 h6 ⟨ga1, f6, _⟩
  simp [f6.one, G3]
  have f06 : Fr h.next h h6 := f05.trans (f6.mono (by omega))
  refine (rise_sp mv ms (by omega) h6 f6.one (hm.fr f06)).mono ?_
  rintro r2 h7 ⟨ga2, f7, _⟩
  have f07 : Fr h.next h h7 := f06.trans (f7.mono (by have := f06.next; omega))
  obtain ⟨b1, l1, rfl⟩ := ga1.rd.sl
  obtain ⟨b2, l2, rfl⟩ := ga2.rd.sl
  simp [f7.one]
  generalize hF : (T.set _ 13 _ : T Value) = F3
  generalize hH : (H.put (H.nw h7 _) _ _) = h8
  have F3o : ∀ t, t < 13 → F3.get t = F2.get t := by
    intro t ht
    rw [← hF]
    simp [show ¬ t = 13 by omega, show ¬ t = 39 by omega, show ¬ t = 40 by omega, show ¬ t = 41 by omega, show ¬ t = 42 by omega, show ¬ t = 43 by omega]
  have F13 : F3.get 13 = some (.pointer (some ⟨h7.next, 0, none⟩)) := by rw [← hF]; simp
  have n8 : h8.next = h7.next + 1 := by rw [← hH]; simp
  have f8 : Fr h7.next h7 h8 := by rw [← hH]; exact (((Fr.refl f7.one).nw (Nat.le_refl _) _)).put (Nat.le_refl _) _
  have nb8 : h8.get h7.next = some (.cells [.slice b1 (riseL ds).length l1, .slice b2 (riseL ms).length l2] 0 true 0 none) := by rw [← hH]; simp
  clear hF hH
  have K1 := (F3o 1 (by omega)).trans G1
  have K4 := (F3o 4 (by omega)).trans G4
  have K10 := (F3o 10 (by omega)).trans G10
  have K11 := (F3o 11 (by omega)).trans G11
  have K12 := (F3o 12 (by omega)).trans F12
  clear F3o G1 G2 G3 G4 G10 G11 F12
  have m6 := f6.next
  have m7 := f7.next
  have up8 : ∀ b, b < h4.next → h8.get b = h4.get b := fun b hb => (f8.get b (by omega)).trans ((f7.get b (by omega)).trans ((f6.get b (by omega)).trans (f5.get b hb)))
  have f08 : Fr h.next h h8 := f07.trans (f8.mono (by omega))
  have p8 := (up8 _ (by omega)).trans p4
  have wm8 := (up8 _ (by omega)).trans wm4
  have wb8 := (up8 _ (by omega)).trans wb4
  have hx8 := (up8 _ (by have := rep.xlt; omega)).trans hx4
  have ob8 : h8.get (h.next + 3) = _ := (f8.get _ (by omega)).trans ((f7.get _ (by omega)).trans ((f6.get _ (by omega)).trans ob5))
  have rd1 : RdS h8 _ (dOf L n) := rv1.rd.fr f08
  have rn1 : RdS h8 _ (riseL ds) := ((ga1.rd.fr f7).fr f8)
  have hcnt := fun s => cnt_le L s
  have c8 : MapAt str h8 cm (cnF (cntL L)) := rep.c.of_get (f08.get _ rep.clt)
  have hdl := dOf_len L n
  have hdl2 := mOf_len L n
  have hrl := riseL_len ds
  refine WNE.seq env0 mixed0 code0 plug1 [] (by kernel_rfl) (by kernel_rfl) ?_
  simp [f8.one, K11, K12, ob8]
  refine (look_sp _ (dOf L n) (h.next + 2) h.next xb em dm mm cm (h.next + 1) (fun _ => none) (cntL L) (fun s => by have := hcnt s; omega) (by omega) h8 f8.one rd1 wb8 p8 hx8 (MapAt.new str wm8) c8 (by have := rep.clt; omega)).mono ?_
  rintro _ h9 ⟨wm9, u9⟩
  have o9 : h9.one = [] := u9.one.trans f8.one
  simp [o9]
  refine WNE.seq env0 mixed0 code0 plug1 [] (by kernel_rfl) (by kernel_rfl) ?_
  have nb9 := (u9.get h7.next (by omega)).trans nb8
  simp [o9, K11, F13, nb9]
  refine (look_sp _ (riseL ds) (h.next + 2) h.next xb em dm mm cm (h.next + 1) _ (cntL L) (fun s => by have := hcnt s; omega) (by omega) h9 o9 ?_ ((u9.get _ (by omega)).trans wb8) ((u9.get _ (by omega)).trans p8) ((u9.get _ (by have := rep.xlt; omega)).trans hx8) wm9 (c8.of_get (u9.get _ (by have := rep.clt; omega))) (by have := rep.clt; omega)).mono ?_
  · exact rn1.map u9 fun c st o fz ty q => by rw [wm8] at q; cases q
  rintro _ hB ⟨wmB, uB⟩
  have oB : hB.one = [] := uB.one.trans o9
  simp [oB]
  generalize hF : (T.set _ 51 _ : T Value) = F4
  have F4o : ∀ t, t < 14 → F4.get t = F3.get t := by
    intro t ht
    rw [← hF]
    simp [show ¬ t = 44 by omega, show ¬ t = 45 by omega, show ¬ t = 46 by omega, show ¬ t = 47 by omega, show ¬ t = 48 by omega, show ¬ t = 49 by omega, show ¬ t = 50 by omega, show ¬ t = 51 by omega]
  clear hF
  have J1 := (F4o 1 (by omega)).trans K1
  have J4 := (F4o 4 (by omega)).trans K4
  have J10 := (F4o 10 (by omega)).trans K10
  have J12 := (F4o 12 (by omega)).trans K12
  have J13 := (F4o 13 (by omega)).trans F13
  clear F4o K1 K4 K10 K11 K12 F13
  have ncm : ∀ c st o fz ty, h9.get (h.next + 1) ≠ some (.cells c st o fz ty) := fun c st o fz ty => wm9.nc c st o fz ty
  have upB : ∀ b, b ≠ h.next + 1 → hB.get b = h8.get b := fun b hb => (uB.get b hb).trans (u9.get b hb)
  have nB : hB.next = h7.next + 1 := by rw [uB.next, u9.next, n8]
  have xltB := rep.xlt
  have eltB := rep.elt
  have dltB := rep.dlt
  have mltB := rep.mlt
  have cltB := rep.clt
  have M0 : Mid hB hB em dm mm cm fe (dF L) (mF L) (cnF (cntL L)) := ⟨me4.of_get ((upB _ (by omega)).trans (up8 _ (by omega))), rep.d.of_get ((upB _ (by omega)).trans (f08.get _ dltB)), rep.m.of_get ((upB _ (by omega)).trans (f08.get _ mltB)), c8.of_get (upB _ (by omega)), rfl, oB, fun _ _ _ _ _ => rfl⟩
  have pB := (upB _ (by omega)).trans p8
  have wbB := (upB _ (by omega)).trans wb8
  have hxB := (upB _ (by omega)).trans hx8
  have obB := (upB _ (by omega)).trans ob8
  have nbB := (upB _ (by omega)).trans nb8
  have hwm8 : ∀ c st o fz ty, h8.get (h.next + 1) ≠ some (.cells c st o fz ty) := fun c st o fz ty q => by rw [wm8] at q; cases q
  have ro1 : RdS hB _ (dOf L n) := (rd1.map u9 hwm8).map uB ncm
  have ro2 : RdS hB _ (mOf L n) := ((rv2.rd.fr f08).map u9 hwm8).map uB ncm
  have rn1' : RdS hB _ (riseL ds) := (rn1.map u9 hwm8).map uB ncm
  have rn2' : RdS hB _ (riseL ms) := ((ga2.rd.fr f8).map u9 hwm8).map uB ncm
  have hcell : ∀ {h' : H} {b : Nat} {c : List Value} {st : Nat} {o : Bool} {fz : Nat} {ty : Option TypeId} {f1 : Int → Option Value} {f2 f3 : List UInt8 × Int → Option Value} {f4 : List UInt8 → Option Value}, Mid hB h' em dm mm cm f1 f2 f3 f4 → hB.get b = some (.cells c st o fz ty) → h'.get b = some (.cells c st o fz ty) := by
    intro h' b c st o fz ty f1 f2 f3 f4 M hb
    refine (M.get b ?_ ?_ ?_ ?_).trans hb
    · rintro rfl; exact M0.e.nc _ _ _ _ _ hb
    · rintro rfl; exact M0.d.nc _ _ _ _ _ hb
    · rintro rfl; exact M0.m.nc _ _ _ _ _ hb
    · rintro rfl; exact M0.c.nc _ _ _ _ _ hb
  have updo := dOf_up rep.up n
  refine WNE.seq env0 mixed0 code0 plug1 [] (by kernel_rfl) (by kernel_rfl) ?_
  simp [oB, J12, obB]
  refine wpd_loop (fun (i : Nat) fr h' => fr.get 55 = some (.int .i64 (i : Int)) ∧ i ≤ (dOf L n).length ∧ Mid hB h' em dm mm cm fe (delF (dF L) n ((dOf L n).take i)) (mF L) (cnF (subC (cntL L) ((dOf L n).take i)))) (fun i => (dOf L n).length - i) 0 ⟨by simp, by simp, by rw [List.take_zero, delF_nil, subC_nil]; exact M0⟩ ?_
  rintro i fr h' ⟨g55, hile, Mi⟩ hfr
  have g1 := hfr 1 rfl
  have g4 := hfr 4 rfl
  have g10 := hfr 10 rfl
  have g12 := hfr 12 rfl
  have g13 := hfr 13 rfl
  have g53 := hfr 53 rfl
  have g54 := hfr 54 rfl
  simp [J1, J4, J10, J12, J13] at g1 g4 g10 g12 g13 g53 g54
  by_cases hi : i < (dOf L n).length
  · have hii : (i : Int) < (dOf L n).length := by omega
    obtain ⟨b, cap2, c, st, own, fz2, ty2, e, e2, e3, e4⟩ := ro1.at hi
    cases e
    have e2' := hcell Mi e2
    have hp' := hcell Mi pB
    have hx' := hcell Mi hxB
    obtain ⟨h'1, q1, M1⟩ := Mi.delD rep.ne (dOf L n)[i] n
    simp [-lookupD_eq, -mapPutD_eq, g53, g54, g55, g4, g1, Mi.one, hi, hii, e2', e3, hp', hx', q1]
    have p1 := hcell M1 pB
    have x1 := hcell M1 hxB
    obtain ⟨c0, hc0⟩ : ∃ c0, cntL L (dOf L n)[i] = c0 + 1 := ⟨cntL L (dOf L n)[i] - 1, by have := dOf_cnt (List.getElem_mem hi); omega⟩
    have hcl := hcnt (dOf L n)[i]
    have lk1 := M1.lookC (dOf L n)[i]
    rw [cnF_get, subC_at updo hi, hc0] at lk1
    have w1 : IntKind.i64.wrap ((c0 + 1 : Nat) - 1 : Int) = (c0 : Int) := by rw [wrap_i64 (by omega) (by omega)]; omega
    have w1b : IntKind.i64.wrap (c0 : Int) = (c0 : Int) := wrap_i64 (by omega) (by omega)
    obtain ⟨h'2, q2, M2⟩ := M1.putC rep.ne (dOf L n)[i] (.int .i64 (c0 : Int))
    have p2 := hcell M2 pB
    have x2 := hcell M2 hxB
    have lk2 := M2.lookC (dOf L n)[i]
    simp only [updF, if_true, Option.getD_some] at lk2
    simp only [Int.natCast_add, Int.natCast_one] at lk1 w1
    have wi : IntKind.i64.wrap ((i : Int) + 1) = ((i + 1 : Nat) : Int) := by rw [wrap_i64 (by omega) (by omega)]; omega
    simp [-lookupD_eq, -mapPutD_eq, g4, g1, M1.one, M2.one, p1, x1, lk1, w1, w1b, q2, p2, x2, lk2]
    by_cases hz : c0 = 0
    · subst hz
      obtain ⟨h'3, q3, M3⟩ := M2.delC rep.ne (dOf L n)[i]
      simp [-lookupD_eq, -mapPutD_eq, g4, g1, g55, M2.one, M3.one, p2, x2, q3, wi]
      refine ⟨i + 1, by omega, rfl, by omega, M3.congr (fun _ => rfl) (fun k => delF_step _ _ hi k) (fun _ => rfl) (fun s => ?_)⟩
      unfold updF cnF
      rw [subC_step updo hi s, hc0]
      by_cases hs : s = (dOf L n)[i]
      · rw [if_pos hs, if_pos hs, if_pos rfl]
      · rw [if_neg hs, if_neg hs, if_neg hs]
    · have hz' : ¬ (c0 : Int) = 0 := by omega
      simp [-lookupD_eq, -mapPutD_eq, g4, g1, g55, M2.one, hz, hz', wi]
      refine ⟨i + 1, by omega, rfl, by omega, M2.congr (fun _ => rfl) (fun k => delF_step _ _ hi k) (fun _ => rfl) (fun s => ?_)⟩
      unfold updF cnF
      rw [subC_step updo hi s, hc0]
      by_cases hs : s = (dOf L n)[i]
      · rw [if_pos hs, if_pos hs, if_neg (by omega)]; rfl
      · rw [if_neg hs, if_neg hs]
  have hii : ¬ (i : Int) < (dOf L n).length := by omega
  obtain rfl : i = (dOf L n).length := by omega
  rw [List.take_length] at Mi
  simp [g53, g54, g55, Mi.one]
  clear hile hi hii hfr g53 g54 g55
  rename_i hA
  have upmo := mOf_up rep.up n
  have obA := hcell Mi obB
  refine WNE.seq env0 mixed0 code0 plug1 [] (by kernel_rfl) (by kernel_rfl) ?_
  simp [Mi.one, g12, obA]
  refine wpd_loop (fun (i : Nat) fr h' => fr.get 89 = some (.int .i64 (i : Int)) ∧ i ≤ (mOf L n).length ∧ Mid hB h' em dm mm cm fe (delF (dF L) n (dOf L n)) (delF (mF L) n ((mOf L n).take i)) (cnF (subC (cntL L) (dOf L n)))) (fun i => (mOf L n).length - i) 0 ⟨by simp, by simp, by rw [List.take_zero, delF_nil]; exact Mi⟩ ?_
  rintro i fr2 h' ⟨g89, hile, Mi2⟩ hfr
  have r1 := hfr 1 rfl
  have r4 := hfr 4 rfl
  have r10 := hfr 10 rfl
  have r12 := hfr 12 rfl
  have r13 := hfr 13 rfl
  have r87 := hfr 87 rfl
  have r88 := hfr 88 rfl
  simp [g1, g4, g10, g12, g13] at r1 r4 r10 r12 r13 r87 r88
  by_cases hi : i < (mOf L n).length
  · have hii : (i : Int) < (mOf L n).length := by omega
    obtain ⟨b, cap2, c, st, own, fz2, ty2, e, e2, e3, e4⟩ := ro2.at hi
    cases e
    have e2' := hcell Mi2 e2
    have hp' := hcell Mi2 pB
    have hx' := hcell Mi2 hxB
    obtain ⟨h'1, q1, M1⟩ := Mi2.delM rep.ne (mOf L n)[i] n
    have wi : IntKind.i64.wrap ((i : Int) + 1) = ((i + 1 : Nat) : Int) := by rw [wrap_i64 (by omega) (by omega)]; omega
    simp [-lookupD_eq, -mapPutD_eq, r87, r88, g89, r4, r1, Mi2.one, M1.one, hi, hii, e2', e3, hp', hx', q1, wi]
    exact ⟨i + 1, by omega, rfl, by omega, M1.congr (fun _ => rfl) (fun _ => rfl) (fun k => delF_step _ _ hi k) (fun _ => rfl)⟩
  have hii : ¬ (i : Int) < (mOf L n).length := by omega
  obtain rfl : i = (mOf L n).length := by omega
  rw [List.take_length] at Mi2
  simp [r87, r88, g89, Mi2.one]
  clear hile hi hii hfr r87 r88 g89 g1 g4 g10 g12 g13 Mi hA obA
  have pA := hcell Mi2 pB
  have xA := hcell Mi2 hxB
  have nbA := hcell Mi2 nbB
  obtain ⟨hC, qC, MC⟩ := Mi2.delE rep.ne n
  have pC := hcell MC pB
  have xC := hcell MC hxB
  have nbC := hcell MC nbB
  refine WNE.seq env0 mixed0 code0 plug1 [] (by kernel_rfl) (by kernel_rfl) ?_
  simp [-lookupD_eq, -mapPutD_eq, Mi2.one, MC.one, r4, r1, pA, xA, qC]
  have wlen : IntKind.i64.wrap (((riseL ds).length : Int) + ((riseL ms).length : Int)) = (((riseL ds).length + (riseL ms).length : Nat) : Int) := by
    have := riseL_len ms
    rw [wrap_i64 (by omega) (by omega)]; omega
  refine WNE.seq env0 mixed0 code0 plug1 [] (by kernel_rfl) (by kernel_rfl) ?_
  obtain ⟨fE, hfE⟩ : ∃ fE : Int → Option Value, fE = fun k => if k = n then (if riseL ds = [] ∧ riseL ms = [] then none else some (.agg #[.slice b1 (riseL ds).length l1, .slice b2 (riseL ms).length l2])) else fe k := ⟨_, rfl⟩
  refine wpd_mid (fun fr' h' => Mid hB h' em dm mm cm fE (delF (dF L) n (dOf L n)) (delF (mF L) n (mOf L n)) (cnF (subC (cntL L) (dOf L n)))) ?_ ?_
  · obtain ⟨hD0, qD, MD0⟩ := MC.putE rep.ne n (.agg #[.slice b1 (riseL ds).length l1, .slice b2 (riseL ms).length l2])
    simp [-lookupD_eq, -mapPutD_eq, MC.one, r4, r1, r13, pC, xC, nbC, wlen]
    by_cases h0 : riseL ds = [] ∧ riseL ms = []
    · have hlen0 : ¬ (0 : Int) < ((riseL ds).length : Int) + ((riseL ms).length : Int) := by rw [h0.1, h0.2]; simp
      simp [hlen0]
      refine MC.congr (fun k => ?_) (fun _ => rfl) (fun _ => rfl) (fun _ => rfl)
      rw [hfE]
      unfold updF
      by_cases hk : k = n
      · rw [if_pos hk]; simp only [hk, if_true, h0.1, h0.2, and_self]
      · rw [if_neg hk]; simp only [hk, if_false]
    · have hlen0 : (0 : Int) < ((riseL ds).length : Int) + ((riseL ms).length : Int) := by
        have : ¬ ((riseL ds).length = 0 ∧ (riseL ms).length = 0) := fun e => h0 ⟨List.eq_nil_of_length_eq_zero e.1, List.eq_nil_of_length_eq_zero e.2⟩
        omega
      simp [-lookupD_eq, -mapPutD_eq, hlen0, MC.one, MD0.one, r4, r1, r13, pC, xC, nbC, qD]
      refine MD0.congr (fun k => ?_) (fun _ => rfl) (fun _ => rfl) (fun _ => rfl)
      rw [hfE]
      unfold updF
      by_cases hk : k = n
      · rw [if_pos hk]; simp only [hk, if_true, h0, if_false]
      · rw [if_neg hk]; simp only [hk, if_false]
  intro fr3 hD hfr MD
  have g1 := hfr 1 rfl
  have g4 := hfr 4 rfl
  have g10 := hfr 10 rfl
  have g13 := hfr 13 rfl
  simp [r1, r4, r10, r13] at g1 g4 g10 g13
  clear hfr r1 r4 r10 r12 r13 pA xA nbA pC xC nbC MC qC Mi2
  simp
  have upd : Up (riseL ds) := riseL_up ds
  have nbD := hcell MD nbB
  obtain ⟨cn1, hcn1⟩ : ∃ cn1, cn1 = subC (cntL L) (dOf L n) := ⟨_, rfl⟩
  rw [← hcn1] at MD
  have hc1 : ∀ s, cn1 s < 2 ^ 20 := fun s => by
    have := hcnt s
    rw [hcn1]; unfold subC; omega
  refine WNE.seq env0 mixed0 code0 plug1 [] (by kernel_rfl) (by kernel_rfl) ?_
  simp [MD.one, g13, nbD]
  refine wpd_loop (fun (i : Nat) fr h' => fr.get 123 = some (.int .i64 (i : Int)) ∧ i ≤ (riseL ds).length ∧ Mid hB h' em dm mm cm fE (addF (delF (dF L) n (dOf L n)) n ((riseL ds).take i)) (delF (mF L) n (mOf L n)) (cnF (addC cn1 ((riseL ds).take i)))) (fun i => (riseL ds).length - i) 0 ⟨by simp, by simp, by rw [List.take_zero, addF_nil, addC_nil]; exact MD⟩ ?_
  rintro i fr4 h' ⟨g123, hile, Mi⟩ hfr
  have r1 := hfr 1 rfl
  have r4 := hfr 4 rfl
  have r10 := hfr 10 rfl
  have r13 := hfr 13 rfl
  have r121 := hfr 121 rfl
  have r122 := hfr 122 rfl
  simp [g1, g4, g10, g13] at r1 r4 r10 r13 r121 r122
  by_cases hi : i < (riseL ds).length
  · have hii : (i : Int) < (riseL ds).length := by omega
    obtain ⟨b, cap2, c, st, own, fz2, ty2, e, e2, e3, e4⟩ := rn1'.at hi
    cases e
    have e2' := hcell Mi e2
    have hp' := hcell Mi pB
    have hx' := hcell Mi hxB
    obtain ⟨h'1, q1, M1⟩ := Mi.putD rep.ne (riseL ds)[i] n (.bool true)
    have p1 := hcell M1 pB
    have x1 := hcell M1 hxB
    have hcl := hc1 (riseL ds)[i]
    have lk1 := M1.lookC (riseL ds)[i]
    rw [cnF_get, addC_at upd hi] at lk1
    have w1 : IntKind.i64.wrap ((cn1 (riseL ds)[i] : Int) + 1) = ((cn1 (riseL ds)[i] + 1 : Nat) : Int) := by rw [wrap_i64 (by omega) (by omega)]; omega
    obtain ⟨h'2, q2, M2⟩ := M1.putC rep.ne (riseL ds)[i] (.int .i64 ((cn1 (riseL ds)[i] + 1 : Nat) : Int))
    have wi : IntKind.i64.wrap ((i : Int) + 1) = ((i + 1 : Nat) : Int) := by rw [wrap_i64 (by omega) (by omega)]; omega
    simp [-lookupD_eq, -mapPutD_eq, -Int.natCast_add, r121, r122, g123, r4, r1, Mi.one, M1.one, M2.one, hi, hii, e2', e3, hp', hx', q1, p1, x1, lk1, w1, q2, wi]
    refine ⟨i + 1, by omega, rfl, by omega, M2.congr (fun _ => rfl) (fun k => addF_step _ _ hi k) (fun _ => rfl) (fun s => ?_)⟩
    unfold updF cnF
    rw [addC_step upd hi s]
    by_cases hs : s = (riseL ds)[i]
    · rw [if_pos hs, if_pos hs, if_neg (by omega)]
    · rw [if_neg hs, if_neg hs]
  have hii : ¬ (i : Int) < (riseL ds).length := by omega
  obtain rfl : i = (riseL ds).length := by omega
  rw [List.take_length] at Mi
  simp [r121, r122, g123, Mi.one]
  clear hile hi hii hfr r121 r122 g123 g1 g4 g10 g13 MD
  have upm : Up (riseL ms) := riseL_up ms
  have nbE := hcell Mi nbB
  refine WNE.seq env0 mixed0 code0 plug1 [] (by kernel_rfl) (by kernel_rfl) ?_
  simp [Mi.one, r13, nbE]
  refine wpd_loop (fun (i : Nat) fr h' => fr.get 145 = some (.int .i64 (i : Int)) ∧ i ≤ (riseL ms).length ∧ Mid hB h' em dm mm cm fE (addF (delF (dF L) n (dOf L n)) n (riseL ds)) (addF (delF (mF L) n (mOf L n)) n ((riseL ms).take i)) (cnF (addC cn1 (riseL ds)))) (fun i => (riseL ms).length - i) 0 ⟨by simp, by simp, by rw [List.take_zero, addF_nil]; exact Mi⟩ ?_
  rintro i fr5 h' ⟨g145, hile, Mi2⟩ hfr
  have g1 := hfr 1 rfl
  have g4 := hfr 4 rfl
  have g10 := hfr 10 rfl
  have g143 := hfr 143 rfl
  have g144 := hfr 144 rfl
  simp [r1, r4, r10, r13] at g1 g4 g10 g143 g144
  have hrm := riseL_len ms
  by_cases hi : i < (riseL ms).length
  · have hii : (i : Int) < (riseL ms).length := by omega
    obtain ⟨b, cap2, c, st, own, fz2, ty2, e, e2, e3, e4⟩ := rn2'.at hi
    cases e
    have e2' := hcell Mi2 e2
    have hp' := hcell Mi2 pB
    have hx' := hcell Mi2 hxB
    obtain ⟨h'1, q1, M1⟩ := Mi2.putM rep.ne (riseL ms)[i] n (.bool true)
    have wi : IntKind.i64.wrap ((i : Int) + 1) = ((i + 1 : Nat) : Int) := by rw [wrap_i64 (by omega) (by omega)]; omega
    simp [-lookupD_eq, -mapPutD_eq, g143, g144, g145, g4, g1, Mi2.one, M1.one, hi, hii, e2', e3, hp', hx', q1, wi]
    exact ⟨i + 1, by omega, rfl, by omega, M1.congr (fun _ => rfl) (fun _ => rfl) (fun k => addF_step _ _ hi k) (fun _ => rfl)⟩
  have hii : ¬ (i : Int) < (riseL ms).length := by omega
  obtain rfl : i = (riseL ms).length := by omega
  rw [List.take_length] at Mi2
  simp [g143, g144, g145, Mi2.one]
  clear hile hi hii hfr g143 g144 g145 r1 r4 r10 r13 Mi nbE nbD
  refine WNE.seq env0 mixed0 code0 plug1 [] (by kernel_rfl) (by kernel_rfl) ?_
  simp [Mi2.one]
  generalize hF : (T.set _ 22 _ : T Value) = F6
  have s4 : F6.get 4 = some (.pointer (some ⟨h.next, 0, none⟩)) := by rw [← hF]; simp [g4]
  have s10 : F6.get 10 = some (.pointer (some ⟨h.next + 2, 0, none⟩)) := by rw [← hF]; simp [g10]
  have s22 : F6.get 22 = some (.slice none 0 0) := by rw [← hF]; simp
  clear hF g1 g4 g10
  have pD := hcell Mi2 pB
  have wD := hcell Mi2 wbB
  have xD := hcell Mi2 hxB
  obtain ⟨es, clock, wm0, mp⟩ := wmB
  have wmD : h'.get (h.next + 1) = some (.map (encA str es) clock) := (Mi2.get _ (by omega) (by omega) (by omega) (by omega)).trans wm0
  have cD := Mi2.c
  obtain ⟨cn2, hcn2⟩ : ∃ cn2, cn2 = addC cn1 (riseL ds) := ⟨_, rfl⟩
  rw [← hcn2] at cD
  have nD := Mi2.next
  have oD := Mi2.one
  have hbool : ∀ s v b, (s, v, b) ∈ es → v = .bool (decide (0 < cntL L s)) ∧ (s ∈ dOf L n ∨ s ∈ riseL ds) := by
    intro s v b hb
    have q := (mp.lk s v).2 ⟨b, hb⟩
    rw [was_eq] at q
    by_cases hc : s ∈ dOf L n ∨ s ∈ riseL ds
    · rw [if_pos hc] at q; cases q; exact ⟨rfl, hc⟩
    · rw [if_neg hc] at q; cases q
  have hkey : ∀ s, (s ∈ dOf L n ∨ s ∈ riseL ds) → ∃ b, (s, Value.bool (decide (0 < cntL L s)), b) ∈ es := fun s hc => (mp.lk s _).1 (by rw [was_eq, if_pos hc])
  have hesl : es.length ≤ (dOf L n ++ riseL ds).length := by
    have hp : (es.map (·.1)).Perm (riseL (dOf L n ++ riseL ds)) := (List.perm_ext_iff_of_nodup mp.kn (riseL_up _).nodup).2 fun s => by
      rw [riseL_mem, List.mem_append]
      constructor
      · intro q
        obtain ⟨⟨s', v, b⟩, hb, rfl⟩ := List.mem_map.1 q
        exact (hbool _ _ _ hb).2
      · intro q
        obtain ⟨b, hb⟩ := hkey s q
        exact List.mem_map.2 ⟨_, hb, rfl⟩
    have h1 := hp.length_eq
    have h2 := riseL_len (dOf L n ++ riseL ds)
    simp only [List.length_map] at h1
    omega
  have hcnt2 : ∀ s, cn2 s = cntL (putL L n (riseL ds) (riseL ms)) s := fun s => by rw [hcn2, hcn1, cnt_putL rep.ris]; rfl
  obtain ⟨T0, hT0⟩ : ∃ T0, T0 = riseL (outT cn2 (encA str es)) := ⟨_, rfl⟩
  obtain ⟨Mn, hMn⟩ : ∃ Mn, Mn = h'.next + 8 * es.length + 16 := ⟨_, rfl⟩
  obtain ⟨rv, hR, hres⟩ : ∃ (rv : Value) (hR : H), (rv, hR) = if T0 = [] then (Value.slice none 0 0, gc0H h' Mn) else (.slice (some ⟨Mn, 0, none⟩) T0.length T0.length, gcH h' Mn (.cells (T0.map str) 1 true 0 none)) := ⟨_, _, rfl⟩
  refine ⟨.tuple #[rv, .int .i64 0], hR, ?_, WN.wf fun wf => ?_⟩
  · have hTl : T0 = toldL L (putL L n (riseL ds) (riseL ms)) := by
      rw [hT0]
      refine (riseL_up _).ext (riseL_up _) fun s => ?_
      rw [riseL_mem, out_mem (fun s v b h => (hbool s v b h).1), told_mem, hcnt2]
      have q := cnt_putL rep.ris n (riseL ds) (riseL ms) s
      have q2 : s ∈ dOf L n → 0 < cntL L s := dOf_cnt
      constructor
      · rintro ⟨_, h2⟩
        by_cases c1 : 0 < cntL L s <;> by_cases c2 : 0 < cntL (putL L n (riseL ds) (riseL ms)) s <;> simp [c1, c2] at h2 ⊢
      · intro h2
        refine ⟨?_, by rcases h2 with ⟨c1, c2⟩ | ⟨c1, c2⟩ <;> simp [c1, c2]⟩
        by_cases hc : s ∈ dOf L n ∨ s ∈ riseL ds
        · obtain ⟨b, hb⟩ := hkey s hc; exact ⟨_, b, hb⟩
        · rw [if_neg (fun e => hc (.inl e)), if_neg (fun e => hc (.inr e))] at q
          omega
    have hRn : h'.next ≤ hR.next ∧ hR.one = [] ∧ (∀ b, b < h'.next → hR.get b = h'.get b) ∧ RdS hR rv T0 ∧ InY (fun b => h'.next ≤ b) rv := by
      by_cases e0 : T0 = []
      · rw [if_pos e0] at hres
        cases hres
        exact ⟨by show h'.next ≤ Mn; omega, rfl, fun b _ => rfl, .inl ⟨none, rfl, e0⟩, .inl rfl⟩
      · rw [if_neg e0] at hres
        cases hres
        refine ⟨by show h'.next ≤ Mn + 1; omega, rfl, fun b hb => by rw [gcH_get, if_neg (by omega)], .inr ⟨Mn, _, _, 1, true, 0, none, rfl, Nat.le_refl _, by rw [gcH_get, if_pos rfl], Nat.lt_succ_self _, ?_, .inr rfl⟩, .inr ⟨Mn, _, _, rfl, by omega⟩⟩
        exact List.take_of_length_le (by rw [List.length_map]; exact Nat.le_refl _)
    obtain ⟨r1, r2, r3, r4, r5⟩ := hRn
    have hnn : h.next ≤ h'.next := by omega
    refine ⟨rv, if riseL ds = [] ∧ riseL ms = [] then none else some (.agg #[.slice b1 (riseL ds).length l1, .slice b2 (riseL ms).length l2]), rfl, by rw [← hTl]; exact r4, ?_, ⟨?_, r5.imp id fun ⟨b, n, c, q1, q2⟩ => ⟨b, n, c, q1, by omega⟩⟩, ?_, by omega, r2⟩
    · have up0 : ∀ b c, True → b < h.next → h.get b = some (.cells c 1 true 0 none) → hR.get b = h.get b := by
        intro b c hy hb hc
        have q8 := (f08.get b hb).trans hc
        have qB := (upB b (by omega)).trans q8
        exact ((r3 b (by omega)).trans (hcell Mi2 qB)).trans hc.symm
      have up5 : ∀ b c, h5.next ≤ b → b < h6.next → h6.get b = some (.cells c 1 true 0 none) → hR.get b = h6.get b := by
        intro b c hy hb hc
        have q8 := (f8.get b (by omega)).trans ((f7.get b (by omega)).trans hc)
        have qB := (upB b (by omega)).trans q8
        exact ((r3 b (by omega)).trans (hcell Mi2 qB)).trans hc.symm
      have up6 : ∀ b c, h6.next ≤ b → b < h7.next → h7.get b = some (.cells c 1 true 0 none) → hR.get b = h7.get b := by
        intro b c hy hb hc
        have q8 := (f8.get b (by omega)).trans hc
        have qB := (upB b (by omega)).trans q8
        exact ((r3 b (by omega)).trans (hcell Mi2 qB)).trans hc.symm
      have hris := rep.ris
      refine ⟨(r3 _ (by omega)).trans (hcell Mi2 hxB), by omega, by omega, by omega, by omega, by omega, rep.ne, (Mi2.e.of_get (r3 _ (by omega))).congr ?_, ?_, (Mi2.d.of_get (r3 _ (by omega))).congr ?_, (Mi2.m.of_get (r3 _ (by omega))).congr ?_, (Mi2.c.of_get (r3 _ (by omega))).congr ?_, putL_ris hris .., ?_, ?_⟩
      · intro k
        rw [hfE]
        rfl
      · intro k
        rw [putL_get hris]
        unfold updF
        by_cases hk : k = n
        · rw [if_pos hk]
          by_cases he : riseL ds = [] ∧ riseL ms = []
          · rw [if_pos he]; simp only [hk, if_true, he, and_self]
          · rw [if_neg he]
            refine ⟨_, _, by simp only [hk, if_true, he, if_false]; rfl, ?_, ?_⟩
            · rcases ga1.rdy with q | ⟨b, cap, c, y1, y2, y3, y4, y5, y6⟩
              · exact .inl q
              · exact .inr ⟨b, cap, c, y1, y2, (up5 b c y5 y4 y3).trans y3, by omega, trivial, y6⟩
            · rcases ga2.rdy with q | ⟨b, cap, c, y1, y2, y3, y4, y5, y6⟩
              · exact .inl q
              · exact .inr ⟨b, cap, c, y1, y2, (up6 b c y5 y4 y3).trans y3, by omega, trivial, y6⟩
        · rw [if_neg hk]
          have q := ent k
          cases hg : getL L k with
          | none => rw [hg] at q; simp only [hk, if_false]; exact q
          | some e =>
            rw [hg] at q
            obtain ⟨v1, v2, y1, y2, y3⟩ := q
            exact ⟨v1, v2, by simp only [hk, if_false]; exact y1, y2.of_get (by omega) up0 (fun b h => h), y3.of_get (by omega) up0 (fun b h => h)⟩
      · rintro ⟨s, k⟩
        unfold addF delF dF
        simp only
        rw [dOf_put hris]
        by_cases hk : k = n
        · subst hk
          rw [if_pos rfl]
          by_cases q : s ∈ riseL ds
          · rw [if_pos ⟨rfl, q⟩, if_pos q]
          · rw [if_neg (fun e => q e.2), if_neg q]
            by_cases q2 : s ∈ dOf L k
            · rw [if_pos ⟨rfl, q2⟩]
            · rw [if_neg (fun e => q2 e.2), if_neg q2]
        · rw [if_neg (fun e => hk e.1), if_neg (fun e => hk e.1), if_neg hk]
      · rintro ⟨s, k⟩
        unfold addF delF mF
        simp only
        rw [mOf_put hris]
        by_cases hk : k = n
        · subst hk
          rw [if_pos rfl]
          by_cases q : s ∈ riseL ms
          · rw [if_pos ⟨rfl, q⟩, if_pos q]
          · rw [if_neg (fun e => q e.2), if_neg q]
            by_cases q2 : s ∈ mOf L k
            · rw [if_pos ⟨rfl, q2⟩]
            · rw [if_neg (fun e => q2 e.2), if_neg q2]
        · rw [if_neg (fun e => hk e.1), if_neg (fun e => hk e.1), if_neg hk]
      · intro s
        rw [← hcn2]
        unfold cnF
        rw [hcnt2]
      · intro e he
        rcases putL_mem hris he with rfl | he
        · exact ⟨riseL_up ds, riseL_up ms⟩
        · exact rep.up e he
      · intro e he s hs
        rcases putL_mem hris he with rfl | he
        · exact hml s ((riseL_mem ds s).1 hs)
        · exact rep.ml e he s hs
    · by_cases he : riseL ds = [] ∧ riseL ms = []
      · rw [if_pos he]; exact .inl rfl
      · rw [if_neg he]
        refine .inr ⟨_, _, rfl, ?_, ?_⟩
        · rcases ga1.rdy with q | ⟨b, cap, c, y1, y2, y3, y4, y5, y6⟩
          · exact .inl q.1
          · exact .inr ⟨b, _, _, y1, by omega, by omega⟩
        · rcases ga2.rdy with q | ⟨b, cap, c, y1, y2, y3, y4, y5, y6⟩
          · exact .inl q.1
          · exact .inr ⟨b, _, _, y1, by omega, by omega⟩
    · intro b hb c1 c2 c3 c4
      rw [r3 b (by omega), Mi2.get b c1 c2 c3 c4, upB b (by omega)]
      exact f08.get b hb
  have heb : es.length < 2 ^ 22 := by rw [List.length_append] at hesl; omega
  clear hcell Mi2 hT
  have hee : ∀ e ∈ encA str es, e.born < clock := by
    intro e he
    obtain ⟨x, hx, rfl⟩ := List.mem_map.1 he
    exact mp.bl x hx
  have hbn : ((encA str es).map (·.born)).Nodup := by
    have : (encA str es).map (·.born) = es.map (·.2.2) := by simp [encA]
    rw [this]; exact mp.bn
  refine WN.seq (WN.mapRange env0 mixed0 code0 plug1 [] (List.dropLast_concat_getLast (by simp)).symm rfl rfl rfl (by simp; exact ⟨rfl, rfl⟩) rfl rfl rfl rfl rfl rfl rfl rfl (by kernel_rfl) (by decide) (by decide) (by decide) (by kernel_rfl) (ib := h'.next) (mb := h.next + 1) hee hbn
    (fun vis fr h3 => h3.get (h.next + 1) = some (.map (encA str es) clock) ∧ fr.get 158 = some (.pointer (some ⟨h'.next, 0, none⟩)) ∧ fr.get 4 = some (.pointer (some ⟨h.next, 0, none⟩)) ∧ (∃ v, fr.get 22 = some v ∧ Gath h'.next h3 v (outT cn2 vis)) ∧ Fr h'.next h' h3 ∧ h3.next ≤ h'.next + 1 + 2 * vis.length) ?_ ?_ ?_ ?_)
  · rintro vis fr h3 ⟨q1, q2, _⟩
    exact ⟨q2, q1⟩
  · rw [← slW_eq]
    simp [oD, s10, wD]
    exact ⟨wmD, s4, ⟨_, s22, .inl ⟨rfl, rfl⟩⟩, ⟨oD, by simp, fun c hc => rfl⟩⟩
  · rintro vis e fr h3 ⟨q1, q2, q3, ⟨v, q4, ga⟩, f3, n3⟩ he hne hvl
    obtain ⟨x, hxe, rfl⟩ := List.mem_map.1 he
    obtain ⟨s, bv, k⟩ := x
    obtain ⟨rfl, hin⟩ := hbool s bv k hxe
    have o3 := f3.one
    have hel : (encA str es).length = es.length := by simp [encA]
    have p3 := (f3.get _ (by omega)).trans pD
    have x3 := (f3.get _ (by omega)).trans xD
    have c3 : MapAt str h3 cm (cnF cn2) := cD.of_get (f3.get _ (by omega))
    have hlk := lookup_at ko_str und54 zer3 c3 s false
    rw [cnF_get] at hlk
    simp only [Bool.false_eq_true, if_false] at hlk
    have hd : decide (0 < (cn2 s : Int)) = decide (0 < cn2 s) := by simp
    have hout : outT cn2 (vis ++ [⟨str s, .bool (decide (0 < cntL L s)), k⟩]) = outT cn2 vis ++ (if decide (0 < cntL L s) != decide (0 < cn2 s) then [s] else []) := by rw [outT_app, outT_one]
    rw [← slW_eq]
    simp [-lookupD_eq, o3, q2, q1]
    rw [← slW_eq]
    simp [-lookupD_eq, -decide_eq_decide, o3, q2, q3, q1, p3, x3, hlk, hd]
    cases hq : (decide (0 < cntL L s) == decide (0 < cn2 s)) with
    | true =>
      rw [show (decide (0 < cntL L s) != decide (0 < cn2 s)) = false by rw [bne, hq]; rfl, if_neg (by simp), List.append_nil] at hout
      simp [-decide_eq_decide, hq]
      refine ⟨q1, by simp [q2], by simp [q3], ⟨v, by simp [q4], ?_⟩, f3, by omega⟩
      rw [hout]
      exact ga
    | false =>
      rw [show (decide (0 < cntL L s) != decide (0 < cn2 s)) = true by rw [bne, hq]; rfl, if_pos rfl] at hout
      have hz1 : zerosD [str []] 1 = [str []] := rfl
      have hol := outT_len cn2 vis
      have n3' := f3.next
      rcases ga with ⟨rfl, e0⟩ | ⟨e0, sl⟩
      · simp [-decide_eq_decide, hq, q4, o3, hz1, -appS_some]
        refine ⟨by simp [q1, show ¬ h.next = h3.next by omega, show ¬ h.next + 1 = h3.next by omega], by simp [q2], by simp [q3], ?_, (f3.nw (by omega) _).nw (by simp; omega) _, by first | omega | (simp; omega)⟩
        rw [hout, e0]
        exact .inr ⟨by simp, h3.next + 1, 1, [str s], rfl, Nat.le_refl _, by omega, by simp, by simp, rfl, rfl⟩
      · obtain ⟨g, cap, c, rfl, _⟩ := id sl
        simp [-decide_eq_decide, hq, q4, o3, hz1, -appS_some]
        obtain ⟨h4', hh4⟩ : ∃ h4', h4' = h3.nw (.cells [str s] 1 true 0 none) := ⟨_, rfl⟩
        rw [← hh4]
        have n4' : h4'.next = h3.next + 1 := by rw [hh4]; rfl
        have f34 : Fr h3.next h3 h4' := by rw [hh4]; exact (Fr.refl o3).nw (Nat.le_refl _) _
        clear hh4
        have f4' : Fr h'.next h' h4' := f3.trans (f34.mono (by omega))
        have s4' := sl.of_get f34.next fun g _ hg => f34.get g hg
        refine SlC.app s4' f4'.one (by omega) (by simp) (by simp) (by simp) (by rfl) (by omega) (by simp) (.inl rfl) ?_
        intro v5 h5' u1 u2 u3 u4 u5
        obtain ⟨gv, cv, Cv, rfl, _⟩ := id u1
        simp [u2.one]
        have n5' := u2.next
        refine ⟨(u2.get _ (by omega)).trans ((f34.get _ (by omega)).trans q1), by simp [q2], by simp [q3], ?_, f4'.trans (u2.mono (by omega)), by first | omega | (simp; omega)⟩
        rw [hout]
        refine .inr ⟨fun e => absurd (List.append_eq_nil_iff.1 e).2 (List.cons_ne_nil _ _), ?_⟩
        rw [List.length_append, List.map_append]
        exact u1
  · rintro vis fr h3 ⟨q1, q2, q3, ⟨v, q4, ga⟩, f3, n3⟩ hperm
    have o3 := f3.one
    rw [← slW_eq]
    simp [o3, q2]
    have hel : (encA str es).length = es.length := by simp [encA]
    have hvl := hperm.length_eq
    have hol := outT_len cn2 vis
    have n33 := f3.next
    have hTT : riseL (outT cn2 vis) = T0 := by rw [hT0]; exact riseL_perm (outT_perm cn2 hperm)
    refine WN.of_wpd env0 mixed0 code0 plug1 [] (by kernel_rfl) (by kernel_rfl) ?_
    simp [o3, q4]
    refine (rise_sp v (outT cn2 vis) (by omega) h3 o3 ga.rd).mono ?_
    rintro r h5' ⟨ga5, f5', n5'⟩
    have fD5 : Fr h'.next h' h5' := f3.trans (f5'.mono f3.next)
    rw [hTT] at ga5
    have hsame : ∀ b u, h'.get b = some u → h5'.get b = some u := by
      intro b u hb
      have hlt : b < h'.next := by
        rcases Nat.lt_or_ge b h'.next with h2 | h2
        · exact h2
        · rw [wf b h2] at hb; cases hb
      exact (fD5.get b hlt).trans hb
    simp [f5'.one]
    rcases ga5 with ⟨rfl, e0⟩ | ⟨e0, g, cap, c, rfl, d2, d3, d4, d5, d6, d7⟩
    · rw [if_pos e0] at hres
      cases hres
      exact Told.gc0 (by omega) (fun _ => wf) (by omega) (fun _ => hsame) (fun m v' hv => hv)
    · rw [if_neg e0] at hres
      cases hres
      rw [Nat.mul_one] at d6 d7
      refine Told.gc (vb := g) (by omega) (fun _ => wf) (by omega) (by omega) d5 (fun z => z) (fun m w i => row_take (by rw [List.length_map]; exact d7)) (fun _ => hsame) ?_
      intro m1 m2 v' hx hm hO hv
      cases hv with
      | plain h => simp [plain0] at h
      | tuple hl =>
        cases hl with
        | cons hv hl =>
          refine .tuple (.cons ?_ (hl.mono hx))
          exact row_vrel (by simpa using d7) rfl (by omega) hm hO hv
end Go.Dm
