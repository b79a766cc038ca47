/- An index in memory; who mentions a label. -/
import Derived.Test.YthglbdbdhhbkhaaPlugN
set_option linter.unusedVariables false
set_option linter.unusedSimpArgs false
namespace Go.Dm
open Go.Proofs
@[simp] theorem xptr_nil (k : Nat) (a : Addr) : binD E0 .eql 25 (.tmp k) (.const (.pointer none)) (.pointer (some a)) (.pointer none) = some (.bool false) := by
  simp [binD, eqTopD]
  rfl
/-- What a label is said by: (label, number). -/
def keyS (k : List UInt8 × Int) : Value := .agg #[str k.1, .int .i64 k.2]
def mentE (es : List ((List UInt8 × Int) × Nat)) : List MapEntry := es.map fun e => ⟨keyS e.1, .bool true, e.2⟩
/-- The numbers that go with a label. -/
def whoL (es : List ((List UInt8 × Int) × Nat)) (l : List UInt8) : List Int := (es.filter fun e => decide (e.1.1 = l)).map fun e => e.1.2
/-- The numbers of the entries behind that say the label. -/
def outL (l : List UInt8) (vis : List MapEntry) : List Value := vis.filterMap fun e => match e.key with
  | .agg a => match a.toList with
    | [.string s, n] => if s.data.toList = l then some n else none
    | _ => none
  | _ => none
theorem outL_no {k1 l : List UInt8} (hk : ¬ k1 = l) {k2 : Int} {k3 : Nat} : outL l [⟨.agg #[str k1, .int .i64 k2], .bool true, k3⟩] = [] := by
  simp only [outL, List.filterMap_cons, List.filterMap_nil, str]
  rw [if_neg hk]
theorem outL_yes (l : List UInt8) {k2 : Int} {k3 : Nat} : outL l [⟨.agg #[str l, .int .i64 k2], .bool true, k3⟩] = [.int .i64 k2] := by
  simp only [outL, List.filterMap_cons, List.filterMap_nil, str, if_pos]
theorem outL_len (l : List UInt8) (vis : List MapEntry) : (outL l vis).length ≤ vis.length := List.length_filterMap_le ..
theorem outL_app (l : List UInt8) (a b : List MapEntry) : outL l (a ++ b) = outL l a ++ outL l b := List.filterMap_append ..
theorem outL_perm (l : List UInt8) {a b : List MapEntry} (h : a.Perm b) : (outL l a).Perm (outL l b) := h.filterMap _
theorem outL_ment (l : List UInt8) : ∀ es : List ((List UInt8 × Int) × Nat), outL l (mentE es) = (whoL es l).map (Value.int .i64)
  | [] => rfl
  | ⟨⟨k1, k2⟩, k3⟩ :: es => by
    have ih := outL_ment l es
    have e : mentE (((k1, k2), k3) :: es) = [⟨.agg #[str k1, .int .i64 k2], .bool true, k3⟩] ++ mentE es := rfl
    rw [e, outL_app, ih]
    by_cases hk : k1 = l
    · subst hk
      rw [outL_yes]
      simp [whoL]
    · rw [outL_no hk]
      simp [whoL, hk]
theorem intsD_map : ∀ zs : List Int, intsD (zs.map (Value.int .i64)) = some zs
  | [] => rfl
  | z :: zs => by simp [intsD, intsD_map zs]
theorem outL_ints (l : List UInt8) (es : List ((List UInt8 × Int) × Nat)) : ∀ vis : List MapEntry, (∀ e ∈ vis, e ∈ mentE es) → ∃ zs : List Int, outL l vis = zs.map (Value.int .i64)
  | [], _ => ⟨[], rfl⟩
  | e :: vis, h => by
    obtain ⟨zs, hz⟩ := outL_ints l es vis fun x hx => h x (List.mem_cons_of_mem _ hx)
    obtain ⟨⟨⟨k1, k2⟩, k3⟩, _, rfl⟩ := List.mem_map.1 (h e (List.mem_cons_self ..))
    have e2 : (⟨keyS (k1, k2), .bool true, k3⟩ : MapEntry) :: vis = [⟨.agg #[str k1, .int .i64 k2], .bool true, k3⟩] ++ vis := rfl
    show ∃ zs : List Int, outL l ((⟨keyS (k1, k2), .bool true, k3⟩ : MapEntry) :: vis) = _
    rw [e2, outL_app, hz]
    by_cases hk : k1 = l
    · subst hk
      rw [outL_yes]
      exact ⟨k2 :: zs, rfl⟩
    · rw [outL_no hk]
      exact ⟨zs, rfl⟩
structure IxI (h : H) (mm : Nat) (l : List UInt8) (es : List MapEntry) (clock : Nat) (vis : List MapEntry) (fr : T Value) (h' : H) : Prop where
  mp : h'.get mm = some (.map es clock)
  f13 : fr.get 13 = some (.pointer (some ⟨h.next, 0, none⟩))
  f1 : fr.get 1 = some (str l)
  out : (fr.get 5 = some (.slice none 0 0) ∧ outL l vis = []) ∨ ∃ v, fr.get 5 = some v ∧ SlC none 1 h.next h' v (outL l vis) (outL l vis).length ∧ outL l vis ≠ []
  frm : Fr h.next h h'
  nx : h'.next ≤ h.next + 1 + 3 * vis.length
set_option maxRecDepth 100000 in
set_option maxHeartbeats 4000000 in
theorem Who_n (xb em dm mm cm : Nat) (es : List ((List UInt8 × Int) × Nat)) (clock : Nat) (l : List UInt8) (h : H) (h1 : h.one = []) (hx : h.get xb = some (.cells [.map (some em), .map (some dm), .map (some mm), .map (some cm)] 0 true 0 none))
    (hm : h.get mm = some (.map (mentE es) clock)) (hes : ∀ e ∈ es, e.2 < clock) (hnd : (es.map (·.2)).Nodup) (hmm : mm < h.next) (hlen : es.length < 2 ^ 30) :
    CallN Try.prog E0 G0 23 [.pointer (some ⟨xb, 0, none⟩), str l] h (if whoL es l = [] then .slice none 0 0 else .slice (some ⟨h.next + 1 + 4 * es.length, 0, none⟩) (whoL es l).length (whoL es l).length)
      (if whoL es l = [] then gc0H h (h.next + 1 + 4 * es.length) else gcH h (h.next + 1 + 4 * es.length) (.cells ((srtI (whoL es l)).map (Value.int .i64)) 1 true 0 none)) := by
  refine CallN.body env0 (fn := Try.f23) efn23 rfl (by rfl) ?_
  refine WN.seq (WN.of_wpd env0 mixed0 code0 plug1 [] (by kernel_rfl) (by kernel_rfl) ?_)
  simp [h1]
  refine WN.seq (WN.of_wpd env0 mixed0 code0 plug1 [] (by kernel_rfl) (by kernel_rfl) ?_)
  simp [h1]
  refine WN.seq (WN.of_wpd env0 mixed0 code0 plug1 [] (by kernel_rfl) (by kernel_rfl) ?_)
  simp [h1]
  have hee : ∀ e ∈ mentE es, e.born < clock := by
    intro e he
    obtain ⟨x, hx, rfl⟩ := List.mem_map.1 he
    exact hes x hx
  have hbn : ((mentE es).map (·.born)).Nodup := by
    have : (mentE es).map (·.born) = es.map (·.2) := by simp [mentE]
    rw [this]; exact hnd
  refine WN.seq (WN.mapRange env0 mixed0 code0 plug1 [] (List.dropLast_concat_getLast (by simp)).symm rfl rfl rfl (by simp; exact ⟨rfl, rfl⟩) rfl rfl rfl rfl rfl rfl rfl rfl (by kernel_rfl) (by decide) (by decide) (by decide) (by kernel_rfl) (ib := h.next) (mb := mm) hee hbn (fun vis fr h' => IxI h mm l (mentE es) clock vis fr h') ?_ ?_ ?_ ?_)
  · exact fun vis fr h' i => ⟨i.f13, i.mp⟩
  · rw [← slW_eq]
    simp [h1, hx]
    exact ⟨hm, ⟨hm, by simp, by simp, .inl ⟨by simp, rfl⟩, ⟨h1, by simp, fun c hc => rfl⟩, by simp⟩⟩
  · intro vis e fr h' i he hne hvl
    obtain ⟨x, hxe, rfl⟩ := List.mem_map.1 he
    obtain ⟨⟨k1, k2⟩, k3⟩ := x
    have o' := i.frm.one
    have i5 := i.f13
    have i1 := i.f1
    rw [← slW_eq]
    simp [keyS, o', i5, i.mp]
    rw [← slW_eq]
    simp [keyS, o', i5, i1, i.mp]
    obtain ⟨h3, hh3⟩ : ∃ h3, h3 = (h'.nw (.cells [str [], .int .i64 0] 0 true 0 none)).put h'.next (.cells [str k1, .int .i64 k2] 0 true 0 none) := ⟨_, rfl⟩
    rw [← hh3]
    have n3 : h3.next = h'.next + 1 := by rw [hh3]; rfl
    have o3 : h3.one = [] := by rw [hh3]; rfl
    have fn := i.frm.next
    have f3 : Fr h.next h h3 := by rw [hh3]; exact (i.frm.nw fn _).put fn _
    have f33 : Fr h'.next h' h3 := by rw [hh3]; exact ((Fr.refl o').nw (Nat.le_refl _) _).put (Nat.le_refl _) _
    have e3 : h3.get h'.next = some (.cells [str k1, .int .i64 k2] 0 true 0 none) := by rw [hh3]; simp
    have hmlt : mm < h'.next := by omega
    have m3 := (f33.get mm hmlt).trans i.mp
    clear hh3
    by_cases hk : k1 = l
    · subst hk
      have hz1 : zerosD [.int .i64 0] 1 = [.int .i64 0] := rfl
      have hy := outL_yes k1 (k2 := k2) (k3 := k3)
      have hout : outL k1 (vis ++ [⟨.agg #[str k1, .int .i64 k2], .bool true, k3⟩]) = outL k1 vis ++ [.int .i64 k2] := by
        unfold outL at hy ⊢
        rw [List.filterMap_append, hy]
      have inx := i.nx
      rcases i.out with ⟨a1, a2⟩ | ⟨v, a1, a2, a3⟩
      · simp [a1, o3, e3, hz1, -appS_some]
        refine ⟨by simp [m3, show ¬ mm = h3.next + 1 by omega, show ¬ mm = h3.next by omega], by simp [i5], by simp [i1], (.inr ⟨.slice (some ⟨h3.next + 1, 0, none⟩) 1 1, by simp, ?_⟩), (f3.nw (by omega) _).nw (by simp; omega) _, by simp; omega⟩
        rw [hout, a2]
        exact ⟨⟨h3.next + 1, 1, [.int .i64 k2], rfl, Nat.le_refl _, by omega, by simp, by simp, rfl, rfl⟩, by simp⟩
      · obtain ⟨g, cap, c, rfl, _⟩ := id a2
        simp [a1, o3, e3, hz1, -appS_some]
        obtain ⟨h4, hh4⟩ : ∃ h4, h4 = h3.nw (.cells [.int .i64 k2] 1 true 0 none) := ⟨_, rfl⟩
        rw [← hh4]
        have n4 : h4.next = h3.next + 1 := by rw [hh4]; rfl
        have f34 : Fr h3.next h3 h4 := by rw [hh4]; exact (Fr.refl o3).nw (Nat.le_refl _) _
        clear hh4
        have f4 : Fr h.next h h4 := f3.trans (f34.mono (by omega))
        have s4 := (a2.of_get f33.next fun g _ hg => f33.get g hg).of_get f34.next fun g _ hg => f34.get g hg
        have hol := outL_len k1 vis
        have hml : (mentE es).length = es.length := by simp [mentE]
        refine SlC.app s4 f4.one (by omega) (by simp) (by simp) (by simp) (by rfl) (by omega) (by simp) (.inl rfl) ?_
        intro v5 h5 q1 q2 q3 q4 q5
        obtain ⟨gv, cv, Cv, rfl, _⟩ := id q1
        simp [q2.one]
        have n5 := q2.next
        refine ⟨(q4 mm (by omega) ?_).trans ((f34.get mm (by omega)).trans m3), by simp [i5], by simp [i1], (.inr ⟨.slice (some ⟨gv, 0, none⟩) ((outL k1 vis).length + 1) cv, by simp, by rw [hout]; simpa using q1, by rw [hout]; simp⟩), f4.trans q2, by simp; omega⟩
        rintro g y1 y2 e rfl
        cases e
        obtain ⟨g, cap, c', e, _, _, _, h5, _⟩ := s4
        cases e
        rw [(f34.get _ (by omega)).trans m3] at h5
        cases h5
    · simp [hk]
      have hout : outL l (vis ++ [⟨.agg #[str k1, .int .i64 k2], .bool true, k3⟩]) = outL l vis := by
        have := outL_no (k2 := k2) (k3 := k3) hk
        unfold outL at this ⊢
        rw [List.filterMap_append, this, List.append_nil]
      refine ⟨m3, by simp [i5], by simp [i1], ?_, f3, by simp; have := i.nx; omega⟩
      rw [hout]
      rcases i.out with ⟨a1, a2⟩ | ⟨v, a1, a2, a3⟩
      · exact .inl ⟨by simp [a1], a2⟩
      · exact .inr ⟨v, by simp [a1], a2.of_get f33.next (fun g _ hg => f33.get g hg), a3⟩
  · intro vis fr h' i hp
    have o' := i.frm.one
    have i5 := i.f13
    rw [← slW_eq]
    simp [o', i5]
    refine WN.of_wpd env0 mixed0 code0 plug1 [] (by kernel_rfl) (by kernel_rfl) ?_
    rcases i.out with ⟨a1, a2⟩ | ⟨v, a1, a2, a3⟩
    · have hw : whoL es l = [] := by
        have h2 := (outL_perm l hp).length_eq
        rw [a2, outL_ment] at h2
        exact List.eq_nil_of_length_eq_zero (by simpa using h2.symm)
      simp [a1, o', hw]
      refine CallW.plug (v := .tuple #[]) (h' := h') (by simp [X1, sortP]) ?_
      simp [a1, o']
      have inx := i.nx
      have hpl := hp.length_eq
      have hml : (mentE es).length = es.length := by simp [mentE]
      exact Told.gc0 (by omega) (fun z => z) (by omega) (fun wf b u hb => by
        have hlt : b < h.next := by
          rcases Nat.lt_or_ge b h.next with h2 | h2
          · exact h2
          · rw [wf b h2] at hb; cases hb
        exact (i.frm.get b hlt).trans hb) (fun m v' hv => hv)
    · obtain ⟨zs, hz⟩ := outL_ints l es vis fun x hx => hp.mem_iff.1 hx
      obtain ⟨g, cap, c, rfl, b2, b3, b4, b5, b6, b7⟩ := a2
      rw [hz] at b2 b7 a3
      simp only [List.length_map, Nat.mul_one] at b2 b6 b7
      have hzp : zs.Perm (whoL es l) := by
        have h2 := outL_perm l hp
        rw [outL_ment, hz] at h2
        have h3 := h2.filterMap (fun v => match v with | .int _ z => some z | _ => none)
        simpa [List.filterMap_map, Function.comp_def] using h3
      have hzl := hzp.length_eq
      have hw : ¬ whoL es l = [] := by
        intro e
        rw [e] at hzl
        simp only [List.length_nil, List.length_eq_zero_iff] at hzl
        exact a3 (by rw [hzl]; rfl)
      have hol := outL_len l vis
      have hpl := hp.length_eq
      have hml : (mentE es).length = es.length := by simp [mentE]
      rw [hz] at hol
      simp only [List.length_map] at hol
      simp [a1, o', hz]
      have hl0 : ¬ zs.length = 0 := fun e => a3 (by rw [List.eq_nil_of_length_eq_zero e]; rfl)
      have hcl : zs.length ≤ c.length := by omega
      refine CallW.plug (v := .tuple #[]) (h' := h'.put g (.cells (setAt c 0 ((srtI zs).map (Value.int .i64))) 1 true 0 none)) (by simp [X1, sortP, hl0, b5, b7, intsD_map, hcl]; omega) ?_
      simp [a1, o', hz]
      rw [if_neg hw, if_neg hw]
      have inx := i.nx
      have hsl : (srtI zs).length = zs.length := by simp [srtI]
      rw [show srtI (whoL es l) = srtI zs from srtI_perm hzp.symm, ← hzl]
      refine Told.row (Nat.le_refl _) (fun z => z) (by simp; omega) b3 (by simp; rfl) ?_ (by simp [hsl]) ?_ ?_
      · rw [setAt_eq _ _ _ (by simp [hsl]; omega)]
        simp [hsl]
      · rw [setAt_length]; omega
      · intro wf b u hb
        have hlt : b < h.next := by
          rcases Nat.lt_or_ge b h.next with h2 | h2
          · exact h2
          · rw [wf b h2] at hb; cases hb
        rw [H.get_put, if_neg (by omega)]
        exact (i.frm.get b hlt).trans hb
end Go.Dm
