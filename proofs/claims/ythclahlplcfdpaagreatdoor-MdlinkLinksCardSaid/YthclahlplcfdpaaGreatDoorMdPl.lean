/- The library's functions that layer 22 calls, as plugs of the machine D's. -/
import Derived.Test.YthclahlplcfdpaaGreatDoorDEnv
import Derived.Test.YthclahlplcfdpaaGreatDoorDEq
import Derived.Test.YthclahlplcfdpaaGreatDoorSortP
import Derived.WalkKit
import Derived.Outline
import Derived.RegionTactic
import Derived.WalkSpells
import Derived.Test.YthclahlplcfdpaaGreatDoorMdLay
import Derived.Test.YthclahlplcfdpaaGreatDoorIxS
set_option linter.unusedVariables false
set_option linter.unusedSimpArgs false
namespace Go.Dm
open Go.Sort Go.RowKit Go.Proofs Go.Maps Go.Shelf
theorem grow_nil (w : World) : grow w #[] = w := by simp [grow]
theorem below_drew (w : World) (n : Nat) : Below w.heap.size w (w.drewN n) := ⟨rfl, rfl, rfl, Nat.le_refl _, fun _ _ => rfl⟩
theorem below_drew1 (w : World) : Below w.heap.size w w.drew := ⟨rfl, rfl, rfl, Nat.le_refl _, fun _ _ => rfl⟩
/-- A row that the model has laid anew: D's own. -/
theorem HRel.bornRow {ok : OkC} {G : Nat} {m : Inj} {h : H} {w w' : World} (R : HRel ok G m h w) (b : Below w.heap.size w w') {N : Nat} {c : Array Value} {e : TypeId} (hN : w.heap.size ≤ N) (hc : w'.heap[N]? = some (.cells c e (0, 0))) {vs : List Value} (hle : vs.length ≤ c.size)
    (hv : ∀ (j : Nat) v, vs[j]? = some v → c[j]? = some v ∧ ∀ m, VRel m v v) :
    HRel ok G (m.add h.addr ⟨N, 0, 1, c.size⟩) (h.new (.cells vs 1 true 0 none)) w' ∧ Evo m h w (m.add h.addr ⟨N, 0, 1, c.size⟩) (h.new (.cells vs 1 true 0 none)) w' := by
  have hlt : N < w'.heap.size := by
    rcases Nat.lt_or_ge N w'.heap.size with h1 | h1
    · exact h1
    · rw [Array.getElem?_eq_none h1] at hc; cases hc
  have hnew : ∀ o : DObj, h.addr < (h.new o).next := fun o => H.lt_new _ _ fun a ha => (R.one a ha).1
  refine ⟨⟨?_, ?_, ?_, ?_, ?_, ?_⟩, ?_⟩
  · intro d u j hd hj
    rw [H.get_new] at hd
    unfold Inj.add at hj
    by_cases e1 : d = h.addr
    · rw [if_pos e1] at hd hj; cases hd; cases hj
      exact ⟨rfl, c, e, 0, 0, hc, rfl, by simpa using hle, fun j v hj => ⟨v, by rw [Nat.zero_add]; exact (hv j v hj).1, (hv j v hj).2 _⟩, fun _ => .inl (Nat.zero_le _), fun t q => (by cases q)⟩
    · rw [if_neg e1] at hd hj
      exact (R.obj d u j hd hj).congr (Inj.ext_add _ R.fresh) (b.block _ (R.dom d j hj).2)
  · intro d d' u u' j j' hd hu hd' hj hj' q
    rw [H.get_new] at hd hd'
    unfold Inj.add at hj hj'
    by_cases e1 : d = h.addr
    · rw [if_pos e1] at hj; cases hj
      by_cases e2 : d' = h.addr
      · rw [e1, e2]
      · rw [if_neg e2] at hj'
        have h3 := (R.dom d' j' hj').2
        have h4 : N = j'.blk := q
        omega
    · rw [if_neg e1] at hj hd
      by_cases e2 : d' = h.addr
      · rw [if_pos e2] at hj'; cases hj'
        have h3 := (R.dom d j hj).2
        have h4 : j.blk = N := q
        omega
      · rw [if_neg e2] at hj' hd'; exact R.inj d d' u u' j j' hd hu hd' hj hj' q
  · intro d j hj
    unfold Inj.add at hj
    by_cases e1 : d = h.addr
    · rw [if_pos e1] at hj; cases hj
      exact ⟨by rw [e1]; exact hnew _, hlt⟩
    · rw [if_neg e1] at hj
      have := R.dom d j hj
      exact ⟨Nat.lt_of_lt_of_le this.1 (H.next_new _ _), Nat.lt_of_lt_of_le this.2 b.size⟩
  · intro a ha
    have ⟨h1, h2⟩ := H.one_new ha
    exact ⟨Nat.lt_of_lt_of_le (R.one a h1).1 (H.next_new _ _), by unfold Inj.add; rw [if_neg h2]; exact (R.one a h1).2⟩
  · intro d hd
    rw [H.get_new, if_neg, R.wf d (Nat.le_trans (H.next_new _ _) hd)]
    have := hnew (.cells vs 1 true 0 none)
    omega
  · intro g hg; obtain ⟨j, h1, h2⟩ := R.glob g hg; exact ⟨j, Inj.ext_add _ R.fresh _ _ h1, h2⟩
  · refine ⟨Inj.ext_add _ R.fresh, b.os, b.tape, b.output, b.size, fun r hr _ => b.block r hr, ?_, ?_⟩
    · intro d i q q'
      unfold Inj.add at q
      by_cases hc : d = h.addr
      · rw [if_pos hc] at q; cases q; exact .inl hN
      · rw [if_neg hc] at q; rw [q] at q'; cases q'
    · rintro r hr ⟨d, u, j, hd, hu, hj, q⟩
      rw [H.get_new] at hd
      unfold Inj.add at hj
      by_cases e1 : d = h.addr
      · rw [if_pos e1] at hj; cases hj
        have h4 : N = r := q
        omega
      · rw [if_neg e1] at hd hj; exact ⟨d, u, j, hd, hu, hj, q⟩
theorem vrel_sl0 {m : Inj} {a : Option Addr} {c : Nat} {v : Value} (hv : VRel m (.slice a 0 c) v) : ∃ a' c', v = .slice a' 0 c' := by
  cases hv with
  | plain h => exact ⟨_, _, rfl⟩
  | slice h1 h2 h3 h4 => exact ⟨_, _, rfl⟩
  | slice0 => exact ⟨_, _, rfl⟩
/-! slices.Compact -/
def cptP (args : List Value) (h : H) : Option (Value × H) := match args with
  | [.slice a n c] => if n = 0 then some (.slice a n c, h) else match a with
    | some ⟨b, o, none⟩ => match h.get b with
      | some (.cells cs st true 0 ty) => match strsD ((cs.drop o).take n) with
        | some zs => if zs.length = n ∧ o + n ≤ cs.length ∧ n < 4611686018427387904 then some (.slice (some ⟨b, o, none⟩) (Lib.compact zs).length c, h.put b (.cells (setAt cs o ((Lib.compact zs ++ List.replicate (zs.length - (Lib.compact zs).length) []).map str)) st true 0 ty)) else none
        | none => none
      | _ => none
    | _ => none
  | _ => none
theorem cpt_len (zs : List (List UInt8)) : (Lib.compact zs).length ≤ zs.length := by
  unfold Lib.compact Lib.compactUpTo
  rw [List.length_map]
  exact Nat.le_trans (List.length_filter_le ..) (by simp)
theorem cpt_ok {ok : OkC} {G : Nat} {args : List Value} {h : H} {v : Value} {h' : H} (hx : cptP args h = some (v, h')) {m : Inj} {w : World} {args' : List Value} (R : HRel ok G m h w) (L : LRel m args args') :
    Calls Tryz.prog 43 args'.toArray w fun e w' => ∃ v', e = .returned v' ∧ Step ok G m h w v h' v' w' := by
  unfold cptP at hx
  split at hx
  · rename_i a n c
    cases L with
    | cons hv L =>
      cases L
      split at hx
      · rename_i hn
        subst hn
        cases hx
        obtain ⟨a', c', rfl⟩ := vrel_sl0 hv
        refine (Tryz.slices_Compact_string_empty a' c' w).mono ?_
        rintro e w' ⟨rfl, rfl⟩
        exact ⟨_, rfl, m, Evo.refl .., R, hv⟩
      · rename_i hn
        split at hx
        · rename_i b o
          split at hx
          · rename_i cs st ty hb
            split at hx
            · rename_i zs hz
              split at hx
              · rename_i hc
                obtain ⟨c1, c2, c3⟩ := hc
                cases hx
                cases hv with
                | plain h => simp [plain0] at h
                | slice0 => exact absurd rfl hn
                | @slice _ _ _ _ c' i h1 h2 h3 h4 =>
                  have hcs : (cs.drop o).take zs.length = zs.map str := by rw [c1]; exact strsD_eq hz
                  have hH := holds_of str R hb h1 hcs (fun x v' h => h.string)
                  have hcl := cpt_len zs
                  have hlen : (Lib.compact zs ++ List.replicate (zs.length - (Lib.compact zs).length) []).length = zs.length := by simp; omega
                  have hcs2 : o + (Lib.compact zs ++ List.replicate (zs.length - (Lib.compact zs).length) []).length ≤ cs.length := by rw [hlen]; omega
                  rw [← c1]
                  refine (Tryz.slices_Compact_string i.blk (o + i.off) c' zs w hH (by omega) (by omega)).mono ?_
                  rintro e w' ⟨rfl, q, rfl⟩
                  have U := row_upd str (n := q) (zs := Lib.compact zs ++ List.replicate (zs.length - (Lib.compact zs).length) []) R hb h1 hcs2 (fun x => .plain rfl) #[]
                  rw [grow_nil] at U
                  exact ⟨_, rfl, m, U.2, U.1, .slice h1 (by omega) h3 h4⟩
              · cases hx
            · cases hx
          · cases hx
        · cases hx
  · cases hx
theorem srt_ok {ok : OkC} {G : Nat} {args : List Value} {h : H} {v : Value} {h' : H} (hx : sortP strsD srtS str args h = some (v, h')) {m : Inj} {w : World} {args' : List Value} (R : HRel ok G m h w) (L : LRel m args args') :
    Calls Tryz.prog 42 args'.toArray w fun e w' => ∃ v', e = .returned v' ∧ Step ok G m h w v h' v' w' :=
  sort_ok (fun h => strsD_eq h) (fun zs => srtS_len zs) (fun m x v' h => h.string) (fun m x => .plain rfl) Tryz.slices_Sort_string_none (fun blk off cap zs w h1 h2 h3 => Tryz.slices_Sort_string blk off cap zs w h1 h2 h3) hx R L
/-! functions of strings alone -/
/-- A variable that holds a number. -/
def numAt (g : Nat) (h : H) : Bool := match h.get g with
  | some (.cells (.int .i64 _ :: _) _ _ _ _) => true
  | _ => false
theorem numAt_cell {ok : OkC} {G : Nat} {m : Inj} {h : H} {w : World} (R : HRel ok G m h w) {g : Nat} (hg : g < G) (hn : numAt g h = true) : ∃ z, w.cell? ⟨g, 0, none⟩ = some (.int .i64 z) := by
  unfold numAt at hn
  split at hn
  · rename_i z cs st own fz ty hb
    obtain ⟨i, h1, h2, h3⟩ := R.glob g hg
    obtain ⟨g0, c', e, lo, hi, g1, g2, g3, g4, _⟩ := R.obj g _ i hb h1
    obtain ⟨v', u1, u2⟩ := g4 0 _ rfl
    have := u2.int
    subst this
    rw [h2] at g1
    rw [h3] at u1
    exact ⟨z, by simp [World.cell?, g1, u1]⟩
  · cases hn
abbrev gMax : Nat := 0
abbrev dat (s : ByteArray) : List UInt8 := s.data.toList
def cutP : List Value → H → Option (Value × H)
  | [.string s, .string p], h => if numAt gMax h = true ∧ s.size < 4294967281 then some (.tuple #[str (Lib.cut (dat s) (dat p)).1, str (Lib.cut (dat s) (dat p)).2.1, .bool (Lib.cut (dat s) (dat p)).2.2], h) else none
  | _, _ => none
def conP : List Value → H → Option (Value × H)
  | [.string s, .string p], h => if numAt gMax h = true ∧ s.size < 4294967281 then some (.bool (Lib.contains (dat s) (dat p)), h) else none
  | _, _ => none
def triP : List Value → H → Option (Value × H)
  | [.string s, .string p], h => match dat p with
    | [c] => if c.toNat < 128 ∧ s.size < 4294967281 then some (str (Lib.trimB (dat s) c), h) else none
    | _ => none
  | _, _ => none
def tsuP : List Value → H → Option (Value × H)
  | [.string s, .string p], h => if s.size < 4294967281 then some (str (Lib.trimSuffix (dat s) (dat p)), h) else none
  | _, _ => none
def hprP : List Value → H → Option (Value × H)
  | [.string s, .string p], h => some (.bool (Lib.hasPrefix (dat s) (dat p)), h)
  | _, _ => none
def cprP : List Value → H → Option (Value × H)
  | [.string s, .string p], h => some (.tuple #[str (Lib.trimPrefix (dat s) (dat p)), .bool (Lib.hasPrefix (dat s) (dat p))], h)
  | _, _ => none
def ibyP : List Value → H → Option (Value × H)
  | [.string s, .int .u8 c], h => some (.int .i64 (Lib.indexByte (dat s) c.toNat.toUInt8), h)
  | _, _ => none
section
variable {ok : OkC} {h h' : H} {m : Inj} {w : World} {args args' : List Value} {v : Value}
theorem two_strs {s p : ByteArray} (L : LRel m [.string s, .string p] args') : args' = [.string s, .string p] := by
  cases L with
  | cons h1 L =>
    cases L with
    | cons h2 L =>
      cases L
      rw [h1.string, h2.string]
theorem cut_ok (hx : cutP args h = some (v, h')) (R : HRel ok G0 m h w) (L : LRel m args args') : Calls Tryz.prog 46 args'.toArray w fun e w' => ∃ v', e = .returned v' ∧ Step ok G0 m h w v h' v' w' := by
  unfold cutP at hx
  split at hx
  · split at hx
    · rename_i s p hc
      cases hx
      obtain rfl := two_strs L
      obtain ⟨z, hz⟩ := numAt_cell R (by decide) hc.1
      refine (Tryz.strings_Cut s p z w hc.2 hz).mono ?_
      rintro e w' ⟨rfl, n, rfl⟩
      obtain ⟨R2, e2⟩ := R.below' (below_drew w n)
      exact ⟨_, rfl, m, e2, R2, .tuple (.cons (.plain rfl) (.cons (.plain rfl) (.cons (.plain rfl) .nil)))⟩
    · cases hx
  · cases hx
theorem con_ok (hx : conP args h = some (v, h')) (R : HRel ok G0 m h w) (L : LRel m args args') : Calls Tryz.prog 108 args'.toArray w fun e w' => ∃ v', e = .returned v' ∧ Step ok G0 m h w v h' v' w' := by
  unfold conP at hx
  split at hx
  · split at hx
    · rename_i s p hc
      cases hx
      obtain rfl := two_strs L
      obtain ⟨z, hz⟩ := numAt_cell R (by decide) hc.1
      refine (Tryz.strings_Contains s p z w hc.2 hz).mono ?_
      rintro e w' ⟨rfl, rfl⟩
      exact ⟨_, rfl, Step.same R (.plain rfl)⟩
    · cases hx
  · cases hx
theorem tri_ok (hx : triP args h = some (v, h')) (R : HRel ok G0 m h w) (L : LRel m args args') : Calls Tryz.prog 60 args'.toArray w fun e w' => ∃ v', e = .returned v' ∧ Step ok G0 m h w v h' v' w' := by
  unfold triP at hx
  split at hx
  · rename_i s p
    split at hx
    · rename_i c hp
      split at hx
      · rename_i hc
        cases hx
        obtain rfl := two_strs L
        obtain ⟨⟨q⟩⟩ := p
        simp only [dat] at hp
        subst hp
        refine (Tryz.strings_Trim_one s c hc.1 w (by omega)).mono ?_
        rintro e w' ⟨rfl, rfl | rfl⟩
        · exact ⟨_, rfl, Step.same R (.plain rfl)⟩
        · obtain ⟨R2, e2⟩ := R.below' (below_drew1 w)
          exact ⟨_, rfl, m, e2, R2, .plain rfl⟩
      · cases hx
    · cases hx
  · cases hx
theorem tsu_ok (hx : tsuP args h = some (v, h')) (R : HRel ok G0 m h w) (L : LRel m args args') : Calls Tryz.prog 47 args'.toArray w fun e w' => ∃ v', e = .returned v' ∧ Step ok G0 m h w v h' v' w' := by
  unfold tsuP at hx
  split at hx
  · split at hx
    · rename_i s p hc
      cases hx
      obtain rfl := two_strs L
      refine (Tryz.strings_TrimSuffix s p w (by omega)).mono ?_
      rintro e w' ⟨rfl, rfl⟩
      exact ⟨_, rfl, Step.same R (.plain rfl)⟩
    · cases hx
  · cases hx
theorem hpr_ok (hx : hprP args h = some (v, h')) (R : HRel ok G0 m h w) (L : LRel m args args') : Calls Tryz.prog 31 args'.toArray w fun e w' => ∃ v', e = .returned v' ∧ Step ok G0 m h w v h' v' w' := by
  unfold hprP at hx
  split at hx
  · rename_i s p
    cases hx
    obtain rfl := two_strs L
    refine (Tryz.strings_HasPrefix s p w).mono ?_
    rintro e w' ⟨rfl, rfl⟩
    exact ⟨_, rfl, Step.same R (.plain rfl)⟩
  · cases hx
theorem cpr_ok (hx : cprP args h = some (v, h')) (R : HRel ok G0 m h w) (L : LRel m args args') : Calls Tryz.prog 107 args'.toArray w fun e w' => ∃ v', e = .returned v' ∧ Step ok G0 m h w v h' v' w' := by
  unfold cprP at hx
  split at hx
  · rename_i s p
    cases hx
    obtain rfl := two_strs L
    refine (Tryz.strings_CutPrefix s p w).mono ?_
    rintro e w' ⟨rfl, rfl⟩
    exact ⟨_, rfl, Step.same R (.tuple (.cons (.plain rfl) (.cons (.plain rfl) .nil)))⟩
  · cases hx
theorem iby_ok (hx : ibyP args h = some (v, h')) (R : HRel ok G0 m h w) (L : LRel m args args') : Calls Tryz.prog 63 args'.toArray w fun e w' => ∃ v', e = .returned v' ∧ Step ok G0 m h w v h' v' w' := by
  unfold ibyP at hx
  split at hx
  · rename_i s c
    cases hx
    cases L with
    | cons h1 L =>
      cases L with
      | cons h2 L =>
        cases L
        rw [h1.string, h2.int]
        refine (Tryz.strings_IndexByte s c w).mono ?_
        rintro e w' ⟨rfl, rfl⟩
        exact ⟨_, rfl, Step.same R (.plain rfl)⟩
  · cases hx
end
/-! strings.Join, strings.Split, strings.FieldsFunc -/
theorem alloc_lies (w : World) (o : Obj) : (w.alloc o).heap[w.heap.size]? = some o := by
  show (w.heap.push o)[w.heap.size]? = _
  simp
def joiP : List Value → H → Option (Value × H)
  | [.slice a n c, .string p], h => if n = 0 then some (str [], h) else match a with
    | some ⟨b, o, none⟩ => match h.get b with
      | some (.cells cs _ _ _ _) => match strsD ((cs.drop o).take n) with
        | some zs => if zs.length = n ∧ n < 1099511627776 ∧ (Lib.join zs (dat p)).length < 4294967281 then some (str (Lib.join zs (dat p)), h) else none
        | none => none
      | _ => none
    | _ => none
  | _, _ => none
def splP : List Value → H → Option (Value × H)
  | [.string s, .string p], h => if numAt gMax h = true ∧ s.size < 4294967281 ∧ 1 ≤ p.size then
      some (.slice (some ⟨h.addr, 0, none⟩) (Lib.countB s p + 1) (Lib.countB s p + 1), h.new (.cells ((Lib.splitB p 0 (Lib.countB s p) s).map Value.string) 1 true 0 none)) else none
  | _, _ => none
section
variable {ok : OkC} {h h' : H} {m : Inj} {w : World} {args args' : List Value} {v : Value}
theorem joi_ok (hx : joiP args h = some (v, h')) (R : HRel ok G0 m h w) (L : LRel m args args') : Calls Tryz.prog 84 args'.toArray w fun e w' => ∃ v', e = .returned v' ∧ Step ok G0 m h w v h' v' w' := by
  unfold joiP at hx
  split at hx
  · rename_i a n c p
    cases L with
    | cons hv L =>
      cases L with
      | cons hp L =>
        cases L
        rw [hp.string]
        split at hx
        · rename_i hn
          subst hn
          cases hx
          obtain ⟨a', c', rfl⟩ := vrel_sl0 hv
          refine (Tryz.strings_Join_none a' c' p w).mono ?_
          rintro e w' ⟨rfl, rfl⟩
          exact ⟨_, rfl, Step.same R (.plain rfl)⟩
        · rename_i hn
          split at hx
          · rename_i b o
            split at hx
            · rename_i cs st own fz ty hb
              split at hx
              · rename_i zs hz
                split at hx
                · rename_i hc
                  obtain ⟨c1, c2, c3⟩ := hc
                  cases hx
                  cases hv with
                  | plain h => simp [plain0] at h
                  | slice0 => exact absurd rfl hn
                  | @slice _ _ _ _ c' i h1 h2 h3 h4 =>
                    have hcs : (cs.drop o).take zs.length = zs.map str := by rw [c1]; exact strsD_eq hz
                    obtain ⟨g0, cc, e, lo, hi, g1, g2, g3, g4, _⟩ := R.obj b _ i hb h1
                    have hl : (zs.map fun z : List UInt8 => (⟨z.toArray⟩ : ByteArray)).map (fun x => x.data.toList) = zs := by rw [List.map_map]; exact (List.map_congr_left (fun _ _ => rfl)).trans (List.map_id _)
                    have hlen : (zs.map fun z : List UInt8 => (⟨z.toArray⟩ : ByteArray)).length = n := by simpa using c1
                    have := Tryz.strings_Join i.blk (o + i.off) c' (zs.map fun z => ⟨z.toArray⟩) p w ?_ (R.dom _ _ h1).2 (by rw [hlen]; omega) (by rw [hlen]; omega) (by rw [hl]; exact Nat.le_trans (Nat.le_of_lt c3) (by decide))
                    · rw [hlen, hl] at this
                      refine this.mono ?_
                      rintro e w' ⟨rfl, hb'⟩
                      obtain ⟨R2, e2⟩ := R.below' hb'
                      exact ⟨_, rfl, m, e2, R2, .plain rfl⟩
                    · intro j x hj
                      rw [List.getElem?_map] at hj
                      cases hz : zs[j]? with
                      | none => rw [hz] at hj; cases hj
                      | some z =>
                        rw [hz] at hj
                        cases hj
                        have hjl : j < zs.length := (List.getElem?_eq_some_iff.1 hz).1
                        have hc : cs[o + j]? = some (str z) := by
                          have := congrArg (fun l => l[j]?) hcs
                          simp only [List.getElem?_take, hjl, if_true, List.getElem?_drop, List.getElem?_map, hz, Option.map_some] at this
                          exact this
                        obtain ⟨v', u1, u2⟩ := g4 _ _ hc
                        rw [u2.string] at u1
                        simp only [World.cell?, g1, Option.isSome_none, Bool.false_eq_true, if_false]
                        rw [show o + i.off + j = i.off + (o + j) by omega]
                        exact u1
                · cases hx
              · cases hx
            · cases hx
          · cases hx
  · cases hx
theorem spl_ok (hx : splP args h = some (v, h')) (R : HRel ok G0 m h w) (L : LRel m args args') : Calls Tryz.prog 105 args'.toArray w fun e w' => ∃ v', e = .returned v' ∧ Step ok G0 m h w v h' v' w' := by
  unfold splP at hx
  split at hx
  · split at hx
    · rename_i s p hc
      cases hx
      obtain rfl := two_strs L
      obtain ⟨z, hz⟩ := numAt_cell R (by decide) hc.1
      refine (Tryz.strings_Split s p z w hc.2.1 hz hc.2.2).mono ?_
      rintro e w' ⟨rfl, rfl⟩
      have hl : (Lib.splitB p 0 (Lib.countB s p) s).length = Lib.countB s p + 1 := Lib.splitB_all p hc.2.2 0 _ s rfl
      obtain ⟨R2, e2⟩ := R.bornRow (N := w.heap.size) (c := ((Lib.splitB p 0 (Lib.countB s p) s).map Value.string).toArray) (e := 9) ((Below.refl _ w).alloc (Nat.le_refl _) _) (Nat.le_refl _) (alloc_lies w _) (vs := (Lib.splitB p 0 (Lib.countB s p) s).map Value.string) (by simp) (fun j v hj => ⟨by simpa using hj, fun m => by
        rw [List.getElem?_map] at hj
        cases hq : (Lib.splitB p 0 (Lib.countB s p) s)[j]? with
        | none => rw [hq] at hj; cases hj
        | some x => rw [hq] at hj; cases hj; exact .plain rfl⟩)
      exact ⟨_, rfl, _, e2, R2, VRel.slice (i := ⟨w.heap.size, 0, 1, _⟩) (Inj.add_self ..) (Nat.le_refl _) (by simp [hl]) (.inr ⟨Nat.one_pos, by simp [hl]⟩)⟩
    · cases hx
  · cases hx
end
/-- A blank of a label, as a rune. -/
def isBl (x : Nat) : Bool := x == 32 || x == 9
abbrev fFold1 : Nat := 83
set_option maxHeartbeats 1000000 in
set_option maxRecDepth 100000 in
theorem fold1_gives (W : World) (x : Nat) (hx : x ≤ 1114111) : FnGives Tryz.prog fFold1 #[] #[encR x] (.bool (isBl x)) W := by
  unfold FnGives
  show Calls Tryz.prog 83 #[.int .i32 x] W _
  by_cases h1 : x = 32
  · subst h1
    go_enter Tryz.func83, Tryz.ntmps83
    go_wp2
    go_ret
    exact ⟨rfl, 0, rfl⟩
  · by_cases h2 : x = 9
    · subst h2
      go_enter Tryz.func83, Tryz.ntmps83
      go_wp2
      go_ret
      exact ⟨rfl, 0, rfl⟩
    · have e1 : ((x : Int) == 32) = false := by simpa using (show ¬ (x : Int) = 32 by omega)
      have e2 : ((x : Int) == 9) = false := by simpa using (show ¬ (x : Int) = 9 by omega)
      have e3 : isBl x = false := by simp [isBl, h1, h2]
      go_enter Tryz.func83, Tryz.ntmps83
      go_wp2
      go_ret
      rw [e3]
      exact ⟨rfl, 0, rfl⟩
def fieP : List Value → H → Option (Value × H)
  | [.string s, .func (.func g) fst cp], h => if g = fFold1 ∧ fst.toList = [] ∧ cp.toList = [] ∧ s.size < 4294967281 then
      some (.slice (some ⟨h.addr, 0, none⟩) (Lib.goFieldsP isBl s).length (Lib.goFieldsP isBl s).length, h.new (.cells ((Lib.goFieldsP isBl s).map Value.string) 1 true 0 none)) else none
  | _, _ => none
section
variable {ok : OkC} {h h' : H} {m : Inj} {w : World} {args args' : List Value} {v : Value}
theorem fie_ok (hx : fieP args h = some (v, h')) (R : HRel ok G0 m h w) (L : LRel m args args') : Calls Tryz.prog 82 args'.toArray w fun e w' => ∃ v', e = .returned v' ∧ Step ok G0 m h w v h' v' w' := by
  unfold fieP at hx
  split at hx
  · rename_i s g fst cp
    split at hx
    · rename_i hc
      obtain ⟨rfl, hf, hcp, hs⟩ := hc
      cases hx
      cases L with
      | cons h1 L =>
        cases L with
        | cons h2 L =>
          cases L
          obtain ⟨fst⟩ := fst
          obtain ⟨cp⟩ := cp
          simp only at hf hcp
          subst hf hcp
          rw [h1.string]
          obtain rfl : ‹Value› = .func (.func fFold1) #[] #[] := by
            cases h2 with
            | plain h => simp [plain0] at h
            | func h1 h2 => cases h1; cases h2; rfl
          refine (Tryz.strings_FieldsFunc_runes fFold1 #[] (enters_of Tryz.func83 (by kernel_rfl) rfl) isBl s w (by omega) (fun W x hx _ => fold1_gives W x hx)).mono ?_
          rintro e w' ⟨A, rfl, hA, hrow, hb⟩
          obtain ⟨hl, hr2⟩ := hrow
          rcases hr2 with ⟨e0, h0⟩ | ⟨N, cap, cur, e0, q1, q2, q3, q4, q5, q6⟩
          · cases e0
          · cases e0
            simp only [Nat.mul_one] at q5 q6
            obtain ⟨R2, e2⟩ := R.bornRow hb q1 q2 (vs := (Lib.goFieldsP isBl s).map Value.string) (by simp; omega) (fun k v hk => by
              refine ⟨?_, fun m => ?_⟩
              · have hk' := hk
                rw [← q6, List.getElem?_take] at hk'
                split at hk'
                · rwa [Array.getElem?_toList] at hk'
                · cases hk'
              · rw [List.getElem?_map] at hk
                cases hq : (Lib.goFieldsP isBl s)[k]? with
                | none => rw [hq] at hk; cases hk
                | some x => rw [hq] at hk; cases hk; exact .plain rfl)
            exact ⟨_, rfl, _, e2, R2, VRel.slice (i := ⟨A, 0, 1, cur.size⟩) (Inj.add_self ..) (Nat.le_refl _) (Nat.le_refl _) (.inl rfl)⟩
    · cases hx
  · cases hx
end
end Go.Dm
