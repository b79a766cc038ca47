/- The builder's two functions that D does not run: walked in the model. -/
import Derived.Test.YtnmfdjmejpioiaaDoorDEnv
import Derived.Test.YtnmfdjmejpioiaaDoorDEq
import Derived.WalkKit
import Derived.Outline
import Derived.Lib.Bytealg
import Derived.Lib.UnsafeStr
import Derived.RegionTactic
import Derived.WalkSpells
import Derived.Shelf.Strings.Search1
import Derived.Test.YtnmfdjmejpioiaaDoorPInt
set_option linter.unusedVariables false
set_option linter.unusedSimpArgs false
namespace Go.Dm
open Go.Proofs Go.RowKit
set_option maxRecDepth 100000 in
theorem ix_walk (s : ByteArray) (c : Int) (w : World) :
    Calls Tryd.prog 58 #[.string s, .int .u8 c] w fun e w' => e = .returned (.int .i64 (Lib.indexByte s.data.toList c.toNat.toUInt8)) ∧ w' = w := by
  go_enter Tryd.func58, Tryd.ntmps58
  go_wp2
  rw [run_callFunc_extern Tryd.func76 (by kernel_rfl) (by kernel_rfl) (by kernel_rfl) (e := Extern.BytealgIndexByte.indexByte) (by kernel_rfl), Lib.run_indexByteString]
  simp only [Result.andThen]
  rw [Oper.upon_value]
  go_wp2
  go_ret
  exact ⟨rfl, rfl⟩
def ixP (args : List Value) (h : H) : Option (Value × H) := match args with
  | [.string s, .int .u8 c] => some (.int .i64 (Lib.indexByte s.data.toList c.toNat.toUInt8), h)
  | _ => none
theorem ix_ok {ok : OkC} {G : Nat} {m : Inj} {h : H} {w : World} (R : HRel ok G m h w) {args args' : List Value} {v : Value} {h' : H} (hd : ixP args h = some (v, h')) (hL : LRel m args args') :
    Calls Tryd.prog 58 args'.toArray w fun e w' => ∃ v', e = .returned v' ∧ Step ok G m h w v h' v' w' := by
  unfold ixP at hd
  split at hd
  · cases hd
    cases hL with
    | cons h1 hL =>
      cases hL with
      | cons h2 hL =>
        cases hL
        have := h1.string; subst this
        have := h2.int; subst this
        refine (ix_walk _ _ w).mono ?_
        rintro e w' ⟨rfl, rfl⟩
        exact ⟨_, rfl, Step.same R (.plain rfl)⟩
  · cases hd

set_option maxHeartbeats 1000000 in
set_option maxRecDepth 100000 in
theorem ct_walk (s t : ByteArray) (c : UInt8) (hz : t.size = 1) (ht : t.data.toList = [c]) (w : World) :
    Calls Tryd.prog 61 #[.string s, .string t] w fun e w' => e = .returned (.int .i64 (Lib.countByte s.data.toList c)) ∧ w' = w := by
  go_enter Tryd.func61, Tryd.ntmps61
  go_wp2
  rw [run_callFunc_extern Tryd.func79 (by kernel_rfl) (by kernel_rfl) (by kernel_rfl) (e := Extern.BytealgCount.count) (by kernel_rfl), Lib.run_countString]
  simp only [Result.andThen]
  rw [Oper.upon_value]
  go_wp2
  go_ret
  refine ⟨?_, rfl⟩
  have h0 : 0 < t.size := by omega
  have hb : t[0]'h0 = c := by
    have e : t.data.toList[0]? = some c := by rw [ht]; rfl
    have e2 : t.data[0]? = some c := by rw [← Array.getElem?_toList]; exact e
    obtain ⟨e3, e4⟩ := Array.getElem?_eq_some_iff.1 e2
    exact e4
  simp [hb]
def ctP (args : List Value) (h : H) : Option (Value × H) := match args with
  | [.string s, .string t] => match t.data.toList with
    | [c] => some (.int .i64 (Lib.countByte s.data.toList c), h)
    | _ => none
  | _ => none
theorem ct_ok {ok : OkC} {G : Nat} {m : Inj} {h : H} {w : World} (R : HRel ok G m h w) {args args' : List Value} {v : Value} {h' : H} (hd : ctP args h = some (v, h')) (hL : LRel m args args') :
    Calls Tryd.prog 61 args'.toArray w fun e w' => ∃ v', e = .returned v' ∧ Step ok G m h w v h' v' w' := by
  unfold ctP at hd
  split at hd
  · rename_i s t
    split at hd
    · rename_i c hc
      cases hd
      cases hL with
      | cons h1 hL =>
        cases hL with
        | cons h2 hL =>
          cases hL
          have := h1.string; subst this
          have := h2.string; subst this
          have hz : t.size = 1 := by
            show t.data.size = 1
            rw [← Array.length_toList, hc]; rfl
          refine (ct_walk _ _ _ hz hc w).mono ?_
          rintro e w' ⟨rfl, rfl⟩
          exact ⟨_, rfl, Step.same R (.plain rfl)⟩
    · cases hd
  · cases hd

/-! strconv.ParseInt(s, 10, 64) -/
/-- The model has run on; what D knows is as it was. -/
theorem HRel.below {ok : OkC} {G : Nat} {m : Inj} {h : H} {w w' : World} (R : HRel ok G m h w) (b : Below w.heap.size w w') : HRel ok G m h w' ∧ Evo m h w m h w' := by
  refine ⟨⟨fun c u j hc hj => (R.obj c u j hc hj).congr (Ext.refl m) (b.block _ (R.dom c j hj).2), R.inj, fun c j hj => ⟨(R.dom c j hj).1, Nat.lt_of_lt_of_le (R.dom c j hj).2 b.size⟩, R.one, R.wf, R.glob⟩, ?_⟩
  exact ⟨Ext.refl m, b.os, b.tape, b.output, b.size, fun r hr _ => b.block r hr, fun c i e e' => (by rw [e] at e'; cases e'), fun _ _ h => h⟩
/-- A block that the model has laid anew, and that D will not read. -/
theorem HRel.born {ok : OkC} {G : Nat} {m : Inj} {h : H} {w w' : World} (R : HRel ok G m h w) (b : Below w.heap.size w w') {N : Nat} {c : Array Value} {e : TypeId} {lo hi : Nat} (hN : w.heap.size ≤ N) (hc : w'.heap[N]? = some (.cells c e (lo, hi))) :
    HRel ok G (m.add h.addr ⟨N, 0, 0, c.size⟩) (h.new (.cells [] 0 false 0 none)) w' ∧ Evo m h w (m.add h.addr ⟨N, 0, 0, c.size⟩) (h.new (.cells [] 0 false 0 none)) w' := by
  have hlt : N < w'.heap.size := by
    rcases Nat.lt_or_ge N w'.heap.size with h1 | h1
    · exact h1
    · rw [Array.getElem?_eq_none h1] at hc; cases hc
  have hnew : ∀ o : DObj, h.addr < (h.new o).next := fun o => H.lt_new _ _ fun a ha => (R.one a ha).1
  refine ⟨⟨?_, ?_, ?_, ?_, ?_, ?_⟩, ?_⟩
  · intro d u j hd hj
    rw [H.get_new] at hd
    unfold Inj.add at hj
    by_cases e1 : d = h.addr
    · rw [if_pos e1] at hd hj; cases hd; cases hj
      exact ⟨rfl, c, e, lo, hi, hc, rfl, by simp, fun j v hv => by simp at hv, fun q => (by cases q), fun t q => (by cases q)⟩
    · rw [if_neg e1] at hd hj
      exact (R.obj d u j hd hj).congr (Inj.ext_add _ R.fresh) (b.block _ (R.dom d j hj).2)
  · intro d d' u u' j j' hd hu hd' hj hj' q
    rw [H.get_new] at hd hd'
    unfold Inj.add at hj hj'
    by_cases e1 : d = h.addr
    · rw [if_pos e1] at hd; cases hd; cases hu
    · rw [if_neg e1] at hj hd
      by_cases e2 : d' = h.addr
      · rw [if_pos e2] at hj'; cases hj'
        have h3 := (R.dom d j hj).2
        have h4 : j.blk = N := q
        omega
      · rw [if_neg e2] at hj' hd'; exact R.inj d d' u u' j j' hd hu hd' hj hj' q
  · intro d j hj
    unfold Inj.add at hj
    by_cases e1 : d = h.addr
    · rw [if_pos e1] at hj; cases hj
      exact ⟨by rw [e1]; exact hnew _, hlt⟩
    · rw [if_neg e1] at hj
      have := R.dom d j hj
      exact ⟨Nat.lt_of_lt_of_le this.1 (H.next_new _ _), Nat.lt_of_lt_of_le this.2 b.size⟩
  · intro a ha
    have ⟨h1, h2⟩ := H.one_new ha
    exact ⟨Nat.lt_of_lt_of_le (R.one a h1).1 (H.next_new _ _), by unfold Inj.add; rw [if_neg h2]; exact (R.one a h1).2⟩
  · intro d hd
    rw [H.get_new, if_neg, R.wf d (Nat.le_trans (H.next_new _ _) hd)]
    have := hnew (.cells [] 0 false 0 none)
    omega
  · intro g hg; obtain ⟨j, h1, h2⟩ := R.glob g hg; exact ⟨j, Inj.ext_add _ R.fresh _ _ h1, h2⟩
  · refine ⟨Inj.ext_add _ R.fresh, b.os, b.tape, b.output, b.size, fun r hr _ => b.block r hr, ?_, ?_⟩
    · intro d i q q'
      unfold Inj.add at q
      by_cases hc : d = h.addr
      · rw [if_pos hc] at q; cases q; exact .inl hN
      · rw [if_neg hc] at q; rw [q] at q'; cases q'
    · rintro r hr ⟨d, u, j, hd, hu, hj, q⟩
      rw [H.get_new] at hd
      unfold Inj.add at hj
      by_cases e1 : d = h.addr
      · rw [if_pos e1] at hj; cases hj
        have h4 : N = r := q
        omega
      · rw [if_neg e1] at hd hj; exact ⟨d, u, j, hd, hu, hj, q⟩
def piP (args : List Value) (h : H) : Option (Value × H) := match args with
  | [.string s, .int .i64 10, .int .i64 64] => if s.size ≤ 281474976710656 then match Lib.parseIntB 64 s.data.toList with
    | .ok v => some (.tuple #[.int .i64 v, .nilIface], h)
    | .range => match h.get 3 with
      | some (.cells (.iface _ _ :: _) _ _ _ _) => some (.tuple #[.int .i64 (Lib.intSat 64 s.data.toList), .iface 110 (.pointer (some ⟨h.addr, 0, none⟩))], h.new (.cells [] 0 false 0 none))
      | _ => none
    | .syntax => none
    else none
  | _ => none
theorem pi_ok {ok : OkC} {G : Nat} (hG : 3 < G) {m : Inj} {h : H} {w : World} (R : HRel ok G m h w) {args args' : List Value} {v : Value} {h' : H} (hd : piP args h = some (v, h')) (hL : LRel m args args') :
    Calls Tryd.prog 56 args'.toArray w fun e w' => ∃ v', e = .returned v' ∧ Step ok G m h w v h' v' w' := by
  unfold piP at hd
  split at hd
  · rename_i s
    cases hL with
    | cons h1 hL =>
    cases hL with
    | cons h2 hL =>
    cases hL with
    | cons h3 hL =>
    cases hL
    have := h1.string; subst this
    have := h2.int; subst this
    have := h3.int; subst this
    split at hd
    · rename_i hs
      split at hd
      · rename_i n hn
        cases hd
        refine (Go.Proofs.Tryd.strconv_ParseInt_10_at64_ok s (by omega) n hn w).mono ?_
        rintro e w' ⟨rfl, hw⟩
        have hb : Below w.heap.size w w' := by
          rcases hw with rfl | ⟨t, rfl⟩
          · exact Below.refl _ _
          · exact Lib.bytesWorld_below _ _ _
        have hh := R.below hb
        exact ⟨_, rfl, m, hh.2, hh.1, .tuple (.cons (.plain rfl) (.cons (.plain rfl) .nil))⟩
      · rename_i hn
        split at hd
        · rename_i te pe cl st own fz ty hg
          cases hd
          obtain ⟨i, hi, hi1, hi2⟩ := R.glob 3 hG
          obtain ⟨_, c', e', lo, hi', q1, q2, q3, q4, _⟩ := R.obj _ _ i hg hi
          obtain ⟨v', q5, q6⟩ := q4 0 _ rfl
          obtain ⟨u, rfl, _⟩ := q6.ifacev
          rw [hi1] at q1
          rw [hi2] at q5
          have hcell : w.cell? ⟨3, 0, none⟩ = some (.iface te u) := by
            simp [World.cell?, q1]
            simpa using q5
          refine (Go.Proofs.Tryd.strconv_ParseInt_10_at64_range s hs hn _ w hcell (.inr ⟨_, _, rfl⟩)).mono ?_
          rintro e w' ⟨N, rfl, h4, h5, hb⟩
          have hh := R.born hb h4 h5
          exact ⟨_, rfl, _, hh.2, hh.1, .tuple (.cons (.plain rfl) (.cons (.iface (VRel.ptr (o := 0) (Inj.add_self ..))) .nil))⟩
        · cases hd
      · cases hd
    · cases hd
  · cases hd
def X0 : Plug := fun f args h => if f = 58 then ixP args h else if f = 61 then ctP args h else if f = 56 then piP args h else none
theorem plug0 : PlugOk Tryd.prog (okC E0 G0 false) G0 X0 := by
  intro f args h v h' hX m w args' R L
  unfold X0 at hX
  split at hX
  · rename_i e; subst e
    exact ⟨⟨_, Tryd.func58, rfl, by kernel_rfl⟩, ix_ok R hX L⟩
  split at hX
  · rename_i e; subst e
    exact ⟨⟨_, Tryd.func61, rfl, by kernel_rfl⟩, ct_ok R hX L⟩
  split at hX
  · rename_i e; subst e
    exact ⟨⟨_, Tryd.func56, rfl, by kernel_rfl⟩, pi_ok (by decide) R hX L⟩
  · cases hX
end Go.Dm
