/- The builder's two functions that D does not run: walked in the model. -/
import Derived.Test.YtnmfdjmejpioiaaDoorDEnv
import Derived.Test.YtnmfdjmejpioiaaDoorDEq
import Derived.WalkKit
import Derived.Outline
import Derived.Lib.Bytealg
import Derived.Lib.UnsafeStr
import Derived.RegionTactic
import Derived.WalkSpells
import Derived.Shelf.Strings.Search1
set_option linter.unusedVariables false
set_option linter.unusedSimpArgs false
namespace Go.Dm
open Go.Proofs Go.RowKit
set_option maxRecDepth 100000 in
theorem ix_walk (s : ByteArray) (c : Int) (w : World) :
    Calls Tryd.prog 58 #[.string s, .int .u8 c] w fun e w' => e = .returned (.int .i64 (Lib.indexByte s.data.toList c.toNat.toUInt8)) ∧ w' = w := by
  go_enter Tryd.func58, Tryd.ntmps58
  go_wp2
  rw [run_callFunc_extern Tryd.func76 (by kernel_rfl) (by kernel_rfl) (by kernel_rfl) (e := Extern.BytealgIndexByte.indexByte) (by kernel_rfl), Lib.run_indexByteString]
  simp only [Result.andThen]
  rw [Oper.upon_value]
  go_wp2
  go_ret
  exact ⟨rfl, rfl⟩
def ixP (args : List Value) (h : H) : Option (Value × H) := match args with
  | [.string s, .int .u8 c] => some (.int .i64 (Lib.indexByte s.data.toList c.toNat.toUInt8), h)
  | _ => none
theorem ix_ok {ok : OkC} {G : Nat} {m : Inj} {h : H} {w : World} (R : HRel ok G m h w) {args args' : List Value} {v : Value} {h' : H} (hd : ixP args h = some (v, h')) (hL : LRel m args args') :
    Calls Tryd.prog 58 args'.toArray w fun e w' => ∃ v', e = .returned v' ∧ Step ok G m h w v h' v' w' := by
  unfold ixP at hd
  split at hd
  · cases hd
    cases hL with
    | cons h1 hL =>
      cases hL with
      | cons h2 hL =>
        cases hL
        have := h1.string; subst this
        have := h2.int; subst this
        refine (ix_walk _ _ w).mono ?_
        rintro e w' ⟨rfl, rfl⟩
        exact ⟨_, rfl, Step.same R (.plain rfl)⟩
  · cases hd

set_option maxHeartbeats 1000000 in
set_option maxRecDepth 100000 in
theorem ct_walk (s t : ByteArray) (c : UInt8) (hz : t.size = 1) (ht : t.data.toList = [c]) (w : World) :
    Calls Tryd.prog 61 #[.string s, .string t] w fun e w' => e = .returned (.int .i64 (Lib.countByte s.data.toList c)) ∧ w' = w := by
  go_enter Tryd.func61, Tryd.ntmps61
  go_wp2
  rw [run_callFunc_extern Tryd.func79 (by kernel_rfl) (by kernel_rfl) (by kernel_rfl) (e := Extern.BytealgCount.count) (by kernel_rfl), Lib.run_countString]
  simp only [Result.andThen]
  rw [Oper.upon_value]
  go_wp2
  go_ret
  refine ⟨?_, rfl⟩
  have h0 : 0 < t.size := by omega
  have hb : t[0]'h0 = c := by
    have e : t.data.toList[0]? = some c := by rw [ht]; rfl
    have e2 : t.data[0]? = some c := by rw [← Array.getElem?_toList]; exact e
    obtain ⟨e3, e4⟩ := Array.getElem?_eq_some_iff.1 e2
    exact e4
  simp [hb]
def ctP (args : List Value) (h : H) : Option (Value × H) := match args with
  | [.string s, .string t] => match t.data.toList with
    | [c] => some (.int .i64 (Lib.countByte s.data.toList c), h)
    | _ => none
  | _ => none
theorem ct_ok {ok : OkC} {G : Nat} {m : Inj} {h : H} {w : World} (R : HRel ok G m h w) {args args' : List Value} {v : Value} {h' : H} (hd : ctP args h = some (v, h')) (hL : LRel m args args') :
    Calls Tryd.prog 61 args'.toArray w fun e w' => ∃ v', e = .returned v' ∧ Step ok G m h w v h' v' w' := by
  unfold ctP at hd
  split at hd
  · rename_i s t
    split at hd
    · rename_i c hc
      cases hd
      cases hL with
      | cons h1 hL =>
        cases hL with
        | cons h2 hL =>
          cases hL
          have := h1.string; subst this
          have := h2.string; subst this
          have hz : t.size = 1 := by
            show t.data.size = 1
            rw [← Array.length_toList, hc]; rfl
          refine (ct_walk _ _ _ hz hc w).mono ?_
          rintro e w' ⟨rfl, rfl⟩
          exact ⟨_, rfl, Step.same R (.plain rfl)⟩
    · cases hd
  · cases hd
def X0 : Plug := fun f args h => if f = 58 then ixP args h else if f = 61 then ctP args h else none
theorem plug0 : PlugOk Tryd.prog (okC E0 G0 false) G0 X0 := by
  intro f args h v h' hX m w args' R L
  unfold X0 at hX
  split at hX
  · rename_i e; subst e
    exact ⟨⟨_, Tryd.func58, rfl, by kernel_rfl⟩, ix_ok R hX L⟩
  split at hX
  · rename_i e; subst e
    exact ⟨⟨_, Tryd.func61, rfl, by kernel_rfl⟩, ct_ok R hX L⟩
  · cases hX
end Go.Dm
