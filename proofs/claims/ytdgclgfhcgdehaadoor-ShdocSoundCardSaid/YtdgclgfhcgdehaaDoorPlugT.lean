/- The builder's two functions that D does not run: walked in the model. -/
import Derived.Test.YtdgclgfhcgdehaaDoorDEnv
import Derived.Test.YtdgclgfhcgdehaaDoorDEq
import Derived.WalkKit
import Derived.Outline
import Derived.Lib.Builder
import Derived.Lib.UnsafeStr
import Derived.RegionTactic
import Derived.WalkSpells
import Derived.Shelf.Strings.Search1
set_option linter.unusedVariables false
set_option linter.unusedSimpArgs false
namespace Go.Dm
open Go.Proofs Go.RowKit

theorem cc_info : (Tryd.prog.info? 109) = some Tryd.t109 := by kernel_rfl
theorem cc_lies {n : Nat} (hn : 2 ≤ n) : liesAt Tryd.prog Tryd.prog.depth 109 (n / Tryd.prog.cellsOf 109) 0 109 1 = true := by
  have hc : Tryd.prog.cellsOf 109 = 2 := by kernel_rfl
  have hd : Tryd.prog.depth = (2 * (Tryd.prog.types.size + Made.depth) + 1) + 1 := rfl
  rw [hd, hc]
  simp only [liesAt, Bool.or_eq_true]
  left
  rw [hd]
  have : 1 ≤ n / 2 := by omega
  simp [rowAt, hc, sameLayout, this]
set_option maxHeartbeats 2000000 in
set_option maxRecDepth 100000 in
theorem cc_fresh (b n : Nat) (w : World) (h0 : w.cell? ⟨b, 0, none⟩ = some (.pointer none)) (hsh : w.shape? b = some (109, n)) (hn : 2 ≤ n) (hfz : w.frozen? ⟨b, 0, none⟩ = false) :
    Calls Tryd.prog 72 #[.pointer (some ⟨b, 0, none⟩)] w fun e w' => e = .returned (.tuple #[]) ∧ w' = w.setCell ⟨b, 0, none⟩ (.pointer (some ⟨b, 0, none⟩)) := by
  have hl := cc_lies hn
  go_enter Tryd.func72, Tryd.ntmps72
  go_wp2
  rw [Lib.run_to_unsafe w ⟨b, 0, none⟩ Tryd.underlying107 Tryd.underlying123 cc_info (by decide) hsh (show 0 < n by omega)]
  simp only [Result.andThen]
  rw [Oper.upon_value]
  go_wp2
  rw [run_callFunc_extern Tryd.func77 (by kernel_rfl) (by kernel_rfl) (by kernel_rfl) (e := Extern.AbiNoEscape.same) (by kernel_rfl)]
  rw [Lib.run_noEscape]
  simp only [Result.andThen]
  rw [Oper.upon_value]
  go_wp2
  rw [Lib.run_from_unsafe w ⟨b, 0, none⟩ Tryd.underlying123 Tryd.underlying107 cc_info hsh hl]
  simp only [Result.andThen]
  rw [Oper.upon_value]
  go_wp2
  go_end0
  exact ⟨rfl, rfl⟩
set_option maxHeartbeats 2000000 in
set_option maxRecDepth 100000 in
theorem cc_used (b : Nat) (w : World) (h0 : w.cell? ⟨b, 0, none⟩ = some (.pointer (some ⟨b, 0, none⟩))) :
    Calls Tryd.prog 72 #[.pointer (some ⟨b, 0, none⟩)] w fun e w' => e = .returned (.tuple #[]) ∧ w' = w := by
  go_enter Tryd.func72, Tryd.ntmps72
  go_wp2
  rw [Lib.run_neq_ptr_same w _ Tryd.underlying107 cc_info]
  go_wp2
  go_end0
  exact ⟨rfl, rfl⟩
def SameW (w w' : World) : Prop := w'.heap = w.heap ∧ w'.os = w.os ∧ w'.tape = w.tape ∧ w'.output = w.output
set_option maxHeartbeats 2000000 in
set_option maxRecDepth 100000 in
theorem sb_nil (b o : Nat) (w : World) (h1 : w.cell? ⟨b, o + 1, none⟩ = some (.slice none 0 0)) :
    Calls Tryd.prog 65 #[.pointer (some ⟨b, o, none⟩)] w fun e w' => e = .returned (.string ⟨#[]⟩) ∧ SameW w w' := by
  have hUS : ∀ (W : World) (q : Option Addr), (Builtin.unsafeString_ #[121, 3] 9 #[.pointer q, .int .i64 0]).run Tryd.prog W = .ok (.string .empty) W := fun W q => Lib.run_unsafeString_none W _ _ _ q
  have c1 : w.drew.cell? ⟨b, o + 1, none⟩ = some (.slice none 0 0) := h1
  have hSD : (Builtin.unsafeSliceData_ #[90] 121 #[.slice none 0 0]).run Tryd.prog w.drew = .ok (.pointer none) w.drew := rfl
  go_enter Tryd.func65, Tryd.ntmps65
  go_wp2
  go_region
  all_goals (go_wp2; go_ret; exact ⟨rfl, rfl, rfl, rfl, rfl⟩)
set_option maxHeartbeats 2000000 in
set_option maxRecDepth 100000 in
theorem sb_row (b o g cap n : Nat) (l : List UInt8) (w : World) (h1 : w.cell? ⟨b, o + 1, none⟩ = some (.slice (some ⟨g, 0, none⟩) l.length cap)) (h0 : l ≠ []) (hcap : l.length ≤ cap) (hsh : w.shape? g = some (5, n)) (hn : l.length ≤ n) (h63 : l.length ≤ 9223372036854775807)
    (hcell : ∀ (j : Nat) x, l[j]? = some x → w.cell? ⟨g, j, none⟩ = some (.int .u8 x.toNat)) :
    Calls Tryd.prog 65 #[.pointer (some ⟨b, o, none⟩)] w fun e w' => e = .returned (.string ⟨l.toArray⟩) ∧ SameW (w.freeze ⟨g, 0, none⟩ l.length) w' := by
  have hl0 : l.length ≠ 0 := by simpa using h0
  have c1 : w.drew.cell? ⟨b, o + 1, none⟩ = some (.slice (some ⟨g, 0, none⟩) l.length cap) := h1
  have hSD : (Builtin.unsafeSliceData_ #[90] 121 #[.slice (some ⟨g, 0, none⟩) l.length cap]).run Tryd.prog w.drew = .ok (.pointer (some ⟨g, 0, none⟩)) w.drew :=
    Lib.run_unsafeSliceData_row _ _ _ _ _ _ (by omega)
  have hc8 : Tryd.prog.cellsOf 5 = 1 := by kernel_rfl
  have hUS : (Builtin.unsafeString_ #[121, 3] 9 #[.pointer (some ⟨g, 0, none⟩), .int .i64 l.length]).run Tryd.prog w.drew = .ok (.string ⟨l.toArray⟩) (w.drew.freeze ⟨g, 0, none⟩ l.length) := by
    refine Lib.run_unsafeString_row w.drew 121 3 9 5 Tryd.underlying121 hc8 g n hsh l h0 hn h63 ?_
    intro j x hx
    have := hcell j x hx
    by_cases hj : j = 0
    · subst hj; simpa [Addr.add] using this
    · simpa [Addr.add, hj] using this
  have s1 : SameW (w.freeze ⟨g, 0, none⟩ l.length) (w.drew.freeze ⟨g, 0, none⟩ l.length) := by
    unfold World.freeze
    rw [if_neg hl0, if_neg hl0]
    exact ⟨rfl, rfl, rfl, rfl⟩
  go_enter Tryd.func65, Tryd.ntmps65
  go_wp2
  go_region
  all_goals (go_wp2; go_ret; exact ⟨rfl, s1⟩)

/-! ### the two in D -/
def ccO (T : TypeId) (b : Nat) (h : H) (x : Option DObj) : Option (Value × H) := match x with
  | some (.cells c s true fz ty) => if ty = some T ∧ 2 ≤ c.length then match (c[0]? : Option Value) with
      | some (.pointer none) => (stCells b 0 [.pointer (some ⟨b, 0, none⟩)] h).map fun h' => (.tuple #[], h')
      | some (.pointer (some a)) => if a = ⟨b, 0, none⟩ then some (.tuple #[], h) else none
      | _ => none
    else none
  | _ => none
def ccP (T : TypeId) (args : List Value) (h : H) : Option (Value × H) := match args with
  | [.pointer (some ⟨b, 0, none⟩)] => ccO T b h (h.get b)
  | _ => none
def bytesX : List Value → Option (List UInt8)
  | [] => some []
  | .int .u8 n :: vs => if 0 ≤ n ∧ n < 256 then (bytesX vs).map (UInt8.ofNat n.toNat :: ·) else none
  | _ => none
theorem bytesX_map (l : List UInt8) : bytesX (l.map fun b => .int .u8 b.toNat) = some l := by
  induction l with
  | nil => rfl
  | cons b l ih =>
    have := b.toNat_lt
    have h : (0 : Int) ≤ b.toNat ∧ (b.toNat : Int) < 256 := by omega
    simp only [List.map_cons, bytesX, h, and_self, if_true, ih, Option.map_some]
    simp
def sbB (T : TypeId) (g len : Nat) (h : H) (x : Option DObj) : Option (Value × H) := match x with
  | some (.cells c s true fz ty) => if ty = some T ∧ 0 < len ∧ len ≤ c.length ∧ len < 2 ^ 62 then match bytesX (c.take len) with
      | some l => some (str l, h.put g (.cells c s true (max fz len) ty))
      | none => none
    else none
  | _ => none
def sbV (T : TypeId) (h : H) (v : Option Value) : Option (Value × H) := match v with
  | some (.slice none 0 0) => some (str [], h)
  | some (.slice (some ⟨g, 0, none⟩) len _) => sbB T g len h (h.get g)
  | _ => none
def sbO (T : TypeId) (o : Nat) (h : H) (x : Option DObj) : Option (Value × H) := match x with
  | some (.cells c _ _ _ _) => sbV T h (c[o + 1]? : Option Value)
  | _ => none
def sbP (T : TypeId) (args : List Value) (h : H) : Option (Value × H) := match args with
  | [.pointer (some ⟨b, o, none⟩)] => sbO T o h (h.get b)
  | _ => none
set_option maxHeartbeats 1000000 in
set_option maxRecDepth 100000 in
theorem ix_walk (s : ByteArray) (c : Int) (w : World) :
    Calls Tryd.prog 73 #[.string s, .int .u8 c] w fun e w' => e = .returned (.int .i64 (Lib.indexByte s.data.toList c.toNat.toUInt8)) ∧ w' = w := by
  go_enter Tryd.func73, Tryd.ntmps73
  go_wp2
  rw [run_callFunc_extern Tryd.func78 (by kernel_rfl) (by kernel_rfl) (by kernel_rfl) (e := Extern.BytealgIndexByte.indexByte) (by kernel_rfl), Lib.run_indexByteString]
  simp only [Result.andThen]
  rw [Oper.upon_value]
  go_wp2
  go_ret
  exact ⟨rfl, rfl⟩
def ixP (args : List Value) (h : H) : Option (Value × H) := match args with
  | [.string s, .int .u8 c] => some (.int .i64 (Lib.indexByte s.data.toList c.toNat.toUInt8), h)
  | _ => none
theorem ix_ok {ok : OkC} {G : Nat} {m : Inj} {h : H} {w : World} (R : HRel ok G m h w) {args args' : List Value} {v : Value} {h' : H} (hd : ixP args h = some (v, h')) (hL : LRel m args args') :
    Calls Tryd.prog 73 args'.toArray w fun e w' => ∃ v', e = .returned v' ∧ Step ok G m h w v h' v' w' := by
  unfold ixP at hd
  split at hd
  · cases hd
    cases hL with
    | cons h1 hL =>
      cases hL with
      | cons h2 hL =>
        cases hL
        have := h1.string; subst this
        have := h2.int; subst this
        refine (ix_walk _ _ w).mono ?_
        rintro e w' ⟨rfl, rfl⟩
        exact ⟨_, rfl, Step.same R (.plain rfl)⟩
  · cases hd
def X0 : Plug := fun f args h => if f = 73 then ixP args h else if f = 72 then ccP 109 args h else if f = 65 then sbP 5 args h else none

section
variable {ok : OkC} {G : Nat} {m : Inj} {h : H} {w : World} (R : HRel ok G m h w)
theorem cell_at {b o : Nat} {c' : Array Value} {e : TypeId} {f : Nat × Nat} (h1 : w.heap[b]? = some (.cells c' e f)) : w.cell? ⟨b, o, none⟩ = c'[o]? := cell_of h1 o
theorem shape_at {b : Nat} {c' : Array Value} {e : TypeId} {f : Nat × Nat} (h1 : w.heap[b]? = some (.cells c' e f)) : w.shape? b = some (e, c'.size) := by simp [World.shape?, h1]
include R in
theorem cc_ok {args args' : List Value} {v : Value} {h' : H} (hd : ccP 109 args h = some (v, h')) (hL : LRel m args args') :
    Calls Tryd.prog 72 args'.toArray w fun e w' => ∃ v', e = .returned v' ∧ Step ok G m h w v h' v' w' := by
  unfold ccP at hd
  split at hd
  · rename_i b
    cases hL with
    | cons hv hn =>
      cases hn
      obtain ⟨i, hi, _, rfl⟩ := hv.pointer
      simp only at hi
      unfold ccO at hd
      split at hd
      · rename_i c s fz ty hb
        split at hd
        · rename_i hc
          obtain ⟨hty, hlen⟩ := hc
          obtain ⟨h0, c', e, lo, hi', h1, h2, h3, h4, h5, h6⟩ := R.obj b _ i hb hi
          obtain ⟨rfl, hoff, hfr⟩ := h6 _ hty
          have hsz : 2 ≤ c'.size := by omega
          have hsh := shape_at h1
          split at hd
          · rename_i hc0
            obtain ⟨v0, g1, g2⟩ := h4 0 _ hc0
            have := g2.nilp; subst this
            have hcell : w.cell? ⟨i.blk, 0, none⟩ = some (.pointer none) := by rw [cell_at h1]; simpa [hoff] using g1
            cases hs : stCells b 0 [.pointer (some ⟨b, 0, none⟩)] h with
            | none => rw [hs] at hd; cases hd
            | some h2' =>
              rw [hs] at hd
              simp only [Option.map_some, Option.some.injEq, Prod.mk.injEq] at hd
              obtain ⟨rfl, rfl⟩ := hd
              have hv' : VRel m (.pointer (some ⟨b, 0, none⟩)) (.pointer (some ⟨i.blk, 0, none⟩)) := by
                have := VRel.ptr (m := m) (o := 0) hi
                simpa [hoff] using this
              have hfz : w.frozen? ⟨i.blk, 0, none⟩ = false := by
                have hst := hs
                simp only [stCells, hb] at hst
                split at hst
                · rename_i hq
                  simp at hq
                  have hf0 : fz = 0 := by omega
                  have := h5 rfl
                  simp only [World.frozen?, h1]
                  simp
                  omega
                · cases hst
              rw [show [Value.pointer (some ⟨i.blk, (⟨b, 0, none⟩ : Addr).off + i.off, none⟩)].toArray = #[.pointer (some ⟨i.blk, 0, none⟩)] by simp [hoff]]
              refine (cc_fresh i.blk c'.size w hcell hsh hsz hfz).mono ?_
              rintro e' w' ⟨rfl, rfl⟩
              obtain ⟨w2, k1, k2, k3⟩ := stCells_sim (P := Tryd.prog) R hi (LRel.cons hv' .nil) hs
              have hw2 : w2 = w.setCell ⟨i.blk, 0, none⟩ (.pointer (some ⟨i.blk, 0, none⟩)) := by
                have hrun : (storeCells ⟨i.blk, 0 + i.off, none⟩ [Value.pointer (some ⟨i.blk, 0, none⟩)] 0).run Tryd.prog w = .ok () (setCells w i.blk (0 + i.off + 0) [Value.pointer (some ⟨i.blk, 0, none⟩)]) := by
                  refine run_storeCells i.blk (0 + i.off) _ w 0 c' _ lo hi' h1 (by simp; omega) (by intro v hv; simp at hv; subst hv; rfl) ?_
                  intro j j1 j2
                  have := h5 rfl
                  simp at j2
                  have hst := hs
                  simp only [stCells, hb] at hst
                  split at hst
                  · rename_i hq
                    simp at hq
                    omega
                  · cases hst
                rw [hrun] at k1
                cases k1
                simp [setCells, hoff]
              rw [← hw2]
              exact ⟨_, rfl, m, k2, k3, VRel.undef m⟩
          · rename_i a hc0
            split at hd
            · rename_i ha
              subst ha
              cases hd
              obtain ⟨v0, g1, g2⟩ := h4 0 _ hc0
              obtain ⟨i', hi2, _, rfl⟩ := g2.pointer
              simp only at hi2
              rw [hi] at hi2; cases hi2
              have hcell : w.cell? ⟨i.blk, 0, none⟩ = some (.pointer (some ⟨i.blk, 0, none⟩)) := by rw [cell_at h1]; simpa [hoff] using g1
              rw [show [Value.pointer (some ⟨i.blk, (⟨b, 0, none⟩ : Addr).off + i.off, none⟩)].toArray = #[.pointer (some ⟨i.blk, 0, none⟩)] by simp [hoff]]
              refine (cc_used i.blk w hcell).mono ?_
              rintro e' w' ⟨rfl, rfl⟩
              exact ⟨_, rfl, Step.same R (VRel.undef m)⟩
            · cases hd
          · cases hd
        · cases hd
      · cases hd
  · cases hd
theorem SameW.step {w w2 : World} {m : Inj} {h : H} (R : HRel ok G m h w) (s : SameW w w2) : Evo m h w m h w2 ∧ HRel ok G m h w2 := ⟨Evo.same s.1 s.2.1 s.2.2.1 s.2.2.2, R.same s.1⟩
theorem freeze_other {w : World} {b n : Nat} (r : Nat) (hr : r ≠ b) : (w.freeze ⟨b, 0, none⟩ n).heap[r]? = w.heap[r]? := by
  unfold World.freeze
  split
  · rfl
  · simp only
    rw [Array.getElem?_modify, if_neg (Ne.symm hr)]
theorem freeze_size {w : World} {b n : Nat} : (w.freeze ⟨b, 0, none⟩ n).heap.size = w.heap.size := by
  unfold World.freeze
  split <;> simp
theorem freeze_block {w : World} {b n : Nat} {c : Array Value} {e : TypeId} {lo hi : Nat} (hb : w.heap[b]? = some (.cells c e (lo, hi))) (hn : n ≠ 0) : (w.freeze ⟨b, 0, none⟩ n).heap[b]? = some (.cells c e (if lo == hi then (0, n) else (min lo 0, max hi n))) := by
  unfold World.freeze
  rw [if_neg hn]
  simp only
  rw [Array.getElem?_modify, if_pos rfl, hb]
  simp
theorem freeze_os {w : World} {b n : Nat} : (w.freeze ⟨b, 0, none⟩ n).os = w.os ∧ (w.freeze ⟨b, 0, none⟩ n).tape = w.tape ∧ (w.freeze ⟨b, 0, none⟩ n).output = w.output := by
  unfold World.freeze
  split <;> exact ⟨rfl, rfl, rfl⟩
theorem bytesX_get : ∀ {vs : List Value} {l : List UInt8}, bytesX vs = some l → l.length = vs.length ∧ ∀ (j : Nat) (x : UInt8), l[j]? = some x → vs[j]? = some (.int .u8 x.toNat) := by
  intro vs
  induction vs with
  | nil => intro l h; cases h; exact ⟨rfl, fun j x hx => by simp at hx⟩
  | cons v vs ih =>
    intro l h
    cases v with
    | int k n =>
      cases k with
      | u8 =>
        simp only [bytesX] at h
        split at h
        · rename_i hn
          cases hr : bytesX vs with
          | none => rw [hr] at h; cases h
          | some l' =>
            rw [hr] at h
            cases h
            obtain ⟨h1, h2⟩ := ih hr
            refine ⟨by simp [h1], fun j x hx => ?_⟩
            cases j with
            | zero =>
              simp at hx
              subst hx
              have : (UInt8.ofNat n.toNat).toNat = n.toNat := by simp; omega
              rw [this]
              simp
              omega
            | succ j => simpa using h2 j x (by simpa using hx)
        · cases h
      | _ => cases h
    | _ => cases h
include R in
theorem sb_ok {args args' : List Value} {v : Value} {h' : H} (hd : sbP 5 args h = some (v, h')) (hL : LRel m args args') :
    Calls Tryd.prog 65 args'.toArray w fun e w' => ∃ v', e = .returned v' ∧ Step ok G m h w v h' v' w' := by
  unfold sbP at hd
  split at hd
  · rename_i b o
    cases hL with
    | cons hv hn =>
      cases hn
      obtain ⟨i, hi, _, rfl⟩ := hv.pointer
      simp only at hi
      unfold sbO at hd
      split at hd
      · rename_i c s own fz ty hb
        obtain ⟨h0, c', e, lo, hi', h1, h2, h3, h4, h5, h6⟩ := R.obj b _ i hb hi
        cases hc1 : c[o + 1]? with
        | none => rw [hc1] at hd; cases hd
        | some u =>
          rw [hc1] at hd
          obtain ⟨u', g1, g2⟩ := h4 _ _ hc1
          have hcell : w.cell? ⟨i.blk, (o + i.off) + 1, none⟩ = some u' := by rw [cell_at h1, show o + i.off + 1 = i.off + (o + 1) by omega]; exact g1
          unfold sbV at hd
          split at hd
          · rename_i hu
            cases hu
            cases hd
            obtain ⟨rfl, _, _⟩ := g2.nils
            refine (sb_nil i.blk (o + i.off) w hcell).mono ?_
            rintro e' w' ⟨rfl, hs⟩
            obtain ⟨e1, e2⟩ := hs.step R
            exact ⟨_, rfl, m, e1, e2, .plain rfl⟩
          · rename_i g len cap hu
            cases hu
            unfold sbB at hd
            split at hd
            · rename_i c2 s2 fz2 ty2 hg
              split at hd
              · rename_i hc
                obtain ⟨hty, hlen0, hlen, h62⟩ := hc
                cases hbs : bytesX (c2.take len) with
                | none => rw [hbs] at hd; cases hd
                | some l =>
                  rw [hbs] at hd
                  simp only [Option.some.injEq, Prod.mk.injEq] at hd
                  obtain ⟨rfl, rfl⟩ := hd
                  obtain ⟨a', c'', rfl, q1, q2, q3⟩ := g2.slicev
                  rcases q3 with ⟨q3, _, _⟩ | ⟨i2, hi2, _, rfl, _⟩
                  · omega
                  · simp only at hi2
                    obtain ⟨p0, c2', e2, lo2, hi2', p1, p2, p3, p4, p5, p6⟩ := R.obj g _ i2 hg hi2
                    obtain ⟨rfl, hoff, hfr⟩ := p6 _ hty
                    have hll : l.length = len := by rw [(bytesX_get hbs).1]; simp; omega
                    have hne : l ≠ [] := by intro e; rw [e] at hll; simp at hll; omega
                    have hcell' : w.cell? ⟨i.blk, (o + i.off) + 1, none⟩ = some (.slice (some ⟨i2.blk, 0, none⟩) l.length c'') := by rw [hcell, hll]; simp [hoff]
                    refine (sb_row i.blk (o + i.off) i2.blk c'' c2'.size l w hcell' hne (by omega) (shape_at p1) (by omega) (by omega) ?_).mono ?_
                    · intro j x hx
                      have k1 := (bytesX_get hbs).2 j x hx
                      have hj : j < len := by have := (List.getElem?_eq_some_iff.1 hx).1; omega
                      rw [List.getElem?_take, if_pos hj] at k1
                      obtain ⟨v', k2, k3⟩ := p4 j _ k1
                      have := k3.int; subst this
                      rw [cell_at p1]
                      rw [hoff, Nat.zero_add] at k2
                      exact k2
                    · rintro e' w' ⟨rfl, hs⟩
                      have hs1 := hs.1
                      have hfo : ∀ r, r ≠ i2.blk → w'.heap[r]? = w.heap[r]? := fun r hr => by rw [hs1, freeze_other r hr]
                      have hfs : w'.heap.size = w.heap.size := by rw [hs1, freeze_size]
                      have hfb : w'.heap[i2.blk]? = some (.cells c2' 5 (if lo2 == hi2' then (0, l.length) else (min lo2 0, max hi2' l.length))) := by rw [hs1, freeze_block p1 (by omega)]
                      obtain ⟨f1, f2, f3⟩ := freeze_os (w := w) (b := i2.blk) (n := l.length)
                      have hO : ORel ok m w' i2 (.cells c2 s2 true (max fz2 len) ty2) := by
                        by_cases hl : lo2 = hi2'
                        · have hb2 : (lo2 == hi2') = true := by simpa using hl
                          rw [hb2, if_pos rfl] at hfb
                          exact ⟨p0, c2', _, 0, l.length, hfb, p2, p3, p4, fun _ => by omega, fun t ht => ⟨(p6 t ht).1, hoff, .inr ⟨rfl, by omega⟩⟩⟩
                        · have hb2 : (lo2 == hi2') = false := by simpa using hl
                          rw [hb2] at hfb
                          simp only [Bool.false_eq_true, if_false] at hfb
                          exact ⟨p0, c2', _, _, _, hfb, p2, p3, p4, fun _ => by omega, fun t ht => ⟨(p6 t ht).1, hoff, .inr ⟨by omega, by omega⟩⟩⟩
                      refine ⟨_, rfl, m, Evo.upd hg rfl hi2 (hs.2.1.trans f1) (hs.2.2.1.trans f2) (hs.2.2.2.trans f3) hfs hfo, R.upd hg rfl hi2 hfs hfo hO, .plain rfl⟩
              · cases hd
            · cases hd
          · cases hd
      · cases hd
  · cases hd
end
theorem plug0 : PlugOk Tryd.prog (okC E0 G0 false) G0 X0 := by
  intro f args h v h' hX m w args' R L
  unfold X0 at hX
  split at hX
  · rename_i e; subst e
    exact ⟨⟨_, Tryd.func73, rfl, by kernel_rfl⟩, ix_ok R hX L⟩
  split at hX
  · rename_i e; subst e
    exact ⟨⟨_, Tryd.func72, rfl, by kernel_rfl⟩, cc_ok R hX L⟩
  · split at hX
    · rename_i e; subst e
      exact ⟨⟨_, Tryd.func65, rfl, by kernel_rfl⟩, sb_ok R hX L⟩
    · cases hX
end Go.Dm
