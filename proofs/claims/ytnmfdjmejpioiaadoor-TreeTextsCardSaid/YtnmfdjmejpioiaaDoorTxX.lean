/- What the rows' laid variables give D's heap: the table of powers, the error of a number too great. -/
import Derived.Test.YtnmfdjmejpioiaaDoorTrX
import Derived.Test.YtnmfdjmejpioiaaDoorTxW
import Derived.Stop.LaidErr
import Derived.Lay
set_option linter.unusedVariables false
set_option linter.unusedSimpArgs false
set_option maxRecDepth 100000
namespace Go.Proofs.YtnmfdjmejpioiaaDoor
open Go.Dm Go.ChangeMaps Go.ChangeShapes Go.WideShapes Go.ChangeAt Go.RowKit Go.Deep Go.Joins
def laidV : List (String × DataW Unit) := [("math/bits.deBruijn32tab", Rows.laid_math_bits_deBruijn32tab), ("math/bits.deBruijn64tab", Rows.laid_math_bits_deBruijn64tab), ("internal/strconv.uint64pow10", Rows.laid_internal_strconv_uint64pow10), ("unicode/utf8.acceptRanges", Rows.laid_unicode_utf8_acceptRanges), ("strconv.ErrRange", Rows.laid_strconv_ErrRange), ("strconv.ErrSyntax", Rows.laid_strconv_ErrSyntax), ("unicode/utf8.first", Rows.laid_unicode_utf8_first)]
theorem gPow : Tryd.prog.globalNamed "internal/strconv.uint64pow10" = some 0 := by kernel_rfl
theorem tPow : (Tryd.prog.globals[0]?).map (·.type) = some 115 := by kernel_rfl
theorem gErr : Tryd.prog.globalNamed "strconv.ErrRange" = some 3 := by kernel_rfl
theorem tErr : (Tryd.prog.globals[3]?).map (·.type) = some 81 := by kernel_rfl
theorem star : "*" ++ "errors.errorString" = "*errors.errorString" := by decide
theorem rowErr (u : TypeId) (h : Tryd.prog.typeName? 3 u = some "*errors.errorString") : u = 135 :=
  typeName_ptr_named (nm := "errors.errorString") (by rw [star]; kernel_rfl) (by kernel_rfl) (by decide) u (by rw [star]; exact h)
theorem cellsErr : Tryd.prog.cellsOf 137 = 1 := by kernel_rfl
theorem cellsStr : Tryd.prog.cellsOf 9 = 1 := by kernel_rfl
theorem laid_lastV {W : World} (h : laidMet Tryd.prog laidV W) : ∃ c e fr, W.heap[7]? = some (.cells c e fr) := by
  obtain ⟨ps, ⟨_, _, _, _, _, _, _, _, _, _, ⟨g0, t0, cs0, f0, p0, q0, hg0, ht0, hv0, hd0, _⟩, _⟩, _⟩ := h
  obtain rfl := Option.some.inj (gTab.symm.trans hg0)
  simp only [World.var?, hg0, Option.bind_some] at hv0
  split at hv0
  · rename_i c e fr hh
    exact ⟨c, e, fr, hh⟩
  · cases hv0
theorem laid_ints {k : IntKind} {P : Program} {enc : TypeId × Value → Unit} {W : World} {n : String} {g : Nat} {t e : TypeId} {cs : Array Value} {fuel : Nat} {held : Bool} {p : List MemPlace} (L : List Nat) (hg : P.globalNamed n = some g) (ht : P.underlying t = some (.array L.length e)) (he : P.underlying e = some (.int k)) (hc : P.cellsOf e = 1)
    (hv : W.var? P n = some cs) (h : DataW.trod enc P W 0 (fun _ => true) held fuel t cs.toList = some (.agg (L.map fun (s : Nat) => .lit (.int k (s : Int))), p)) :
    ∃ c' e' fr, W.heap[g]? = some (.cells c' e' fr) ∧ ∀ (j : Nat) s, L[j]? = some s → c'[j]? = some (.int k (s : Int)) := by
  simp only [World.var?, hg, Option.bind_some] at hv
  split at hv
  · rename_i c' e' fr hh
    cases hv
    refine ⟨cs, e', fr, hh, fun j s hj => ?_⟩
    obtain ⟨xs, m, rfl, hx, hlen, hn, hel⟩ := DataW.trod_array ht h
    have hjl := (List.getElem?_eq_some_iff.1 hj).1
    have h0 := hel j hjl
    rw [hc] at h0
    simp only [Prod.mk.injEq, DataW.agg.injEq] at hx
    have hxj : xs[j]? = some xs[j] := List.getElem?_eq_getElem (by omega)
    rw [hxj] at h0
    obtain ⟨n', e1, e2, _⟩ := DataW.trod_int he h0
    have e3 : (xs.map (·.1))[j]? = some (.lit (.int k (s : Int))) := by rw [← hx.1, List.getElem?_map, hj]; rfl
    rw [List.getElem?_map, hxj, Option.map_some, e2] at e3
    have e4 : n' = (s : Int) := by simpa using e3
    have e5 : (cs.toList.drop (j * 1))[0]? = some (.int k n') := by
      have : ((cs.toList.drop (j * 1)).take 1)[0]? = some (.int k n') := by rw [e1]; rfl
      rwa [List.getElem?_take_of_lt (by decide)] at this
    rw [List.getElem?_drop, Nat.mul_one, Nat.add_zero, Array.getElem?_toList] at e5
    rw [e5, ← e4]
  · cases hv
theorem laid_pow {W : World} (h : laidMet Tryd.prog laidV W) : ∃ c e fr, W.heap[0]? = some (.cells c e fr) ∧ ∀ (j : Nat) s, powL[j]? = some s → c[j]? = some (.int .u64 (s : Int)) := by
  obtain ⟨ps, ⟨_, _, _, _, _, _, _, _, _, _, ⟨_, _, _, _, _, _, _, _, _, _, ⟨g0, t0, cs0, f0, p0, q0, hg0, ht0, hv0, hd0, _⟩, _⟩, _⟩, _⟩ := h
  obtain rfl := Option.some.inj (gPow.symm.trans hg0)
  obtain rfl := Option.some.inj (tPow.symm.trans ht0)
  exact laid_ints powL gPow Tryd.underlying115 Tryd.underlying34 (by kernel_rfl) hv0 hd0
theorem laid_err {W : World} (h : laidMet Tryd.prog laidV W) : ∃ (b o : Nat) (c : Array Value) (e : TypeId) (fr : Nat × Nat) (c2 : Array Value) (e2 : TypeId) (fr2 : Nat × Nat), W.heap[3]? = some (.cells c e fr) ∧ c[0]? = some (.iface 135 (.pointer (some ⟨b, o, none⟩))) ∧ W.heap[b]? = some (.cells c2 e2 fr2) ∧ o < c2.size := by
  obtain ⟨a, s, hv, hc, _⟩ := laid_sentinel h.tail.tail.tail.tail gErr tErr Tryd.underlying81 rowErr Tryd.underlying135 Tryd.underlying137 rfl rfl Tryd.underlying9 cellsErr cellsStr
  have hsp := World.cell?_spot hc
  obtain ⟨b, o, spot⟩ := a
  simp only at hsp
  subst hsp
  simp only [World.var?, gErr, Option.bind_some] at hv
  split at hv
  · rename_i c e fr hh
    cases hv
    simp only [World.cell?] at hc
    split at hc
    · rename_i c2 e2 fr2 hh2
      have hlt : o < c2.size := by
        rcases Nat.lt_or_ge o c2.size with q | q
        · exact q
        · simp [Array.getElem?_eq_none q] at hc
      exact ⟨b, o, _, e, fr, c2, e2, fr2, hh, rfl, hh2, hlt⟩
    · simp at hc
  · cases hv
theorem foldl_no {gs : List (Nat × List Value)} {b : Nat} (h : ∀ p ∈ gs, p.1 ≠ b) : ∀ t : T DObj, (gs.foldl (fun t p => t.set p.1 (some (.cells p.2 0 false 0 none))) t).get b = t.get b := by
  induction gs with
  | nil => intro t; rfl
  | cons p gs ih =>
    intro t
    have := ih (fun q hq => h q (List.mem_cons_of_mem _ hq)) (t.set p.1 (some (.cells p.2 0 false 0 none)))
    refine this.trans ?_
    rw [T.get_set, if_neg (fun e => h p (List.mem_cons_self ..) e.symm)]
theorem winsT_win (gs : List (Nat × List Value)) : ∀ (ws : List Win) (k j : Nat) (x : Win), ws[j]? = some x → (winsT gs k ws).get (k + j) = some (.cells x.cells 0 false 0 none) := by
  intro ws
  induction ws with
  | nil => intro k j x h; simp at h
  | cons y ws ih =>
    intro k j x h
    cases j with
    | zero => cases h; show ((winsT gs (k + 1) ws).set k _).get (k + 0) = _; rw [T.get_set, if_pos (by omega)]
    | succ j =>
      show ((winsT gs (k + 1) ws).set k _).get (k + (j + 1)) = _
      rw [T.get_set, if_neg (by omega), show k + (j + 1) = k + 1 + j by omega]
      exact ih (k + 1) j x h
theorem winsT_glob (gs : List (Nat × List Value)) : ∀ (ws : List Win) (k b : Nat), b < k → (winsT gs k ws).get b = (winsT gs k []).get b := by
  intro ws
  induction ws with
  | nil => intro k b _; rfl
  | cons y ws ih =>
    intro k b h
    show ((winsT gs (k + 1) ws).set k _).get b = _
    rw [T.get_set, if_neg (by omega), ih (k + 1) b (by omega)]
    rfl
theorem rdn_more {gs : List (Nat × List Value)} {ws : List Win} {x : Win} {v : Value} {l : List Nd} (r : RdN (winsH G0 [] ws) v l) : RdN (winsH G0 gs (ws ++ [x])) v l := by
  rcases r with r | ⟨b, cap, st, own, fz, ty, a1, a2, a3, a4, a5⟩
  · exact .inl r
  · rcases winsT_get [] ws G0 b _ a3 with ⟨j, y, hy, rfl, e⟩ | ⟨_, p, hp, _⟩
    · have hj := (List.getElem?_eq_some_iff.1 hy).1
      refine .inr ⟨G0 + j, cap, st, own, fz, ty, a1, a2, ?_, a4, by show G0 + j < G0 + (ws ++ [x]).length; simp; omega⟩
      rw [e]
      exact winsT_win gs (ws ++ [x]) G0 j y (by rw [List.getElem?_append_left hj]; exact hy)
    · cases hp
theorem inj_more {W : World} (ws : List Win) (x : Win) : Ext (winsInj G0 W ws) (winsInj G0 W (ws ++ [x])) := by
  intro b i h
  unfold winsInj at h ⊢
  by_cases hb : b < G0
  · rw [if_pos hb] at h ⊢; exact h
  · rw [if_neg hb] at h ⊢
    rw [Option.map_eq_some_iff] at h
    obtain ⟨y, hy, rfl⟩ := h
    have hj := (List.getElem?_eq_some_iff.1 hy).1
    rw [List.getElem?_append_left hj, hy]
    rfl
theorem more {W : World} (h : laidMet Tryd.prog laidV W) {ws : List Win} (hw : WinsOk G0 [] ws W) : ∃ (gs : List (Nat × List Value)) (x : Win), WinsOk G0 gs (ws ++ [x]) W ∧ Gp (winsH G0 gs (ws ++ [x])) ∧ Ge (winsH G0 gs (ws ++ [x])) := by
  obtain ⟨cp, ep, fp, hp, hpc⟩ := laid_pow h
  obtain ⟨b, o, c, e, fr, c2, e2, fr2, he, hec, hb, ho⟩ := laid_err h
  refine ⟨[(0, powL.map fun (x : Nat) => Value.int .u64 (x : Int)), (3, [.iface 135 (.pointer (some ⟨G0 + ws.length, 0, none⟩))])], ⟨b, o, []⟩, ⟨hw.size, ?_, ?_⟩, ⟨?_, ?_⟩, ⟨?_, 135, .pointer (some ⟨G0 + ws.length, 0, none⟩), [], 0, false, 0, none, ?_⟩⟩
  · intro p hm
    simp only [List.mem_cons, List.mem_nil_iff, or_false] at hm
    rcases hm with rfl | rfl
    · refine ⟨by show (0 : Nat) < G0; decide, cp, ep, fp, hp, ?_, fun j v hj => ?_⟩
      · have := (Array.getElem?_eq_some_iff.1 (hpc 19 _ rfl)).1
        show (powL.map fun (x : Nat) => Value.int .u64 (x : Int)).length ≤ _
        rw [List.length_map]
        show 20 ≤ _
        omega
      · have hj' : (powL.map fun (x : Nat) => Value.int .u64 (x : Int))[j]? = some v := hj
        rw [List.getElem?_map, Option.map_eq_some_iff] at hj'
        obtain ⟨s, hs, rfl⟩ := hj'
        exact ⟨_, hpc j s hs, .plain rfl⟩
    · refine ⟨by show (3 : Nat) < G0; decide, c, e, fr, he, ?_, fun j v hj => ?_⟩
      · exact (Array.getElem?_eq_some_iff.1 hec).1
      · match j with
        | 0 =>
          cases hj
          refine ⟨_, hec, .iface ?_⟩
          have hi : winsInj G0 W (ws ++ [⟨b, o, []⟩]) (G0 + ws.length) = some ⟨b, o, 0, sizeB W b⟩ := by
            unfold winsInj
            rw [if_neg (by omega), show G0 + ws.length - G0 = ws.length by omega, List.getElem?_append_right (Nat.le_refl _), Nat.sub_self]
            rfl
          have := VRel.ptr (o := 0) hi
          rwa [Nat.zero_add] at this
        | j + 1 => simp at hj
  · intro k y hy
    rcases Nat.lt_or_ge k ws.length with q | q
    · rw [List.getElem?_append_left q] at hy
      obtain ⟨c', e', f', h1, h2, h3⟩ := hw.win k y hy
      exact ⟨c', e', f', h1, h2, fun j v hj => let ⟨v', p1, p2⟩ := h3 j v hj; ⟨v', p1, p2.mono (inj_more ws _)⟩⟩
    · rw [List.getElem?_append_right q] at hy
      have : k - ws.length = 0 := by
        rcases Nat.eq_zero_or_pos (k - ws.length) with z | z
        · exact z
        · rw [List.getElem?_eq_none (by simp; omega)] at hy; cases hy
      rw [this] at hy
      cases hy
      exact ⟨c2, e2, fr2, hb, by show o + 0 ≤ _; omega, fun j v hj => by simp at hj⟩
  · show (winsT _ G0 (ws ++ [_])).get _ = _
    rw [winsT_glob _ _ _ _ (by decide)]
    rfl
  · show (0 : Nat) < G0 + _
    exact Nat.lt_of_lt_of_le (by decide : (0 : Nat) < G0) (Nat.le_add_right _ _)
  · show (3 : Nat) < G0 + _
    exact Nat.lt_of_lt_of_le (by decide : (3 : Nat) < G0) (Nat.le_add_right _ _)
  · show (winsT _ G0 (ws ++ [_])).get _ = _
    rw [winsT_glob _ _ _ _ (by decide)]
    rfl
theorem laid_plain {W : World} (h : laidMetH Tryd.prog laidV W) : laidMet Tryd.prog laidV W := by
  rwa [MakeChecks.laidMetH_plain _ _ _ (by kernel_rfl)] at h
theorem met_all (os : Os) (args : Array Value) : laidMetH Tryd.prog laidV ((World.laidAll Tryd.prog os laidV).forCall (fun _ _ => 0) ⟨#[], args, []⟩).memory := by
  rw [MakeChecks.laidMetH_plain _ _ _ (by kernel_rfl)]; exact laidMet_laidAll _ (by kernel_rfl) (by kernel_rfl)
end Go.Proofs.YtnmfdjmejpioiaaDoor
