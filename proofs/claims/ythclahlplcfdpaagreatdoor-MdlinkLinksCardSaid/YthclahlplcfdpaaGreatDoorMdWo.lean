/- A slice of strings, as it comes in; two of them. -/
import Derived.Test.YthclahlplcfdpaaGreatDoorMdWn
set_option linter.unusedVariables false
set_option linter.unusedSimpArgs false
set_option maxRecDepth 100000
namespace Go.Proofs.YthclahlplcfdpaaGreatDoor
open Go.Dm Go.ChangeMaps Go.ChangeShapes Go.WideShapes Go.ChangeAt Go.RowKit Go.Deep Go.Joins
theorem str_cells {HH : Type} {enc : TypeId × Value → HH} {W : World} {a : Addr} {fuel : Nat} {cs : List Value} {x : DataW HH × List MemPlace} (hc : W.cells? 0 a 1 = some cs) (h : DataW.trod enc Tryz.prog W 0 (fun _ => true) true fuel 9 cs = some x) : ∃ y : List UInt8, W.cell? a = some (str y) := by
  obtain ⟨_, hl, hcell⟩ := World.cells?_some hc
  obtain ⟨s, e, _⟩ := DataW.trod_string Tryz.underlying9 h
  subst e
  have := hcell 0 (by decide)
  rw [show a.add 0 = a from by unfold Addr.add; simp] at this
  exact ⟨s.data.toList, this⟩
theorem winsT_win (gs : List (Nat × List Value)) : ∀ (ws : List Win) (k j : Nat) (x : Win), ws[j]? = some x → (winsT gs k ws).get (k + j) = some (.cells x.cells 0 false 0 none) := by
  intro ws
  induction ws with
  | nil => intro k j x h; simp at h
  | cons y ws ih =>
    intro k j x h
    cases j with
    | zero => cases h; show ((winsT gs (k + 1) ws).set k _).get (k + 0) = _; rw [T.get_set, if_pos (by omega)]
    | succ j =>
      show ((winsT gs (k + 1) ws).set k _).get (k + (j + 1)) = _
      rw [T.get_set, if_neg (by omega), show k + (j + 1) = k + 1 + j by omega]
      exact ih (k + 1) j x h
theorem win_ext (W : World) (ws : List Win) (x : Win) : Ext (winsInj G0 W ws) (winsInj G0 W (ws ++ [x])) := by
  intro b i h
  unfold winsInj at h ⊢
  split at h
  · rename_i hlt; rw [if_pos hlt]; exact h
  · rename_i hge
    rw [if_neg hge]
    cases hx : ws[b - G0]? with
    | none => rw [hx] at h; cases h
    | some y =>
      rw [List.getElem?_append_left (List.getElem?_eq_some_iff.1 hx).1, hx]
      rw [hx] at h
      exact h
theorem win_add {W : World} {m : Int} {ws : List Win} (h : WinsOk G0 (glS m) ws W) {x : Win} (hx : ∃ c' e fr, W.heap[x.blk]? = some (.cells c' e fr) ∧ x.off + x.cells.length ≤ c'.size ∧ ∀ (j : Nat) v, x.cells[j]? = some v → ∃ v', c'[x.off + j]? = some v' ∧ ∀ i, VRel i v v') : WinsOk G0 (glS m) (ws ++ [x]) W := by
  refine ⟨h.size, fun p hp => ?_, fun k y hy => ?_⟩
  · obtain ⟨a, c', e, fr, a1, a2, a3⟩ := h.glob p hp
    exact ⟨a, c', e, fr, a1, a2, fun j v hj => by obtain ⟨v', q1, q2⟩ := a3 j v hj; exact ⟨v', q1, q2.mono (win_ext W ws x)⟩⟩
  · rcases Nat.lt_or_ge k ws.length with hk | hk
    · rw [List.getElem?_append_left hk] at hy
      obtain ⟨c', e, fr, a1, a2, a3⟩ := h.win k y hy
      exact ⟨c', e, fr, a1, a2, fun j v hj => by obtain ⟨v', q1, q2⟩ := a3 j v hj; exact ⟨v', q1, q2.mono (win_ext W ws x)⟩⟩
    · rw [List.getElem?_append_right hk] at hy
      cases hkk : k - ws.length with
      | zero =>
        rw [hkk] at hy
        cases hy
        obtain ⟨c', e, fr, a1, a2, a3⟩ := hx
        exact ⟨c', e, fr, a1, a2, fun j v hj => by obtain ⟨v', q1, q2⟩ := a3 j v hj; exact ⟨v', q1, q2 _⟩⟩
      | succ n => rw [hkk] at hy; simp at hy
/-- A slice of strings of the model's. -/
def StrsV (W : World) (v : Value) (l : List (List UInt8)) : Prop := (∃ a, v = .slice a 0 0 ∧ l = []) ∨ ∃ blk off cap c e fr, v = .slice (some ⟨blk, off, none⟩) l.length cap ∧ W.heap[blk]? = some (.cells c e fr) ∧ l.length ≤ cap ∧ off + l.length ≤ c.size ∧ ∀ (j : Nat) s, l[j]? = some s → c[off + j]? = some (str s)
theorem strs_v {HH : Type} {enc : TypeId × Value → HH} {W : World} {fuel : Nat} {cs : List Value} {x : DataW HH × List MemPlace} (h : DataW.trod enc Tryz.prog W 0 (fun _ => true) true fuel 26 cs = some x) :
    ∃ (v0 : Value) (l : List (List UInt8)), cs = [v0] ∧ StrsV W v0 l := by
  have c1 : Tryz.prog.cellsOf 9 = 1 := by kernel_rfl
  rcases open_slice Tryz.underlying26 h with ⟨e, _⟩ | ⟨a, len, cap, m, n, D, Pl, e, _, hl, _, hm, _, hx⟩
  · exact ⟨_, [], e, .inl ⟨none, rfl, rfl⟩⟩
  · simp only [if_true] at hm
    subst hm
    rw [c1] at hx
    have each : ∀ i, i < m → ∃ y : List UInt8, W.cell? (a.add i) = some (str y) := by
      intro i hi
      obtain ⟨cs, h1, h2⟩ := hx i hi
      rw [Nat.mul_one] at h1
      exact str_cells h1 h2
    obtain ⟨f, hf⟩ := choose_lt each
    by_cases hm0 : m = 0
    · subst hm0
      obtain rfl : len = 0 := by omega
      exact ⟨_, [], e, .inl ⟨some a, rfl, rfl⟩⟩
    · have hcell0 := hf 0 (by omega)
      have hsp : a.spot = none := by
        cases hs : a.spot with
        | none => rfl
        | some s =>
          simp [Addr.add, World.cell?, hs] at hcell0
          split at hcell0 <;> cases hcell0
      obtain ⟨blk, off, spot⟩ := a
      simp only at hsp
      subst hsp
      have hadd : ∀ k, (⟨blk, off, none⟩ : Addr).add k = ⟨blk, off + k, none⟩ := by
        intro k
        unfold Addr.add
        by_cases hk : k = 0
        · simp [hk]
        · simp [hk]
      obtain ⟨c, e', fr, hblk⟩ : ∃ c e fr, W.heap[blk]? = some (.cells c e fr) := by
        rw [hadd] at hcell0
        simp only [World.cell?] at hcell0
        split at hcell0
        · rename_i c e fr hh; exact ⟨c, e, fr, hh⟩
        · simp at hcell0
      have hcell : ∀ i, i < m → c[off + i]? = some (str (f i)) := by
        intro i hi
        have := hf i hi
        rw [hadd] at this
        simpa [World.cell?, hblk] using this
      have hll : ((List.range len).map f).length = len := by simp
      refine ⟨_, (List.range len).map f, e, .inr ⟨blk, off, m, c, e', fr, by rw [hll], hblk, by rw [hll]; exact hl, ?_, fun j s hj => ?_⟩⟩
      · rw [hll]
        by_cases hz : len = 0
        · have h1 := hcell 0 (by omega)
          have := (Array.getElem?_eq_some_iff.1 h1).1
          omega
        · have h1 := hcell (len - 1) (by omega)
          have := (Array.getElem?_eq_some_iff.1 h1).1
          omega
      · have hjl : j < len := by have := (List.getElem?_eq_some_iff.1 hj).1; simpa using this
        rw [hcell j (by omega)]
        simp [hjl] at hj
        rw [hj]
/-- A slice of strings, that comes in. -/
theorem strs_arg {HH : Type} {enc : TypeId × Value → HH} {W : World} (hL : laidMet Tryz.prog laidV W) {m : Int} (hm : W.cell? ⟨gMax, 0, none⟩ = some (.int .i64 m)) (ws0 : List Win) (hw0 : WinsOk G0 (glS m) ws0 W) {base : Nat} {v0 : Value} {d0 : DataW HH} {p0 : List MemPlace} (hval : Value.okWide Tryz.prog W .any base 26 v0)
    (h : DataW.Trod enc Tryz.prog W 0 (fun _ => true) true 26 v0 d0 p0) :
    ∃ (ws : List Win) (v : Value) (l : List (List UInt8)), WinsOk G0 (glS m) (ws0 ++ ws) W ∧ RdS (winsH G0 (glS m) (ws0 ++ ws)) v l ∧ VRel (winsInj G0 W (ws0 ++ ws)) v v0 := by
  obtain ⟨a0, len, cap, rfl⟩ := okWide_slice Tryz.underlying26 hval
  obtain ⟨fuel, h⟩ := h
  have h' : DataW.trod enc Tryz.prog W 0 (fun _ => true) true fuel 26 [.slice a0 len cap] = some (d0, p0) := h
  obtain ⟨v1, l, e, sv⟩ := strs_v h'
  cases e
  rcases sv with ⟨a, e, rfl⟩ | ⟨blk, off, cap', c, e', fr, e, hb, h1, h2, h3⟩
  · cases e
    refine ⟨[], ?_⟩
    rw [List.append_nil]
    cases a0 with
    | none => exact ⟨.slice none 0 0, [], hw0, .inl ⟨none, rfl, rfl⟩, .plain rfl⟩
    | some a => exact ⟨.slice (some ⟨0, 0, none⟩) 0 0, [], hw0, .inl ⟨some 0, rfl, rfl⟩, .slice0⟩
  · cases e
    refine ⟨[⟨blk, off, l.map str⟩], .slice (some ⟨G0 + ws0.length, 0, none⟩) l.length cap, l, ?_, ?_, ?_⟩
    · refine win_add hw0 ⟨c, e', fr, hb, by simpa using h2, fun j v hj => ?_⟩
      rw [List.getElem?_map, Option.map_eq_some_iff] at hj
      obtain ⟨s, hs, rfl⟩ := hj
      exact ⟨_, h3 j s hs, fun i => .plain rfl⟩
    · refine .inr ⟨G0 + ws0.length, cap, l.map str, 0, false, 0, none, rfl, h1, ?_, ?_, List.take_of_length_le (by simp), .inl rfl⟩
      · exact winsT_win (glS m) (ws0 ++ [⟨blk, off, l.map str⟩]) G0 ws0.length ⟨blk, off, l.map str⟩ (by simp)
      · show G0 + ws0.length < G0 + (ws0 ++ [_]).length
        simp
    · have hm' : winsInj G0 W (ws0 ++ [⟨blk, off, l.map str⟩]) (G0 + ws0.length) = some ⟨blk, off, 0, sizeB W blk⟩ := by
        unfold winsInj
        rw [if_neg (by omega), show G0 + ws0.length - G0 = ws0.length by omega]
        simp
      have := VRel.slice (m := winsInj G0 W (ws0 ++ [⟨blk, off, l.map str⟩])) (b := G0 + ws0.length) (o := 0) (n := l.length) (c := cap) (c' := cap) hm' h1 (Nat.le_refl _) (.inl rfl)
      rwa [Nat.zero_add] at this
theorem winsT_more (gs : List (Nat × List Value)) : ∀ (ws1 ws2 : List Win) (k b : Nat), b < k + ws1.length → (winsT gs k (ws1 ++ ws2)).get b = (winsT gs k ws1).get b := by
  intro ws1
  induction ws1 with
  | nil => intro ws2 k b h; exact winsT_glob gs ws2 k b (by simpa using h)
  | cons y ws1 ih =>
    intro ws2 k b h
    show ((winsT gs (k + 1) (ws1 ++ ws2)).set k _).get b = ((winsT gs (k + 1) ws1).set k _).get b
    rw [T.get_set, T.get_set]
    split
    · rfl
    · exact ih ws2 (k + 1) b (by simp at h; omega)
theorem inj_more (W : World) (ws1 ws2 : List Win) : Ext (winsInj G0 W ws1) (winsInj G0 W (ws1 ++ ws2)) := by
  intro b i h
  unfold winsInj at h ⊢
  split at h
  · rename_i hlt; rw [if_pos hlt]; exact h
  · rename_i hge
    rw [if_neg hge]
    cases hx : ws1[b - G0]? with
    | none => rw [hx] at h; cases h
    | some y =>
      rw [List.getElem?_append_left (List.getElem?_eq_some_iff.1 hx).1, hx]
      rw [hx] at h
      exact h
/-- What was there, stays, when more comes in. -/
theorem strs_more {W : World} {m : Int} {ws1 ws2 : List Win} {v v0 : Value} {l : List (List UInt8)} (hw1 : WinsOk G0 (glS m) ws1 W) (hw : WinsOk G0 (glS m) (ws1 ++ ws2) W) (hr : RdS (winsH G0 (glS m) ws1) v l) (hv : VRel (winsInj G0 W ws1) v v0) :
    RdS (winsH G0 (glS m) (ws1 ++ ws2)) v l ∧ VRel (winsInj G0 W (ws1 ++ ws2)) v v0 :=
  ⟨hr.of_get (by show G0 + ws1.length ≤ G0 + (ws1 ++ ws2).length; simp) fun b hb => winsT_more _ _ _ _ _ hb, hv.mono (inj_more W ws1 ws2)⟩
end Go.Proofs.YthclahlplcfdpaaGreatDoor
