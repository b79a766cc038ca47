/- Slices of labels and of acts as they come in, for the rows. -/
import Derived.Test.YthglbdbdhhbkhaaIxG
import Derived.Test.YthglbdbdhhbkhaaDFin
import Derived.Deep.Slices
import Derived.Lib.SmallJoins
import Derived.Test.YthglbdbdhhbkhaaRows
set_option linter.unusedVariables false
set_option linter.unusedSimpArgs false
set_option maxRecDepth 100000
namespace Go.Proofs.Ythglbdbdhhbkhaa
open Go.Dm Go.ChangeMaps Go.ChangeShapes Go.WideShapes Go.ChangeAt Go.RowKit Go.Deep Go.Joins
theorem own : ownKnob Try.prog.godebug = none := by kernel_rfl
theorem laidOut : laidOutB Try.prog = true := by kernel_rfl
/-- A slice of strings of the model's. -/
def StrsV (W : World) (v : Value) (l : List (List UInt8)) : Prop := (∃ a, v = .slice a 0 0 ∧ l = []) ∨ ∃ blk off cap c e fr, v = .slice (some ⟨blk, off, none⟩) l.length cap ∧ W.heap[blk]? = some (.cells c e fr) ∧ l.length ≤ cap ∧ off + l.length ≤ c.size ∧ ∀ (j : Nat) s, l[j]? = some s → c[off + j]? = some (str s)
theorem str_cells {HH : Type} {enc : TypeId × Value → HH} {W : World} {a : Addr} {fuel : Nat} {cs : List Value} {x : DataW HH × List MemPlace} (hc : W.cells? 0 a 1 = some cs) (h : DataW.trod enc Try.prog W 0 (fun _ => true) true fuel 9 cs = some x) : ∃ y : List UInt8, W.cell? a = some (str y) ∧ y.length ≤ maxLen := by
  obtain ⟨_, hl, hcell⟩ := World.cells?_some hc
  obtain ⟨s, e, _, hs⟩ := DataW.trod_string Try.underlying9 h
  subst e
  have := hcell 0 (by decide)
  rw [show a.add 0 = a from by unfold Addr.add; simp] at this
  exact ⟨s.data.toList, this, by rw [Array.length_toList]; exact hs⟩
theorem strs_v {HH : Type} {enc : TypeId × Value → HH} {W : World} {fuel : Nat} {cs : List Value} {x : DataW HH × List MemPlace} (h : DataW.trod enc Try.prog W 0 (fun _ => true) true fuel 27 cs = some x) :
    ∃ (v0 : Value) (l : List (List UInt8)), cs = [v0] ∧ StrsV W v0 l ∧ ∀ s ∈ l, s.length ≤ maxLen := by
  have c1 : Try.prog.cellsOf 9 = 1 := by kernel_rfl
  rcases open_slice Try.underlying27 h with ⟨e, _⟩ | ⟨a, len, cap, m, n, D, Pl, e, _, hl, _, hm, _, hx⟩
  · exact ⟨_, [], e, .inl ⟨none, rfl, rfl⟩, fun s hs => by cases hs⟩
  · simp only [if_true] at hm
    subst hm
    rw [c1] at hx
    have each : ∀ i, i < m → ∃ y : List UInt8, W.cell? (a.add i) = some (str y) ∧ y.length ≤ maxLen := by
      intro i hi
      obtain ⟨cs, h1, h2⟩ := hx i hi
      rw [Nat.mul_one] at h1
      exact str_cells h1 h2
    obtain ⟨f, hf⟩ := choose_lt each
    by_cases hm0 : m = 0
    · subst hm0
      obtain rfl : len = 0 := by omega
      exact ⟨_, [], e, .inl ⟨some a, rfl, rfl⟩, fun s hs => by cases hs⟩
    · have hcell0 := (hf 0 (by omega)).1
      have hsp : a.spot = none := by
        cases hs : a.spot with
        | none => rfl
        | some s =>
          simp [Addr.add, World.cell?, hs] at hcell0
          split at hcell0 <;> cases hcell0
      obtain ⟨blk, off, spot⟩ := a
      simp only at hsp
      subst hsp
      have hadd : ∀ k, (⟨blk, off, none⟩ : Addr).add k = ⟨blk, off + k, none⟩ := by
        intro k
        unfold Addr.add
        by_cases hk : k = 0
        · simp [hk]
        · simp [hk]
      obtain ⟨c, e', fr, hblk⟩ : ∃ c e fr, W.heap[blk]? = some (.cells c e fr) := by
        rw [hadd] at hcell0
        simp only [World.cell?] at hcell0
        split at hcell0
        · rename_i c e fr hh; exact ⟨c, e, fr, hh⟩
        · simp at hcell0
      have hcell : ∀ i, i < m → c[off + i]? = some (str (f i)) := by
        intro i hi
        have := (hf i hi).1
        rw [hadd] at this
        simpa [World.cell?, hblk] using this
      have hll : ((List.range len).map f).length = len := by simp
      refine ⟨_, (List.range len).map f, e, .inr ⟨blk, off, m, c, e', fr, by rw [hll], hblk, by rw [hll]; exact hl, ?_, fun j s hj => ?_⟩, fun s hs => ?_⟩
      · rw [hll]
        by_cases hz : len = 0
        · have h1 := hcell 0 (by omega)
          have := (Array.getElem?_eq_some_iff.1 h1).1
          omega
        · have h1 := hcell (len - 1) (by omega)
          have := (Array.getElem?_eq_some_iff.1 h1).1
          omega
      · have hjl : j < len := by have := (List.getElem?_eq_some_iff.1 hj).1; simpa using this
        rw [hcell j (by omega)]
        simp [hjl] at hj
        rw [hj]
      · obtain ⟨i, hi, rfl⟩ := List.mem_map.1 hs
        exact (hf i (by have := List.mem_range.1 hi; omega)).2
/-- What a window holds, lies there. -/
def WinP (W : World) (x : Win) : Prop := ∃ c' e fr, W.heap[x.blk]? = some (.cells c' e fr) ∧ x.off + x.cells.length ≤ c'.size ∧ ∀ (j : Nat) v, x.cells[j]? = some v → c'[x.off + j]? = some v ∧ ∀ m, VRel m v v
theorem strs_win {W : World} {v : Value} {l : List (List UInt8)} (s : StrsV W v l) (p : Win) (hp : WinP W p) (k : Nat) :
    ∃ (x : Win) (dv : Value), WinP W x ∧ (∀ h : H, h.get k = some (.cells x.cells 0 false 0 none) → k < h.next → RdS h dv l) ∧ ∀ m : Inj, m k = some ⟨x.blk, x.off, 0, sizeB W x.blk⟩ → VRel m dv v := by
  rcases s with ⟨a, rfl, rfl⟩ | ⟨blk, off, cap, c, e, fr, rfl, hb, h1, h2, h3⟩
  · cases a with
    | none => exact ⟨p, .slice none 0 0, hp, fun h _ _ => .inl ⟨none, rfl, rfl⟩, fun m _ => .plain rfl⟩
    | some a => exact ⟨p, .slice (some ⟨0, 0, none⟩) 0 0, hp, fun h _ _ => .inl ⟨some 0, rfl, rfl⟩, fun m _ => .slice0⟩
  · refine ⟨⟨blk, off, l.map str⟩, .slice (some ⟨k, 0, none⟩) l.length cap, ⟨c, e, fr, hb, by simpa using h2, fun j v hj => ?_⟩, fun h hk hl => .inr ⟨k, cap, _, 0, false, 0, none, rfl, h1, hk, hl, List.take_of_length_le (by simp), .inl rfl⟩, fun m hm => ?_⟩
    · rw [List.getElem?_map, Option.map_eq_some_iff] at hj
      obtain ⟨s, hs, rfl⟩ := hj
      exact ⟨h3 j s hs, fun m => .plain rfl⟩
    · have := VRel.slice (m := m) (b := k) (o := 0) (n := l.length) (c := cap) (c' := cap) hm h1 (Nat.le_refl _) (.inl rfl)
      rwa [Nat.zero_add] at this
theorem wins_mk {W : World} {ws : List Win} (hw : ∀ (k : Nat) x, ws[k]? = some x → ∃ c' e fr, W.heap[x.blk]? = some (.cells c' e fr) ∧ x.off + x.cells.length ≤ c'.size ∧ ∀ (j : Nat) v, x.cells[j]? = some v → ∃ v', c'[x.off + j]? = some v' ∧ VRel (winsInj G0 W ws) v v') : WinsOk G0 [] ws W :=
  ⟨Nat.zero_le _, (fun p hp => by cases hp), hw⟩
theorem winsT_win (gs : List (Nat × List Value)) : ∀ (ws : List Win) (k j : Nat) (x : Win), ws[j]? = some x → (winsT gs k ws).get (k + j) = some (.cells x.cells 0 false 0 none) := by
  intro ws
  induction ws with
  | nil => intro k j x h; simp at h
  | cons y ws ih =>
    intro k j x h
    cases j with
    | zero => cases h; show ((winsT gs (k + 1) ws).set k _).get (k + 0) = _; rw [T.get_set, if_pos (by omega)]
    | succ j =>
      show ((winsT gs (k + 1) ws).set k _).get (k + (j + 1)) = _
      rw [T.get_set, if_neg (by omega), show k + (j + 1) = k + 1 + j by omega]
      exact ih (k + 1) j x h
theorem win_get {ws : List Win} {j : Nat} {x : Win} (h : ws[j]? = some x) : (winsH G0 [] ws).get j = some (.cells x.cells 0 false 0 none) := by
  have := winsT_win [] ws 0 j x h
  rwa [Nat.zero_add] at this
theorem win_lt {ws : List Win} {j : Nat} {x : Win} (h : ws[j]? = some x) : j < (winsH G0 [] ws).next := by
  show j < 0 + ws.length
  rw [Nat.zero_add]
  exact (List.getElem?_eq_some_iff.1 h).1
theorem win_inj (W : World) {ws : List Win} {j : Nat} {x : Win} (h : ws[j]? = some x) : winsInj G0 W ws j = some ⟨x.blk, x.off, 0, sizeB W x.blk⟩ := by
  unfold winsInj
  rw [if_neg (Nat.not_lt_zero j), Nat.sub_zero, h]
  rfl
/-- A slice of labels, that comes in. -/
theorem strs_arg {HH : Type} {enc : TypeId × Value → HH} {W : World} {v0 : Value} {d0 : DataW HH} {p0 : List MemPlace} (h : DataW.Trod enc Try.prog W 0 (fun _ => true) true 27 v0 d0 p0) (hs : v0.cells.toList = [v0]) :
    ∃ (ws : List Win) (v : Value) (l : List (List UInt8)), WinsOk G0 [] ws W ∧ RdS (winsH G0 [] ws) v l ∧ VRel (winsInj G0 W ws) v v0 ∧ ∀ s ∈ l, s.length ≤ maxLen := by
  obtain ⟨fuel, h⟩ := h
  rw [hs] at h
  obtain ⟨v1, l, e, sv, hml⟩ := strs_v h
  cases e
  rcases sv with ⟨a, rfl, rfl⟩ | ⟨blk, off, cap, c, e, fr, rfl, hb, h1, h2, h3⟩
  · cases a with
    | none => exact ⟨[], .slice none 0 0, [], wins_mk (fun k x hx => by cases hx), .inl ⟨none, rfl, rfl⟩, .plain rfl, (fun s hs => by cases hs)⟩
    | some a => exact ⟨[], .slice (some ⟨0, 0, none⟩) 0 0, [], wins_mk (fun k x hx => by cases hx), .inl ⟨some 0, rfl, rfl⟩, .slice0, (fun s hs => by cases hs)⟩
  · obtain ⟨x, dv, ⟨c', e', fr', y1, y2, y3⟩, hr, hv⟩ := strs_win (k := 0) (.inr ⟨blk, off, cap, c, e, fr, rfl, hb, h1, h2, h3⟩) ⟨blk, 0, []⟩ ⟨c, e, fr, hb, Nat.zero_le _, fun j v hj => by simp at hj⟩
    refine ⟨[x], dv, l, wins_mk fun k x' hx => ?_, hr _ (win_get rfl) (win_lt (ws := [x]) rfl), hv _ (win_inj W (ws := [x]) rfl), hml⟩
    cases k with
    | zero => cases hx; exact ⟨c', e', fr', y1, y2, fun j v hj => ⟨v, (y3 j v hj).1, (y3 j v hj).2 _⟩⟩
    | succ k => simp at hx
/-! Rows of rows -/
theorem fm_len {α : Type} {k : Nat} {f : Nat → List α} (hf : ∀ i, (f i).length = k) : ∀ n, ((List.range n).flatMap f).length = n * k
  | 0 => by simp
  | n + 1 => by rw [List.range_succ, List.flatMap_append, List.length_append, fm_len hf n]; simp [hf, Nat.succ_mul]
theorem fm_at {α : Type} {k : Nat} {f : Nat → List α} (hf : ∀ i, (f i).length = k) : ∀ n i j, i < n → j < k → ((List.range n).flatMap f)[i * k + j]? = (f i)[j]?
  | 0, i, j, hi, _ => by omega
  | n + 1, i, j, hi, hj => by
    have hl := fm_len hf n
    rw [List.range_succ, List.flatMap_append]
    by_cases h : i < n
    · have hlt : i * k + j < n * k := by
        have h1 : (i + 1) * k ≤ n * k := Nat.mul_le_mul_right k h
        rw [Nat.succ_mul] at h1
        omega
      rw [List.getElem?_append_left (by rw [hl]; exact hlt)]
      exact fm_at hf n i j h hj
    · obtain rfl : i = n := by omega
      rw [List.getElem?_append_right (by rw [hl]; omega), hl, Nat.add_sub_cancel_left]
      simp
theorem fm_inv {α : Type} {k : Nat} {f : Nat → List α} (hf : ∀ i, (f i).length = k) {n p : Nat} {v : α} (h : ((List.range n).flatMap f)[p]? = some v) : ∃ i j, i < n ∧ j < k ∧ p = i * k + j ∧ (f i)[j]? = some v := by
  have hp := (List.getElem?_eq_some_iff.1 h).1
  rw [fm_len hf n] at hp
  have hk : 0 < k := by
    rcases Nat.eq_zero_or_pos k with e | e
    · subst e; simp at hp
    · exact e
  have hi : p / k < n := (Nat.div_lt_iff_lt_mul hk).2 hp
  have hj := Nat.mod_lt p hk
  have he : p = p / k * k + p % k := by rw [Nat.mul_comm]; exact (Nat.div_add_mod p k).symm
  refine ⟨p / k, p % k, hi, hj, he, ?_⟩
  rw [← fm_at hf n _ _ hi hj, ← he, h]
/-- One act of the model's. -/
theorem act_cells {HH : Type} {enc : TypeId × Value → HH} {W : World} {a : Addr} {fuel : Nat} {cs : List Value} {x : DataW HH × List MemPlace} (hc : W.cells? 0 a 4 = some cs) (h : DataW.trod enc Try.prog W 0 (fun _ => true) true fuel 33 cs = some x) :
    ∃ (y : Ac × Value × Value), (StrsV W y.2.1 y.1.d ∧ StrsV W y.2.2 y.1.m ∧ ∀ s ∈ y.1.d, s.length ≤ maxLen) ∧ ∀ j, j < 4 → W.cell? (a.add j) = [Value.int .i64 y.1.w, .int .i64 y.1.n, y.2.1, y.2.2][j]? := by
  obtain ⟨_, hl, hcell⟩ := World.cells?_some hc
  obtain ⟨y0, y1, y2, y3, n, _, _, h0, h1, h2, h3⟩ := trod_struct4 Try.underlying33 h
  match cs, hl with
  | [v0, v1, v2, v3], _ =>
    obtain ⟨n0, e0, _, w0⟩ := DataW.trod_int Try.underlying3 h0
    obtain ⟨n1, e1, _, w1⟩ := DataW.trod_int Try.underlying3 h1
    obtain ⟨u2, l2, e2, s2, m2⟩ := strs_v h2
    obtain ⟨u3, l3, e3, s3, m3⟩ := strs_v h3
    have k1 : Try.prog.cellsOf 3 = 1 := by kernel_rfl
    have k2 : Try.prog.cellsOf 27 = 1 := by kernel_rfl
    simp [k1, k2] at e0 e1 e2 e3
    subst e0 e1 e2 e3
    exact ⟨(⟨n0, n1, l2, l3⟩, v2, v3), ⟨s2, s3, m2⟩, fun j hj => hcell j hj⟩
instance : Inhabited Ac := ⟨⟨0, 0, [], []⟩⟩
instance : Inhabited Win := ⟨⟨0, 0, []⟩⟩
set_option maxHeartbeats 4000000 in
/-- Acts that come in. -/
theorem acts_arg {HH : Type} {enc : TypeId × Value → HH} {W : World} {v0 : Value} {d0 : DataW HH} {p0 : List MemPlace} (h : DataW.Trod enc Try.prog W 0 (fun _ => true) true 22 v0 d0 p0) (hs : v0.cells.toList = [v0]) :
    ∃ (ws : List Win) (v : Value) (l : List Ac), WinsOk G0 [] ws W ∧ RdA (winsH G0 [] ws) v l ∧ VRel (winsInj G0 W ws) v v0 ∧ ∀ a ∈ l, ∀ s ∈ a.d, s.length ≤ maxLen := by
  obtain ⟨fuel, h⟩ := h
  rw [hs] at h
  have c4 : Try.prog.cellsOf 33 = 4 := by kernel_rfl
  rcases open_slice Try.underlying22 h with ⟨e, _⟩ | ⟨a, len, cap, m, n, D, Pl, e, _, hl, hcm, hm, _, hx⟩
  · cases e
    exact ⟨[], .slice none 0 0, [], wins_mk (fun k x hx => by cases hx), .inl ⟨none, rfl, rfl⟩, .plain rfl, (fun a ha => by cases ha)⟩
  · cases e
    simp only [if_true] at hm
    subst hm
    rw [c4] at hx
    have each : ∀ i, i < m → ∃ (y : Ac × Value × Value), (StrsV W y.2.1 y.1.d ∧ StrsV W y.2.2 y.1.m ∧ ∀ s ∈ y.1.d, s.length ≤ maxLen) ∧ ∀ j, j < 4 → W.cell? (a.add (i * 4 + j)) = [Value.int .i64 y.1.w, .int .i64 y.1.n, y.2.1, y.2.2][j]? := by
      intro i hi
      obtain ⟨cs, h1, h2⟩ := hx i hi
      obtain ⟨y, y1, y2⟩ := act_cells h1 h2
      refine ⟨y, y1, fun j hj => ?_⟩
      rw [← y2 j hj, Addr.add_add]
    obtain ⟨f, hf⟩ := choose_lt each
    by_cases hm0 : m = 0
    · subst hm0
      obtain rfl : len = 0 := by omega
      exact ⟨[], .slice (some a) 0 0, [], wins_mk (fun k x hx => by cases hx), .inl ⟨some a, rfl, rfl⟩, .slice0, (fun a ha => by cases ha)⟩
    · have hc0 := (hf 0 (by omega)).2 0 (by omega)
      simp only [List.getElem?_cons_zero] at hc0
      have hsp : a.spot = none := by
        cases hs : a.spot with
        | none => rfl
        | some s =>
          simp [Addr.add, World.cell?, hs] at hc0
          split at hc0 <;> cases hc0
      obtain ⟨blk, off, spot⟩ := a
      simp only at hsp
      subst hsp
      have hadd : ∀ k, (⟨blk, off, none⟩ : Addr).add k = ⟨blk, off + k, none⟩ := by
        intro k
        unfold Addr.add
        by_cases hk : k = 0
        · simp [hk]
        · simp [hk]
      obtain ⟨c, e', fr, hblk⟩ : ∃ c e fr, W.heap[blk]? = some (.cells c e fr) := by
        rw [hadd] at hc0
        simp only [World.cell?] at hc0
        split at hc0
        · rename_i c e fr hh; exact ⟨c, e, fr, hh⟩
        · simp at hc0
      have hcell : ∀ i, i < m → ∀ j, j < 4 → c[off + (i * 4 + j)]? = [Value.int .i64 (f i).1.w, .int .i64 (f i).1.n, (f i).2.1, (f i).2.2][j]? := by
        intro i hi j hj
        have := (hf i hi).2 j hj
        rw [hadd] at this
        simpa [World.cell?, hblk] using this
      have hp : WinP W ⟨blk, 0, []⟩ := ⟨c, e', fr, hblk, Nat.zero_le _, fun j v hj => by simp at hj⟩
      have eachw : ∀ i, i < len → ∃ q : (Win × Value) × (Win × Value), (WinP W q.1.1 ∧ (∀ h : H, h.get (1 + (i * 2 + 0)) = some (.cells q.1.1.cells 0 false 0 none) → 1 + (i * 2 + 0) < h.next → RdS h q.1.2 (f i).1.d) ∧ ∀ m : Inj, m (1 + (i * 2 + 0)) = some ⟨q.1.1.blk, q.1.1.off, 0, sizeB W q.1.1.blk⟩ → VRel m q.1.2 (f i).2.1) ∧
          (WinP W q.2.1 ∧ (∀ h : H, h.get (1 + (i * 2 + 1)) = some (.cells q.2.1.cells 0 false 0 none) → 1 + (i * 2 + 1) < h.next → RdS h q.2.2 (f i).1.m) ∧ ∀ m : Inj, m (1 + (i * 2 + 1)) = some ⟨q.2.1.blk, q.2.1.off, 0, sizeB W q.2.1.blk⟩ → VRel m q.2.2 (f i).2.2) := by
        intro i hi
        obtain ⟨⟨s1, s2, _⟩, _⟩ := hf i (by omega)
        obtain ⟨x1, w1, r1⟩ := strs_win s1 ⟨blk, 0, []⟩ hp (1 + (i * 2 + 0))
        obtain ⟨x2, w2, r2⟩ := strs_win s2 ⟨blk, 0, []⟩ hp (1 + (i * 2 + 1))
        exact ⟨((x1, w1), (x2, w2)), r1, r2⟩
      obtain ⟨g, hg⟩ := choose_lt eachw
      obtain ⟨cs, hcs⟩ : ∃ cs, cs = (List.range len).flatMap fun i => [Value.int .i64 (f i).1.w, .int .i64 (f i).1.n, (g i).1.2, (g i).2.2] := ⟨_, rfl⟩
      obtain ⟨wr, hwr⟩ : ∃ wr, wr = (List.range len).flatMap fun i => [(g i).1.1, (g i).2.1] := ⟨_, rfl⟩
      have l4 : ∀ i, ([Value.int .i64 (f i).1.w, .int .i64 (f i).1.n, (g i).1.2, (g i).2.2] : List Value).length = 4 := fun i => rfl
      have l2 : ∀ i, ([(g i).1.1, (g i).2.1] : List Win).length = 2 := fun i => rfl
      have hcl : cs.length = len * 4 := by rw [hcs]; exact fm_len l4 len
      obtain ⟨ws, hws⟩ : ∃ ws, ws = (⟨blk, off, cs⟩ : Win) :: wr := ⟨_, rfl⟩
      have w0 : ws[0]? = some ⟨blk, off, cs⟩ := by rw [hws]; rfl
      have wd : ∀ i, i < len → ws[1 + (i * 2 + 0)]? = some (g i).1.1 := fun i hi => by
        rw [hws, Nat.add_comm 1, List.getElem?_cons_succ, hwr]
        exact fm_at l2 len i 0 hi (by omega)
      have wm : ∀ i, i < len → ws[1 + (i * 2 + 1)]? = some (g i).2.1 := fun i hi => by
        rw [hws, Nat.add_comm 1, List.getElem?_cons_succ, hwr]
        exact fm_at l2 len i 1 hi (by omega)
      have hll : ((List.range len).map fun i => (f i).1).length = len := by simp
      refine ⟨ws, .slice (some ⟨0, 0, none⟩) len m, (List.range len).map fun i => (f i).1, wins_mk fun k x hx => ?_, .inr ⟨0, m, cs, 0, false, 0, none, by rw [hll], by rw [hll]; exact hl, win_get w0, win_lt w0, .inl rfl, fun i hi => ?_⟩, ?_, ?_⟩
      · cases k with
        | zero =>
          rw [w0] at hx
          cases hx
          refine ⟨c, e', fr, hblk, ?_, fun p v hj => ?_⟩
          · show off + cs.length ≤ c.size
            rw [hcl]
            by_cases hz : len = 0
            · have h1 := hcell 0 (by omega) 0 (by omega)
              have := (Array.getElem?_eq_some_iff.1 h1).1
              simp [hz]; omega
            · have h1 := hcell (len - 1) (by omega) 3 (by omega)
              have := (Array.getElem?_eq_some_iff.1 h1).1
              omega
          · rw [hcs] at hj
            obtain ⟨i, j, hi, hj4, rfl, hv⟩ := fm_inv l4 hj
            have hc := hcell i (by omega) j hj4
            have hgi := hg i hi
            match j, hj4, hv, hc with
            | 0, _, hv, hc => cases hv; exact ⟨_, hc, .plain rfl⟩
            | 1, _, hv, hc => cases hv; exact ⟨_, hc, .plain rfl⟩
            | 2, _, hv, hc => cases hv; exact ⟨_, hc, hgi.1.2.2 _ (win_inj W (wd i hi))⟩
            | 3, _, hv, hc => cases hv; exact ⟨_, hc, hgi.2.2.2 _ (win_inj W (wm i hi))⟩
        | succ k =>
          rw [hws, List.getElem?_cons_succ, hwr] at hx
          obtain ⟨i, j, hi, hj2, rfl, hv⟩ := fm_inv l2 hx
          have hgi := hg i hi
          match j, hj2, hv with
          | 0, _, hv =>
            cases hv
            obtain ⟨c', e2, fr2, y1, y2, y3⟩ := hgi.1.1
            exact ⟨c', e2, fr2, y1, y2, fun j v hj => ⟨v, (y3 j v hj).1, (y3 j v hj).2 _⟩⟩
          | 1, _, hv =>
            cases hv
            obtain ⟨c', e2, fr2, y1, y2, y3⟩ := hgi.2.1
            exact ⟨c', e2, fr2, y1, y2, fun j v hj => ⟨v, (y3 j v hj).1, (y3 j v hj).2 _⟩⟩
      · rw [hll] at hi
        have hgi := hg i hi
        have hfi : ((List.range len).map fun i => (f i).1)[i]'(by rw [hll]; exact hi) = (f i).1 := by simp
        rw [hfi]
        refine ⟨(g i).1.2, (g i).2.2, ?_, hgi.1.2.1 _ (win_get (wd i hi)) (win_lt (wd i hi)), hgi.2.2.1 _ (win_get (wm i hi)) (win_lt (wm i hi))⟩
        rw [hcs]
        refine List.ext_getElem? fun j => ?_
        by_cases hj : j < 4
        · rw [List.getElem?_take_of_lt hj, List.getElem?_drop]
          exact fm_at l4 len i j hi hj
        · rw [List.getElem?_take, if_neg hj, List.getElem?_eq_none (by simp; omega)]
      · have := VRel.slice (m := winsInj G0 W ws) (b := 0) (o := 0) (n := len) (c := m) (c' := m) (win_inj W w0) hl (Nat.le_refl _) (.inl rfl)
        simp only [Nat.zero_add] at this
        exact this
      · intro a ha
        obtain ⟨i, hi, rfl⟩ := List.mem_map.1 ha
        exact (hf i (by have := List.mem_range.1 hi; omega)).1.2.2
end Go.Proofs.Ythglbdbdhhbkhaa
