/- The scanner: its events, its documents. -/
import Derived.Test.YtdgclgfhcgdehaaDoorSdE
set_option linter.unusedVariables false
set_option linter.unusedSimpArgs false
namespace Go.Dm
open Go.Proofs
theorem nil_ptr (a : Addr) : nilCheckD (.pointer (some a)) = some (.pointer (some a)) := rfl
def Scn (B cb : Nat) (h : H) (s : ShS) (line : List UInt8) (l : List ShE) : Prop := ∃ v, h.get cb = some (.cells (scS s [str line, v]) 0 true 0 none) ∧ SlG none 4 B h v (encEs l) l.length
structure Kp (B cb : Nat) (h h' : H) : Prop where
  one : h'.one = []
  next : h.next ≤ h'.next
  get : ∀ c, c < B → c ≠ cb → h'.get c = h.get c
  st0 : ∀ c C own fz ty, c < h.next → c ≠ cb → h.get c = some (.cells C 0 own fz ty) → h'.get c = some (.cells C 0 own fz ty)
theorem Kp.trans {B cb : Nat} {a b c : H} (x : Kp B cb a b) (y : Kp B cb b c) : Kp B cb a c := ⟨y.one, Nat.le_trans x.next y.next, fun k hk hc => (y.get k hk hc).trans (x.get k hk hc), fun k C own fz ty hk hc q => y.st0 k C own fz ty (Nat.lt_of_lt_of_le hk x.next) hc (x.st0 k C own fz ty hk hc q)⟩
theorem Kp.of_fr {B cb : Nat} {h h' : H} (f : Fr h.next h h') (hB : B ≤ h.next) : Kp B cb h h' := ⟨f.one, f.next, fun c hc _ => f.get c (Nat.lt_of_lt_of_le hc hB), fun c C own fz ty hc _ q => (f.get c hc).trans q⟩
theorem Kp.refl {B cb : Nat} {h : H} (h1 : h.one = []) : Kp B cb h h := ⟨h1, Nat.le_refl _, fun _ _ _ => rfl, fun _ _ _ _ _ _ _ q => q⟩
theorem Scn.fr {B cb : Nat} {h h' : H} {s : ShS} {line : List UInt8} {l : List ShE} (x : Scn B cb h s line l) (hc : cb < h.next) (f : Fr h.next h h') : Scn B cb h' s line l := by
  obtain ⟨v, h1, h2⟩ := x
  exact ⟨v, (f.get cb hc).trans h1, h2.of_get f.next fun g _ hg => f.get g hg⟩
section
variable {s : ShS} (h : s.ok) (line : List UInt8) (v : Value)
include h
theorem sc_line : (scS s [str line, v])[82]? = some (str line) := by have := scS_behind h [str line, v] 0; simpa using this
theorem sc_ev : (scS s [str line, v])[83]? = some v := by have := scS_behind h [str line, v] 1; simpa using this
theorem sc_setev (w : Value) : (scS s [str line, v]).set 83 w = scS s [str line, w] := by have := set_behind h [str line, v] 1 w; simpa using this
theorem sc_le {k : Nat} (hk : k ≤ 84) : k ≤ (scS s [str line, v]).length := by rw [scS_len h]; simpa using hk
end
set_option maxRecDepth 100000 in
set_option maxHeartbeats 4000000 in
theorem put_sp (B cb op k a b : Nat) (s : ShS) (hs : s.ok) (line : List UInt8) (l : List ShE) (hl : l.length < 2 ^ 34) (h : H) (h1 : h.one = []) (hcb : cb < B) (hB : B ≤ h.next) (x : Scn B cb h s line l) :
    CallW E0 X0 (.fn 42) [.pointer (some ⟨cb, 0, none⟩), .int .u8 op, .int .u8 k, .int .i64 a, .int .i64 b] h (fun r h' => Scn B cb h' s line (l ++ [⟨op, k, a, b⟩]) ∧ Kp B cb h h') := by
  refine CallW.body efn42 rfl rfl rfl [] (by kernel_rfl) ?_
  obtain ⟨v, hc, sl⟩ := x
  simp [Tryd.f42, nil_ptr, h1, hc, sc_ev hs, zerE, -appS_some]
  refine (sl.nw _).app2 (by simp) (by simp; omega) (by rfl) (by decide) (by rfl) (by omega) (by decide) (.inl rfl) ?_
  intro v5 h5 sl5 f5 keep
  have n5 := f5.next
  simp at n5
  have pb : h5.get cb = some (.cells (scS s [str line, v]) 0 true 0 none) := by rw [f5.get cb hcb, get_nw, if_neg (by omega)]; exact hc
  obtain ⟨av, rfl⟩ := sl5.slice
  simp [f5.one, nil_ptr, pb, sc_setev hs, sc_le hs]
  refine ⟨⟨_, by simp, (sl5.put hcb _).eq (by rw [← encEs_snoc]; rfl) (by simp)⟩, ⟨by simpa using f5.one, by simp; omega, fun c hc hcb => ?_, fun c C own fz ty hc hcb q => ?_⟩⟩
  · rw [H.get_put, if_neg hcb, f5.get c hc, get_nw, if_neg (by omega)]
  · rw [H.get_put, if_neg hcb, keep c (by simp; omega) ?_, get_nw, if_neg (by omega)]
    · exact q
    · rintro g x y rfl e
      subst e
      rcases sl with ⟨_, e, _⟩ | ⟨_, _, g', _, _, e, hg'⟩
      · cases e
      · cases e
        rw [hg'] at q
        cases q
set_option maxRecDepth 100000 in
set_option maxHeartbeats 4000000 in
theorem doc_sp (B cb : Nat) (s : ShS) (hs : s.ok) (line : List UInt8) (l : List ShE) (hl : l.length < 2 ^ 34) (h : H) (h1 : h.one = []) (hcb : cb < B) (hB : B ≤ h.next) (x : Scn B cb h s line l) :
    CallW E0 X0 (.fn 45) [.pointer (some ⟨cb, 0, none⟩)] h (fun r h' => Scn B cb h' (docSt s) line (l ++ docEv line s) ∧ Kp B cb h h') := by
  refine CallW.body efn45 rfl rfl rfl [] (by kernel_rfl) ?_
  obtain ⟨v, hc, sl⟩ := x
  have k1 : (scS s [str line, v]).set 65 (.int .u8 0) = scS { s with mode := 0 } [str line, v] := set_mode hs _ 0
  have hs1 : ShS.ok { s with mode := 0 } := ⟨hs.stk, hs.docs⟩
  have k2 : (scS { s with mode := 0 } [str line, v]).set 66 (.int .u8 0) = scS { s with mode := 0, mark := 0 } [str line, v] := set_mark hs1 _ 0
  have hs2 : ShS.ok { s with mode := 0, mark := 0 } := ⟨hs.stk, hs.docs⟩
  have k3 : (scS { s with mode := 0, mark := 0 } [str line, v]).set 65 (.int .u8 2) = scS { s with mode := 2, mark := 0 } [str line, v] := set_mode hs2 _ 2
  have hs3 : ShS.ok { s with mode := 2, mark := 0 } := ⟨hs.stk, hs.docs⟩
  by_cases hw : 0 < s.wait
  · have e1 : docSt s = { s with mode := 2, mark := 0 } := by unfold docSt; rw [if_pos hw]
    have e2 : docEv line s = [⟨1, 55, line.length, 0⟩] := by unfold docEv; rw [if_pos hw]
    simp [Tryd.f45, nil_ptr, h1, hc, sc_le hs, sc_le hs1, sc_le hs2, k1, k2, k3, scS_wait hs2, hw, sc_line hs3]

    refine (put_sp B cb 1 55 line.length 0 _ hs3 line l hl _ (by simpa using h1) hcb (by simpa using hB) ⟨v, by simp, ((sl.put hcb _).put hcb _).put hcb _⟩).mono ?_
    rintro r h2 ⟨x2, kp⟩
    simp [kp.one]
    rw [e1, e2]
    refine ⟨x2, ⟨kp.one, by have := kp.next; simpa using this, fun c q1 q2 => (kp.get c q1 q2).trans (by simp [q2]), fun c C own fz ty q1 q2 q3 => kp.st0 c C own fz ty (by simpa using q1) q2 (by simpa [q2] using q3)⟩⟩
  · have e1 : docSt s = { s with mode := 0, mark := 0 } := by unfold docSt; rw [if_neg hw]
    have e2 : docEv line s = [] := by unfold docEv; rw [if_neg hw]
    simp [Tryd.f45, nil_ptr, h1, hc, sc_le hs, sc_le hs1, sc_le hs2, k1, k2, scS_wait hs2, hw]
    rw [e1, e2, List.append_nil]
    exact ⟨⟨v, by simp, (sl.put hcb _).put hcb _⟩, ⟨by simpa using h1, by simp, fun c q1 q2 => by simp [q2], fun c C own fz ty q1 q2 q3 => by simpa [q2] using q3⟩⟩
theorem ixb_in (e : UInt8) : ∀ (t : List UInt8), (0 ≤ Lib.indexByte t e) = (t.contains e = true)
  | [] => by simp [Lib.indexByte]
  | c :: t => by
    have ih := ixb_in e t
    have hge := Lib.indexByte_ge t e
    by_cases h : c = e
    · subst h; simp [Lib.indexByte]
    · have h1 : (c == e) = false := by simpa using h
      have h2 : (e == c) = false := by simpa using fun q => h q.symm
      rw [List.contains_cons, h2, Bool.false_or, ← ih]
      simp only [Lib.indexByte, h1]
      by_cases h3 : Lib.indexByte t e = -1
      · simp [h3]
      · have h4 : (Lib.indexByte t e == -1) = false := by simpa using h3
        simp only [h4, Bool.false_eq_true, if_false, eq_iff_iff]
        omega
set_option maxRecDepth 100000 in
set_option maxHeartbeats 8000000 in
theorem Contains_sp (t : List UInt8) (h : H) (h1 : h.one = []) :
    CallW E0 X0 (.fn 57) [str t, str [10]] h (fun r h' => r = .bool (t.contains 10) ∧ h' = h) := by
  refine CallW.body efn57 rfl rfl rfl [] (by kernel_rfl) ?_
  simp [Tryd.f57, h1]
  have hI : CallW E0 X0 (.fn 74) [str t, str [10]] h (fun r h' => r = .int .i64 (Lib.indexByte t 10) ∧ h' = h) := by
    refine CallW.body efn74 rfl rfl rfl [] (by kernel_rfl) ?_
    by_cases ht : [10] = t
    · subst ht
      simp [Tryd.f74, h1]
      rfl
    · have hc : (((10 : UInt8).toNat : Nat) : Int).toNat.toUInt8 = 10 := by decide
      have hX : X0 73 [str t, .int .u8 ((10 : UInt8).toNat : Nat)] h = some (.int .i64 (Lib.indexByte t 10), h) := by
        show some _ = _
        rw [hc]
      have hbt : idxB [10] 0 = some (.int .u8 ((10 : UInt8).toNat : Nat)) := rfl
      simp [Tryd.f74, h1, ht, hbt]
      refine CallW.plug hX ?_
      simp [h1]
  have hJ : CallW E0 X0 (.fn 67) [str t, str [10]] h (fun r h' => r = .int .i64 (Lib.indexByte t 10) ∧ h' = h) := by
    refine CallW.body efn67 rfl rfl rfl [] (by kernel_rfl) ?_
    simp [Tryd.f67, h1]
    refine hI.mono ?_
    rintro _ h2 ⟨rfl, rfl⟩
    simp [h1]
  refine hJ.mono ?_
  rintro _ h2 ⟨rfl, rfl⟩
  have := ixb_in 10 t
  by_cases c : t.contains 10 = true
  · have c2 : 0 ≤ Lib.indexByte t 10 := by rw [this]; exact c
    simp [h1, c2]
    simpa using c
  · have c2 : ¬ 0 ≤ Lib.indexByte t 10 := by rw [this]; exact c
    simp [h1, c2]
    simpa using c
/-- Pieces that lie from a place on in a block. -/
def RdP (h : H) (v : Value) (r : List Pc) : Prop := ∃ b o cap C st own fz ty, v = .slice (some ⟨b, o, none⟩) r.length cap ∧ h.get b = some (.cells C st own fz ty) ∧ b < h.next ∧ (C.drop o).take (r.length * 6) = encs r
theorem RdP.at0 {C : List Value} {o : Nat} {q : Pc} {r : List Pc} (h : (C.drop o).take ((q :: r).length * 6) = encs (q :: r)) {j : Nat} (hj : j < 6) : C[o + j]? = (encP q)[j]? := by
  have e : ((C.drop o).take ((q :: r).length * 6))[j]? = (encs (q :: r))[j]? := by rw [h]
  rw [List.getElem?_take, if_pos (by simp; omega), List.getElem?_drop] at e
  rw [e]
  have : encs (q :: r) = encP q ++ encs r := by simp [encs]
  rw [this, List.getElem?_append_left (by exact hj)]
set_option maxRecDepth 100000 in
set_option maxHeartbeats 8000000 in
theorem asks_sp (B cb : Nat) (s : ShS) (hs : s.ok) (hw0 : 0 ≤ s.wait) (line op : List UInt8) (v : Value) (r : List Pc) (l : List ShE) (h : H) (h1 : h.one = []) (hcb : cb < B) (hB : B ≤ h.next) (x : Scn B cb h s line l) (hr : RdP h v r) :
    CallW E0 X0 (.fn 44) [.pointer (some ⟨cb, 0, none⟩), str op, v] h (fun y h' => y = .bool (asksN op r s).isSome ∧ Scn B cb h' ((asksN op r s).getD s) line l ∧ Kp B cb h h') := by
  refine CallW.body efn44 rfl rfl rfl [] (by kernel_rfl) ?_
  have kp0 : Kp B cb h h := Kp.refl h1
  obtain ⟨b, o, cap, C, st, own, fz, ty, rfl, hb, hbn, hC⟩ := hr
  match r, hC with
  | [], hC =>
    simp [Tryd.f44, h1, asksN]
    exact ⟨x, kp0⟩
  | q :: r, hC =>
    have x' := x
    obtain ⟨ve, hc, sl⟩ := x
    have c0 := RdP.at0 hC (j := 0) (by decide)
    have c3 := RdP.at0 hC (j := 3) (by decide)
    have c4 := RdP.at0 hC (j := 4) (by decide)
    have c5 := RdP.at0 hC (j := 5) (by decide)
    simp only [encP, Nat.add_zero] at c0 c3 c4 c5
    simp at c0 c3 c4 c5
    have r0 : ¬ ((r.length : Int) + 1 = 0) := by omega
    have r1 : (0 : Int) < (r.length : Int) + 1 := by omega
    by_cases d1 : ¬ q.kind = 51
    · have hn : asksN op (q :: r) s = none := by unfold asksN docOk; simp [d1]
      have d1' : ¬ (q.kind : Int) = 51 := by omega
      simp [Tryd.f44, h1, hb, c0, r0, r1, d1, d1', hn]
      exact ⟨x', kp0⟩
    have d1 : q.kind = 51 := Decidable.not_not.1 d1
    by_cases d2 : ¬ q.whole = true
    · have hn : asksN op (q :: r) s = none := by unfold asksN docOk; simp [d1, d2]
      simp [Tryd.f44, h1, hb, c0, c5, r0, r1, d1, d2, hn]
      exact ⟨x', kp0⟩
    have d2 : q.whole = true := Decidable.not_not.1 d2
    by_cases d3 : 64 < q.text.length
    · have d3' : (64 : Int) < q.text.length := by omega
      have hn : asksN op (q :: r) s = none := by unfold asksN docOk; simp [d1, d2, show ¬ q.text.length ≤ 64 by omega]
      simp [Tryd.f44, h1, hb, c0, c3, c5, r0, r1, d1, d2, d3, d3', hn]
      exact ⟨x', kp0⟩
    have d3' : ¬ (64 : Int) < q.text.length := by omega
    have d3'' : q.text.length ≤ 64 := by omega
    simp [Tryd.f44, h1, hb, c0, c3, c5, r0, r1, d1, d2, d3, d3']
    refine (Contains_sp q.text h h1).mono ?_
    rintro _ h2 ⟨rfl, rfl⟩
    cases d4 : q.text.contains 10 with
    | true =>
      have d4m : 10 ∈ q.text := by simpa using d4
      have hn : asksN op (q :: r) s = none := by unfold asksN docOk; simp [d1, d2, d3'', d4m]
      simp [h1, hn]
      exact ⟨x', kp0⟩
    | false =>
      have d4m : ¬ 10 ∈ q.text := by simpa using d4
      by_cases d5 : 4 ≤ s.wait
      · have hn : asksN op (q :: r) s = none := by unfold asksN docOk; simp [d1, d2, d3'', d4m, show ¬ s.wait < 4 by omega]
        simp [h1, nil_ptr, hc, scS_wait hs, d5, hn]
        exact ⟨x', kp0⟩
      · obtain ⟨w, hw⟩ : ∃ w : Nat, s.wait = w := ⟨s.wait.toNat, by omega⟩
        have hn : asksN op (q :: r) s = some (putDoc q (decide (op = [60, 60, 45])) s) := by unfold asksN docOk; simp [d1, d2, d3'', d4m, show s.wait < 4 by omega]
        have hw4 : w < 4 := by omega
        have hw4' : (w : Int) < 4 := by omega
        have d5' : ¬ (4 : Int) ≤ w := by omega
        have k1 := set_doc hs [str line, ve] hw4 ⟨q.text, decide (op = [60, 60, 45]), q.raw⟩
        simp only at k1
        have hs1 : ShS.ok { s with docs := s.docs.set w ⟨q.text, decide (op = [60, 60, 45]), q.raw⟩ } := ⟨hs.stk, by simp [hs.docs]⟩
        have k2 := set_wait hs1 [str line, ve] ((w : Int) + 1)
        have kw := scS_wait hs1 [str line, ve]
        simp only [hw] at kw
        have m1 : 69 + w * 3 + 3 ≤ (scS s [str line, ve]).length := sc_le hs _ _ (by omega)
        have m2 : 82 ≤ (scS { s with docs := s.docs.set w ⟨q.text, decide (op = [60, 60, 45]), q.raw⟩ } [str line, ve]).length := sc_le hs1 _ _ (by omega)
        rw [hw] at k1 k2 m2
        have w0 : IntKind.i64.wrap ((w : Int) + 1) = (w : Int) + 1 := wrap_i64 (by omega) (by omega)
        have e1 : putDoc q (decide (op = [60, 60, 45])) s = { s with docs := s.docs.set w ⟨q.text, decide (op = [60, 60, 45]), q.raw⟩, wait := (w : Int) + 1 } := by unfold putDoc; rw [hw]; rfl
        simp [h1, nil_ptr, hb, hc, c3, c4, r1, scS_wait hs, hw, d5', hw4, hw4', hn, k1, kw, m1, m2, w0, k2, e1]
        exact ⟨⟨ve, by simp, (sl.put hcb _).put hcb _⟩, ⟨by simpa using h1, by simp, fun c q1 q2 => by simp [q2], fun c C own fz ty q1 q2 q3 => by simpa [q2] using q3⟩⟩
end Go.Dm
