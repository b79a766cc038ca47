/- The program's index and the reference's in one memory. -/
import Derived.Test.YthglbdbdhhbkhaaRfC
set_option linter.unusedVariables false
set_option linter.unusedSimpArgs false
namespace Go.Dm
open Go.Proofs
set_option maxRecDepth 100000 in
theorem RPut_all (wb : Nat) (L : List En) (Y : Nat → Prop) (n : Int) (dv mv : Value) (ds ms : List (List UInt8)) (h : H) (h1 : h.one = []) (rep : RRep h wb L Y) (hris : Ris L) (hd : RdS h dv ds) (hm : RdS h mv ms) (hT : totL L + ds.length + ms.length < 2 ^ 19) (hL : L.length < 2 ^ 19) :
    CallW E0 X0 (.fn 15) [.pointer (some ⟨wb, 0, none⟩), .int .i64 n, dv, mv] h (fun r h' => ∃ rv L', L' = (if n < 0 then L else putL L n (riseL ds) (riseL ms)) ∧ r = .tuple #[rv, .int .i64 (if n < 0 then 1 else 0)] ∧ (RdS h' rv (toldL L L') ∧ InY (fun b => h.next ≤ b) rv) ∧ RRep h' wb L' (fun b => Y b ∨ (h.next ≤ b ∧ b < h'.next)) ∧ (∀ b, b < h.next → b ≠ wb → h'.get b = h.get b) ∧ h.next ≤ h'.next ∧ h'.one = []) := by
  by_cases hn : n < 0
  · refine CallW.body efn15 rfl (xo (by decide) ..) rfl [] (by kernel_rfl) ?_
    simp [Try.f15, h1, hn]
    refine ⟨⟨by rw [told_self]; exact .inl ⟨none, rfl, rfl⟩, .inl rfl⟩, rep.of_get (Nat.le_refl _) (fun _ _ _ _ _ _ => rfl) (fun b hb => .inl hb)⟩
  · refine (RPut_sp wb L Y n dv mv ds ms h h1 rep hris hd hm hn hT hL).mono ?_
    rintro r h' ⟨rv, q1, q2, q3, q4, q5, q6⟩
    rw [if_neg hn, if_neg hn]
    exact ⟨rv, _, rfl, q1, q2, q3, q4, q5, q6⟩
/-- One block of cells changes that is not the index's. -/
theorem Rep.keepz {h h' : H} {xb em dm mm cm : Nat} {L : List En} {f : Int → Option Value} (r : Rep h xb em dm mm cm L f) (z : Nat) {c : List Value} {st : Nat} {o : Bool} {fz : Nat} {ty : Option TypeId} (hz : h.get z = some (.cells c st o fz ty)) (hx : xb ≠ z) (hE : ∀ k, OwnE (fun b => b ≠ z) (f k)) (hn : h.next ≤ h'.next)
    (hk : ∀ b, b < h.next → b ≠ z → h'.get b = h.get b) : Rep h' xb em dm mm cm L f := by
  have ne : em ≠ z := by rintro rfl; exact r.e.nc _ _ _ _ _ hz
  have nd : dm ≠ z := by rintro rfl; exact r.d.nc _ _ _ _ _ hz
  have nm : mm ≠ z := by rintro rfl; exact r.m.nc _ _ _ _ _ hz
  have nc : cm ≠ z := by rintro rfl; exact r.c.nc _ _ _ _ _ hz
  refine ⟨(hk _ r.xlt hx).trans r.x, Nat.lt_of_lt_of_le r.xlt hn, Nat.lt_of_lt_of_le r.elt hn, Nat.lt_of_lt_of_le r.dlt hn, Nat.lt_of_lt_of_le r.mlt hn, Nat.lt_of_lt_of_le r.clt hn, r.ne, r.e.of_get (hk _ r.elt ne), (fun n => ?_), r.d.of_get (hk _ r.dlt nd), r.m.of_get (hk _ r.mlt nm), r.c.of_get (hk _ r.clt nc), r.ris, r.up, r.ml⟩
  have q := r.en n
  cases hg : getL L n with
  | none => rw [hg] at q; exact q
  | some e =>
    rw [hg] at q
    obtain ⟨v1, v2, q1, q2, q3⟩ := q
    have ho := hE n
    rw [q1] at ho
    rcases ho with ho | ⟨u1, u2, ho, i1, i2⟩
    · cases ho
    · have ho := Option.some.inj ho
      injection ho with ho
      injection ho with ho
      injection ho with p1 p2
      injection p2 with p2 p3
      subst p1 p2
      have keep : ∀ {v ws}, InY (fun b => b ≠ z) v → RdY (fun _ => True) h v ws → RdY (fun _ => True) h' v ws := by
        intro v ws hi hr
        rcases hr with hr | ⟨b, cap, c, a1, a2, a3, a4, a5, a6⟩
        · exact .inl hr
        · refine .inr ⟨b, cap, c, a1, a2, (hk b a4 ?_).trans a3, Nat.lt_of_lt_of_le a4 hn, a5, a6⟩
          rcases hi with hi | ⟨b', n', c', hi, hb'⟩
          · rw [hi] at a1; cases a1
          · rw [hi] at a1; cases a1; exact hb'
      exact ⟨_, _, q1, keep i1 q2, keep i2 q3⟩
/-- The entries' slices: their blocks are rows of strings, and lie below. -/
theorem Rep.own {h : H} {xb em dm mm cm : Nat} {L : List En} {f : Int → Option Value} (r : Rep h xb em dm mm cm L f) (k : Int) : OwnE (fun b => b < h.next ∧ ∃ c, h.get b = some (.cells c 1 true 0 none)) (f k) := by
  have q := r.en k
  have iny : ∀ {v ws}, RdY (fun _ => True) h v ws → InY (fun b => b < h.next ∧ ∃ c, h.get b = some (.cells c 1 true 0 none)) v := by
    intro v ws hr
    rcases hr with hr | ⟨b, cap, c, a1, a2, a3, a4, a5, a6⟩
    · exact .inl hr.1
    · exact .inr ⟨b, _, _, a1, a4, c, a3⟩
  cases hg : getL L k with
  | none => rw [hg] at q; exact .inl q
  | some e =>
    rw [hg] at q
    obtain ⟨v1, v2, q1, q2, q3⟩ := q
    exact .inr ⟨v1, v2, q1, iny q2, iny q3⟩
theorem OwnE.wid {Y Z : Nat → Prop} {o : Option Value} (w : OwnE Y o) (k : ∀ b, Y b → Z b) : OwnE Z o := by
  have iy : ∀ {v}, InY Y v → InY Z v := fun h => h.imp id fun ⟨b, n, c, a, y⟩ => ⟨b, n, c, a, k b y⟩
  exact w.imp id fun ⟨v1, v2, a, i1, i2⟩ => ⟨v1, v2, a, iy i1, iy i2⟩
/-- Labels that are read, while the reference's own cell changes. -/
theorem RdS.keepw {h h' : H} {wb : Nat} {lv lv' : Value} {v : Value} {l : List (List UInt8)} (r : RdS h v l) (hw : h.get wb = some (.cells [lv] 0 true 0 none)) (hl : ∀ s, lv ≠ str s) (hw' : h'.get wb = some (.cells [lv'] 0 true 0 none)) (hn : h.next ≤ h'.next) (hk : ∀ b, b < h.next → b ≠ wb → h'.get b = h.get b) : RdS h' v l := by
  rcases r with r | ⟨b, cap, c, st, own, fz, ty, a1, a2, a3, a4, a5, a6⟩
  · exact .inl r
  · by_cases hb : b = wb
    · subst hb
      rw [hw] at a3
      cases a3
      have h0 : l = [] := by
        cases l with
        | nil => rfl
        | cons s l =>
          simp at a5
          exact absurd a5.1 (hl s)
      subst h0
      exact .inr ⟨b, cap, [lv'], 0, true, 0, none, a1, a2, hw', Nat.lt_of_lt_of_le a4 hn, rfl, .inl rfl⟩
    · exact .inr ⟨b, cap, c, st, own, fz, ty, a1, a2, (hk b a4 hb).trans a3, Nat.lt_of_lt_of_le a4 hn, a5, a6⟩
theorem RRep.cell {h : H} {wb : Nat} {L : List En} {Y : Nat → Prop} (r : RRep h wb L Y) : ∃ lv, h.get wb = some (.cells [lv] 0 true 0 none) ∧ ∀ s, lv ≠ str s := by
  obtain ⟨lv, l1, l2⟩ := r.w
  obtain ⟨a, c, rfl⟩ := l2.sl
  exact ⟨_, l1, fun s => by intro e; cases e⟩
/-- The program's Put leaves the reference's index. -/
theorem RRep.keepx {h h' : H} {xb em dm mm cm : Nat} {L : List En} {f : Int → Option Value} (rep : Rep h xb em dm mm cm L f) {wb : Nat} {M : List En} {Y : Nat → Prop} (r : RRep h wb M Y) (hn : h.next ≤ h'.next) (hk : ∀ b, b < h.next → b ≠ em → b ≠ dm → b ≠ mm → b ≠ cm → h'.get b = h.get b) : RRep h' wb M Y :=
  r.of_get hn (fun b c st _ hb hc => hk b hb (by rintro rfl; exact rep.e.nc _ _ _ _ _ hc) (by rintro rfl; exact rep.d.nc _ _ _ _ _ hc) (by rintro rfl; exact rep.m.nc _ _ _ _ _ hc) (by rintro rfl; exact rep.c.nc _ _ _ _ _ hc)) (fun _ h => h)
/-- The reference's Put leaves the program's index. -/
theorem Rep.keepw {h h' : H} {xb em dm mm cm : Nat} {L : List En} {f : Int → Option Value} (rep : Rep h xb em dm mm cm L f) {wb : Nat} {M : List En} {Y : Nat → Prop} (r : RRep h wb M Y) (hx : xb ≠ wb) (hn : h.next ≤ h'.next) (hk : ∀ b, b < h.next → b ≠ wb → h'.get b = h.get b) : Rep h' xb em dm mm cm L f := by
  obtain ⟨lv, l1, _⟩ := r.cell
  refine rep.keepz wb l1 hx (fun k => (rep.own k).wid ?_) hn hk
  rintro b ⟨_, c, hc⟩ rfl
  rw [l1] at hc
  cases hc
theorem Drop_done (xb em dm mm cm : Nat) (L : List En) (f : Int → Option Value) (a : Ac) (hw : a.w = 0) (h : H) (h1 : h.one = []) (rep : Rep h xb em dm mm cm L f) (hT : totL L < 2 ^ 20) :
    CallW E0 X0 (.fn 14) [.pointer (some ⟨xb, 0, none⟩), .int .i64 a.n] h (DonePost xb em dm mm cm L a f h) := by
  by_cases hn : a.n < 0
  · refine (Drop_neg xb a.n hn h h1).mono ?_
    rintro _ h3 ⟨rfl, f3⟩
    exact neg_done hn rep f3
  · refine (Drop_sp xb em dm mm cm L f a.n h h1 rep (by omega) hT).mono ?_
    intro r h3 hp
    exact hp.done hn (by unfold actL; rw [if_neg hn, if_pos hw])
theorem Put_done (xb em dm mm cm : Nat) (L : List En) (f : Int → Option Value) (a : Ac) (hw : ¬ a.w = 0) (dv mv : Value) (h : H) (h1 : h.one = []) (rep : Rep h xb em dm mm cm L f) (hd : RdS h dv a.d) (hm : RdS h mv a.m) (hT : totL L + a.d.length + a.m.length < 2 ^ 20) (hml : ∀ s ∈ a.d, s.length ≤ maxLen) :
    CallW E0 X0 (.fn 16) [.pointer (some ⟨xb, 0, none⟩), .int .i64 a.n, dv, mv] h (DonePost xb em dm mm cm L a f h) := by
  by_cases hn : a.n < 0
  · refine (Put_neg xb a.n hn dv mv h h1).mono ?_
    rintro _ h3 ⟨rfl, f3⟩
    exact neg_done hn rep f3
  · refine (Put_sp xb em dm mm cm L f a.n dv mv a.d a.m h h1 rep hd hm (by omega) hT hml).mono ?_
    intro r h3 hp
    exact hp.done hn (by unfold actL; rw [if_neg hn, if_neg hw])
theorem RdS.keepz {h h' : H} {v : Value} {l : List (List UInt8)} {Y : Nat → Prop} (r : RdS h v l) (i : InY Y v) (z : Nat) (hz : ¬ Y z) (hn : h.next ≤ h'.next) (hk : ∀ b, b ≠ z → h'.get b = h.get b) : RdS h' v l := by
  rcases r with r | ⟨b, cap, c, st, own, fz, ty, a1, a2, a3, a4, a5⟩
  · exact .inl r
  · refine .inr ⟨b, cap, c, st, own, fz, ty, a1, a2, (hk b ?_).trans a3, Nat.lt_of_lt_of_le a4 hn, a5⟩
    rintro rfl
    rcases i with i | ⟨b', n, c', i, y⟩
    · rw [i] at a1; cases a1
    · rw [i] at a1; cases a1; exact hz y
end Go.Dm
