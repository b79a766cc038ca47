/- The index's memory. -/
import Derived.Test.YthglbdbdhhbkhaaIxA
import Derived.Test.YthglbdbdhhbkhaaIxM
import Derived.Test.YthglbdbdhhbkhaaDNonE
set_option linter.unusedVariables false
set_option linter.unusedSimpArgs false
namespace Go.Dm
open Go.Proofs
/-- An entry's labels as they lie in memory. -/
def RdY (Y : Nat → Prop) (h : H) (v : Value) (ws : List (List UInt8)) : Prop := (v = .slice none 0 0 ∧ ws = []) ∨ ∃ b cap c, v = .slice (some ⟨b, 0, none⟩) ws.length cap ∧ ws.length ≤ cap ∧ h.get b = some (.cells c 1 true 0 none) ∧ b < h.next ∧ Y b ∧ c.take ws.length = ws.map str
theorem RdY.of_get {Y Z : Nat → Prop} {h h' : H} {v : Value} {ws : List (List UInt8)} (r : RdY Y h v ws) (hn : h.next ≤ h'.next) (hg : ∀ b c, Y b → b < h.next → h.get b = some (.cells c 1 true 0 none) → h'.get b = h.get b) (hZ : ∀ b, Y b → Z b) : RdY Z h' v ws := by
  rcases r with r | ⟨b, cap, c, a1, a2, a3, a4, a5, a6⟩
  · exact .inl r
  · exact .inr ⟨b, cap, c, a1, a2, (hg b c a5 a4 a3).trans a3, Nat.lt_of_lt_of_le a4 hn, hZ b a5, a6⟩
theorem RdY.rd {Y : Nat → Prop} {h : H} {v : Value} {ws : List (List UInt8)} (r : RdY Y h v ws) : RdS h v ws := by
  rcases r with r | ⟨b, cap, c, a1, a2, a3, a4, a5, a6⟩
  · exact .inl ⟨none, r⟩
  · exact .inr ⟨b, cap, c, 1, true, 0, none, a1, a2, a3, a4, a6, .inr rfl⟩
theorem Gath.rdy {B : Nat} {h : H} {v : Value} {l : List (List UInt8)} (s : Gath B h v l) : RdY (fun b => B ≤ b) h v l := by
  rcases s with s | ⟨_, g, cap, c, a1, a2, a3, a4, a5, a6, a7⟩
  · exact .inl s
  · rw [Nat.mul_one] at a7
    exact .inr ⟨g, cap, c, a1, a2, a5, a4, a3, a7⟩
def updF {K : Type} [DecidableEq K] (f : K → Option Value) (k : K) (o : Option Value) : K → Option Value := fun k' => if k' = k then o else f k'
structure Ne4 (em dm mm cm : Nat) : Prop where
  a : em ≠ dm
  b : em ≠ mm
  c : em ≠ cm
  d : dm ≠ mm
  e : dm ≠ cm
  f : mm ≠ cm
/-- The four maps at the time; all else is as it was at hB. -/
structure Mid (hB h : H) (em dm mm cm : Nat) (fe : Int → Option Value) (fd fm : List UInt8 × Int → Option Value) (fc : List UInt8 → Option Value) : Prop where
  e : MapAt (Value.int .i64) h em fe
  d : MapAt keyS h dm fd
  m : MapAt keyS h mm fm
  c : MapAt str h cm fc
  next : h.next = hB.next
  one : h.one = []
  get : ∀ b, b ≠ em → b ≠ dm → b ≠ mm → b ≠ cm → h.get b = hB.get b
section
variable {hB h : H} {em dm mm cm : Nat} {fe : Int → Option Value} {fd fm : List UInt8 × Int → Option Value} {fc : List UInt8 → Option Value}
theorem Mid.updE (M : Mid hB h em dm mm cm fe fd fm fc) (n4 : Ne4 em dm mm cm) {h' : H} (u : Upd em h h') {g : Int → Option Value} (m : MapAt (Value.int .i64) h' em g) : Mid hB h' em dm mm cm g fd fm fc :=
  ⟨m, M.d.of_get (u.get _ n4.a.symm), M.m.of_get (u.get _ n4.b.symm), M.c.of_get (u.get _ n4.c.symm), u.next.trans M.next, u.one.trans M.one, fun b q1 q2 q3 q4 => (u.get b q1).trans (M.get b q1 q2 q3 q4)⟩
theorem Mid.updD (M : Mid hB h em dm mm cm fe fd fm fc) (n4 : Ne4 em dm mm cm) {h' : H} (u : Upd dm h h') {g : List UInt8 × Int → Option Value} (m : MapAt keyS h' dm g) : Mid hB h' em dm mm cm fe g fm fc :=
  ⟨M.e.of_get (u.get _ n4.a), m, M.m.of_get (u.get _ n4.d.symm), M.c.of_get (u.get _ n4.e.symm), u.next.trans M.next, u.one.trans M.one, fun b q1 q2 q3 q4 => (u.get b q2).trans (M.get b q1 q2 q3 q4)⟩
theorem Mid.updM (M : Mid hB h em dm mm cm fe fd fm fc) (n4 : Ne4 em dm mm cm) {h' : H} (u : Upd mm h h') {g : List UInt8 × Int → Option Value} (m : MapAt keyS h' mm g) : Mid hB h' em dm mm cm fe fd g fc :=
  ⟨M.e.of_get (u.get _ n4.b), M.d.of_get (u.get _ n4.d), m, M.c.of_get (u.get _ n4.f.symm), u.next.trans M.next, u.one.trans M.one, fun b q1 q2 q3 q4 => (u.get b q3).trans (M.get b q1 q2 q3 q4)⟩
theorem Mid.updC (M : Mid hB h em dm mm cm fe fd fm fc) (n4 : Ne4 em dm mm cm) {h' : H} (u : Upd cm h h') {g : List UInt8 → Option Value} (m : MapAt str h' cm g) : Mid hB h' em dm mm cm fe fd fm g :=
  ⟨M.e.of_get (u.get _ n4.c), M.d.of_get (u.get _ n4.e), M.m.of_get (u.get _ n4.f), m, u.next.trans M.next, u.one.trans M.one, fun b q1 q2 q3 q4 => (u.get b q4).trans (M.get b q1 q2 q3 q4)⟩
theorem Mid.congr (M : Mid hB h em dm mm cm fe fd fm fc) {ge : Int → Option Value} {gd gm : List UInt8 × Int → Option Value} {gc : List UInt8 → Option Value} (h1 : ∀ k, fe k = ge k) (h2 : ∀ k, fd k = gd k) (h3 : ∀ k, fm k = gm k) (h4 : ∀ k, fc k = gc k) : Mid hB h em dm mm cm ge gd gm gc :=
  ⟨M.e.congr h1, M.d.congr h2, M.m.congr h3, M.c.congr h4, M.next, M.one, M.get⟩
theorem Mid.putE (M : Mid hB h em dm mm cm fe fd fm fc) (n4 : Ne4 em dm mm cm) (n : Int) (v : Value) : ∃ h', mapPutD E0 52 (.map (some em)) (.int .i64 n) v h = some h' ∧ Mid hB h' em dm mm cm (updF fe n (some v)) fd fm fc := by
  obtain ⟨h', q1, q2, q3⟩ := put_at ko_int und52 M.e n v
  exact ⟨h', q1, M.updE n4 q2 q3⟩
theorem Mid.delE (M : Mid hB h em dm mm cm fe fd fm fc) (n4 : Ne4 em dm mm cm) (n : Int) : ∃ h', mapDelD E0 52 (.map (some em)) (.int .i64 n) h = some h' ∧ Mid hB h' em dm mm cm (updF fe n none) fd fm fc := by
  obtain ⟨h', q1, q2, q3⟩ := del_at ko_int und52 M.e n
  exact ⟨h', q1, M.updE n4 q2 q3⟩
theorem Mid.putD (M : Mid hB h em dm mm cm fe fd fm fc) (n4 : Ne4 em dm mm cm) (s : List UInt8) (n : Int) (v : Value) : ∃ h', mapPutD E0 53 (.map (some dm)) (.agg #[str s, .int .i64 n]) v h = some h' ∧ Mid hB h' em dm mm cm fe (updF fd (s, n) (some v)) fm fc := by
  obtain ⟨h', q1, q2, q3⟩ := put_at ko_said und53 M.d (s, n) v
  exact ⟨h', q1, M.updD n4 q2 q3⟩
theorem Mid.delD (M : Mid hB h em dm mm cm fe fd fm fc) (n4 : Ne4 em dm mm cm) (s : List UInt8) (n : Int) : ∃ h', mapDelD E0 53 (.map (some dm)) (.agg #[str s, .int .i64 n]) h = some h' ∧ Mid hB h' em dm mm cm fe (updF fd (s, n) none) fm fc := by
  obtain ⟨h', q1, q2, q3⟩ := del_at ko_said und53 M.d (s, n)
  exact ⟨h', q1, M.updD n4 q2 q3⟩
theorem Mid.putM (M : Mid hB h em dm mm cm fe fd fm fc) (n4 : Ne4 em dm mm cm) (s : List UInt8) (n : Int) (v : Value) : ∃ h', mapPutD E0 53 (.map (some mm)) (.agg #[str s, .int .i64 n]) v h = some h' ∧ Mid hB h' em dm mm cm fe fd (updF fm (s, n) (some v)) fc := by
  obtain ⟨h', q1, q2, q3⟩ := put_at ko_said und53 M.m (s, n) v
  exact ⟨h', q1, M.updM n4 q2 q3⟩
theorem Mid.delM (M : Mid hB h em dm mm cm fe fd fm fc) (n4 : Ne4 em dm mm cm) (s : List UInt8) (n : Int) : ∃ h', mapDelD E0 53 (.map (some mm)) (.agg #[str s, .int .i64 n]) h = some h' ∧ Mid hB h' em dm mm cm fe fd (updF fm (s, n) none) fc := by
  obtain ⟨h', q1, q2, q3⟩ := del_at ko_said und53 M.m (s, n)
  exact ⟨h', q1, M.updM n4 q2 q3⟩
theorem Mid.putC (M : Mid hB h em dm mm cm fe fd fm fc) (n4 : Ne4 em dm mm cm) (s : List UInt8) (v : Value) : ∃ h', mapPutD E0 54 (.map (some cm)) (str s) v h = some h' ∧ Mid hB h' em dm mm cm fe fd fm (updF fc s (some v)) := by
  obtain ⟨h', q1, q2, q3⟩ := put_at ko_str und54 M.c s v
  exact ⟨h', q1, M.updC n4 q2 q3⟩
theorem Mid.delC (M : Mid hB h em dm mm cm fe fd fm fc) (n4 : Ne4 em dm mm cm) (s : List UInt8) : ∃ h', mapDelD E0 54 (.map (some cm)) (str s) h = some h' ∧ Mid hB h' em dm mm cm fe fd fm (updF fc s none) := by
  obtain ⟨h', q1, q2, q3⟩ := del_at ko_str und54 M.c s
  exact ⟨h', q1, M.updC n4 q2 q3⟩
theorem Mid.lookC (M : Mid hB h em dm mm cm fe fd fm fc) (s : List UInt8) : lookupD E0 54 (.map (some cm)) (str s) false h = some ((fc s).getD (.int .i64 0)) := lookup_at ko_str und54 zer3 M.c s false
end
end Go.Dm
