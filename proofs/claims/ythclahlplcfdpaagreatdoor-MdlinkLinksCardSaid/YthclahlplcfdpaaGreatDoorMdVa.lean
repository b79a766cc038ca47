/- An example is read; targets. -/
import Derived.Test.YthclahlplcfdpaaGreatDoorMdAd
set_option linter.unusedVariables false
set_option linter.unusedSimpArgs false
namespace Go.Dm
open Go.Proofs
theorem eq_lk (p q : Lk) : eqD E0 10000 33 (.agg (encLk p).toArray) (.agg (encLk q).toArray) = some (decide (p = q)) := by
  obtain ⟨a1, a2, a3, a4, a5⟩ := p
  obtain ⟨b1, b2, b3, b4, b5⟩ := q
  simp [encLk]
  rw [Bool.eq_iff_iff]
  simp
  try omega
theorem encLs_get {c : List Value} {l : List Lk} (h : c.take (l.length * 5) = encLs l) {i : Nat} (hi : i < l.length) : (c.drop (i * 5)).take 5 = encLk l[i] := by
  have e : l = l.take i ++ (l[i] :: l.drop (i + 1)) := by rw [← List.drop_eq_getElem_cons hi, List.take_append_drop]
  have e2 : encLs l = encLs (l.take i) ++ (encLk l[i] ++ encLs (l.drop (i + 1))) := by
    conv => lhs; rw [e]
    rw [encLs_app]
    rfl
  have e3 : ((c.take (l.length * 5)).drop (i * 5)).take 5 = ((encLs l).drop (i * 5)).take 5 := by rw [h]
  have hl : (encLs (l.take i)).length = i * 5 := by rw [encLs_len, List.length_take, Nat.min_eq_left (by omega)]
  rw [e2, ← hl, List.drop_left, hl, List.drop_take, List.take_take, Nat.min_eq_left (by omega)] at e3
  rw [e3]
  exact List.take_left' rfl
/-- A row of links, read. -/
theorem Row.at5 {B : Nat} {h : H} {v : Value} {l : List Lk} (s : Row 5 B h v (encLs l) l.length) {i : Nat} (hi : i < l.length) : ∃ g cap c, v = .slice (some ⟨g, 0, none⟩) l.length cap ∧ B ≤ g ∧ g < h.next ∧ h.get g = some (.cells c 5 true 0 none) ∧ i * 5 + 5 ≤ c.length ∧ (c.drop (i * 5)).take 5 = encLk l[i] ∧ l.length ≤ cap := by
  rcases s with ⟨_, _, e⟩ | ⟨g, cap, c, a1, a2, a3, a4, a5, a6, a7⟩
  · omega
  · exact ⟨g, cap, c, a1, a3, a4, a5, by rw [a6]; have := Nat.mul_le_mul_right 5 (Nat.le_trans hi a2); omega, encLs_get a7 hi, a2⟩
/-- The links of a line, with what is known. -/
def lksOf (l : List UInt8) (a e : Int) (ns : List (List UInt8)) : List Lk := lksL (fun x => decide (x ∈ ns)) (decide (eE l e = eN l)) (decide (lnN l < l.length)) (pE l e) a
def rdLine : List UInt8 := [91, 97, 32, 33, 91, 98, 93, 40, 99, 41, 32, 100, 93, 91, 88, 93, 10]
theorem rd_links : lksOf rdLine 0 99 [[120]] = [⟨0, 1, 12, 16, false⟩, ⟨3, 5, 6, 10, true⟩] := by decide +kernel
section
variable {h : H}
theorem Lks_sp (l : List UInt8) (hl : l.length < 2 ^ 31) (from_ e : Int) (ns : List (List UInt8)) (hns : ns.length < 2 ^ 31) (nv : Value) (hnv : RdS h nv ns) (h1 : h.one = []) (g : GmH h) :
    CallW E0 X0 (.fn 13) [str l, .int .i64 from_, .int .i64 e, nv] h (fun v h' => Row 5 h.next h' v (encLs (lksOf l from_ e ns)) (lksOf l from_ e ns).length ∧ Fr h.next h h') :=
  Links_sp l hl from_ e ns hns nv hnv h1 g
set_option maxRecDepth 100000 in
set_option maxHeartbeats 4000000 in
theorem reads_sp (h1 : h.one = []) (g : GmH h) : CallW E0 X0 (.fn 12) [] h (fun v h' => v = .bool true ∧ Fr h.next h h') := by
  refine CallW.body efn12 rfl rfl rfl [] (by kernel_rfl) ?_
  simp [Tryz.f12, h1, zerosD, List.range, List.range.loop]
  obtain ⟨h2, hh2⟩ : ∃ h2, h2 = h.nw (.cells [str [120]] 1 true 0 none) := ⟨_, rfl⟩
  rw [← hh2]
  have hF2 : Fr h.next h h2 := by rw [hh2]; exact (Fr.refl h1).nw (Nat.le_refl _) _
  have hr : RdS h2 (.slice (some ⟨h.next, 0, none⟩) 1 1) [[120]] := .inr ⟨h.next, 1, [str [120]], 1, true, 0, none, rfl, Nat.le_refl _, by rw [hh2]; simp, by rw [hh2]; simp, rfl, .inr rfl⟩
  clear hh2
  have hL := Lks_sp rdLine (by decide) 0 99 [[120]] (by decide) _ hr hF2.one (GmH.fr g hF2 g.2)
  rw [rd_links] at hL
  refine hL.mono ?_
  rintro v h3 ⟨hrow, hF3⟩
  obtain ⟨g0, cap, c, rfl, b1, b2, b3, b4, b5, b6⟩ := hrow.at5 (i := 0) (by decide)
  obtain ⟨g0', cap', c', e, _, _, b3', b4', b5', _⟩ := hrow.at5 (i := 1) (by decide)
  cases e
  rw [b3] at b3'
  cases b3'
  have b5 : List.take 5 c = encLk ⟨0, 1, 12, 16, false⟩ := b5
  have b5' : List.take 5 (List.drop 5 c) = encLk ⟨3, 5, 6, 10, true⟩ := b5'
  have b4 : 5 ≤ c.length := by omega
  have b4' : 10 ≤ c.length := by omega
  have hF := hF2.trans (hF3.mono hF2.next)
  have q0 := eq_lk ⟨0, 1, 12, 16, false⟩ ⟨0, 1, 12, 16, false⟩
  have q1 := eq_lk ⟨3, 5, 6, 10, true⟩ ⟨3, 5, 6, 10, true⟩
  rw [decide_eq_true rfl] at q0 q1
  simp [hF.one, b3, b4, b4', b5, b5', encLk]
  exact hF
theorem law_Targets (l : List UInt8) (at_ e : Int) (h1 : h.one = []) (g : GmH h) : CallW E0 X0 (.fn 3) [str l, .int .i64 at_, .int .i64 e] h (fun v _ => v = .bool true) := by
  refine CallW.body efn3 rfl rfl rfl [] (by kernel_rfl) ?_
  simp [Tryz.f3, h1]
  by_cases hc : 300 < l.length
  · have hc' : (300 : Int) < l.length := by omega
    simp [h1, hc, hc']
  have hc' : ¬ (300 : Int) < l.length := by omega
  simp [h1, hc, hc']
  refine (Target_sp l (by omega) at_ e h1 g).mono ?_
  rintro _ h2 ⟨rfl, hF2⟩
  have g2 := GmH.fr g hF2 g.2
  have ht : ∃ z b, tgO (pE l e) at_ = .tuple #[.int .i64 z, .bool b] := by
    unfold tgO nOk
    split
    · exact ⟨_, _, rfl⟩
    · split <;> exact ⟨_, _, rfl⟩
  obtain ⟨z, b, hz⟩ := ht
  rw [hz]
  simp [hF2.one]
  refine (Target22_sp l (by omega) at_ e hF2.one).mono ?_
  rintro _ h3 ⟨rfl, rfl⟩
  rw [hz]
  simp [hF2.one]
  refine (reads_sp hF2.one g2).mono ?_
  rintro _ h4 ⟨rfl, hF4⟩
  simp [hF4.one]
end
end Go.Dm
