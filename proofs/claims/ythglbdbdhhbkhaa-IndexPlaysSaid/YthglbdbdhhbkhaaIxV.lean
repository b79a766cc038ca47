/- An index that is known (wakes). -/
import Derived.Test.YthglbdbdhhbkhaaIxF
set_option linter.unusedVariables false
set_option linter.unusedSimpArgs false
namespace Go.Dm
open Go.Proofs
theorem riseL_id {l : List (List UInt8)} (u : Up l) : riseL l = l := (riseL_up l).ext u fun s => riseL_mem l s
theorem RdS.keep {h h' : H} {xb em dm mm cm : Nat} {L : List En} {f : Int → Option Value} (rep : Rep h xb em dm mm cm L f) {v : Value} {l : List (List UInt8)} (r : RdS h v l) (hn : h.next ≤ h'.next) (hk : ∀ b, b < h.next → b ≠ em → b ≠ dm → b ≠ mm → b ≠ cm → h'.get b = h.get b) : RdS h' v l := by
  rcases r with r | ⟨b, cap, c, st, own, fz, ty, a1, a2, a3, a4, a5⟩
  · exact .inl r
  · refine .inr ⟨b, cap, c, st, own, fz, ty, a1, a2, (hk b a4 ?_ ?_ ?_ ?_).trans a3, Nat.lt_of_lt_of_le a4 hn, a5⟩
    · rintro rfl; exact rep.e.nc _ _ _ _ _ a3
    · rintro rfl; exact rep.d.nc _ _ _ _ _ a3
    · rintro rfl; exact rep.m.nc _ _ _ _ _ a3
    · rintro rfl; exact rep.c.nc _ _ _ _ _ a3
/-- Other memory does not touch an index. -/
theorem Rep.fr {h h' : H} {xb em dm mm cm : Nat} {L : List En} {f : Int → Option Value} (rep : Rep h xb em dm mm cm L f) (fr : Fr h.next h h') : Rep h' xb em dm mm cm L f :=
  ⟨(fr.get _ rep.xlt).trans rep.x, Nat.lt_of_lt_of_le rep.xlt fr.next, Nat.lt_of_lt_of_le rep.elt fr.next, Nat.lt_of_lt_of_le rep.dlt fr.next, Nat.lt_of_lt_of_le rep.mlt fr.next, Nat.lt_of_lt_of_le rep.clt fr.next, rep.ne, rep.e.of_get (fr.get _ rep.elt), (fun n => by
    have q := rep.en n
    cases hg : getL L n with
    | none => rw [hg] at q; exact q
    | some e =>
      rw [hg] at q
      obtain ⟨v1, v2, q1, q2, q3⟩ := q
      exact ⟨v1, v2, q1, q2.of_get fr.next (fun b c _ hb _ => fr.get b hb) (fun _ h => h), q3.of_get fr.next (fun b c _ hb _ => fr.get b hb) (fun _ h => h)⟩), rep.d.of_get (fr.get _ rep.dlt), rep.m.of_get (fr.get _ rep.mlt), rep.c.of_get (fr.get _ rep.clt), rep.ris, rep.up, rep.ml⟩
def lA : List UInt8 := [97]
def lB : List UInt8 := [98]
def W1 : List En := [⟨1, [lA], [lB]⟩]
def W2 : List En := [⟨1, [lA], [lB]⟩, ⟨2, [lA, lB], []⟩]
theorem upA : Up [lA] := List.pairwise_singleton ..
theorem upB : Up [lB] := List.pairwise_singleton ..
theorem upAB : Up [lA, lB] := by unfold Up lA lB; decide
theorem w1_eq : putL [] 1 (riseL [lA]) (riseL [lB]) = W1 := by rw [riseL_id upA, riseL_id upB]; rfl
theorem w2_eq : putL W1 2 (riseL [lA, lB]) (riseL []) = W2 := by rw [riseL_id upAB, riseL_nil]; rfl
theorem w1_told : toldL [] W1 = [lA] := by
  refine (riseL_up _).ext upA fun s => ?_
  rw [show (s ∈ riseL _ ↔ _) from told_mem]
  by_cases h : s = lA
  · subst h; decide
  · simp [cntL, W1, h]
theorem w2_told : toldL W1 W2 = [lB] := by
  refine (riseL_up _).ext upB fun s => ?_
  rw [show (s ∈ riseL _ ↔ _) from told_mem]
  by_cases h : s = lA
  · subst h; decide
  · by_cases h2 : s = lB
    · subst h2; decide
    · simp [cntL, W1, W2, h, h2]
set_option maxRecDepth 100000 in
set_option maxHeartbeats 8000000 in
theorem wakes_sp (h : H) (h1 : h.one = []) : CallW E0 X0 (.fn 8) [] h (fun r h' => r = .bool true ∧ Fr h.next h h') := by
  refine CallW.body efn8 rfl (xo (by decide) ..) rfl [] (by kernel_rfl) ?_
  simp [Try.f8, h1]
  refine (New_sp h h1).mono ?_
  rintro _ h2 ⟨xb, em, dm, mm, cm, rfl, rep, f2, lx, le, ld, lm, lc⟩
  have hz1 : zerosD [str []] 1 = [str []] := rfl
  have hz2 : zerosD [str []] 2 = [str [], str []] := rfl
  have hz3 : zerosD [.int .i64 0] 1 = [.int .i64 0] := rfl
  simp [f2.one, hz1]
  obtain ⟨h3, hh3⟩ : ∃ h3, h3 = (h2.nw (.cells [str lA] 1 true 0 none)).nw (.cells [str lB] 1 true 0 none) := ⟨_, rfl⟩
  have f3 : Fr h2.next h2 h3 := by rw [hh3]; exact ((Fr.refl f2.one).nw (Nat.le_refl _) _).nw (by simp) _
  have n3 : h3.next = h2.next + 2 := by rw [hh3]; rfl
  have ra : RdS h3 (.slice (some ⟨h2.next, 0, none⟩) 1 1) [lA] := .inr ⟨h2.next, 1, [str lA], 1, true, 0, none, rfl, Nat.le_refl _, by rw [hh3]; simp, by omega, rfl, .inr rfl⟩
  have rb : RdS h3 (.slice (some ⟨h2.next + 1, 0, none⟩) 1 1) [lB] := .inr ⟨h2.next + 1, 1, [str lB], 1, true, 0, none, rfl, Nat.le_refl _, by rw [hh3]; simp, by omega, rfl, .inr rfl⟩
  rw [show str [97] = str lA from rfl, show str [98] = str lB from rfl, ← hh3]
  clear hh3
  refine (Put_sp xb em dm mm cm [] _ 1 _ _ [lA] [lB] h3 f3.one (rep.fr f3) ra rb (by decide) (by decide) (by intro s hs; rw [List.mem_singleton.1 hs, maxLen_eq]; decide)).mono ?_
  rintro _ h4 ⟨rv1, o1, rfl, t1, rep1, _, k1, n4, o4⟩
  rw [w1_eq] at rep1 t1
  rw [w1_told] at t1
  have f4 : Fr h.next h h4 := ⟨o4, by have := f2.next; have := f3.next; omega, fun b hb => by
    have := f2.next; have := f3.next
    rw [k1 b (by omega) (by omega) (by omega) (by omega) (by omega), f3.get b (by omega)]
    exact f2.get b hb⟩
  simp [o4, hz2]
  obtain ⟨h5, hh5⟩ : ∃ h5, h5 = h4.nw (.cells [str lA, str lB] 1 true 0 none) := ⟨_, rfl⟩
  have f5 : Fr h4.next h4 h5 := by rw [hh5]; exact (Fr.refl o4).nw (Nat.le_refl _) _
  have n5 : h5.next = h4.next + 1 := by rw [hh5]; rfl
  have rab : RdS h5 (.slice (some ⟨h4.next, 0, none⟩) 2 2) [lA, lB] := .inr ⟨h4.next, 2, [str lA, str lB], 1, true, 0, none, rfl, Nat.le_refl _, by rw [hh5]; simp, by omega, rfl, .inr rfl⟩
  rw [← hh5]
  clear hh5
  have rep5 := rep1.fr f5
  refine (Put_sp xb em dm mm cm W1 _ 2 _ _ [lA, lB] [] h5 f5.one rep5 rab (rdn h5) (by decide) (by decide) (by
    intro s hs
    rw [maxLen_eq]
    rcases List.mem_cons.1 hs with rfl | hs
    · decide
    · rw [List.mem_singleton.1 hs]; decide)).mono ?_
  rintro _ h6 ⟨rv2, o2, rfl, t2, rep2, _, k2, n6, o6⟩
  rw [w2_eq] at rep2 t2
  rw [w2_told] at t2
  have t1' : RdS h6 rv1 [lA] := (t1.fr f5).keep rep5 n6 k2
  have f6 : Fr h.next h h6 := ⟨o6, by have := f4.next; have := f5.next; omega, fun b hb => by
    have := f4.next; have := f5.next
    rw [k2 b (by omega) (by omega) (by omega) (by omega) (by omega), f5.get b (by omega)]
    exact f4.get b hb⟩
  simp [o6, hz1]
  obtain ⟨h7, hh7⟩ : ∃ h7, h7 = h6.nw (.cells [str lA] 1 true 0 none) := ⟨_, rfl⟩
  have f7 : Fr h6.next h6 h7 := by rw [hh7]; exact (Fr.refl o6).nw (Nat.le_refl _) _
  have ra7 : RdS h7 (.slice (some ⟨h6.next, 0, none⟩) 1 1) [lA] := .inr ⟨h6.next, 1, [str lA], 1, true, 0, none, rfl, Nat.le_refl _, by rw [hh7]; simp, by rw [hh7]; simp, rfl, .inr rfl⟩
  rw [← hh7]
  clear hh7
  refine (Same_sp _ _ [lA] [lA] (by decide) (by decide) h7 f7.one (t1'.fr f7) ra7).mono ?_
  rintro _ h7 ⟨rfl, rfl⟩
  simp [f7.one, hz1]
  obtain ⟨h8, hh8⟩ : ∃ h8, h8 = h7.nw (.cells [str lB] 1 true 0 none) := ⟨_, rfl⟩
  have f8 : Fr h7.next h7 h8 := by rw [hh8]; exact (Fr.refl f7.one).nw (Nat.le_refl _) _
  have rb8 : RdS h8 (.slice (some ⟨h7.next, 0, none⟩) 1 1) [lB] := .inr ⟨h7.next, 1, [str lB], 1, true, 0, none, rfl, Nat.le_refl _, by rw [hh8]; simp, by rw [hh8]; simp, rfl, .inr rfl⟩
  rw [← hh8]
  clear hh8
  refine (Same_sp _ _ [lB] [lB] (by decide) (by decide) h8 f8.one ((t2.fr f7).fr f8) rb8).mono ?_
  rintro _ h8 ⟨rfl, rfl⟩
  have rep8 := (rep2.fr f7).fr f8
  simp [f8.one]
  refine (Len_sp xb em dm mm cm W2 _ h8 f8.one rep8).mono ?_
  rintro _ h8 ⟨rfl, rfl⟩
  simp [f8.one, show W2.length = 2 from rfl]
  refine (Defined_sp xb em dm mm cm W2 _ lA h8 f8.one rep8).mono ?_
  rintro _ h8 ⟨rfl, rfl⟩
  have hcA : cntL W2 lA = 2 := by decide
  simp [f8.one, hcA]
  refine (Who_sp xb em dm mm cm W2 _ lB h8 f8.one rep8 (by decide)).mono ?_
  rintro v9 h9 ⟨t9, f9⟩
  have hwB : whoP W2 lB = [1] := by decide
  rw [hwB] at t9
  simp [f9.one, hz3]
  obtain ⟨h10, hh10⟩ : ∃ h10, h10 = h9.nw (.cells [.int .i64 1] 1 true 0 none) := ⟨_, rfl⟩
  have f10 : Fr h9.next h9 h10 := by rw [hh10]; exact (Fr.refl f9.one).nw (Nat.le_refl _) _
  have rb10 : RdI h10 (.slice (some ⟨h9.next, 0, none⟩) 1 1) [1] := .inr ⟨h9.next, 1, [.int .i64 1], 1, true, 0, none, rfl, Nat.le_refl _, by rw [hh10]; simp, by rw [hh10]; simp, rfl, .inr rfl⟩
  rw [← hh10]
  clear hh10
  refine (Ints_sp _ _ [1] [1] (by decide) (by decide) h10 f10.one (t9.fr f10) rb10).mono ?_
  rintro _ h10 ⟨rfl, rfl⟩
  have m6 := f6.next
  have m7 := f7.next
  have m8 := f8.next
  have m9 := f9.next
  simp [f10.one]
  exact f6.trans ((f7.mono (by omega)).trans ((f8.mono (by omega)).trans ((f9.mono (by omega)).trans (f10.mono (by omega)))))
end Go.Dm
