/- Trees: kids; lists of numbers held against each other. -/
import Derived.Test.YtnmfdjmejpioiaaDoorTrK
import Derived.Test.YtnmfdjmejpioiaaDoorTrHs
set_option linter.unusedVariables false
set_option linter.unusedSimpArgs false
namespace Go.Dm
open Go.Proofs
/-- A slice of numbers, that is only read. -/
def RdK (h : H) (v : Value) (L : List Nat) : Prop := (v = .slice none 0 0 ∧ L = []) ∨ ∃ b o cap c st own fz ty, v = .slice (some ⟨b, o, none⟩) L.length cap ∧ h.get b = some (.cells c st own fz ty) ∧ b < h.next ∧ ∀ i, i < L.length → c[o + i]? = some (.int .i64 ((L.getD i 0 : Nat) : Int))
theorem RdK.mono {h h' : H} {v : Value} {L : List Nat} (r : RdK h v L) (f : Fr h.next h h') : RdK h' v L := by
  rcases r with r | ⟨b, o, cap, c, st, own, fz, ty, a1, a2, a3, a4⟩
  · exact .inl r
  · exact .inr ⟨b, o, cap, c, st, own, fz, ty, a1, (f.get _ a3).trans a2, Nat.lt_of_lt_of_le a3 f.next, a4⟩
theorem RdK.sl {h : H} {v : Value} {L : List Nat} (r : RdK h v L) : ∃ a cap, v = .slice a L.length cap := by
  rcases r with ⟨rfl, rfl⟩ | ⟨b, o, cap, c, st, own, fz, ty, rfl, _⟩
  · exact ⟨none, 0, rfl⟩
  · exact ⟨_, _, rfl⟩
theorem RdK.of {B : Nat} {h : H} {v : Value} {L : List Nat} (s : SlG none 1 B h v (encK L) L.length) : RdK h v L := by
  rcases s with ⟨a, b, c⟩ | ⟨s1, s2, g, s3, s4, s5, s6⟩
  · exact .inl ⟨b, List.eq_nil_of_length_eq_zero a⟩
  · exact .inr ⟨g, 0, L.length, encK L, 1, true, 0, none, s5, s6, s4, fun i hi => by rw [Nat.zero_add]; exact encK_at hi⟩
theorem take_eq_succK {la lb : List Nat} {k : Nat} (h1 : k < la.length) (h2 : k < lb.length) (he : la.take k = lb.take k) : (la.take (k + 1) = lb.take (k + 1)) = (la.getD k 0 = lb.getD k 0) := by
  rw [List.take_succ_eq_append_getElem h1, List.take_succ_eq_append_getElem h2, he, List.append_right_inj]
  simp [List.getD, h1, h2]
set_option maxRecDepth 100000 in
set_option maxHeartbeats 8000000 in
theorem Ints_sp (la lb : List Nat) (sa sb : Value) (hl : la.length < 2 ^ 40) (h : H) (h1 : h.one = []) (ha : RdK h sa la) (hb : RdK h sb lb) :
    CallW E0 X0 (.fn 25) [sa, sb] h (fun v h' => v = .bool (decide (la = lb)) ∧ h' = h) := by
  refine CallW.body efn25 rfl rfl rfl [] (by kernel_rfl) ?_
  by_cases hn : la.length = lb.length
  · obtain ⟨a, ca, ea⟩ := ha.sl
    obtain ⟨b, cb, eb⟩ := hb.sl
    rw [hn] at ea
    simp [Tryd.f25, h1, ea, eb]
    refine wpd_loop (fun (k : Nat) fr h' => k ≤ la.length ∧ fr.get 5 = some (.int .i64 k) ∧ h' = h ∧ la.take k = lb.take k) (fun k => la.length - k) 0 ⟨by omega, by simp, rfl, by simp⟩ ?_
    rintro k fr h3 ⟨hk, hi, rfl, he⟩ hf
    have g0 := hf 0 rfl
    have g1 := hf 1 rfl
    simp at g0 g1
    by_cases hkl : k < lb.length
    · have hka : k < la.length := by omega
      have e1 : (k : Int) < lb.length := by omega
      rcases ha with ⟨_, e⟩ | ⟨b1, o1, c1, l1, s1, w1, z1, t1, r1, r2, r3, r4⟩
      · subst e; simp at hka
      rcases hb with ⟨_, e⟩ | ⟨b2, o2, c2, l2, s2, w2, z2, t2, q1, q2, q3, q4⟩
      · subst e; simp at hkl
      rw [r1, hn] at ea
      rw [q1] at eb
      cases ea
      cases eb
      have m1 := r4 k hka
      have m2 := q4 k hkl
      have hts := take_eq_succK hka hkl he
      have hw1 : IntKind.i64.wrap ((k : Int) + 1) = ((k + 1 : Nat) : Int) := wrap_succ (by omega)
      generalize la.getD k 0 = x at *
      generalize lb.getD k 0 = y at *
      by_cases hq : x = y
      · subst hq
        simp [h1, hi, g0, g1, e1, hkl, r2, q2, m1, m2, hw1]
        exact ⟨k + 1, by omega, by omega, rfl, hts.mpr rfl⟩
      · have hq' : ¬ (x : Int) = (y : Int) := by omega
        have hne : la ≠ lb := by rintro rfl; exact hq (hts.mp rfl)
        simp [h1, hi, g0, g1, e1, hkl, r2, q2, m1, m2, hq', hq, hne]
    · have hab : la = lb := by
        rw [List.take_of_length_le (by omega), List.take_of_length_le (by omega)] at he
        exact he
      have e1 : ¬ (k : Int) < lb.length := by omega
      simp [h1, hi, g0, e1, hkl, hab]
  · have hne : la ≠ lb := by rintro rfl; exact hn rfl
    have hn' : ¬ ((la.length : Int) = (lb.length : Int)) := by omega
    obtain ⟨a, ca, rfl⟩ := ha.sl
    obtain ⟨b, cb, rfl⟩ := hb.sl
    simp [Tryd.f25, h1, hn, hn', hne]
set_option maxRecDepth 100000 in
set_option maxHeartbeats 8000000 in
theorem RefKids_sp (l : List Nd) (n : Int) (t : Tr l n) (i : Nat) (hi : i < l.length) (v : Value) (hl : l.length < 2 ^ 20) (h : H) (h1 : h.one = []) (hr : RdN h v l) :
    CallW E0 X0 (.fn 28) [v, .int .i64 i] h (fun r h' => SlG none 1 h.next h' r (encK (kids l i)) (kids l i).length ∧ Fr h.next h h') := by
  refine CallW.body efn28 rfl rfl rfl [] (by kernel_rfl) ?_
  have hw0 : IntKind.i64.wrap ((i : Int) + 1) = ((i + 1 : Nat) : Int) := wrap_succ (by omega)
  have hll := kidF_len (l := l) (d := (nd l i).dp) _ (i + 1) (Nat.le_refl _)
  simp [Tryd.f28, h1, hw0]
  refine wpd_loop (fun (s : Nat × List Nat) fr h3 => fr.get 6 = some (.int .i64 (s.1 : Int)) ∧ i < s.1 ∧ s.1 ≤ l.length ∧ s.2 ++ kidF l (nd l i).dp s.1 = kids l i ∧ (∃ vb, fr.get 5 = some vb ∧ SlG none 1 h.next h3 vb (encK s.2) s.2.length) ∧ Fr h.next h h3) (fun s => l.length - s.1) (i + 1, []) ⟨by simp, by omega, by omega, rfl, ⟨.slice none 0 0, by simp, SlG.nil ..⟩, Fr.refl h1⟩ ?_
  rintro ⟨k, P⟩ fr h3 ⟨f6, hik, hkl, he, ⟨vb, f5, sl⟩, hf3⟩ hfe
  have g0 := hfe 0 rfl
  have g1 := hfe 1 rfl
  simp only at f6 hik hkl he sl
  simp at g0 g1
  have hr3 := hr.mono hf3
  have hPl : P.length ≤ l.length := by
    have := congrArg List.length he
    simp [kids] at this; omega
  by_cases hk : k < l.length
  · obtain ⟨b, cap, st, own, fz, ty, rfl, a2, a3, a4, a5⟩ := hr3.ne (by omega)
    have hw : IntKind.i64.wrap ((k : Int) + 1) = ((k + 1 : Nat) : Int) := wrap_succ (by omega)
    have e1 : (k : Int) < l.length := by omega
    have e2 : (i : Int) < l.length := by omega
    have rk := rd_dp hk
    have ri := rd_dp hi
    have hd := t.dpn hi hl
    have hwd : IntKind.i64.wrap ((nd l i).dp + 1) = (nd l i).dp + 1 := wrap_i64 (by omega) (by omega)
    have z1 : zerosD [.int .i64 0] 1 = [.int .i64 0] := rfl
    by_cases c : (nd l i).dp < (nd l k).dp
    · rw [kidF_step hk c] at he
      by_cases c2 : (nd l k).dp = (nd l i).dp + 1
      · rw [if_pos c2] at he
        have c3 : (nd l i).dp < (nd l i).dp + 1 := by omega
        simp [f6, f5, g0, g1, hf3.one, e1, e2, hk, hi, a3, rk, ri, c, c2, c3, hwd, hw, -appS_some, z1]
        refine (sl.nw _).app (by simp) (by have := hf3.next; simp; omega) (by rfl) (by decide) (by rfl) (by omega) (by decide) (.inl rfl) ?_
        intro v5 h5 sl5 fr5
        simp [fr5.one, f6, hw]
        refine ⟨k + 1, by omega, rfl, by omega, by omega, P ++ [k], by rw [← he]; simp, by simpa [encK] using sl5, (hf3.nw hf3.next _).trans fr5⟩
      · rw [if_neg c2] at he
        simp [f6, f5, g0, g1, hf3.one, e1, e2, hk, hi, a3, rk, ri, c, c2, hwd, hw]
        refine ⟨k + 1, by omega, rfl, by omega, by omega, P, he, sl, hf3⟩
    · rw [kidF_stop (fun _ => by omega), List.append_nil] at he
      subst he
      simp [f6, f5, g0, g1, hf3.one, e1, e2, hk, hi, a3, rk, ri, c]
      exact ⟨sl, hf3⟩
  · have e1 : ¬ (k : Int) < l.length := by omega
    obtain ⟨a, cap, rfl⟩ := hr3.sl
    rw [kidF_stop (by omega), List.append_nil] at he
    subst he
    simp [f6, f5, g0, hf3.one, e1]
    exact ⟨sl, hf3⟩
/-- The kids that are told ahead of k. -/
def KidAt (l : List Nd) (i k : Nat) (P : List Nat) : Prop := (k = i ∧ P = []) ∨ (i < k ∧ P ++ kidF l (nd l i).dp k = kids l i)
theorem KidAt.step {l : List Nd} {i k : Nat} {P : List Nat} (h : KidAt l i k P) (hk : k < l.length) (hd : k = i ∨ (nd l k).dp > (nd l i).dp) : KidAt l i (k + 1) (if (nd l k).dp = (nd l i).dp + 1 then P ++ [k] else P) := by
  rcases h with ⟨rfl, rfl⟩ | ⟨h1, h2⟩
  · rw [if_neg (by omega)]
    exact .inr ⟨by omega, rfl⟩
  · refine .inr ⟨by omega, ?_⟩
    rw [← h2, kidF_step hk (by omega)]
    split
    · simp
    · rfl
theorem KidAt.fin {l : List Nd} {i k : Nat} {P : List Nat} (h : KidAt l i k P) (hi : i < k) (hk : k < l.length → ¬ (nd l k).dp > (nd l i).dp) : P = kids l i := by
  rcases h with ⟨rfl, _⟩ | ⟨_, h2⟩
  · omega
  · rw [← h2, kidF_stop hk, List.append_nil]
theorem KidAt.len {l : List Nd} {i k : Nat} {P : List Nat} (h : KidAt l i k P) : P.length ≤ l.length := by
  rcases h with ⟨_, rfl⟩ | ⟨_, h2⟩
  · simp
  · have := congrArg List.length h2
    have h3 := kidF_len (l := l) (d := (nd l i).dp) _ (i + 1) (Nat.le_refl _)
    simp [kids] at this; omega
end Go.Dm
