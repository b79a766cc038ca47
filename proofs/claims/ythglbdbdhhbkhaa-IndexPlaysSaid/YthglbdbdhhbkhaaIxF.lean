/- Lists of labels and of numbers, held against each other. -/
import Derived.Test.YthglbdbdhhbkhaaIxK
set_option linter.unusedVariables false
set_option linter.unusedSimpArgs false
namespace Go.Dm
open Go.Proofs
theorem xo {f : FuncId} (hf : (f ≠ 16 ∧ f ≠ 23) ∧ (f ≠ 33 ∧ f ≠ 31) ∧ f ≠ 35 ∧ f ≠ 26) (args : List Value) (h : H) : X0 f args h = none :=
  xn hf.1.1 hf.1.2 hf.2.1.1 hf.2.1.2 hf.2.2.1 hf.2.2.2 args h
set_option maxRecDepth 100000 in
set_option maxHeartbeats 8000000 in
theorem Within_sp (s : List UInt8) (v : Value) (l : List (List UInt8)) (hl : l.length < 2 ^ 40) (h : H) (h1 : h.one = []) (hr : RdS h v l) : CallW E0 X0 (.fn 12) [str s, v] h (fun r h' => r = .bool (decide (s ∈ l)) ∧ h' = h) := by
  refine CallW.body efn12 rfl (xo (by decide) ..) rfl [] (by kernel_rfl) ?_
  obtain ⟨a, cap, rfl⟩ := hr.sl
  simp [Try.f12, h1]
  refine wpd_loop (fun (i : Nat) fr h' => fr.get 5 = some (.int .i64 (i : Int)) ∧ i ≤ l.length ∧ s ∉ l.take i ∧ h' = h) (fun i => l.length - i) 0 ⟨by simp, by simp, by simp, rfl⟩ ?_
  rintro i fr h' ⟨g5, hile, hni, rfl⟩ hf
  have g0 := hf 0 rfl
  have g1 := hf 1 rfl
  simp at g0 g1
  by_cases hi : i < l.length
  · have hii : (i : Int) < l.length := by omega
    obtain ⟨b, cap2, c, st, own, fz, ty, e, e2, e3, e4⟩ := hr.at hi
    cases e
    have wi : IntKind.i64.wrap ((i : Int) + 1) = ((i + 1 : Nat) : Int) := by rw [wrap_i64 (by omega) (by omega)]; omega
    by_cases hs : l[i] = s
    · have hm : s ∈ l := by rw [← hs]; exact List.getElem_mem hi
      simp [g0, g1, g5, h1, hi, hii, e2, e3, hs, hm]
    · simp [g0, g1, g5, h1, hi, hii, e2, e3, hs, wi]
      refine ⟨i + 1, by omega, rfl, by omega, ?_⟩
      rw [mem_take1 hi]
      rintro (q | q)
      · exact hni q
      · exact hs q.symm
  · have hii : ¬ (i : Int) < l.length := by omega
    obtain rfl : i = l.length := by omega
    rw [List.take_length] at hni
    simp [g0, g1, g5, h1, hni]
set_option maxRecDepth 100000 in
set_option maxHeartbeats 8000000 in
theorem Same_sp (v w : Value) (l m : List (List UInt8)) (hl : l.length < 2 ^ 40) (hm : m.length < 2 ^ 40) (h : H) (h1 : h.one = []) (hr : RdS h v l) (hq : RdS h w m) : CallW E0 X0 (.fn 17) [v, w] h (fun r h' => r = .bool (decide (l = m)) ∧ h' = h) := by
  refine CallW.body efn17 rfl (xo (by decide) ..) rfl [] (by kernel_rfl) ?_
  obtain ⟨a, cap, rfl⟩ := hr.sl
  obtain ⟨a', cap', rfl⟩ := hq.sl
  by_cases hlen : l.length = m.length
  · have hlen' : (l.length : Int) = m.length := by omega
    simp [Try.f17, h1, hlen, hlen']
    refine wpd_loop (fun (i : Nat) fr h' => fr.get 5 = some (.int .i64 (i : Int)) ∧ i ≤ l.length ∧ l.take i = m.take i ∧ h' = h) (fun i => l.length - i) 0 ⟨by simp, by simp, by simp, rfl⟩ ?_
    rintro i fr h' ⟨g5, hile, hni, rfl⟩ hf
    have g0 := hf 0 rfl
    have g1 := hf 1 rfl
    simp at g0 g1
    by_cases hi : i < l.length
    · have hi' : i < m.length := by omega
      have hii : (i : Int) < m.length := by omega
      obtain ⟨b, cap2, c, st, own, fz, ty, e, e2, e3, e4⟩ := hr.at hi
      injection e with e5 e6 e7
      subst e5 e7
      obtain ⟨b2, cap3, c2, st2, own2, fz2, ty2, e, d2, d3, d4⟩ := hq.at hi'
      injection e with e5 e6 e7
      subst e5 e7
      have wi : IntKind.i64.wrap ((i : Int) + 1) = ((i + 1 : Nat) : Int) := by rw [wrap_i64 (by omega) (by omega)]; omega
      by_cases hs : l[i] = m[i]
      · simp [g0, g1, g5, h1, hi, hi', hii, e2, e3, d2, d3, hs, wi]
        refine ⟨i + 1, by omega, rfl, by omega, ?_⟩
        rw [List.take_succ_eq_append_getElem hi, List.take_succ_eq_append_getElem hi', hni, hs]
      · have hne : ¬ l = m := fun e => hs (by subst e; rfl)
        simp [g0, g1, g5, h1, hi, hi', hii, e2, e3, d2, d3, hs, hne]
    · obtain rfl : i = l.length := by omega
      have hii : ¬ (l.length : Int) < m.length := by omega
      rw [List.take_length, hlen, List.take_length] at hni
      simp [g0, g1, g5, h1, hni]
  · have hlen' : ¬ (l.length : Int) = m.length := by omega
    have hne : ¬ l = m := fun e => hlen (by rw [e])
    simp [Try.f17, h1, hlen, hlen', hne]
theorem RdI.sl {h : H} {v : Value} {l : List Int} (r : RdI h v l) : ∃ a cap, v = .slice a l.length cap := by
  rcases r with ⟨rfl, rfl⟩ | ⟨b, cap, c, st, own, fz, ty, rfl, _⟩
  · exact ⟨none, 0, rfl⟩
  · exact ⟨_, _, rfl⟩
theorem RdI.at {h : H} {v : Value} {l : List Int} (r : RdI h v l) {i : Nat} (hi : i < l.length) : ∃ b cap c st own fz ty, v = .slice (some ⟨b, 0, none⟩) l.length cap ∧ h.get b = some (.cells c st own fz ty) ∧ c[i]? = some (.int .i64 l[i]) ∧ b < h.next := by
  rcases r with ⟨rfl, rfl⟩ | ⟨b, cap, c, st, own, fz, ty, rfl, _, a3, a4, a5, _⟩
  · simp at hi
  · refine ⟨b, cap, c, st, own, fz, ty, rfl, a3, ?_, a4⟩
    have := congrArg (fun l => l[i]?) a5
    simp only [List.getElem?_take, hi, if_true, List.getElem?_map, List.getElem?_eq_getElem hi, Option.map_some] at this
    exact this
theorem RdI.fr {h h' : H} {v : Value} {l : List Int} (r : RdI h v l) (f : Fr h.next h h') : RdI h' v l := by
  rcases r with r | ⟨b, cap, c, st, own, fz, ty, a1, a2, a3, a4, a5⟩
  · exact .inl r
  · exact .inr ⟨b, cap, c, st, own, fz, ty, a1, a2, (f.get b a4).trans a3, Nat.lt_of_lt_of_le a4 f.next, a5⟩
set_option maxRecDepth 100000 in
set_option maxHeartbeats 8000000 in
theorem Ints_sp (v w : Value) (l m : List Int) (hl : l.length < 2 ^ 40) (hm : m.length < 2 ^ 40) (h : H) (h1 : h.one = []) (hr : RdI h v l) (hq : RdI h w m) : CallW E0 X0 (.fn 22) [v, w] h (fun r h' => r = .bool (decide (l = m)) ∧ h' = h) := by
  refine CallW.body efn22 rfl (xo (by decide) ..) rfl [] (by kernel_rfl) ?_
  obtain ⟨a, cap, rfl⟩ := hr.sl
  obtain ⟨a', cap', rfl⟩ := hq.sl
  by_cases hlen : l.length = m.length
  · have hlen' : (l.length : Int) = m.length := by omega
    simp [Try.f22, h1, hlen, hlen']
    refine wpd_loop (fun (i : Nat) fr h' => fr.get 5 = some (.int .i64 (i : Int)) ∧ i ≤ l.length ∧ l.take i = m.take i ∧ h' = h) (fun i => l.length - i) 0 ⟨by simp, by simp, by simp, rfl⟩ ?_
    rintro i fr h' ⟨g5, hile, hni, rfl⟩ hf
    have g0 := hf 0 rfl
    have g1 := hf 1 rfl
    simp at g0 g1
    by_cases hi : i < l.length
    · have hi' : i < m.length := by omega
      have hii : (i : Int) < m.length := by omega
      obtain ⟨b, cap2, c, st, own, fz, ty, e, e2, e3, e4⟩ := hr.at hi
      injection e with e5 e6 e7
      subst e5 e7
      obtain ⟨b2, cap3, c2, st2, own2, fz2, ty2, e, d2, d3, d4⟩ := hq.at hi'
      injection e with e5 e6 e7
      subst e5 e7
      have wi : IntKind.i64.wrap ((i : Int) + 1) = ((i + 1 : Nat) : Int) := by rw [wrap_i64 (by omega) (by omega)]; omega
      by_cases hs : l[i] = m[i]
      · simp [g0, g1, g5, h1, hi, hi', hii, e2, e3, d2, d3, hs, wi]
        refine ⟨i + 1, by omega, rfl, by omega, ?_⟩
        rw [List.take_succ_eq_append_getElem hi, List.take_succ_eq_append_getElem hi', hni, hs]
      · have hne : ¬ l = m := fun e => hs (by subst e; rfl)
        simp [g0, g1, g5, h1, hi, hi', hii, e2, e3, d2, d3, hs, hne]
    · obtain rfl : i = l.length := by omega
      have hii : ¬ (l.length : Int) < m.length := by omega
      rw [List.take_length, hlen, List.take_length] at hni
      simp [g0, g1, g5, h1, hni]
  · have hlen' : ¬ (l.length : Int) = m.length := by omega
    have hne : ¬ l = m := fun e => hlen (by rw [e])
    simp [Try.f22, h1, hlen, hlen', hne]
end Go.Dm
