/- Acts: what is done to an index. -/
import Derived.Test.YthglbdbdhhbkhaaIxV
set_option linter.unusedVariables false
set_option linter.unusedSimpArgs false
namespace Go.Dm
open Go.Proofs
/-- An act: what (0: Drop), at which number, with which labels. -/
structure Ac where
  w : Int
  n : Int
  d : List (List UInt8)
  m : List (List UInt8)
/-- Acts that are read. -/
def RdA (h : H) (v : Value) (l : List Ac) : Prop := (∃ a, v = .slice a 0 0 ∧ l = []) ∨ ∃ b cap c st own fz ty, v = .slice (some ⟨b, 0, none⟩) l.length cap ∧ l.length ≤ cap ∧ h.get b = some (.cells c st own fz ty) ∧ b < h.next ∧ (st = 0 ∨ st = 4) ∧
  ∀ i (hi : i < l.length), ∃ dv mv, (c.drop (i * 4)).take 4 = [.int .i64 l[i].w, .int .i64 l[i].n, dv, mv] ∧ RdS h dv l[i].d ∧ RdS h mv l[i].m
theorem RdA.sl {h : H} {v : Value} {l : List Ac} (r : RdA h v l) : ∃ a cap, v = .slice a l.length cap := by
  rcases r with ⟨a, rfl, rfl⟩ | ⟨b, cap, c, st, own, fz, ty, rfl, _⟩
  · exact ⟨a, 0, rfl⟩
  · exact ⟨_, _, rfl⟩
theorem RdA.fr {h h' : H} {v : Value} {l : List Ac} (r : RdA h v l) (f : Fr h.next h h') : RdA h' v l := by
  rcases r with r | ⟨b, cap, c, st, own, fz, ty, a1, a2, a3, a4, a5, a6⟩
  · exact .inl r
  · refine .inr ⟨b, cap, c, st, own, fz, ty, a1, a2, (f.get b a4).trans a3, Nat.lt_of_lt_of_le a4 f.next, a5, fun i hi => ?_⟩
    obtain ⟨dv, mv, q1, q2, q3⟩ := a6 i hi
    exact ⟨dv, mv, q1, q2.fr f, q3.fr f⟩
theorem four_at {c : List Value} {k : Nat} {a b d e : Value} (h : (c.drop k).take 4 = [a, b, d, e]) : c[k]? = some a ∧ c[k + 1]? = some b ∧ c[k + 2]? = some d ∧ c[k + 3]? = some e ∧ k + 4 ≤ c.length := by
  have hl := congrArg List.length h
  simp at hl
  have q := fun j (hj : j < 4) => show (([a, b, d, e] : List Value)[j]?) = c[k + j]? by rw [← h, List.getElem?_take_of_lt hj, List.getElem?_drop]
  exact ⟨(q 0 (by decide)).symm, (q 1 (by decide)).symm, (q 2 (by decide)).symm, (q 3 (by decide)).symm, by omega⟩
theorem RdA.at {h : H} {v : Value} {l : List Ac} (r : RdA h v l) {i : Nat} (hi : i < l.length) : ∃ b cap c st own fz ty dv mv, v = .slice (some ⟨b, 0, none⟩) l.length cap ∧ h.get b = some (.cells c st own fz ty) ∧ (c.drop (i * 4)).take 4 = [.int .i64 l[i].w, .int .i64 l[i].n, dv, mv] ∧ RdS h dv l[i].d ∧ RdS h mv l[i].m ∧ b < h.next := by
  rcases r with ⟨a, rfl, rfl⟩ | ⟨b, cap, c, st, own, fz, ty, rfl, a2, a3, a4, a5, a6⟩
  · simp at hi
  · obtain ⟨dv, mv, q1, q2, q3⟩ := a6 i hi
    exact ⟨b, cap, c, st, own, fz, ty, dv, mv, rfl, a3, q1, q2, q3, a4⟩
def totA (l : List Ac) : Nat := (l.map fun a => a.d.length + a.m.length).sum
theorem totA_take {l : List Ac} {i : Nat} (hi : i < l.length) : totA (l.take (i + 1)) = totA (l.take i) + (l[i].d.length + l[i].m.length) := by
  unfold totA
  rw [List.take_succ_eq_append_getElem hi, List.map_append, List.sum_append]
  simp only [List.map_cons, List.map_nil, List.sum_cons, List.sum_nil, Nat.add_zero]
theorem totA_mem {l : List Ac} {a : Ac} (h : a ∈ l) : a.d.length + a.m.length ≤ totA l := by
  induction l with
  | nil => cases h
  | cons x l ih =>
    unfold totA at *
    simp only [List.map_cons, List.sum_cons]
    rcases List.mem_cons.1 h with rfl | h
    · omega
    · have := ih h; omega
def greatB (l : List Ac) : Bool := decide (100 < l.length ∨ 600 < totA l)
set_option maxRecDepth 100000 in
set_option maxHeartbeats 16000000 in
theorem great_sp (v : Value) (l : List Ac) (h : H) (h1 : h.one = []) (hr : RdA h v l) : CallW E0 X0 (.fn 7) [v] h (fun r h' => r = .bool (greatB l) ∧ h' = h) := by
  refine CallW.body efn7 rfl (xo (by decide) ..) rfl [] (by kernel_rfl) ?_
  obtain ⟨a, cap, rfl⟩ := hr.sl
  by_cases hb : 100 < l.length
  · have hbi : (100 : Int) < l.length := by omega
    simp [Try.f7, h1, hb, hbi, greatB]
  have hbi : ¬ (100 : Int) < l.length := by omega
  simp [Try.f7, h1, hb, hbi]
  refine wpd_loop (fun (i : Nat) fr h' => fr.get 4 = some (.int .i64 (i : Int)) ∧ fr.get 3 = some (.int .i64 (totA (l.take i) : Int)) ∧ totA (l.take i) ≤ 1200 * i ∧ i ≤ l.length ∧ h' = h) (fun i => l.length - i) 0 ⟨by simp, by simp [totA], by simp [totA], by simp, rfl⟩ ?_
  rintro i fr h' ⟨g4, g3, hti, hile, rfl⟩ hf
  have g0 := hf 0 rfl
  simp at g0
  by_cases hi : i < l.length
  · have hii : (i : Int) < l.length := by omega
    obtain ⟨b, cap2, c, st, own, fz, ty, dv, mv, e, e2, e3, rd, rm, e4⟩ := hr.at hi
    cases e
    obtain ⟨a2, k2, rfl⟩ := rd.sl
    obtain ⟨a3, k3, rfl⟩ := rm.sl
    obtain ⟨c0, c1, c2, c3, c4⟩ := four_at e3
    have hmem := totA_mem (List.getElem_mem hi)
    have wi : IntKind.i64.wrap ((i : Int) + 1) = ((i + 1 : Nat) : Int) := by rw [wrap_i64 (by omega) (by omega)]; omega
    by_cases hd : 600 < l[i].d.length
    · have hdi : (600 : Int) < l[i].d.length := by omega
      have hg : greatB l = true := by unfold greatB; rw [decide_eq_true_eq]; exact .inr (by omega)
      simp [g0, g3, g4, h1, hi, hii, e2, c0, c1, c2, c3, hd, hdi, hg]
    have hdi : ¬ (600 : Int) < l[i].d.length := by omega
    by_cases hm : 600 < l[i].m.length
    · have hmi : (600 : Int) < l[i].m.length := by omega
      have hg : greatB l = true := by unfold greatB; rw [decide_eq_true_eq]; exact .inr (by omega)
      simp [g0, g3, g4, h1, hi, hii, e2, c0, c1, c2, c3, hd, hdi, hm, hmi, hg]
    have hmi : ¬ (600 : Int) < l[i].m.length := by omega
    have w1 : IntKind.i64.wrap ((totA (l.take i) : Int) + (l[i].d.length : Int)) = ((totA (l.take i) + l[i].d.length : Nat) : Int) := by rw [wrap_i64 (by omega) (by omega)]; omega
    have w2 : IntKind.i64.wrap (((totA (l.take i) + l[i].d.length : Nat) : Int) + (l[i].m.length : Int)) = ((totA (l.take (i + 1)) : Nat) : Int) := by rw [totA_take hi, wrap_i64 (by omega) (by omega)]; omega
    have htk := totA_take hi
    simp [-Int.natCast_add, g0, g3, g4, h1, hi, hii, e2, c0, c1, c2, c3, hd, hdi, hm, hmi, w1, w2, wi]
    exact ⟨i + 1, by omega, rfl, rfl, by omega, by omega⟩
  · have hii : ¬ (i : Int) < l.length := by omega
    obtain rfl : i = l.length := by omega
    rw [List.take_length] at g3
    have hg : greatB l = decide ((600 : Int) < (totA l : Int)) := by
      unfold greatB
      by_cases q : 600 < totA l
      · rw [decide_eq_true (.inr q), decide_eq_true (by omega)]
      · rw [decide_eq_false (by omega), decide_eq_false (by omega)]
    simp [g0, g3, g4, h1, hg]
/-- An index after an act. -/
def actL (L : List En) (a : Ac) : List En := if a.n < 0 then L else if a.w = 0 then putL L a.n [] [] else putL L a.n (riseL a.d) (riseL a.m)
def actE (a : Ac) : Int := if a.n < 0 then 1 else 0
theorem told_self (L : List En) : toldL L L = [] := List.eq_nil_iff_forall_not_mem.2 fun s hs => by
  rcases told_mem.1 hs with h | h
  · exact h.2 h.1
  · exact h.1 h.2
/-- What an act leaves. -/
def DonePost (xb em dm mm cm : Nat) (L : List En) (a : Ac) (f : Int → Option Value) (h : H) (v : Value) (h' : H) : Prop :=
  ∃ rv f', v = .tuple #[rv, .int .i64 (actE a)] ∧ RdS h' rv (toldL L (actL L a)) ∧ Rep h' xb em dm mm cm (actL L a) f' ∧ ((∀ k, f' k = f k ∨ OwnE (fun b => h.next ≤ b ∧ b < h'.next) (f' k)) ∧ InY (fun b => h.next ≤ b) rv) ∧ (∀ b, b < h.next → b ≠ em → b ≠ dm → b ≠ mm → b ≠ cm → h'.get b = h.get b) ∧ h.next ≤ h'.next ∧ h'.one = []
theorem PutPost.done {xb em dm mm cm : Nat} {L : List En} {a : Ac} {f : Int → Option Value} {h : H} {v : Value} {h' : H} {L' : List En} (hn : ¬ a.n < 0) (hL : actL L a = L') (p : PutPost xb em dm mm cm L L' f a.n h v h') : DonePost xb em dm mm cm L a f h v h' := by
  obtain ⟨rv, o, q1, q2, q3, q4, q5, q6, q7⟩ := p
  refine ⟨rv, _, by rw [q1, actE, if_neg hn], by rw [hL]; exact q2, by rw [hL]; exact q3, ⟨fun k => ?_, q4.2⟩, q5, q6, q7⟩
  unfold updF
  by_cases hk : k = a.n
  · rw [if_pos hk]; exact .inr q4.1
  · rw [if_neg hk]; exact .inl rfl
theorem neg_done {xb em dm mm cm : Nat} {L : List En} {a : Ac} {f : Int → Option Value} {h h' : H} (hn : a.n < 0) (rep : Rep h xb em dm mm cm L f) (fr : Fr h.next h h') : DonePost xb em dm mm cm L a f h (.tuple #[.slice none 0 0, .int .i64 1]) h' := by
  have hL : actL L a = L := by unfold actL; rw [if_pos hn]
  refine ⟨.slice none 0 0, f, by rw [actE, if_pos hn], ?_, by rw [hL]; exact rep.fr fr, ⟨fun k => .inl rfl, .inl rfl⟩, fun b hb _ _ _ _ => fr.get b hb, fr.next, fr.one⟩
  rw [hL, told_self]
  exact .inl ⟨none, rfl, rfl⟩
set_option maxRecDepth 100000 in
set_option maxHeartbeats 8000000 in
theorem done_sp (xb em dm mm cm : Nat) (L : List En) (f : Int → Option Value) (a : Ac) (dv mv : Value) (h : H) (h1 : h.one = []) (rep : Rep h xb em dm mm cm L f) (hd : RdS h dv a.d) (hm : RdS h mv a.m) (hT : totL L + a.d.length + a.m.length < 2 ^ 20) (hml : ∀ s ∈ a.d, s.length ≤ maxLen) :
    CallW E0 X0 (.fn 11) [.pointer (some ⟨xb, 0, none⟩), .agg #[.int .i64 a.w, .int .i64 a.n, dv, mv]] h (DonePost xb em dm mm cm L a f h) := by
  refine CallW.body efn11 rfl (xo (by decide) ..) rfl [] (by kernel_rfl) ?_
  obtain ⟨a1, k1, rfl⟩ := hd.sl
  obtain ⟨a2, k2, rfl⟩ := hm.sl
  simp [Try.f11, h1]
  obtain ⟨h2, hh2⟩ : ∃ h2, h2 = h.nw (.cells [.int .i64 a.w, .int .i64 a.n, .slice a1 a.d.length k1, .slice a2 a.m.length k2] 0 true 0 none) := ⟨_, rfl⟩
  rw [← hh2]
  have f2 : Fr h.next h h2 := by rw [hh2]; exact (Fr.refl h1).nw (Nat.le_refl _) _
  have g2 : h2.get h.next = some (.cells [.int .i64 a.w, .int .i64 a.n, .slice a1 a.d.length k1, .slice a2 a.m.length k2] 0 true 0 none) := by rw [hh2]; simp
  clear hh2
  have rep2 := rep.fr f2
  have back : ∀ {v : Value} {h' : H}, DonePost xb em dm mm cm L a f h2 v h' → DonePost xb em dm mm cm L a f h v h' := by
    rintro v h' ⟨rv, f', q1, q2, q3, q4, q5, q6, q7⟩
    have n2 := f2.next
    refine ⟨rv, f', q1, q2, q3, ⟨fun k => (q4.1 k).imp id ?_, q4.2.imp id fun ⟨b, n, c, y1, y2⟩ => ⟨b, n, c, y1, by omega⟩⟩, fun b hb c1 c2 c3 c4 => (q5 b (by omega) c1 c2 c3 c4).trans (f2.get b hb), by omega, q7⟩
    rintro (o | ⟨v1, v2, o1, o2, o3⟩)
    · exact .inl o
    · refine .inr ⟨v1, v2, o1, o2.imp id ?_, o3.imp id ?_⟩
      · rintro ⟨b, n, c, y1, y2⟩; exact ⟨b, n, c, y1, by omega, y2.2⟩
      · rintro ⟨b, n, c, y1, y2⟩; exact ⟨b, n, c, y1, by omega, y2.2⟩
  by_cases hw : a.w = 0
  · by_cases hn : a.n < 0
    · simp [f2.one, g2, hw]
      refine (Drop_neg xb a.n hn h2 f2.one).mono ?_
      rintro _ h3 ⟨rfl, f3⟩
      simp [f3.one]
      exact back (neg_done hn rep2 f3)
    · simp [f2.one, g2, hw]
      refine (Drop_sp xb em dm mm cm L f a.n h2 f2.one rep2 (by omega) (by omega)).mono ?_
      intro r h3 hp
      have hdn : DonePost xb em dm mm cm L a f h2 r h3 := hp.done hn (by unfold actL; rw [if_neg hn, if_pos hw])
      obtain ⟨rv, f', rfl, _, _, _, _, _, q7⟩ := id hdn
      simp [q7]
      exact back hdn
  · by_cases hn : a.n < 0
    · simp [f2.one, g2, hw]
      refine (Put_neg xb a.n hn _ _ h2 f2.one).mono ?_
      rintro _ h3 ⟨rfl, f3⟩
      simp [f3.one]
      exact back (neg_done hn rep2 f3)
    · simp [f2.one, g2, hw]
      refine (Put_sp xb em dm mm cm L f a.n _ _ a.d a.m h2 f2.one rep2 (hd.fr f2) (hm.fr f2) (by omega) (by omega) hml).mono ?_
      intro r h3 hp
      have hdn : DonePost xb em dm mm cm L a f h2 r h3 := hp.done hn (by unfold actL; rw [if_neg hn, if_neg hw])
      obtain ⟨rv, f', rfl, _, _, _, _, _, q7⟩ := id hdn
      simp [q7]
      exact back hdn
/-- An index after acts. -/
def runL (L : List En) (l : List Ac) : List En := l.foldl actL L
theorem act_ris {L : List En} (r : Ris L) (a : Ac) : Ris (actL L a) := by
  unfold actL
  split
  · exact r
  · split <;> exact putL_ris r ..
theorem act_tot {L : List En} (r : Ris L) (a : Ac) : totL (actL L a) ≤ totL L + (a.d.length + a.m.length) := by
  unfold actL
  split
  · omega
  · split
    · have := putL_tot r a.n [] []; simp at this; omega
    · have := putL_tot r a.n (riseL a.d) (riseL a.m)
      have := riseL_len a.d
      have := riseL_len a.m
      omega
theorem run_take (L : List En) {l : List Ac} {i : Nat} (hi : i < l.length) : runL L (l.take (i + 1)) = actL (runL L (l.take i)) l[i] := by
  unfold runL
  rw [List.take_succ_eq_append_getElem hi, List.foldl_append]
  rfl
theorem run_ris {L : List En} (r : Ris L) (l : List Ac) : Ris (runL L l) := by
  induction l generalizing L with
  | nil => exact r
  | cons a l ih => exact ih (act_ris r a)
theorem run_tot {L : List En} (r : Ris L) (l : List Ac) : totL (runL L l) ≤ totL L + totA l := by
  induction l generalizing L with
  | nil => exact Nat.le_add_right ..
  | cons a l ih =>
    have h1 := ih (act_ris r a)
    have h2 := act_tot r a
    show totL (runL (actL L a) l) ≤ _
    unfold totA at *
    simp only [List.map_cons, List.sum_cons]
    omega
end Go.Dm
