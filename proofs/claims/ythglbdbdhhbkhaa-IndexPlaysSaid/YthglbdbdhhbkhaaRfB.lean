/- The reference's index in memory; what reads it. -/
import Derived.Test.YthglbdbdhhbkhaaRfA
set_option linter.unusedVariables false
set_option linter.unusedSimpArgs false
namespace Go.Dm
open Go.Proofs
/-- An entry and its two slices. -/
abbrev T3 := En × Value × Value
def encW (W : List T3) : List Value := W.flatMap fun t => [.int .i64 t.1.n, t.2.1, t.2.2]
theorem encW_len (W : List T3) : (encW W).length = W.length * 3 := by
  induction W with
  | nil => rfl
  | cons t W ih => show (_ ++ encW W).length = _; rw [List.length_append, ih]; simp; omega
theorem encW_app (W X : List T3) : encW (W ++ X) = encW W ++ encW X := List.flatMap_append
theorem encW_at {W : List T3} {i : Nat} (hi : i < W.length) : ((encW W).drop (i * 3)).take 3 = [.int .i64 W[i].1.n, W[i].2.1, W[i].2.2] := by
  have h1 : W = W.take i ++ W[i] :: W.drop (i + 1) := by rw [List.getElem_cons_drop hi, List.take_append_drop]
  have h2 : encW W = encW (W.take i) ++ ([.int .i64 W[i].1.n, W[i].2.1, W[i].2.2] ++ encW (W.drop (i + 1))) := by
    conv => lhs; rw [h1]
    rw [encW_app]
    rfl
  have h3 : (encW (W.take i)).length = i * 3 := by rw [encW_len, List.length_take, Nat.min_eq_left (by omega)]
  rw [h2, ← h3, List.drop_left]
  rfl
def RdE (Y : Nat → Prop) (h : H) (v : Value) (L : List En) : Prop := ∃ W : List T3, W.map (·.1) = L ∧ (∀ t ∈ W, RdY Y h t.2.1 t.1.d ∧ RdY Y h t.2.2 t.1.m) ∧
  ((v = .slice none 0 0 ∧ W = []) ∨ (W ≠ [] ∧ ∃ g cap c, v = .slice (some ⟨g, 0, none⟩) W.length cap ∧ W.length ≤ cap ∧ h.get g = some (.cells c 3 true 0 none) ∧ g < h.next ∧ Y g ∧ c.take (W.length * 3) = encW W))
structure RRep (h : H) (wb : Nat) (L : List En) (Y : Nat → Prop) : Prop where
  w : ∃ lv, h.get wb = some (.cells [lv] 0 true 0 none) ∧ RdE Y h lv L
  lt : wb < h.next
  y : Y wb
theorem RdE.of_get {Y Z : Nat → Prop} {h h' : H} {v : Value} {L : List En} (r : RdE Y h v L) (hn : h.next ≤ h'.next) (hg : ∀ b c st, Y b → b < h.next → h.get b = some (.cells c st true 0 none) → h'.get b = h.get b) (hZ : ∀ b, Y b → Z b) : RdE Z h' v L := by
  obtain ⟨W, w1, w2, w3⟩ := r
  refine ⟨W, w1, fun t ht => ⟨(w2 t ht).1.of_get hn (fun b c y hb hc => hg b c 1 y hb hc) hZ, (w2 t ht).2.of_get hn (fun b c y hb hc => hg b c 1 y hb hc) hZ⟩, w3.imp id ?_⟩
  rintro ⟨e, g, cap, c, a1, a2, a3, a4, a5, a6⟩
  exact ⟨e, g, cap, c, a1, a2, (hg g c 3 a5 a4 a3).trans a3, Nat.lt_of_lt_of_le a4 hn, hZ g a5, a6⟩
theorem RRep.of_get {Y Z : Nat → Prop} {h h' : H} {wb : Nat} {L : List En} (r : RRep h wb L Y) (hn : h.next ≤ h'.next) (hg : ∀ b c st, Y b → b < h.next → h.get b = some (.cells c st true 0 none) → h'.get b = h.get b) (hZ : ∀ b, Y b → Z b) : RRep h' wb L Z := by
  obtain ⟨lv, l1, l2⟩ := r.w
  exact ⟨⟨lv, (hg wb _ 0 r.y r.lt l1).trans l1, l2.of_get hn hg hZ⟩, Nat.lt_of_lt_of_le r.lt hn, hZ wb r.y⟩
theorem RRep.fr {Y : Nat → Prop} {h h' : H} {wb : Nat} {L : List En} (r : RRep h wb L Y) (f : Fr h.next h h') : RRep h' wb L Y := r.of_get f.next (fun b c st _ hb _ => f.get b hb) (fun _ h => h)
theorem RdE.sl {Y : Nat → Prop} {h : H} {v : Value} {L : List En} (r : RdE Y h v L) : ∃ a cap, v = .slice a L.length cap := by
  obtain ⟨W, rfl, _, w3⟩ := r
  rcases w3 with ⟨rfl, rfl⟩ | ⟨_, g, cap, c, rfl, _⟩
  · exact ⟨none, 0, rfl⟩
  · exact ⟨some ⟨g, 0, none⟩, cap, by rw [List.length_map]⟩
theorem three_at {c : List Value} {k : Nat} {a b d : Value} (h : (c.drop k).take 3 = [a, b, d]) : c[k]? = some a ∧ c[k + 1]? = some b ∧ c[k + 2]? = some d ∧ k + 3 ≤ c.length := by
  have hl := congrArg List.length h
  simp at hl
  have q := fun j (hj : j < 3) => show (([a, b, d] : List Value)[j]?) = c[k + j]? by rw [← h, List.getElem?_take_of_lt hj, List.getElem?_drop]
  exact ⟨(q 0 (by decide)).symm, (q 1 (by decide)).symm, (q 2 (by decide)).symm, by omega⟩
theorem RdE.at {Y : Nat → Prop} {h : H} {v : Value} {L : List En} (r : RdE Y h v L) {i : Nat} (hi : i < L.length) : ∃ g cap c dv mv, v = .slice (some ⟨g, 0, none⟩) L.length cap ∧ h.get g = some (.cells c 3 true 0 none) ∧ (c.drop (i * 3)).take 3 = [.int .i64 L[i].n, dv, mv] ∧ RdY Y h dv L[i].d ∧ RdY Y h mv L[i].m ∧ g < h.next := by
  obtain ⟨W, rfl, w2, w3⟩ := r
  rw [List.length_map] at hi
  rcases w3 with ⟨rfl, rfl⟩ | ⟨_, g, cap, c, rfl, a2, a3, a4, a5, a6⟩
  · simp at hi
  · refine ⟨g, cap, c, W[i].2.1, W[i].2.2, by rw [List.length_map], a3, ?_, ?_, ?_, a4⟩
    · have h1 := encW_at hi
      rw [← a6, List.drop_take, List.take_take, Nat.min_eq_left (by omega)] at h1
      rw [h1]
      simp
    · have := (w2 W[i] (List.getElem_mem hi)).1
      simpa using this
    · have := (w2 W[i] (List.getElem_mem hi)).2
      simpa using this
theorem flat_len (M : List En) : (M.flatMap (·.d)).length ≤ totL M := by
  induction M with
  | nil => exact Nat.le_refl _
  | cons a M ih =>
    unfold totL at *
    simp only [List.flatMap_cons, List.length_append, List.map_cons, List.sum_cons] at *
    omega
theorem who_len (M : List En) (s : List UInt8) : (whoP M s).length ≤ M.length := by
  unfold whoP; rw [List.length_map]; exact List.length_filter_le ..
set_option maxRecDepth 100000 in
set_option maxHeartbeats 8000000 in
theorem RKnown_sp (wb : Nat) (L : List En) (Y : Nat → Prop) (h : H) (h1 : h.one = []) (rep : RRep h wb L Y) (hT : totL L < 2 ^ 20) (hL : L.length < 2 ^ 20) : CallW E0 X0 (.fn 20) [.pointer (some ⟨wb, 0, none⟩)] h (fun r h' => Gath h.next h' r (knownL L) ∧ Fr h.next h h') := by
  refine CallW.body efn20 rfl (xo (by decide) ..) rfl [] (by kernel_rfl) ?_
  obtain ⟨lv, w1, re⟩ := rep.w
  obtain ⟨a, cap, rfl⟩ := re.sl
  simp [Try.f20, h1]
  refine wpd_loop (fun (i : Nat) fr h' => fr.get 4 = some (.int .i64 (i : Int)) ∧ i ≤ L.length ∧ Fr h.next h h' ∧ ∃ vo, fr.get 3 = some vo ∧ Gath h.next h' vo ((L.take i).flatMap (·.d))) (fun i => L.length - i) 0 ⟨by simp, by simp, Fr.refl h1, .slice none 0 0, by simp, .inl ⟨rfl, by simp⟩⟩ ?_
  rintro i fr h' ⟨g4, hile, fh, vo, g3, ga⟩ hf
  have g0 := hf 0 rfl
  simp at g0
  have wb' := (fh.get _ rep.lt).trans w1
  by_cases hi : i < L.length
  · have hii : (i : Int) < L.length := by omega
    have wi : IntKind.i64.wrap ((i : Int) + 1) = ((i + 1 : Nat) : Int) := by rw [wrap_i64 (by omega) (by omega)]; omega
    obtain ⟨g, cp, c, dv, mv, e, e2, e3, rd, rm, e4⟩ := re.at hi
    cases e
    have e2' := (fh.get _ e4).trans e2
    obtain ⟨c0, c1, c2, c3⟩ := three_at e3
    have rd' : RdS h' dv L[i].d := rd.rd.fr fh
    have hlt : ((L.take i).flatMap (·.d)).length + L[i].d.length < 2 ^ 30 := by
      have h1 := flat_len (L.take i)
      have h2 : totL (L.take i) ≤ totL L := by
        unfold totL
        rw [List.map_take]
        have : ∀ (l : List Nat) (k : Nat), (l.take k).sum ≤ l.sum := fun l k => by
          conv => rhs; rw [← List.take_append_drop k l, List.sum_append]
          omega
        exact this _ _
      have h3 := en_tot (List.getElem_mem hi)
      omega
    simp [-appendD_eq, g0, g3, g4, fh.one, wb', hi, hii, e2', c1]
    refine app_gath ga (src_rd rd') fh.one fh.next hlt ?_
    intro v6 h6 ga6 f6 n6 k6 b6
    simp [-Int.natCast_add, f6.one, g4, wi]
    refine ⟨i + 1, by omega, rfl, by omega, fh.trans f6, ?_⟩
    rw [List.take_succ_eq_append_getElem hi, List.flatMap_append]
    simpa using ga6
  · have hii : ¬ (i : Int) < L.length := by omega
    obtain rfl : i = L.length := by omega
    rw [List.take_length] at ga
    have hfl := flat_len L
    simp [g0, g3, g4, fh.one, wb']
    refine (Rise_sp vo _ (by omega) h' fh.one ga.rd).mono ?_
    rintro r h6 ⟨ga6, f6⟩
    simp [f6.one]
    refine ⟨?_, fh.trans (f6.mono fh.next)⟩
    show Gath h.next h6 r (riseL (L.flatMap (·.d)))
    exact ga6.imp id fun ⟨q1, g, cp, c, s1, s2, s3, s4⟩ => ⟨q1, g, cp, c, s1, s2, Nat.le_trans fh.next s3, s4⟩
set_option maxRecDepth 100000 in
set_option maxHeartbeats 8000000 in
theorem RDefined_sp (wb : Nat) (L : List En) (Y : Nat → Prop) (lb : List UInt8) (h : H) (h1 : h.one = []) (rep : RRep h wb L Y) (hT : totL L < 2 ^ 20) (hL : L.length < 2 ^ 20) : CallW E0 X0 (.fn 21) [.pointer (some ⟨wb, 0, none⟩), str lb] h (fun r h' => r = .int .i64 (cntL L lb) ∧ h' = h) := by
  refine CallW.body efn21 rfl (xo (by decide) ..) rfl [] (by kernel_rfl) ?_
  obtain ⟨lv, w1, re⟩ := rep.w
  obtain ⟨a, cap, rfl⟩ := re.sl
  simp [Try.f21, h1]
  refine wpd_loop (fun (i : Nat) fr h' => fr.get 6 = some (.int .i64 (i : Int)) ∧ i ≤ L.length ∧ fr.get 5 = some (.int .i64 (cntL (L.take i) lb : Int)) ∧ h' = h) (fun i => L.length - i) 0 ⟨by simp, by simp, by simp [cntL], rfl⟩ ?_
  rintro i fr h' ⟨g6, hile, g5, rfl⟩ hf
  have g0 := hf 0 rfl
  have g1 := hf 1 rfl
  simp at g0 g1
  by_cases hi : i < L.length
  · have hii : (i : Int) < L.length := by omega
    have wi : IntKind.i64.wrap ((i : Int) + 1) = ((i + 1 : Nat) : Int) := by rw [wrap_i64 (by omega) (by omega)]; omega
    obtain ⟨g, cp, c, dv, mv, e, e2, e3, rd, rm, e4⟩ := re.at hi
    cases e
    obtain ⟨c0, c1, c2, c3⟩ := three_at e3
    have hdl := en_tot (List.getElem_mem hi)
    have hcl : cntL (L.take i) lb ≤ i := by
      unfold cntL
      refine Nat.le_trans (List.length_filter_le ..) ?_
      simp; omega
    have hct : cntL (L.take (i + 1)) lb = cntL (L.take i) lb + if lb ∈ L[i].d then 1 else 0 := by
      unfold cntL
      rw [List.take_succ_eq_append_getElem hi, List.filter_append, List.length_append]
      by_cases hm : lb ∈ L[i].d <;> simp [hm]
    have wn : IntKind.i64.wrap ((cntL (L.take i) lb : Int) + 1) = ((cntL (L.take i) lb + 1 : Nat) : Int) := by rw [wrap_i64 (by omega) (by omega)]; omega
    simp [-Int.natCast_add, g0, g1, g5, g6, h1, w1, hi, hii, e2, c1]
    refine (Within_sp lb dv _ (by omega) h' h1 rd.rd).mono ?_
    rintro _ h' ⟨rfl, rfl⟩
    by_cases hm : lb ∈ L[i].d
    · rw [if_pos hm] at hct
      simp [-Int.natCast_add, h1, g5, g6, hm, wi, wn]
      exact ⟨i + 1, by omega, rfl, by omega, by rw [hct]⟩
    · rw [if_neg hm] at hct
      simp [-Int.natCast_add, h1, g5, g6, hm, wi]
      exact ⟨i + 1, by omega, rfl, by omega, by rw [hct]; rfl⟩
  · have hii : ¬ (i : Int) < L.length := by omega
    obtain rfl : i = L.length := by omega
    rw [List.take_length] at g5
    simp [g0, g5, g6, h1, w1]
set_option maxRecDepth 100000 in
set_option maxHeartbeats 8000000 in
theorem RHas_sp (wb : Nat) (L : List En) (Y : Nat → Prop) (n : Int) (lb : List UInt8) (h : H) (h1 : h.one = []) (rep : RRep h wb L Y) (hT : totL L < 2 ^ 20) (hL : L.length < 2 ^ 20) : CallW E0 X0 (.fn 19) [.pointer (some ⟨wb, 0, none⟩), .int .i64 n, str lb] h (fun r h' => r = .tuple #[.bool (decide (lb ∈ dOf L n)), .bool (decide (lb ∈ mOf L n))] ∧ h' = h) := by
  refine CallW.body efn19 rfl (xo (by decide) ..) rfl [5] (by kernel_rfl) ?_
  obtain ⟨lv, w1, re⟩ := rep.w
  obtain ⟨a, cap, rfl⟩ := re.sl
  simp [Try.f19, h1]
  refine wpd_loop (fun (i : Nat) fr h' => fr.get 8 = some (.int .i64 (i : Int)) ∧ i ≤ L.length ∧ (∀ j (hj : j < L.length), j < i → L[j].n ≠ n) ∧ h' = h) (fun i => L.length - i) 0 ⟨by simp, by simp, fun j hj q => by omega, rfl⟩ ?_
  rintro i fr h' ⟨g8, hile, hno, rfl⟩ hf
  have g0 := hf 0 rfl
  have g1 := hf 1 rfl
  have g2 := hf 2 rfl
  simp at g0 g1 g2
  by_cases hi : i < L.length
  · have hii : (i : Int) < L.length := by omega
    have wi : IntKind.i64.wrap ((i : Int) + 1) = ((i + 1 : Nat) : Int) := by rw [wrap_i64 (by omega) (by omega)]; omega
    obtain ⟨g, cp, c, dv, mv, e, e2, e3, rd, rm, e4⟩ := re.at hi
    cases e
    obtain ⟨c0, c1, c2, c3⟩ := three_at e3
    have hdl := en_tot (List.getElem_mem hi)
    by_cases hn : L[i].n = n
    · have hg : getL L n = some L[i] := by
        unfold getL
        rw [List.find?_eq_some_iff_getElem]
        exact ⟨by simpa using hn, i, hi, rfl, fun j hj => by simpa using hno j (by omega) hj⟩
      have hd : dOf L n = L[i].d := by unfold dOf; rw [hg]
      have hm : mOf L n = L[i].m := by unfold mOf; rw [hg]
      obtain ⟨am, km, rfl⟩ := rm.rd.sl
      simp [-Int.natCast_add, g0, g1, g2, g8, h1, w1, hi, hii, e2, c0, c1, hn]
      have wD := Within_sp lb dv _ (by omega) h' h1 rd.rd
      refine ⟨laxW_of [(14, 9), (18, 9)] (by kernel_rfl) ?_, ?_⟩
      · simp [-Int.natCast_add, LaxP, g0, g1, g2, g8, h1, w1, hi, hii, e2, c0, c1, c2, hn]
        have hev : ∀ (x : Option Addr) (p q : Nat), eqv (.slice x p q) (.slice x p q) = true := fun x p q => by simp [eqv, eqv0]
        refine ⟨?_, ?_⟩
        · refine wD.mono ?_
          rintro _ h' ⟨rfl, rfl⟩
          simp [-Int.natCast_add, g0, g1, g2, g8, h1, w1, hi, hii, e2, c0, c1, c2, hn, LaxG_load, hev]
        · refine wD.mono ?_
          rintro _ h' ⟨rfl, rfl⟩
          simp [-Int.natCast_add, g0, g1, g2, g8, h1, w1, hi, hii, e2, c0, c1, c2, hn, LaxG_load, hev]
      refine (Within_sp lb dv _ (by omega) h' h1 rd.rd).mono ?_
      rintro _ h' ⟨rfl, rfl⟩
      simp [-Int.natCast_add, g0, g2, g8, h1, w1, hi, hii, e2, c2]
      refine (Within_sp lb _ _ (by omega) h' h1 rm.rd).mono ?_
      rintro _ h' ⟨rfl, rfl⟩
      simp [h1, hd, hm]
    · simp [-Int.natCast_add, g0, g1, g2, g8, h1, w1, hi, hii, e2, c0, hn, wi]
      refine ⟨i + 1, by omega, rfl, by omega, fun j hj q => ?_⟩
      by_cases hj2 : j = i
      · subst hj2; exact hn
      · exact hno j hj (by omega)
  · have hii : ¬ (i : Int) < L.length := by omega
    have hg : getL L n = none := by
      unfold getL
      rw [List.find?_eq_none]
      intro e he
      obtain ⟨j, hj, rfl⟩ := List.mem_iff_getElem.1 he
      simpa using hno j hj (by omega)
    have hd : dOf L n = [] := by unfold dOf; rw [hg]
    have hm : mOf L n = [] := by unfold mOf; rw [hg]
    simp [g0, g8, h1, w1, hi, hii, hd, hm]
/-- Numbers that came: nil where nothing came, else an own slice. -/
def GathI (B : Nat) (h : H) (v : Value) (l : List Int) : Prop := (v = .slice none 0 0 ∧ l = []) ∨ (l ≠ [] ∧ SlC none 1 B h v (l.map (Value.int .i64)) l.length)
theorem GathI.rd {B : Nat} {h : H} {v : Value} {l : List Int} (s : GathI B h v l) : RdI h v l := by
  rcases s with s | ⟨_, g, cap, c, a1, a2, a3, a4, a5, a6, a7⟩
  · exact .inl s
  · rw [Nat.mul_one] at a7
    exact .inr ⟨g, cap, c, 1, true, 0, none, a1, a2, a5, a4, a7, .inr rfl⟩
set_option maxRecDepth 100000 in
set_option maxHeartbeats 8000000 in
theorem RWho_sp (wb : Nat) (L : List En) (Y : Nat → Prop) (lb : List UInt8) (h : H) (h1 : h.one = []) (rep : RRep h wb L Y) (hT : totL L < 2 ^ 20) (hL : L.length < 2 ^ 20) : CallW E0 X0 (.fn 24) [.pointer (some ⟨wb, 0, none⟩), str lb] h (fun r h' => RdI h' r (whoP L lb) ∧ Fr h.next h h') := by
  refine CallW.body efn24 rfl (xo (by decide) ..) rfl [] (by kernel_rfl) ?_
  obtain ⟨lv, w1, re⟩ := rep.w
  obtain ⟨a, cap, rfl⟩ := re.sl
  simp [Try.f24, h1]
  refine wpd_loop (fun (i : Nat) fr h' => fr.get 6 = some (.int .i64 (i : Int)) ∧ i ≤ L.length ∧ Fr h.next h h' ∧ ∃ vo, fr.get 5 = some vo ∧ GathI h.next h' vo (whoP (L.take i) lb)) (fun i => L.length - i) 0 ⟨by simp, by simp, Fr.refl h1, .slice none 0 0, by simp, .inl ⟨rfl, rfl⟩⟩ ?_
  rintro i fr h' ⟨g6, hile, fh, vo, g5, ga⟩ hf
  have g0 := hf 0 rfl
  have g1 := hf 1 rfl
  simp at g0 g1
  have nh := fh.next
  have wb' := (fh.get _ rep.lt).trans w1
  by_cases hi : i < L.length
  · have hii : (i : Int) < L.length := by omega
    have wi : IntKind.i64.wrap ((i : Int) + 1) = ((i + 1 : Nat) : Int) := by rw [wrap_i64 (by omega) (by omega)]; omega
    obtain ⟨g, cp, c, dv, mv, e, e2, e3, rd, rm, e4⟩ := re.at hi
    cases e
    have e2' := (fh.get _ e4).trans e2
    obtain ⟨c0, c1, c2, c3⟩ := three_at e3
    have hdl := en_tot (List.getElem_mem hi)
    have hwt : whoP (L.take (i + 1)) lb = whoP (L.take i) lb ++ if lb ∈ L[i].m then [L[i].n] else [] := by
      unfold whoP
      rw [List.take_succ_eq_append_getElem hi, List.filter_append, List.map_append]
      by_cases hm : lb ∈ L[i].m <;> simp [hm]
    have hwl : (whoP (L.take i) lb).length ≤ i := by
      have := who_len (L.take i) lb
      simp at this
      omega
    have rm' : RdS h' mv L[i].m := rm.rd.fr fh
    simp [-Int.natCast_add, g0, g1, g5, g6, fh.one, wb', hi, hii, e2', c2]
    refine (Within_sp lb mv _ (by omega) h' fh.one rm').mono ?_
    rintro _ h' ⟨rfl, rfl⟩
    by_cases hm : lb ∈ L[i].m
    · rw [if_pos hm] at hwt
      have hz1 : zerosD [.int .i64 0] 1 = [.int .i64 0] := rfl
      rcases ga with ⟨rfl, e0⟩ | ⟨e0, sl⟩
      · simp [-Int.natCast_add, -appS_some, g0, g5, g6, fh.one, hm, wb', hi, hii, e2', c0, hz1, wi]
        refine ⟨i + 1, by omega, rfl, by omega, (fh.nw nh _).nw (by simp; omega) _, ?_⟩
        rw [hwt, e0]
        exact .inr ⟨by simp, h'.next + 1, 1, [.int .i64 L[i].n], rfl, Nat.le_refl _, by omega, by simp, by simp, rfl, rfl⟩
      · obtain ⟨g7, cap7, c7, rfl, _⟩ := id sl
        simp [-Int.natCast_add, -appS_some, g0, g5, g6, fh.one, hm, wb', hi, hii, e2', c0, hz1, wi]
        obtain ⟨h7, hh7⟩ : ∃ h7, h7 = h'.nw (.cells [.int .i64 L[i].n] 1 true 0 none) := ⟨_, rfl⟩
        rw [← hh7]
        have n7 : h7.next = h'.next + 1 := by rw [hh7]; rfl
        have f7 : Fr h'.next h' h7 := by rw [hh7]; exact (Fr.refl fh.one).nw (Nat.le_refl _) _
        clear hh7
        have s7 := sl.of_get f7.next fun g _ hg => f7.get g hg
        refine SlC.app s7 f7.one (by omega) (by simp) (by simp) (by simp) (by rfl) (by omega) (by simp) (.inl rfl) ?_
        intro v8 h8 w1' w2 w3 w4 w5
        simp [-Int.natCast_add, w2.one, g6, wi]
        refine ⟨i + 1, by omega, rfl, by omega, fh.trans ((f7.mono nh).trans w2), ?_⟩
        rw [hwt]
        refine .inr ⟨by simp, ?_⟩
        rw [List.map_append, List.length_append]
        exact w1'
    · rw [if_neg hm, List.append_nil] at hwt
      simp [-Int.natCast_add, g5, g6, fh.one, hm, wi]
      exact ⟨i + 1, by omega, rfl, by omega, fh, by rw [hwt]; exact ga⟩
  · have hii : ¬ (i : Int) < L.length := by omega
    obtain rfl : i = L.length := by omega
    rw [List.take_length] at ga
    simp [g0, g5, g6, fh.one, wb']
    exact ⟨ga.rd, fh⟩
end Go.Dm
