/- The reference's Put. -/
import Derived.Test.YthglbdbdhhbkhaaRfB
set_option linter.unusedVariables false
set_option linter.unusedSimpArgs false
namespace Go.Dm
open Go.Proofs
/-- Entries that came. -/
def GathE (B : Nat) (h : H) (v : Value) (O : List T3) : Prop := (v = .slice none 0 0 ∧ O = []) ∨ (O ≠ [] ∧ SlC none 3 B h v (encW O) O.length)
theorem GathE.of_get {B : Nat} {h h' : H} {v : Value} {O : List T3} (s : GathE B h v O) (hn : h.next ≤ h'.next) (hg : ∀ g, B ≤ g → g < h.next → h'.get g = h.get g) : GathE B h' v O := s.imp id fun ⟨a, b⟩ => ⟨a, b.of_get hn hg⟩
theorem GathE.len {B : Nat} {h : H} {v : Value} {O : List T3} (s : GathE B h v O) : ∃ a cap, v = .slice a O.length cap := by
  rcases s with ⟨rfl, rfl⟩ | ⟨_, g, cap, c, rfl, _⟩
  · exact ⟨none, 0, rfl⟩
  · exact ⟨_, _, rfl⟩
def RdT (Y : Nat → Prop) (h : H) (O : List T3) : Prop := ∀ t ∈ O, RdY Y h t.2.1 t.1.d ∧ RdY Y h t.2.2 t.1.m
theorem RdT.fr {Y : Nat → Prop} {h h' : H} {O : List T3} (r : RdT Y h O) (f : Fr h.next h h') : RdT Y h' O := fun t ht =>
  ⟨(r t ht).1.of_get f.next (fun b c _ hb _ => f.get b hb) (fun _ h => h), (r t ht).2.of_get f.next (fun b c _ hb _ => f.get b hb) (fun _ h => h)⟩
theorem RdY.cell {Y : Nat → Prop} {h : H} {v : Value} {ws : List (List UInt8)} (r : RdY Y h v ws) : cellV v = true := by
  rcases r with ⟨rfl, _⟩ | ⟨b, cap, c, rfl, _⟩ <;> rfl
/-- An entry goes behind those that came. -/
theorem app_ent {B : Nat} {h : H} {v : Value} {O : List T3} {Y : Nat → Prop} (ga : GathE B h v O) (rt : RdT Y h O) (h1 : h.one = []) (hB : B ≤ h.next) (t : T3) (rt1 : RdY Y h t.2.1 t.1.d ∧ RdY Y h t.2.2 t.1.m) (hl : O.length < 2 ^ 30) {elem : TypeId} {by' : Nat} (hb : by' ≤ 64) {cs : List Value} (hcs : cs = [.int .i64 t.1.n, t.2.1, t.2.2]) {K : VPost}
    (hK : ∀ v' h', GathE B h' v' (O ++ [t]) → RdT Y h' (O ++ [t]) → Fr B h h' → K v' h') : OptW (appS none elem 3 by' v 1 cs h) K := by
  subst hcs
  have all : RdT Y h (O ++ [t]) := fun u hu => by
    rcases List.mem_append.1 hu with hu | hu
    · exact rt u hu
    · rw [List.mem_singleton.1 hu]; exact rt1
  have he : encW [t] = [.int .i64 t.1.n, t.2.1, t.2.2] := rfl
  rcases ga with ⟨rfl, rfl⟩ | ⟨e0, sl⟩
  · rw [appS_nil, if_neg (by omega), if_pos ⟨by omega, by omega⟩, OptW.some, addr_one h h1, new_one _ _ h1]
    have f := ((Fr.refl h1).nw (Nat.le_refl _) (.cells [.int .i64 t.1.n, t.2.1, t.2.2] 3 true 0 none) : Fr h.next h _)
    exact hK _ _ (.inr ⟨by simp, h.next, 1, [.int .i64 t.1.n, t.2.1, t.2.2], rfl, Nat.le_refl _, hB, by simp, by simp, rfl, rfl⟩) (all.fr f) ((Fr.refl h1).nw hB _)
  · have hall : ([Value.int .i64 t.1.n, t.2.1, t.2.2] : List Value).all cellV = true := by
      simp only [List.all_cons, List.all_nil, rt1.1.cell, rt1.2.cell, Bool.and_true]
      rfl
    obtain ⟨g, cap, c, rfl, s2, s3, s4, s5, s6, s7⟩ := id sl
    refine SlC.app sl h1 hB (by simp) (by decide) (by decide) hall (by
      have : (O.length + 1) * (by' + 1) ≤ 2 ^ 30 * 65 := Nat.mul_le_mul (by omega) (by omega)
      omega) (by omega) (.inl rfl) ?_
    intro v' h' q1 q2 q3 q4 q5
    have keep : ∀ b cc, Y b → b < h.next → h.get b = some (.cells cc 1 true 0 none) → h'.get b = h.get b := by
      intro b cc _ hb hc
      refine q4 b hb fun g' x y e => ?_
      cases e
      rintro rfl
      rw [s5] at hc
      cases hc
    refine hK v' h' (.inr ⟨fun e => e0 (List.append_eq_nil_iff.1 e).1, ?_⟩) (fun u hu => ?_) q2
    · rw [encW_app, List.length_append]
      exact q1
    · have hnx := q2.next
      exact ⟨(all u hu).1.of_get hnx keep (fun _ h => h), (all u hu).2.of_get hnx keep (fun _ h => h)⟩
theorem Gath.up {B C : Nat} {h : H} {v : Value} {l : List (List UInt8)} (g : Gath C h v l) (hb : B ≤ C) : Gath B h v l := g.imp id fun ⟨a, g, cp, c, s1, s2, s3, s4⟩ => ⟨a, g, cp, c, s1, s2, Nat.le_trans hb s3, s4⟩
theorem RdY.wid {Y Z : Nat → Prop} {h : H} {v : Value} {ws : List (List UInt8)} (r : RdY Y h v ws) (k : ∀ b, Y b → Z b) : RdY Z h v ws := r.imp id fun ⟨b, cap, c, a1, a2, a3, a4, a5, a6⟩ => ⟨b, cap, c, a1, a2, a3, a4, k b a5, a6⟩
theorem done_eq (ds ms : List (List UInt8)) : (decide (riseL ds = []) && decide (riseL ms = [])) = (decide (ds = []) && decide (ms = [])) := by
  have k : ∀ l : List (List UInt8), (riseL l = []) ↔ (l = []) := fun l => ⟨fun e => Classical.byContradiction fun q => riseL_ne q e, fun e => by rw [e, riseL_nil]⟩
  rw [decide_eq_decide.2 (k ds), decide_eq_decide.2 (k ms)]
theorem putG_drop (x : En) (done : Bool) {L : List En} {i : Nat} (hi : i < L.length) : putG x done (L.drop i) = (if done = false ∧ x.n ≤ L[i].n then [x] else []) ++ ((if L[i].n = x.n then [] else [L[i]]) ++ putG x (done || decide (x.n ≤ L[i].n)) (L.drop (i + 1))) := by
  rw [List.drop_eq_getElem_cons hi]
  rfl
theorem told_tot2 {L L' : List En} (h : totL L < 2 ^ 20) (h' : totL L' < 2 ^ 20) : (knownL L).length < 2 ^ 20 ∧ (knownL L').length < 2 ^ 20 ∧ True := by
  have k : ∀ M : List En, (knownL M).length ≤ totL M := fun M => Nat.le_trans (riseL_len _) (flat_len M)
  have k1 := k L
  have k2 := k L'
  exact ⟨by omega, by omega, trivial⟩
theorem putG_len (x : En) {L : List En} (r : Ris L) (done : Bool) : (putG x done L).length ≤ L.length + 1 := by
  cases done with
  | true => rw [putG_true]; exact Nat.le_succ_of_le (List.length_filter_le ..)
  | false =>
    obtain ⟨a, b, h1, h2, _, _⟩ := putG_false x r
    have := congrArg List.length h2
    have h3 := List.length_filter_le (fun e : En => decide (e.n ≠ x.n)) L
    rw [h1]
    simp only [List.length_append, List.length_cons] at *
    omega
theorem RdY.bnd {Y : Nat → Prop} {h : H} {v : Value} {ws : List (List UInt8)} (r : RdY Y h v ws) : RdY (fun b => Y b ∧ b < h.next) h v ws := r.imp id fun ⟨b, cap, c, a1, a2, a3, a4, a5, a6⟩ => ⟨b, cap, c, a1, a2, a3, a4, ⟨a5, a4⟩, a6⟩
theorem RRep.bnd {Y : Nat → Prop} {h : H} {wb : Nat} {L : List En} (r : RRep h wb L Y) : RRep h wb L (fun b => Y b ∧ b < h.next) := by
  obtain ⟨lv, l1, W, w1, w2, w3⟩ := r.w
  refine ⟨⟨lv, l1, W, w1, fun t ht => ⟨(w2 t ht).1.bnd, (w2 t ht).2.bnd⟩, w3.imp id ?_⟩, r.lt, r.y, r.lt⟩
  rintro ⟨e, g, cap, c, a1, a2, a3, a4, a5, a6⟩
  exact ⟨e, g, cap, c, a1, a2, a3, a4, ⟨a5, a4⟩, a6⟩
def notL (l m : List (List UInt8)) : List (List UInt8) := l.filter fun s => decide (s ∉ m)
theorem notL_take {l m : List (List UInt8)} {i : Nat} (hi : i < l.length) : notL (l.take (i + 1)) m = notL (l.take i) m ++ if l[i] ∈ m then [] else [l[i]] := by
  unfold notL
  rw [List.take_succ_eq_append_getElem hi, List.filter_append]
  by_cases q : l[i] ∈ m <;> simp [q]
theorem notL_len (l m : List (List UInt8)) (i : Nat) : (notL (l.take i) m).length ≤ l.length := Nat.le_trans (List.length_filter_le ..) (by rw [List.length_take]; omega)
set_option maxRecDepth 100000 in
set_option maxHeartbeats 16000000 in
theorem RPut_sp (wb : Nat) (L : List En) (Y : Nat → Prop) (n : Int) (dv mv : Value) (ds ms : List (List UInt8)) (h : H) (h1 : h.one = []) (rep : RRep h wb L Y) (hris : Ris L) (hd : RdS h dv ds) (hm : RdS h mv ms) (hn0 : ¬ n < 0) (hT : totL L + ds.length + ms.length < 2 ^ 19) (hL : L.length < 2 ^ 19) :
    CallW E0 X0 (.fn 15) [.pointer (some ⟨wb, 0, none⟩), .int .i64 n, dv, mv] h (fun r h' => ∃ rv, r = .tuple #[rv, .int .i64 0] ∧ (RdS h' rv (toldL L (putL L n (riseL ds) (riseL ms))) ∧ InY (fun b => h.next ≤ b) rv) ∧ RRep h' wb (putL L n (riseL ds) (riseL ms)) (fun b => Y b ∨ (h.next ≤ b ∧ b < h'.next)) ∧ (∀ b, b < h.next → b ≠ wb → h'.get b = h.get b) ∧ h.next ≤ h'.next ∧ h'.one = []) := by
  refine CallW.body efn15 rfl (xo (by decide) ..) rfl [] (by kernel_rfl) ?_
  obtain ⟨lv, w1, re⟩ := rep.w
  obtain ⟨a, cap, rfl⟩ := re.sl
  obtain ⟨a1, k1, rfl⟩ := hd.sl
  obtain ⟨a2, k2, rfl⟩ := hm.sl
  simp [Try.f15, h1, hn0]
  refine (RKnown_sp wb L Y h h1 rep (by omega) (by omega)).mono ?_
  rintro v10 h2 ⟨ga10, f2⟩
  have n2 := f2.next
  obtain ⟨D0, hD0⟩ : ∃ D0, D0 = (decide (riseL ds = []) && decide (riseL ms = [])) := ⟨_, rfl⟩
  rw [done_eq] at hD0
  obtain ⟨x, hx⟩ : ∃ x : En, x = ⟨n, riseL ds, riseL ms⟩ := ⟨_, rfl⟩
  have hxn : x.n = n := by rw [hx]
  have hput : putL L n (riseL ds) (riseL ms) = putG x D0 L := by rw [hx, hD0, ← done_eq]; rfl
  obtain ⟨T0, hT0⟩ : ∃ T0 : Prop, T0 = True := ⟨_, rfl⟩
  have cs : (ds = [] ∧ ms = [] ∧ D0 = true) ∨ (ds = [] ∧ ms ≠ [] ∧ D0 = false) ∨ (ds ≠ [] ∧ D0 = false) := by
    rw [hD0]
    by_cases q1 : ds = [] <;> by_cases q2 : ms = [] <;> simp [q1, q2]
  simp [-wpd_seq, f2.one]
  rw [wpd_seq]
  simp [-wpd_seq, f2.one]
  refine wpd_cut (fun fr' h' => fr'.get 12 = some (.bool D0) ∧ h' = h2) ?_ ?_
  · rcases cs with ⟨q1, q2, q3⟩ | ⟨q1, q2, q3⟩ | ⟨q1, q3⟩
    · simp [f2.one, q1, q2, q3]
    · simp [f2.one, q1, q2, q3]
    · simp [f2.one, q1, q3]
  rintro fr h' hf ⟨g12, rfl⟩
  have g0 := hf 0 rfl
  have g1 := hf 1 rfl
  have g2 := hf 2 rfl
  have g3 := hf 3 rfl
  have g10 := hf 10 rfl
  have g11 := hf 11 rfl
  simp at g0 g1 g2 g3 g10 g11
  have wbl := rep.lt
  clear hf
  refine wpd_cut (fun fr' h3 => ∃ vo O done, fr'.get 11 = some vo ∧ fr'.get 12 = some (.bool done) ∧ GathE h'.next h3 vo O ∧ RdT (fun b => Y b ∨ h.next ≤ b) h3 O ∧ O.map (·.1) ++ (if done then [] else [x]) = putG x D0 L ∧ Fr h'.next h' h3 ∧ O.length ≤ L.length + 1) ?_ ?_
  · rw [wpd_seq]
    simp [-wpd_seq, f2.one]
    refine wpd_loop (fun (i : Nat) fr3 h3 => fr3.get 13 = some (.int .i64 (i : Int)) ∧ i ≤ L.length ∧ ∃ vo O done, fr3.get 11 = some vo ∧ fr3.get 12 = some (.bool done) ∧ GathE h'.next h3 vo O ∧ RdT (fun b => Y b ∨ h.next ≤ b) h3 O ∧ O.map (·.1) ++ putG x done (L.drop i) = putG x D0 L ∧ Fr h'.next h' h3 ∧ O.length ≤ i + (if done then 1 else 0)) (fun i => L.length - i) 0 ⟨by simp, by simp, .slice none 0 0, [], D0, by simp [g11], by simp [g12], .inl ⟨rfl, rfl⟩, (fun t ht => by cases ht), by simp, Fr.refl f2.one, by simp⟩ ?_
    rintro i fr3 h3 ⟨g13, hile, vo, O, done, j11, j12, ga, rt, hp, fh, hol⟩ hf
    have j0 := hf 0 rfl
    have j1 := hf 1 rfl
    have j2 := hf 2 rfl
    have j3 := hf 3 rfl
    simp [g0, g1, g2, g3] at j0 j1 j2 j3
    have nh := fh.next
    have wb3 := (fh.get wb (by omega)).trans ((f2.get wb wbl).trans w1)
    by_cases hi : i < L.length
    · have hii : (i : Int) < L.length := by omega
      have wi : IntKind.i64.wrap ((i : Int) + 1) = ((i + 1 : Nat) : Int) := by rw [wrap_i64 (by omega) (by omega)]; omega
      obtain ⟨g, cp, c, dv', mv', e, e2, e3, rd, rm, e4⟩ := re.at hi
      cases e
      have e2' := (fh.get g (by omega)).trans ((f2.get g e4).trans e2)
      obtain ⟨c0, c1, c2, c3⟩ := three_at e3
      have hpd := putG_drop x done hi
      rw [hpd] at hp
      iterate 1 ((repeat rw [wpd_seq]); simp [-wpd_seq, j0, g13, fh.one, wb3, hi, hii])
      rw [wpd_seq, wpd_block]
      refine wpd_cut (fun fr' h4 => ∃ vo' O', fr'.get 11 = some vo' ∧ fr'.get 12 = some (.bool (done || decide (x.n ≤ L[i].n))) ∧ GathE h'.next h4 vo' O' ∧ RdT (fun b => Y b ∨ h.next ≤ b) h4 O' ∧ O'.map (·.1) = O.map (·.1) ++ (if done = false ∧ x.n ≤ L[i].n then [x] else []) ∧ Fr h'.next h' h4 ∧ O'.length ≤ i + (if (done || decide (x.n ≤ L[i].n)) then 1 else 0)) ?_ ?_
      · cases done with
        | true =>
          simp [j12, fh.one]
          exact ⟨vo, j11, O, ga, rt, rfl, fh, by simpa using hol⟩
        | false =>
          rw [hxn]
          by_cases hle : n ≤ L[i].n
          · simp [-Int.natCast_add, j0, j1, j2, j3, j11, j12, g13, fh.one, wb3, hi, hii, e2', c0, hle]
            refine (Rise_sp _ ds (by omega) h3 fh.one (hd.fr (f2.trans (fh.mono n2)))).mono ?_
            rintro r1 h4 ⟨ga1, f4⟩
            simp [j3, f4.one]
            have fh4 : Fr h'.next h' h4 := fh.trans (f4.mono nh)
            refine (Rise_sp _ ms (by omega) h4 f4.one (hm.fr (f2.trans (fh4.mono n2)))).mono ?_
            rintro r2 h5 ⟨ga2, f5⟩
            have n4 := f4.next
            have fh5 : Fr h'.next h' h5 := fh4.trans (f5.mono (by omega))
            have y1 : RdY (fun b => Y b ∨ h.next ≤ b) h5 r1 (riseL ds) := ga1.rdy.of_get f5.next (fun b c _ hb _ => f5.get b hb) (fun b hb => .inr (by omega))
            have y2 : RdY (fun b => Y b ∨ h.next ≤ b) h5 r2 (riseL ms) := ga2.rdy.of_get (Nat.le_refl _) (fun b c _ hb _ => rfl) (fun b hb => .inr (by omega))
            have cv1 := y1.cell
            have cv2 := y2.cell
            obtain ⟨b1, l1, rfl⟩ := y1.rd.sl
            obtain ⟨b2, l2, rfl⟩ := y2.rd.sl
            obtain ⟨av, cpv, rfl⟩ := ga.len
            have hz3 : zerosD [.int .i64 0, .slice none 0 0, .slice none 0 0] 3 = [.int .i64 0, .slice none 0 0, .slice none 0 0] := rfl
            simp [-Int.natCast_add, -appS_nil, -appS_some, j1, j11, f5.one, hz3]
            obtain ⟨h6, hh6⟩ : ∃ h6, h6 = h5.nw (.cells [.int .i64 n, .slice b1 (riseL ds).length l1, .slice b2 (riseL ms).length l2] 3 true 0 none) := ⟨_, rfl⟩
            rw [← hh6]
            have f6 : Fr h5.next h5 h6 := by rw [hh6]; exact (Fr.refl f5.one).nw (Nat.le_refl _) _
            clear hh6
            have n5 := f5.next
            have n6 := f6.next
            have ga6 : GathE h'.next h6 (.slice av O.length cpv) O := ga.of_get (by omega) fun g _ hg => (f6.get g (by omega)).trans ((f5.get g (by omega)).trans (f4.get g hg))
            have rt6 : RdT (fun b => Y b ∨ h.next ≤ b) h6 O := ((rt.fr f4).fr f5).fr f6
            have Y1 : RdY (fun b => Y b ∨ h.next ≤ b) h6 (.slice b1 (riseL ds).length l1) x.d := by rw [hx]; exact y1.of_get f6.next (fun b c _ hb _ => f6.get b hb) (fun _ h => h)
            have Y2 : RdY (fun b => Y b ∨ h.next ≤ b) h6 (.slice b2 (riseL ms).length l2) x.m := by rw [hx]; exact y2.of_get f6.next (fun b c _ hb _ => f6.get b hb) (fun _ h => h)
            refine app_ent ga6 rt6 f6.one (by omega) (x, .slice b1 (riseL ds).length l1, .slice b2 (riseL ms).length l2) ⟨Y1, Y2⟩ (by
              have := hol
              simp at this
              omega) (by omega) (by rw [hxn]) ?_
            intro v7 h7 ga7 rt7 f7
            simp [-Int.natCast_add, f7.one]
            refine ⟨_, ga7, rt7, by simp, ((fh5.trans (f6.mono (by omega))).trans f7), by simpa using hol⟩
          · simp [-Int.natCast_add, j0, j1, j2, j3, j12, g13, fh.one, wb3, hi, hii, e2', c0, hle]
            exact ⟨vo, j11, O, ga, rt, rfl, fh, by simpa using hol⟩
      · rintro fr4 h4 hf4 ⟨vo', O', k11, k12, ga', rt', hO', fh4, hol'⟩
        have k0 := hf4 0 rfl
        have k1' := hf4 1 rfl
        have k13 := hf4 13 rfl
        simp [j0, j1, g13] at k0 k1' k13
        obtain ⟨done', hdn⟩ : ∃ done', done' = (done || decide (x.n ≤ L[i].n)) := ⟨_, rfl⟩
        rw [← hdn] at k12 hol' hp
        have wb4 := (fh4.get wb (by omega)).trans ((f2.get wb wbl).trans w1)
        have e24 := (fh4.get g (by omega)).trans ((f2.get g e4).trans e2)
        have nh4 := fh4.next
        rw [← List.append_assoc, ← hO'] at hp
        by_cases hn : L[i].n = n
        · rw [if_pos (by rw [hxn]; exact hn), List.nil_append] at hp
          simp [-Int.natCast_add, -Bool.exists_bool, k0, k1', k11, k12, k13, fh4.one, wb4, hi, hii, e24, c0, hn, wi]
          refine ⟨i + 1, by omega, rfl, by omega, O', ?_⟩
          cases done' with
          | false => exact .inl ⟨rfl, ga', rt', hp, fh4, by simp at hol'; omega⟩
          | true => exact .inr ⟨rfl, ga', rt', hp, fh4, by simp at hol'; omega⟩
        · rw [if_neg (by rw [hxn]; exact hn), ← List.append_assoc] at hp
          have rd4 : RdY (fun b => Y b ∨ h.next ≤ b) h4 dv' L[i].d := rd.of_get (by omega) (fun b c _ hb _ => (fh4.get b (by omega)).trans (f2.get b hb)) (fun b hb => .inl hb)
          have rm4 : RdY (fun b => Y b ∨ h.next ≤ b) h4 mv' L[i].m := rm.of_get (by omega) (fun b c _ hb _ => (fh4.get b (by omega)).trans (f2.get b hb)) (fun b hb => .inl hb)
          have hz3 : zerosD [.int .i64 0, .slice none 0 0, .slice none 0 0] 3 = [.int .i64 0, .slice none 0 0, .slice none 0 0] := rfl
          obtain ⟨av, cpv, rfl⟩ := ga'.len
          obtain ⟨b1, l1, rfl⟩ := rd4.rd.sl
          obtain ⟨b2, l2, rfl⟩ := rm4.rd.sl
          simp [-Int.natCast_add, -appS_nil, -appS_some, k0, k1', k11, k12, k13, fh4.one, wb4, hi, hii, e24, c0, e3, c3, hn, hz3]
          obtain ⟨h6, hh6⟩ : ∃ h6, h6 = h4.nw (.cells [.int .i64 L[i].n, .slice b1 L[i].d.length l1, .slice b2 L[i].m.length l2] 3 true 0 none) := ⟨_, rfl⟩
          rw [← hh6]
          have f6 : Fr h4.next h4 h6 := by rw [hh6]; exact (Fr.refl fh4.one).nw (Nat.le_refl _) _
          clear hh6
          have n6 := f6.next
          have ga6 : GathE h'.next h6 (.slice av O'.length cpv) O' := ga'.of_get (by omega) fun g _ hg => f6.get g hg
          have rt6 : RdT (fun b => Y b ∨ h.next ≤ b) h6 O' := rt'.fr f6
          have Y1 := rd4.of_get f6.next (fun b c _ hb _ => f6.get b hb) (fun _ h => h)
          have Y2 := rm4.of_get f6.next (fun b c _ hb _ => f6.get b hb) (fun _ h => h)
          refine app_ent ga6 rt6 f6.one (by omega) (L[i], .slice b1 L[i].d.length l1, .slice b2 L[i].m.length l2) ⟨Y1, Y2⟩ (by
            have : (if done' = true then 1 else 0) ≤ 1 := by split <;> omega
            omega) (by omega) rfl ?_
          intro v7 h7 ga7 rt7 f7
          simp [-Int.natCast_add, -Bool.exists_bool, f7.one, k12, k13, wi]
          refine ⟨i + 1, by omega, rfl, by omega, O' ++ [(L[i], .slice b1 L[i].d.length l1, .slice b2 L[i].m.length l2)], ?_⟩
          have fh7 := (fh4.trans (f6.mono (by omega))).trans f7
          cases done' with
          | false => exact .inl ⟨rfl, ga7, rt7, by rw [List.map_append]; exact hp, fh7, by simp at hol' ⊢; omega⟩
          | true => exact .inr ⟨rfl, ga7, rt7, by rw [List.map_append]; exact hp, fh7, by simp at hol' ⊢; omega⟩
    · have hii : ¬ (i : Int) < L.length := by omega
      obtain rfl : i = L.length := by omega
      rw [List.drop_length] at hp
      simp [-Bool.exists_bool, j0, g13, fh.one, wb3]
      refine ⟨vo, j11, O, ?_⟩
      cases done with
      | false => exact .inl ⟨j12, ga, rt, hp, fh, by simp at hol; omega⟩
      | true => exact .inr ⟨j12, ga, rt, by rw [← hp]; exact (List.append_nil _).symm, fh, by simp at hol; omega⟩
  rintro frB h3 hfB ⟨vo, O, done, j11, j12, ga, rt, hp, fh, hol⟩
  have j0 := hfB 0 rfl
  have j1 := hfB 1 rfl
  have j2 := hfB 2 rfl
  have j3 := hfB 3 rfl
  have j10 := hfB 10 rfl
  rw [g0] at j0
  rw [g1] at j1
  rw [g2] at j2
  rw [g3] at j3
  rw [g10] at j10
  have nh := fh.next
  clear hfB g0 g1 g2 g3 g10 g11 g12
  refine wpd_cut (fun fr' h4 => ∃ vo' O', fr'.get 11 = some vo' ∧ GathE h'.next h4 vo' O' ∧ RdT (fun b => Y b ∨ h.next ≤ b) h4 O' ∧ O'.map (·.1) = putG x D0 L ∧ Fr h'.next h' h4) ?_ ?_
  · cases done with
    | true =>
      simp [j12, fh.one]
      exact ⟨vo, j11, O, ga, rt, by simpa using hp, fh⟩
    | false =>
      simp [j2, j11, j12, j1, fh.one]
      refine (Rise_sp _ ds (by omega) h3 fh.one (hd.fr (f2.trans (fh.mono n2)))).mono ?_
      rintro r1 h4 ⟨ga1, f4⟩
      simp [j3, f4.one]
      have fh4 : Fr h'.next h' h4 := fh.trans (f4.mono nh)
      refine (Rise_sp _ ms (by omega) h4 f4.one (hm.fr (f2.trans (fh4.mono n2)))).mono ?_
      rintro r2 h5 ⟨ga2, f5⟩
      have n4 := f4.next
      have fh5 : Fr h'.next h' h5 := fh4.trans (f5.mono (by omega))
      have y1 : RdY (fun b => Y b ∨ h.next ≤ b) h5 r1 (riseL ds) := ga1.rdy.of_get f5.next (fun b c _ hb _ => f5.get b hb) (fun b hb => .inr (by omega))
      have y2 : RdY (fun b => Y b ∨ h.next ≤ b) h5 r2 (riseL ms) := ga2.rdy.of_get (Nat.le_refl _) (fun b c _ hb _ => rfl) (fun b hb => .inr (by omega))
      obtain ⟨b1, l1, rfl⟩ := y1.rd.sl
      obtain ⟨b2, l2, rfl⟩ := y2.rd.sl
      obtain ⟨av, cpv, rfl⟩ := ga.len
      have hz3 : zerosD [.int .i64 0, .slice none 0 0, .slice none 0 0] 3 = [.int .i64 0, .slice none 0 0, .slice none 0 0] := rfl
      simp [-Int.natCast_add, -appS_nil, -appS_some, j1, j11, f5.one, hz3]
      obtain ⟨h6, hh6⟩ : ∃ h6, h6 = h5.nw (.cells [.int .i64 n, .slice b1 (riseL ds).length l1, .slice b2 (riseL ms).length l2] 3 true 0 none) := ⟨_, rfl⟩
      rw [← hh6]
      have f6 : Fr h5.next h5 h6 := by rw [hh6]; exact (Fr.refl f5.one).nw (Nat.le_refl _) _
      clear hh6
      have n5 := f5.next
      have n6 := f6.next
      have ga6 : GathE h'.next h6 (.slice av O.length cpv) O := ga.of_get (by omega) fun g _ hg => (f6.get g (by omega)).trans ((f5.get g (by omega)).trans (f4.get g hg))
      have rt6 : RdT (fun b => Y b ∨ h.next ≤ b) h6 O := ((rt.fr f4).fr f5).fr f6
      have Y1 : RdY (fun b => Y b ∨ h.next ≤ b) h6 (.slice b1 (riseL ds).length l1) x.d := by rw [hx]; exact y1.of_get f6.next (fun b c _ hb _ => f6.get b hb) (fun _ h => h)
      have Y2 : RdY (fun b => Y b ∨ h.next ≤ b) h6 (.slice b2 (riseL ms).length l2) x.m := by rw [hx]; exact y2.of_get f6.next (fun b c _ hb _ => f6.get b hb) (fun _ h => h)
      refine app_ent ga6 rt6 f6.one (by omega) (x, .slice b1 (riseL ds).length l1, .slice b2 (riseL ms).length l2) ⟨Y1, Y2⟩ (by omega) (by omega) (by rw [hxn]) ?_
      intro v7 h7 ga7 rt7 f7
      simp [-Int.natCast_add, f7.one]
      exact ⟨_, ga7, rt7, by simpa using hp, ((fh5.trans (f6.mono (by omega))).trans f7)⟩
  rintro frC h4 hfC ⟨vo', O', k11, ga', rt', hO', fh4⟩
  have k0 := hfC 0 rfl
  have k10 := hfC 10 rfl
  rw [j0] at k0
  rw [j10] at k10
  clear hfC j0 j1 j2 j3 j10 j11 j12 ga rt hp fh nh hol
  have nh4 := fh4.next
  have wb4 := (fh4.get wb (by omega)).trans ((f2.get wb wbl).trans w1)
  obtain ⟨av, cpv, rfl⟩ := ga'.len
  simp [-Int.natCast_add, k0, k11, fh4.one, wb4]
  obtain ⟨h5, hh5⟩ : ∃ h5, h5 = h4.put wb (.cells [.slice av O'.length cpv] 0 true 0 none) := ⟨_, rfl⟩
  rw [← hh5]
  have n5 : h5.next = h4.next := by rw [hh5]; rfl
  have o5 : h5.one = [] := by rw [hh5]; exact fh4.one
  have p5 : ∀ b, b ≠ wb → h5.get b = h4.get b := fun b hb => by rw [hh5, H.get_put, if_neg hb]
  have w5 : h5.get wb = some (.cells [.slice av O'.length cpv] 0 true 0 none) := by rw [hh5, H.get_put, if_pos rfl]
  clear hh5
  rw [← hput] at hO'
  obtain ⟨L', hL'⟩ : ∃ L', L' = putL L n (riseL ds) (riseL ms) := ⟨_, rfl⟩
  rw [← hL'] at hO' ⊢
  have hlL' : L'.length ≤ L.length + 1 := by rw [hL', hput]; exact putG_len x hris D0
  have htL' : totL L' ≤ totL L + (ds.length + ms.length) := by
    have h1 := putL_tot hris n (riseL ds) (riseL ms)
    have h2 := riseL_len ds
    have h3 := riseL_len ms
    rw [hL']
    omega
  have keep5 : ∀ b c, b < h4.next → h4.get b = some (.cells c 1 true 0 none) → h5.get b = h4.get b := fun b c _ hc => p5 b (by rintro rfl; rw [wb4] at hc; cases hc)
  have rr5 : RRep h5 wb L' (fun b => Y b ∨ h.next ≤ b) := by
    refine ⟨⟨_, w5, O', hO', fun t ht => ⟨(rt' t ht).1.of_get (by omega) (fun b c _ hb hc => keep5 b c hb hc) (fun _ h => h), (rt' t ht).2.of_get (by omega) (fun b c _ hb hc => keep5 b c hb hc) (fun _ h => h)⟩, ?_⟩, by omega, .inl rep.y⟩
    rcases ga' with ⟨q1, q2⟩ | ⟨q1, g, cp, c, s1, s2, s3, s4, s5, s6, s7⟩
    · exact .inl ⟨q1, q2⟩
    · refine .inr ⟨q1, g, cp, c, s1, s2, (p5 g ?_).trans s5, by omega, .inr (by omega), s7⟩
      rintro rfl
      rw [wb4] at s5
      cases s5
  have f05 : ∀ b, b < h.next → b ≠ wb → h5.get b = h.get b := fun b hb hne => (p5 b hne).trans ((fh4.get b (by omega)).trans (f2.get b hb))
  have was5 : RdS h5 v10 (knownL L) := by
    have r1 : RdS h4 v10 (knownL L) := ga10.rd.fr fh4
    rcases ga10 with ⟨rfl, e0⟩ | ⟨_, g, cp, c, rfl, s2, s3, s4, s5, s6, s7⟩
    · exact .inl ⟨none, rfl, e0⟩
    · rw [Nat.mul_one] at s7
      exact .inr ⟨g, cp, c, 1, true, 0, none, rfl, s2, (p5 g (by omega)).trans ((fh4.get g s4).trans s5), by omega, s7, .inr rfl⟩
  refine (RKnown_sp wb L' _ h5 o5 rr5 (by omega) (by omega)).mono ?_
  rintro v14 h6 ⟨ga14, f6⟩
  have rr6 := rr5.fr f6
  have was6 := was5.fr f6
  have now6 := ga14.rd
  have n6 := f6.next
  obtain ⟨tA, tB, tT⟩ := told_tot2 (L := L) (L' := L') (by omega) (by omega)
  obtain ⟨aw, kw, rfl⟩ := was6.sl
  obtain ⟨an, kn, rfl⟩ := now6.sl
  simp [-Int.natCast_add, f6.one]
  have hz1 : zerosD [str []] 1 = [str []] := rfl
  refine wpd_loop (fun (i : Nat) fr2 h7 => fr2.get 16 = some (.int .i64 (i : Int)) ∧ i ≤ (knownL L).length ∧ Fr h6.next h6 h7 ∧ ∃ vo, fr2.get 15 = some vo ∧ Gath h6.next h7 vo (notL ((knownL L).take i) (knownL L'))) (fun i => (knownL L).length - i) 0 ⟨by simp, by simp, Fr.refl f6.one, .slice none 0 0, by simp, .inl ⟨rfl, rfl⟩⟩ ?_
  rintro i fr2 h7 ⟨j16, hile, f7, vo, j15, ga⟩ hf2
  have j10 := hf2 10 rfl
  have j14 := hf2 14 rfl
  simp [k10] at j10 j14
  have n7 := f7.next
  by_cases hi : i < (knownL L).length
  · have hii : (i : Int) < (knownL L).length := by omega
    obtain ⟨b, cap2, c, st, own, fz, ty, e, e2, e3, e4⟩ := (was6.fr f7).at hi
    cases e
    have wi : IntKind.i64.wrap ((i : Int) + 1) = ((i + 1 : Nat) : Int) := by rw [wrap_i64 (by omega) (by omega)]; omega
    have hst := notL_take (m := knownL L') hi
    have hfi := notL_len (knownL L) (knownL L') i
    simp [-Int.natCast_add, j10, j14, j16, f7.one, hi, hii, e2, e3]
    refine (Within_sp (knownL L)[i] _ (knownL L') (by omega) h7 f7.one (now6.fr f7)).mono ?_
    rintro _ h7 ⟨rfl, rfl⟩
    by_cases hm : (knownL L)[i] ∈ knownL L'
    · rw [if_pos hm, List.append_nil] at hst
      simp [-Int.natCast_add, f7.one, hm, j15, j16, wi]
      exact ⟨i + 1, by omega, rfl, by omega, f7, by rw [hst]; exact ga⟩
    · rw [if_neg hm] at hst
      simp [-Int.natCast_add, -appendD_eq, j10, j15, j16, f7.one, hi, hii, e2, e3, hm, hz1]
      obtain ⟨h8, hh8⟩ : ∃ h8, h8 = h7.nw (.cells [str (knownL L)[i]] 1 true 0 none) := ⟨_, rfl⟩
      rw [← hh8]
      have f8 : Fr h7.next h7 h8 := by rw [hh8]; exact (Fr.refl f7.one).nw (Nat.le_refl _) _
      have n8 : h8.next = h7.next + 1 := by rw [hh8]; rfl
      have r8 : RdS h8 (.slice (some ⟨h7.next, 0, none⟩) 1 1) [(knownL L)[i]] := .inr ⟨h7.next, 1, [str (knownL L)[i]], 1, true, 0, none, rfl, Nat.le_refl _, by rw [hh8]; simp, by omega, rfl, .inr rfl⟩
      clear hh8
      refine app_gath (ga.of_get f8.next fun g _ hg => f8.get g hg) (src_rd r8) f8.one (by omega) (by simp; omega) ?_
      intro v9 h9 ga9 f9 _ _ _
      simp [-Int.natCast_add, f9.one, j16, wi]
      exact ⟨i + 1, by omega, rfl, by omega, (f7.trans (f8.mono n7)).trans f9, by rw [hst]; exact ga9⟩
  have hii : ¬ (i : Int) < (knownL L).length := by omega
  obtain rfl : i = (knownL L).length := by omega
  rw [List.take_length] at ga
  simp [-Int.natCast_add, j10, j16, f7.one]
  have was7 := was6.fr f7
  have now7 := now6.fr f7
  have rr7 := rr6.fr f7
  have hfa : (notL (knownL L) (knownL L')).length ≤ (knownL L).length := List.length_filter_le ..
  clear hf2 hi hii hile j16
  refine wpd_loop (fun (i : Nat) fr3 h8 => fr3.get 17 = some (.int .i64 (i : Int)) ∧ i ≤ (knownL L').length ∧ Fr h6.next h6 h8 ∧ ∃ vo, fr3.get 15 = some vo ∧ Gath h6.next h8 vo (notL (knownL L) (knownL L') ++ notL ((knownL L').take i) (knownL L))) (fun i => (knownL L').length - i) 0 ⟨by simp, by simp, f7, vo, by simp [j15], by rw [show notL ((knownL L').take 0) (knownL L) = [] from rfl, List.append_nil]; exact ga⟩ ?_
  rintro i fr3 h8 ⟨l17, hile, f8, vo2, l15, ga2⟩ hf3
  have l10 := hf3 10 rfl
  have l14 := hf3 14 rfl
  simp [j10, j14] at l10 l14
  have n8 := f8.next
  have was8 := was6.fr f8
  have now8 := now6.fr f8
  by_cases hi : i < (knownL L').length
  · have hii : (i : Int) < (knownL L').length := by omega
    obtain ⟨b, cap2, c, st, own, fz, ty, e, e2, e3, e4⟩ := now8.at hi
    cases e
    have wi : IntKind.i64.wrap ((i : Int) + 1) = ((i + 1 : Nat) : Int) := by rw [wrap_i64 (by omega) (by omega)]; omega
    have hst := notL_take (m := knownL L) hi
    have hfi := notL_len (knownL L') (knownL L) i
    simp [-Int.natCast_add, l10, l14, l17, f8.one, hi, hii, e2, e3]
    refine (Within_sp (knownL L')[i] _ (knownL L) (by omega) h8 f8.one was8).mono ?_
    rintro _ h8 ⟨rfl, rfl⟩
    by_cases hm : (knownL L')[i] ∈ knownL L
    · rw [if_pos hm, List.append_nil] at hst
      simp [-Int.natCast_add, f8.one, hm, l15, l17, wi]
      exact ⟨i + 1, by omega, rfl, by omega, f8, by rw [hst]; exact ga2⟩
    · rw [if_neg hm] at hst
      simp [-Int.natCast_add, -appendD_eq, l14, l15, l17, f8.one, hi, hii, e2, e3, hm, hz1]
      obtain ⟨h9, hh9⟩ : ∃ h9, h9 = h8.nw (.cells [str (knownL L')[i]] 1 true 0 none) := ⟨_, rfl⟩
      rw [← hh9]
      have f9 : Fr h8.next h8 h9 := by rw [hh9]; exact (Fr.refl f8.one).nw (Nat.le_refl _) _
      have n9 : h9.next = h8.next + 1 := by rw [hh9]; rfl
      have r9 : RdS h9 (.slice (some ⟨h8.next, 0, none⟩) 1 1) [(knownL L')[i]] := .inr ⟨h8.next, 1, [str (knownL L')[i]], 1, true, 0, none, rfl, Nat.le_refl _, by rw [hh9]; simp, by omega, rfl, .inr rfl⟩
      clear hh9
      refine app_gath (ga2.of_get f9.next fun g _ hg => f9.get g hg) (src_rd r9) f9.one (by omega) (by simp only [List.length_append, List.length_cons, List.length_nil]; omega) ?_
      intro v10' h10 ga10' f10 _ _ _
      simp [-Int.natCast_add, f10.one, l17, wi]
      exact ⟨i + 1, by omega, rfl, by omega, (f8.trans (f9.mono n8)).trans f10, by rw [hst, ← List.append_assoc]; exact ga10'⟩
  have hii : ¬ (i : Int) < (knownL L').length := by omega
  obtain rfl : i = (knownL L').length := by omega
  rw [List.take_length] at ga2
  have hfb : (notL (knownL L') (knownL L)).length ≤ (knownL L').length := List.length_filter_le ..
  have rr8 := (rr6.fr f8)
  simp [-Int.natCast_add, l14, l15, l17, f8.one]
  refine (Rise_sp vo2 _ (by rw [List.length_append]; omega) h8 f8.one ga2.rd).mono ?_
  rintro v11 h11 ⟨ga11, f11⟩
  have n11 := f11.next
  simp [-Int.natCast_add, f11.one]
  have hT : riseL (notL (knownL L) (knownL L') ++ notL (knownL L') (knownL L)) = toldL L L' := by
    refine (riseL_up _).ext (riseL_up _) fun s => ?_
    rw [riseL_mem, show (s ∈ toldL L L' ↔ _) from told_mem]
    unfold notL
    rw [List.mem_append, List.mem_filter, List.mem_filter]
    by_cases q1 : 0 < cntL L s <;> by_cases q2 : 0 < cntL L' s <;> simp [q1, q2, known_mem]
  rw [hT] at ga11
  refine ⟨⟨ga11.rd, ga11.rdy.inY.imp id fun ⟨b, n, c, y1, y2⟩ => ⟨b, n, c, y1, by omega⟩⟩, (((rr5.bnd.fr f6).fr f8).fr f11).of_get (Nat.le_refl _) (fun _ _ _ _ _ _ => rfl) (fun b hb => ?_), fun b hb hne => ?_, by omega⟩
  · rcases hb.1 with q | q
    · exact .inl q
    · exact .inr ⟨q, by omega⟩
  · rw [f11.get b (by omega), f8.get b (by omega), f6.get b (by omega)]
    exact f05 b hb hne
end Go.Dm
