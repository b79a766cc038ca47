/- Labels, rising, each once: the program's rise. -/
import Derived.Test.YthglbdbdhhbkhaaPlugN
set_option linter.unusedVariables false
set_option linter.unusedSimpArgs false
namespace Go.Dm
open Go.Proofs
@[simp] theorem asgPost_normal {E : Env} {X : Plug} (l : Nat) (L : List Nat) (bd : Code) (K : VPost) (fr : T Value) (h : H) : asgPost E X l L bd K .normal fr h = ∃ r1, h.get l = some (.loop r1) ∧ r1.state = .ready ∧ wpd E X L bd none (rndPost l K) fr (h.put l (.loop { r1 with state := .busy })) := by
  simp [asgPost]
@[simp] theorem rndPost_normal (l : Nat) (K : VPost) (fr : T Value) (h : H) : rndPost l K .normal fr h = ∃ r2, h.get l = some (.loop r2) ∧ K (.bool true) (h.put l (.loop { r2 with state := .ready, pending := none })) := by
  simp [rndPost, jumpOf]
/-- A slice of strings that is read. -/
def RdS (h : H) (v : Value) (ws : List (List UInt8)) : Prop := (∃ a : Option Nat, v = .slice (a.map fun b => ⟨b, 0, none⟩) 0 0 ∧ ws = []) ∨ ∃ b cap c st own fz ty, v = .slice (some ⟨b, 0, none⟩) ws.length cap ∧ ws.length ≤ cap ∧ h.get b = some (.cells c st own fz ty) ∧ b < h.next ∧ c.take ws.length = ws.map str ∧ (st = 0 ∨ st = 1)
theorem RdS.of_get {h h' : H} {v : Value} {l : List (List UInt8)} (r : RdS h v l) (hn : h.next ≤ h'.next) (hg : ∀ b, b < h.next → h'.get b = h.get b) : RdS h' v l := by
  rcases r with r | ⟨b, cap, c, st, own, fz, ty, a1, a2, a3, a4, a5⟩
  · exact .inl r
  · exact .inr ⟨b, cap, c, st, own, fz, ty, a1, a2, (hg b a4).trans a3, Nat.lt_of_lt_of_le a4 hn, a5⟩
theorem RdS.fr {h h' : H} {v : Value} {l : List (List UInt8)} (r : RdS h v l) (f : Fr h.next h h') : RdS h' v l := r.of_get f.next f.get
theorem RdS.sl {h : H} {v : Value} {l : List (List UInt8)} (r : RdS h v l) : ∃ a cap, v = .slice a l.length cap := by
  rcases r with ⟨a, rfl, rfl⟩ | ⟨b, cap, c, st, own, fz, ty, rfl, _⟩
  · exact ⟨_, 0, rfl⟩
  · exact ⟨_, _, rfl⟩
theorem RdS.at {h : H} {v : Value} {l : List (List UInt8)} (r : RdS h v l) {i : Nat} (hi : i < l.length) : ∃ b cap c st own fz ty, v = .slice (some ⟨b, 0, none⟩) l.length cap ∧ h.get b = some (.cells c st own fz ty) ∧ c[i]? = some (str l[i]) ∧ b < h.next := by
  rcases r with ⟨a, rfl, rfl⟩ | ⟨b, cap, c, st, own, fz, ty, rfl, _, a3, a4, a5, _⟩
  · simp at hi
  · refine ⟨b, cap, c, st, own, fz, ty, rfl, a3, ?_, a4⟩
    have := congrArg (fun l => l[i]?) a5
    simp only [List.getElem?_take, hi, if_true, List.getElem?_map, List.getElem?_eq_getElem hi, Option.map_some] at this
    exact this
theorem RdS.len {h : H} {v : Value} {l : List (List UInt8)} (r : RdS h v l) : l.length = 0 ∨ ∃ b cap c st own fz ty, v = .slice (some ⟨b, 0, none⟩) l.length cap ∧ l.length ≤ cap ∧ h.get b = some (.cells c st own fz ty) ∧ l.length ≤ c.length := by
  rcases r with ⟨a, rfl, rfl⟩ | ⟨b, cap, c, st, own, fz, ty, a1, a2, a3, a4, a5, _⟩
  · exact .inl rfl
  · refine .inr ⟨b, cap, c, st, own, fz, ty, a1, a2, a3, ?_⟩
    have := congrArg List.length a5
    simp at this
    omega
theorem SlC.rd {B : Nat} {h : H} {v : Value} {l : List (List UInt8)} (s : SlC none 1 B h v (l.map str) l.length) : RdS h v l := by
  obtain ⟨g, cap, c, a1, a2, a3, a4, a5, a6, a7⟩ := s
  rw [Nat.mul_one] at a7
  exact .inr ⟨g, cap, c, 1, true, 0, none, a1, a2, a5, a4, a7, .inr rfl⟩
set_option maxRecDepth 100000 in
set_option maxHeartbeats 8000000 in
/-- The elements come, each by a round. -/
theorem values1_sp (bx y : Nat) (v : Value) (ss : List (List UInt8)) (hl : ss.length < 2 ^ 40) (I : Nat → H → Prop)
    (hI : ∀ i h, I i h → h.one = [] ∧ RdS h v ss ∧ ∃ o fz ty, h.get bx = some (.cells [v] 0 o fz ty))
    (step : ∀ i h (hi : i < ss.length), I i h → CallW E0 X1 (.yd y) [str ss[i]] h (fun r h' => r = .bool true ∧ I (i + 1) h'))
    (h : H) (h0 : I 0 h) :
    CallW E0 X1 (.fn 41) [.func (.yield y) #[] #[], .pointer (some ⟨bx, 0, none⟩)] h (fun r h' => I ss.length h') := by
  refine CallW.body efn41 rfl rfl rfl [] (by kernel_rfl) ?_
  obtain ⟨h1, r0, o, fz, ty, q0⟩ := hI 0 h h0
  obtain ⟨a, cap, rfl⟩ := r0.sl
  simp [Try.f41, h1, q0]
  refine wpd_loop (fun (i : Nat) fr h3 => fr.get 7 = some (.int .i64 (i : Int)) ∧ i ≤ ss.length ∧ I i h3) (fun i => ss.length - i) 0 ⟨by simp, by simp, h0⟩ ?_
  rintro i fr h3 ⟨g7, hile, hIt⟩ hf
  obtain ⟨h1, r1, o1, fz1, ty1, q1⟩ := hI i h3 hIt
  have g0 := hf 0 rfl
  have g1 := hf 1 rfl
  have g5 := hf 5 rfl
  have g6 := hf 6 rfl
  simp at g0 g1 g5 g6
  by_cases hi : i < ss.length
  · have hii : (i : Int) < ss.length := by omega
    obtain ⟨b, cap2, c, st, own, fz2, ty2, e, e2, e3, e4⟩ := r1.at hi
    cases e
    have hst := step i h3 hi hIt
    simp [g0, g1, g5, g6, g7, h1, hi, hii, e2, e3]
    refine hst.mono ?_
    rintro _ h5 ⟨rfl, hI5⟩
    obtain ⟨h15, _⟩ := hI _ _ hI5
    have w1 : IntKind.i64.wrap ((i : Int) + 1) = ((i + 1 : Nat) : Int) := by rw [wrap_i64 (by omega) (by omega)]; omega
    simp [h15, g7, w1]
    exact ⟨i + 1, by omega, rfl, by omega, hI5⟩
  · have hii : ¬ (i : Int) < ss.length := by omega
    obtain rfl : i = ss.length := by omega
    simp [g0, g1, g5, g6, g7, h1]
    exact hIt
/-- What came: nil where nothing came, else an own slice. -/
def Gath (B : Nat) (h : H) (v : Value) (l : List (List UInt8)) : Prop := (v = .slice none 0 0 ∧ l = []) ∨ (l ≠ [] ∧ SlC none 1 B h v (l.map str) l.length)
theorem Gath.of_get {B : Nat} {h h' : H} {v : Value} {l : List (List UInt8)} (s : Gath B h v l) (hn : h.next ≤ h'.next) (hg : ∀ g, B ≤ g → g < h.next → h'.get g = h.get g) : Gath B h' v l := s.imp id fun ⟨a, b⟩ => ⟨a, b.of_get hn hg⟩
theorem Gath.rd {B : Nat} {h : H} {v : Value} {l : List (List UInt8)} (s : Gath B h v l) : RdS h v l := by
  rcases s with s | ⟨_, s⟩
  · exact .inl ⟨none, s⟩
  · exact s.rd
set_option maxRecDepth 100000 in
set_option maxHeartbeats 8000000 in
theorem AppendSeq_sp (bx : Nat) (v : Value) (ss : List (List UInt8)) (hl : ss.length < 2 ^ 30) (h : H) (h1 : h.one = []) (hb : bx < h.next) (hr : RdS h v ss) {o : Bool} {fz : Nat} {ty : Option TypeId} (hx : h.get bx = some (.cells [v] 0 o fz ty)) :
    CallW E0 X1 (.fn 39) [.slice none 0 0, .func (.func 41) #[] #[.pointer (some ⟨bx, 0, none⟩)]] h (fun r h' => Gath h.next h' r ss ∧ Fr h.next h h' ∧ h'.next ≤ h.next + 2 * ss.length + 2) := by
  refine CallW.body efn39 rfl rfl rfl [] (by kernel_rfl) ?_
  simp [Try.f39, h1]
  generalize hF : (T.set _ 6 _ : T Value) = F
  have g2 : F.get 2 = some (.pointer (some ⟨h.next, 0, none⟩)) := by rw [← hF]; simp
  have g6 : F.get 6 = some (.func (.func 41) #[] #[.pointer (some ⟨bx, 0, none⟩)]) := by rw [← hF]; simp
  generalize hH : h.nw _ = h4
  have n4 : h4.next = h.next + 1 := by rw [← hH]; simp
  have o4 : h4.one = [] := by rw [← hH]; simp
  have f4 : Fr h.next h h4 := by rw [← hH]; exact (Fr.refl h1).nw (Nat.le_refl _) _
  have k0 : h4.get h.next = some (.cells [.slice none 0 0] 0 true 0 none) := by rw [← hH]; simp
  clear hF hH
  refine wpd_range (g := 41) (first := #[]) (cap := #[.pointer (some ⟨bx, 0, none⟩)]) o4 (by simp [g6]) ?_
  generalize hL : (Lp.mk LoopState.ready none F _ _ _) = L
  refine (values1_sp bx h4.next v ss (by omega) (fun i h' => i ≤ ss.length ∧ Fr h.next h h' ∧ h4.next < h'.next ∧ h'.next ≤ h4.next + 1 + 2 * i ∧ h'.get h4.next = some (.loop L) ∧ ∃ vb, h'.get h.next = some (.cells [vb] 0 true 0 none) ∧ Gath (h4.next + 1) h' vb (ss.take i)) ?_ ?_ (h4.nw (.loop L)) ?_).mono ?_
  · rintro i h' ⟨hi, f, hn, hn2, q1, _⟩
    exact ⟨f.one, hr.fr f, o, fz, ty, (f.get _ hb).trans hx⟩
  · rintro i h' hi ⟨_, f, hn, hn2, q1, vb, q2, ga⟩
    rw [← hL] at q1
    refine CallW.yd (fr0 := F.set 7 (some (str ss[i]))) q1 rfl [] [] (by kernel_rfl) (by kernel_rfl) ?_
    have htk : ss.take (i + 1) = ss.take i ++ [ss[i]] := List.take_succ_eq_append_getElem hi
    simp [q1, f.one, show ¬ h4.next = h.next by omega]
    generalize hH : H.put h' h4.next _ = h5
    have n5 : h5.next = h'.next := by rw [← hH]; simp
    have o5 : h5.one = [] := by rw [← hH]; simpa using f.one
    have f5 : Fr h.next h h5 := by rw [← hH]; exact f.put (by omega) _
    have L5 := (show h5.get h4.next = _ from by rw [← hH, H.get_put, if_pos rfl])
    have p5 : ∀ b, b ≠ h4.next → h5.get b = h'.get b := by intro b hb; rw [← hH, H.get_put, if_neg hb]
    have q25 := (p5 h.next (by omega)).trans q2
    have ga5 : Gath (h4.next + 1) h5 vb (ss.take i) := ga.of_get (by omega) fun g hg _ => p5 g (by omega)
    clear hH
    have hz1 : zerosD [str []] 1 = [str []] := rfl
    have hfin : ∀ h8 : H, ∀ v8 : Value, h8.get h4.next = some (.loop { state := LoopState.busy, pending := none, fr := F, params := L.params, assign := L.assign, body := L.body }) → Fr h.next h h8 → h8.next ≤ h5.next + 2 → h4.next < h8.next → h8.get h.next = some (.cells [v8] 0 true 0 none) → Gath (h4.next + 1) h8 v8 (ss.take (i + 1)) →
        ∃ r2, h8.get h4.next = some (.loop r2) ∧ (Value.bool true = .bool true ∧ i + 1 ≤ ss.length ∧ Fr h.next h (h8.put h4.next (.loop { r2 with state := .ready, pending := none })) ∧ h4.next < h8.next ∧ h8.next ≤ h4.next + 1 + 2 * (i + 1) ∧ (h8.put h4.next (.loop { r2 with state := .ready, pending := none })).get h4.next = some (.loop L) ∧
          ∃ vb, (h8.put h4.next (.loop { r2 with state := .ready, pending := none })).get h.next = some (.cells [vb] 0 true 0 none) ∧ Gath (h4.next + 1) (h8.put h4.next (.loop { r2 with state := .ready, pending := none })) vb (ss.take (i + 1))) := by
      intro h8 v8 e1 e2 e3 e4 e5 e6
      refine ⟨_, e1, rfl, by omega, e2.put (by omega) _, e4, by omega, by rw [H.get_put, if_pos rfl, ← hL], v8, by rw [H.get_put, if_neg (by omega)]; exact e5, e6.of_get (Nat.le_refl _) fun g hg _ => by rw [H.get_put, if_neg (by omega)]⟩
    rcases ga5 with ⟨rfl, e0⟩ | ⟨e0, sl⟩
    · have x1 : ¬ h.next = h5.next := by omega
      have x2 : ¬ h.next = h5.next + 1 := by omega
      have x3 : ¬ h4.next = h5.next := by omega
      have x4 : ¬ h4.next = h5.next + 1 := by omega
      have x5 : ¬ h4.next = h.next := by omega
      simp [g2, q25, o5, hz1, x1, x2, -appS_some]
      have fin1 := (hfin (((h5.nw (.cells [str ss[i]] 1 true 0 none)).nw (.cells [str ss[i]] 1 true 0 none)).put h.next (.cells [.slice (some ⟨h5.next + 1, 0, none⟩) 1 1] 0 true 0 none)) (.slice (some ⟨h5.next + 1, 0, none⟩) 1 1) ?_ (((f5.nw (by omega) _).nw (by simp; omega) _).put (Nat.le_refl _) _) (by simp) (by simp; omega) (by simp) ?_)
      · simpa using fin1
      · simp [x3, x4, x5, L5, ← hL]
      · rw [htk, e0]
        exact .inr ⟨by simp, h5.next + 1, 1, [str ss[i]], rfl, Nat.le_refl _, by omega, by simp, by simp [show ¬ h5.next + 1 = h.next by omega], rfl, rfl⟩
    · obtain ⟨g, cap, c, rfl, _⟩ := id sl
      have hmin : min i ss.length = i := by omega
      simp [g2, q25, o5, hz1, hmin, -appS_some]
      rw [List.length_take, hmin] at sl
      obtain ⟨h6, hh6⟩ : ∃ h6, h6 = h5.nw (.cells [str ss[i]] 1 true 0 none) := ⟨_, rfl⟩
      rw [← hh6]
      have n6 : h6.next = h5.next + 1 := by rw [hh6]; rfl
      have f56 : Fr h5.next h5 h6 := by rw [hh6]; exact (Fr.refl o5).nw (Nat.le_refl _) _
      clear hh6
      have f6 : Fr h.next h h6 := f5.trans (f56.mono (by omega))
      have s6 := sl.of_get f56.next fun g _ hg => f56.get g hg
      refine SlC.app s6 f6.one (by omega) (by simp) (by simp) (by simp) (by rfl) (by omega) (by simp) (.inl rfl) ?_
      intro v7 h7 q1' q2' q3 q4 q5
      have x0 := (q2'.get h.next (by omega)).trans ((f56.get _ (by omega)).trans q25)
      have x1 := (q2'.get h4.next (by omega)).trans ((f56.get _ (by omega)).trans L5)
      obtain ⟨gv, cv, Cv, rfl, _⟩ := id q1'
      have hsa : setAt [Value.slice (some { block := g, off := 0 }) i cap] 0 [Value.slice (some { block := gv, off := 0 }) (i + 1) cv] = [Value.slice (some { block := gv, off := 0 }) (i + 1) cv] := rfl
      simp [g2, q2'.one, x0, hz1, hmin, hsa]
      have n7 := q2'.next
      have f7 : Fr h.next h h7 := f6.trans (q2'.mono (by omega))
      have fin1 := (hfin (h7.put h.next (.cells [.slice (some ⟨gv, 0, none⟩) (i + 1) cv] 0 true 0 none)) (.slice (some ⟨gv, 0, none⟩) (i + 1) cv) ?_ (f7.put (Nat.le_refl _) _) (by simp; omega) (by simp; omega) (by simp) ?_)
      · simpa using fin1
      · rw [H.get_put, if_neg (by omega), x1, ← hL]
      · rw [htk]
        refine .inr ⟨fun e => absurd (List.append_eq_nil_iff.1 e).2 (List.cons_ne_nil _ _), ?_⟩
        rw [List.length_append, List.length_take, hmin, List.map_append]
        exact SlC.of_get (h' := h7.put h.next (.cells [.slice (some ⟨gv, 0, none⟩) (i + 1) cv] 0 true 0 none)) q1' (by simp) fun g hg _ => by rw [H.get_put, if_neg (by omega)]
  · exact ⟨by omega, f4.nw (by omega) _, by simp, by simp, by simp, .slice none 0 0, by simpa [show ¬ h.next = h4.next by omega] using k0, .inl ⟨rfl, rfl⟩⟩
  · rintro r h' ⟨_, f, hn, hn2, q1, vb, q2, ga⟩
    simp only [List.take_length] at ga
    refine ⟨_, .normal, q1, by rw [← hL]; simp, by rw [← hL]; rfl, ?_⟩
    rw [← hL]
    simp [f.one, g2, q2, show ¬ h.next = h4.next by omega]
    refine ⟨ga.imp id fun ⟨a, b⟩ => ⟨a, ?_⟩, f.put (by omega) _, by omega⟩
    obtain ⟨g, cap, c, a1, a2, a3, a4, a5, a6, a7⟩ := b
    exact ⟨g, cap, c, a1, a2, by omega, a4, by rw [H.get_put, if_neg (by omega)]; exact a5, a6, a7⟩
theorem strsD_map : ∀ zs : List (List UInt8), strsD (zs.map str) = some zs
  | [] => rfl
  | z :: zs => by
    have := strsD_map zs
    show (strsD (zs.map str)).map _ = _
    rw [this]
    rfl
/-- The sorted elements of a slice. -/
theorem Sorted_sp (bx : Nat) (v : Value) (ss : List (List UInt8)) (hl : ss.length < 2 ^ 30) (h : H) (h1 : h.one = []) (hb : bx < h.next) (hr : RdS h v ss) {o : Bool} {fz : Nat} {ty : Option TypeId} (hx : h.get bx = some (.cells [v] 0 o fz ty)) :
    CallW E0 X1 (.fn 26) [.func (.func 41) #[] #[.pointer (some ⟨bx, 0, none⟩)]] h (fun r h' => Gath h.next h' r (srtS ss) ∧ Fr h.next h h' ∧ h'.next ≤ h.next + 2 * ss.length + 2) := by
  refine CallW.body efn26 rfl rfl rfl [] (by kernel_rfl) ?_
  simp [Try.f26, h1]
  have hC : CallW E0 X1 (.fn 32) [.func (.func 41) #[] #[.pointer (some ⟨bx, 0, none⟩)]] h (fun r h' => Gath h.next h' r ss ∧ Fr h.next h h' ∧ h'.next ≤ h.next + 2 * ss.length + 2) := by
    refine CallW.body efn32 rfl rfl rfl [] (by kernel_rfl) ?_
    simp [Try.f32, h1]
    refine (AppendSeq_sp bx v ss hl h h1 hb hr hx).mono ?_
    rintro r h2 ⟨ga, f, n⟩
    simp [f.one]
    exact ⟨ga, f, n⟩
  refine hC.mono ?_
  rintro r h2 ⟨ga, f, n⟩
  have hsl := srtS_len ss
  rcases ga with ⟨rfl, rfl⟩ | ⟨e0, g, cap, c, rfl, a2, a3, a4, a5, a6, a7⟩
  · simp [f.one]
    refine CallW.plug (v := .tuple #[]) (h' := h2) (by simp [X1, sortP]) ?_
    simp [f.one]
    exact ⟨.inl ⟨rfl, List.mergeSort_nil⟩, f, by simpa using n⟩
  · have hl0 : ¬ ss.length = 0 := fun e => e0 (List.eq_nil_of_length_eq_zero e)
    rw [Nat.mul_one] at a6 a7
    have hcl : ss.length ≤ c.length := by omega
    simp [f.one]
    refine CallW.plug (v := .tuple #[]) (h' := h2.put g (.cells (setAt c 0 ((srtS ss).map str)) 1 true 0 none)) (by simp [X1, sortP, hl0, a5, a7, strsD_map, hcl]; omega) ?_
    simp [f.one]
    refine ⟨.inr ⟨fun e => by rw [e] at hsl; exact hl0 hsl.symm, ?_⟩, f.put a3 _, n⟩
    rw [hsl]
    refine ⟨g, cap, _, rfl, a2, a3, a4, by rw [H.get_put, if_pos rfl], by rw [setAt_length]; omega, ?_⟩
    rw [setAt_eq _ _ _ (by simp [hsl]; omega)]
    simp [hsl]
/-- Labels, rising, each once. -/
def riseL (ss : List (List UInt8)) : List (List UInt8) := Lib.compact (srtS ss)
theorem cmp_sub (zs : List (List UInt8)) : (Lib.compact zs).Sublist zs := by
  have h1 : (Lib.compactUpTo zs.toArray zs.length).Sublist ((List.range zs.length).map (zs.toArray[·]!)) := List.filter_sublist.map _
  have h2 := Lib.range_map_get zs.toArray
  simp only [List.size_toArray] at h2
  rw [h2] at h1
  exact h1
theorem cmp_up (zs : List (List UInt8)) (hs : zs.Pairwise (· ≤ ·)) : ∀ n, n ≤ zs.length → Up (Lib.compactUpTo zs.toArray n) ∧ (∀ x, x ∈ Lib.compactUpTo zs.toArray n ↔ x ∈ zs.take n) := by
  intro n
  induction n with
  | zero => exact fun _ => ⟨List.Pairwise.nil, fun x => by simp [Lib.compactUpTo]⟩
  | succ n ih =>
    intro hn
    obtain ⟨u, hm⟩ := ih (by omega)
    have hlt : n < zs.length := by omega
    have hd : zs.toArray[n]! = zs[n] := by simp [hlt]
    have hle : ∀ x ∈ zs.take n, x ≤ zs[n] := by
      intro x hx
      obtain ⟨i, hi, rfl⟩ := List.mem_iff_getElem.1 hx
      have hi' : i < n := by simp at hi; omega
      rw [List.getElem_take]
      exact List.pairwise_iff_getElem.1 hs i n _ hlt hi'
    rw [Lib.compactUpTo_succ, List.take_succ_eq_append_getElem hlt]
    by_cases hk : Lib.keeps zs.toArray n = true
    · rw [if_pos hk, hd]
      refine ⟨List.pairwise_append.2 ⟨u, List.pairwise_singleton .., ?_⟩, fun x => by rw [List.mem_append, List.mem_append, hm]⟩
      intro a ha b hb
      rw [List.mem_singleton.1 hb]
      have ha' := (hm a).1 ha
      have h1 := hle a ha'
      refine Classical.byContradiction fun hnl => ?_
      have hae : a = zs[n] := List.le_antisymm h1 (List.not_lt.1 hnl)
      obtain ⟨i, hi, e⟩ := List.mem_iff_getElem.1 ha'
      have hi' : i < n := by simp at hi; omega
      rw [List.getElem_take] at e
      unfold Lib.keeps at hk
      simp only [decide_eq_true_eq] at hk
      rcases hk with hk | hk
      · omega
      · apply hk
        have hd2 : zs.toArray[n - 1]! = zs[n - 1] := by simp [show n - 1 < zs.length by omega]
        rw [hd, hd2]
        refine List.le_antisymm ?_ ?_
        · rw [← hae, ← e]
          rcases Nat.lt_or_ge i (n - 1) with q | q
          · exact List.pairwise_iff_getElem.1 hs i (n - 1) (by omega) (by omega) q
          · have : i = n - 1 := by omega
            subst this
            exact List.le_refl _
        · exact List.pairwise_iff_getElem.1 hs (n - 1) n (by omega) hlt (by omega)
    · rw [if_neg hk, List.append_nil]
      refine ⟨u, fun x => ?_⟩
      rw [hm, List.mem_append, List.mem_singleton]
      refine ⟨.inl, ?_⟩
      rintro (h | rfl)
      · exact h
      · have hk2 : ¬ (n = 0 ∨ zs.toArray[n]! ≠ zs.toArray[n - 1]!) := by
          intro q; apply hk; unfold Lib.keeps; simpa using q
        have hn0 : n ≠ 0 := fun e => hk2 (.inl e)
        have heq : zs.toArray[n]! = zs.toArray[n - 1]! := Classical.byContradiction fun q => hk2 (.inr q)
        have hd2 : zs.toArray[n - 1]! = zs[n - 1] := by simp [show n - 1 < zs.length by omega]
        rw [hd, hd2] at heq
        rw [heq]
        exact List.mem_iff_getElem.2 ⟨n - 1, by simp; omega, by rw [List.getElem_take]⟩
theorem riseL_up (ss : List (List UInt8)) : Up (riseL ss) := (cmp_up (srtS ss) (srtS_pw ss) _ (Nat.le_refl _)).1
theorem riseL_mem (ss : List (List UInt8)) (x : List UInt8) : x ∈ riseL ss ↔ x ∈ ss := by
  rw [show x ∈ riseL ss ↔ x ∈ (srtS ss).take (srtS ss).length from (cmp_up (srtS ss) (srtS_pw ss) _ (Nat.le_refl _)).2 x, List.take_length]
  exact (srtS_p ss).mem_iff
theorem riseL_len (ss : List (List UInt8)) : (riseL ss).length ≤ ss.length := by
  have := (cmp_sub (srtS ss)).length_le
  rw [srtS_len] at this
  exact this
theorem riseL_perm {a b : List (List UInt8)} (p : a.Perm b) : riseL a = riseL b := by unfold riseL; rw [srtS_perm p]
theorem riseL_ne {ss : List (List UInt8)} (h : ss ≠ []) : riseL ss ≠ [] := by
  intro e
  cases ss with
  | nil => exact h rfl
  | cons x l =>
    have := (riseL_mem (x :: l) x).2 (List.mem_cons_self ..)
    rw [e] at this
    cases this
set_option maxRecDepth 100000 in
set_option maxHeartbeats 8000000 in
theorem rise_sp (v : Value) (ss : List (List UInt8)) (hl : ss.length < 2 ^ 30) (h : H) (h1 : h.one = []) (hr : RdS h v ss) :
    CallW E0 X1 (.fn 30) [v] h (fun r h' => Gath h.next h' r (riseL ss) ∧ Fr h.next h h' ∧ h'.next ≤ h.next + 2 * ss.length + 3) := by
  refine CallW.body efn30 rfl rfl rfl [] (by kernel_rfl) ?_
  simp [Try.f30, h1]
  have hV : CallW E0 X1 (.fn 36) [v] h (fun r h' => r = .func (.func 41) #[] #[.pointer (some ⟨h.next, 0, none⟩)] ∧ ∃ ty, h' = h.nw (.cells [v] 0 true 0 ty)) := by
    refine CallW.body efn36 rfl rfl rfl [] (by kernel_rfl) ?_
    obtain ⟨a, cap, rfl⟩ := hr.sl
    simp [Try.f36, h1]
    exact ⟨none, rfl⟩
  refine hV.mono ?_
  rintro _ h2 ⟨rfl, ty, rfl⟩
  simp
  have f2 : Fr h.next h (h.nw (.cells [v] 0 true 0 ty)) := (Fr.refl h1).nw (Nat.le_refl _) _
  refine (Sorted_sp h.next v ss hl _ (by simp) (by simp) (hr.fr f2) (by simp; exact ⟨rfl, rfl, rfl⟩)).mono ?_
  rintro r3 h3 ⟨ga, f3, n3⟩
  have hcl := riseL_len ss
  have hsl := srtS_len ss
  have n3' : h3.next ≤ h.next + 2 * ss.length + 3 := by simp at n3; omega
  rcases ga with ⟨rfl, e0⟩ | ⟨e0, g, cap, c, rfl, a2, a3, a4, a5, a6, a7⟩
  · have e1 : ss = [] := by
      rw [e0] at hsl
      exact List.eq_nil_of_length_eq_zero hsl.symm
    simp [f3.one]
    refine CallW.plug (v := .slice none 0 0) (h' := h3) (by simp [X1, cptP]) ?_
    simp [f3.one]
    refine ⟨.inl ⟨rfl, ?_⟩, f2.trans (f3.mono (by simp)), n3'⟩
    rw [riseL, e0]
    rfl
  · rw [Nat.mul_one] at a6 a7
    have hl0 : ¬ ss.length = 0 := fun e => e0 (List.eq_nil_of_length_eq_zero (by omega))
    have hcl2 : ss.length ≤ c.length := by omega
    rw [hsl] at a2 a7
    simp at a3
    simp [f3.one, hsl]
    obtain ⟨c2, hc2⟩ : ∃ c2, c2 = setAt c 0 ((Lib.compact (srtS ss) ++ List.replicate ((srtS ss).length - (Lib.compact (srtS ss)).length) []).map str) := ⟨_, rfl⟩
    have hlen : ((Lib.compact (srtS ss) ++ List.replicate ((srtS ss).length - (Lib.compact (srtS ss)).length) []).map str).length = ss.length := by
      have : (Lib.compact (srtS ss)).length ≤ ss.length := hcl
      simp [hsl]; omega
    refine CallW.plug (v := .slice (some ⟨g, 0, none⟩) (riseL ss).length cap) (h' := h3.put g (.cells c2 1 true 0 none)) (by simp [X1, cptP, hl0, a5, a7, strsD_map, hcl2, hsl, riseL]; refine ⟨by omega, ?_⟩; rw [hc2, hsl]; simp) ?_
    simp [f3.one]
    refine ⟨.inr ⟨riseL_ne fun e => hl0 (by rw [e]; rfl), g, cap, c2, rfl, by omega, by omega, a4, by simp, ?_, ?_⟩, f2.trans ((f3.mono (by simp)).put (by omega) _), n3'⟩
    · rw [hc2, setAt_length]; omega
    · rw [hc2, setAt_eq _ _ _ (by rw [hlen]; omega)]
      rw [Nat.mul_one, List.take_zero, List.nil_append, List.map_append, List.append_assoc]
      rw [show (riseL ss).length = ((Lib.compact (srtS ss)).map str).length by simp [riseL], List.take_left]
      rfl
end Go.Dm
