/- A builder closes a node; adds a leaf. -/
import Derived.Test.YtdgclgfhcgdehaaDoorSbB
set_option linter.unusedVariables false
set_option linter.unusedSimpArgs false
namespace Go.Dm
open Go.Proofs
theorem BKp.put {O O' : Nat → Prop} {h : H} {c : Nat} (C : DObj) (h1 : h.one = []) (hO : O c) (hs : ∀ c, O' c → O c) : BKp O O' h (h.put c C) where
  one := h1
  next := Nat.le_refl _
  keep d hd hn := by rw [H.get_put, if_neg (by rintro rfl; exact hn hO)]
  new d h := .inl (hs d h)
theorem BMem.nbb {bb : Nat} {h : H} {s : AB} {ad : List Nat} {vn vo : Value} (x : BMem bb h s ad vn vo) {i : Nat} (hi : i < ad.length) : ¬ ad.getD i 0 = bb := fun e => by
  have e1 := (x.nod i hi).2
  rw [e, x.blk] at e1
  simp [encN] at e1
theorem SlC.put {ty : Option TypeId} {n B : Nat} {h : H} {v : Value} {cs : List Value} {len c : Nat} (s : SlC ty n B h v cs len) (C : DObj) (hc : ∀ g x y, v = .slice (some ⟨g, 0, none⟩) x y → g ≠ c) : SlC ty n B (h.put c C) v cs len := by
  obtain ⟨g, cap, d, rfl, s2, s3, s4, s5, s6, s7⟩ := s
  exact ⟨g, cap, d, rfl, s2, s3, s4, by rw [H.get_put, if_neg (hc g _ _ rfl)]; exact s5, s6, s7⟩
theorem BMem.far {bb : Nat} {h : H} {s : AB} {ad : List Nat} {vn vo : Value} (x : BMem bb h s ad vn vo) (f : Int) : BMem bb (h.put bb (.cells [vn, vo, .int .i64 f] 0 true 0 none)) ⟨s.nodes, s.opn, f⟩ ad vn vo where
  blk := by rw [H.get_put, if_pos rfl]
  bb := x.bb
  sn := x.sn.put _ (x.sn.ne0 x.blk)
  so := x.so.put _ (x.so.ne0 x.blk)
  ap := x.ap
  len := x.len
  nod i hi := by rw [H.get_put, if_neg (x.nbb hi)]; exact x.nod i hi
  inj := x.inj
  op := x.op
theorem nd_set {l : List Nd} {i j : Nat} {y : Nd} (hi : i < l.length) : nd (l.set i y) j = if i = j then y else nd l j := by
  unfold nd
  by_cases h : i = j
  · subst h
    simp [List.getD, hi]
  · simp [List.getD, List.getElem?_set, h]
theorem BMem.node {bb : Nat} {h : H} {s : AB} {ad : List Nat} {vn vo : Value} (x : BMem bb h s ad vn vo) {i : Nat} (hi : i < ad.length) (y : Nd) : BMem bb (h.put (ad.getD i 0) (.cells (encN y) 0 true 0 (some 67))) ⟨s.nodes.set i y, s.opn, s.far⟩ ad vn vo where
  blk := by rw [H.get_put, if_neg fun e => x.nbb hi e.symm]; exact x.blk
  bb := x.bb
  sn := x.sn.put _ (x.sn.ne0 (x.nod i hi).2)
  so := x.so.put _ (x.so.ne0 (x.nod i hi).2)
  ap := x.ap
  len := by simp [x.len]
  nod j hj := by
    rw [H.get_put, nd_set (by rw [← x.len]; exact hi)]
    by_cases e : i = j
    · subst e
      exact ⟨(x.nod i hi).1, by rw [if_pos rfl, if_pos rfl]⟩
    · have e2 : ¬ ad.getD j 0 = ad.getD i 0 := by
        intro q
        have h1 : ad.getD j 0 = ad[j] := by simp [List.getD, hj]
        have h2 : ad.getD i 0 = ad[i] := by simp [List.getD, hi]
        rw [h1, h2] at q
        exact e ((List.getElem_inj x.inj).1 q).symm
      rw [if_neg e2, if_neg e]
      exact x.nod j hj
  inj := x.inj
  op := x.op
theorem BMem.shut {bb go co : Nat} {h : H} {s : AB} {ad : List Nat} {vn : Value} (x : BMem bb h s ad vn (.slice (some ⟨go, 0, none⟩) s.opn.length co)) :
    BMem bb (h.put bb (.cells [vn, .slice (some ⟨go, 0, none⟩) (s.opn.length - 1) co, .int .i64 s.far] 0 true 0 none)) ⟨s.nodes, s.opn.dropLast, s.far⟩ ad vn (.slice (some ⟨go, 0, none⟩) (s.opn.length - 1) co) where
  blk := by rw [H.get_put, if_pos rfl]
  bb := x.bb
  sn := x.sn.put _ (x.sn.ne0 x.blk)
  so := by
    have hb : go ≠ bb := x.so.ne0 x.blk _ _ _ rfl
    obtain ⟨g, cap, d, e, s2, s3, s4, s5, s6, s7⟩ := x.so
    cases e
    refine ⟨go, co, d, by simp, by simp; omega, s3, s4, by rw [H.get_put, if_neg hb]; exact s5, s6, ?_⟩
    simp only [Nat.mul_one, List.length_dropLast] at s7 ⊢
    have e1 : d.take (s.opn.length - 1) = (d.take s.opn.length).take (s.opn.length - 1) := by rw [List.take_take, Nat.min_eq_left (by omega)]
    rw [e1, s7, ptrs, ptrs, List.map_map, List.map_map, ← List.map_take, List.dropLast_eq_take]
  ap := fun g y1 y2 y3 y4 e e2 => x.ap g y1 y2 s.opn.length co e (by cases e2; rfl)
  len := x.len
  nod i hi := by rw [H.get_put, if_neg (x.nbb hi)]; exact x.nod i hi
  inj := x.inj
  op i hi := x.op i (List.dropLast_subset _ hi)
set_option maxRecDepth 100000 in
set_option maxHeartbeats 8000000 in
theorem bleaf_sp (bb op k : Nat) (a t : Int) (s : AB) (O : Nat → Prop) (h : H) (h1 : h.one = []) (x : BS bb h s O) (hl : s.nodes.length < 2 ^ 40) (hlo : s.opn.length < 2 ^ 20) :
    CallW E0 X0 (.fn 40) [.pointer (some ⟨bb, 0, none⟩), .agg #[.int .u8 op, .int .u8 k, .int .i64 a, .int .i64 t]] h (fun r h' => BTo bb O h ⟨s.nodes ++ [⟨k, a, t, s.opn.length⟩], s.opn, t⟩ h') := by
  refine CallW.body efn40 rfl rfl rfl [] (by kernel_rfl) ?_
  obtain ⟨ad, vn, vo, x, rfl⟩ := x
  have hbb := x.bb
  have hbn : ¬ bb = h.next := by omega
  have hbn2 : ¬ h.next = bb := by omega
  obtain ⟨h2, hh2⟩ : ∃ h2, h2 = h.nw (.cells [.int .u8 op, .int .u8 k, .int .i64 a, .int .i64 t] 0 true 0 none) := ⟨_, rfl⟩
  have n2 : h2.next = h.next + 1 := by rw [hh2]; rfl
  have o2 : h2.one = [] := by rw [hh2]; simp [h1]
  have f2 : Fr h.next h h2 := by rw [hh2]; exact (Fr.refl h1).nw (Nat.le_refl _) _
  have e2 : h2.get h.next = some (.cells [.int .u8 op, .int .u8 k, .int .i64 a, .int .i64 t] 0 true 0 none) := by rw [hh2]; simp
  have x2 := x.fr f2
  have c1 := add_sp bb k a t s ad vn vo h2 o2 x2 hl hlo
  simp [-wpd_seq, Tryd.f40, h1]
  (repeat rw [wpd_seq]); simp [-wpd_seq, h1]
  rw [← hh2]
  clear hh2
  simp [o2, e2]
  refine c1.mono ?_
  rintro r h3 ⟨rfl, vn', x3, b3⟩
  have e3 : h3.get h.next = some (.cells [.int .u8 op, .int .u8 k, .int .i64 a, .int .i64 t] 0 true 0 none) := by
    rw [b3.keep _ (by omega) fun hc => by have := x.lt hc; omega]; exact e2
  obtain ⟨gn, cn, Cn, rfl, _⟩ := x3.sn
  obtain ⟨go, co, Co, rfl, _⟩ := x3.so
  simp [b3.one, e3, x3.blk]
  have x4 := x3.far t
  simp only [List.length_append, List.length_singleton] at x4 b3
  exact ⟨_, ⟨_, _, _, x4, rfl⟩, ((BKp.of_fr f2).trans b3).trans (BKp.put _ b3.one (.inl rfl) fun c h => h)⟩
set_option maxRecDepth 100000 in
set_option maxHeartbeats 8000000 in
theorem bend_sp (bb op k : Nat) (a t : Int) (s : AB) (O : Nat → Prop) (h : H) (h1 : h.one = []) (x : BS bb h s O) (hlo : s.opn.length < 2 ^ 20) (hne : s.opn ≠ []) :
    CallW E0 X0 (.fn 39) [.pointer (some ⟨bb, 0, none⟩), .agg #[.int .u8 op, .int .u8 k, .int .i64 a, .int .i64 t]] h (fun r h' => BTo bb O h (endB a k s) h') := by
  refine CallW.body efn39 rfl rfl rfl [6] (by kernel_rfl) ?_
  obtain ⟨ad, vn, vo, x, rfl⟩ := x
  have hbb := x.bb
  have hbn : ¬ bb = h.next := by omega
  have hbn2 : ¬ h.next = bb := by omega
  obtain ⟨go, co, Co, rfl, p2, p3, p4, p5, p6, p7⟩ := x.so
  obtain ⟨gn, cn, Cn, rfl, _⟩ := x.sn
  have hlen : 0 < s.opn.length := List.length_pos_iff.2 hne
  obtain ⟨i, hi⟩ : ∃ i, i = s.opn.getLastD 0 := ⟨_, rfl⟩
  have hlast : s.opn[s.opn.length - 1]? = some i := by
    rw [hi, List.getLastD_eq_getLast?, ← List.getLast?_eq_getElem?]
    cases hg : s.opn.getLast? with
    | none => exact absurd (List.getLast?_eq_none_iff.1 hg) hne
    | some z => rfl
  have him : i < ad.length := x.op i (List.mem_of_getElem? hlast)
  have hC : Co[s.opn.length - 1]? = some (.pointer (some ⟨ad.getD i 0, 0, none⟩)) := by
    have := congrArg (fun l => l[s.opn.length - 1]?) p7
    simp only [List.getElem?_take, Nat.mul_one, show s.opn.length - 1 < s.opn.length by omega, if_true, ptrs, List.getElem?_map, hlast, Option.map_some] at this
    exact this
  obtain ⟨y, hy⟩ : ∃ y, y = nd s.nodes i := ⟨_, rfl⟩
  have nn := x.nod i him
  rw [← hy] at nn
  have nb := x.nbb him
  obtain ⟨q, hq⟩ : ∃ q, q = ad.getD i 0 := ⟨_, rfl⟩
  rw [← hq] at hC nn nb
  obtain ⟨h2, hh2⟩ : ∃ h2, h2 = h.nw (.cells [.int .u8 op, .int .u8 k, .int .i64 a, .int .i64 t] 0 true 0 none) := ⟨_, rfl⟩
  have n2 : h2.next = h.next + 1 := by rw [hh2]; rfl
  have o2 : h2.one = [] := by rw [hh2]; simp [h1]
  have f2 : Fr h.next h h2 := by rw [hh2]; exact (Fr.refl h1).nw (Nat.le_refl _) _
  have e2 : h2.get h.next = some (.cells [.int .u8 op, .int .u8 k, .int .i64 a, .int .i64 t] 0 true 0 none) := by rw [hh2]; simp
  have x2 := x.fr f2
  have e2b := x2.blk
  have e2g := (f2.get _ p4).trans p5
  have e2q := (f2.get _ nn.1).trans nn.2
  obtain ⟨m, hm⟩ : ∃ m, s.opn.length = m + 1 := ⟨s.opn.length - 1, by omega⟩
  have hlt : m < s.opn.length := by omega
  have w1 : IntKind.i64.wrap (m : Int) = m := wrap_nat (by omega)
  have hC' : Co[m]? = some (.pointer (some ⟨q, 0, none⟩)) := by rw [← hC, hm]; rfl
  have hm1 : (m : Int) < (m : Int) + 1 := by omega
  simp [-wpd_seq, Tryd.f39, h1]
  (repeat rw [wpd_seq]); simp [-wpd_seq, h1]
  rw [← hh2]
  clear hh2
  (repeat rw [wpd_seq]); simp [-wpd_seq, o2, e2, e2b, hm, w1]
  (repeat rw [wpd_seq]); simp [-wpd_seq, o2, e2, e2b, e2g, hm, w1, hC', hm1]
  obtain ⟨yk, yf, yt, yd⟩ := y
  have nn2 := e2q
  simp only [encN] at nn2
  have hqn : ¬ q = h.next := by have := nn.1; omega
  have hqn2 : ¬ h.next = q := by omega
  have x2' := x2
  rw [hm] at x2'
  (repeat rw [wpd_seq]); simp [-wpd_seq, o2, e2, nn2]
  obtain ⟨h3, hh3⟩ : ∃ h3, h3 = h2.put q (.cells [.int .u8 yk, .int .i64 yf, .int .i64 a, .int .i64 yd] 0 true 0 (some 67)) := ⟨_, rfl⟩
  rw [← hh3]
  have x3 := x2'.node him ⟨yk, yf, a, yd⟩
  rw [← hq, show encN ⟨yk, yf, a, yd⟩ = [.int .u8 yk, .int .i64 yf, .int .i64 a, .int .i64 yd] from rfl, ← hh3] at x3
  have b3 : BKp (InB bb (.slice (some ⟨gn, 0, none⟩) ad.length cn) (.slice (some ⟨go, 0, none⟩) (m + 1) co) ad) (InB bb (.slice (some ⟨gn, 0, none⟩) ad.length cn) (.slice (some ⟨go, 0, none⟩) (m + 1) co) ad) h2 h3 := by
    rw [hh3]
    exact BKp.put _ o2 (.inr (.inr (.inr (by rw [hq]; simp [List.getD, him])))) fun c h => h
  have o3 : h3.one = [] := b3.one
  have e3 : h3.get h.next = some (.cells [.int .u8 op, .int .u8 k, .int .i64 a, .int .i64 t] 0 true 0 none) := by rw [hh3, H.get_put, if_neg hqn2]; exact e2
  have q3 : h3.get q = some (.cells [.int .u8 yk, .int .i64 yf, .int .i64 a, .int .i64 yd] 0 true 0 (some 67)) := by rw [hh3, H.get_put, if_pos rfl]
  clear hh3
  refine wpd_cut (fun fr' h' => BMem bb h' ⟨s.nodes.set i ⟨if k = 0 then yk else k, yf, a, yd⟩, s.opn, s.far⟩ ad (.slice (some ⟨gn, 0, none⟩) ad.length cn) (.slice (some ⟨go, 0, none⟩) (m + 1) co) ∧ BKp (InB bb (.slice (some ⟨gn, 0, none⟩) ad.length cn) (.slice (some ⟨go, 0, none⟩) (m + 1) co) ad) (InB bb (.slice (some ⟨gn, 0, none⟩) ad.length cn) (.slice (some ⟨go, 0, none⟩) (m + 1) co) ad) h3 h' ∧ h'.get h.next = some (.cells [.int .u8 op, .int .u8 k, .int .i64 a, .int .i64 t] 0 true 0 none)) ?_ ?_
  · by_cases hk : k = 0
    · subst hk
      (repeat rw [wpd_seq]); simp [-wpd_seq, o3, e3]
      exact ⟨x3, BKp.of_fr (Fr.refl o3)⟩
    · have hk2 : ¬ (k : Int) = 0 := by omega
      (repeat rw [wpd_seq]); simp [-wpd_seq, o3, e3, hk, q3]
      have x4 := x3.node him ⟨k, yf, a, yd⟩
      rw [← hq, List.set_set, show encN ⟨k, yf, a, yd⟩ = [.int .u8 k, .int .i64 yf, .int .i64 a, .int .i64 yd] from rfl] at x4
      refine ⟨x4, BKp.put _ o3 (.inr (.inr (.inr (by rw [hq]; simp [List.getD, him])))) fun c h => h, ?_⟩
      exact hqn2
  · rintro fr4 h4 hf ⟨x4, b4, e4⟩
    have g0 := hf 0 rfl
    have g3 := hf 3 rfl
    have g4 := hf 4 rfl
    simp at g0 g3 g4
    clear hf
    have o4 := b4.one
    have c4 := x4.blk
    have hle : m ≤ co := by omega
    have b4n := b4.next
    obtain ⟨go', co', Co', e, _, _, _, hgo, hcl, _⟩ := x4.so
    simp at e
    obtain ⟨e1, _, e2⟩ := e
    subst e1
    subst e2
    have hcl2 : co ≤ Co'.length := by omega
    have x5 : BMem bb _ _ ad _ _ := BMem.shut (s := ⟨s.nodes.set i ⟨if k = 0 then yk else k, yf, a, yd⟩, s.opn, s.far⟩) (by rw [hm]; exact x4)
    have hm2 : s.opn.length - 1 = m := by omega
    simp only [hm2] at x5
    have x6 := x5.far a
    (repeat rw [wpd_seq]); simp [-wpd_seq, o4, e4, g0, g3, g4, c4]
    refine ⟨laxW_of [(9, 15)] (by kernel_rfl) ?_, ?_⟩
    · simp [LaxP, o4, e4, g0, g3, g4, c4, w1, hle, hbn, hbn2, hgo, hcl, LaxG_load]
    · simp [o4, e4, g0, g3, g4, c4, w1, hle, hbn, hbn2, hgo, hcl]
      have hE : endB a k s = ⟨s.nodes.set i ⟨if k = 0 then yk else k, yf, a, yd⟩, s.opn.dropLast, a⟩ := by
        unfold endB
        rw [← hi, ← hy]
      rw [hE]
      refine ⟨_, ⟨ad, _, _, x6, rfl⟩, (((BKp.of_fr f2).trans b3).trans b4).trans ((BKp.put _ o4 (.inl rfl) ?_).trans (BKp.put _ o4 (.inl rfl) fun c h => h))⟩
      rintro c (e | e | ⟨y1, y2, e⟩ | e)
      · exact .inl e
      · exact .inr (.inl e)
      · exact .inr (.inr (.inl ⟨m + 1, co, by cases e; rfl⟩))
      · exact .inr (.inr (.inr e))
end Go.Dm
