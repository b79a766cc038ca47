/- A builder in memory: what is added to it, opened and closed. -/
import Derived.Test.YtdgclgfhcgdehaaDoorSbM
import Derived.Test.YtdgclgfhcgdehaaDoorTrA
import Derived.Test.YtdgclgfhcgdehaaDoorDMid
set_option linter.unusedVariables false
set_option linter.unusedSimpArgs false
namespace Go.Dm
open Go.Proofs
def ptrs (ad : List Nat) : List Value := ad.map fun a => .pointer (some ⟨a, 0, none⟩)
theorem ptrs_len (ad : List Nat) : (ptrs ad).length = ad.length := by simp [ptrs]
theorem ptrs_cells (ad : List Nat) : (ptrs ad).all cellV = true := by simp [ptrs]
structure BMem (bb : Nat) (h : H) (s : AB) (ad : List Nat) (vn vo : Value) : Prop where
  blk : h.get bb = some (.cells [vn, vo, .int .i64 s.far] 0 true 0 none)
  bb : bb < h.next
  sn : SlC none 1 0 h vn (ptrs ad) ad.length
  so : SlC none 1 0 h vo (ptrs (s.opn.map fun i => ad.getD i 0)) s.opn.length
  ap : ∀ g x y x' y', vn = .slice (some ⟨g, 0, none⟩) x y → vo ≠ .slice (some ⟨g, 0, none⟩) x' y'
  len : ad.length = s.nodes.length
  nod : ∀ i, i < ad.length → ad.getD i 0 < h.next ∧ h.get (ad.getD i 0) = some (.cells (encN (nd s.nodes i)) 0 true 0 (some 67))
  inj : ad.Nodup
  op : ∀ i ∈ s.opn, i < ad.length
/-- The builder's blocks. -/
def InB (bb : Nat) (vn vo : Value) (ad : List Nat) (c : Nat) : Prop := c = bb ∨ (∃ x y, vn = .slice (some ⟨c, 0, none⟩) x y) ∨ (∃ x y, vo = .slice (some ⟨c, 0, none⟩) x y) ∨ c ∈ ad
def BS (bb : Nat) (h : H) (s : AB) (O : Nat → Prop) : Prop := ∃ ad vn vo, BMem bb h s ad vn vo ∧ O = InB bb vn vo ad
structure BKp (O O' : Nat → Prop) (h h' : H) : Prop where
  one : h'.one = []
  next : h.next ≤ h'.next
  keep : ∀ c, c < h.next → ¬ O c → h'.get c = h.get c
  new : ∀ c, O' c → O c ∨ h.next ≤ c
theorem BKp.trans {O O' O'' : Nat → Prop} {a b c : H} (x : BKp O O' a b) (y : BKp O' O'' b c) : BKp O O'' a c where
  one := y.one
  next := Nat.le_trans x.next y.next
  keep k hk hn := (y.keep k (Nat.lt_of_lt_of_le hk x.next) fun h => (x.new k h).elim hn fun q => by omega).trans (x.keep k hk hn)
  new k h := (y.new k h).elim (fun h => x.new k h) fun q => .inr (Nat.le_trans x.next q)
theorem BKp.of_fr {O : Nat → Prop} {h h' : H} (f : Fr h.next h h') : BKp O O h h' := ⟨f.one, f.next, fun c hc _ => f.get c hc, fun c h => .inl h⟩
theorem SlC.fr {ty : Option TypeId} {n B : Nat} {h h' : H} {v : Value} {cs : List Value} {len : Nat} (s : SlC ty n B h v cs len) (f : Fr h.next h h') : SlC ty n B h' v cs len := s.of_get f.next fun g _ hg => f.get g hg
theorem BMem.fr {bb : Nat} {h h' : H} {s : AB} {ad : List Nat} {vn vo : Value} (x : BMem bb h s ad vn vo) (f : Fr h.next h h') : BMem bb h' s ad vn vo where
  blk := (f.get _ x.bb).trans x.blk
  bb := Nat.lt_of_lt_of_le x.bb f.next
  sn := x.sn.fr f
  so := x.so.fr f
  ap := x.ap
  len := x.len
  nod i hi := ⟨Nat.lt_of_lt_of_le (x.nod i hi).1 f.next, (f.get _ (x.nod i hi).1).trans (x.nod i hi).2⟩
  inj := x.inj
  op := x.op
theorem BMem.lt {bb : Nat} {h : H} {s : AB} {ad : List Nat} {vn vo : Value} (x : BMem bb h s ad vn vo) {c : Nat} (hc : InB bb vn vo ad c) : c < h.next := by
  rcases hc with rfl | ⟨a, b, rfl⟩ | ⟨a, b, rfl⟩ | hc
  · exact x.bb
  · obtain ⟨g, cap, c', e, _, _, h4, _⟩ := x.sn; cases e; exact h4
  · obtain ⟨g, cap, c', e, _, _, h4, _⟩ := x.so; cases e; exact h4
  · obtain ⟨i, hi, rfl⟩ := List.getElem_of_mem hc
    have := (x.nod i hi).1
    simpa [List.getD, hi] using this
theorem BS.fr {bb : Nat} {h h' : H} {s : AB} {O : Nat → Prop} (x : BS bb h s O) (f : Fr h.next h h') : BS bb h' s O := by
  obtain ⟨ad, vn, vo, m, rfl⟩ := x
  exact ⟨ad, vn, vo, m.fr f, rfl⟩
/-- Blocks of other kinds are not the builder's. -/
theorem BMem.other {bb : Nat} {h : H} {s : AB} {ad : List Nat} {vn vo : Value} (x : BMem bb h s ad vn vo) {c : Nat} (hc : InB bb vn vo ad c) :
    (∃ f, h.get c = some (.cells [vn, vo, .int .i64 f] 0 true 0 none)) ∨ (∃ C, h.get c = some (.cells C 1 true 0 none)) ∨ ∃ y, h.get c = some (.cells (encN y) 0 true 0 (some 67)) := by
  rcases hc with rfl | ⟨a, b, rfl⟩ | ⟨a, b, rfl⟩ | hc
  · exact .inl ⟨_, x.blk⟩
  · obtain ⟨g, cap, c', e, _, _, _, h5, _⟩ := x.sn; cases e; exact .inr (.inl ⟨_, h5⟩)
  · obtain ⟨g, cap, c', e, _, _, _, h5, _⟩ := x.so; cases e; exact .inr (.inl ⟨_, h5⟩)
  · obtain ⟨i, hi, rfl⟩ := List.getElem_of_mem hc
    have := (x.nod i hi).2
    exact .inr (.inr ⟨_, by simpa [List.getD, hi] using this⟩)
theorem nd_app {l : List Nd} {x : Nd} {i : Nat} (h : i < l.length) : nd (l ++ [x]) i = nd l i := by simp [nd, List.getD, List.getElem?_append_left h]
theorem nd_last {l : List Nd} {x : Nd} : nd (l ++ [x]) l.length = x := by simp [nd, List.getD]
theorem getD_app {l : List Nat} {x i : Nat} (h : i < l.length) : (l ++ [x]).getD i 0 = l.getD i 0 := by simp [List.getD, List.getElem?_append_left h]
theorem getD_last {l : List Nat} {x : Nat} : (l ++ [x]).getD l.length 0 = x := by simp [List.getD]
theorem map_same {opn : List Nat} {ad : List Nat} {a : Nat} (h : ∀ i ∈ opn, i < ad.length) : (opn.map fun i => (ad ++ [a]).getD i 0) = opn.map fun i => ad.getD i 0 :=
  List.map_congr_left fun i hi => getD_app (h i hi)
theorem SlC.ne0 {ty : Option TypeId} {B len : Nat} {h : H} {v : Value} {cs : List Value} (s : SlC ty 1 B h v cs len) {c : Nat} {C : List Value} {o : Bool} {z : Nat} {t : Option TypeId} (hc : h.get c = some (.cells C 0 o z t)) : ∀ g x y, v = .slice (some ⟨g, 0, none⟩) x y → g ≠ c := by
  rintro g x y rfl rfl
  obtain ⟨g, cap, c', e, _, _, _, h5, _⟩ := s
  cases e
  rw [hc] at h5
  cases h5
theorem ptrs_app (l m : List Nat) : ptrs (l ++ m) = ptrs l ++ ptrs m := by simp [ptrs]
set_option maxRecDepth 100000 in
set_option maxHeartbeats 8000000 in
theorem add_sp (bb k : Nat) (a b : Int) (s : AB) (ad : List Nat) (vn vo : Value) (h : H) (h1 : h.one = []) (x : BMem bb h s ad vn vo) (hl : s.nodes.length < 2 ^ 40) (hlo : s.opn.length < 2 ^ 20) :
    CallW E0 X0 (.fn 49) [.pointer (some ⟨bb, 0, none⟩), .int .u8 k, .int .i64 a, .int .i64 b] h (fun r h' => r = .pointer (some ⟨h.next, 0, none⟩) ∧ ∃ vn', BMem bb h' ⟨s.nodes ++ [⟨k, a, b, s.opn.length⟩], s.opn, s.far⟩ (ad ++ [h.next]) vn' vo ∧ BKp (InB bb vn vo ad) (InB bb vn' vo (ad ++ [h.next])) h h') := by
  refine CallW.body efn49 rfl rfl rfl [] (by kernel_rfl) ?_
  have hso := x.so
  obtain ⟨go, co, Co, rfl, o2, o3, o4, o5, o6, o7⟩ := hso
  have hbb := x.bb
  have hbn : ¬ bb = h.next := by omega
  have hz : zerosD [.pointer none] 1 = [.pointer none] := rfl
  simp [Tryd.f49, h1, x.blk, hbn, hz, -appS_some]
  obtain ⟨h3, hh3⟩ : ∃ h3, h3 = (h.nw (.cells [.int .u8 k, .int .i64 a, .int .i64 b, .int .i64 s.opn.length] 0 true 0 (some 67))).nw (.cells [.pointer (some ⟨h.next, 0, none⟩)] 1 true 0 none) := ⟨_, rfl⟩
  rw [← hh3]
  have n3 : h3.next = h.next + 2 := by rw [hh3]; rfl
  have o3' : h3.one = [] := by rw [hh3]; simp [h1]
  have g3 : ∀ c, c < h.next → h3.get c = h.get c := by
    intro c hc
    rw [hh3]; simp [show ¬ c = h.next + 1 by omega, show ¬ c = h.next by omega]
  have g3n : h3.get h.next = some (.cells (encN ⟨k, a, b, s.opn.length⟩) 0 true 0 (some 67)) := by rw [hh3]; simp [encN]
  clear hh3
  refine SlC.app (B := 0) (cs := ptrs ad) (x.sn.of_get (by omega) fun g _ hg => g3 g hg) o3' (by omega) (by simp) (by simp) (by simp) (by rfl) (by have := x.len; omega) (by simp) (.inl rfl) ?_
  intro v' h4 q1 q2 q3 q4 q5
  have nb : ∀ g x y, vn = .slice (some ⟨g, 0, none⟩) x y → g ≠ bb := x.sn.ne0 x.blk
  have bb4 : h4.get bb = some (.cells [vn, .slice (some ⟨go, 0, none⟩) s.opn.length co, .int .i64 s.far] 0 true 0 none) := (q4 bb (by omega) nb).trans ((g3 bb hbb).trans x.blk)
  have q1' := q1
  obtain ⟨gv, cv, Cv, rfl, p2, p3, p4, p5, p6, p7⟩ := q1'
  simp [bb4, q2.one]
  have n4 := q2.next
  have vlt : ∀ g x' y', vn = .slice (some ⟨g, 0, none⟩) x' y' → g < h.next := by
    rintro g x' y' rfl
    exact x.lt (.inr (.inl ⟨_, _, rfl⟩))
  have hbg : go ≠ bb := x.so.ne0 x.blk go _ _ rfl
  have nod4 : ∀ i, i < ad.length → h4.get (ad.getD i 0) = some (.cells (encN (nd s.nodes i)) 0 true 0 (some 67)) := fun i hi =>
    (q4 _ (by have := (x.nod i hi).1; omega) (x.sn.ne0 (x.nod i hi).2)).trans ((g3 _ (x.nod i hi).1).trans (x.nod i hi).2)
  have new4 : h4.get h.next = some (.cells (encN ⟨k, a, b, s.opn.length⟩) 0 true 0 (some 67)) := (q4 _ (by omega) fun g x' y' e e2 => by have := vlt g x' y' e; omega).trans g3n
  have nbad : ∀ i, i < ad.length → ¬ ad.getD i 0 = bb := fun i hi e => by
    have e1 := (x.nod i hi).2
    rw [e, x.blk] at e1
    cases e1
  have gvb : gv ≠ bb := q1.ne0 bb4 gv _ _ rfl
  have gvo : gv ≠ go := by
    rintro rfl
    rcases q5 _ _ _ rfl with ⟨x1, x2, e⟩ | e
    · exact x.ap _ _ _ _ _ e rfl
    · omega
  refine ⟨_, ⟨by rw [H.get_put, if_pos rfl], by show bb < h4.next; omega, ?_, ?_, ?_, by simp [x.len], ?_, ?_, ?_⟩, ?_⟩
  · rw [ptrs_app, List.length_append]
    exact ⟨gv, cv, Cv, rfl, p2, p3, p4, by rw [H.get_put, if_neg gvb]; exact p5, p6, p7⟩
  · simp only
    rw [map_same x.op]
    refine ⟨go, co, Co, rfl, o2, o3, by show go < h4.next; omega, ?_, o6, o7⟩
    rw [H.get_put, if_neg hbg, q4 go (by omega) (fun g y1 y2 e e2 => x.ap _ _ _ _ _ (e2 ▸ e) rfl), g3 go o4]
    exact o5
  · rintro g y1 y2 y3 y4 e e2
    cases e
    cases e2
    exact gvo rfl
  · intro i hi
    rw [List.length_append, List.length_singleton] at hi
    by_cases hi2 : i < ad.length
    · rw [getD_app hi2, nd_app (by rw [← x.len]; exact hi2), H.get_put, if_neg (nbad i hi2)]
      exact ⟨by have := (x.nod i hi2).1; show _ < h4.next; omega, nod4 i hi2⟩
    · have hi3 : i = ad.length := by omega
      rw [hi3, getD_last, x.len, nd_last, H.get_put, if_neg (by omega)]
      exact ⟨by show _ < h4.next; omega, new4⟩
  · refine List.nodup_append.2 ⟨x.inj, by simp, ?_⟩
    rintro c hc d hd rfl
    rw [List.mem_singleton] at hd
    have := x.lt (.inr (.inr (.inr hc)))
    omega
  · intro i hi
    have := x.op i hi
    simp
    omega
  · refine ⟨by show h4.one = []; exact q2.one, by show h.next ≤ h4.next; omega, ?_, ?_⟩
    · intro c hc hn
      rw [H.get_put, if_neg fun e => hn (.inl e)]
      exact (q4 c (by omega) fun g y1 y2 e e2 => hn (.inr (.inl ⟨y1, y2, e2 ▸ e⟩))).trans (g3 c hc)
    · rintro c (e | ⟨y1, y2, e⟩ | ⟨y1, y2, e⟩ | e)
      · exact .inl (.inl e)
      · rcases q5 _ _ _ e with ⟨z1, z2, e2⟩ | e2
        · exact .inl (.inr (.inl ⟨z1, z2, e2⟩))
        · exact .inr (by omega)
      · exact .inl (.inr (.inr (.inl ⟨y1, y2, e⟩)))
      · rw [List.mem_append, List.mem_singleton] at e
        rcases e with e | e
        · exact .inl (.inr (.inr (.inr e)))
        · exact .inr (by omega)
end Go.Dm
