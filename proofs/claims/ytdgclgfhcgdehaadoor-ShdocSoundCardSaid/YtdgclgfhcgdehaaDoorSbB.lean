/- A builder opens a node, closes one, adds a leaf. -/
import Derived.Test.YtdgclgfhcgdehaaDoorSbA
set_option linter.unusedVariables false
set_option linter.unusedSimpArgs false
namespace Go.Dm
open Go.Proofs
/-- A builder's state, and the next one's. -/
def BTo (bb : Nat) (O : Nat → Prop) (h : H) (s' : AB) (h' : H) : Prop := ∃ O', BS bb h' s' O' ∧ BKp O O' h h'
theorem zp1 : zerosD [.pointer none] 1 = [.pointer none] := rfl
set_option maxRecDepth 100000 in
set_option maxHeartbeats 8000000 in
theorem begin_sp (bb op k : Nat) (a t : Int) (s : AB) (O : Nat → Prop) (h : H) (h1 : h.one = []) (x : BS bb h s O) (hl : s.nodes.length < 2 ^ 40) (hlo : s.opn.length < 2 ^ 20) :
    CallW E0 X0 (.fn 38) [.pointer (some ⟨bb, 0, none⟩), .agg #[.int .u8 op, .int .u8 k, .int .i64 a, .int .i64 t]] h (fun r h' => BTo bb O h ⟨s.nodes ++ [⟨k, a, 0, s.opn.length⟩], s.opn ++ [s.nodes.length], a⟩ h') := by
  refine CallW.body efn38 rfl rfl rfl [1] (by kernel_rfl) ?_
  obtain ⟨ad, vn, vo, x, rfl⟩ := x
  have hbb := x.bb
  have hbn : ¬ bb = h.next := by omega
  obtain ⟨h2, hh2⟩ : ∃ h2, h2 = h.nw (.cells [.int .u8 op, .int .u8 k, .int .i64 a, .int .i64 t] 0 true 0 none) := ⟨_, rfl⟩
  have n2 : h2.next = h.next + 1 := by rw [hh2]; rfl
  have o2 : h2.one = [] := by rw [hh2]; simp [h1]
  have f2 : Fr h.next h h2 := by rw [hh2]; exact (Fr.refl h1).nw (Nat.le_refl _) _
  have e2 : h2.get h.next = some (.cells [.int .u8 op, .int .u8 k, .int .i64 a, .int .i64 t] 0 true 0 none) := by rw [hh2]; simp
  have x2 := x.fr f2
  have c1 := add_sp bb k a 0 s ad vn vo h2 o2 x2 hl hlo
  simp [-wpd_seq, Tryd.f38, h1]
  (repeat rw [wpd_seq]); simp [-wpd_seq, h1]
  rw [← hh2]
  (repeat rw [wpd_seq]); simp [-wpd_seq, o2]
  have hb2 : ¬ bb = h.next := hbn
  obtain ⟨go, co, Co, rfl, p2, p3, p4, p5, p6, p7⟩ := x.so
  have go2 := (f2.get _ p4).trans p5
  have e2b := x2.blk
  have main : ∀ {K : VPost}, (∀ vn' h3, h3.one = [] → BMem bb h3 ⟨s.nodes ++ [⟨k, a, 0, s.opn.length⟩], s.opn, s.far⟩ (ad ++ [h2.next]) vn' (.slice (some ⟨go, 0, none⟩) s.opn.length co) → BKp (InB bb vn (.slice (some ⟨go, 0, none⟩) s.opn.length co) ad) (InB bb vn' (.slice (some ⟨go, 0, none⟩) s.opn.length co) (ad ++ [h2.next])) h2 h3 → h3.get h.next = some (.cells [.int .u8 op, .int .u8 k, .int .i64 a, .int .i64 t] 0 true 0 none) → K (.pointer (some ⟨h2.next, 0, none⟩)) h3) → CallW E0 X0 (.fn 49) [.pointer (some ⟨bb, 0, none⟩), .int .u8 k, .int .i64 a, .int .i64 0] h2 K := fun kk =>
    c1.mono fun r h3 ⟨e, vn', m, b⟩ => by subst e; exact kk vn' h3 b.one m b (by rw [b.keep _ (by omega) fun hc => by have := x.lt hc; omega]; exact e2)
  refine ⟨laxW_of [(4, 12)] (by kernel_rfl) ?_, ?_⟩
  · simp [LaxP, o2, e2, e2b]
    refine main ?_
    intro vn' h3 o3 x3 b3 e3
    have hb3 : ¬ bb = h3.next := by have := x3.bb; omega
    simp [o3, e2, e3, e2b, x3.blk, LaxG_load, zp1, hb3]
  · simp [o2, e2, e2b, -appS_some]
    refine main ?_
    intro vn' h3 o3 x3 b3 e3
    have hb3 : ¬ bb = h3.next := by have := x3.bb; omega
    have n23 := b3.next
    simp [o3, e2, e3, e2b, x3.blk, zp1, hb3, -appS_some]
    obtain ⟨h4, hh4⟩ : ∃ h4, h4 = h3.nw (.cells [.pointer (some ⟨h2.next, 0, none⟩)] 1 true 0 none) := ⟨_, rfl⟩
    rw [← hh4]
    have n4 : h4.next = h3.next + 1 := by rw [hh4]; rfl
    have f4 : Fr h3.next h3 h4 := by rw [hh4]; exact (Fr.refl o3).nw (Nat.le_refl _) _
    clear hh4
    have x4 := x3.fr f4
    have e4 := (f4.get _ (by omega)).trans e3
    refine SlC.app (B := 0) x4.so f4.one (by omega) (by simp) (by simp) (by simp) (by rfl) (by simp only; omega) (by simp) (.inl rfl) ?_
    intro v5 h5 q1 q2 q3 q4 q5
    have n5 := q2.next
    have x4bb := x4.bb
    have hb5 : h5.get bb = some (.cells [vn', .slice (some ⟨go, 0, none⟩) s.opn.length co, .int .i64 s.far] 0 true 0 none) := (q4 bb x4.bb (x4.so.ne0 x4.blk)).trans x4.blk
    have q1' := q1
    obtain ⟨gv, cv, Cv, rfl, r2, r3, r4, r5, r6, r7⟩ := q1'
    have gvb : gv ≠ bb := q1.ne0 hb5 gv _ _ rfl
    have e5 : h5.get h.next = some (.cells [.int .u8 op, .int .u8 k, .int .i64 a, .int .i64 t] 0 true 0 none) := (q4 _ (by omega) (x4.so.ne0 e4)).trans e4
    have hbn2 : ¬ h.next = bb := fun e => hbn e.symm
    simp [hb5, q2.one, e5, hbn, hbn2]
    have gkeep : ∀ c, c < h4.next → c ≠ go → h5.get c = h4.get c := fun c hc hn => q4 c hc fun g y1 y2 e e2 => hn (by cases e; exact e2.symm)
    have adbb : ∀ i, i < (ad ++ [h2.next]).length → ¬ (ad ++ [h2.next]).getD i 0 = bb := fun i hi e => by
      have e1 := (x4.nod i hi).2
      rw [e, x4.blk] at e1
      cases e1
    have hN : (ad ++ [h2.next]).length = s.nodes.length + 1 := by rw [x4.len]; simp
    have hN2 : ad.length = s.nodes.length := x.len
    refine ⟨_, ⟨ad ++ [h2.next], vn', .slice (some ⟨gv, 0, none⟩) (s.opn.length + 1) cv, ⟨by rw [H.get_put, if_pos rfl], by show bb < h5.next; omega, ?_, ?_, ?_, x4.len, ?_, x4.inj, ?_⟩, rfl⟩, ?_⟩
    · obtain ⟨g, cap, c, rfl, s2, s3, s4, s5, s6, s7⟩ := x4.sn
      have t1 : g ≠ bb := x4.sn.ne0 x4.blk g _ _ rfl
      exact ⟨g, cap, c, rfl, s2, s3, by show g < h5.next; omega, by rw [H.get_put, if_neg t1, H.get_put, if_neg t1, gkeep g s4 (by rintro rfl; exact x4.ap _ _ _ _ _ rfl rfl)]; exact s5, s6, s7⟩
    · refine ⟨gv, cv, Cv, by simp, by simpa using r2, r3, r4, by rw [H.get_put, if_neg gvb, H.get_put, if_neg gvb]; exact r5, r6, ?_⟩
      simp only [List.length_append, List.length_singleton, List.map_append, List.map_cons, List.map_nil, ptrs_app]
      rw [r7, ← hN2, getD_last]
      rfl
    · rintro g y1 y2 y3 y4 e e2
      cases e2
      subst e
      rcases q5 _ _ _ rfl with ⟨x1, x2, e⟩ | e
      · exact x4.ap _ _ _ _ _ rfl e
      · have := x4.lt (.inr (.inl ⟨y1, y2, rfl⟩))
        omega
    · intro i hi
      rw [H.get_put, if_neg (adbb i hi), H.get_put, if_neg (adbb i hi)]
      have t := x4.nod i hi
      exact ⟨by show _ < h5.next; omega, (q4 _ t.1 (x4.so.ne0 t.2)).trans t.2⟩
    · intro i hi
      rw [List.mem_append, List.mem_singleton] at hi
      rcases hi with hi | hi
      · exact x4.op i hi
      · rw [hN]; omega
    · have b4 : BKp (InB bb vn' (.slice (some ⟨go, 0, none⟩) s.opn.length co) (ad ++ [h2.next])) (InB bb vn' (.slice (some ⟨gv, 0, none⟩) (s.opn.length + 1) cv) (ad ++ [h2.next])) h3 ((h5.put bb (.cells [vn', .slice (some ⟨gv, 0, none⟩) (s.opn.length + 1) cv, .int .i64 s.far] 0 true 0 none)).put bb (.cells [vn', .slice (some ⟨gv, 0, none⟩) (s.opn.length + 1) cv, .int .i64 a] 0 true 0 none)) := by
        refine ⟨q2.one, by show h3.next ≤ h5.next; omega, ?_, ?_⟩
        · intro c hc hn
          have t : c ≠ bb := fun e => hn (.inl e)
          rw [H.get_put, if_neg t, H.get_put, if_neg t, gkeep c (by omega) (by rintro rfl; exact hn (.inr (.inr (.inl ⟨_, _, rfl⟩))))]
          exact f4.get c hc
        · rintro c (e | ⟨y1, y2, e⟩ | ⟨y1, y2, e⟩ | e)
          · exact .inl (.inl e)
          · exact .inl (.inr (.inl ⟨y1, y2, e⟩))
          · cases e
            rcases q5 _ _ _ rfl with ⟨x1, x2, e⟩ | e
            · exact .inl (.inr (.inr (.inl ⟨x1, x2, e⟩)))
            · exact .inr (by omega)
          · exact .inl (.inr (.inr (.inr e)))
      exact ((BKp.of_fr f2).trans b3).trans b4
end Go.Dm
