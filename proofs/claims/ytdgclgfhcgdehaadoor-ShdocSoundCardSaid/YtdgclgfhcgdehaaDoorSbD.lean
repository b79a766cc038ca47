/- A builder tells whether events are sound. -/
import Derived.Test.YtdgclgfhcgdehaaDoorSbC
set_option linter.unusedVariables false
set_option linter.unusedSimpArgs false
namespace Go.Dm
open Go.Proofs
/-- Events that are read. -/
def RdE (h : H) (v : Value) (l : List ShE) : Prop := (v = .slice none 0 0 ∧ l = []) ∨ ∃ b cap own fz ty, v = .slice (some ⟨b, 0, none⟩) l.length cap ∧ h.get b = some (.cells (encEs l) 4 own fz ty) ∧ b < h.next
theorem RdE.of {B : Nat} {h : H} {v : Value} {l : List ShE} (s : SlG none 4 B h v (encEs l) l.length) : RdE h v l := by
  rcases s with ⟨a, b, c⟩ | ⟨a, b, g, c, d, e, f⟩
  · exact .inl ⟨b, List.eq_nil_of_length_eq_zero a⟩
  · exact .inr ⟨g, _, _, _, _, e, f, d⟩
theorem RdE.fr {h h' : H} {v : Value} {l : List ShE} (r : RdE h v l) (f : Fr h.next h h') : RdE h' v l := by
  rcases r with r | ⟨b, cap, own, fz, ty, a1, a2, a3⟩
  · exact .inl r
  · exact .inr ⟨b, cap, own, fz, ty, a1, (f.get _ a3).trans a2, Nat.lt_of_lt_of_le a3 f.next⟩
theorem RdE.bk {bb : Nat} {O O' : Nat → Prop} {s : AB} {h h' : H} {v : Value} {l : List ShE} (r : RdE h v l) (x : BS bb h s O) (f : BKp O O' h h') : RdE h' v l := by
  rcases r with r | ⟨b, cap, own, fz, ty, a1, a2, a3⟩
  · exact .inl r
  · refine .inr ⟨b, cap, own, fz, ty, a1, (f.keep _ a3 ?_).trans a2, Nat.lt_of_lt_of_le a3 f.next⟩
    obtain ⟨ad, vn, vo, x, rfl⟩ := x
    intro hb
    rcases x.other hb with ⟨_, e⟩ | ⟨_, e⟩ | ⟨_, e⟩ <;> · rw [a2] at e; simp at e
theorem RdE.sl {h : H} {v : Value} {l : List ShE} (r : RdE h v l) : ∃ a cap, v = .slice a l.length cap := by
  rcases r with ⟨rfl, rfl⟩ | ⟨b, cap, own, fz, ty, rfl, _⟩
  · exact ⟨none, 0, rfl⟩
  · exact ⟨_, _, rfl⟩
set_option maxRecDepth 100000 in
set_option maxHeartbeats 8000000 in
theorem come_sp (x pa pf : Nat) (b f : Int) (h : H) (h1 : h.one = []) (hb0 : 0 ≤ b) (hb : b ≤ 1048576) (hf : 0 ≤ f) (hf2 : f ≤ 2097152) (ea : h.get pa = some (.cells [.int .i64 b] 0 true 0 none)) (ef : h.get pf = some (.cells [.int .i64 f] 0 true 0 none)) (hx : x < 2 ^ 62) :
    CallW E0 X0 (.fn 37) [.int .i64 x, .pointer (some ⟨pa, 0, none⟩), .pointer (some ⟨pf, 0, none⟩)] h (fun r h' => r = .bool (comeB b f x) ∧ h' = if comeB b f x then h.put pf (.cells [.int .i64 (b + x)] 0 true 0 none) else h) := by
  refine CallW.body efn37 rfl rfl rfl [] (by kernel_rfl) ?_
  have w1 : IntKind.i64.wrap (1048576 - b) = 1048576 - b := wrap_i64 (by omega) (by omega)
  have hx0 : ¬ ((x : Int) < 0) := by omega
  by_cases h2 : (x : Int) > 1048576 - b
  · have hc : comeB b f x = false := by unfold comeB; simp; omega
    have h2' : 1048576 - b < (x : Int) := h2
    simp [Tryd.f37, h1, ea, ef, w1, hx0, h2', hc]
  · have h2' : ¬ (1048576 - b < (x : Int)) := h2
    have w2 : IntKind.i64.wrap (b + x) = b + x := wrap_i64 (by omega) (by omega)
    by_cases h3 : b + x < f
    · have hc : comeB b f x = false := by unfold comeB; simp; omega
      simp [Tryd.f37, h1, ea, ef, w1, w2, hx0, h2', h3, hc]
    · have hc : comeB b f x = true := by unfold comeB; simp; omega
      simp [Tryd.f37, h1, ea, ef, w1, w2, hx0, h2', h3, hc]
set_option maxRecDepth 100000 in
set_option maxHeartbeats 8000000 in
theorem sound_sp (bb : Nat) (b : Int) (l : List ShE) (v : Value) (s : AB) (O : Nat → Prop) (h : H) (h1 : h.one = []) (x : BS bb h s O) (hr : RdE h v l) (hl : l.length < 2 ^ 40) (hb0 : 0 ≤ b) (hb : b ≤ 1048576) (hf : 0 ≤ s.far) (hf2 : s.far ≤ 2097152) (hlo : s.opn.length < 2 ^ 20) (y : Int × Int)
    (hs : sndR b l (s.far, (s.opn.length : Int) - 1) = some y) (hx : ∀ e ∈ l, e.at_ < 2 ^ 62 ∧ e.to < 2 ^ 62) :
    CallW E0 X0 (.fn 29) [.pointer (some ⟨bb, 0, none⟩), v, .int .i64 b] h (fun r h' => r = .int .i64 0 ∧ Fr h.next h h') := by
  refine CallW.body efn29 rfl rfl rfl [1] (by kernel_rfl) ?_
  obtain ⟨ad, vn, vo, x, rfl⟩ := x
  have hbb := x.bb
  have hbn : ¬ bb = h.next := by omega
  have hbn2 : ¬ bb = h.next + 1 := by omega
  obtain ⟨go, co, Co, rfl, p2, p3, p4, p5, p6, p7⟩ := x.so
  obtain ⟨gn, cn, Cn, rfl, _⟩ := x.sn
  have c1 := x.blk
  obtain ⟨av, cap, hv⟩ := hr.sl
  have w1 : IntKind.i64.wrap ((s.opn.length : Int) - 1) = (s.opn.length : Int) - 1 := wrap_i64 (by omega) (by omega)
  simp [-wpd_seq, Tryd.f29, h1]
  (repeat rw [wpd_seq]); simp [-wpd_seq, h1]
  (repeat rw [wpd_seq]); simp [-wpd_seq, h1, c1, hbn, hbn2, w1]
  obtain ⟨h2, hh2⟩ : ∃ h2, h2 = h.nw (.cells [.int .i64 b] 0 true 0 none) := ⟨_, rfl⟩
  rw [← hh2]
  have n2 : h2.next = h.next + 1 := by rw [hh2]; rfl
  have o2 : h2.one = [] := by rw [hh2]; simp [h1]
  have f2 : Fr h.next h h2 := by rw [hh2]; exact (Fr.refl h1).nw (Nat.le_refl _) _
  have e2 : h2.get h.next = some (.cells [.int .i64 b] 0 true 0 none) := by rw [hh2]; simp
  have c2 := (f2.get bb hbb).trans c1
  have hbn3 : ¬ bb = h2.next := by omega
  refine ⟨laxW_of [(7, 13)] (by kernel_rfl) ?_, ?_⟩
  · simp [LaxP, o2, c2, w1, hbn3, LaxG_load]
  (repeat rw [wpd_seq]); simp [-wpd_seq, o2, c2, w1, hbn3]
  obtain ⟨h3, hh3⟩ : ∃ h3, h3 = (h2.nw (.cells [.int .i64 0] 0 true 0 none)).put (h.next + 1) (.cells [.int .i64 s.far] 0 true 0 none) := ⟨_, rfl⟩
  rw [← hh3]
  have n3 : h3.next = h.next + 2 := by rw [hh3]; show h2.next + 1 = _; omega
  have f3 : Fr h.next h h3 := by rw [hh3]; exact (f2.nw (by omega) _).put (by omega) _
  have e3 : h3.get h.next = some (.cells [.int .i64 b] 0 true 0 none) := by rw [hh3]; simp [n2, e2]
  have g3 : h3.get (h.next + 1) = some (.cells [.int .i64 s.far] 0 true 0 none) := by rw [hh3]; simp
  have o3 := f3.one
  clear hh3 hh2
  subst hv
  (repeat rw [wpd_seq]); simp [-wpd_seq, o3]
  refine wpd_loop (fun (q : Nat × (Int × Int)) fr h' => q.1 ≤ l.length ∧ fr.get 25 = some (.int .i64 q.1) ∧ fr.get 8 = some (.int .i64 q.2.2) ∧ h'.get (h.next + 1) = some (.cells [.int .i64 q.2.1] 0 true 0 none) ∧ h'.get h.next = some (.cells [.int .i64 b] 0 true 0 none) ∧ sndR b (l.drop q.1) q.2 = some y ∧ Fr h.next h h' ∧ h.next + 2 ≤ h'.next ∧ 0 ≤ q.2.1 ∧ q.2.1 ≤ 2097152 ∧ -1 ≤ q.2.2 ∧ q.2.2 < 2 ^ 20) (fun q => l.length - q.1) (0, (s.far, (s.opn.length : Int) - 1)) ?_ ?_
  · exact ⟨Nat.zero_le _, by simp, by simp, g3, e3, by simpa using hs, f3, by omega, hf, hf2, by simp only; omega, by simp only; omega⟩
  clear f3 e3 g3 o3 h3 n3
  rintro ⟨k, f, o⟩ fr h3 ⟨hk, i25, i8, g3, e3, hsr, f3, n3, hf0, hf1, ho0, ho1⟩ hfe
  have g23 := hfe 23 rfl
  have g24 := hfe 24 rfl
  have g9 := hfe 9 rfl
  have g7 := hfe 7 rfl
  have g5 := hfe 5 rfl
  simp at g23 g24 g9 g7 g5 hk i25 i8 g3 e3 hsr hf0 hf1 ho0 ho1
  clear hfe
  have o3 := f3.one
  by_cases hkl : k < l.length
  · have hkl' : (k : Int) < l.length := by omega
    obtain ⟨eb, cap', own, fz, ty, e, hb1, hb2⟩ := (hr.fr f3).resolve_left (by rintro ⟨_, rfl⟩; simp at hkl)
    simp at e
    obtain ⟨rfl, rfl⟩ := e
    have q1 := encEs_mid l hkl
    have l1 := encEs_len l
    have b1 : k * 4 + 4 ≤ (encEs l).length := by omega
    have hw1 := wrap_succ (show k < 9223372036854775807 by omega)
    rw [List.drop_eq_getElem_cons hkl] at hsr
    have hxe := hx _ (List.getElem_mem hkl)
    generalize l[k] = e at *
    simp only [sndR] at hsr
    obtain ⟨yy, hyy⟩ : ∃ yy, snd1 b f o e = some yy := by
      cases hq : snd1 b f o e with
      | none => rw [hq] at hsr; cases hsr
      | some yy => exact ⟨yy, rfl⟩
    rw [hyy] at hsr
    simp only at hsr
    obtain ⟨eo, ek, ea, et⟩ := e
    simp only [encE] at q1
    have hxa : ea < 2 ^ 62 := hxe.1
    have hxt : et < 2 ^ 62 := hxe.2
    have hen : ¬ eb = h3.next := by omega
    obtain ⟨h4, hh4⟩ : ∃ h4, h4 = (h3.nw (.cells [.int .u8 0, .int .u8 0, .int .i64 0, .int .i64 0] 0 true 0 none)).put h3.next (.cells [.int .u8 eo, .int .u8 ek, .int .i64 ea, .int .i64 et] 0 true 0 none) := ⟨_, rfl⟩
    have n4 : h4.next = h3.next + 1 := by rw [hh4]; rfl
    have f4 : Fr h3.next h3 h4 := by rw [hh4]; exact ((Fr.refl o3).nw (Nat.le_refl _) _).put (Nat.le_refl _) _
    have e4 : h4.get h3.next = some (.cells [.int .u8 eo, .int .u8 ek, .int .i64 ea, .int .i64 et] 0 true 0 none) := by rw [hh4]; simp
    have ea4 := (f4.get h.next (by omega)).trans e3
    have ef4 := (f4.get (h.next + 1) (by omega)).trans g3
    have o4 := f4.one
    have w3 : ¬ h3.next = h.next + 1 := by omega
    iterate 3 ((repeat rw [wpd_seq]); simp [-wpd_seq, o3, i25, g24, g23, hkl, hkl', hb1, b1, q1, hen])
    iterate 1 ((repeat rw [wpd_seq]); simp [-wpd_seq, o3, i25, g24, g23, hkl, hkl', hb1, b1, q1, hen])
    rw [← hh4]
    clear hh4
    have come1 := come_sp ea h.next (h.next + 1) b f h4 o4 hb0 hb hf0 hf1 ea4 ef4 hxa
    have hfr : Fr h.next h h4 := f3.trans (f4.mono (by omega))
    have cb : ∀ {f x}, comeB b f (x : Nat) = true → (x : Int) ≤ 1048576 - b ∧ f ≤ b + x := fun h => by unfold comeB at h; simpa using h
    unfold snd1 at hyy
    simp only at hyy
    by_cases he1 : eo = 1
    · subst he1
      rw [if_pos rfl] at hyy
      split at hyy
      · rename_i hq
        obtain ⟨rfl, _, hc⟩ := hq
        cases hyy
        have hcb := cb hc
        rw [hc] at come1
        iterate 2 ((repeat rw [wpd_seq]); simp [-wpd_seq, o4, e4, g9])
        refine come1.mono ?_
        rintro _ h5 ⟨rfl, rfl⟩
        rw [if_pos rfl]
        simp [o4, e4, w3, i8, i25, hw1, show IntKind.i64.wrap 1 = 1 from rfl]
        exact ⟨k + 1, by omega, by omega, rfl, ea4, hsr, hfr.put (by omega) _, by omega, by omega, by omega⟩
      · cases hyy
    rw [if_neg he1] at hyy
    by_cases he2 : eo = 2
    · subst he2
      rw [if_pos rfl] at hyy
      split at hyy
      · rename_i hq
        obtain ⟨rfl, rfl, _, hc⟩ := hq
        cases hyy
        have hcb := cb hc
        rw [hc] at come1
        iterate 2 ((repeat rw [wpd_seq]); simp [-wpd_seq, o4, e4, g9])
        refine come1.mono ?_
        rintro _ h5 ⟨rfl, rfl⟩
        rw [if_pos rfl]
        simp [o4, e4, w3, i8, i25, hw1, show IntKind.i64.wrap 0 = 0 from rfl]
        exact ⟨k + 1, by omega, by omega, rfl, ea4, hsr, hfr.put (by omega) _, by omega, by omega, by omega⟩
      · cases hyy
    rw [if_neg he2] at hyy
    by_cases he3 : eo = 3
    · subst he3
      rw [if_pos rfl] at hyy
      split at hyy
      · rename_i hq
        obtain ⟨hc, hc2⟩ := hq
        cases hyy
        have hcb := cb hc
        have hcb2 := cb hc2
        rw [hc] at come1
        iterate 2 ((repeat rw [wpd_seq]); simp [-wpd_seq, o4, e4, g9])
        refine come1.mono ?_
        rintro _ h5 ⟨rfl, rfl⟩
        rw [if_pos rfl]
        obtain ⟨h5, hh5⟩ : ∃ h5, h5 = h4.put (h.next + 1) (.cells [.int .i64 (b + ea)] 0 true 0 none) := ⟨_, rfl⟩
        rw [← hh5]
        have n5 : h5.next = h4.next := by rw [hh5]; rfl
        have o5 : h5.one = [] := by rw [hh5]; exact o4
        have e5 : h5.get h3.next = some (.cells [.int .u8 3, .int .u8 ek, .int .i64 ea, .int .i64 et] 0 true 0 none) := by rw [hh5, H.get_put, if_neg w3]; exact e4
        have ea5 : h5.get h.next = some (.cells [.int .i64 b] 0 true 0 none) := by rw [hh5]; simp [ea4]
        have ef5 : h5.get (h.next + 1) = some (.cells [.int .i64 (b + ea)] 0 true 0 none) := by rw [hh5]; simp
        have f5 : Fr h.next h h5 := by rw [hh5]; exact hfr.put (by omega) _
        clear hh5
        have come2 := come_sp et h.next (h.next + 1) b (b + ea) h5 o5 hb0 hb (by omega) (by omega) ea5 ef5 hxt
        rw [hc2] at come2
        simp [o5, e5, g9]
        refine come2.mono ?_
        rintro _ h6 ⟨rfl, rfl⟩
        rw [if_pos rfl]
        simp [o5, e5, w3, i8, i25, hw1]
        exact ⟨k + 1, by omega, by omega, rfl, ea5, hsr, f5.put (by omega) _, by omega, by omega, by omega, by omega, by omega⟩
      · cases hyy
    · rw [if_neg he3] at hyy
      cases hyy
  · have hkl' : ¬ (k : Int) < l.length := by omega
    simp [i25, g24, g23, hkl', o3]
    exact f3
end Go.Dm
