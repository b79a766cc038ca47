/- A builder takes events that are sound. -/
import Derived.Test.YtdgclgfhcgdehaaDoorSbD
set_option linter.unusedVariables false
set_option linter.unusedSimpArgs false
namespace Go.Dm
open Go.Proofs
@[simp] theorem bptr_nil (k : Nat) (a : Addr) : binD E0 .eql 43 (.tmp k) (.const (.pointer none)) (.pointer (some a)) (.pointer none) = some (.bool false) := by
  simp [binD, eqTopD]
  rfl
def doE : List MapEntry := [⟨.int .u8 1, .func (.func 38) #[] #[], 0⟩, ⟨.int .u8 2, .func (.func 39) #[] #[], 1⟩, ⟨.int .u8 3, .func (.func 40) #[] #[], 2⟩]
set_option maxRecDepth 100000 in
set_option maxHeartbeats 8000000 in
theorem doings_sp (h : H) (h1 : h.one = []) :
    CallW E0 X0 (.fn 30) [] h (fun r h' => r = .map (some h.next) ∧ h'.get h.next = some (.map doE 3) ∧ Fr h.next h h' ∧ h'.next = h.next + 1) := by
  refine CallW.body efn30 rfl rfl rfl [] (by kernel_rfl) ?_
  simp [Tryd.f30, h1]
  refine ⟨rfl, ⟨by simp, by simp, fun c hc => ?_⟩⟩
  simp [show ¬ c = h.next by omega]
theorem BS.nmap {bb : Nat} {h : H} {s : AB} {O : Nat → Prop} (x : BS bb h s O) {c : Nat} {m : List MapEntry} {n : Nat} (hc : h.get c = some (.map m n)) : ¬ O c := by
  obtain ⟨ad, vn, vo, x, rfl⟩ := x
  intro hb
  rcases x.other hb with ⟨_, e⟩ | ⟨_, e⟩ | ⟨_, e⟩ <;> · rw [hc] at e; simp at e
theorem BS.lt {bb : Nat} {h : H} {s : AB} {O : Nat → Prop} (x : BS bb h s O) {c : Nat} (hc : O c) : c < h.next := by
  obtain ⟨ad, vn, vo, x, rfl⟩ := x
  exact x.lt hc
/-- What a sound event does to how far it came and what is open. -/
theorem step_snd {b f o : Int} {e : ShE} {y : Int × Int} {s : AB} (hf : f = s.far) (ho : o = (s.opn.length : Int) - 1) (h : snd1 b f o e = some y) :
    y.1 = (stepB b s e).far ∧ y.2 = ((stepB b s e).opn.length : Int) - 1 ∧ (e.op = 1 ∨ e.op = 2 ∧ s.opn ≠ [] ∨ e.op = 3) ∧ (e.at_ : Int) ≤ 1048576 - b ∧ (e.op = 3 → (e.to : Int) ≤ 1048576 - b) ∧ (stepB b s e).opn.length ≤ max 2 s.opn.length ∧ (stepB b s e).nodes.length ≤ s.nodes.length + 1 := by
  subst hf ho
  obtain ⟨op, k, a, t⟩ := e
  unfold snd1 at h
  unfold stepB endB
  simp only at h ⊢
  by_cases h1 : op = 1
  · rw [if_pos h1] at h ⊢
    split at h
    · rename_i hq
      cases h
      obtain ⟨q1, _, q2⟩ := hq
      unfold comeB at q2
      simp at q2 ⊢
      omega
    · cases h
  rw [if_neg h1] at h ⊢
  by_cases h2 : op = 2
  · rw [if_pos h2] at h ⊢
    split at h
    · rename_i hq
      cases h
      obtain ⟨q1, q3, _, q2⟩ := hq
      have : s.opn ≠ [] := by intro e; rw [e] at q1; simp at q1
      unfold comeB at q2
      simp [this] at q2 ⊢
      omega
    · cases h
  rw [if_neg h2] at h ⊢
  by_cases h3 : op = 3
  · rw [if_pos h3] at h
    split at h
    · rename_i hq
      cases h
      obtain ⟨q1, q2⟩ := hq
      unfold comeB at q1 q2
      simp at q1 q2 ⊢
      omega
    · cases h
  · rw [if_neg h3] at h
    cases h
set_option maxRecDepth 100000 in
set_option maxHeartbeats 8000000 in
theorem Put_sp (bb : Nat) (b : Int) (l : List ShE) (v : Value) (s : AB) (O : Nat → Prop) (h : H) (h1 : h.one = []) (x : BS bb h s O) (hr : RdE h v l) (hl : l.length < 2 ^ 38) (hb0 : 0 ≤ b) (hb : b ≤ 1048576) (hf : 0 ≤ s.far) (hf2 : s.far ≤ 2097152) (hlo : s.opn.length < 2 ^ 20 - 2) (hln : s.nodes.length < 2 ^ 38) (y : Int × Int)
    (hs : sndR b l (s.far, (s.opn.length : Int) - 1) = some y) (hx : ∀ e ∈ l, e.at_ < 2 ^ 62 ∧ e.to < 2 ^ 62) :
    CallW E0 X0 (.fn 18) [.pointer (some ⟨bb, 0, none⟩), v, .int .i64 b] h (fun r h' => r = .int .i64 0 ∧ BTo bb O h (runB b l s) h') := by
  refine CallW.body efn18 rfl rfl rfl [] (by kernel_rfl) ?_
  obtain ⟨av, cap, hv⟩ := hr.sl
  have w1 : ¬ b < 0 := by omega
  have w2 : ¬ 1048576 < b := by omega
  have c1 := sound_sp bb b l v s O h h1 x hr (by omega) hb0 hb hf hf2 (by omega) y hs hx
  subst hv
  simp [-wpd_seq, Tryd.f18, h1]
  iterate 3 ((repeat rw [wpd_seq]); simp [-wpd_seq, h1, w1, w2])
  (repeat rw [wpd_seq]); simp [-wpd_seq, h1, w1, w2]
  (repeat rw [wpd_seq]); simp [-wpd_seq, h1, w1, w2]
  refine c1.mono ?_
  rintro _ h2 ⟨rfl, f2⟩
  have o2 := f2.one
  iterate 3 ((repeat rw [wpd_seq]); simp [-wpd_seq, o2])
  refine (doings_sp h2 o2).mono ?_
  rintro _ h3 ⟨rfl, m3, f3, n3⟩
  have o3 := f3.one
  have f23 := f2.next
  have f03 : Fr h.next h h3 := f2.trans (f3.mono f23)
  have hm3 : ¬ O h2.next := fun hc => by have := x.lt hc; omega
  have x3 := x.fr f03
  have bk3 : BKp O O h h3 := BKp.of_fr f03
  have hr3 := hr.fr f03
  iterate 2 ((repeat rw [wpd_seq]); simp [-wpd_seq, o3])
  refine wpd_loop (fun (q : Nat × AB) fr h' => q.1 ≤ l.length ∧ fr.get 31 = some (.int .i64 q.1) ∧ h'.get h2.next = some (.map doE 3) ∧ runB b (l.drop q.1) q.2 = runB b l s ∧ BTo bb O h q.2 h' ∧ RdE h' (.slice av l.length cap) l ∧ sndR b (l.drop q.1) (q.2.far, (q.2.opn.length : Int) - 1) = some y ∧ q.2.opn.length < 2 ^ 20 ∧ q.2.nodes.length ≤ s.nodes.length + q.1 ∧ h2.next < h'.next) (fun q => l.length - q.1) (0, s) ?_ ?_
  · exact ⟨Nat.zero_le _, by simp, m3, rfl, ⟨O, x3, bk3⟩, hr3, by simpa using hs, by simp only; omega, by simp only; omega, by omega⟩
  have h2n : h2.next < h3.next := by omega
  clear f3 f03 o3 m3 x3 bk3 hr3 n3
  rintro ⟨k, S⟩ fr h4 ⟨hk, i31, m4, hrun, ⟨O', x4, bk4⟩, hr4, hsr, hop, hnl, hn4⟩ hfe
  have g29 := hfe 29 rfl
  have g30 := hfe 30 rfl
  have g0 := hfe 0 rfl
  have g2 := hfe 2 rfl
  have g8 := hfe 8 rfl
  simp at g29 g30 g0 g2 g8 hk i31 hrun hsr hop hnl
  clear hfe
  have o4 := bk4.one
  by_cases hkl : k < l.length
  · have hkl' : (k : Int) < l.length := by omega
    obtain ⟨eb, cap', own, fz, ty, e, hb1, hb2⟩ := hr4.resolve_left (by rintro ⟨_, rfl⟩; simp at hkl)
    simp at e
    obtain ⟨rfl, rfl⟩ := e
    have q1 := encEs_mid l hkl
    have l1 := encEs_len l
    have b1 : k * 4 + 4 ≤ (encEs l).length := by omega
    have hw1 := wrap_succ (show k < 9223372036854775807 by omega)
    rw [List.drop_eq_getElem_cons hkl] at hsr hrun
    have hxe := hx _ (List.getElem_mem hkl)
    generalize l[k] = e at *
    simp only [sndR] at hsr
    obtain ⟨yy, hyy⟩ : ∃ yy, snd1 b S.far ((S.opn.length : Int) - 1) e = some yy := by
      cases hq : snd1 b S.far ((S.opn.length : Int) - 1) e with
      | none => rw [hq] at hsr; cases hsr
      | some yy => exact ⟨yy, rfl⟩
    rw [hyy] at hsr
    simp only at hsr
    obtain ⟨t1, t2, t3, t4, t5, t6, t7⟩ := step_snd rfl rfl hyy
    have hyy2 : yy = ((stepB b S e).far, ((stepB b S e).opn.length : Int) - 1) := Prod.ext t1 t2
    rw [hyy2] at hsr
    simp only [runB] at hrun
    clear hyy hyy2 t1 t2
    obtain ⟨eo, ek, ea, et⟩ := e
    simp only [encE] at q1
    simp only at t3 t4 t5 hxe
    have hen : ¬ eb = h4.next := by omega
    have w5 : IntKind.i64.wrap ((ea : Int) + b) = (ea : Int) + b := wrap_i64 (by omega) (by omega)
    have w6 : IntKind.i64.wrap ((et : Int) + b) = (et : Int) + b := wrap_i64 (by omega) (by omega)
    iterate 2 ((repeat rw [wpd_seq]); simp [-wpd_seq, o4, i31, g30, g29, hkl, hkl', hb1, b1, q1, hen])
    iterate 4 ((repeat rw [wpd_seq]); simp [-wpd_seq, o4, i31, g30, g29, g2, hkl, hkl', hb1, b1, q1, hen, w5, w6])
    obtain ⟨h7, hh7⟩ : ∃ h7, h7 = (((h4.nw (.cells [.int .u8 0, .int .u8 0, .int .i64 0, .int .i64 0] 0 true 0 none)).put h4.next (.cells [.int .u8 eo, .int .u8 ek, .int .i64 ea, .int .i64 et] 0 true 0 none)).put h4.next (.cells [.int .u8 eo, .int .u8 ek, .int .i64 (ea + b), .int .i64 et] 0 true 0 none)).put h4.next (.cells [.int .u8 eo, .int .u8 ek, .int .i64 (ea + b), .int .i64 (et + b)] 0 true 0 none) := ⟨_, rfl⟩
    rw [← hh7]
    have n7 : h7.next = h4.next + 1 := by rw [hh7]; rfl
    have f7 : Fr h4.next h4 h7 := by rw [hh7]; exact ((((Fr.refl o4).nw (Nat.le_refl _) _).put (Nat.le_refl _) _).put (Nat.le_refl _) _).put (Nat.le_refl _) _
    have e7 : h7.get h4.next = some (.cells [.int .u8 eo, .int .u8 ek, .int .i64 (ea + b), .int .i64 (et + b)] 0 true 0 none) := by rw [hh7]; simp
    have o7 := f7.one
    clear hh7
    have bk4n := bk4.next
    have h3n := h2n
    have m7 := (f7.get h2.next hn4).trans m4
    have x7 := x4.fr f7
    have hr7 : RdE h7 (.slice (some ⟨eb, 0, none⟩) l.length cap) l := RdE.fr (.inr ⟨eb, cap, own, fz, ty, rfl, hb1, hb2⟩) f7
    have key : ∀ h8, BTo bb O' h7 (stepB b S ⟨eo, ek, ea, et⟩) h8 → h8.one = [] ∧ ∃ q : Nat × AB, l.length - q.1 < l.length - k ∧ q.1 ≤ l.length ∧ k + 1 = q.1 ∧ h8.get h2.next = some (.map doE 3) ∧ runB b (l.drop q.1) q.2 = runB b l s ∧ BTo bb O h q.2 h8 ∧ RdE h8 (.slice (some ⟨eb, 0, none⟩) l.length cap) l ∧ sndR b (l.drop q.1) (q.2.far, (q.2.opn.length : Int) - 1) = some y ∧ q.2.opn.length < 2 ^ 20 ∧ q.2.nodes.length ≤ s.nodes.length + q.1 ∧ h2.next < h8.next := by
      rintro h8 ⟨O2, x8, b8⟩
      exact ⟨b8.one, (k + 1, stepB b S ⟨eo, ek, ea, et⟩), by simp only; omega, hkl, rfl, (b8.keep _ (by omega) (x7.nmap m7)).trans m7, hrun, ⟨O2, x8, (bk4.trans (BKp.of_fr f7)).trans b8⟩, hr7.bk x7 b8, hsr, by simp only; omega, by simp only; omega, by have := b8.next; omega⟩
    simp only [doE] at m7
    rcases t3 with rfl | ⟨rfl, tne⟩ | rfl
    · (repeat rw [wpd_seq]); simp [-wpd_seq, o7, g8, g0, e7, m7]
      refine (begin_sp bb 1 ek (ea + b) (et + b) S O' h7 o7 x7 (by omega) hop).mono ?_
      intro r h8 to8
      obtain ⟨o8, ⟨k', S'⟩, z1, z2, z3, z4, z5, z6, z7, z8, z9, z10, z11⟩ := key h8 (by simpa [stepB] using to8)
      simp only at z1 z2 z3 z5 z6 z8 z9 z10
      subst z3
      simp [o8, i31, hw1]
      exact ⟨_, z1, z2, rfl, z4, S', z5, z6, z7, z8, z9, z10, z11⟩
    · (repeat rw [wpd_seq]); simp [-wpd_seq, o7, g8, g0, e7, m7]
      refine (bend_sp bb 2 ek (ea + b) (et + b) S O' h7 o7 x7 hop tne).mono ?_
      intro r h8 to8
      obtain ⟨o8, ⟨k', S'⟩, z1, z2, z3, z4, z5, z6, z7, z8, z9, z10, z11⟩ := key h8 (by simpa [stepB] using to8)
      simp only at z1 z2 z3 z5 z6 z8 z9 z10
      subst z3
      simp [o8, i31, hw1]
      exact ⟨_, z1, z2, rfl, z4, S', z5, z6, z7, z8, z9, z10, z11⟩
    · (repeat rw [wpd_seq]); simp [-wpd_seq, o7, g8, g0, e7, m7]
      refine (bleaf_sp bb 3 ek (ea + b) (et + b) S O' h7 o7 x7 (by omega) hop).mono ?_
      intro r h8 to8
      obtain ⟨o8, ⟨k', S'⟩, z1, z2, z3, z4, z5, z6, z7, z8, z9, z10, z11⟩ := key h8 (by simpa [stepB] using to8)
      simp only at z1 z2 z3 z5 z6 z8 z9 z10
      subst z3
      simp [o8, i31, hw1]
      exact ⟨_, z1, z2, rfl, z4, S', z5, z6, z7, z8, z9, z10, z11⟩
  · have hkl' : ¬ (k : Int) < l.length := by omega
    have hk2 : k = l.length := by omega
    subst hk2
    rw [List.drop_length] at hrun
    simp only [runB] at hrun
    simp [i31, g30, g29, o4]
    rw [← hrun]
    exact ⟨O', x4, bk4⟩
end Go.Dm
