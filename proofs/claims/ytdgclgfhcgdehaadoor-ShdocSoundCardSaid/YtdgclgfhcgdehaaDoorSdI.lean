/- The scanner: a line from a state. -/
import Derived.Test.YtdgclgfhcgdehaaDoorSdH
set_option linter.unusedVariables false
set_option linter.unusedSimpArgs false
namespace Go.Dm
open Go.Proofs
theorem own_spec {s : ShS} (h : ownN s = true) : (0 ≤ s.wait ∧ s.wait ≤ 4) ∧ s.mark < 256 ∧ (s.mode = 0 ∨ s.mode = 1 ∨ (s.mode = 2 ∧ 0 < s.wait)) := by
  unfold ownN at h
  simp only [Bool.and_eq_true, decide_eq_true_eq] at h
  obtain ⟨_, h1, _, h2⟩ := h
  split at h2
  · simp at h2; exact ⟨h1, by omega, .inl (by assumption)⟩
  · split at h2
    · simp at h2; exact ⟨h1, by omega, .inr (.inl (by assumption))⟩
    · simp at h2; exact ⟨h1, by omega, .inr (.inr ⟨h2.1, h2.2.2⟩)⟩
theorem own_zS : ownN zS = true := by decide
theorem own_base (s : ShS) : ownN (base s) = true := by unfold base; split; assumption; exact own_zS
theorem base_ok {s : ShS} (h : s.ok) : (base s).ok := by unfold base; split; exact h; exact zS_ok
theorem kind_ok (line : List UInt8) (p : Pc) (r : List Pc) {s : ShS} (hok : s.ok) (hwt : 0 ≤ s.wait ∧ s.wait ≤ 4) : (kindN line p r s).2.ok ∧ 0 ≤ (kindN line p r s).2.wait ∧ (kindN line p r s).2.wait ≤ 4 := by
  have := asks_ok (op := opT line p) (r := r) hok hwt
  unfold kindN
  split
  · split
    · rename_i s' e; rw [e] at this; exact this
    · exact ⟨hok, hwt⟩
  · exact ⟨hok, hwt⟩
theorem prun_ok (line : List UInt8) : ∀ (l : List Pc) (x : PS), x.st.ok → (0 ≤ x.st.wait ∧ x.st.wait ≤ 4) → (prun line l x).st.ok ∧ 0 ≤ (prun line l x).st.wait ∧ (prun line l x).st.wait ≤ 4
  | [], x, h1, h2 => ⟨h1, h2⟩
  | p :: r, x, h1, h2 => by
    have := kind_ok line p r h1 h2
    exact prun_ok line r (pstep line p r x) this.1 this.2
theorem scanN_ok {s : ShS} (hs : s.ok) (line : List UInt8) : (scanN s line).2.ok := by
  have hb := base_ok hs
  have ho := own_spec (own_base s)
  unfold scanN
  split
  · exact hb
  · split
    · unfold textN
      generalize (if (docK (base s) 0).strip then tabsN (ctn line) else 0) = f
      simp only
      split
      · exact hb
      · exact ⟨hb.stk, by simp [hb.docs]⟩
    · have := prun_ok line (rdAt line 0 (base s).mark).1 ⟨[], base s, decide ((base s).mode = 1), 0, false⟩ hb ho.1
      unfold piecesN
      simp only
      split
      · exact ⟨this.1.stk, this.1.docs⟩
      · exact ⟨this.1.stk, this.1.docs⟩
theorem SlG.mono {ty : Option TypeId} {n B B' : Nat} {h : H} {v : Value} {cs : List Value} {len : Nat} (s : SlG ty n B h v cs len) (hB : B' ≤ B) : SlG ty n B' h v cs len := by
  rcases s with h2 | ⟨a, b, g, c, d⟩
  · exact .inl h2
  · exact .inr ⟨a, b, g, by omega, d⟩
def mdE (a b : Nat) : List MapEntry := [⟨.int .u8 0, .func (.func a) #[] #[], 0⟩, ⟨.int .u8 1, .func (.func a) #[] #[], 1⟩, ⟨.int .u8 2, .func (.func b) #[] #[], 2⟩]
set_option maxRecDepth 100000 in
set_option maxHeartbeats 8000000 in
theorem modes_sp (h : H) (h1 : h.one = []) :
    CallW E0 X0 (.fn 23) [] h (fun r h' => r = .map (some h.next) ∧ h'.get h.next = some (.map (mdE 31 32) 3) ∧ Fr h.next h h' ∧ h'.next = h.next + 1) := by
  refine CallW.body efn23 rfl rfl rfl [] (by kernel_rfl) ?_
  simp [Tryd.f23, h1]
  refine ⟨rfl, ⟨by simp, by simp, fun c hc => ?_⟩⟩
  simp [show ¬ c = h.next by omega]
theorem zsc : Tryd.zeroCells54.toList = scS zS [str [], .slice none 0 0] := by kernel_rfl
set_option maxRecDepth 100000 in
set_option maxHeartbeats 16000000 in
theorem Scan_sp (s : ShS) (hs : s.ok) (line : List UInt8) (hl : line.length < 2 ^ 30) (h : H) (h1 : h.one = []) (hg : Gl h) (hg0 : 0 < h.next) :
    CallW E0 X0 (.fn 10) [.agg (encS s).toArray, str line] h (fun r h' => ∃ v, r = .tuple #[v, .agg (encS (scanN s line).2).toArray] ∧ SlG none 4 h.next h' v (encEs (scanN s line).1) (scanN s line).1.length ∧ Fr h.next h h') := by
  refine CallW.body efn10 rfl rfl rfl [5] (by kernel_rfl) ?_
  simp [Tryd.f10, h1, -wpd_seq]
  iterate 1 (rw [wpd_seq]; simp [-wpd_seq, h1])
  have hb := base_ok hs
  have ho := own_spec (own_base s)
  refine wpd_cut (fun fr' h' => h'.get h.next = some (.cells (encS (base s)) 0 true 0 none) ∧ h'.get (h.next + 1) = some (.cells (encS zS) 0 true 0 none) ∧ Fr h.next h h' ∧ h.next + 2 ≤ h'.next) ?_ ?_
  · obtain ⟨h2, hh2⟩ : ∃ h2, h2 = (h.nw (.cells (encS s) 0 true 0 none)).nw (.cells Tryd.zeroCells29.toList 0 true 0 none) := ⟨_, rfl⟩
    rw [← hh2]
    have b2 : h2.get h.next = some (.cells (encS s) 0 true 0 none) := by rw [hh2]; simp
    have b3 : h2.get (h.next + 1) = some (.cells (encS zS) 0 true 0 none) := by rw [hh2, zcells]; simp
    have n2 : h2.next = h.next + 2 := by rw [hh2]; rfl
    have o2 : h2.one = [] := by rw [hh2]; rfl
    have f2 : Fr h.next h h2 := by rw [hh2]; exact ((Fr.refl h1).nw (Nat.le_refl _) _).nw (by simp) _
    clear hh2
    simp [b2, o2, st_le hs, st_all hs]
    refine (Own_sp s hs h2 o2).mono ?_
    rintro _ h3 ⟨rfl, f3⟩
    have b4 := (f3.get _ (by omega)).trans b2
    have b5 := (f3.get _ (by omega)).trans b3
    have n3 := f3.next
    have f4 : Fr h.next h h3 := f2.trans (f3.mono (by omega))
    cases hw : ownN s with
    | true =>
      have e : base s = s := by unfold base; rw [if_pos hw]
      simp [f3.one, e]
      exact ⟨b4, b5, f4, by omega⟩
    | false =>
      have e : base s = zS := by unfold base; rw [if_neg (by rw [hw]; decide)]
      have hz : (encS zS).length = 82 := encS_len zS_ok
      have hcv : ∀ x ∈ encS zS, cellV x = true := st_cv zS
      have hle : 82 ≤ (encS s).length := st_le hs
      simp [f3.one, e, zcells, b4, hz, hle, eq_true hcv, st_over hs zS_ok]
      exact ⟨b5, f4.put (Nat.le_refl _) _, by omega⟩
  rintro fr3 h3 hf3 ⟨b2, b3, f3, n3⟩
  have o3 := f3.one
  have p1 := hf3 1 rfl
  have p2 := hf3 2 rfl
  have p4 := hf3 4 rfl
  have p5 := hf3 5 rfl
  simp at p1 p2 p4 p5
  have hl82 : (encS (base s)).length = 82 := encS_len hb
  have hz54 : setAt Tryd.zeroCells54.toList 0 (encS (base s)) = scS (base s) [str [], .slice none 0 0] := by
    rw [zsc]
    exact setAt_mid (encS (base s)) [] (encS zS) [str [], .slice none 0 0] (by rw [encS_len hb]; rfl)
  have hs54 : (scS (base s) [str [], .slice none 0 0]).set 82 (str line) = scS (base s) [str line, .slice none 0 0] := set_behind hb _ 0 _
  iterate 1 (rw [wpd_seq]; simp [-wpd_seq, o3, b2, p1, p2, p4, p5, st_le hb, st_all hb, hz54, hs54, sc_le hb, hl82])
  obtain ⟨h4, hh4⟩ : ∃ h4, h4 = h3.nw (.cells (scS (base s) [str line, .slice none 0 0]) 0 true 0 none) := ⟨_, rfl⟩
  rw [← hh4]
  have o4 : h4.one = [] := by rw [hh4]; rfl
  have n4 : h4.next = h3.next + 1 := by rw [hh4]; rfl
  have f34 : Fr h3.next h3 h4 := by rw [hh4]; exact (Fr.refl o3).nw (Nat.le_refl _) _
  have c4 : h4.get h3.next = some (.cells (scS (base s) [str line, .slice none 0 0]) 0 true 0 none) := by rw [hh4]; simp
  clear hh4
  have b4 := (f34.get _ (by omega)).trans b2
  have b5 := (f34.get _ (by omega)).trans b3
  have f4 := f3.trans (f34.mono (by omega))
  refine wpd_cut (fun fr' h' => Scn (h3.next + 1) h3.next h' (scanN s line).2 line (scanN s line).1 ∧ Kp (h3.next + 1) h3.next h4 h') ?_ ?_
  · by_cases hne : line = []
    · have e : scanN s line = ([], base s) := by unfold scanN; rw [if_pos hne]
      subst hne
      rw [e]
      simp [p1, o4]
      exact ⟨⟨_, c4, SlG.nil ..⟩, Kp.refl o4⟩
    · have hmd : (base s).mode = 0 ∨ (base s).mode = 1 ∨ (base s).mode = 2 := by omega
      have hlx : ∀ K : VPost, (∀ r h', (r = .map (some h4.next) ∧ h'.get h4.next = some (.map (mdE 31 32) 3) ∧ Fr h4.next h4 h' ∧ h'.next = h4.next + 1) → K r h') → CallW E0 X0 (.fn 23) [] h4 K := fun K k => (modes_sp h4 o4).mono k
      simp [p1, p2, o4, hne]
      refine ⟨laxW_of [(2, 0)] (by kernel_rfl) ?_, ?_⟩
      · simp [LaxP, o4, p2]
        refine hlx _ ?_
        rintro _ h5 ⟨rfl, hm, f5, n5⟩
        have e1 := (f5.get h.next (by omega)).trans b4
        simp [f5.one, p2, e1, b4, st_mode hb]
      refine hlx _ ?_
      rintro _ h5 ⟨rfl, hm, f5, n5⟩
      have e1 := (f5.get h.next (by omega)).trans b4
      have c5 := (f5.get h3.next (by omega)).trans c4
      have f45 : Fr h.next h h5 := f4.trans (f5.mono (by omega))
      have hg5 : Gl h5 := (f45.get _ hg0).trans hg
      have x5 : Scn (h3.next + 1) h3.next h5 (base s) line [] := ⟨_, c5, SlG.nil ..⟩
      have kp5 : Kp (h3.next + 1) h3.next h4 h5 := (Kp.of_fr f5 (by omega))
      have hfin : ∀ g : Nat, CallW E0 X0 (.fn g) [.pointer (some ⟨h3.next, 0, none⟩)] h5 (fun r h' => Scn (h3.next + 1) h3.next h' (scanN s line).2 line (scanN s line).1 ∧ Kp (h3.next + 1) h3.next h5 h') →
          CallW E0 X0 (.fn g) [.pointer (some ⟨h3.next, 0, none⟩)] h5 (fun r h' => Scn (h3.next + 1) h3.next h' (scanN s line).2 line (scanN s line).1 ∧ Kp (h3.next + 1) h3.next h4 h' ∧ h'.one = []) :=
        fun g c => c.mono fun r h' ⟨a, b⟩ => ⟨a, kp5.trans b, b.one⟩
      rcases hmd with hm0 | hm0 | hm0
      · have e : scanN s line = piecesN (base s) line := by unfold scanN; rw [if_neg hne, if_neg (by omega)]
        simp [f5.one, p2, e1, st_mode hb, hm0, hm, mdE]
        refine (hfin _ (e ▸ pieces_sp _ _ _ hb (by omega) ho.1 line hl h5 f5.one hg5 (by omega) (by omega) (by omega) c5)).mono ?_
        rintro r h6 ⟨a, b, c⟩
        simp [c]; exact ⟨a, b⟩
      · have e : scanN s line = piecesN (base s) line := by unfold scanN; rw [if_neg hne, if_neg (by omega)]
        simp [f5.one, p2, e1, st_mode hb, hm0, hm, mdE]
        refine (hfin _ (e ▸ pieces_sp _ _ _ hb (by omega) ho.1 line hl h5 f5.one hg5 (by omega) (by omega) (by omega) c5)).mono ?_
        rintro r h6 ⟨a, b, c⟩
        simp [c]; exact ⟨a, b⟩
      · have e : scanN s line = textN (base s) line := by unfold scanN; rw [if_neg hne, if_pos (by omega)]
        simp [f5.one, p2, e1, st_mode hb, hm0, hm, mdE]
        refine (hfin _ (e ▸ text_sp _ _ _ hb (by omega) line (by omega) h5 f5.one (by omega) (by omega) x5)).mono ?_
        rintro r h6 ⟨a, b, c⟩
        simp [c]; exact ⟨a, b⟩
  rintro fr6 h6 hf6 ⟨⟨v, c6, sl6⟩, kp6⟩
  have o6 := kp6.one
  have hs6 := scanN_ok hs line
  have b7 := kp6.st0 _ _ _ _ _ (by omega) (by omega) b5
  have q5 := hf6 5 rfl
  have q6 := hf6 6 rfl
  simp [p5] at q5 q6
  have hl82' : (encS (scanN s line).2).length = 82 := encS_len hs6
  have hz82 : 82 ≤ (encS zS).length := st_le zS_ok
  have hcv : ∀ x ∈ encS (scanN s line).2, cellV x = true := st_cv _
  have hst : setAt (encS zS) 0 (encS (scanN s line).2) = encS (scanN s line).2 := st_over zS_ok hs6
  simp [q5, q6, o6, c6, nil_ptr, sc_ev hs6, b7, sc_le hs6, scS_all hs6, hl82', hz82, eq_true hcv, hst, st_all hs6]
  refine ⟨(sl6.put (by omega) _).mono (by omega), ⟨by simpa using o6, by have := kp6.next; have := f4.next; simp; omega, fun c hc => ?_⟩⟩
  simp [show ¬ c = h.next + 1 by omega]
  exact (kp6.get c (by omega) (by omega)).trans (f4.get c hc)
end Go.Dm
