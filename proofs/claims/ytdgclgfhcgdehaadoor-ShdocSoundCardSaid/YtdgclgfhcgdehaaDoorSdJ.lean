/- The document's answer: a line of a document. -/
import Derived.Test.YtdgclgfhcgdehaaDoorSdI
set_option linter.unusedVariables false
set_option linter.unusedSimpArgs false
namespace Go.Dm
open Go.Proofs
theorem tabs_lt : ∀ {t : List UInt8} {f : Nat}, f < tabsN t → f < t.length ∧ bt t f = 9
  | [], f, h => by simp [tabsN] at h
  | c :: r, f, h => by
    unfold tabsN at h
    split at h
    · rename_i e
      cases f with
      | zero => exact ⟨by simp, by simp [bt, e]⟩
      | succ f =>
        have := tabs_lt (t := r) (f := f) (by omega)
        exact ⟨by simp; omega, by simpa [bt] using this.2⟩
    · omega
theorem tabs_at : ∀ {t : List UInt8}, tabsN t < t.length → bt t (tabsN t) ≠ 9
  | [], h => by simp at h
  | c :: r, h => by
    unfold tabsN at h ⊢
    split at h
    · rename_i e
      rw [if_pos e]
      have := tabs_at (t := r) (by simp at h; omega)
      simpa [bt] using this
    · rename_i e
      rw [if_neg e]
      simpa [bt] using e
theorem eqvL_self : ∀ (l : List Value), (∀ v ∈ l, eqv0 v v = true) → eqvL l l = true
  | [], _ => rfl
  | v :: l, h => by
    unfold eqvL
    rw [h v (List.mem_cons_self ..), eqvL_self l fun u hu => h u (List.mem_cons_of_mem _ hu)]
    rfl
theorem eqv_encS (s : ShS) : eqvL (encS s) (encS s) = true := by
  refine eqvL_self _ fun v hv => ?_
  rw [encS_eq] at hv
  simp only [encK, encDs, List.mem_append, List.mem_flatMap, encF, encD, List.mem_cons, List.not_mem_nil, or_false] at hv
  rcases hv with ⟨x, _, rfl | rfl | rfl | rfl⟩ | (rfl | rfl | rfl | rfl | rfl) | ⟨x, _, rfl | rfl | rfl⟩ | rfl <;> first | exact decide_eq_true rfl | simp [eqv0]
/-- The documents that wait behind the first. -/
def rdocs (s : ShS) (k : Nat) : List ShD := (List.range 4).map fun j => if j + 1 < k then docK s (j + 1) else zD
theorem rdocs_len (s : ShS) (k : Nat) : (rdocs s k).length = 4 := by simp [rdocs]
theorem rdocs_set (s : ShS) (k : Nat) (h0 : 0 < k) (h : k < 4) : (rdocs s k).set (k - 1) (docK s k) = rdocs s (k + 1) := by
  match k, h0, h with
  | 1, _, _ => rfl
  | 2, _, _ => rfl
  | 3, _, _ => rfl
theorem own_docs {s : ShS} (h : ownN s = true) : ∀ i : Nat, i < 4 → s.wait ≤ i → docK s i = zD := by
  intro i hi hw
  unfold ownN at h
  simp only [Bool.and_eq_true, decide_eq_true_eq, List.all_eq_true, List.mem_range, Bool.or_eq_true] at h
  rcases (h.2.2.1 i hi).1 with q | q
  · omega
  · exact q
theorem own_bare {s : ShS} (h : ownN s = true) : s.stk = List.replicate 16 zF ∧ s.dep = 0 ∧ s.flags = 0 ∧ s.cnt = 0 := by
  unfold ownN at h
  simp only [Bool.and_eq_true, decide_eq_true_eq] at h
  exact h.1
theorem rdocs_end {s : ShS} (hs : s.ok) (ho : ownN s = true) {w : Nat} (hw : s.wait = w) : rdocs s w = s.docs.drop 1 ++ [zD] := by
  have hd := own_docs ho
  have hl := hs.docs
  obtain ⟨a, b, c, d, e⟩ : ∃ a b c d, s.docs = [a, b, c, d] := by
    match s.docs, hl with
    | [a, b, c, d], _ => exact ⟨a, b, c, d, rfl⟩
  have k0 : docK s 0 = a := by unfold docK; rw [e]; rfl
  have k1 : docK s 1 = b := by unfold docK; rw [e]; rfl
  have k2 : docK s 2 = c := by unfold docK; rw [e]; rfl
  have k3 : docK s 3 = d := by unfold docK; rw [e]; rfl
  have h1 := hd 1 (by decide)
  have h2 := hd 2 (by decide)
  have h3 := hd 3 (by decide)
  rw [e]
  show [_, _, _, _] = [b, c, d, zD]
  simp only [rdocs, List.cons.injEq, k1, k2, k3] at h1 h2 h3 ⊢
  refine ⟨?_, ?_, ?_, ?_, trivial⟩
  · split
    · rfl
    · exact (h1 (by omega)).symm
  · split
    · rfl
    · exact (h2 (by omega)).symm
  · split
    · rfl
    · exact (h3 (by omega)).symm
  · rw [if_neg (by have := (own_spec ho).1; omega)]
/-- What the program's rest of a state is. -/
theorem rest_eq {s : ShS} (hs : s.ok) (ho : ownN s = true) {w : Nat} (hw : s.wait = w) (m : Nat) : { zS with docs := rdocs s w, wait := s.wait - 1, mode := m } = { s with docs := s.docs.drop 1 ++ [zD], wait := s.wait - 1, mark := 0, mode := m } := by
  obtain ⟨h1, h2, h3, h4⟩ := own_bare ho
  rw [rdocs_end hs ho hw]
  cases s
  simp only [zS, ShS.mk.injEq] at *
  simp [h1, h2, h3, h4]
set_option maxRecDepth 100000 in
set_option maxHeartbeats 16000000 in
theorem RefText_sp (s : ShS) (hs : s.ok) (ho : ownN s = true) (hm : s.mode = 2) (line : List UInt8) (hl : line.length < 2 ^ 30) (h : H) (h1 : h.one = []) :
    CallW E0 X0 (.fn 24) [.agg (encS s).toArray, str line] h (fun r h' => ∃ v, r = .tuple #[v, .agg (encS (textN s line).2).toArray] ∧ SlG none 4 h.next h' v (encEs (textN s line).1) (textN s line).1.length ∧ Fr h.next h h') := by
  refine CallW.body efn24 rfl rfl rfl [7] (by kernel_rfl) ?_
  have hd0 := st_doc hs (i := 0) (by decide)
  have hle := ctnN_le line
  have hcl := ctn_length line
  have hll := st_le hs
  obtain ⟨T, hT⟩ : ∃ T, T = textN s line := ⟨_, rfl⟩
  rw [← hT]
  simp only [Nat.zero_mul, Nat.add_zero] at hd0
  simp [Tryd.f24, h1, -wpd_seq]
  iterate 3 (rw [wpd_seq]; simp [-wpd_seq, h1, hd0, show 72 ≤ (encS s).length by omega, encD])
  obtain ⟨h2, hh2⟩ : ∃ h2, h2 = (((h.nw (.cells (encS s) 0 true 0 none)).nw (.cells Tryd.zeroCells29.toList 0 true 0 none)).nw (.cells [str [], .bool false, .bool false] 0 true 0 none)).put (h.next + 2) (.cells [str (docK s 0).word, .bool (docK s 0).strip, .bool (docK s 0).raw] 0 true 0 none) := ⟨_, rfl⟩
  rw [← hh2]
  have b0 : h2.get h.next = some (.cells (encS s) 0 true 0 none) := by rw [hh2]; simp
  have b1 : h2.get (h.next + 1) = some (.cells (encS zS) 0 true 0 none) := by rw [hh2, zcells]; simp
  have b2 : h2.get (h.next + 2) = some (.cells [str (docK s 0).word, .bool (docK s 0).strip, .bool (docK s 0).raw] 0 true 0 none) := by rw [hh2]; simp
  have n2 : h2.next = h.next + 3 := by rw [hh2]; rfl
  have o2 : h2.one = [] := by rw [hh2]; rfl
  have f2 : Fr h.next h h2 := by rw [hh2]; exact ((((Fr.refl h1).nw (Nat.le_refl _) _).nw (by simp) _).nw (by simp) _).put (by omega) _
  clear hh2
  refine (Content_sp line (by omega) h2 o2).mono ?_
  rintro _ hx ⟨rfl, rfl⟩
  simp [-wpd_seq, o2]
  obtain ⟨F, hF⟩ : ∃ F, F = (if (docK s 0).strip then tabsN (ctn line) else 0) := ⟨_, rfl⟩
  have hFle : F ≤ ctnN line := by rw [hF]; split; (have := tabsN_le (ctn line); omega); omega
  iterate 2 (rw [wpd_seq]; simp [-wpd_seq, o2])
  refine wpd_loop (fun (f : Nat) fr h' => fr.get 8 = some (.int .i64 f) ∧ f ≤ F ∧ h' = hx) (fun f => F - f) 0 ⟨by simp, Nat.zero_le _, rfl⟩ ?_
  rintro f fr h' ⟨g8, hf, rfl⟩ hfe
  have g1 := hfe 1 rfl
  have g2 := hfe 2 rfl
  have g4 := hfe 4 rfl
  have g5 := hfe 5 rfl
  have g6 := hfe 6 rfl
  have g7 := hfe 7 rfl
  simp at g1 g2 g4 g5 g6 g7
  clear hfe
  by_cases hlt : f < F
  · have hst : (docK s 0).strip = true := by
      cases h : (docK s 0).strip with
      | true => rfl
      | false => rw [h] at hF; simp at hF; omega
    rw [hst, if_pos rfl] at hF
    have ⟨t1, t2⟩ := tabs_lt (t := ctn line) (f := f) (by omega)
    rw [bt_ctn (by omega)] at t2
    have hix := idxB_nat (l := line) (k := f) (by omega)
    rw [t2] at hix
    have e1 : (f : Int) < ctnN line := by omega
    have e2 : f < ctnN line := by omega
    have w0 : IntKind.i64.wrap ((f : Int) + 1) = ((f + 1 : Nat) : Int) := wrap_succ (by omega)
    simp [g6, g7, g8, g1, o2, b2, hst, e1, e2, hix, w0]
    exact ⟨f + 1, by omega, by simp, by omega⟩
  have hfF : f = F := by omega
  subst hfF
  rw [wpd_seq]
  refine wpd_cut (fun fr' h'' => fr'.get 29 = some (.bool false) ∧ h'' = h') ?_ ?_
  · cases hst : (docK s 0).strip with
    | false => simp [g6, g7, g8, g1, o2, b2, hst]
    | true =>
      rw [hst, if_pos rfl] at hF
      by_cases e2 : f < ctnN line
      · have t2 := tabs_at (t := ctn line) (by omega)
        rw [← hF, bt_ctn e2] at t2
        have hix := idxB_nat (l := line) (k := f) (by omega)
        have t3 : ¬ ((bt line f).toNat : Int) = 9 := by
          intro q; apply t2; apply UInt8.toNat_inj.1; show (bt line f).toNat = 9; omega
        have e1 : (f : Int) < ctnN line := by omega
        simp [g6, g7, g8, g1, o2, b2, hst, e1, e2, hix, t3]
      · have e1 : ¬ (f : Int) < ctnN line := by omega
        simp [g6, g7, g8, g1, o2, b2, hst, e1, e2]
  rintro fr3 h3 hf3 ⟨q29, rfl⟩
  have q1 := hf3 1 rfl
  have q2 := hf3 2 rfl
  have q4 := hf3 4 rfl
  have q5 := hf3 5 rfl
  have q6 := hf3 6 rfl
  have q7 := hf3 7 rfl
  have q8 := hf3 8 rfl
  rw [g1] at q1
  rw [g2] at q2
  rw [g4] at q4
  rw [g5] at q5
  rw [g6] at q6
  rw [g7] at q7
  rw [g8] at q8
  clear hf3 g1 g2 g4 g5 g6 g7 g8
  have e1 : (f : Int) ≤ ctnN line := by omega
  have e2 : (ctnN line : Int) ≤ line.length := by omega
  have hsl : (line.take (ctnN line)).drop f = (ctn line).drop f := rfl
  simp [-wpd_seq, q29]
  rw [wpd_seq]
  by_cases hw : (ctn line).drop f = (docK s 0).word
  · have ht : textN s line = ([⟨3, 57, f, ctnN line⟩, ⟨2, 0, line.length, 0⟩] ++ (if 0 < s.wait - 1 then [⟨1, 55, line.length, 0⟩] else []), { s with docs := s.docs.drop 1 ++ [zD], wait := s.wait - 1, mark := 0, mode := if 0 < s.wait - 1 then 2 else 0 }) := by
      unfold textN; rw [← hF, if_neg (by rw [hw]; simp)]
    rw [← hT] at ht
    have e1' : f ≤ ctnN line := by omega
    iterate 2 (rw [wpd_seq]; simp [-wpd_seq, q1, q2, q6, q7, q8, o2, e1, e1', e2, hle, b2, hsl, hw])
    refine (leaf_sp 57 f (ctnN line) h3 o2).mono ?_
    rintro _ h4 ⟨rfl, f4⟩
    have n4 := f4.next
    have e3 := (f4.get h.next (by omega)).trans b0
    have e5 := (f4.get (h.next + 1) (by omega)).trans b1
    simp [-wpd_seq, q1, f4.one, zerE8, encE, zerE]
    obtain ⟨w, hwt⟩ : ∃ w : Nat, s.wait = w := ⟨s.wait.toNat, by have := (own_spec ho).1; omega⟩
    have hw4 : 0 < w ∧ w ≤ 4 := by have := own_spec ho; omega
    have zR : ∀ k, ShS.ok { zS with docs := rdocs s k } := fun k => ⟨rfl, rdocs_len s k⟩
    have e4 : ¬ h.next = h4.next := by omega
    have e6 : ¬ h.next + 1 = h4.next := by omega
    iterate 2 ((repeat rw [wpd_seq]); simp [-wpd_seq])
    obtain ⟨h6, hh6⟩ : ∃ h6, h6 = (h4.nw (.cells [.int .u8 3, .int .u8 57, .int .i64 f, .int .i64 (ctnN line), .int .u8 2, .int .u8 0, .int .i64 line.length, .int .i64 0] 4 true 0 none)).nw (.cells Tryd.zeroCells29.toList 0 true 0 none) := ⟨_, rfl⟩
    rw [← hh6]
    have b6 : h6.get h.next = some (.cells (encS s) 0 true 0 none) := by rw [hh6]; simp [show ¬ h.next = h4.next + 1 by omega, e4, e3]
    have b7 : h6.get (h.next + 1) = some (.cells (encS zS) 0 true 0 none) := by rw [hh6]; simp [show ¬ h.next + 1 = h4.next + 1 by omega, e4, e6, e5]
    have b8 : h6.get h4.next = some (.cells (encEs [⟨3, 57, f, ctnN line⟩, ⟨2, 0, line.length, 0⟩]) 4 true 0 none) := by rw [hh6]; simp [encEs, encE]
    have b9 : h6.get (h4.next + 1) = some (.cells (encS { zS with docs := rdocs s 1 }) 0 true 0 none) := by rw [hh6, zcells]; simp; rfl
    have n6 : h6.next = h4.next + 2 := by rw [hh6]; rfl
    have o6 : h6.one = [] := by rw [hh6]; rfl
    have f6 : Fr h.next h h6 := by rw [hh6]; exact ((f2.trans (f4.mono (by omega))).nw (by omega) _).nw (by simp; omega) _
    clear hh6
    refine wpd_loop (fun (k : Nat) fr h' => fr.get 11 = some (.int .i64 k) ∧ 0 < k ∧ k ≤ w ∧ h'.get (h4.next + 1) = some (.cells (encS { zS with docs := rdocs s k }) 0 true 0 none) ∧ h'.one = [] ∧ h'.next = h6.next ∧ ∀ c, c ≠ h4.next + 1 → h'.get c = h6.get c) (fun k => w - k) 1 ⟨by simp, by omega, by omega, b9, o6, rfl, fun c _ => rfl⟩ ?_
    rintro k fr h7 ⟨g11, hk0, hk, c9, o7, n7, c0⟩ hfe
    have g1 := hfe 1 rfl
    have g2 := hfe 2 rfl
    have g5 := hfe 5 rfl
    have g9 := hfe 9 rfl
    have g10 := hfe 10 rfl
    simp [q1, q2, q5] at g1 g2 g5 g9 g10
    have c6 := (c0 h.next (by omega)).trans b6
    have hw0 := st_wait hs
    rw [hwt] at hw0
    by_cases hkw : k < w
    · have e7 : (k : Int) < w := by omega
      have e8 : (k : Int) < 4 := by omega
      have e8' : k < 4 := by omega
      have w0 : IntKind.i64.wrap ((k : Int) + 1) = ((k + 1 : Nat) : Int) := wrap_succ (by omega)
      have w1 : IntKind.i64.wrap ((k : Int) - 1) = ((k - 1 : Nat) : Int) := wrap_pred (by omega) (by omega)
      have e9 : ((k - 1 : Nat) : Int) < 4 := by omega
      have r1 := st_doc hs (i := k) e8'
      have r2 : (((encS { zS with docs := rdocs s k }).set (69 + (k - 1) * 3) (str (docK s k).word)).set (69 + (k - 1) * 3 + 1) (.bool (docK s k).strip)).set (69 + (k - 1) * 3 + 2) (.bool (docK s k).raw) = _ := stm_doc (zR k) (i := k - 1) (by omega) (docK s k)
      have r3 : rdocs s (k + 1) = (rdocs s k).set (k - 1) (docK s k) := (rdocs_set s k hk0 e8').symm
      simp only at r2
      rw [← r3] at r2
      have l1 : 69 + k * 3 + 3 ≤ (encS s).length := by rw [encS_len hs]; omega
      have l2 : 69 + (k - 1) * 3 + 3 ≤ (encS { zS with docs := rdocs s k }).length := by rw [encS_len (zR k)]; omega
      have l3 : k - 1 < 4 := by omega
      simp [g11, g2, g10, o7, c6, hw0, e7, e8, e8', e9, w0, w1, r1, r2, l1, l2, l3, hkw, c9, encD]
      exact ⟨k + 1, by omega, rfl, by omega, by omega, rfl, n7, fun c hc => by simp [hc]; exact c0 c hc⟩
    have hkw : k = w := by omega
    subst hkw
    have w1 : IntKind.i64.wrap ((k : Int) - 1) = ((k - 1 : Nat) : Int) := wrap_pred (by omega) (by omega)
    have c7 := (c0 (h.next + 1) (by omega)).trans b7
    have c8 := (c0 h4.next (by omega)).trans b8
    have hwk : s.wait - 1 = ((k - 1 : Nat) : Int) := by omega
    have r1 : (encS { zS with docs := rdocs s k }).set 81 (.int .i64 ((k - 1 : Nat) : Int)) = encS { zS with docs := rdocs s k, wait := ((k - 1 : Nat) : Int) } := stm_wait (zR k) _
    have zW : ShS.ok { zS with docs := rdocs s k, wait := ((k - 1 : Nat) : Int) } := ⟨rfl, rdocs_len s k⟩
    have zM : ShS.ok { zS with docs := rdocs s k, wait := ((k - 1 : Nat) : Int), mode := 2 } := ⟨rfl, rdocs_len s k⟩
    have r2 := st_wait zW
    have r3 : (encS { zS with docs := rdocs s k, wait := ((k - 1 : Nat) : Int) }).set 65 (.int .u8 2) = encS { zS with docs := rdocs s k, wait := ((k - 1 : Nat) : Int), mode := 2 } := stm_mode zW 2
    have l1 := st_le (zR k)
    have l2 := st_le zW
    have l3 := st_le zM
    have n5 := f4.next
    have rq := rest_eq hs ho hwt
    rw [hwk] at rq
    rw [hwk] at ht
    clear hfe
    have fx : ∀ h', h'.one = [] → h7.next ≤ h'.next → (∀ c, c < h.next → h'.get c = h7.get c) → Fr h.next h h' := fun h' a b c => ⟨a, by have := f6.next; omega, fun d hd => by rw [c d hd, c0 d (by omega)]; exact f6.get d hd⟩
    by_cases hk1 : 0 < k - 1
    · rw [if_pos (by omega), if_pos (by omega), ← rq] at ht
      have hk1' : (0 : Int) < ((k - 1 : Nat) : Int) := by omega
      have l4 : 66 ≤ (encS { zS with docs := rdocs s k, wait := ((k - 1 : Nat) : Int) }).length := by omega
      obtain ⟨h8, hh8⟩ : ∃ h8, h8 = (h7.put (h4.next + 1) (.cells (encS { zS with docs := rdocs s k, wait := ((k - 1 : Nat) : Int) }) 0 true 0 none)).put (h4.next + 1) (.cells (encS { zS with docs := rdocs s k, wait := ((k - 1 : Nat) : Int), mode := 2 }) 0 true 0 none) := ⟨_, rfl⟩
      have sl8 : SlG none 4 h4.next h8 (.slice (some ⟨h4.next, 0, none⟩) 2 2) (encEs [⟨3, 57, f, ctnN line⟩, ⟨2, 0, line.length, 0⟩]) 2 := .inr ⟨by decide, rfl, h4.next, Nat.le_refl _, by rw [hh8]; simp; omega, rfl, by rw [hh8]; simp [c8]⟩
      have n8 : h8.next = h7.next := by rw [hh8]; rfl
      have o8 : h8.one = [] := by rw [hh8]; exact o7
      have d1 : h8.get (h4.next + 1) = some (.cells (encS { zS with docs := rdocs s k, wait := ((k - 1 : Nat) : Int), mode := 2 }) 0 true 0 none) := by rw [hh8]; simp
      have d2 : ∀ c, c < h4.next → h8.get c = h7.get c := fun c hc => by rw [hh8]; simp [show ¬ c = h4.next + 1 by omega]
      rw [ht]
      simp [g11, g1, g2, g5, g9, g10, o7, c6, c9, hw0, w1, r1, r2, r3, l1, l2, l3, l4, hk1, zerE, -appS_some]
      rw [← hh8]
      clear hh8
      refine (sl8.nw _).app2 (by simp) (by simp; omega) (by rfl) (by decide) (by rfl) (by omega) (by decide) (.inl rfl) ?_
      intro v9 h9 sl9 f9 keep
      have n9 := f9.next
      simp at n9
      have a1 : h9.get (h4.next + 1) = _ := (keep (h4.next + 1) (by simp; omega) (by rintro g x y e; cases e; omega)).trans ((by simp [show ¬ h4.next + 1 = h8.next by omega] : _ = h8.get (h4.next + 1)).trans d1)
      have a2 : ∀ c, c < h4.next → h9.get c = h7.get c := fun c hc => by rw [f9.get c hc, get_nw, if_neg (by omega)]; exact d2 c hc
      have a3 := (a2 (h.next + 1) (by omega)).trans c7
      simp [f9.one, a1, a3, g5, g10, st_all zM, st_le zM, encS_len zM, eq_true (st_cv { zS with docs := rdocs s k, wait := ((k - 1 : Nat) : Int), mode := 2 }), st_le zS_ok, st_over zS_ok zM]
      exact ⟨(sl9.mono (B' := h.next + 2) (by omega) |>.put (by omega) _).mono (by omega), fx _ (by simp [f9.one]) (by simp; omega) fun c hc => by simp [show ¬ c = h.next + 1 by omega, a2 c (by omega)]⟩
    · rw [if_neg (by omega), if_neg (by omega), ← rq] at ht
      have hk1' : ¬ (0 : Int) < ((k - 1 : Nat) : Int) := by omega
      rw [ht]
      have r2' : (encS { zS with docs := rdocs s k, wait := ((k - 1 : Nat) : Int) })[81]'l2 = .int .i64 ((k - 1 : Nat) : Int) := by rw [List.getElem?_eq_getElem l2] at r2; exact Option.some.inj r2
      simp [g11, g1, g2, g5, g9, g10, o7, c6, c9, hw0, w1, r1, r2', hk1', l1, l2, hk1, c7, e4, show ¬ h4.next = h.next by omega, st_all zW, encS_len zW, eq_true (st_cv { zS with docs := rdocs s k, wait := ((k - 1 : Nat) : Int) }), st_le zS_ok, st_over zS_ok zW]
      exact ⟨_, ⟨rfl, rfl⟩, .inr ⟨by decide, rfl, h4.next, by omega, by simp; omega, rfl, by simp [show ¬ h4.next = h.next + 1 by omega, c8]⟩, fx _ (by simp [o7]) (by simp) fun c hc => by simp [show ¬ c = h.next + 1 by omega, show ¬ c = h4.next + 1 by omega]⟩
  · have ht : textN s line = ([⟨3, 56, 0, line.length⟩], s) := by unfold textN; rw [← hF, if_pos hw]
    rw [hT, ht]
    simp [q1, q2, q6, q7, q8, o2, e1, e2, b2, hsl, hw]
    refine ⟨laxW_of [(4, 2)] (by kernel_rfl) ?_, ?_⟩
    · simp [LaxP, q1, q2, o2]
      refine (leaf_sp 56 0 line.length h3 o2).mono ?_
      rintro _ h4 ⟨rfl, f4⟩
      have e3 := (f4.get h.next (by omega)).trans b0
      have e4 : ¬ h.next = h4.next := by have := f4.next; omega
      simp [f4.one, q1, q2, o2, e3, e4, zerE, encE, b0, st_le hs, st_all hs, LaxG_load, eqv_encS]
    refine (leaf_sp 56 0 line.length h3 o2).mono ?_
    rintro _ h4 ⟨rfl, f4⟩
    have e3 := (f4.get h.next (by omega)).trans b0
    have e5 := (f4.get (h.next + 1) (by omega)).trans b1
    have n4 := f4.next
    have e4 : ¬ h.next = h4.next := by omega
    have e6 : ¬ h.next + 1 = h4.next := by omega
    simp [f4.one, q1, q2, q5, o2, e3, e4, zerE, encE, b0, st_le hs, st_all hs, encS_len hs, eq_true (st_cv s), e5, st_le zS_ok, st_over zS_ok hs, e6]
    refine ⟨.inr ⟨by decide, rfl, h4.next, by omega, by simp, rfl, by simp [e6, show ¬ h4.next = h.next + 1 by omega, encEs, encE]⟩, (((f2.trans (f4.mono (by omega))).nw (by omega) _).put (Nat.le_succ _) _)⟩
end Go.Dm
