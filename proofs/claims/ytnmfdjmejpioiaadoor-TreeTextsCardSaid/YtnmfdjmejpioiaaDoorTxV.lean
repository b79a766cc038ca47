/- The program's 'Parse'. -/
import Derived.Test.YtnmfdjmejpioiaaDoorTxU
set_option linter.unusedVariables false
set_option linter.unusedSimpArgs false
namespace Go.Dm
open Go.Proofs
theorem pline_bad {A w : List UInt8} {k : Nat} (h4 : (splitB A).length = 4) (hk : (splitB A)[k]? = some w) (hn : numv w = none) : pline A = none := by
  unfold pline
  generalize splitB A = ws at *
  match ws, h4 with
  | [w1, w2, w3, w4], _ =>
    match k with
    | 0 => simp at hk; subst hk; simp [hn]
    | 1 => simp at hk; subst hk; simp [hn]
    | 2 => simp at hk; subst hk; simp [hn]
    | 3 => simp at hk; subst hk; simp [hn]
    | k + 4 => simp at hk
theorem pline_big {A w : List UInt8} {n : Nat} (h4 : (splitB A).length = 4) (hk : (splitB A)[1]? = some w) (hn : numv w = some n) (hb : 255 < n) : pline A = none := by
  unfold pline
  generalize splitB A = ws at *
  match ws, h4 with
  | [w1, w2, w3, w4], _ =>
    simp at hk; subst hk
    have hb' : ¬ n ≤ 255 := by omega
    simp only [hn]
    cases numv w1 <;> cases numv w3 <;> cases numv w4 <;> simp [hb']
theorem pline_good {A : List UInt8} {vs : List Nat} (h4 : (splitB A).length = 4) (hv : vs.length = 4) (hn : ∀ (i x : Nat), vs[i]? = some x → ∃ w, (splitB A)[i]? = some w ∧ numv w = some x) (hb : ∀ b, vs[1]? = some b → b ≤ 255) :
    ∃ a b c d, vs = [a, b, c, d] ∧ b ≤ 255 ∧ pline A = some (mkNd a b c d) := by
  unfold pline
  generalize splitB A = ws at *
  match ws, h4, vs, hv with
  | [w1, w2, w3, w4], _, [a, b, c, d], _ =>
    obtain ⟨x0, q0, r0⟩ := hn 0 a rfl
    obtain ⟨x1, q1, r1⟩ := hn 1 b rfl
    obtain ⟨x2, q2, r2⟩ := hn 2 c rfl
    obtain ⟨x3, q3, r3⟩ := hn 3 d rfl
    simp at q0 q1 q2 q3
    subst q0; subst q1; subst q2; subst q3
    refine ⟨a, b, c, d, rfl, hb b rfl, ?_⟩
    simp [r0, r1, r2, r3, hb b rfl]
theorem numv_le {w : List UInt8} {n : Nat} (h : numv w = some n) : n ≤ 1099511627776 := by
  unfold numv at h
  split at h
  · cases h
  · split at h
    · rename_i q; cases h; exact q
    · cases h
theorem splitB_le : ∀ (A : List UInt8), ∀ w ∈ splitB A, w.length ≤ A.length
  | [], w, h => by simp [splitB] at h; subst h; simp
  | c :: r, w, h => by
    have ih := splitB_le r
    unfold splitB at h
    split at h
    · rcases List.mem_cons.1 h with rfl | h
      · simp
      · have := ih w h; simp; omega
    · split at h
      · rename_i u us q
        rcases List.mem_cons.1 h with rfl | h
        · have := ih u (by rw [q]; exact List.mem_cons_self ..); simp; omega
        · have := ih w (by rw [q]; exact List.mem_cons_of_mem _ h); simp; omega
      · simp at h; subst h; simp
theorem z4_set (vs : List Nat) (n : Nat) (h : vs.length < 4) : (z4 vs).set vs.length (.int .i64 n) = z4 (vs ++ [n]) := by
  match vs, h with
  | [], _ => rfl
  | [a], _ => rfl
  | [a, b], _ => rfl
  | [a, b, c], _ => rfl
theorem z4_len (vs : List Nat) (h : vs.length ≤ 4) : (z4 vs).length = 4 := by
  match vs, h with
  | [], _ => rfl
  | [a], _ => rfl
  | [a, b], _ => rfl
  | [a, b, c], _ => rfl
  | [a, b, c, d], _ => rfl
set_option maxRecDepth 100000 in
set_option maxHeartbeats 16000000 in
theorem Parse_sp (s : List UInt8) (hs : s.length < 2 ^ 20) (h : H) (h1 : h.one = []) (hg : Ge h) :
    CallW E0 X0 (.fn 32) [str s] h (fun r h' => ∃ v, r = .tuple #[v, .int .i64 (parseE s)] ∧ RdN h' v (parseL s) ∧ Fr h.next h h') := by
  refine CallW.body efn32 rfl rfl rfl [] (by kernel_rfl) ?_
  simp [Tryd.f32, h1]
  refine (Lines_sp s _ (by simp)).mono ?_
  rintro _ h2 ⟨rfl, rfl⟩
  simp
  generalize hF : (T.set _ 15 _ : T Value) = F
  generalize hH : (H.nw (H.nw (H.nw (H.nw h _) _) _) _) = h4
  have g2 : F.get 2 = some (.pointer (some ⟨h.next, 0, none⟩)) := by rw [← hF]; simp
  have g3 : F.get 3 = some (.pointer (some ⟨h.next + 1, 0, none⟩)) := by rw [← hF]; simp
  have g4 : F.get 4 = some (.pointer (some ⟨h.next + 2, 0, none⟩)) := by rw [← hF]; simp
  have g15 : F.get 15 = some (.func (.func 51) #[] #[.pointer (some ⟨h.next + 3, 0, none⟩)]) := by rw [← hF]; simp
  have n4 : h4.next = h.next + 4 := by rw [← hH]; simp
  have o4 : h4.one = [] := by rw [← hH]; simp
  have k0 : h4.get h.next = some (.cells [.slice none 0 0] 0 true 0 none) := by rw [← hH]; simp
  have k1 : h4.get (h.next + 1) = some (.cells [.int .i64 0] 0 true 0 none) := by rw [← hH]; simp
  have k2 : h4.get (h.next + 2) = some (.cells [.slice none 0 0] 0 true 0 none) := by rw [← hH]; simp
  have k3 : h4.get (h.next + 3) = some (.cells [str s] 0 true 0 none) := by rw [← hH]; simp
  have kold : ∀ b, b < h.next → h4.get b = h.get b := by
    intro b hb
    rw [← hH]
    simp [show ¬ b = h.next by omega, show ¬ b = h.next + 1 by omega, show ¬ b = h.next + 1 + 1 by omega, show ¬ b = h.next + 1 + 1 + 1 by omega, show ¬ b = h.next + 2 by omega, show ¬ b = h.next + 3 by omega]
  clear hF hH
  refine wpd_range (g := 51) (first := #[]) (cap := #[.pointer (some ⟨h.next + 3, 0, none⟩)]) o4 (by simp [g15]) ?_
  generalize hL : (Lp.mk LoopState.ready none F _ _ _) = L
  refine (lines1_sp (h.next + 3) h4.next (fun t h' => ∃ P vb, (rparseT t).map (P ++ ·) = rparseT s ∧ P.length + t.length ≤ s.length ∧ h'.one = [] ∧ h4.next < h'.next ∧ h'.get h4.next = some (.loop L) ∧ h'.get (h.next + 3) = some (.cells [str t] 0 true 0 none) ∧ h'.get (h.next + 2) = some (.cells [vb] 0 true 0 none) ∧ SlG none 4 (h4.next + 1) h' vb (encsN P) P.length ∧ (∀ b, b < h.next + 2 → h'.get b = h4.get b))
    (fun h' => rparseT s = none ∧ (∃ r : Lp, h'.get h4.next = some (.loop r) ∧ r.state ≠ .busy ∧ r.pending = some .ret) ∧ h4.next < h'.next ∧ h'.get h.next = some (.cells [.slice none 0 0] 0 true 0 none) ∧ h'.get (h.next + 1) = some (.cells [.int .i64 61] 0 true 0 none) ∧ (∀ b, b < h.next → h'.get b = h.get b) ∧ h'.one = []) ?_ ?_ s (h4.nw (.loop L)) ?_).mono ?_
  · rintro t h' ⟨P, vb, _, ht, o, hn, _, q3, _, _, hh⟩
    exact ⟨by omega, o, q3⟩
  · rintro t h' ht ⟨P, vb, on, hlen, o, hn, hgL, q3, q2, sl, hh⟩
    rw [← hL] at hgL
    have hgL2 := (show (h'.put (h.next + 3) (.cells [str (restOf t)] 0 true 0 none)).get h4.next = h'.get h4.next from by rw [H.get_put, if_neg (by omega)]).trans hgL
    refine CallW.yd (fr0 := F.set 16 (some (str (lineOf t)))) hgL2 rfl [] [] (by kernel_rfl) (by kernel_rfl) ?_
    simp [hgL2, hgL, o, show ¬ h4.next = h.next + 3 by omega]
    generalize hH : H.put (H.put h' _ _) h4.next _ = h5
    have hL5 := (show h5.get h4.next = _ from by rw [← hH, H.get_put, if_pos rfl])
    have n5 : h5.next = h'.next := by rw [← hH]; simp
    have o5 : h5.one = [] := by rw [← hH]; simpa using o
    have q35 : h5.get (h.next + 3) = some (.cells [str (restOf t)] 0 true 0 none) := by rw [← hH, H.get_put, if_neg (by omega), H.get_put, if_pos rfl]
    have p5 : ∀ b, b ≠ h.next + 3 → b ≠ h4.next → h5.get b = h'.get b := by intro b hb hb2; rw [← hH, H.get_put, if_neg hb2, H.get_put, if_neg hb]
    have sl5 : SlG none 4 (h4.next + 1) h5 vb (encsN P) P.length := sl.of_get (by omega) fun g hg1 hg2 => p5 g (by omega) (by omega)
    have hlt : (lineOf t).length ≤ t.length := by unfold lineOf; split; exact Nat.le_refl _; simp; omega
    clear hH
    refine (CutSuffix_sp (lineOf t) [10] (by omega) h5 o5).mono ?_
    rintro _ h6 ⟨rfl, rfl⟩
    have hcl : (cutS (lineOf t) [10]).length ≤ t.length := by unfold cutS; split; simp; omega; exact hlt
    simp [o5]
    refine (Split_sp (cutS (lineOf t) [10]) (by omega) h6 o5).mono ?_
    rintro ws h7 ⟨rs, f7⟩
    obtain ⟨wb, wcap, wc, wst, wown, wfz, wty, rfl, wg, wlt, wtk⟩ := rs
    have n7 := f7.next
    obtain ⟨rL, hL7, hLs⟩ : ∃ r : Lp, h7.get h4.next = some (.loop r) ∧ ({ r with state := .ready, pending := none } : Lp) = L := ⟨_, (f7.get _ (by omega)).trans hL5, hL⟩
    have p7 : ∀ b, b ≠ h.next + 3 → b ≠ h4.next → b < h'.next → h7.get b = h'.get b := fun b c1 c2 c3 => (f7.get b (by omega)).trans (p5 b c1 c2)
    have u0 : h7.get h.next = some (.cells [.slice none 0 0] 0 true 0 none) := (p7 _ (by omega) (by omega) (by omega)).trans ((hh _ (by omega)).trans k0)
    have u1 : h7.get (h.next + 1) = some (.cells [.int .i64 0] 0 true 0 none) := (p7 _ (by omega) (by omega) (by omega)).trans ((hh _ (by omega)).trans k1)
    have u2 : h7.get (h.next + 2) = some (.cells [vb] 0 true 0 none) := (p7 _ (by omega) (by omega) (by omega)).trans q2
    have u3 : h7.get (h.next + 3) = some (.cells [str (restOf t)] 0 true 0 none) := (f7.get _ (by omega)).trans q35
    have sl7 : SlG none 4 (h4.next + 1) h7 vb (encsN P) P.length := sl5.of_get n7 fun g hg1 hg2 => f7.get g hg2
    have x1 : ¬ h4.next = h.next + 1 := by omega
    have x2 : ¬ h4.next = h.next := by omega
    have x3 : ¬ h.next = h4.next := by omega
    have x4 : ¬ h.next + 1 = h4.next := by omega
    have old7 : ∀ b, b < h.next → h7.get b = h.get b := fun b hb => (p7 b (by omega) (by omega) (by omega)).trans ((hh b (by omega)).trans (kold b hb))
    clear hL5
    rcases first_or 10 t with hno | ⟨A, r, rfl, hA⟩
    · have hr := rline_none hno
      have hoff := rparse_off on ht hr
      have hsuf : [10].isSuffixOf (lineOf t) = false := by
        rw [(line_all hno).1]
        cases q : [10].isSuffixOf t with
        | false => rfl
        | true =>
          rw [List.isSuffixOf_iff_suffix] at q
          exact absurd rfl (hno 10 (q.subset (List.mem_singleton.2 rfl)))
      simp [f7.one, hsuf, g2, g3, u0, u1, hL7, x1, x2, x3, x4]
      exact ⟨rL, by simp [hL7, x1, x2], .inr ⟨rfl, ⟨hoff, ⟨_, by simp; rfl, LoopState.noConfusion, rfl⟩, by simp; omega, by simp [x3], by simp [x4], fun b hb => by simp [show ¬ b = h4.next by omega, show ¬ b = h.next + 1 by omega, show ¬ b = h.next by omega]; exact old7 b hb, by simpa using f7.one⟩, by simpa using f7.one⟩⟩
    · obtain ⟨hl1, hl2⟩ := line_cut (r := r) hA
      have hsuf : [10].isSuffixOf (lineOf (A ++ 10 :: r)) = true := by rw [hl1, List.isSuffixOf_iff_suffix]; exact List.suffix_append _ _
      have hcut : cutS (lineOf (A ++ 10 :: r)) [10] = A := by
        unfold cutS; rw [if_pos hsuf, hl1]; simp
      rw [hl2] at u3 ⊢
      rw [hcut] at wtk ⊢
      have hrl := rline_eq (rest := r) hA
      by_cases hw4 : (splitB A).length = 4
      · have hw4' : ((splitB A).length : Int) = 4 := by omega
        have z0 : zerosD [.int .i64 0] 4 = z4 [] := rfl
        simp [f7.one, hsuf, hw4, z0]
        refine wpd_loop (fun (vs : List Nat) fr2 h8 => fr2.get 33 = some (.int .i64 (vs.length : Int)) ∧ vs.length ≤ 4 ∧ (∀ (i x : Nat), vs[i]? = some x → ∃ w, (splitB A)[i]? = some w ∧ numv w = some x) ∧ (∀ b, vs[1]? = some b → b ≤ 255) ∧ h8.get h7.next = some (.cells (z4 vs) 0 true 0 none) ∧ Fr h7.next h7 h8 ∧ h7.next < h8.next) (fun vs => 4 - vs.length) [] ⟨by simp, by simp, by simp, by simp, by simp [z4], (Fr.refl f7.one).nw (Nat.le_refl _) _, by simp⟩ ?_
        rintro vs fr2 h8 ⟨j33, hv4, hvn, hvb, jv, f8, n8⟩ hfe2
        have j2 := hfe2 2 rfl
        have j3 := hfe2 3 rfl
        have j4 := hfe2 4 rfl
        have j9 := hfe2 9 rfl
        have j31 := hfe2 31 rfl
        have j32 := hfe2 32 rfl
        simp [g2, g3, g4] at j2 j3 j4 j9 j31 j32
        have t0 := (f8.get _ (by omega)).trans u0
        have t1 := (f8.get _ (by omega)).trans u1
        have t2 := (f8.get _ (by omega)).trans u2
        have t3 := (f8.get _ (by omega)).trans u3
        have tw := (f8.get _ wlt).trans wg
        have tL := (f8.get _ (by omega)).trans hL7
        have sl8 : SlG none 4 (h4.next + 1) h8 vb (encsN P) P.length := sl7.of_get f8.next fun g hg1 hg2 => f8.get g hg2
        by_cases hk : vs.length < 4
        · have hk' : (vs.length : Int) < 4 := by omega
          obtain ⟨w, hw⟩ : ∃ w, (splitB A)[vs.length]? = some w := ⟨_, List.getElem?_eq_getElem (by omega)⟩
          have hwc : wc[vs.length]? = some (str w) := by
            have q : (wc.take (splitB A).length)[vs.length]? = some (str w) := by rw [wtk, List.getElem?_map, hw]; rfl
            rwa [List.getElem?_take, if_pos (by omega)] at q
          have hwl : w.length < 2 ^ 40 := by have := splitB_le A w (List.mem_of_getElem? hw); simp at hlen; omega
          simp [f8.one, j33, j31, j32, hk, hk', hw4, tw, hwc]
          refine (number_sp w hwl h8 f8.one (hg.fr (B := h.next) ⟨f8.one, by omega, fun b hb => (f8.get b (by omega)).trans (old7 b hb)⟩ (Nat.le_refl _))).mono ?_
          rintro _ h9 ⟨⟨n, rfl, hn⟩, f9⟩
          have n9 := f9.next
          have T0 := (f9.get _ (by omega)).trans t0
          have T1 := (f9.get _ (by omega)).trans t1
          have T9 := (f9.get _ (by omega)).trans tL
          have Tv := (f9.get _ (by omega)).trans jv
          have hz := z4_len vs hv4
          have hvn2 : ∀ m, numv w = some m → ∀ (i x : Nat), (vs ++ [m])[i]? = some x → ∃ w, (splitB A)[i]? = some w ∧ numv w = some x := by
            intro m hnv i x hx
            rcases Nat.lt_or_ge i vs.length with q | q
            · rw [List.getElem?_append_left q] at hx; exact hvn i x hx
            · rw [List.getElem?_append_right q] at hx
              have hi : i - vs.length = 0 := by
                rcases Nat.eq_zero_or_pos (i - vs.length) with z | z
                · exact z
                · rw [List.getElem?_eq_none (by simp; omega)] at hx; cases hx
              rw [hi] at hx; simp at hx; subst hx
              exact ⟨w, by rw [show i = vs.length by omega]; exact hw, hnv⟩
          cases hnv : numv w with
          | none =>
            have hoff := rparse_off on ht (by rw [hrl, pline_bad hw4 hw hnv]; rfl)
            simp [f9.one, j2, j3, T0, T1, T9, x1, x2, x3, x4]
            exact ⟨rL, by simp [T9, x1, x2], .inr ⟨rfl, ⟨hoff, ⟨_, by simp; rfl, LoopState.noConfusion, rfl⟩, by simp; omega, by simp [x3], by simp [x4], fun b hb => by simp [show ¬ b = h4.next by omega, show ¬ b = h.next + 1 by omega, show ¬ b = h.next by omega]; exact (f9.get b (by omega)).trans ((f8.get b (by omega)).trans (old7 b hb)), by simpa using f9.one⟩, by simpa using f9.one⟩⟩
          | some m =>
            have := hn m hnv
            subst this
            have hmle := numv_le hnv
            by_cases hk1 : vs.length = 1
            · by_cases hb : m ≤ 255
              · have hb' : ¬ (255 : Int) < m := by omega
                have w0 : IntKind.i64.wrap 2 = 2 := by decide
                have hzs := z4_set vs m hk
                rw [hk1] at hzs
                simp [f9.one, j2, j3, j33, j9, T0, T1, T9, Tv, x1, x2, x3, x4, hk1, hb, hb', w0, hz]
                refine ⟨vs ++ [m], by simp; omega, by simp; omega, by simp; omega, hvn2 m hnv, ?_, hzs, (f8.trans (f9.mono f8.next)).put (Nat.le_refl _) _, by omega⟩
                intro b hb3
                rw [List.getElem?_append_right (by omega)] at hb3
                simp [hk1] at hb3
                omega
              · have hb' : (255 : Int) < m := by omega
                rw [hk1] at hw
                have hoff := rparse_off on ht (by rw [hrl, pline_big hw4 hw hnv (by omega)]; rfl)
                simp [f9.one, j2, j3, T0, T1, T9, x1, x2, x3, x4, hk1, hb, hb']
                exact ⟨rL, by simp [T9, x1, x2], .inr ⟨rfl, ⟨hoff, ⟨_, by simp; rfl, LoopState.noConfusion, rfl⟩, by simp; omega, by simp [x3], by simp [x4], fun b hb => by simp [show ¬ b = h4.next by omega, show ¬ b = h.next + 1 by omega, show ¬ b = h.next by omega]; exact (f9.get b (by omega)).trans ((f8.get b (by omega)).trans (old7 b hb)), by simpa using f9.one⟩, by simpa using f9.one⟩⟩
            · have hk1' : ¬ (vs.length : Int) = 1 := by omega
              have w0 : IntKind.i64.wrap ((vs.length : Int) + 1) = ((vs.length + 1 : Nat) : Int) := wrap_succ (by omega)
              simp [f9.one, j2, j3, j33, j9, T0, T1, T9, Tv, x1, x2, x3, x4, hk1, hk1', w0, hz, hk]
              refine ⟨by omega, vs ++ [m], by simp; omega, by simp, by simp; omega, hvn2 m hnv, ?_, z4_set vs m hk, (f8.trans (f9.mono f8.next)).put (Nat.le_refl _) _, by omega⟩
              intro b hb3
              rcases Nat.lt_or_ge 1 vs.length with q | q
              · rw [List.getElem?_append_left q] at hb3; exact hvb b hb3
              · rw [List.getElem?_append_right (by omega)] at hb3
                have : vs.length = 0 := by omega
                simp [this] at hb3
        · have hk' : ¬ (vs.length : Int) < 4 := by omega
          obtain ⟨va, vb', vc, vd, rfl, hb255, hpl⟩ := pline_good hw4 (by omega) hvn hvb
          rw [hpl] at hrl
          have hon := rparse_on on ht hrl
          have hb2 : IntKind.u8.wrap (vb' : Int) = vb' := wrap_u8 (by omega) (by omega)
          have z1 : zerosD [.int .i64 0] 1 = [.int .i64 0] := rfl
          simp [f8.one, j33, j32, hk, hk', hw4, j4, j9, t2, jv, z4, hb2, zerN, -appS_some]
          refine (sl8.nw _).app (by simp) (by simp; omega) (by rfl) (by decide) (by rfl) (by omega) (by decide) (.inl rfl) ?_
          intro v9 h9 sl9 f9
          have n9 := f9.next
          simp at n9
          have T2 : h9.get (h.next + 2) = some (.cells [vb] 0 true 0 none) := by rw [f9.get _ (by omega), get_nw, if_neg (by omega)]; exact t2
          have T9 : h9.get h4.next = some (.loop rL) := by rw [f9.get _ (by omega), get_nw, if_neg (by omega)]; exact tL
          have T3 : h9.get (h.next + 3) = some (.cells [str r] 0 true 0 none) := by rw [f9.get _ (by omega), get_nw, if_neg (by omega)]; exact t3
          have T8 : ∀ b, b < h.next + 2 → h9.get b = h4.get b := by
            intro b hb
            rw [f9.get _ (by omega), get_nw, if_neg (by omega)]
            exact (f8.get b (by omega)).trans ((p7 b (by omega) (by omega) (by omega)).trans (hh b (by omega)))
          have x5 : ¬ h4.next = h.next + 2 := by omega
          have x6 : ¬ h.next + 2 = h4.next := by omega
          have x7 : ¬ h.next + 3 = h4.next := by omega
          obtain ⟨av, rfl⟩ := sl9.slice
          simp [f9.one, j4, T2, T9, x5]
          refine ⟨P ++ [mkNd va vb' vc vd], hon, by simp at hlen ⊢; omega, by omega, hLs, by rw [if_neg x7]; exact T3, .slice av (P.length + 1) (P.length + 1), by rw [if_neg x6], ?_, fun b hb => ?_⟩
          · have q := sl9.of_get (h' := (h9.put (h.next + 2) (.cells [.slice av (P.length + 1) (P.length + 1)] 0 true 0 none)).put h4.next (.loop { rL with state := .ready, pending := none })) (by simp) (fun g hg hg2 => by rw [H.get_put, if_neg (by omega), H.get_put, if_neg (by omega)])
            exact q.eq (by simp [encN, mkNd]) (by simp)
          · rw [if_neg (by omega), if_neg (by omega)]; exact T8 b hb
      · have hw4' : ¬ ((splitB A).length : Int) = 4 := by omega
        have hp0 : pline A = none := by
          unfold pline
          split
          · rename_i q; rw [q] at hw4; exact absurd rfl hw4
          · rfl
        rw [hp0] at hrl
        have hoff := rparse_off on ht hrl
        simp [f7.one, hsuf, hw4, hw4', g2, g3, u0, u1, hL7, x1, x2, x3, x4]
        exact ⟨rL, by simp [hL7, x1, x2], .inr ⟨rfl, ⟨hoff, ⟨_, by simp; rfl, LoopState.noConfusion, rfl⟩, by simp; omega, by simp [x3], by simp [x4], fun b hb => by simp [show ¬ b = h4.next by omega, show ¬ b = h.next + 1 by omega, show ¬ b = h.next by omega]; exact old7 b hb, by simpa using f7.one⟩, by simpa using f7.one⟩⟩
  · refine ⟨[], .slice none 0 0, by simp, by simp, by simp, by simp, by simp, ?_, ?_, SlG.nil .., fun b hb => by rw [get_nw, if_neg (by omega)]⟩
    · rw [get_nw, if_neg (by omega)]; exact k3
    · rw [get_nw, if_neg (by omega)]; exact k2
  · rintro r h' (⟨P, vb, on, hlen, o, hn, hgL, q3, q2, sl, hh⟩ | ⟨hnone, ⟨r2, hr2, hs2, hp2⟩, hn, q0, q1, hh, o⟩)
    · refine ⟨L, .normal, hgL, by rw [← hL]; exact LoopState.noConfusion, by rw [← hL]; rfl, ?_⟩
      have x2 : ¬ h.next + 2 = h4.next := by omega
      simp [g2, g3, g4, q2, o, x2]
      have hp : rparseT s = some P := by rw [← on]; simp
      generalize hH5 : h'.put h4.next (.loop _) = h5
      have n5 : h5.next = h'.next := by rw [← hH5]; simp
      have o5 : h5.one = [] := by rw [← hH5]; simpa using o
      have p5 : ∀ b, b < h4.next → h5.get b = h'.get b := by intro b hb; rw [← hH5, H.get_put, if_neg (by omega)]
      have sl5 : SlG none 4 (h4.next + 1) h5 vb (encsN P) P.length := by rw [← hH5]; exact sl.put (by omega) _
      have hf5 : Fr h.next h h5 := ⟨o5, by omega, fun b hb => (p5 b (by omega)).trans ((hh b (by omega)).trans (kold b hb))⟩
      have hP20 : P.length < 2 ^ 20 := by omega
      refine (fit_sp P 0 vb hP20 h5 o5 (RdN.of sl5)).mono ?_
      rintro _ h6 ⟨rfl, f6⟩
      have hw : wrongN P 0 = if fitN P then 0 else 60 := by
        unfold wrongN
        cases P with
        | nil => rfl
        | cons x P =>
          have hn : ¬ ((0 : Int) < 0 ∨ ((x :: P).length : Int) ≤ 0) := by simp only [List.length_cons]; omega
          rw [if_neg hn]
      have r0 : h6.get h.next = some (.cells [.slice none 0 0] 0 true 0 none) := (f6.get _ (by omega)).trans ((p5 _ (by omega)).trans ((hh _ (by omega)).trans k0))
      have r1 : h6.get (h.next + 1) = some (.cells [.int .i64 0] 0 true 0 none) := (f6.get _ (by omega)).trans ((p5 _ (by omega)).trans ((hh _ (by omega)).trans k1))
      have r2 : h6.get (h.next + 2) = some (.cells [vb] 0 true 0 none) := (f6.get _ (by omega)).trans ((p5 _ (by omega)).trans q2)
      have f56 := hf5.trans (f6.mono (by omega))
      cases hfit : fitN P with
      | false =>
        have e2 : parseE s = 60 := by unfold parseE; rw [hp]; simp [hfit]
        have e3 : parseL s = [] := by unfold parseL; rw [hp]; simp [hfit]
        rw [hfit] at hw
        simp [f6.one, hw, g2, g3, g4, r0, r1, r2, e2, e3]
        exact ⟨.inl ⟨rfl, rfl⟩, (f56.put (Nat.le_refl _) _).put (by omega) _⟩
      | true =>
        have e2 : parseE s = 0 := by unfold parseE; rw [hp]; simp [hfit]
        have e3 : parseL s = P := by unfold parseL; rw [hp]; simp [hfit]
        rw [hfit] at hw
        have hP0 : 0 < P.length := by
          cases P with
          | nil => cases hfit
          | cons x P => simp
        obtain ⟨b, cap, st, own, fz, ty, rfl, a2, a3, a4, a5⟩ := ((RdN.of sl5).mono f6).ne hP0
        simp [f6.one, hw, g2, g3, g4, r0, r1, r2, e2, e3]
        refine (Clip_sp P b cap a2 hP20 h6 f6.one _ st fz a4 own ty a3).mono ?_
        rintro _ h7 ⟨rfl, rfl⟩
        simp [f6.one, g2, g3, g4, r0, r1, r2]
        have hb := (sl5.lt b _ _ rfl).1
        exact ⟨.inr ⟨b, P.length, st, own, fz, ty, rfl, Nat.le_refl _, by rw [H.get_put, if_neg (by omega), H.get_put, if_neg (by omega)]; exact a3, a4, by simpa using a5⟩, (f56.put (Nat.le_refl _) _).put (by omega) _⟩
    · refine ⟨r2, .ret, hr2, hs2, by rw [hp2]; rfl, ?_⟩
      have e2 : parseE s = 61 := by unfold parseE; rw [hnone]
      have e3 : parseL s = [] := by unfold parseL; rw [hnone]
      simp [g2, g3, q0, q1, o, show ¬ h.next = h4.next by omega, show ¬ h.next + 1 = h4.next by omega, e2, e3]
      exact ⟨.inl ⟨rfl, rfl⟩, o, by simp; omega, fun b hb => by rw [H.get_put, if_neg (by omega)]; exact hh b hb⟩
end Go.Dm
