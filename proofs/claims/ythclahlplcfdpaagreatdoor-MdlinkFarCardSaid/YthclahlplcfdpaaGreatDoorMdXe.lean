/- What far labels say: nothing. -/
import Derived.Test.YthclahlplcfdpaaGreatDoorMdXb
import Derived.Test.YthclahlplcfdpaaGreatDoorMdXc
set_option linter.unusedVariables false
set_option linter.unusedSimpArgs false
namespace Go.Dm
open Go.Proofs
/-- A row of own texts, or none yet. -/
def Gath (B : Nat) (h : H) (v : Value) (l : List (List UInt8)) : Prop := (v = .slice none 0 0 ∧ l = []) ∨ (l ≠ [] ∧ SlC none 1 B h v (l.map str) l.length)
theorem Gath.of_get {B : Nat} {h h' : H} {v : Value} {l : List (List UInt8)} (s : Gath B h v l) (hn : h.next ≤ h'.next) (hg : ∀ g, B ≤ g → g < h.next → h'.get g = h.get g) : Gath B h' v l := s.imp id fun ⟨a, b⟩ => ⟨a, b.of_get hn hg⟩
theorem Gath.rd {B : Nat} {h : H} {v : Value} {l : List (List UInt8)} (s : Gath B h v l) : RdS h v l := by
  rcases s with s | ⟨_, g, cap, c, a1, a2, a3, a4, a5, a6, a7⟩
  · exact .inl ⟨none, s⟩
  · rw [Nat.mul_one] at a7
    exact .inr ⟨g, cap, c, 1, true, 0, none, a1, a2, a5, a4, a7, .inr rfl⟩
theorem Gath.up {B C : Nat} {h : H} {v : Value} {l : List (List UInt8)} (g : Gath C h v l) (hb : B ≤ C) : Gath B h v l := g.imp id fun ⟨a, g, cp, c, s1, s2, s3, s4⟩ => ⟨a, g, cp, c, s1, s2, Nat.le_trans hb s3, s4⟩
theorem Gath.blk {B : Nat} {h : H} {v : Value} {l : List (List UInt8)} (s : Gath B h v l) : ∀ g x y, v = .slice (some ⟨g, 0, none⟩) x y → B ≤ g ∧ g < h.next := by
  intro g x y e
  rcases s with ⟨rfl, _⟩ | ⟨_, g', cap, c, a1, a2, a3, a4, _⟩
  · cases e
  · rw [a1] at e; cases e; exact ⟨a3, a4⟩
theorem RdS.of_blk {h h' : H} {v : Value} {l : List (List UInt8)} (r : RdS h v l) (hn : h.next ≤ h'.next) (hg : ∀ g x y, v = .slice (some ⟨g, 0, none⟩) x y → h'.get g = h.get g) : RdS h' v l := by
  rcases r with r | ⟨b, cap, c, st, own, fz, ty, a1, a2, a3, a4, a5⟩
  · exact .inl r
  · exact .inr ⟨b, cap, c, st, own, fz, ty, a1, a2, (hg b _ _ a1).trans a3, Nat.lt_of_lt_of_le a4 hn, a5⟩
theorem src_rd {h : H} {x : Value} {X : List (List UInt8)} (r : RdS h x X) : srcD 1 x h = some (X.length, X.map str) := by
  rcases r with ⟨a, rfl, rfl⟩ | ⟨b, cap, c, st, own, fz, ty, rfl, a2, a3, a4, a5, a6⟩
  · cases a <;> rfl
  · have hl := congrArg List.length a5
    simp at hl
    by_cases h0 : X.length = 0
    · have : X = [] := List.eq_nil_of_length_eq_zero h0
      subst this
      rfl
    · simp only [srcD_some, h0, if_false]
      rcases a6 with rfl | rfl <;> simp [readD, a3, a5, h0] <;> omega
theorem app_eq {h : H} {v x : Value} {X : List (List UInt8)} (r : srcD 1 x h = some (X.length, X.map str)) : appendD E0 [26, 26] v x h = appS none 9 1 16 v X.length (X.map str) h := by
  rw [appendD_eq]
  simp [r]
/-- Labels go behind those that came. -/
theorem app_gath {B : Nat} {h : H} {v x : Value} {O X : List (List UInt8)} (ga : Gath B h v O) (rx : srcD 1 x h = some (X.length, X.map str)) (h1 : h.one = []) (hB : B ≤ h.next) (hl : O.length + X.length < 2 ^ 30) {K : VPost}
    (hK : ∀ v' h', Gath B h' v' (O ++ X) → Fr B h h' → h'.next ≤ h.next + 1 → (∀ b, b < h.next → (∀ g x y, v = .slice (some ⟨g, 0, none⟩) x y → g ≠ b) → h'.get b = h.get b) → (∀ g x y, v' = .slice (some ⟨g, 0, none⟩) x y → (∃ x y, v = .slice (some ⟨g, 0, none⟩) x y) ∨ g = h.next) → K v' h') :
    OptW (appendD E0 [26, 26] v x h) K := by
  rw [app_eq rx]
  rcases ga with ⟨rfl, rfl⟩ | ⟨e0, sl⟩
  · rw [appS_nil]
    by_cases h0 : X.length = 0
    · have hX : X = [] := List.eq_nil_of_length_eq_zero h0
      subst hX
      rw [if_pos (show ([] : List (List UInt8)).length = 0 from rfl), OptW.some]
      exact hK _ _ (.inl ⟨rfl, rfl⟩) (Fr.refl h1) (Nat.le_succ _) (fun _ _ _ => rfl) (fun g x y e => by cases e)
    · rw [if_neg h0, if_pos ⟨by omega, by omega⟩, OptW.some, addr_one h h1, new_one _ _ h1]
      refine hK _ _ (.inr ⟨fun e => h0 (by rw [List.nil_append] at e; rw [e]; rfl), h.next, X.length, X.map str, rfl, Nat.le_refl _, hB, by simp, by simp, by simp, by rw [Nat.mul_one]; exact List.take_of_length_le (by simp)⟩) ((Fr.refl h1).nw hB _) (by simp) (fun b hb _ => by rw [get_nw, if_neg (by omega)]) (fun g x y e => by cases e; exact .inr rfl)
  · by_cases h0 : X.length = 0
    · have hX : X = [] := List.eq_nil_of_length_eq_zero h0
      subst hX
      obtain ⟨g, cap, c, rfl, s2, s3, s4, s5, s6, s7⟩ := id sl
      rw [appS_some, if_pos (show ([] : List (List UInt8)).length = 0 from rfl), OptW.some]
      refine hK _ _ (.inr ⟨by simpa using e0, by simpa using sl⟩) (Fr.refl h1) (Nat.le_succ _) (fun _ _ _ => rfl) (fun g x y e => by cases e; exact .inl ⟨_, _, rfl⟩)
    · refine SlC.app sl h1 hB (by simp) h0 (by simp) (by rw [List.all_map]; exact List.all_eq_true.2 fun _ _ => rfl) (by omega) (by omega) (.inl rfl) ?_
      intro v' h' q1 q2 q3 q4 q5
      refine hK v' h' (.inr ⟨fun e => e0 (List.append_eq_nil_iff.1 e).1, ?_⟩) q2 q3 q4 q5
      rw [List.length_append, List.map_append]
      exact q1
/-- Those of the known labels that are mentioned. -/
def fewL (M ks : List (List UInt8)) : List (List UInt8) := M.flatMap fun x => ks.filter fun y => decide (x = y)
def moreL (M ks os : List (List UInt8)) : List (List UInt8) := ks ++ os.filter fun o => !decide (o ∈ M)
theorem few_mem {M ks : List (List UInt8)} {x : List UInt8} (hx : x ∈ M) : x ∈ fewL M ks ↔ x ∈ ks := by
  unfold fewL
  simp only [List.mem_flatMap, List.mem_filter, decide_eq_true_eq]
  exact ⟨fun ⟨_, _, h, _⟩ => h, fun h => ⟨x, hx, h, rfl⟩⟩
theorem more_mem {M ks os : List (List UInt8)} {x : List UInt8} (hx : x ∈ M) : x ∈ moreL M ks os ↔ x ∈ ks := by
  unfold moreL
  simp only [List.mem_append, List.mem_filter, Bool.not_eq_true', decide_eq_false_iff_not]
  exact ⟨fun h => h.elim id fun ⟨_, q⟩ => absurd hx q, .inl⟩
theorem few_len (ks : List (List UInt8)) : ∀ M : List (List UInt8), (fewL M ks).length ≤ M.length * ks.length
  | [] => by simp [fewL]
  | x :: M => by
    have h1 := few_len ks M
    have h2 : (ks.filter fun y => decide (x = y)).length ≤ ks.length := List.length_filter_le _ _
    have h3 : (fewL (x :: M) ks).length = (ks.filter fun y => decide (x = y)).length + (fewL M ks).length := by simp [fewL]
    rw [h3, List.length_cons, Nat.succ_mul]
    omega
theorem lks_same {l : List UInt8} {a e : Int} {ks ns : List (List UInt8)} (h : ∀ x ∈ mtL (pE l e) a, x ∈ ns ↔ x ∈ ks) : lksOf l a e ns = lksOf l a e ks := by
  unfold lksOf
  refine lksL_congr fun h0 j n hj hr => ?_
  exact decide_eq_decide.2 (h _ ((mtL_mem _ _ _).2 ⟨h0, j, n, hj, hr, rfl⟩))
theorem mtL_len (l : List UInt8) (e a : Int) : (mtL (pE l e) a).length ≤ l.length := by
  have h1 := riseL_len (mtA (pE l e) a)
  have h2 : (mtA (pE l e) a).length ≤ (pE l e).length := by
    unfold mtA
    split
    · simp
    · exact Nat.le_trans (mtO_len _ _ _) (by omega)
  have h3 := pE_len l e
  have h4 := eE_len l e
  unfold mtL
  omega
section
variable {h : H}
set_option maxRecDepth 100000 in
set_option maxHeartbeats 8000000 in
theorem law_Far (l : List UInt8) (from_ e : Int) (ks : List (List UInt8)) (kv : Value) (os : List (List UInt8)) (ov : Value) (hk : RdS h kv ks) (ho : RdS h ov os) (h1 : h.one = []) (g : GmH h) :
    CallW E0 X0 (.fn 8) [str l, .int .i64 from_, .int .i64 e, kv, ov] h (fun v _ => v = .bool true) := by
  refine CallW.body efn8 rfl rfl rfl [] (by kernel_rfl) ?_
  obtain ⟨ka, kc, rfl⟩ := hk.sl
  obtain ⟨oa, oc, rfl⟩ := ho.sl
  by_cases c1 : 300 < l.length
  · simp [Tryz.f8, h1, c1]
  by_cases c2 : 30 < ks.length
  · simp [Tryz.f8, h1, c1, c2]
  by_cases c3 : 30 < os.length
  · simp [Tryz.f8, h1, c1, c2, c3]
  simp [-wpd_seq, Tryz.f8, h1]
  iterate ((repeat rw [wpd_seq]); simp [-wpd_seq, h1, c1, c2, c3])
  refine (Mentions_sp l (by omega) from_ e h1 g).mono ?_
  rintro vM h2 ⟨hM, hF2⟩
  have hMl := mtL_len l e from_
  obtain ⟨M, hMM⟩ : ∃ M, M = mtL (pE l e) from_ := ⟨_, rfl⟩
  rw [← hMM] at hM hMl
  have hfew : lksOf l from_ e (fewL M ks) = lksOf l from_ e ks := lks_same fun x hx => few_mem (hMM ▸ hx)
  have hmore : lksOf l from_ e (moreL M ks os) = lksOf l from_ e ks := lks_same fun x hx => more_mem (hMM ▸ hx)
  clear hMM
  obtain ⟨ma, mc, rfl⟩ := hM.sl
  have h21 := hF2.one
  have hk2 := hk.fr hF2
  have ho2 := ho.fr hF2
  have g2 := GmH.fr g hF2 g.2
  clear hk ho h1 g hF2
  iterate ((repeat rw [wpd_seq]); simp [-wpd_seq, -appendD_eq, h21])
  refine app_gath (B := h2.next) (O := []) (.inl ⟨rfl, rfl⟩) (src_rd hk2) h21 (Nat.le_refl _) (by simp; omega) ?_
  intro vm h3 hm hF3 _ _ _
  rw [List.nil_append] at hm
  have h31 := hF3.one
  iterate ((repeat rw [wpd_seq]); simp [-wpd_seq, -appendD_eq, h31])
  refine wpd_loop (fun (i : Nat) fr h' => fr.get 14 = some (.int .i64 i) ∧ i ≤ M.length ∧ (∃ vf, fr.get 12 = some vf ∧ Gath h3.next h' vf (fewL (M.take i) ks)) ∧ Fr h3.next h3 h') (fun i => M.length - i) 0 ⟨by simp, Nat.zero_le _, ⟨_, by simp, .inl ⟨rfl, rfl⟩⟩, Fr.refl h31⟩ ?_
  rintro i fr h4 ⟨k14, hi, ⟨vf, k12, hf4⟩, hF4⟩ hf
  have k0 := hf 0 rfl
  have k1 := hf 1 rfl
  have k2 := hf 2 rfl
  have k3 := hf 3 rfl
  have k4 := hf 4 rfl
  have k11 := hf 11 rfl
  have k13 := hf 13 rfl
  simp at k0 k1 k2 k3 k4 k11 k13
  clear hf
  have h41 := hF4.one
  have hF24 := hF3.trans (hF4.mono hF3.next)
  have hlenT : ∀ n, (fewL (M.take n) ks).length ≤ 300 * 30 := fun n => by
    have h5 := few_len ks (M.take n)
    have h6 : (M.take n).length * ks.length ≤ 300 * 30 := Nat.mul_le_mul (by simp; omega) (by omega)
    omega
  by_cases ci : i < M.length
  · have hw : IntKind.i64.wrap ((i : Int) + 1) = (i : Int) + 1 := wrap_succ (by omega)
    iterate ((repeat rw [wpd_seq]); simp [-wpd_seq, -appendD_eq, h41, k14, k11, ci])
    refine wpd_loop (fun (k : Nat) fr h' => fr.get 15 = some (.int .i64 k) ∧ k ≤ ks.length ∧ (∃ vf, fr.get 12 = some vf ∧ Gath h3.next h' vf (fewL (M.take i) ks ++ (ks.take k).filter fun y => decide (M[i] = y))) ∧ Fr h3.next h3 h') (fun k => ks.length - k) 0 ⟨by simp, Nat.zero_le _, ⟨vf, by simp [k12], by simpa using hf4⟩, hF4⟩ ?_
    rintro k fr2 h5 ⟨j15, hkl, ⟨vf2, j12, hf5⟩, hF5⟩ hf
    have j3 := hf 3 rfl
    have j11 := hf 11 rfl
    have j14 := hf 14 rfl
    simp [k3, k11, k14] at j3 j11 j14
    clear hf
    have h51 := hF5.one
    have hF25 := hF3.trans (hF5.mono hF3.next)
    by_cases ck : k < ks.length
    · have hwk : IntKind.i64.wrap ((k : Int) + 1) = (k : Int) + 1 := wrap_succ (by omega)
      obtain ⟨gb, cap, cs, b1, b2, b3, b4, e1, b5, b6, b7⟩ := (hM.fr hF25).at ci
      cases e1
      obtain ⟨gb', cap', cs', b1', b2', b3', b4', e1, b5', b6', b7'⟩ := (hk2.fr hF25).at ck
      cases e1
      have hts : (ks.take (k + 1)).filter (fun y => decide (M[i] = y)) = (ks.take k).filter (fun y => decide (M[i] = y)) ++ (if M[i] = ks[k] then [ks[k]] else []) := by
        rw [List.take_succ_eq_append_getElem ck, List.filter_append]
        congr 1
        by_cases q : M[i] = ks[k] <;> simp [q]
      by_cases hx : M[i] = ks[k]
      · rw [if_pos hx] at hts
        iterate ((repeat rw [wpd_seq]); simp [-wpd_seq, -appendD_eq, h51, j3, j11, j12, j14, j15, ci, ck, b5, b6, b5', b6', hx, hwk, zerosD, List.range, List.range.loop])
        have hFn : Fr h3.next h5 (h5.nw (.cells [str ks[k]] 1 true 0 none)) := (Fr.refl h51).nw hF5.next _
        have hrn : RdS (h5.nw (.cells [str ks[k]] 1 true 0 none)) (.slice (some ⟨h5.next, 0, none⟩) 1 1) [ks[k]] := .inr ⟨h5.next, 1, [str ks[k]], 1, true, 0, none, rfl, Nat.le_refl _, by simp, by simp, rfl, .inr rfl⟩
        refine app_gath (hf5.of_get hFn.next fun gg q1 q2 => by rw [get_nw, if_neg (by omega)]) (src_rd hrn) hFn.one (Nat.le_trans hF5.next hFn.next) ?_ ?_
        · have h7 := hlenT i
          have h8 := List.length_filter_le (fun y => decide (M[i] = y)) (ks.take k)
          simp at h8 ⊢
          omega
        intro v6 h6 q1 q2 _ _ _
        have hF6 := (hF5.trans hFn).trans q2
        simp [q2.one, j15, hwk]
        refine ⟨k + 1, by omega, rfl, by omega, ?_, hF6⟩
        rw [hx] at hts q1
        rw [hts, ← List.append_assoc]
        exact q1
      · rw [if_neg hx, List.append_nil] at hts
        simp [-appendD_eq, h51, j3, j11, j12, j14, j15, ci, ck, b5, b6, b5', b6', hx, hwk]
        refine ⟨k + 1, by omega, rfl, by omega, ?_, hF5⟩
        rw [hts]
        exact hf5
    · have hkk : k = ks.length := by omega
      have hcat : fewL (M.take (i + 1)) ks = fewL (M.take i) ks ++ ks.filter fun y => decide (M[i] = y) := by
        unfold fewL
        rw [List.take_succ_eq_append_getElem ci, List.flatMap_append]
        simp
      rw [hkk, List.take_length, ← hcat] at hf5
      simp [h51, j3, j14, j15, ck, hw]
      exact ⟨i + 1, by omega, rfl, by omega, ⟨vf2, j12, hf5⟩, hF5⟩
  have him : i = M.length := by omega
  subst him
  have hfl := hlenT M.length
  rw [List.take_length] at hf4 hfl
  clear hlenT
  iterate ((repeat rw [wpd_seq]); simp [-wpd_seq, -appendD_eq, h41, k14, k11])
  have hm4 : Gath h2.next h4 vm ks := hm.of_get hF4.next fun gg _ q => hF4.get gg q
  have hne4 : ∀ gg x y x' y', vm = .slice (some ⟨gg, 0, none⟩) x y → vf = .slice (some ⟨gg, 0, none⟩) x' y' → False := fun gg x y x' y' q q' => by
    have q1 := (hm.blk gg x y q).2
    have q2 := (hf4.blk gg x' y' q').1
    omega
  have hfr := hf4.rd
  have hfb := fun gg x y q => (hf4.blk gg x y q).2
  refine wpd_loop (fun (i : Nat) fr h' => fr.get 16 = some (.int .i64 i) ∧ i ≤ os.length ∧ (∃ vm, fr.get 13 = some vm ∧ Gath h2.next h' vm (ks ++ (os.take i).filter fun o => !decide (o ∈ M)) ∧ ∀ gg x y x' y', vm = .slice (some ⟨gg, 0, none⟩) x y → vf = .slice (some ⟨gg, 0, none⟩) x' y' → False) ∧ RdS h' vf (fewL M ks) ∧ (∀ gg x y, vf = .slice (some ⟨gg, 0, none⟩) x y → gg < h'.next) ∧ Fr h2.next h2 h') (fun i => os.length - i) 0 ⟨by simp, Nat.zero_le _, ⟨vm, by simp [k13], by simpa using hm4, hne4⟩, hfr, hfb, hF24⟩ ?_
  clear hfr hfb hne4 hm4
  rintro i fr5 h5 ⟨j16, hi, ⟨vm5, j13, hm5, hne5⟩, hfr5, hfb5, hF25⟩ hf
  have j0 := hf 0 rfl
  have j1 := hf 1 rfl
  have j2 := hf 2 rfl
  have j3 := hf 3 rfl
  have j4 := hf 4 rfl
  have j11 := hf 11 rfl
  have j12 := hf 12 rfl
  simp [k0, k1, k2, k3, k4, k11, k12] at j0 j1 j2 j3 j4 j11 j12
  clear hf
  have h51 := hF25.one
  by_cases ci : i < os.length
  · have hw : IntKind.i64.wrap ((i : Int) + 1) = (i : Int) + 1 := wrap_succ (by omega)
    iterate ((repeat rw [wpd_seq]); simp [-wpd_seq, -appendD_eq, h51, j16, j4, ci])
    refine wpd_loop (fun (k : Nat) fr h' => fr.get 18 = some (.int .i64 k) ∧ k ≤ M.length ∧ fr.get 17 = some (.bool (decide (os[i] ∉ M.take k))) ∧ h' = h5) (fun k => M.length - k) 0 ⟨by simp, Nat.zero_le _, by simp, rfl⟩ ?_
    rintro k fr6 h6 ⟨n18, hkl, n17, rfl⟩ hf
    have n4 := hf 4 rfl
    have n11 := hf 11 rfl
    have n12 := hf 12 rfl
    have n13 := hf 13 rfl
    have n16 := hf 16 rfl
    simp [j4, j11, j12, j13, j16] at n4 n11 n12 n13 n16
    clear hf
    by_cases ck : k < M.length
    · have hwk : IntKind.i64.wrap ((k : Int) + 1) = (k : Int) + 1 := wrap_succ (by omega)
      obtain ⟨gb, cap, cs, b1, b2, b3, b4, e1, b5, b6, b7⟩ := (hM.fr hF25).at ck
      cases e1
      obtain ⟨gb', cap', cs', b1', b2', b3', b4', e1, b5', b6', b7'⟩ := (ho2.fr hF25).at ci
      cases e1
      have hts : os[i] ∉ M.take (k + 1) ↔ os[i] ∉ M.take k ∧ M[k] ≠ os[i] := by
        rw [List.take_succ_eq_append_getElem ck, List.mem_append, List.mem_singleton, not_or]
        exact ⟨fun ⟨a, b⟩ => ⟨a, fun q => b q.symm⟩, fun ⟨a, b⟩ => ⟨a, fun q => b q.symm⟩⟩
      by_cases hx : os[i] ∉ M.take k
      · rw [decide_eq_true hx] at n17
        by_cases hy : M[k] = os[i]
        · simp [h51, n4, n11, n16, n17, n18, ci, ck, b5, b6, b5', b6', hy, hwk]
          refine ⟨k + 1, by omega, rfl, by omega, ?_⟩
          exact Classical.byContradiction fun q => (hts.1 q).2 hy
        · simp [h51, n4, n11, n16, n17, n18, ci, ck, b5, b6, b5', b6', hy, hwk]
          refine ⟨k + 1, by omega, rfl, by omega, ?_⟩
          exact hts.2 ⟨hx, hy⟩
      · rw [decide_eq_false hx] at n17
        simp [h51, n4, n11, n16, n17, n18, ci, ck, b5, b6, b5', b6', hwk]
        refine ⟨k + 1, by omega, rfl, by omega, ?_⟩
        exact Classical.byContradiction fun q => hx (hts.1 q).1
    · have hkm : k = M.length := by omega
      subst hkm
      rw [List.take_length] at n17
      have hts : (os.take (i + 1)).filter (fun o => !decide (o ∈ M)) = (os.take i).filter (fun o => !decide (o ∈ M)) ++ (if os[i] ∉ M then [os[i]] else []) := by
        rw [List.take_succ_eq_append_getElem ci, List.filter_append]
        congr 1
        by_cases q : os[i] ∈ M <;> simp [q]
      by_cases hx : os[i] ∉ M
      · rw [decide_eq_true hx] at n17
        rw [if_pos hx] at hts
        obtain ⟨gb', cap', cs', b1', b2', b3', b4', e1, b5', b6', b7'⟩ := (ho2.fr hF25).at ci
        cases e1
        iterate ((repeat rw [wpd_seq]); simp [-wpd_seq, -appendD_eq, h51, n4, n11, n13, n16, n17, n18, ci, b5', b6', zerosD, List.range, List.range.loop])
        have hFn : Fr h2.next h6 (h6.nw (.cells [str os[i]] 1 true 0 none)) := (Fr.refl h51).nw hF25.next _
        have hrn : RdS (h6.nw (.cells [str os[i]] 1 true 0 none)) (.slice (some ⟨h6.next, 0, none⟩) 1 1) [os[i]] := .inr ⟨h6.next, 1, [str os[i]], 1, true, 0, none, rfl, Nat.le_refl _, by simp, by simp, rfl, .inr rfl⟩
        refine app_gath (hm5.of_get hFn.next fun gg q1 q2 => by rw [get_nw, if_neg (by omega)]) (src_rd hrn) hFn.one (Nat.le_trans hF25.next hFn.next) ?_ ?_
        · have h8 := List.length_filter_le (fun o => !decide (o ∈ M)) (os.take i)
          simp at h8 ⊢
          omega
        intro v7 h7 q1 q2 _ q4 q5
        have hF7 := (hF25.trans hFn).trans q2
        have hn7 := q2.next
        simp at hn7
        simp [q2.one, n16, hw]
        refine ⟨i + 1, by omega, rfl, by omega, ⟨?_, ?_⟩, ?_, ?_, hF7⟩
        · rw [hts, ← List.append_assoc]
          exact q1
        · intro gg x y x' y' e1 e2
          rcases q5 gg x y e1 with ⟨x2, y2, e3⟩ | e3
          · exact hne5 gg x2 y2 x' y' e3 e2
          · have := hfb5 gg x' y' e2
            simp at e3
            omega
        · refine hfr5.of_blk (by omega) fun gg x y e1 => ?_
          have hb := hfb5 gg x y e1
          rw [q4 gg (by simp; omega) fun g2 x2 y2 e2 e3 => hne5 gg x2 y2 x y (e3 ▸ e2) e1, get_nw, if_neg (by omega)]
        · exact fun gg x y e1 => Nat.lt_of_lt_of_le (hfb5 gg x y e1) (by omega)
      · rw [decide_eq_false hx] at n17
        rw [if_neg hx, List.append_nil] at hts
        simp [h51, n4, n11, n13, n16, n17, n18, ci, hw]
        refine ⟨i + 1, by omega, rfl, by omega, ⟨?_, hne5⟩, hfr5, hfb5, hF25⟩
        rw [hts]
        exact hm5
  have him : i = os.length := by omega
  subst him
  rw [List.take_length] at hm5
  have hm5 : Gath h2.next h5 vm5 (moreL M ks os) := hm5
  have hml : (moreL M ks os).length < 2 ^ 31 := by
    have h8 := List.length_filter_le (fun o => !decide (o ∈ M)) os
    unfold moreL
    simp
    omega
  generalize moreL M ks os = S at hm5 hml hmore
  generalize fewL M ks = F at hfr5 hfl hfew
  have hk5 := hk2.fr hF25
  iterate ((repeat rw [wpd_seq]); simp [-wpd_seq, h51, j16, j4, j3, j2, j1, j0])
  refine (Lks_sp l (by omega) from_ e ks (by omega) _ hk5 h51 (GmH.fr g2 hF25 g2.2)).mono ?_
  rintro va h6 ⟨hra, hF6⟩
  have hF26 := hF25.trans (hF6.mono hF25.next)
  iterate ((repeat rw [wpd_seq]); simp [-wpd_seq, hF6.one, j12, j13, j2, j1, j0])
  refine (Lks_sp l (by omega) from_ e F (by omega) _ (hfr5.fr hF6) hF6.one (GmH.fr g2 hF26 g2.2)).mono ?_
  rintro vb h7 ⟨hrb, hF7⟩
  rw [hfew] at hrb
  have hF27 := hF26.trans (hF7.mono hF26.next)
  have hlL := lksOf_len l from_ e ks
  generalize lksOf l from_ e ks = L at hra hrb hmore hlL
  have hra7 : Row 5 h5.next h7 va (encLs L) L.length := hra.of_get hF7.next fun gg x y q => hF7.get gg (hra.rng gg x y q).2
  simp [hF7.one]
  refine (links_sp L L va vb (by omega) hra7 hrb hF7.one).mono ?_
  rintro _ h8 ⟨rfl, rfl⟩
  rw [decide_eq_true rfl]
  simp [hF7.one, j0, j1, j2, j13]
  refine (Lks_sp l (by omega) from_ e S hml _ ((hm5.rd.fr hF6).fr hF7) hF7.one (GmH.fr g2 hF27 g2.2)).mono ?_
  rintro vc h9 ⟨hrc, hF9⟩
  rw [hmore] at hrc
  have hra9 : Row 5 h5.next h9 va (encLs L) L.length := hra7.of_get hF9.next fun gg x y q => hF9.get gg (hra7.rng gg x y q).2
  simp [hF9.one]
  refine (links_sp L L va vc (by omega) hra9 hrc hF9.one).mono ?_
  rintro _ h10 ⟨rfl, rfl⟩
  rw [decide_eq_true rfl]
  simp [hF9.one]
  refine (reads_sp hF9.one (GmH.fr g2 (hF27.trans (hF9.mono hF27.next)) g2.2)).mono ?_
  rintro _ h11 ⟨rfl, hF11⟩
  simp [hF11.one]
end
end Go.Dm
