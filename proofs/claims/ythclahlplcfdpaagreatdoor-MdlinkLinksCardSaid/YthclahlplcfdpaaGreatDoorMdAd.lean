/- Links: the program's function. -/
import Derived.Test.YthclahlplcfdpaaGreatDoorMdAc
set_option linter.unusedVariables false
set_option linter.unusedSimpArgs false
namespace Go.Dm
open Go.Proofs
theorem pfx_two (a b : UInt8) (s : List UInt8) (k : Nat) (hk : k < s.length) : Lib.hasPrefix (s.drop k) [a, b] = decide (bt s k = a ∧ k + 1 < s.length ∧ bt s (k + 1) = b) := by
  rw [Bool.eq_iff_iff, decide_eq_true_eq]
  unfold Lib.hasPrefix
  rw [List.isPrefixOf_iff_prefix, drop_bt hk]
  by_cases h : k + 1 < s.length
  · rw [drop_bt h, List.cons_prefix_cons, List.cons_prefix_cons]
    simp only [List.nil_prefix, and_true, h, true_and]
    constructor
    · rintro ⟨rfl, rfl⟩; exact ⟨rfl, rfl⟩
    · rintro ⟨rfl, rfl⟩; exact ⟨rfl, rfl⟩
  · rw [List.drop_eq_nil_of_le (by omega), List.cons_prefix_cons]
    simp [h]
/-- What the loop keeps. -/
def LkI (B : Nat) (h2 : H) (s : List UInt8) (kn : List UInt8 → Bool) (last lf : Bool) (a : Int) (y : LS) (fr : T Value) (h' : H) : Prop :=
  ∃ (z : Int) (vo vs : Value), fr.get 14 = some (.int .i64 z) ∧ LM B h' s kn vo vs y.out y.op ∧ Fr B h2 h' ∧ y.out.length ≤ y.k ∧ y.op.length ≤ y.k ∧ y.out.length ≤ s.length ∧
    ((a < 0 ∧ z = a ∧ y = ⟨0, [], []⟩) ∨ (0 ≤ a ∧ z = (y.k : Int) ∧ LInv s a.toNat y ∧ lkRun kn last lf s s.length y = lkRun kn last lf s s.length ⟨a.toNat, [], []⟩))
theorem lks_done {kn : List UInt8 → Bool} {last lf : Bool} {s : List UInt8} {a : Int} {y : LS} {z : Int} (h : (a < 0 ∧ z = a ∧ y = ⟨0, [], []⟩) ∨ (0 ≤ a ∧ z = (y.k : Int) ∧ LInv s a.toNat y ∧ lkRun kn last lf s s.length y = lkRun kn last lf s s.length ⟨a.toNat, [], []⟩)) (hz : z < 0 ∨ (s.length : Int) ≤ z) : srtLk y.out = lksL kn last lf s a := by
  rw [← lks_srt]
  congr 1
  unfold lksO
  rcases h with ⟨h, _, rfl⟩ | ⟨h, hz', _, hr⟩
  · rw [if_pos h]
  · rw [if_neg (by omega), ← hr, lkRun_end _ _ _ _ _ (by omega)]
section
variable {h : H}
set_option maxRecDepth 100000 in
set_option maxHeartbeats 8000000 in
theorem Links_sp (l : List UInt8) (hl : l.length < 2 ^ 31) (from_ e : Int) (ns : List (List UInt8)) (hns : ns.length < 2 ^ 31) (nv : Value) (hnv : RdS h nv ns) (h1 : h.one = []) (g : GmH h) :
    CallW E0 X0 (.fn 13) [str l, .int .i64 from_, .int .i64 e, nv] h (fun v h' => Row 5 h.next h' v (encLs (lksL (fun x => decide (x ∈ ns)) (decide (eE l e = eN l)) (decide (lnN l < l.length)) (pE l e) from_)) (lksL (fun x => decide (x ∈ ns)) (decide (eE l e = eN l)) (decide (lnN l < l.length)) (pE l e) from_).length ∧ Fr h.next h h') := by
  refine CallW.body efn13 rfl rfl rfl [] (by kernel_rfl) ?_
  obtain ⟨na, ncp, rfl⟩ := hnv.sl
  simp [-wpd_seq, Tryz.f13, h1]
  (repeat rw [wpd_seq]); simp [-wpd_seq, h1]
  (repeat rw [wpd_seq]); simp [-wpd_seq, h1]
  refine (ahead0_sp l hl e h1 g).mono ?_
  rintro _ h2 ⟨rfl, rfl⟩
  obtain ⟨s, hs⟩ : ∃ s, s = pE l e := ⟨_, rfl⟩
  rw [← hs]
  simp [-wpd_seq, h1]
  (repeat rw [wpd_seq]); simp [-wpd_seq, h1]
  (repeat rw [wpd_seq])
  have hn : 10 ∉ s := hs ▸ pE_nlf l e
  have hsE : s.length = eE l e := by rw [hs, pE_len]
  have hsl : s.length < 2 ^ 31 := by have := eE_len l e; omega
  obtain ⟨kn, hkn⟩ : ∃ kn : List UInt8 → Bool, kn = fun x => decide (x ∈ ns) := ⟨_, rfl⟩
  obtain ⟨last, hlast⟩ : ∃ last, last = decide (eE l e = eN l) := ⟨_, rfl⟩
  obtain ⟨lf, hlf⟩ : ∃ lf, lf = decide (lnN l < l.length) := ⟨_, rfl⟩
  obtain ⟨L, hL⟩ : ∃ L, L = lksL kn last lf s from_ := ⟨_, rfl⟩
  rw [← hkn, ← hlast, ← hlf, ← hL]
  obtain ⟨B, hB⟩ : ∃ B, B = h2.next := ⟨_, rfl⟩
  rw [← hB]
  have hF3 : Fr B h2 ((h2.nw (.map [] 0)).nw (.cells [str s, .map (some B)] 0 true 0 none)) := ((Fr.refl h1).nw (by omega) _).nw (by simp; omega) _
  have hm3 : MapAt str ((h2.nw (.map [] 0)).nw (.cells [str s, .map (some B)] 0 true 0 none)) B (fun _ => none) := MapAt.new str (by simp [← hB])
  have hr3 : ((h2.nw (.map [] 0)).nw (.cells [str s, .map (some B)] 0 true 0 none)).get (B + 1) = some (.cells [str s, .map (some B)] 0 true 0 none) := by simp [← hB]
  have hn3 : ((h2.nw (.map [] 0)).nw (.cells [str s, .map (some B)] 0 true 0 none)).next = B + 2 := by simp [← hB]
  generalize ((h2.nw (.map [] 0)).nw (.cells [str s, .map (some B)] 0 true 0 none)) = h3 at hF3 hm3 hr3 hn3 ⊢
  refine wpd_loop (fun (i : Nat) fr h' => fr.get 30 = some (.int .i64 i) ∧ i ≤ ns.length ∧ Fr B h2 h' ∧ h'.next = B + 2 ∧ h'.get (B + 1) = some (.cells [str s, .map (some B)] 0 true 0 none) ∧ MapAt str h' B (fun k => if k ∈ ns.take i then some (knV true) else none)) (fun i => ns.length - i) 0 ⟨by simp, Nat.zero_le _, hF3, hn3, hr3, hm3.congr fun k => by simp⟩ ?_
  rintro i fr h4 ⟨g30, hi, hF4, hn4, hr4, hm4⟩ hf
  have g28 := hf 28 rfl
  have g29 := hf 29 rfl
  have g9 := hf 9 rfl
  simp at g28 g29 g9
  have h41 := hF4.one
  by_cases ci : i < ns.length
  · have hnv4 : RdS h4 (.slice na ns.length ncp) ns := hnv.of_get hF4.next fun b hb => hF4.get b (by omega)
    obtain ⟨b, cap, c, st, own, fz, ty, e1, e2, e3, e4⟩ := hnv4.at ci
    cases e1
    obtain ⟨h5, hput, hU, hm5⟩ := put_at ko_str und52 hm4 ns[i] (knV true)
    have hw : IntKind.i64.wrap ((i : Int) + 1) = (i : Int) + 1 := wrap_succ (by omega)
    have hput' : mapPutD E0 52 (.map (some B)) (str ns[i]) (.agg #[.bool true]) h4 = some h5 := hput
    have h51 : h5.one = [] := by rw [hU.one]; exact h41
    simp [-mapPutD_eq, g9, g28, g29, g30, h41, ci, e2, e3, hr4, hput', hw, h51]
    refine ⟨i + 1, by omega, by omega, by omega, ⟨h51, by rw [hU.next]; exact hF4.next, fun b hb => by rw [hU.get b (by omega)]; exact hF4.get b hb⟩, by rw [hU.next]; exact hn4, by rw [hU.get _ (by omega)]; exact hr4, hm5.congr fun k => ?_⟩
    rw [List.take_succ_eq_append_getElem ci]
    by_cases hk : k = ns[i]
    · rw [if_pos hk, if_pos (by rw [hk]; exact List.mem_append_right _ (List.mem_singleton.2 rfl))]
    · rw [if_neg hk]
      by_cases hk2 : k ∈ ns.take i
      · rw [if_pos hk2, if_pos (List.mem_append_left _ hk2)]
      · rw [if_neg hk2, if_neg (by rw [List.mem_append]; rintro (q | q); exact hk2 q; simp at q; exact hk q)]
  · have him : i = ns.length := by omega
    subst him
    have hmk : MapAt str h4 B (fun k => if kn k = true then some (knV true) else none) := hm4.congr fun k => by rw [List.take_length, hkn]; simp
    have hrd : RdOk h4 (B + 1) B s kn := ⟨hr4, hmk, by omega, by omega⟩
    clear hm4 hmk
    have g0 := hf 0 rfl
    have g1 := hf 1 rfl
    have g2 := hf 2 rfl
    simp at g0 g1 g2
    clear hf
    (repeat rw [wpd_seq]); simp [-wpd_seq, g29, g30, h41]
    (repeat rw [wpd_seq]); simp [-wpd_seq, g29, g30, h41]
    (repeat rw [wpd_seq]); simp [-wpd_seq, h41]
    (repeat rw [wpd_seq]); simp [-wpd_seq, h41]
    (repeat rw [wpd_seq]); simp [-wpd_seq, h41, g1]
    simp only [hn4]
    obtain ⟨h5, hh5⟩ : ∃ h5, h5 = (h4.nw (.cells [.slice none 0 0] 0 true 0 none)).nw (.cells [.slice none 0 0] 0 true 0 none) := ⟨_, rfl⟩
    rw [← hh5]
    have hF5 : Fr (B + 2) h4 h5 := by rw [hh5]; exact ((Fr.refl h41).nw (by omega) _).nw (by simp; omega) _
    have hF05 : Fr B h2 h5 := hF4.trans (hF5.mono (by omega))
    have hn5 : h5.next = B + 4 := by rw [hh5]; simp; omega
    have M0 : LM B h5 s kn (.slice none 0 0) (.slice none 0 0) [] [] := by
      refine ⟨hrd.fr hF5 (by omega) (by omega), ?_, ?_, .inl ⟨rfl, rfl, rfl⟩, .inl ⟨rfl, rfl, rfl⟩, fun g x y x' y' e => (by cases e), by omega, hF5.one⟩
      · rw [hh5]; simp [hn4]
      · rw [hh5]; simp [hn4]
    clear hh5
    have g5 : GmH h5 := GmH.fr g hF05 (by have := g.2; omega)
    (repeat rw [wpd_seq])
    refine wpd_loop (LkI B h2 s kn last lf from_) (fun y => s.length - y.k) ⟨from_.toNat, [], []⟩ ?_ ?_
    · refine ⟨from_, .slice none 0 0, .slice none 0 0, by simp, M0, hF05, Nat.zero_le _, Nat.zero_le _, Nat.zero_le _, ?_⟩
      by_cases q : from_ < 0
      · exact .inl ⟨q, rfl, by rw [show from_.toNat = 0 by omega]⟩
      · exact .inr ⟨by omega, by simp only; omega, LInv.init s from_.toNat, rfl⟩
    rintro y fr2 h6 ⟨z, vo, vs, g14, M, hF6, ho1, ho2, ho3, hy⟩ hf2
    have k0 := hf2 0 rfl
    have k2 := hf2 2 rfl
    have k9 := hf2 9 rfl
    have k12 := hf2 12 rfl
    have k13 := hf2 13 rfl
    simp at k0 k2 k9 k12 k13
    simp only [g0] at k0
    simp only [g2] at k2
    simp only [g9] at k9
    have h61 := M.one
    have hrb := M.rd.blk
    have htb := M.tb
    have g6 : GmH h6 := GmH.fr g hF6 (by have := g.2; omega)
    by_cases run : 0 ≤ z ∧ z < s.length
    rotate_left
    · have hfin : srtLk y.out = L := by rw [hL]; exact lks_done hy (by omega)
      have hso := sort_sp (B + 2) (B + 4) vo y.out (by omega) h61 htb (by omega) M.o
      by_cases hz : 0 ≤ z
      · have hz2 : ¬ z < s.length := fun q => run ⟨hz, q⟩
        (repeat rw [wpd_seq]); simp [-wpd_seq, hz, hz2, g14, k9, hrb, h61]
        (repeat rw [wpd_seq]); simp [-wpd_seq, h61]
        (repeat rw [wpd_seq]); simp [-wpd_seq, k12, htb, h61, mkIf_lk]
        refine hso.mono ?_
        rintro _ h7 ⟨rfl, hrow, hF7, hn7⟩
        have htb7 := (hF7.get (B + 2) (by omega)).trans htb
        simp [-wpd_seq, hF7.one]
        (repeat rw [wpd_seq]); simp [-wpd_seq, k12, htb7, hF7.one]
        rw [hfin] at hrow
        exact ⟨hrow.low (by omega), hF6.trans (hF7.mono (by omega))⟩
      · have hz2 : True := trivial
        (repeat rw [wpd_seq]); simp [-wpd_seq, hz, g14, k9, hrb, h61]
        (repeat rw [wpd_seq]); simp [-wpd_seq, h61]
        (repeat rw [wpd_seq]); simp [-wpd_seq, k12, htb, h61, mkIf_lk]
        refine hso.mono ?_
        rintro _ h7 ⟨rfl, hrow, hF7, hn7⟩
        have htb7 := (hF7.get (B + 2) (by omega)).trans htb
        simp [-wpd_seq, hF7.one]
        (repeat rw [wpd_seq]); simp [-wpd_seq, k12, htb7, hF7.one]
        rw [hfin] at hrow
        exact ⟨hrow.low (by omega), hF6.trans (hF7.mono (by omega))⟩
    · obtain ⟨z0, z1⟩ := run
      have hy2 : 0 ≤ from_ ∧ z = (y.k : Int) ∧ LInv s from_.toNat y ∧ lkRun kn last lf s s.length y = lkRun kn last lf s s.length ⟨from_.toNat, [], []⟩ := by
        rcases hy with ⟨q1, q2, _⟩ | q
        · omega
        · exact q
      obtain ⟨hp, rfl, hI, hR⟩ := hy2
      have hk : y.k < s.length := by omega
      clear hy
      have nxt : ∀ (y' : LS) (fr' : T Value) (h' : H) (vo' vs' : Value), lkStep kn last lf s y = y' → fr'.get 14 = some (.int .i64 y'.k) → LM B h' s kn vo' vs' y'.out y'.op → Fr B h2 h' → y'.out.length ≤ y.out.length + 1 → y'.op.length ≤ y.op.length + 1 →
          ∃ s', s.length - s'.k < s.length - y.k ∧ LkI B h2 s kn last lf from_ s' fr' h' := by
        intro y' fr' h' vo' vs' q1 q2 q3 q4 q5 q6
        have q7 := lkStep_le kn last lf hk
        rw [q1] at q7
        refine ⟨y', by omega, y'.k, vo', vs', q2, q3, q4, by omega, by omega, by omega, .inr ⟨hp, rfl, ?_, ?_⟩⟩
        · rw [← q1]; exact hI.step kn last lf hk
        · rw [← q1, ← lkRun_step kn last lf s y hk]; exact hR
      have hkE : y.k < eE l e := by omega
      have hk0 : (0 : Int) ≤ y.k := by omega
      have hcr := cRead_sp l hl y.k e hkE h61 g6
      rw [← hlast, ← hlf] at hcr
      have hsg : sg l y.k (eE l e) = s.drop y.k := by rw [hs]; rfl
      rw [hsg] at hcr
      (repeat rw [wpd_seq]); simp [-wpd_seq, g14, k9, hrb, h61, hk0, z1]
      (repeat rw [wpd_seq]); simp [-wpd_seq, h61, k0, k2, g14]
      refine hcr.mono ?_
      rintro _ h7 ⟨rfl, hF7⟩
      have h71 := hF7.one
      have M7 := M.fr hF7
      have hnx := M.nx
      have hF07 : Fr B h2 h7 := hF6.trans (hF7.mono (by omega))
      have g7 : GmH h7 := GmH.fr g6 hF7 g6.2
      obtain ⟨C, hC⟩ : ∃ C, C = cdN last lf (s.drop y.k) := ⟨_, rfl⟩
      have hCl : C.2 ≤ s.length := by
        have := cdN_len last lf (bt s y.k) (s.drop (y.k + 1))
        rw [← drop_bt hk, ← hC] at this
        simp at this
        omega
      rw [← hC]
      have hst : lkStep kn last lf s y = if C.1 = 0 ∧ C.2 = 1 then lkAt kn s y else ⟨y.k + C.2, y.out, y.op⟩ := by rw [hC]; rfl
      have wa : IntKind.i64.wrap ((y.k : Int) + 1) = (y.k : Int) + 1 := wrap_succ (by omega)
      have wa2 : IntKind.i64.wrap ((y.k : Int) + 2) = (y.k : Int) + 2 := wrap_i64 (by omega) (by omega)
      by_cases d1 : C.1 = 0
      rotate_left
      · rw [if_neg (fun q => d1 q.1)] at hst
        have d1' : ¬ (C.1 : Int) = 0 := by omega
        simp [cdV, h71, d1, d1', g14]
        exact nxt _ _ _ vo vs hst (by simp) M7 hF07 (by simp) (by simp)
      by_cases d2 : C.2 = 1
      rotate_left
      · rw [if_neg (fun q => d2 q.2)] at hst
        have d2' : ¬ (y.k : Int) + (C.2 : Nat) = (y.k : Int) + 1 := by omega
        simp [cdV, h71, d1, d2', g14, wa]
        exact nxt _ _ _ vo vs hst (by simp) M7 hF07 (by simp) (by simp)
      rw [if_pos ⟨d1, d2⟩] at hst
      have d1' : (C.1 : Int) = 0 := by omega
      have hrb7 := M7.rd.blk
      have htb7 := M7.tb
      have hob7 := M7.ob
      (repeat rw [wpd_seq]); simp [-wpd_seq, cdV, h71, d1, d2]
      (repeat rw [wpd_seq]); simp [-wpd_seq, h71, g14, wa]
      have hkl : y.k ≤ s.length := by omega
      have hki : (y.k : Int) ≤ s.length := by omega
      have hopl : y.op.length < 2 ^ 31 := by omega
      (repeat rw [wpd_seq]); simp [-wpd_seq]
      (repeat rw [wpd_seq]); simp [-wpd_seq, k9, hrb7, h71, g14, hkl, hki]
      refine (HasPrefix_sp (s.drop y.k) [33, 91]).mono ?_
      rintro _ h8 ⟨rfl, rfl⟩
      rw [pfx_two 33 91 s y.k hk]
      by_cases T : bt s y.k = 33 ∧ y.k + 1 < s.length ∧ bt s (y.k + 1) = 91
      · rw [decide_eq_true T]
        have hst2 : lkStep kn last lf s y = ⟨y.k + 2, y.out, y.op ++ [⟨y.k, y.k + 2, true, false⟩]⟩ := by rw [hst]; unfold lkAt; rw [if_pos T]
        simp [-wpd_seq, h71]
        (repeat rw [wpd_seq]); simp [-wpd_seq, k13, h71, g14, wa2]
        refine (push_sp (B + 3) (B + 4) vs y.op ⟨y.k, y.k + 2, true, false⟩ hopl h71 hob7 (by omega) M7.nx M7.p).mono ?_ |> fun x => by simpa [opV] using x
        rintro _ h9 ⟨rfl, v9, q1, q2, q3⟩
        obtain ⟨M9, hF9⟩ := M7.st q3 q1 (.inr q2)
        simp [M9.one, g14, wa2]
        exact nxt _ _ _ vo v9 hst2 (by simp) M9 (hF07.trans hF9) (by simp) (by simp)
      rw [decide_eq_false T]
      have hixk : idxB s y.k = some (.int .u8 (bt s y.k).toNat) := idxB_nat hk
      by_cases c91 : (bt s y.k).toNat = 91
      · have c91' : bt s y.k = 91 := UInt8.toNat_inj.1 c91
        have hst2 : lkStep kn last lf s y = ⟨y.k + 1, y.out, y.op ++ [⟨y.k, y.k + 1, false, false⟩]⟩ := by rw [hst]; unfold lkAt; rw [if_neg T, if_pos c91']
        simp [-wpd_seq, h71]
        (repeat rw [wpd_seq]); simp [-wpd_seq, k9, hrb7, h71, g14, hixk, eq_true c91]
        (repeat rw [wpd_seq]); simp [-wpd_seq, k13, h71, g14, wa]
        refine (push_sp (B + 3) (B + 4) vs y.op ⟨y.k, y.k + 1, false, false⟩ hopl h71 hob7 (by omega) M7.nx M7.p).mono ?_ |> fun x => by simpa [opV] using x
        rintro _ h9 ⟨rfl, v9, q1, q2, q3⟩
        obtain ⟨M9, hF9⟩ := M7.st q3 q1 (.inr q2)
        simp [M9.one, g14, wa]
        exact nxt _ _ _ vo v9 hst2 (by simp) M9 (hF07.trans hF9) (by simp) (by simp)
      have n91 : bt s y.k ≠ 91 := fun q => c91 (by rw [q]; rfl)
      by_cases c93 : (bt s y.k).toNat = 93
      rotate_left
      · have n93 : bt s y.k ≠ 93 := fun q => c93 (by rw [q]; rfl)
        have hst2 : lkStep kn last lf s y = ⟨y.k + 1, y.out, y.op⟩ := by rw [hst]; unfold lkAt; rw [if_neg T, if_neg n91, if_neg n93]
        simp [-wpd_seq, h71]
        (repeat rw [wpd_seq]); simp [-wpd_seq, k9, hrb7, h71, g14, hixk, c91]
        (repeat rw [wpd_seq]); simp [-wpd_seq, k9, hrb7, h71, g14, hixk, c93]
        exact nxt _ _ _ vo vs hst2 (by simp) M7 hF07 (by simp) (by simp)
      have c93' : bt s y.k = 93 := UInt8.toNat_inj.1 c93
      simp [-wpd_seq, h71]
      (repeat rw [wpd_seq]); simp [-wpd_seq, k9, hrb7, h71, g14, hixk, c91]
      (repeat rw [wpd_seq]); simp [-wpd_seq, k9, hrb7, h71, g14, hixk, eq_true c93]
      (repeat rw [wpd_seq]); simp [-wpd_seq, k13, h71]
      rcases List.eq_nil_or_concat y.op with hop | ⟨op', x, hop⟩
      · have hst2 : lkStep kn last lf s y = ⟨y.k + 1, y.out, y.op⟩ := by rw [hst]; unfold lkAt; rw [if_neg T, if_neg n91, if_pos c93', hop]; rfl
        have hvs : ∃ a c, vs = .slice a 0 c := by
          obtain ⟨a, c, q⟩ := M7.p.sl
          rw [hop] at q
          exact ⟨a, c, q⟩
        refine (pop_none (B + 3) vs h71 hob7 (by have := M7.nx; omega) hvs).mono ?_
        rintro _ h9 ⟨rfl, hF9⟩
        have hF9n := hF9.next
        simp [opV, hF9.one, wa]
        have hF10 : Fr h9.next h9 ((h9.nw (.cells [.int .i64 0, .int .i64 0, .bool false, .bool false] 0 true 0 none)).put h9.next (.cells [.int .i64 0, .int .i64 0, .bool false, .bool false] 0 true 0 none)) := ((Fr.refl hF9.one).nw (Nat.le_refl _) _).put (Nat.le_refl _) _
        have hMn := M7.nx
        exact nxt _ _ _ vo vs hst2 (by simp) ((M7.fr hF9).fr hF10) (hF07.trans ((hF9.mono (by omega)).trans (hF10.mono (by omega)))) (by simp) (by simp)
      · rw [List.concat_eq_append] at hop
        have hdl : y.op.dropLast = op' := by rw [hop]; simp
        have hgl : y.op.getLast? = some x := by rw [hop]; simp
        have hxo := hI.ops x (by rw [hop]; simp)
        have hx1 : 1 ≤ x.o := by have := hxo.o; split at this <;> omega
        have hx2 := hxo.l
        have hol : op'.length < y.op.length := by rw [hop]; simp
        have hpc := M7.p
        rw [hop] at hpc
        have hpc : SlC none 4 (B + 4) h8 vs (encO (op' ++ [x])) (op' ++ [x]).length := by
          rcases hpc with ⟨_, _, q⟩ | q
          · simp at q
          · exact q
        have hMn := M7.nx
        refine (pop_some (B + 3) (B + 4) vs op' x (by omega) h71 hob7 (by omega) hMn hpc).mono ?_
        rintro _ h9 ⟨rfl, v9, hg9, sl9, ⟨gv, yv, zv, evs, ev9⟩, h91, hn9, hk9⟩
        obtain ⟨M9, hF9⟩ := M7.st ⟨h91, hn9, fun b hb hb1 _ => hk9 b hb hb1, fun g x y e => .inl (by rw [ev9] at e; cases e; exact ⟨_, _, evs⟩)⟩ hg9 (.inr sl9)
        simp [-wpd_seq, opV, h91]
        obtain ⟨h10, hh10⟩ : ∃ h10, h10 = (h9.nw (.cells [.int .i64 0, .int .i64 0, .bool false, .bool false] 0 true 0 none)).put h9.next (.cells [.int .i64 x.f, .int .i64 x.o, .bool x.img, .bool x.bar] 0 true 0 none) := ⟨_, rfl⟩
        rw [← hh10]
        have hF10 : Fr h9.next h9 h10 := by rw [hh10]; exact ((Fr.refl h91).nw (Nat.le_refl _) _).put (Nat.le_refl _) _
        have hx10 : h10.get h9.next = some (.cells [.int .i64 x.f, .int .i64 x.o, .bool x.img, .bool x.bar] 0 true 0 none) := by rw [hh10]; simp
        have hn10 : h10.next = h9.next + 1 := by rw [hh10]; simp
        clear hh10
        have M10 := M9.fr hF10
        have hM9n := M9.nx
        have hF010 : Fr B h2 h10 := (hF07.trans hF9).trans (hF10.mono (by omega))
        have h101 := hF10.one
        cases hbar : x.bar with
        | true =>
          have hst2 : lkStep kn last lf s y = ⟨y.k + 1, y.out, op'⟩ := by rw [hst]; unfold lkAt; rw [if_neg T, if_neg n91, if_pos c93', hgl, hdl]; simp only; rw [if_pos hbar]
          rw [hbar] at hx10
          simp [h101, hx10, wa]
          exact nxt _ _ _ vo v9 hst2 (by simp) M10 hF010 (by simp) (by simp; omega)
        | false =>
          rw [hbar] at hx10
          have hnb : ¬ x.bar = true := by rw [hbar]; decide
          have hr10 := M10.rd
          have g10 : GmH h10 := GmH.fr g hF010 (by have := g.2; omega)
          (repeat rw [wpd_seq]); simp [-wpd_seq, h101, hx10]
          (repeat rw [wpd_seq]); simp [-wpd_seq, h101, k9, hx10, g14]
          have he := ends_sp s hsl hn kn (B + 1) B y.k x hx1 hx2 hk h101 g10 hr10
          unfold opV at he
          rw [hbar] at he
          refine he.mono ?_
          rintro _ h11 ⟨⟨z, rfl, hz⟩, hF11⟩
          have M11 := M10.fr hF11
          have h111 := hF11.one
          have hF011 : Fr B h2 h11 := hF010.trans (hF11.mono (by omega))
          have hx11 := (hF11.get h9.next (by omega)).trans hx10
          cases hen : endL kn s x.o y.k with
          | none =>
            have hst2 : lkStep kn last lf s y = ⟨y.k + 1, y.out, op'⟩ := by rw [hst]; unfold lkAt; rw [if_neg T, if_neg n91, if_pos c93', hgl, hdl]; simp only; rw [if_neg hnb, hen]
            simp [h111, wa]
            exact nxt _ _ _ vo v9 hst2 (by simp) M11 hF011 (by simp) (by simp; omega)
          | some e' =>
            have hst2 : lkStep kn last lf s y = ⟨e', y.out ++ [⟨x.f, x.o, y.k, e', x.img⟩], barL x.img op'⟩ := by rw [hst]; unfold lkAt; rw [if_neg T, if_neg n91, if_pos c93', hgl, hdl]; simp only; rw [if_neg hnb, hen]
            obtain rfl := hz e' hen
            (repeat rw [wpd_seq]); simp [-wpd_seq, h111]
            (repeat rw [wpd_seq]); simp [-wpd_seq, h111]
            have htb11 := M11.tb
            obtain ⟨ao, co, hvo⟩ := M11.o.sl
            (repeat rw [wpd_seq]); simp [-wpd_seq, h111, k12, htb11, hx11, g14, zerosD, List.range, List.range.loop, hvo]
            have hM11n := M11.nx
            have hn1110 := hF11.next
            obtain ⟨h12, hh12⟩ : ∃ h12, h12 = h11.nw (.cells [.int .i64 x.f, .int .i64 x.o, .int .i64 y.k, .int .i64 e', .bool x.img] 5 true 0 none) := ⟨_, rfl⟩
            rw [← hh12]
            have hF12 : Fr h11.next h11 h12 := by rw [hh12]; exact (Fr.refl h111).nw (Nat.le_refl _) _
            clear hh12
            have M12 := M11.fr hF12
            have ho12 := M12.o
            have htb12 := M12.tb
            have hx12 := (hF12.get h9.next (by omega)).trans hx11
            have hF012 : Fr B h2 h12 := hF011.trans (hF12.mono (by omega))
            have hM12n := M12.nx
            have hn1211 := hF12.next
            rw [hvo] at ho12
            refine Row.app ho12 hF12.one hM12n rfl (by decide) (by rfl) (by omega) (by decide) rfl ?_
            intro v13 h13 q1 q2 q3 q4
            have hrow7 := M7.o.rng
            rw [hvo] at hrow7
            have htb13 := (q3 (B + 2) (by omega) (fun g x y e => by have := (ho12.rng g x y e).1; omega)).trans htb12
            have hx13 := (q3 h9.next (by omega) (fun g x y e => by have := (hrow7 g x y e).2; omega)).trans hx12
            have hn1312 := q2.next
            obtain ⟨g13, cap13, c13, rfl, p2, p3, p4, p5, p6, p7⟩ := q1
            have h131 := q2.one
            simp [-wpd_seq, h131, k12, htb13]
            obtain ⟨h14, hh14⟩ : ∃ h14, h14 = h13.put (B + 2) (.cells [.slice (some ⟨g13, 0, none⟩) (y.out.length + 1) cap13] 0 true 0 none) := ⟨_, rfl⟩
            rw [← hh14]
            have kp : Kp (B + 2) vo (.slice (some ⟨g13, 0, none⟩) (y.out.length + 1) cap13) h12 h14 := by
              rw [hh14, hvo]
              exact ⟨q2.one, by simpa using q2.next, fun b hb hb1 hb2 => by rw [H.get_put, if_neg hb1]; exact q3 b hb hb2, fun g x y e => q4 g x y e⟩
            have slo : SlC none 5 (B + 4) h14 (.slice (some ⟨g13, 0, none⟩) (y.out.length + 1) cap13) (encLs (y.out ++ [(⟨x.f, x.o, y.k, e', x.img⟩ : Lk)])) (y.out ++ [(⟨x.f, x.o, y.k, e', x.img⟩ : Lk)]).length := by
              rw [hh14]
              exact ⟨g13, cap13, c13, by simp, by simpa using p2, p3, by simpa using p4, by rw [H.get_put, if_neg (by omega)]; exact p5, p6, by rw [encLs_app, List.length_append]; exact p7⟩
            obtain ⟨M14, hF14⟩ := M12.ou kp (by rw [hh14]; simp) (.inr slo)
            have hx14 : h14.get h9.next = some (.cells [.int .i64 x.f, .int .i64 x.o, .bool x.img, .bool false] 0 true 0 none) := by rw [hh14, H.get_put, if_neg (by omega)]; exact hx13
            have hF014 : Fr B h2 h14 := hF012.trans hF14
            have hn14 : h9.next < h14.next := by rw [hh14]; simp; omega
            clear hh14 kp slo p2 p3 p4 p5 p6 p7 q2 q3 q4 htb13 hx13 hx12 ho12 htb12
            have h141 := M14.one
            have hob14 := M14.ob
            subst ev9
            (repeat rw [wpd_seq]); simp [-wpd_seq, h141]
            (repeat rw [wpd_seq]); simp [-wpd_seq, h141, k13, hob14]
            (repeat rw [wpd_seq])
            refine wpd_loop (fun (i : Nat) fr' h' => fr'.get 140 = some (.int .i64 i) ∧ i ≤ op'.length ∧ LM B h' s kn (.slice (some ⟨g13, 0, none⟩) (y.out.length + 1) cap13) (.slice (some ⟨gv, 0, none⟩) op'.length zv) (y.out ++ [(⟨x.f, x.o, y.k, e', x.img⟩ : Lk)]) (barL x.img (op'.take i) ++ op'.drop i) ∧ Fr B h2 h' ∧ h'.get h9.next = some (.cells [.int .i64 x.f, .int .i64 x.o, .bool x.img, .bool false] 0 true 0 none) ∧ h9.next < h'.next) (fun i => op'.length - i) 0 ⟨by simp, Nat.zero_le _, by simpa [barL] using M14, hF014, hx14, hn14⟩ ?_
            rintro i fr3 h15 ⟨g140, hi, M15, hF15, hx15, hn15⟩ hf3
            have j12 := hf3 12 rfl
            have j13 := hf3 13 rfl
            have j16 := hf3 16 rfl
            have j17 := hf3 17 rfl
            have j139 := hf3 139 rfl
            simp [k13] at j13 j16 j17 j139
            have h151 := M15.one
            have hob15 := M15.ob
            by_cases ci : i < op'.length
            rotate_left
            · have him : i = op'.length := by omega
              subst him
              have hbl : barL x.img (op'.take op'.length) ++ op'.drop op'.length = barL x.img op' := by rw [List.take_length, List.drop_length, List.append_nil]
              rw [hbl] at M15
              simp [h151, g140, j139, j16]
              exact nxt _ _ _ _ _ hst2 (by simp) M15 hF15 (by simp) (by simp [barL]; omega)
            · have hlen := bar_len x.img op' i
              have hat := bar_at x.img op' i ci
              have hstp := bar_step x.img op' i ci
              have hp15 := M15.p
              obtain ⟨Li, hLi⟩ : ∃ Li, Li = barL x.img (op'.take i) ++ op'.drop i := ⟨_, rfl⟩
              rw [← hLi] at hlen hat hstp hp15
              rcases hp15 with ⟨q, _⟩ | hp15
              · cases q
              obtain ⟨gg', cap', c', ee, a2, a3, a4, a5, a6, a7⟩ := hp15
              rw [hlen] at ee a2 a7
              cases ee
              have hil : i < Li.length := by omega
              have hLi2 : Li[i] = op'[i] := by rw [List.getElem?_eq_getElem hil] at hat; exact Option.some.inj hat
              have hop4 : ∀ j, j < 4 → c'[i * 4 + j]? = (opC op'[i])[j]? := by
                intro j hj
                have h4 := encO_at Li i j hil hj
                rw [hLi2, ← a7, List.getElem?_take, if_pos (by omega)] at h4
                exact h4
              have hc3 : c'[i * 4 + 3]? = some (.bool op'[i].bar) := hop4 3 (by decide)
              have hc2 : c'[i * 4 + 2]? = some (.bool op'[i].img) := hop4 2 (by decide)
              have hcl : i * 4 + 3 < c'.length := by rw [a6]; have := Nat.mul_le_mul_right 4 a2; omega
              have hc3' : c'[i * 4 + 3]'hcl = .bool op'[i].bar := by rw [List.getElem?_eq_getElem hcl] at hc3; exact Option.some.inj hc3
              have hcl2 : i * 4 + 2 < c'.length := by omega
              have hc2' : c'[i * 4 + 2]'hcl2 = .bool op'[i].img := by rw [List.getElem?_eq_getElem hcl2] at hc2; exact Option.some.inj hc2
              have hw : IntKind.i64.wrap ((i : Int) + 1) = (i : Int) + 1 := wrap_succ (by omega)
              have hgv9 : gv < h9.next := by
                obtain ⟨_, _, _, q, _, _, q4, _⟩ := sl9
                cases q; exact q4
              have hgn9 : ¬ h9.next = gv := by omega
              have hobg : ¬ gv = B + 3 := by omega
              have hnx2 : ∀ (b : Bool), b = (op'[i].bar || (!x.img && !op'[i].img)) → ∃ s', op'.length - s' < op'.length - i ∧ i + 1 = s' ∧ s' ≤ op'.length ∧ LM B (h15.put gv (.cells (c'.set (i * 4 + 3) (.bool b)) 4 true 0 none)) s kn (.slice (some ⟨g13, 0, none⟩) (y.out.length + 1) cap13) (.slice (some ⟨gv, 0, none⟩) op'.length zv) (y.out ++ [(⟨x.f, x.o, y.k, e', x.img⟩ : Lk)]) (barL x.img (op'.take s') ++ op'.drop s') ∧ Fr B h2 (h15.put gv (.cells (c'.set (i * 4 + 3) (.bool b)) 4 true 0 none)) := by
                intro b hb
                refine ⟨i + 1, by omega, rfl, by omega, ?_, hF15.put (by omega) _⟩
                have hset : Li.set i { op'[i] with bar := op'[i].bar || (!x.img && !op'[i].img) } = Li.set i { Li[i]'hil with bar := b } := by rw [hLi2, hb]
                refine (M15.st (h' := h15.put gv (.cells (c'.set (i * 4 + 3) (.bool b)) 4 true 0 none)) (v' := .slice (some ⟨gv, 0, none⟩) op'.length zv) (op' := barL x.img (op'.take (i + 1)) ++ op'.drop (i + 1)) ⟨h151, Nat.le_refl _, fun d hd hd1 hd2 => ?_, fun g x y e => .inl (by cases e; exact ⟨_, _, rfl⟩)⟩ ?_ (.inr ⟨gv, zv, c'.set (i * 4 + 3) (.bool b), by rw [bar_len], by rw [bar_len]; exact a2, a3, a4, by rw [H.get_put, if_pos rfl], by rw [List.length_set]; exact a6, ?_⟩)).1
                · rw [H.get_put, if_neg (fun q => hd2 gv _ _ rfl q.symm)]
                · rw [H.get_put, if_neg (by omega)]; exact hob15
                · rw [bar_len, hstp, hset, encO_set, ← a7, List.take_set]
              have hgx : ¬ gv = h9.next := by omega
              have hBg : ¬ B + 3 = gv := by omega
              cases hb0 : op'[i].bar with
              | true =>
                rw [hb0] at hc3'
                have hN := hnx2 true (by rw [hb0]; rfl)
                simp [h151, g140, j139, j13, j17, hob15, hx15, ci, a5, hc3', hc2', hcl, hcl2, hgn9, hw, hobg, hgx, hBg]
                obtain ⟨s', n1, n2, n3, n4, n5⟩ := hN
                exact ⟨by omega, s', n1, n2, n3, n4, n5, hn15⟩
              | false =>
                rw [hb0] at hc3'
                cases hxi : x.img with
                | true =>
                  have hN := hnx2 false (by rw [hb0, hxi]; rfl)
                  rw [hxi] at hx15 hN
                  simp [h151, g140, j139, j13, j17, hob15, hx15, hxi, ci, a5, hc3', hc2', hcl, hcl2, hgn9, hw, hobg, hgx, hBg]
                  obtain ⟨s', n1, n2, n3, n4, n5⟩ := hN
                  exact ⟨by omega, s', n1, n2, n3, n4, n5, hn15⟩
                | false =>
                  rw [hxi] at hx15
                  cases hi2 : op'[i].img with
                  | true =>
                    rw [hi2] at hc2'
                    have hN := hnx2 false (by rw [hb0, hxi, hi2]; rfl)
                    rw [hxi] at hN
                    simp [h151, g140, j139, j13, j17, hob15, hx15, hxi, ci, a5, hc3', hc2', hcl, hcl2, hgn9, hw, hobg, hgx, hBg]
                    obtain ⟨s', n1, n2, n3, n4, n5⟩ := hN
                    exact ⟨by omega, s', n1, n2, n3, n4, n5, hn15⟩
                  | false =>
                    rw [hi2] at hc2'
                    have hN := hnx2 true (by rw [hb0, hxi, hi2]; rfl)
                    rw [hxi] at hN
                    simp [h151, g140, j139, j13, j17, hob15, hx15, hxi, ci, a5, hc3', hc2', hcl, hcl2, hgn9, hw, hobg, hgx, hBg]
                    obtain ⟨s', n1, n2, n3, n4, n5⟩ := hN
                    exact ⟨by omega, s', n1, n2, n3, n4, n5, hn15⟩
end
end Go.Dm
