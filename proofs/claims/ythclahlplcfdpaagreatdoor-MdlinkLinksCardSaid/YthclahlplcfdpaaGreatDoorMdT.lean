/- Targets: both functions. -/
import Derived.Test.YthclahlplcfdpaaGreatDoorMdQ
set_option linter.unusedVariables false
set_option linter.unusedSimpArgs false
namespace Go.Dm
open Go.Proofs
/-- A target's answer. -/
def tgO (s : List UInt8) (a : Int) : Value := if a < 0 then .tuple #[.int .i64 0, .bool false] else nOk (tgL (s.drop a.toNat)) a.toNat
theorem pE_self {s : List UInt8} (hn : 10 ∉ s) : pE s s.length = s := by
  unfold pE
  have : eE s s.length = s.length := by unfold eE; rw [nlf_eN hn]; omega
  rw [this, List.take_length]
/-- By what is within the brackets. -/
theorem tg_mid {s : List UInt8} {a : Nat} (ha : a < s.length) (h40 : bt s a = 40) : tgL (s.drop a) = match midL (s.drop (a + 1)) with
    | some m => if a + 1 + m < s.length ∧ bt s (a + 1 + m) = 41 then some (m + 2) else none
    | none => none := by
  have tgc : ∀ u : List UInt8, tgL (40 :: u) = match midL u with
      | some n => match u.drop n with
        | d :: _ => if d = 41 then some (n + 2) else none
        | [] => none
      | none => none := fun u => rfl
  rw [drop_bt ha, h40, tgc]
  cases hm : midL (s.drop (a + 1)) with
  | none => rfl
  | some m =>
    simp only
    rw [List.drop_drop]
    by_cases c : a + 1 + m < s.length
    · rw [drop_bt c]
      simp only
      by_cases d : bt s (a + 1 + m) = 41
      · rw [if_pos d, if_pos ⟨c, d⟩]
      · rw [if_neg d, if_neg (fun q => d q.2)]
    · rw [List.drop_eq_nil_of_le (by omega), if_neg (fun q => c q.1)]
theorem mid_eq {s : List UInt8} {b : Nat} : midL (s.drop b) = if b + skipN (s.drop b) < s.length ∧ bt s (b + skipN (s.drop b)) ≠ 41 then
      (match goL (s.drop (b + skipN (s.drop b))) with
       | some g => (tailL (s.drop (b + skipN (s.drop b) + g))).map (skipN (s.drop b) + g + ·)
       | none => none)
    else some (skipN (s.drop b)) := by
  unfold midL
  rw [List.drop_drop]
  by_cases c : b + skipN (s.drop b) < s.length
  · rw [drop_bt c]
    simp only
    by_cases d : bt s (b + skipN (s.drop b)) = 41
    · rw [if_pos d, if_neg (fun q => q.2 d)]
    · rw [if_neg d, if_pos ⟨c, d⟩, ← drop_bt c]
      cases goL (s.drop (b + skipN (s.drop b))) with
      | none => rfl
      | some g => simp only; rw [List.drop_drop]
  · rw [List.drop_eq_nil_of_le (by omega), if_neg (fun q => c q.1)]
theorem tail_eq {s : List UInt8} {b : Nat} : tailL (s.drop b) = if 0 < skipN (s.drop b) ∧ b + skipN (s.drop b) < s.length ∧ bt s (b + skipN (s.drop b)) ≠ 41 then
      (match ttL (s.drop (b + skipN (s.drop b))) with
       | some n => some (skipN (s.drop b) + n + skipN (s.drop (b + skipN (s.drop b) + n)))
       | none => none)
    else some (skipN (s.drop b)) := by
  unfold tailL
  rw [List.drop_drop]
  by_cases z : skipN (s.drop b) = 0
  · rw [if_pos z, if_neg (by omega), z]
  · rw [if_neg z]
    by_cases c : b + skipN (s.drop b) < s.length
    · rw [drop_bt c]
      simp only
      by_cases d : bt s (b + skipN (s.drop b)) = 41
      · rw [if_pos d, if_neg (fun q => q.2.2 d)]
      · rw [if_neg d, if_pos ⟨by omega, c, d⟩, ← drop_bt c]
        cases ttL (s.drop (b + skipN (s.drop b))) with
        | none => rfl
        | some g => simp only; rw [List.drop_drop]
    · rw [List.drop_eq_nil_of_le (by omega), if_neg (fun q => c q.2.1)]
section
variable {h : H}
theorem skc_sp (s : List UInt8) (hs : s.length < 2 ^ 31) (hn : 10 ∉ s) (a : Nat) (ha : a < 2 ^ 32) (bx : Nat) {ow : Bool} {fz : Nat} {ty : Option TypeId} (hb : h.get bx = some (.cells [str s] 0 ow fz ty)) (h1 : h.one = []) (g : GmH h) :
    CallW E0 X0 (.fn 22) [.int .i64 a, .pointer (some ⟨bx, 0, none⟩)] h (fun v h' => v = .int .i64 ((a + skipN (s.drop a) : Nat) : Int) ∧ h' = h) := by
  refine CallW.body efn22 rfl rfl rfl [] (by kernel_rfl) ?_
  simp [Tryz.f22, h1, hb]
  refine (Skip_sp s hs hn a ha h1 g).mono ?_
  rintro _ h2 ⟨rfl, rfl⟩
  simp [h1]
theorem Target_sp (l : List UInt8) (hl : l.length < 2 ^ 31) (at_ e : Int) (h1 : h.one = []) (g : GmH h) : CallW E0 X0 (.fn 10) [str l, .int .i64 at_, .int .i64 e] h (fun v h' => v = tgO (pE l e) at_ ∧ Fr h.next h h') := by
  refine CallW.body efn10 rfl rfl rfl [] (by kernel_rfl) ?_
  simp [Tryz.f10, h1]
  refine (ahead0_sp l hl e h1 g).mono ?_
  rintro _ h2 ⟨rfl, rfl⟩
  obtain ⟨s, hs⟩ : ∃ s, s = pE l e := ⟨_, rfl⟩
  have hn : 10 ∉ s := hs ▸ pE_nlf l e
  have hsl : s.length < 2 ^ 31 := by have := pE_len l e; have := eE_len l e; rw [hs]; omega
  rw [← hs]
  have fF : ∀ o o' : DObj, Fr h2.next h2 ((h2.nw o).put h2.next o') := fun o o' => ((Fr.refl h1).nw (Nat.le_refl _) _).put (Nat.le_refl _) _
  by_cases c0 : at_ < 0
  · simp [h1, c0, tgO, fF]
  obtain ⟨a, rfl⟩ : ∃ a : Nat, at_ = a := ⟨at_.toNat, by omega⟩
  have etg : tgO s (a : Int) = nOk (tgL (s.drop a)) a := by unfold tgO; rw [if_neg c0, Int.toNat_natCast]
  rw [etg]
  by_cases c1 : a < s.length
  rotate_left
  · have e0 : s.drop a = [] := List.drop_eq_nil_of_le (by omega)
    have hr : tgL ([] : List UInt8) = none := rfl
    have c1' : s.length ≤ a := by omega
    simp [h1, c1', e0, hr, nOk, fF]
  have c1' : ¬ s.length ≤ a := by omega
  by_cases c40 : bt s a = 40
  rotate_left
  · have hr : tgL (s.drop a) = none := by
      rw [drop_bt c1]
      show (if bt s a = 40 then _ else _) = _
      rw [if_neg c40]
    have c40' : ¬ (bt s a).toNat = 40 := tn (by decide) c40
    simp [h1, c1', idxB_nat c1, c40', hr, nOk, fF]
  have c40' : (bt s a).toNat = 40 := by rw [c40]; rfl
  have hwa : IntKind.i64.wrap ((a : Int) + 1) = ((a + 1 : Nat) : Int) := by rw [wrap_i64 (by omega) (by omega)]; omega
  simp [h1, c1', idxB_nat c1, eq_true c40', hwa]
  obtain ⟨h3, hh3⟩ : ∃ h3, h3 = (h2.nw (.cells [str []] 0 true 0 none)).put h2.next (.cells [str s] 0 true 0 none) := ⟨_, rfl⟩
  rw [← hh3]
  have hF3 : Fr h2.next h2 h3 := by rw [hh3]; exact fF _ _
  have h31 : h3.one = [] := hF3.one
  have g3 : GmH h3 := g.fr hF3 g.2
  have hb3 : h3.get h2.next = some (.cells [str s] 0 true 0 none) := by rw [hh3]; simp
  clear hh3
  have hmid := tg_mid c1 c40
  refine (skc_sp s hsl hn (a + 1) (by omega) h2.next hb3 h31 g3).mono ?_ |> fun x => by simpa using x
  rintro _ h4 ⟨rfl, rfl⟩
  have hm1 := mid_eq (s := s) (b := a + 1)
  have hk1 := skipN_le (s.drop (a + 1))
  obtain ⟨k1, hk⟩ : ∃ k1, k1 = skipN (s.drop (a + 1)) := ⟨_, rfl⟩
  rw [← hk] at hm1 hk1
  rw [← hk]
  obtain ⟨p, hp⟩ : ∃ p, p = a + 1 + k1 := ⟨_, rfl⟩
  rw [← hp] at hm1
  rw [← hp]
  have hpl : p ≤ s.length := by simp at hk1; omega
  have hwp : IntKind.i64.wrap ((p : Int) + 1) = (p : Int) + 1 := wrap_succ (by omega)
  by_cases f1 : p < s.length
  rotate_left
  · rw [if_neg (fun q => f1 q.1)] at hm1
    rw [hm1] at hmid
    simp only at hmid
    rw [← hp, if_neg (fun q => f1 q.1)] at hmid
    have f1' : s.length ≤ p := by omega
    simp [h31, hb3, f1, f1', hmid, nOk, hF3]
  have f1' : ¬ s.length ≤ p := by omega
  by_cases f2 : bt s p = 41
  · rw [if_neg (fun q => q.2 f2)] at hm1
    rw [hm1] at hmid
    simp only at hmid
    rw [← hp, if_pos ⟨f1, f2⟩] at hmid
    have f2' : (bt s p).toNat = 41 := by rw [f2]; rfl
    simp [h31, hb3, f1, f1', idxB_nat f1, eq_true f2', hwp, hmid, nOk, hF3]
    omega
  have f2' : ¬ (bt s p).toNat = 41 := tn (by decide) f2
  rw [if_pos ⟨f1, f2⟩] at hm1
  simp [h31, hb3, f1, idxB_nat f1, f2']
  refine (goal_sp s hsl hn p f1 h31 g3).mono ?_
  rintro _ h5 ⟨⟨z, rfl, hz⟩, rfl⟩
  cases hgo : goL (s.drop p) with
  | none =>
    rw [hgo] at hm1
    simp only at hm1
    rw [hm1] at hmid
    simp only at hmid
    simp [h31, hmid, nOk, hF3]
  | some gk =>
    have hzq := hz gk hgo
    have hgl := goL_le hgo
    rw [hgo] at hm1
    simp only at hm1
    obtain ⟨q, hq⟩ : ∃ q, q = p + gk := ⟨_, rfl⟩
    have hzq : z = (q : Int) := by omega
    subst hzq
    rw [← hq] at hm1
    have hql : q ≤ s.length := by simp at hgl; omega
    simp [h31]
    refine (skc_sp s hsl hn q (by omega) h2.next hb3 h31 g3).mono ?_
    rintro _ h6 ⟨rfl, rfl⟩
    have ht1 := tail_eq (s := s) (b := q)
    have hk2 := skipN_le (s.drop q)
    obtain ⟨k2, hk'⟩ : ∃ k2, k2 = skipN (s.drop q) := ⟨_, rfl⟩
    rw [← hk'] at ht1 hk2
    rw [← hk']
    obtain ⟨r, hr⟩ : ∃ r, r = q + k2 := ⟨_, rfl⟩
    rw [← hr] at ht1
    rw [← hr]
    have hrl : r ≤ s.length := by simp at hk2; omega
    have hwr : IntKind.i64.wrap ((r : Int) + 1) = (r : Int) + 1 := wrap_succ (by omega)
    by_cases e1 : r < s.length
    rotate_left
    · rw [if_neg (fun x => e1 x.2.1)] at ht1
      rw [ht1, Option.map_some] at hm1
      rw [hm1] at hmid
      simp only at hmid
      rw [show a + 1 + (k1 + gk + k2) = r by omega, if_neg (fun x => e1 x.1)] at hmid
      have e1' : s.length ≤ r := by omega
      by_cases y : q < r
      · simp [h31, hb3, y, e1, e1', hmid, nOk, hF3]
      · simp [h31, hb3, y, e1, e1', hmid, nOk, hF3]
    have e1' : ¬ s.length ≤ r := by omega
    by_cases e2 : bt s r = 41
    · rw [if_neg (fun x => x.2.2 e2)] at ht1
      rw [ht1, Option.map_some] at hm1
      rw [hm1] at hmid
      simp only at hmid
      rw [show a + 1 + (k1 + gk + k2) = r by omega, if_pos ⟨e1, e2⟩] at hmid
      have e2' : (bt s r).toNat = 41 := by rw [e2]; rfl
      by_cases y : q < r
      · simp [h31, hb3, y, e1, e1', idxB_nat e1, eq_true e2', hwr, hmid, nOk, hF3]
        omega
      · simp [h31, hb3, y, e1, e1', idxB_nat e1, eq_true e2', hwr, hmid, nOk, hF3]
        omega
    have e2' : ¬ (bt s r).toNat = 41 := tn (by decide) e2
    by_cases y : q < r
    rotate_left
    · rw [if_neg (by omega)] at ht1
      rw [ht1, Option.map_some] at hm1
      rw [hm1] at hmid
      simp only at hmid
      rw [show a + 1 + (k1 + gk + k2) = r by omega, if_neg (fun x => e2 x.2)] at hmid
      simp [h31, hb3, y, e1, e1', idxB_nat e1, e2', hmid, nOk, hF3]
    rw [if_pos ⟨by omega, e1, e2⟩] at ht1
    simp [h31, hb3, y, e1, idxB_nat e1, e2']
    refine (Title_sp s hsl hn r h31 g3).mono ?_
    rintro _ h7 ⟨rfl, rfl⟩
    cases htt : ttL (s.drop r) with
    | none =>
      rw [htt] at ht1
      simp only at ht1
      rw [ht1, Option.map_none] at hm1
      rw [hm1] at hmid
      simp only at hmid
      simp [h31, hmid, nOk, hF3]
    | some n =>
      have htl := ttL_le htt
      rw [htt] at ht1
      simp only at ht1
      obtain ⟨r2, hr2⟩ : ∃ r2, r2 = r + n := ⟨_, rfl⟩
      rw [← hr2] at ht1
      have hr2l : r2 ≤ s.length := by simp at htl; omega
      have e3 : nOk (some n) r = .tuple #[.int .i64 (r2 : Nat), .bool true] := by rw [hr2]; rfl
      rw [e3]
      simp [h31]
      refine (skc_sp s hsl hn r2 (by omega) h2.next hb3 h31 g3).mono ?_
      rintro _ h8 ⟨rfl, rfl⟩
      have hk3 := skipN_le (s.drop r2)
      obtain ⟨w, hw⟩ : ∃ w, w = r2 + skipN (s.drop r2) := ⟨_, rfl⟩
      rw [← hw]
      have hwl : w ≤ s.length := by simp at hk3; omega
      have hww : IntKind.i64.wrap ((w : Int) + 1) = (w : Int) + 1 := wrap_succ (by omega)
      rw [ht1, Option.map_some] at hm1
      rw [hm1] at hmid
      simp only at hmid
      rw [show a + 1 + (k1 + gk + (k2 + n + skipN (s.drop r2))) = w by omega] at hmid
      by_cases d1 : w < s.length
      · have d1' : ¬ s.length ≤ w := by omega
        by_cases d2 : bt s w = 41
        · have d2' : (bt s w).toNat = 41 := by rw [d2]; rfl
          rw [if_pos ⟨d1, d2⟩] at hmid
          simp [h31, hb3, d1', idxB_nat d1, eq_true d2', hww, hmid, nOk, hF3]
          omega
        · have d2' : ¬ (bt s w).toNat = 41 := tn (by decide) d2
          rw [if_neg (fun x => d2 x.2)] at hmid
          simp [h31, hb3, d1', idxB_nat d1, d2', hmid, nOk, hF3]
      · have d1' : s.length ≤ w := by omega
        rw [if_neg (fun x => d1 x.1)] at hmid
        simp [h31, hb3, d1', hmid, nOk, hF3]
theorem bt_pE {l : List UInt8} {e : Int} {p : Nat} (hp : p < eE l e) : bt (pE l e) p = bt l p := by
  have := bt_sg (l := l) (a := 0) (e := eE l e) (k := p) (by omega) (eE_len l e)
  rwa [Nat.zero_add, show sg l 0 (eE l e) = pE l e from by simp [sg, pE]] at this
theorem Target22_sp (l : List UInt8) (hl : l.length < 2 ^ 31) (at_ e : Int) (h1 : h.one = []) : CallW E0 X0 (.fn 11) [str l, .int .i64 at_, .int .i64 e] h (fun v h' => v = tgO (pE l e) at_ ∧ h' = h) := by
  refine CallW.body efn11 rfl rfl rfl [] (by kernel_rfl) ?_
  simp [Tryz.f11, h1]
  refine (bound_sp l hl e h1).mono ?_
  rintro _ h2 ⟨rfl, rfl⟩
  obtain ⟨E, hEd⟩ : ∃ E, E = eE l e := ⟨_, rfl⟩
  have hE : E ≤ eN l := by rw [hEd]; exact eE_le l e
  have hEi := eE_int l e
  rw [← hEd] at hEi
  obtain ⟨s, hs⟩ : ∃ s, s = pE l e := ⟨_, rfl⟩
  have hsE : s.length = E := by rw [hs, pE_len, hEd]
  have hel := eN_len l
  have hsd : ∀ k, s.drop k = sg l k E := fun k => by rw [hs, hEd]; rfl
  have hix : ∀ p, p < s.length → idxB l (p : Int) = some (.int .u8 (bt s p).toNat) := by
    intro p hp
    have := idxB_nat (l := l) (k := p) (by omega)
    rw [hs, bt_pE (by omega)]
    exact this
  rw [← hs]
  by_cases c0 : at_ < 0
  · simp [h1, c0, tgO]
  obtain ⟨a, rfl⟩ : ∃ a : Nat, at_ = a := ⟨at_.toNat, by omega⟩
  have etg : tgO s (a : Int) = nOk (tgL (s.drop a)) a := by unfold tgO; rw [if_neg c0, Int.toNat_natCast]
  rw [etg]
  obtain ⟨M, hM⟩ : ∃ M : Int, M = min e (eN l) := ⟨_, rfl⟩
  rw [← hM]
  by_cases c1 : a < s.length
  rotate_left
  · have e0 : s.drop a = [] := List.drop_eq_nil_of_le (by omega)
    have hr : tgL ([] : List UInt8) = none := rfl
    have c1' : M ≤ a := by omega
    simp [h1, c1', e0, hr, nOk]
  have hME : M = (E : Int) := by omega
  have c1' : ¬ E ≤ a := by omega
  have c1E : a < E := by omega
  rw [hME]
  by_cases c40 : bt s a = 40
  rotate_left
  · have hr : tgL (s.drop a) = none := by
      rw [drop_bt c1]
      show (if bt s a = 40 then _ else _) = _
      rw [if_neg c40]
    have c40' : ¬ (bt s a).toNat = 40 := tn (by decide) c40
    simp [h1, c1', hix a c1, c40', hr, nOk]
  have c40' : (bt s a).toNat = 40 := by rw [c40]; rfl
  have hwa : IntKind.i64.wrap ((a : Int) + 1) = ((a + 1 : Nat) : Int) := by rw [wrap_i64 (by omega) (by omega)]; omega
  simp [h1, c1', hix a c1, eq_true c40', hwa]
  have hmid := tg_mid c1 c40
  refine (Skip17_sp l hl (a + 1) E hE h1).mono ?_ |> fun x => by simpa using x
  rintro _ h4 ⟨rfl, rfl⟩
  rw [← hsd]
  have hm1 := mid_eq (s := s) (b := a + 1)
  have hk1 := skipN_le (s.drop (a + 1))
  obtain ⟨k1, hk⟩ : ∃ k1, k1 = skipN (s.drop (a + 1)) := ⟨_, rfl⟩
  rw [← hk] at hm1 hk1
  rw [← hk]
  obtain ⟨p, hp⟩ : ∃ p, p = a + 1 + k1 := ⟨_, rfl⟩
  rw [← hp] at hm1
  rw [← hp]
  have hpl : p ≤ s.length := by simp at hk1; omega
  have hwp : IntKind.i64.wrap ((p : Int) + 1) = (p : Int) + 1 := wrap_succ (by omega)
  by_cases f1 : p < s.length
  rotate_left
  · rw [if_neg (fun q => f1 q.1)] at hm1
    rw [hm1] at hmid
    simp only at hmid
    rw [← hp, if_neg (fun q => f1 q.1)] at hmid
    have f1E : ¬ p < E := by omega
    simp [h1, f1E, hmid, nOk]
  have f1E : p < E := by omega
  by_cases f2 : bt s p = 41
  · rw [if_neg (fun q => q.2 f2)] at hm1
    rw [hm1] at hmid
    simp only at hmid
    rw [← hp, if_pos ⟨f1, f2⟩] at hmid
    have f2' : (bt s p).toNat = 41 := by rw [f2]; rfl
    simp [h1, f1E, hix p f1, eq_true f2', hwp, hmid, nOk]
    omega
  have f2' : ¬ (bt s p).toNat = 41 := tn (by decide) f2
  rw [if_pos ⟨f1, f2⟩] at hm1
  simp [h1, f1E, hix p f1, f2']
  refine (goal22_sp l hl p E hE f1E h1).mono ?_
  rintro _ h5 ⟨rfl, rfl⟩
  rw [← hsd]
  cases hgo : goL (s.drop p) with
  | none =>
    rw [hgo] at hm1
    simp only at hm1
    rw [hm1] at hmid
    simp only at hmid
    simp [h1, hmid, nOk, plc]
  | some gk =>
    have hgl := goL_le hgo
    rw [hgo] at hm1
    simp only at hm1
    obtain ⟨q, hq⟩ : ∃ q, q = p + gk := ⟨_, rfl⟩
    have e0 : plc (some gk) p = ((q : Nat) : Int) := by rw [hq]; rfl
    have n0 : ¬ ((q : Nat) : Int) < 0 := by omega
    rw [e0]
    rw [← hq] at hm1
    have hql : q ≤ s.length := by simp at hgl; omega
    simp [h1, n0]
    refine (Skip17_sp l hl q E hE h1).mono ?_
    rintro _ h6 ⟨rfl, rfl⟩
    rw [← hsd]
    have ht1 := tail_eq (s := s) (b := q)
    have hk2 := skipN_le (s.drop q)
    obtain ⟨k2, hk'⟩ : ∃ k2, k2 = skipN (s.drop q) := ⟨_, rfl⟩
    rw [← hk'] at ht1 hk2
    rw [← hk']
    obtain ⟨r, hr⟩ : ∃ r, r = q + k2 := ⟨_, rfl⟩
    rw [← hr] at ht1
    rw [← hr]
    have hrl : r ≤ s.length := by simp at hk2; omega
    have hwr : IntKind.i64.wrap ((r : Int) + 1) = (r : Int) + 1 := wrap_succ (by omega)
    by_cases e1 : r < s.length
    rotate_left
    · rw [if_neg (fun x => e1 x.2.1)] at ht1
      rw [ht1, Option.map_some] at hm1
      rw [hm1] at hmid
      simp only at hmid
      rw [show a + 1 + (k1 + gk + k2) = r by omega, if_neg (fun x => e1 x.1)] at hmid
      have e1E : ¬ r < E := by omega
      by_cases y : q < r
      · simp [h1, y, e1E, hmid, nOk]
      · simp [h1, y, e1E, hmid, nOk]
    have e1E : r < E := by omega
    by_cases e2 : bt s r = 41
    · rw [if_neg (fun x => x.2.2 e2)] at ht1
      rw [ht1, Option.map_some] at hm1
      rw [hm1] at hmid
      simp only at hmid
      rw [show a + 1 + (k1 + gk + k2) = r by omega, if_pos ⟨e1, e2⟩] at hmid
      have e2' : (bt s r).toNat = 41 := by rw [e2]; rfl
      by_cases y : q < r
      · simp [h1, y, e1E, hix r e1, eq_true e2', hwr, hmid, nOk]
        omega
      · simp [h1, y, e1E, hix r e1, eq_true e2', hwr, hmid, nOk]
        omega
    have e2' : ¬ (bt s r).toNat = 41 := tn (by decide) e2
    by_cases y : q < r
    rotate_left
    · rw [if_neg (by omega)] at ht1
      rw [ht1, Option.map_some] at hm1
      rw [hm1] at hmid
      simp only at hmid
      rw [show a + 1 + (k1 + gk + k2) = r by omega, if_neg (fun x => e2 x.2)] at hmid
      simp [h1, y, e1E, hix r e1, e2', hmid, nOk]
    rw [if_pos ⟨by omega, e1, e2⟩] at ht1
    simp [h1, y, e1E, hix r e1, e2']
    refine (Title17_sp l hl r E hE h1).mono ?_
    rintro _ h7 ⟨rfl, rfl⟩
    rw [← hsd]
    cases htt : ttL (s.drop r) with
    | none =>
      rw [htt] at ht1
      simp only at ht1
      rw [ht1, Option.map_none] at hm1
      rw [hm1] at hmid
      simp only at hmid
      simp [h1, hmid, nOk]
    | some n =>
      have htl := ttL_le htt
      rw [htt] at ht1
      simp only at ht1
      obtain ⟨r2, hr2⟩ : ∃ r2, r2 = r + n := ⟨_, rfl⟩
      rw [← hr2] at ht1
      have hr2l : r2 ≤ s.length := by simp at htl; omega
      have e3 : nOk (some n) r = .tuple #[.int .i64 (r2 : Nat), .bool true] := by rw [hr2]; rfl
      rw [e3]
      simp [h1]
      refine (Skip17_sp l hl r2 E hE h1).mono ?_
      rintro _ h8 ⟨rfl, rfl⟩
      rw [← hsd]
      have hk3 := skipN_le (s.drop r2)
      obtain ⟨w, hw⟩ : ∃ w, w = r2 + skipN (s.drop r2) := ⟨_, rfl⟩
      rw [← hw]
      have hwl : w ≤ s.length := by simp at hk3; omega
      have hww : IntKind.i64.wrap ((w : Int) + 1) = (w : Int) + 1 := wrap_succ (by omega)
      rw [ht1, Option.map_some] at hm1
      rw [hm1] at hmid
      simp only at hmid
      rw [show a + 1 + (k1 + gk + (k2 + n + skipN (s.drop r2))) = w by omega] at hmid
      by_cases d1 : w < s.length
      · have d1E : w < E := by omega
        by_cases d2 : bt s w = 41
        · have d2' : (bt s w).toNat = 41 := by rw [d2]; rfl
          rw [if_pos ⟨d1, d2⟩] at hmid
          simp [h1, d1E, hix w d1, eq_true d2', hww, hmid, nOk]
          omega
        · have d2' : ¬ (bt s w).toNat = 41 := tn (by decide) d2
          rw [if_neg (fun x => d2 x.2)] at hmid
          simp [h1, d1E, hix w d1, d2', hmid, nOk]
      · have d1E : ¬ w < E := by omega
        rw [if_neg (fun x => d1 x.1)] at hmid
        simp [h1, d1E, hmid, nOk]
end
end Go.Dm
