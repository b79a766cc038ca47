/- Trees: 'fit', 'own', and the document's 'Is', 'Fit', 'Wrong'. -/
import Derived.Test.YtnmfdjmejpioiaaDoorTrA
set_option linter.unusedVariables false
set_option linter.unusedSimpArgs false
namespace Go.Dm
open Go.Proofs
theorem rd_kind {l : List Nd} {i : Nat} (h : i < l.length) : (encsN l)[i * 4]? = some (.int .u8 (nd l i).kind) := encsN_at (j := 0) h (by decide)
theorem rd_fm {l : List Nd} {i : Nat} (h : i < l.length) : (encsN l)[i * 4 + 1]? = some (.int .i64 (nd l i).fm) := encsN_at h (by decide)
theorem rd_to {l : List Nd} {i : Nat} (h : i < l.length) : (encsN l)[i * 4 + 2]? = some (.int .i64 (nd l i).to) := encsN_at h (by decide)
theorem rd_dp {l : List Nd} {i : Nat} (h : i < l.length) : (encsN l)[i * 4 + 3]? = some (.int .i64 (nd l i).dp) := encsN_at h (by decide)
theorem rd_to0 {l : List Nd} (h : 0 < l.length) : (encsN l)[2]? = some (.int .i64 (nd l 0).to) := by have := rd_to h; simpa using this
/-- Why a list is no tree, or has no such node. -/
def wrongN (l : List Nd) (i : Int) : Int := if fitN l then (if i < 0 ∨ (l.length : Int) ≤ i then 5 else 0) else 60
set_option maxRecDepth 100000 in
set_option maxHeartbeats 8000000 in
theorem fit_sp (l : List Nd) (i : Int) (v : Value) (hl : l.length < 2 ^ 20) (h : H) (h1 : h.one = []) (hr : RdN h v l) :
    CallW E0 X0 (.fn 36) [v, .int .i64 i] h (fun r h' => r = .int .i64 (wrongN l i) ∧ Fr h.next h h') := by
  refine CallW.body efn36 rfl rfl rfl [] (by kernel_rfl) ?_
  by_cases hl0 : l = []
  · obtain ⟨a, cap, rfl⟩ := hr.sl
    have hw : wrongN [] i = 60 := by simp [wrongN, fitN]
    simp [Tryd.f36, h1, hl0, hw, Fr.refl h1]
  have hl1 : 0 < l.length := List.length_pos_iff.2 hl0
  have hr' := hr
  obtain ⟨b, cap, st, own, fz, ty, rfl, a2, a3, a4, a5⟩ := hr.ne hl1
  have hl2 : ¬ (l.length : Int) = 0 := by omega
  have hf : fitN l = chk l (nd l 0).to := by simp [fitN, hl1]
  have hto := rd_to0 hl1
  simp [Tryd.f36, h1, hl0, hl1, hl2, a3, hto]
  refine (check_sp l _ _ hl h h1 hr').mono ?_
  rintro _ h' ⟨rfl, hfr⟩
  cases hc : chk l (nd l 0).to with
  | false =>
    have hw : wrongN l i = 60 := by simp [wrongN, hf, hc]
    simp [hfr.one, hw]
    exact hfr
  | true =>
    by_cases i0 : i < 0
    · have hw : wrongN l i = 5 := by simp [wrongN, hf, hc, i0]
      simp [hfr.one, hw, i0]
      exact hfr
    by_cases i1 : (l.length : Int) ≤ i
    · have hw : wrongN l i = 5 := by simp [wrongN, hf, hc, i0, i1]
      simp [hfr.one, hw, i0, i1]
      exact hfr
    · have hw : wrongN l i = 0 := by simp [wrongN, hf, hc, i0, i1]
      have i2 : i < (l.length : Int) := by omega
      simp [hfr.one, hw, i0, i1, i2]
      exact hfr
set_option maxRecDepth 100000 in
theorem own_sp (l : List Nd) (v : Value) (hl : l.length < 2 ^ 20) (h : H) (h1 : h.one = []) (hr : RdN h v l) :
    CallW E0 X0 (.fn 13) [v] h (fun r h' => RdN h' r l ∧ Fr h.next h h') := by
  refine CallW.body efn13 rfl rfl rfl [] (by kernel_rfl) ?_
  by_cases hl0 : l = []
  · rcases hr with ⟨rfl, _⟩ | ⟨b, cap, st, own, fz, ty, rfl, a2, a3, a4, a5⟩
    · simp [Tryd.f13, h1, Fr.refl h1]
      exact .inl ⟨rfl, hl0⟩
    · subst hl0
      simp [Tryd.f13, h1, Fr.refl h1]
      exact .inl ⟨rfl, rfl⟩
  have hl1 : 0 < l.length := List.length_pos_iff.2 hl0
  obtain ⟨b, cap, st, own, fz, ty, rfl, a2, a3, a4, a5⟩ := hr.ne hl1
  have hb : l.length * 33 ≤ 17592186044416 := by omega
  simp [Tryd.f13, h1, hl0, hl1, a3, hb]
  have hz : (encsN l).take (l.length * 4) = encsN l := List.take_of_length_le (by simp)
  rw [hz]
  exact ⟨.inr ⟨h.next, l.length, 4, true, 0, none, rfl, Nat.le_refl _, by simp, .inr rfl, by simp⟩, (Fr.refl h1).nw (Nat.le_refl _) _⟩
def encI (l : List Int) : List Value := l.map fun x => .int .i64 x
def encK (l : List Nat) : List Value := l.map fun (x : Nat) => Value.int .i64 (x : Int)
@[simp] theorem encI_len (l : List Int) : (encI l).length = l.length := by simp [encI]
@[simp] theorem encK_len (l : List Nat) : (encK l).length = l.length := by simp [encK]
theorem cut_at {c e : List Value} {n : Nat} (a7 : c.take (n * 1) = e) {i : Nat} (hi : i < n) : c[i]? = e[i]? := by
  rw [← a7, List.getElem?_take, if_pos (by omega)]
theorem encI_at {l : List Int} {i : Nat} (h : i < l.length) : (encI l)[i]? = some (.int .i64 (l.getD i 0)) := by
  simp [encI, List.getD, h]
theorem encK_at {l : List Nat} {i : Nat} (h : i < l.length) : (encK l)[i]? = some (.int .i64 ((l.getD i 0 : Nat) : Int)) := by
  simp [encK, List.getD, h]
theorem encI_cut {c : List Value} {E : List Int} {n : Nat} (a7 : c.take (n * 1) = encI E) {k : Nat} (hk : k ≤ n) : c.take (k * 1) = encI (E.take k) := by
  rw [show encI (E.take k) = (encI E).take k by simp [encI], ← a7, List.take_take, Nat.min_eq_left (by omega)]
  simp
theorem encK_cut {c : List Value} {E : List Nat} {n : Nat} (a7 : c.take (n * 1) = encK E) {k : Nat} (hk : k ≤ n) : c.take (k * 1) = encK (E.take k) := by
  rw [show encK (E.take k) = (encK E).take k by simp [encK], ← a7, List.take_take, Nat.min_eq_left (by omega)]
  simp
theorem encI_set {c : List Value} {E : List Int} {n : Nat} (hl : E.length = n) (a7 : c.take (n * 1) = encI E) {d : Nat} (hd : d < n) (v : Int) : (c.set d (.int .i64 v)).take ((d + 1) * 1) = encI (E.take d ++ [v]) := by
  rw [List.take_set, encI_cut a7 (show d + 1 ≤ n by omega), List.take_succ_eq_append_getElem (by omega)]
  simp only [encI, List.map_append, List.map_cons, List.map_nil]
  rw [List.set_append_right _ _ (by simp; omega)]
  simp [hl, Nat.min_eq_left (show d ≤ n by omega)]
structure IsI (l : List Nd) (B b : Nat) (h h' : H) (fr : T Value) (i : Nat) (C : List Nd) (E : List Int) (O : List Nat) : Prop where
  fi : fr.get 7 = some (.int .i64 (i : Int))
  rl : RlC l C E O i
  le : i ≤ l.length
  ck : chkR C (l.drop i) = chkR [nd l 0] (l.drop 1)
  cl : C.length ≤ i
  hfr : Fr h.next h h'
  own : ∃ g5 c5 o5 g6 c6 o6, fr.get 5 = some (.slice (some ⟨g5, 0, none⟩) C.length c5) ∧ C.length ≤ c5 ∧ h.next ≤ g5 ∧ g5 < h'.next ∧ h'.get g5 = some (.cells o5 1 true 0 none) ∧ o5.length = c5 * 1 ∧ o5.take (C.length * 1) = encI E
    ∧ fr.get 6 = some (.slice (some ⟨g6, 0, none⟩) C.length c6) ∧ C.length ≤ c6 ∧ h.next ≤ g6 ∧ g6 < h'.next ∧ h'.get g6 = some (.cells o6 1 true 0 none) ∧ o6.length = c6 * 1 ∧ o6.take (C.length * 1) = encK O ∧ g5 ≠ g6
set_option maxRecDepth 100000 in
set_option maxHeartbeats 16000000 in
theorem Is_sp (l : List Nd) (n : Int) (v : Value) (hl : l.length < 2 ^ 20) (h : H) (h1 : h.one = []) (hr : RdN h v l) :
    CallW E0 X0 (.fn 14) [v, .int .i64 n] h (fun r h' => r = .bool (chk l n) ∧ Fr h.next h h') := by
  refine CallW.body efn14 rfl rfl rfl [] (by kernel_rfl) ?_
  by_cases hn0 : n < 0
  · have hc : chk l n = false := by unfold chk; simp; omega
    obtain ⟨a, cap, rfl⟩ := hr.sl
    simp [Tryd.f14, h1, hn0, hc, Fr.refl h1]
  by_cases hn1 : n > 1048576
  · have hc : chk l n = false := by unfold chk; simp; omega
    obtain ⟨a, cap, rfl⟩ := hr.sl
    simp [Tryd.f14, h1, hn0, hn1, hc, Fr.refl h1]
  by_cases hl0 : l = []
  · have hc : chk [] n = false := by unfold chk; simp
    obtain ⟨a, cap, rfl⟩ := hr.sl
    simp [Tryd.f14, h1, hn0, hn1, hc, hl0, Fr.refl h1]
  have hl1 : 0 < l.length := List.length_pos_iff.2 hl0
  obtain ⟨b, cap, st, own, fz, ty, rfl, a2, a3, a4, a5⟩ := hr.ne hl1
  have q0 : List.take 4 (encsN l) = encN (nd l 0) := by have := encsN_get hl1; simpa using this
  have b0 : 4 ≤ l.length * 4 := by omega
  have hl2 : ¬ (l.length : Int) = 0 := by omega
  by_cases hr0 : nd l 0 = rootN n
  · have hc : chk l n = (chkR [nd l 0] (l.drop 1)).isSome := by rw [chk_pos hl1]; simp [hr0]; omega
    have hbn : ¬ b = h.next := by omega
    have z1 : zerosD [.int .i64 0] 1 = [.int .i64 0] := rfl
    simp [Tryd.f14, h1, hn0, hn1, a3, q0, b0, hl0, hl1, hl2, -eqD_succ, eq_root, hr0, hbn, z1]
    refine wpd_loop (fun (s : Nat × List Nd × List Int × List Nat) fr h' => IsI l h.next b h h' fr s.1 s.2.1 s.2.2.1 s.2.2.2) (fun s => l.length - s.1) (1, [nd l 0], [0], [0]) ⟨by simp, rl_init hl1 hr0, hl1, rfl, by simp, (((Fr.refl h1).nw (Nat.le_refl _) _).nw (by simp) _).nw (by simp <;> omega) _, h.next, 1, [.int .i64 0], h.next + 2, 1, [.int .i64 0], by simp, by simp, by simp, by simp, by simp, rfl, rfl, by simp, by simp, by simp, by simp, by simp, rfl, rfl, by simp⟩ ?_
    rintro ⟨i, C, E, O⟩ fr h3 ⟨hi, rl, le, he, hC2, hfr, g5, k5, o5, g6, k6, o6, f5, p51, p52, p53, p54, p55, p56, f6, p61, p62, p63, p64, p65, p66, pne⟩ hf
    have g0 := hf 0 rfl
    simp only at hi rl le he hC2 f5 p51 p56 f6 p61 p66
    simp at g0
    have hb3 : h3.get b = some (.cells (encsN l) st own fz ty) := (hfr.get b a5).trans a3
    have hfn := hfr.next
    by_cases hkl : i < l.length
    · have q1 := encsN_get hkl
      have he1 : chkR C (l.drop i) = match chkS C (nd l i) with
        | some C' => chkR C' (l.drop (i + 1))
        | none => none := by rw [drop_nd hkl]; rfl
      have hi0 := rl.i0
      obtain ⟨j, rfl⟩ : ∃ j, i = j + 1 := ⟨i - 1, by omega⟩
      have hdp := rl.dp
      simp only [Nat.add_sub_cancel] at hdp
      have rdj := rd_dp (show j < l.length by omega)
      have hok := fun h1 h2 => rl_iff rl (x := nd l (j + 1)) h1 h2
      have hst := fun C' => rl_step rl hkl (C' := C')
      generalize hx : nd l (j + 1) = x at *
      obtain ⟨xk, xf, xt, xd⟩ := x
      simp only [encN] at q1
      have hgb : ¬ b = h3.next := by omega
      have hw0 : IntKind.i64.wrap (j : Int) = (j : Int) := wrap_i64 (by omega) (by omega)
      have hwc : IntKind.i64.wrap ((nd l j).dp + 1) = (C.length : Int) := by rw [hdp, wrap_i64 (by omega) (by omega)]
      have e1 : (j : Int) + 1 < l.length := by omega
      have e2 : j + 1 < l.length := hkl
      have e3 : (j + 1) * 4 + 4 ≤ l.length * 4 := by omega
      have e4 : (j : Int) < l.length := by omega
      by_cases hd1 : xd < 1
      · have hc2 : chk l n = false := by
          rw [hc, ← he, he1]; unfold chkS; rw [if_neg (by simp; omega)]; rfl
        simp [hi, g0, hb3, q1, e1, e2, e3, e4, hfr.one, hd1, hc2]
        exact (hfr.nw hfr.next _).put hfr.next _
      by_cases hd2 : xd > C.length
      · have hc2 : chk l n = false := by
          rw [hc, ← he, he1]; unfold chkS; rw [if_neg (by simp; omega)]; rfl
        simp [hi, g0, hb3, q1, e1, e2, e3, e4, hfr.one, hd1, hd2, hc2, hw0, hwc, rdj, hgb]
        exact (hfr.nw hfr.next _).put hfr.next _
      obtain ⟨d, rfl⟩ : ∃ d : Nat, xd = ((d + 1 : Nat) : Int) := ⟨(xd - 1).toNat, by omega⟩
      have hd3 : d < C.length := by omega
      have hit := (rl.it d hd3).1
      have rk6 : o6[d]? = some (.int .i64 ((O.getD d 0 : Nat) : Int)) := (cut_at p66 hd3).trans (encK_at (by rw [rl.lenO]; exact hd3))
      have hok' := hok (by simp; omega) (by simp; omega)
      simp only [Int.toNat_natCast, Nat.add_sub_cancel] at hok'
      generalize O.getD d 0 = o at *
      have q2 := encsN_get hit
      generalize hp : nd l o = p at *
      obtain ⟨pk, pf, pt, pd⟩ := p
      simp only [encN] at q2 hok'
      have hd4 : ¬ (C.length : Int) < (d : Int) + 1 := by omega
      have hd5 : ¬ (d : Int) + 1 < 1 := by omega
      have hw1 : IntKind.i64.wrap (d : Int) = (d : Int) := wrap_i64 (by omega) (by omega)
      obtain ⟨u, hu⟩ : ∃ u : Nat, u = d + 2 := ⟨_, rfl⟩
      have hw2 : IntKind.i64.wrap ((d : Int) + 1 + 1) = (u : Int) := by rw [wrap_i64 (by omega) (by omega)]; omega
      have hgc : ¬ h3.next = g6 := by omega
      have hgd : ¬ g6 = h3.next := by omega
      have hge : ¬ g6 = h3.next + 1 := by omega
      have hgf : ¬ g5 = h3.next := by omega
      have hgh : ¬ g5 = h3.next + 1 := by omega
      have hgi : ¬ b = h3.next + 1 := by omega
      have e5 : o * 4 + 4 ≤ l.length * 4 := by omega
      have hfin : ∀ h4, (Fr h.next h h4) → (chkS C ⟨xk, xf, xt, ((d + 1 : Nat) : Int)⟩).isSome = false → (false = chk l n ∧ Fr h.next h h4) := by
        intro h4 hf4 h5
        refine ⟨?_, hf4⟩
        have h6 : chkS C ⟨xk, xf, xt, ((d + 1 : Nat) : Int)⟩ = none := by
          cases h7 : chkS C ⟨xk, xf, xt, ((d + 1 : Nat) : Int)⟩ with
          | none => rfl
          | some u => rw [h7] at h5; cases h5
        rw [hc, ← he, he1, h6]; rfl
      by_cases t1 : xf < pf
      · simp [hi, g0, hb3, q1, q2, e1, e2, e3, e4, hfr.one, hd4, hd5, hw0, hw1, hwc, rdj, hgb, f6, p64, rk6, hd3, hgd, hge, hit, e5, hgi, t1, -Bool.false_eq]
        refine hfin _ ((((hfr.nw hfr.next _).put hfr.next _).nw (by simp <;> omega) _).put (by omega) _) ?_
        rw [← Bool.not_eq_true, hok']; omega
      by_cases t2 : xt < xf
      · simp [hi, g0, hb3, q1, q2, e1, e2, e3, e4, hfr.one, hd4, hd5, hw0, hw1, hwc, rdj, hgb, f6, p64, rk6, hd3, hgd, hge, hit, e5, hgi, t1, t2, -Bool.false_eq]
        refine hfin _ ((((hfr.nw hfr.next _).put hfr.next _).nw (by simp <;> omega) _).put (by omega) _) ?_
        rw [← Bool.not_eq_true, hok']; omega
      by_cases t3 : pt < xt
      · simp [hi, g0, hb3, q1, q2, e1, e2, e3, e4, hfr.one, hd4, hd5, hw0, hw1, hwc, rdj, hgb, f6, p64, rk6, hd3, hgd, hge, hit, e5, hgi, t1, t2, t3, -Bool.false_eq]
        refine hfin _ ((((hfr.nw hfr.next _).put hfr.next _).nw (by simp <;> omega) _).put (by omega) _) ?_
        rw [← Bool.not_eq_true, hok']; omega
      have e6 : d + 1 ≤ k6 := by omega
      by_cases hdc : d + 1 < C.length
      · have e7 : minD (.int .i64 (C.length : Int)) (.int .i64 (u : Int)) = some (.int .i64 (u : Int)) := by
          by_cases c : (u : Int) < (C.length : Int)
          · simp [minD, c]
          · have : (C.length : Int) = u := by omega
            simp [minD, this]
        have rk5 : o5[d + 1]? = some (.int .i64 (E.getD (d + 1) 0)) := (cut_at p56 hdc).trans (encI_at (by rw [rl.lenE]; exact hdc))
        have e8 : u ≤ k5 := by omega
        have e9 : (d : Int) + 1 < u := by omega
        have e10 : d + 1 < u := by omega
        obtain ⟨ev, hev⟩ : ∃ ev, E.getD (d + 1) 0 = ev := ⟨_, rfl⟩
        rw [hev] at rk5 hok'
        by_cases t4 : xf < ev
        · simp [hi, g0, hb3, q1, q2, e1, e2, e3, e4, hfr.one, hd4, hd5, hw0, hw1, hw2, hwc, rdj, hgb, f5, f6, p54, p64, rk5, rk6, hd3, hgd, hge, hgf, hgh, hit, e5, hgi, t1, t2, t3, t4, e6, e7, e8, e9, e10, -Bool.false_eq]
          refine hfin _ ((((hfr.nw hfr.next _).put hfr.next _).nw (by simp <;> omega) _).put (by omega) _) ?_
          rw [← Bool.not_eq_true, hok']; omega
        have e11 : d + 1 + 1 ≤ k5 := by omega
        have e12 : ¬ h3.next = g5 := by omega
        have e13 : ¬ h3.next + 1 = g5 := by omega
        have e14 : ¬ g6 = g5 := fun e => pne e.symm
        have e15 : ¬ g5 = h3.next + 2 := by omega
        have e16 : ¬ g6 = h3.next + 2 := by omega
        have z1 : zerosD [.int .i64 0] 1 = [.int .i64 0] := rfl
        have hsome : (chkS C ⟨xk, xf, xt, ((d + 1 : Nat) : Int)⟩).isSome = true := by
          rw [hok']; omega
        obtain ⟨C', hC'⟩ := Option.isSome_iff_exists.1 hsome
        have hlc := (chkS_len hC').2.2
        have hrl := hst C' hC'
        simp only [Int.toNat_natCast] at hlc hrl
        simp [hi, g0, hb3, q1, q2, e1, e2, e3, e4, hfr.one, hd4, hd5, hw0, hw1, hw2, hwc, rdj, hgb, f5, f6, p54, p64, rk5, rk6, hd3, hgd, hge, hgf, hgh, hit, e5, hgi, t1, t2, t3, t4, e6, e7, e8, e9, e10, e11, p55, e12, e13, e14, -appS_some, z1]
        refine SlC.app (B := h.next) (cs := encK (O.take (d + 1))) ⟨g6, k6, o6, rfl, e6, p62, by simp; omega, by simp [hgd, hge, e14, e16, p64], by simpa using p65, encK_cut p66 (by omega)⟩ (by simp) (by simp; omega) (by rfl) (by decide) (by decide) (by rfl) (by omega) (by decide) (.inl rfl) ?_
        intro v' h' sl fr' _ keep knew
        have hw3 : IntKind.i64.wrap ((j : Int) + 1 + 1) = ((j + 1 + 1 : Nat) : Int) := by rw [wrap_i64 (by omega) (by omega)]; omega
        simp [hi, fr'.one, hw3]
        have hu' : u = C'.length := by omega
        subst hu'
        obtain ⟨g', k', o', rfl, s2, s3, s4, s5, s6, s7⟩ := sl
        refine ⟨j + 1 + 1, by omega, C', E.take (d + 1) ++ [xt], O.take (d + 1) ++ [j + 1], by simp, hrl, by omega, by rw [← he, he1, hC'], by omega, ?_, g5, k5, o5.set (d + 1) (.int .i64 xt), g', k', o', by simp, by omega, p52, ?_, ?_, by simp [p55], ?_, by simp [hlc], by omega, s3, s4, s5, s6, ?_, ?_⟩
        · exact ((((((hfr.nw hfr.next _).put hfr.next _).nw (by simp <;> omega) _).put (by omega) _).put p52 _).nw (by simp <;> omega) _).trans fr'
        · refine Nat.lt_of_lt_of_le ?_ fr'.next
          simp; omega
        · refine (keep g5 (by simp; omega) (by intro g x y e; cases e; omega)).trans ?_
          simp [e15]
        · rw [hlc]; exact encI_set rl.lenE p56 hdc xt
        · rw [hlc, s7]; simp [encK]
        · rintro rfl
          rcases knew _ _ _ rfl with ⟨x, y, e⟩ | e
          · cases e; exact pne rfl
          · simp at e; omega
      · have hdc' : C.length = d + 1 := by omega
        have e7 : minD (.int .i64 (C.length : Int)) (.int .i64 (u : Int)) = some (.int .i64 (C.length : Int)) := by
          have c : ¬ (u : Int) < (C.length : Int) := by omega
          simp [minD, c]
        have e9 : ¬ (d : Int) + 1 < (C.length : Int) := by omega
        have e11 : d + 1 ≤ k6 := by omega
        have e15 : ¬ g5 = h3.next + 2 := by omega
        have e16 : ¬ g6 = h3.next + 2 := by omega
        have e14 : ¬ g6 = g5 := fun e => pne e.symm
        have z1 : zerosD [.int .i64 0] 1 = [.int .i64 0] := rfl
        have hsome : (chkS C ⟨xk, xf, xt, ((d + 1 : Nat) : Int)⟩).isSome = true := by
          rw [hok']; omega
        obtain ⟨C', hC'⟩ := Option.isSome_iff_exists.1 hsome
        have hlc := (chkS_len hC').2.2
        have hrl := hst C' hC'
        simp only [Int.toNat_natCast] at hlc hrl
        simp [hi, g0, hb3, q1, q2, e1, e2, e3, e4, hfr.one, hd4, hd5, hw0, hw1, hw2, hwc, rdj, hgb, f5, f6, p54, p64, rk6, hd3, hgd, hge, hgf, hgh, hit, e5, hgi, t1, t2, t3, e6, e7, e9, p51, -appS_some, z1]
        refine SlC.app (B := h.next) (cs := encI E) ⟨g5, k5, o5, rfl, p51, p52, by simp; omega, by simp [hgf, hgh, e15, p54], by simpa using p55, p56⟩ (by simp) (by simp; omega) (by rfl) (by decide) (by decide) (by rfl) (by omega) (by decide) (.inl rfl) ?_
        intro v5 h4 sl5 fr4 hnx4 keep4 knew4
        simp [fr4.one, -appS_some, z1, hi]
        have k6a : h4.get g6 = some (.cells o6 1 true 0 none) := by
          refine (keep4 g6 (by simp; omega) (by intro g x y e; cases e; exact pne)).trans ?_
          simp [hgd, hge, e16, p64]
        have hn4 := fr4.next
        simp at hn4
        have e17 : ¬ g6 = h4.next := by omega
        refine SlC.app (B := h.next) (cs := encK (O.take (d + 1))) ⟨g6, k6, o6, rfl, e6, p62, by simp; omega, by simp [e17, k6a], by simpa using p65, encK_cut p66 (by omega)⟩ (by simp) (by simp; omega) (by rfl) (by decide) (by decide) (by rfl) (by omega) (by decide) (.inl rfl) ?_
        intro v' h' sl fr' _ keep knew
        have hw3 : IntKind.i64.wrap ((j : Int) + 1 + 1) = ((j + 1 + 1 : Nat) : Int) := by rw [wrap_i64 (by omega) (by omega)]; omega
        simp [hi, fr'.one, hw3]
        obtain ⟨g', k', o', rfl, s2, s3, s4, s5, s6, s7⟩ := sl
        obtain ⟨g8, k8, o8, rfl, r2, r3, r4, r5, r6, r7⟩ := sl5
        have hne : g8 ≠ g6 := by
          rintro rfl
          rcases knew4 _ _ _ rfl with ⟨x, y, e⟩ | e
          · cases e; exact pne rfl
          · simp at e; omega
        have hl8 : C'.length = C.length + 1 := by omega
        refine ⟨j + 1 + 1, by omega, C', E.take (d + 1) ++ [xt], O.take (d + 1) ++ [j + 1], by simp, hrl, by omega, by rw [← he, he1, hC'], by omega, ?_, g8, k8, o8, g', k', o', by simp [hl8], by omega, r3, ?_, ?_, r6, ?_, by simp [hlc], by omega, s3, s4, s5, s6, ?_, ?_⟩
        · exact (((((((hfr.nw hfr.next _).put hfr.next _).nw (by simp <;> omega) _).put (by omega) _).nw (by simp <;> omega) _).trans fr4).nw (by omega) _).trans fr'
        · refine Nat.lt_of_lt_of_le ?_ fr'.next
          simp; omega
        · refine (keep g8 (by simp; omega) (by intro g x y e; cases e; exact hne.symm)).trans ?_
          rw [get_nw, if_neg (by omega)]; exact r5
        · rw [hl8, r7, List.take_of_length_le (by rw [rl.lenE]; omega)]; simp [encI]
        · rw [hlc, s7]; simp [encK]
        · rintro rfl
          rcases knew _ _ _ rfl with ⟨x, y, e⟩ | e
          · cases e; exact hne rfl
          · simp at e; omega
    · have hc2 : chk l n = true := by
        rw [hc, ← he, List.drop_eq_nil_of_le (by omega)]; rfl
      have e1 : ¬ (i : Int) < l.length := by omega
      have e2 : ¬ i < l.length := by omega
      simp [hi, g0, e1, e2, hfr.one, hc2]
      exact hfr
  · have hc : chk l n = false := by rw [chk_pos hl1]; simp [hr0]
    simp [Tryd.f14, h1, hn0, hn1, a3, q0, b0, hl0, hl1, hl2, -eqD_succ, eq_root, hr0, hc, Fr.refl h1]
end Go.Dm
