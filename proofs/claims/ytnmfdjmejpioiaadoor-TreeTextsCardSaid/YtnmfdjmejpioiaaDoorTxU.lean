/- What a word tells as a number. -/
import Derived.Test.YtnmfdjmejpioiaaDoorTxT
set_option linter.unusedVariables false
set_option linter.unusedSimpArgs false
namespace Go.Dm
open Go.Proofs
theorem isDig_iff {c : UInt8} : isDig c = true ↔ 48 ≤ c.toNat ∧ c.toNat ≤ 57 := by simp [isDig]
theorem puint (M : Nat) (hM : M = 18446744073709551615) : ∀ (w : List UInt8) (acc : Nat), acc ≤ M → w.all isDig = true → Lib.parseUintM M acc w = if valF acc w ≤ M then .ok (valF acc w) else .range
  | [], acc, ha, _ => by
    show Lib.NumEnd.ok acc = if acc ≤ M then _ else _
    rw [if_pos ha]; rfl
  | c :: r, acc, ha, hd => by
    simp only [List.all_cons, Bool.and_eq_true] at hd
    obtain ⟨hc, hr⟩ := hd
    have hc2 := isDig_iff.1 hc
    have hle := valF_le r (10 * acc + (c.toNat - 48))
    have ih := puint M hM r (10 * acc + (c.toNat - 48))
    unfold Lib.parseUintM
    rw [if_pos hc2, show valF acc (c :: r) = valF (10 * acc + (c.toNat - 48)) r from rfl]
    by_cases c1 : 1844674407370955162 ≤ acc
    · rw [if_pos c1, if_neg (by omega)]
    · rw [if_neg c1]
      by_cases c2 : M < acc * 10 + (c.toNat - 48)
      · rw [if_pos c2, if_neg (by omega)]
      · rw [if_neg c2, Nat.mul_comm acc 10, ih (by omega) hr]
theorem pint {w : List UInt8} (hne : w ≠ []) (hd : w.all isDig = true) : Lib.parseIntB 64 w = if valN w < 9223372036854775808 then .ok (valN w : Int) else .range := by
  match w, hne, hd with
  | c :: r, _, hd =>
    have hc : isDig c = true := by simp only [List.all_cons, Bool.and_eq_true] at hd; exact hd.1
    have hc2 := isDig_iff.1 hc
    have e1 : ¬ (c.toNat = 43 ∨ c.toNat = 45) := by omega
    have e2 : ¬ (c.toNat = 45) := by omega
    have hp := puint _ rfl (c :: r) 0 (Nat.zero_le _) hd
    unfold Lib.parseIntB
    simp only [if_neg e1, Lib.parseUintB, show ((2 : Nat) ^ 64 - 1) = 18446744073709551615 from rfl, hp, show ((2 : Nat) ^ (64 - 1)) = 9223372036854775808 from rfl]
    have hv : valF 0 (c :: r) = valN (c :: r) := rfl
    rw [hv, if_neg (List.cons_ne_nil _ _)]
    by_cases c1 : valN (c :: r) ≤ 18446744073709551615
    · rw [if_pos c1]
      simp only [e2, not_false_eq_true, true_and, false_and, if_false]
      by_cases c2 : 9223372036854775808 ≤ valN (c :: r)
      · rw [if_pos c2, if_neg (by omega)]
      · rw [if_neg c2, if_pos (by omega)]
    · rw [if_neg c1, if_neg (by omega)]
/-- What the program's variable holds that tells of a number too great. -/
def Ge (h : H) : Prop := 3 < h.next ∧ ∃ te pv l st own fz ty, h.get 3 = some (.cells (.iface te pv :: l) st own fz ty)
theorem Ge.fr {B : Nat} {h h' : H} (g : Ge h) (f : Fr B h h') (hB : h.next ≤ B) : Ge h' := by
  obtain ⟨g1, te, pv, l, st, own, fz, ty, g2⟩ := g
  exact ⟨Nat.lt_of_lt_of_le g1 f.next, te, pv, l, st, own, fz, ty, (f.get _ (Nat.lt_of_lt_of_le g1 hB)).trans g2⟩
theorem pint_sp (w : List UInt8) (hne : w ≠ []) (hd : w.all isDig = true) (hs : w.length < 2 ^ 40) (h : H) (h1 : h.one = []) (hg : Ge h) :
    CallW E0 X0 (.fn 56) [str w, .int .i64 10, .int .i64 64] h (fun r h' => (∃ n e, r = .tuple #[.int .i64 n, e] ∧ ((valN w < 9223372036854775808 ∧ n = valN w ∧ e = .nilIface) ∨ (9223372036854775808 ≤ valN w ∧ ∃ t p, e = .iface t (.pointer p)))) ∧ Fr h.next h h') := by
  have hp := pint hne hd
  obtain ⟨g1, te, pv, l, st, own, fz, ty, g2⟩ := hg
  have hsz : (⟨⟨w⟩⟩ : ByteArray).size ≤ 281474976710656 := by show w.length ≤ _; omega
  by_cases c : valN w < 9223372036854775808
  · rw [if_pos c] at hp
    refine CallW.plug (v := .tuple #[.int .i64 (valN w), .nilIface]) (h' := h) ?_ ⟨⟨_, _, rfl, .inl ⟨c, rfl, rfl⟩⟩, Fr.refl h1⟩
    show (if (56 : FuncId) = 58 then _ else _) = _
    rw [if_neg (by decide), if_neg (by decide), if_pos rfl]
    show (if (⟨⟨w⟩⟩ : ByteArray).size ≤ 281474976710656 then _ else _) = _
    rw [if_pos hsz]
    simp only [hp]
  · rw [if_neg c] at hp
    refine CallW.plug (v := .tuple #[.int .i64 (Lib.intSat 64 w), .iface 110 (.pointer (some ⟨h.addr, 0, none⟩))]) (h' := h.new (.cells [] 0 false 0 none)) ?_ ⟨⟨_, _, rfl, .inr ⟨by omega, _, _, rfl⟩⟩, ?_⟩
    · show (if (56 : FuncId) = 58 then _ else _) = _
      rw [if_neg (by decide), if_neg (by decide), if_pos rfl]
      show (if (⟨⟨w⟩⟩ : ByteArray).size ≤ 281474976710656 then _ else _) = _
      rw [if_pos hsz]
      simp only [hp, g2]
    · rw [new_one h _ h1]; exact (Fr.refl h1).nw (Nat.le_refl _) _
theorem bin_nn (x : Operand) : binD E0 .eql 81 x (.const .nilIface) .nilIface .nilIface = some (.bool true) := by
  have hu := und81
  simp only [binD, eqTopD, isC, Bool.or_true, if_true, hu]; rfl
theorem bin_in (x y : Operand) (t : TypeId) (p : Value) : binD E0 .eql 81 x y (.iface t p) .nilIface = some (.bool false) := by
  have hu := und81
  simp only [binD, eqTopD, eqD, hu]; rfl
set_option maxRecDepth 100000 in
set_option maxHeartbeats 8000000 in
theorem number_sp (w : List UInt8) (hs : w.length < 2 ^ 40) (h : H) (h1 : h.one = []) (hg : Ge h) :
    CallW E0 X0 (.fn 46) [str w] h (fun r h' => (∃ n, r = .tuple #[.int .i64 n, .bool (numv w).isSome] ∧ ∀ m, numv w = some m → n = m) ∧ Fr h.next h h') := by
  refine CallW.body efn46 rfl rfl rfl [] (by kernel_rfl) ?_
  by_cases q0 : w = []
  · subst q0
    have hn : numv [] = none := rfl
    simp [Tryd.f46, h1, hn]
    exact Fr.refl h1
  have hp : 0 < w.length := List.length_pos_iff.2 q0
  have hh : w.head? = some (bt w 0) := by
    match w, q0 with
    | c :: r, _ => rfl
  have hp' : (0 : Int) < w.length := by omega
  have hix := idxB_nat (l := w) (k := 0) hp
  have hix : idxB w 0 = some (.int .u8 (bt w 0).toNat) := hix
  have e48 : ((bt w 0).toNat : Int) = 48 ↔ bt w 0 = 48 := by
    constructor
    · intro e; apply UInt8.toNat_inj.1; show (bt w 0).toNat = 48; omega
    · intro e; rw [e]; rfl
  have hT := fun hn : ¬ (1 < w.length ∧ bt w 0 = 48) => Trim_sp w hs h h1
  by_cases c0 : 1 < w.length ∧ bt w 0 = 48
  · obtain ⟨c1, c2⟩ := c0
    have c1' : (1 : Int) < w.length := by omega
    have hn : numv w = none := by unfold numv; rw [if_pos (.inr (.inl ⟨c1, by rw [hh, c2]⟩))]
    have c2' : ((bt w 0).toNat : Int) = 48 := e48.2 c2
    simp [Tryd.f46, h1, hn, q0, hp', hp, c1, c1', hix, c2]
    exact Fr.refl h1
  have hnum : w.all isDig = true → numv w = if valN w ≤ 1099511627776 then some (valN w) else none := by
    intro ha
    refine numv_of q0 ?_ ha
    rintro ⟨d1, d2⟩
    rw [hh] at d2
    exact c0 ⟨d1, Option.some.inj d2⟩
  have tail : ∀ (h2 : H) (u : List UInt8), (u = [] ↔ w.all isDig = true) → Fr h.next h h2 → w.all isDig = false → numv w = none := by
    intro _ _ _ _ hf
    unfold numv; rw [if_pos (.inr (.inr hf))]
  by_cases c1 : 1 < w.length
  · have c1' : (1 : Int) < w.length := by omega
    have c2 : ¬ bt w 0 = 48 := fun e => c0 ⟨c1, e⟩
    have c2' : ¬ ((bt w 0).toNat : Int) = 48 := fun e => c2 (e48.1 e)
    simp [Tryd.f46, h1, q0, hp', hp, c1, c1', hix, c2, c2']
    refine (Trim_sp w hs h h1).mono ?_
    rintro _ h2 ⟨⟨u, rfl, hu⟩, f2⟩
    by_cases hue : u = []
    · have ha := hu.1 hue
      subst hue
      simp [f2.one]
      refine (pint_sp w q0 ha hs h2 f2.one (hg.fr f2 (Nat.le_refl _))).mono ?_
      rintro _ h3 ⟨⟨n, e, rfl, hne⟩, f3⟩
      have hnw := hnum ha
      rcases hne with ⟨hv, rfl, rfl⟩ | ⟨hv, t, p, rfl⟩
      · by_cases c3 : valN w ≤ 1099511627776
        · rw [if_pos c3] at hnw
          have c3' : (valN w : Int) ≤ 1099511627776 := by omega
          simp [f3.one, hnw, c3, c3', bin_nn]
          exact f2.thn (Nat.le_refl _) f3
        · rw [if_neg c3] at hnw
          have c3' : ¬ (valN w : Int) ≤ 1099511627776 := by omega
          simp [f3.one, hnw, c3, c3', bin_nn]
          exact f2.thn (Nat.le_refl _) f3
      · rw [if_neg (by omega)] at hnw
        simp [f3.one, hnw, bin_in]
        exact f2.thn (Nat.le_refl _) f3
    · have ha : w.all isDig = false := by
        cases q : w.all isDig with
        | true => exact absurd (hu.2 q) hue
        | false => rfl
      have hn := tail h2 u hu f2 ha
      simp [f2.one, hue, hn]
      exact f2
  · have c1' : ¬ (1 : Int) < w.length := by omega
    simp [Tryd.f46, h1, q0, hp', hp, c1, c1']
    refine (Trim_sp w hs h h1).mono ?_
    rintro _ h2 ⟨⟨u, rfl, hu⟩, f2⟩
    by_cases hue : u = []
    · have ha := hu.1 hue
      subst hue
      simp [f2.one]
      refine (pint_sp w q0 ha hs h2 f2.one (hg.fr f2 (Nat.le_refl _))).mono ?_
      rintro _ h3 ⟨⟨n, e, rfl, hne⟩, f3⟩
      have hnw := hnum ha
      rcases hne with ⟨hv, rfl, rfl⟩ | ⟨hv, t, p, rfl⟩
      · by_cases c3 : valN w ≤ 1099511627776
        · rw [if_pos c3] at hnw
          have c3' : (valN w : Int) ≤ 1099511627776 := by omega
          simp [f3.one, hnw, c3, c3', bin_nn]
          exact f2.thn (Nat.le_refl _) f3
        · rw [if_neg c3] at hnw
          have c3' : ¬ (valN w : Int) ≤ 1099511627776 := by omega
          simp [f3.one, hnw, c3, c3', bin_nn]
          exact f2.thn (Nat.le_refl _) f3
      · rw [if_neg (by omega)] at hnw
        simp [f3.one, hnw, bin_in]
        exact f2.thn (Nat.le_refl _) f3
    · have ha : w.all isDig = false := by
        cases q : w.all isDig with
        | true => exact absurd (hu.2 q) hue
        | false => rfl
      have hn := tail h2 u hu f2 ha
      simp [f2.one, hue, hn]
      exact f2
set_option maxRecDepth 100000 in
set_option maxHeartbeats 8000000 in
theorem Clip_sp (l : List Nd) (b : Nat) (cap : Nat) (hc : l.length ≤ cap) (hl : l.length < 2 ^ 20) (h : H) (h1 : h.one = []) (C : List Value) (st fz : Nat) (hst : st = 0 ∨ st = 4) (own : Bool) (ty : Option TypeId) (hb : h.get b = some (.cells C st own fz ty)) :
    CallW E0 X0 (.fn 47) [.slice (some ⟨b, 0, none⟩) l.length cap] h (fun r h' => r = .slice (some ⟨b, 0, none⟩) l.length l.length ∧ h' = h) := by
  refine CallW.body efn47 rfl rfl rfl [] (by kernel_rfl) ?_
  have c2 : (l.length : Int) ≤ cap := by omega
  have hB : boundsD l.length cap none (some (.int .i64 (l.length : Int))) (some (.int .i64 (l.length : Int))) = some (0, l.length, l.length) := by simp [boundsD, hc]
  simp [Tryd.f47, h1, hb, hB, hc, c2]
  exact hst
end Go.Dm
