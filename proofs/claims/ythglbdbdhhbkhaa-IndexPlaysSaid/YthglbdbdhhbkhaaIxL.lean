/- What was known: the program's 'look' within Put. -/
import Derived.Test.YthglbdbdhhbkhaaIxP
set_option linter.unusedVariables false
set_option linter.unusedSimpArgs false
namespace Go.Dm
open Go.Proofs
def cnF (cn : List UInt8 → Nat) : List UInt8 → Option Value := fun s => if cn s = 0 then none else some (.int .i64 (cn s))
theorem cnF_get (cn : List UInt8 → Nat) (s : List UInt8) : (cnF cn s).getD (.int .i64 0) = .int .i64 (cn s) := by
  unfold cnF
  by_cases h : cn s = 0
  · rw [if_pos h, h]; rfl
  · rw [if_neg h]; rfl
def lookF (f : List UInt8 → Option Value) (cn : List UInt8 → Nat) (ss : List (List UInt8)) : List UInt8 → Option Value := fun s => if s ∈ ss then some ((f s).getD (.bool (decide (0 < cn s)))) else f s
theorem lookF_nil (f : List UInt8 → Option Value) (cn : List UInt8 → Nat) : lookF f cn [] = f := by funext s; simp [lookF]
set_option maxRecDepth 100000 in
set_option maxHeartbeats 8000000 in
theorem look_sp (lv : Value) (ss : List (List UInt8)) (wb pb xb em dm mm cm wm : Nat) (f : List UInt8 → Option Value) (cn : List UInt8 → Nat) (hcn : ∀ s, cn s < 2 ^ 40) (hl : ss.length < 2 ^ 40) (h : H) (h1 : h.one = []) (hr : RdS h lv ss) {fw fp : Nat} {tw tp : Option TypeId} {ow op' : Bool}
    (hw : h.get wb = some (.cells [.map (some wm)] 0 ow fw tw)) (hp : h.get pb = some (.cells [.pointer (some ⟨xb, 0, none⟩)] 0 op' fp tp)) (hx : h.get xb = some (.cells [.map (some em), .map (some dm), .map (some mm), .map (some cm)] 0 true 0 none))
    (hf : MapAt str h wm f) (hc : MapAt str h cm (cnF cn)) (hne : wm ≠ cm) :
    CallW E0 X1 (.fn 29) [lv, .pointer (some ⟨wb, 0, none⟩), .pointer (some ⟨pb, 0, none⟩)] h (fun r h' => MapAt str h' wm (lookF f cn ss) ∧ Upd wm h h') := by
  refine CallW.body efn29 rfl rfl rfl [] (by kernel_rfl) ?_
  obtain ⟨a, cap, rfl⟩ := hr.sl
  simp [Try.f29, h1]
  refine wpd_loop (fun (i : Nat) fr h3 => fr.get 10 = some (.int .i64 (i : Int)) ∧ i ≤ ss.length ∧ MapAt str h3 wm (lookF f cn (ss.take i)) ∧ Upd wm h h3) (fun i => ss.length - i) 0 ⟨by simp, by simp, by rw [List.take_zero, lookF_nil]; exact hf, ⟨rfl, rfl, fun _ _ => rfl⟩⟩ ?_
  rintro i fr h3 ⟨g10, hile, hm, u⟩ hfr
  have g1 := hfr 1 rfl
  have g2 := hfr 2 rfl
  have g8 := hfr 8 rfl
  have g9 := hfr 9 rfl
  simp at g1 g2 g8 g9
  have o3 : h3.one = [] := u.one.trans h1
  have mw : wm ≠ wb := by
    rintro rfl
    obtain ⟨es, clock, q, _⟩ := hf
    rw [hw] at q; cases q
  have mp' : wm ≠ pb := by
    rintro rfl
    obtain ⟨es, clock, q, _⟩ := hf
    rw [hp] at q; cases q
  have mx : wm ≠ xb := by
    rintro rfl
    obtain ⟨es, clock, q, _⟩ := hf
    rw [hx] at q; cases q
  have w3 := (u.get _ mw.symm).trans hw
  have p3 := (u.get _ mp'.symm).trans hp
  have x3 := (u.get _ mx.symm).trans hx
  have c3 : MapAt str h3 cm (cnF cn) := hc.of_get (u.get _ hne.symm)
  by_cases hi : i < ss.length
  · have hii : (i : Int) < ss.length := by omega
    obtain ⟨b, cap2, c, st, own, fz2, ty2, e, e2, e3, e4⟩ := hr.at hi
    cases e
    have mb : wm ≠ b := by
      rintro rfl
      obtain ⟨es, clock, q, _⟩ := hf
      rw [e2] at q; cases q
    have b3 := (u.get _ mb.symm).trans e2
    have hlk := lookup_at ko_str und64 zer4 hm ss[i] true
    have hlc := lookup_at ko_str und54 zer3 c3 ss[i] false
    rw [cnF_get] at hlc
    have htk : ss.take (i + 1) = ss.take i ++ [ss[i]] := List.take_succ_eq_append_getElem hi
    have hmt : ∀ s, s ∈ ss.take (i + 1) ↔ s ∈ ss.take i ∨ s = ss[i] := fun s => by rw [htk, List.mem_append, List.mem_singleton]
    have w1 : IntKind.i64.wrap ((i : Int) + 1) = ((i + 1 : Nat) : Int) := by rw [wrap_i64 (by omega) (by omega)]; omega
    simp [-lookupD_eq, -mapPutD_eq, g1, g2, g8, g9, g10, o3, hi, hii, b3, e3, w3, p3, x3, hlk]
    cases hs : lookF f cn (ss.take i) ss[i] with
    | some v =>
      simp [-lookupD_eq, -mapPutD_eq, g10, o3, w1]
      refine ⟨i + 1, by omega, rfl, by omega, hm.congr fun s => ?_, u⟩
      unfold lookF
      unfold lookF at hs
      by_cases q : s ∈ ss.take i
      · rw [if_pos q, if_pos ((hmt _).2 (.inl q))]
      · by_cases q2 : s = ss[i]
        · subst q2
          rw [if_neg q] at hs
          rw [if_neg q, if_pos ((hmt _).2 (.inr rfl)), hs]
          rfl
        · rw [if_neg q, if_neg (fun e => ((hmt _).1 e).elim q q2)]
    | none =>
      obtain ⟨h4, q1, q2, q3⟩ := put_at ko_str und64 hm ss[i] (.bool (decide (0 < cn ss[i])))
      simp only [Bool.false_eq_true, if_false] at hlc
      have hd : decide (0 < (cn ss[i] : Int)) = decide (0 < cn ss[i]) := by simp
      simp [-lookupD_eq, -mapPutD_eq, g1, g2, g10, o3, w3, p3, x3, w1, hlc, hd, q1, q2.one]
      refine ⟨i + 1, by omega, rfl, by omega, q3.congr fun s => ?_, ⟨q2.next.trans u.next, q2.one.trans u.one, fun b hb => (q2.get b hb).trans (u.get b hb)⟩⟩
      unfold lookF at hs ⊢
      by_cases q2 : s = ss[i]
      · subst q2
        rw [if_pos rfl, if_pos ((hmt _).2 (.inr rfl))]
        by_cases q : ss[i] ∈ ss.take i
        · rw [if_pos q] at hs; cases hs
        · rw [if_neg q] at hs; rw [hs]; rfl
      · rw [if_neg q2]
        by_cases q : s ∈ ss.take i
        · rw [if_pos q, if_pos ((hmt _).2 (.inl q))]
        · rw [if_neg q, if_neg (fun e => ((hmt _).1 e).elim q q2)]
  · have hii : ¬ (i : Int) < ss.length := by omega
    obtain rfl : i = ss.length := by omega
    simp [g8, g9, g10, o3]
    rw [List.take_length] at hm
    exact ⟨hm, u⟩
end Go.Dm
