/- The index's functions, as they read its memory. -/
import Derived.Test.YthglbdbdhhbkhaaIxX
set_option linter.unusedVariables false
set_option linter.unusedSimpArgs false
namespace Go.Dm
open Go.Proofs
theorem xn {f : FuncId} (h1 : f ≠ 16) (h2 : f ≠ 23) (h3 : f ≠ 33) (h4 : f ≠ 31) (h5 : f ≠ 35) (h6 : f ≠ 26) (args : List Value) (h : H) : X0 f args h = none := by
  unfold X0
  rw [if_neg (by rintro (e | e); exact h1 e; exact h2 e)]
  unfold X1
  rw [if_neg h3, if_neg h4, if_neg h5, if_neg h6]
set_option maxRecDepth 100000 in
set_option maxHeartbeats 8000000 in
theorem New_sp (h : H) (h1 : h.one = []) : CallW E0 X0 (.fn 9) [] h (fun r h' => ∃ xb em dm mm cm, r = .pointer (some ⟨xb, 0, none⟩) ∧ Rep h' xb em dm mm cm [] (fun _ => none) ∧ Fr h.next h h' ∧ h.next ≤ xb ∧ h.next ≤ em ∧ h.next ≤ dm ∧ h.next ≤ mm ∧ h.next ≤ cm) := by
  refine CallW.body efn9 rfl (xn (by decide) (by decide) (by decide) (by decide) (by decide) (by decide) ..) rfl [] (by kernel_rfl) ?_
  simp [Try.f9, h1]
  refine ⟨h.next, h.next + 1, h.next + 2, h.next + 3, ?_, (((((Fr.refl h1).nw (Nat.le_refl _) _).nw (by simp) _).nw (by simp) _).nw (by simp) _).nw (by simp) _, by omega, by omega, by omega, by omega⟩
  have z1 : ∀ k, dF [] k = none := fun k => rfl
  have z2 : ∀ k, mF [] k = none := fun k => rfl
  have z3 : ∀ k, cnF (cntL []) k = none := fun k => rfl
  refine ⟨by simp, by simp, by simp, by simp, by simp, by simp, ⟨by omega, by omega, by omega, by omega, by omega, by omega⟩, MapAt.new _ (by simp), fun n => rfl, (MapAt.new _ (by simp)).congr fun k => (z1 k).symm, (MapAt.new _ (by simp)).congr fun k => (z2 k).symm, (MapAt.new _ (by simp)).congr fun k => (z3 k).symm, List.Pairwise.nil, by simp, by simp⟩
set_option maxRecDepth 100000 in
set_option maxHeartbeats 8000000 in
theorem Defined_sp (xb em dm mm cm : Nat) (L : List En) (f : Int → Option Value) (l : List UInt8) (h : H) (h1 : h.one = []) (rep : Rep h xb em dm mm cm L f) : CallW E0 X0 (.fn 13) [.pointer (some ⟨xb, 0, none⟩), str l] h (fun v h' => v = .int .i64 (cntL L l) ∧ h' = h) := by
  refine CallW.body efn13 rfl (xn (by decide) (by decide) (by decide) (by decide) (by decide) (by decide) ..) rfl [] (by kernel_rfl) ?_
  have hlk := lookup_at ko_str und54 zer3 rep.c l false
  rw [cnF_get] at hlk
  simp only [Bool.false_eq_true, if_false] at hlk
  simp [-lookupD_eq, Try.f13, h1, rep.x, hlk]
theorem Defined_nil (l : List UInt8) (h : H) (h1 : h.one = []) : CallW E0 X0 (.fn 13) [.pointer none, str l] h (fun v h' => v = .int .i64 0 ∧ h' = h) := by
  refine CallW.body efn13 rfl (xn (by decide) (by decide) (by decide) (by decide) (by decide) (by decide) ..) rfl [] (by kernel_rfl) ?_
  simp [Try.f13, h1, xptr_nn]
set_option maxRecDepth 100000 in
set_option maxHeartbeats 8000000 in
theorem Has_sp (xb em dm mm cm : Nat) (L : List En) (f : Int → Option Value) (n : Int) (l : List UInt8) (h : H) (h1 : h.one = []) (rep : Rep h xb em dm mm cm L f) : CallW E0 X0 (.fn 18) [.pointer (some ⟨xb, 0, none⟩), .int .i64 n, str l] h (fun v h' => v = .tuple #[.bool (decide (l ∈ dOf L n)), .bool (decide (l ∈ mOf L n))] ∧ Fr h.next h h') := by
  refine CallW.body efn18 rfl (xn (by decide) (by decide) (by decide) (by decide) (by decide) (by decide) ..) rfl [] (by kernel_rfl) ?_
  obtain ⟨h2, hH⟩ : ∃ h2, h2 = (h.nw (.cells [str [], .int .i64 0] 0 true 0 none)).put h.next (.cells [str l, .int .i64 n] 0 true 0 none) := ⟨_, rfl⟩
  have f2 : Fr h.next h h2 := by rw [hH]; exact ((Fr.refl h1).nw (Nat.le_refl _) _).put (Nat.le_refl _) _
  have x2 := (f2.get _ rep.xlt).trans rep.x
  have hl1 := lookup_at ko_said und53 zer4 (rep.d.of_get (f2.get _ rep.dlt)) (l, n) false
  have hl2 := lookup_at ko_said und53 zer4 (rep.m.of_get (f2.get _ rep.mlt)) (l, n) false
  have e1 : (dF L (l, n)).getD (.bool false) = .bool (decide (l ∈ dOf L n)) := by unfold dF; by_cases q : l ∈ dOf L n <;> simp [q]
  have e2 : (mF L (l, n)).getD (.bool false) = .bool (decide (l ∈ mOf L n)) := by unfold mF; by_cases q : l ∈ mOf L n <;> simp [q]
  simp only [Bool.false_eq_true, if_false, e1, e2, keyS] at hl1 hl2
  rw [hH] at hl1 hl2 f2
  have hxl := rep.xlt
  simp [-lookupD_eq, Try.f18, h1, rep.x, show ¬ xb = h.next by omega, hl1, hl2]
  exact f2
theorem Has_nil (n : Int) (l : List UInt8) (h : H) (h1 : h.one = []) : CallW E0 X0 (.fn 18) [.pointer none, .int .i64 n, str l] h (fun v h' => v = .tuple #[.bool false, .bool false] ∧ h' = h) := by
  refine CallW.body efn18 rfl (xn (by decide) (by decide) (by decide) (by decide) (by decide) (by decide) ..) rfl [] (by kernel_rfl) ?_
  simp [Try.f18, h1, xptr_nn]
set_option maxRecDepth 100000 in
set_option maxHeartbeats 8000000 in
theorem Len_sp (xb em dm mm cm : Nat) (L : List En) (f : Int → Option Value) (h : H) (h1 : h.one = []) (rep : Rep h xb em dm mm cm L f) : CallW E0 X0 (.fn 25) [.pointer (some ⟨xb, 0, none⟩)] h (fun v h' => v = .int .i64 L.length ∧ h' = h) := by
  refine CallW.body efn25 rfl (xn (by decide) (by decide) (by decide) (by decide) (by decide) (by decide) ..) rfl [] (by kernel_rfl) ?_
  have hnd : (L.map (·.n)).Nodup := (List.pairwise_map.2 (rep.ris.imp fun h => h)).imp fun h e => by omega
  have hl := len_at rep.e und52 (L.map (·.n)) hnd (fun k => by
    have q := rep.en k
    constructor
    · intro hk
      obtain ⟨e, he, rfl⟩ := List.mem_map.1 hk
      rw [(getL_some rep.ris).2 ⟨he, rfl⟩] at q
      obtain ⟨v1, v2, q, _⟩ := q
      rw [q]; rfl
    · intro hk
      cases hg : getL L k with
      | none => rw [hg] at q; simp only at q; rw [q] at hk; cases hk
      | some e => exact List.mem_map.2 ⟨e, ((getL_some rep.ris).1 hg).1, ((getL_some rep.ris).1 hg).2⟩)
  simp only [List.length_map] at hl
  simp [-lenD_eq, Try.f25, h1, rep.x, hl, intV]
theorem Len_nil (h : H) (h1 : h.one = []) : CallW E0 X0 (.fn 25) [.pointer none] h (fun v h' => v = .int .i64 0 ∧ h' = h) := by
  refine CallW.body efn25 rfl (xn (by decide) (by decide) (by decide) (by decide) (by decide) (by decide) ..) rfl [] (by kernel_rfl) ?_
  simp [Try.f25, h1, xptr_nn]
set_option maxRecDepth 100000 in
set_option maxHeartbeats 8000000 in
theorem Known_sp (xb em dm mm cm : Nat) (L : List En) (f : Int → Option Value) (h : H) (h1 : h.one = []) (rep : Rep h xb em dm mm cm L f) (hT : totL L < 2 ^ 20) : CallW E0 X0 (.fn 10) [.pointer (some ⟨xb, 0, none⟩)] h (fun v h' => Gath h.next h' v (knownL L) ∧ Fr h.next h h') := by
  refine CallW.body efn10 rfl (xn (by decide) (by decide) (by decide) (by decide) (by decide) (by decide) ..) rfl [] (by kernel_rfl) ?_
  simp [Try.f10, h1, rep.x]
  have hK : CallW E0 X0 (.fn 27) [.map (some cm)] h (fun r h' => r = .func (.func 34) #[] #[.pointer (some ⟨h.next, 0, none⟩)] ∧ h' = h.nw (.cells [.map (some cm)] 0 true 0 (some 54))) := by
    refine CallW.body efn27 rfl (xn (by decide) (by decide) (by decide) (by decide) (by decide) (by decide) ..) rfl [] (by kernel_rfl) ?_
    simp [Try.f27, h1]
  refine hK.mono ?_
  rintro _ h2 ⟨rfl, rfl⟩
  simp
  obtain ⟨es, clock, hg, mp⟩ := rep.c
  have hcl := rep.clt
  have hkeys : (encA str es).map (·.key) = (es.map (·.1)).map str := by simp [encA]
  have hmem : ∀ s, s ∈ es.map (·.1) ↔ s ∈ knownL L := by
    intro s
    rw [known_mem]
    constructor
    · intro hs
      obtain ⟨⟨s', v, b⟩, hb, rfl⟩ := List.mem_map.1 hs
      have q := (mp.lk s' v).2 ⟨b, hb⟩
      unfold cnF at q
      by_cases h0 : cntL L s' = 0
      · rw [if_pos h0] at q; cases q
      · simp only; omega
    · intro hs
      obtain ⟨b, hb⟩ := (mp.lk s (.int .i64 (cntL L s))).1 (by unfold cnF; rw [if_neg (by omega)])
      exact List.mem_map.2 ⟨_, hb, rfl⟩
  have hsrt : srtS (es.map (·.1)) = knownL L := (srtS_up mp.kn).ext (known_up L) fun s => by rw [(srtS_p _).mem_iff]; exact hmem s
  have hlen : es.length ≤ totL L := by
    have h2 := nodup_len (b := L.flatMap (·.d)) mp.kn (fun s hs => by
      have := (hmem s).1 hs
      rwa [knownL, riseL_mem] at this)
    have h3 : ∀ M : List En, (M.flatMap (·.d)).length ≤ totL M := by
      intro M
      induction M with
      | nil => exact Nat.le_refl _
      | cons a M ih =>
        unfold totL at *
        simp only [List.flatMap_cons, List.length_append, List.map_cons, List.sum_cons] at *
        omega
    have := h3 L
    simp only [List.length_map] at h2
    omega
  have hml : ∀ s ∈ es.map (·.1), s.length ≤ maxLen := by
    intro s hs
    obtain ⟨e, he, hse⟩ := cnt_pos.1 (known_mem.1 ((hmem s).1 hs))
    exact rep.ml e he s hse
  have hbn : ((encA str es).map (·.born)).Nodup := by
    have : (encA str es).map (·.born) = es.map (·.2.2) := by simp [encA]
    rw [this]; exact mp.bn
  have hbl : ∀ e ∈ encA str es, e.born < clock := by
    intro e he
    obtain ⟨x, hx, rfl⟩ := List.mem_map.1 he
    exact mp.bl x hx
  have hel : (encA str es).length < 1099511627776 := by simp only [encA, List.length_map]; omega
  have hplug : keysP [.func (.func 34) #[] #[.pointer (some ⟨h.next, 0, none⟩)]] (h.nw (.cells [.map (some cm)] 0 true 0 (some 54))) = some (if es.map (·.1) = [] then (.slice none 0 0, h.nw (.cells [.map (some cm)] 0 true 0 (some 54))) else (.slice (some ⟨h.next + 1, 0, none⟩) (es.map (·.1)).length (es.map (·.1)).length, (h.nw (.cells [.map (some cm)] 0 true 0 (some 54))).nw (.cells ((srtS (es.map (·.1))).map str) 1 true 0 none))) := by
    have g1 : (h.nw (.cells [.map (some cm)] 0 true 0 (some 54))).get h.next = some (.cells [.map (some cm)] 0 true 0 (some 54)) := by simp
    have g2 : (h.nw (.cells [.map (some cm)] 0 true 0 (some 54))).get cm = some (.map (encA str es) clock) := by rw [get_nw, if_neg (by omega)]; exact hg
    unfold keysP
    simp only [if_true, g1, g2, hkeys, strsD_map, and_self]
    rw [if_pos ⟨⟨mp.kn, hbn, hbl⟩, hel, hml⟩]
    simp
  have hX : X0 26 [.func (.func 34) #[] #[.pointer (some ⟨h.next, 0, none⟩)]] (h.nw (.cells [.map (some cm)] 0 true 0 (some 54))) = keysP [.func (.func 34) #[] #[.pointer (some ⟨h.next, 0, none⟩)]] (h.nw (.cells [.map (some cm)] 0 true 0 (some 54))) := by
    unfold X0
    rw [if_neg (by decide)]
    unfold X1
    rw [if_neg (by decide), if_neg (by decide), if_neg (by decide), if_pos rfl]
  have fa : Fr h.next h (h.nw (.cells [.map (some cm)] 0 true 0 (some 54))) := (Fr.refl h1).nw (Nat.le_refl _) _
  by_cases h0 : es.map (·.1) = []
  · rw [if_pos h0] at hplug
    refine CallW.plug (hX.trans hplug) ?_
    simp
    refine ⟨.inl ⟨rfl, ?_⟩, fa⟩
    rw [← hsrt, h0]
    exact List.mergeSort_nil
  · rw [if_neg h0] at hplug
    refine CallW.plug (hX.trans hplug) ?_
    simp
    have hll : (knownL L).length = es.length := by rw [← hsrt, srtS_len]; simp
    refine ⟨.inr ⟨fun e => h0 ?_, ?_⟩, fa.nw (by simp) _⟩
    · rw [e] at hll
      have : es = [] := List.eq_nil_of_length_eq_zero hll.symm
      rw [this]; rfl
    · rw [hll, hsrt]
      exact ⟨h.next + 1, es.length, (knownL L).map str, rfl, Nat.le_refl _, by omega, by simp, by simp, by simp [hll], by rw [Nat.mul_one, ← hll]; exact List.take_of_length_le (by simp)⟩
theorem Known_nil (h : H) (h1 : h.one = []) : CallW E0 X0 (.fn 10) [.pointer none] h (fun v h' => v = .slice none 0 0 ∧ h' = h) := by
  refine CallW.body efn10 rfl (xn (by decide) (by decide) (by decide) (by decide) (by decide) (by decide) ..) rfl [] (by kernel_rfl) ?_
  simp [Try.f10, h1, xptr_nn]
theorem riseL_nil : riseL [] = [] := List.eq_nil_of_length_eq_zero (Nat.le_zero.1 (riseL_len []))
theorem rdn (h : H) : RdS h (.slice none 0 0) [] := .inl ⟨none, rfl, rfl⟩
theorem Drop_sp (xb em dm mm cm : Nat) (L : List En) (f : Int → Option Value) (n : Int) (h : H) (h1 : h.one = []) (rep : Rep h xb em dm mm cm L f) (hn0 : 0 ≤ n) (hT : totL L < 2 ^ 20) :
    CallW E0 X0 (.fn 14) [.pointer (some ⟨xb, 0, none⟩), .int .i64 n] h (PutPost xb em dm mm cm L (putL L n [] []) f n h) := by
  refine CallW.body efn14 rfl (xn (by decide) (by decide) (by decide) (by decide) (by decide) (by decide) ..) rfl [] (by kernel_rfl) ?_
  simp [Try.f14, h1]
  refine (Put_sp xb em dm mm cm L f n _ _ [] [] h h1 rep (rdn h) (rdn h) hn0 (by simpa using hT) (by simp)).mono ?_
  intro r h' hp
  rw [riseL_nil] at hp
  obtain ⟨rv, o, rfl, q1, q2, q3, q4, q5, q6⟩ := id hp
  simp [q6]
  exact hp
theorem Drop_neg (xb : Nat) (n : Int) (hn : n < 0) (h : H) (h1 : h.one = []) : CallW E0 X0 (.fn 14) [.pointer (some ⟨xb, 0, none⟩), .int .i64 n] h (fun v h' => v = .tuple #[.slice none 0 0, .int .i64 1] ∧ Fr h.next h h') := by
  refine CallW.body efn14 rfl (xn (by decide) (by decide) (by decide) (by decide) (by decide) (by decide) ..) rfl [] (by kernel_rfl) ?_
  simp [Try.f14, h1]
  refine (Put_neg xb n hn _ _ h h1).mono ?_
  rintro r h' ⟨rfl, f⟩
  simp [f.one]
  exact f
theorem Drop_nil (n : Int) (h : H) (h1 : h.one = []) : CallW E0 X0 (.fn 14) [.pointer none, .int .i64 n] h (fun v h' => v = .tuple #[.slice none 0 0, .int .i64 8] ∧ Fr h.next h h') := by
  refine CallW.body efn14 rfl (xn (by decide) (by decide) (by decide) (by decide) (by decide) (by decide) ..) rfl [] (by kernel_rfl) ?_
  simp [Try.f14, h1]
  refine (Put_nil n _ _ h h1).mono ?_
  rintro r h' ⟨rfl, f⟩
  simp [f.one]
  exact f
end Go.Dm
