/- The machine D, 35: of what was made on the way only the result is kept, under a number that hangs on no order. -/
import Derived.Test.YthclahlplcfdpaaGreatDoorDRng
set_option linter.unusedVariables false
set_option linter.unusedSimpArgs false
namespace Go.Dm
/-- A state: hp's blocks, and one more under the number M. -/
def gcH (hp : H) (M : Nat) (o : DObj) : H := { next := M + 1, objs := hp.objs.set M (some o), one := [] }
theorem gcH_get (hp : H) (M : Nat) (o : DObj) (b : Nat) : (gcH hp M o).get b = if b = M then some o else hp.get b := by
  have := H.get_put { hp with next := M + 1, one := [] } M o b
  exact this
theorem Told.gc {E : Env} {G : Nat} {h hp h1 : H} {M vb : Nat} {o1 o : DObj} {v1 v : Value} (hn : h.next ≤ hp.next) (hpw : (∀ b, h.next ≤ b → h.get b = none) → ∀ b, hp.next ≤ b → hp.get b = none) (hM : h1.next ≤ M) (hvb : hp.next ≤ vb) (ho : h1.get vb = some o1) (hmut : o.mut = true → o1.mut = true)
    (hob : ∀ (m : Inj) (w : World) (i : Img), ORel (okC E G false) m w i o1 → ORel (okC E G false) m w i o) (hsame : (∀ b, h.next ≤ b → h.get b = none) → ∀ b u, hp.get b = some u → h1.get b = some u) (hv : ∀ (m1 m2 : Inj) (v' : Value), Ext m1 m2 → m2 M = m1 vb → (∀ i, m1 vb = some i → ∃ w, ORel (okC E G false) m1 w i o1) → VRel m1 v1 v' → VRel m2 v v') : Told E G h v1 h1 v (gcH hp M o) := by
  rintro m w v' w' R ⟨m1, e1, R1, V1⟩
  have hpw := hpw R.wf
  have hsame := hsame R.wf
  have hvlt : vb < h1.next := by
    rcases Nat.lt_or_ge vb h1.next with h | h
    · exact h
    · rw [R1.wf _ h] at ho; cases ho
  have hnM : m1 M = none := by
    cases hc : m1 M with
    | none => rfl
    | some k => exact absurd (R1.dom _ _ hc).1 (by omega)
  obtain ⟨m2, hm2⟩ : ∃ m2 : Inj, m2 = fun b => if b = M then m1 vb else m1 b := ⟨_, rfl⟩
  have h2M : m2 M = m1 vb := by rw [hm2]; simp
  have h2o : ∀ b, b ≠ M → m2 b = m1 b := fun b hb => by rw [hm2]; simp [hb]
  have hext : Ext m1 m2 := fun b k hk => (h2o b (fun e => by rw [e, hnM] at hk; cases hk)).trans hk
  have hget : ∀ b u, (gcH hp M o).get b = some u → (b = M ∧ u = o) ∨ (b ≠ M ∧ b < hp.next ∧ h1.get b = some u) := by
    intro b u hb
    rw [gcH_get] at hb
    by_cases e : b = M
    · rw [if_pos e] at hb; cases hb; exact .inl ⟨e, rfl⟩
    · rw [if_neg e] at hb
      refine .inr ⟨e, ?_, hsame b u hb⟩
      rcases Nat.lt_or_ge b hp.next with h | h
      · exact h
      · rw [hpw b h] at hb; cases hb
  refine ⟨m2, ?_, ?_, hv m1 m2 v' hext h2M (fun i hi => ⟨w', R1.obj vb o1 i ho hi⟩) V1⟩
  · exact {
      ext := e1.ext.trans hext
      os := e1.os, tape := e1.tape, output := e1.output, size := e1.size, keep := e1.keep
      new := fun b k hb hn2 => by
        by_cases e : b = M
        · subst e
          rw [h2M] at hb
          have hmv : m vb = none := by
            cases hc : m vb with
            | none => rfl
            | some k => exact absurd (R.dom _ _ hc).1 (by omega)
          exact e1.new vb k hb hmv
        · rw [h2o b e] at hb; exact e1.new b k hb hn2
      own := fun r hr ⟨b, u, k, hb, hm, hk, ek⟩ => by
        rcases hget b u hb with ⟨rfl, rfl⟩ | ⟨e, hl, hb1⟩
        · rw [h2M] at hk; exact e1.own r hr ⟨vb, _, k, ho, hmut hm, hk, ek⟩
        · rw [h2o b e] at hk; exact e1.own r hr ⟨b, u, k, hb1, hm, hk, ek⟩ }
  · exact {
      obj := fun b u k hb hk => by
        rcases hget b u hb with ⟨rfl, rfl⟩ | ⟨e, hl, hb1⟩
        · rw [h2M] at hk; exact hob _ _ _ ((R1.obj vb _ k ho hk).congr hext rfl)
        · rw [h2o b e] at hk; exact (R1.obj b u k hb1 hk).congr hext rfl
      inj := fun b b' u u' k k' hb hm hb' hk hk' eq => by
        rcases hget b u hb with ⟨rfl, rfl⟩ | ⟨e, hl, hb1⟩
        · rcases hget b' u' hb' with ⟨rfl, rfl⟩ | ⟨e', hl', hb1'⟩
          · rfl
          · rw [h2M] at hk
            rw [h2o b' e'] at hk'
            have := R1.inj vb b' _ u' k k' ho (hmut hm) hb1' hk hk' eq
            omega
        · rw [h2o b e] at hk
          rcases hget b' u' hb' with ⟨rfl, rfl⟩ | ⟨e', hl', hb1'⟩
          · rw [h2M] at hk'
            have := R1.inj b vb u _ k k' hb1 hm ho hk hk' eq
            omega
          · rw [h2o b' e'] at hk'
            exact R1.inj b b' u u' k k' hb1 hm hb1' hk hk' eq
      dom := fun b k hk => by
        by_cases e : b = M
        · subst e; rw [h2M] at hk; exact ⟨Nat.lt_succ_self _, (R1.dom _ _ hk).2⟩
        · rw [h2o b e] at hk
          have := R1.dom b k hk
          exact ⟨by show b < M + 1; omega, this.2⟩
      one := fun b hb => by cases hb
      wf := fun b hb => by
        have hb' : M + 1 ≤ b := hb
        rw [gcH_get, if_neg (by omega)]
        exact hpw b (by omega)
      glob := fun g hg => by
        obtain ⟨k, k1, k2⟩ := R1.glob g hg
        exact ⟨k, hext _ _ k1, k2⟩ }
/-- Of a row its first cells. -/
theorem row_take {ok : OkC} {m : Inj} {w : World} {i : Img} {c c2 : List Value} {n : Nat} (hc : c.take c2.length = c2) (r : ORel ok m w i (.cells c n true 0 none)) : ORel ok m w i (.cells c2 n true 0 none) := by
  obtain ⟨h0, c', e, lo, hi, h1, h2, h3, h4, h5, h6⟩ := r
  have hl : c2.length ≤ c.length := by
    have := congrArg List.length hc
    rw [List.length_take] at this
    omega
  refine ⟨h0, c', e, lo, hi, h1, h2, by omega, fun j v hj => h4 j v ?_, h5, by simp⟩
  rw [← hc, List.getElem?_take] at hj
  split at hj
  · exact hj
  · cases hj
/-- A row is kept: a slice of it whose capacity is its length. -/
theorem Told.row {E : Env} {G : Nat} {h hp h1 : H} {M vb : Nat} {c c2 : List Value} {len cap : Nat} (hn : h.next ≤ hp.next) (hpw : (∀ b, h.next ≤ b → h.get b = none) → ∀ b, hp.next ≤ b → hp.get b = none) (hM : h1.next ≤ M) (hvb : hp.next ≤ vb) (ho : h1.get vb = some (.cells c 1 true 0 none))
    (hc : c.take c2.length = c2) (hl : c2.length = len) (hcap : cap ≤ c.length) (hsame : (∀ b, h.next ≤ b → h.get b = none) → ∀ b u, hp.get b = some u → h1.get b = some u) : Told E G h (.slice (some ⟨vb, 0, none⟩) len cap) h1 (.slice (some ⟨M, 0, none⟩) len len) (gcH hp M (.cells c2 1 true 0 none)) := by
  refine Told.gc hn hpw hM hvb ho (fun z => z) (fun m w i => row_take hc) hsame ?_
  intro m1 m2 v' hx hm hO hv
  cases hv with
  | plain h => simp [plain0] at h
  | slice0 => exact .slice0
  | @slice _ _ _ _ c' i h h1 h2 h3 =>
    obtain ⟨w, h0, c', e, lo, hi, g1, g2, g3, _⟩ := hO i h
    have hl2 : c2.length ≤ c.length := by
      have := congrArg List.length hc
      rw [List.length_take] at this
      omega
    rcases h3 with rfl | ⟨q1, q2⟩
    · exact .slice (hm.trans h) (Nat.le_refl _) (by omega) (.inr ⟨by rw [h0]; exact Nat.one_pos, by rw [h0]; omega⟩)
    · exact .slice (hm.trans h) (Nat.le_refl _) (by omega) (.inr ⟨q1, q2⟩)
/-- The same, where the result needs no block. -/
def gc0H (hp : H) (M : Nat) : H := { next := M, objs := hp.objs, one := [] }
theorem gc0H_get (hp : H) (M : Nat) (b : Nat) : (gc0H hp M).get b = hp.get b := rfl
theorem Told.gc0 {E : Env} {G : Nat} {h hp h1 : H} {M : Nat} {v1 v : Value} (hn : hp.next ≤ M) (hpw : (∀ b, h.next ≤ b → h.get b = none) → ∀ b, hp.next ≤ b → hp.get b = none) (hM : h1.next ≤ M)
    (hsame : (∀ b, h.next ≤ b → h.get b = none) → ∀ b u, hp.get b = some u → h1.get b = some u) (hv : ∀ (m : Inj) (v' : Value), VRel m v1 v' → VRel m v v') : Told E G h v1 h1 v (gc0H hp M) := by
  rintro m w v' w' R ⟨m1, e1, R1, V1⟩
  have hpw := hpw R.wf
  have hsame := hsame R.wf
  refine ⟨m1, ?_, ?_, hv m1 v' V1⟩
  · exact {
      ext := e1.ext, os := e1.os, tape := e1.tape, output := e1.output, size := e1.size, keep := e1.keep, new := e1.new
      own := fun r hr ⟨b, u, k, hb, hm, hk, ek⟩ => e1.own r hr ⟨b, u, k, hsame b u hb, hm, hk, ek⟩ }
  · exact {
      obj := fun b u k hb hk => R1.obj b u k (hsame b u hb) hk
      inj := fun b b' u u' k k' hb hm hb' hk hk' eq => R1.inj b b' u u' k k' (hsame b u hb) hm (hsame b' u' hb') hk hk' eq
      dom := fun b k hk => ⟨Nat.lt_of_lt_of_le (R1.dom b k hk).1 hM, (R1.dom b k hk).2⟩
      one := fun b hb => by cases hb
      wf := fun b hb => hpw b (Nat.le_trans hn hb)
      glob := R1.glob }
end Go.Dm
