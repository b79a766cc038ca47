/- The machine D, 12: its operations are followed by the model's: copy, maps, a text's runes. -/
import Derived.Test.YtpanpicbikihkaaDoorDOpsH
set_option linter.unusedVariables false
set_option linter.unusedSimpArgs false
namespace Go.Dm

section
variable {P : Program} {E : Env} (hE : EnvOk P E) {w : World} {m : Inj} {ok : OkC} {G : Nat} {h : H}
theorem firstCells_take {n k q : Nat} {x x' : Value} {cs : List Value} (R : HRel ok G m h w) (hx : VRel m x x') (hs : srcD n x h = some (k, cs)) (hq : q ≤ k) (hn : cs.length = k * n) :
    ∃ cs' : List Value, LRel m (cs.take (q * n)) cs' ∧ (Builtin.firstCells n q x').run P w = .ok cs'.toArray w := by
  unfold srcD at hs
  split at hs
  · cases hs
    obtain ⟨rfl, _⟩ := hx.nils
    obtain rfl : q = 0 := by omega
    exact ⟨[], by simp; exact .nil, rfl⟩
  · rename_i b o len c
    obtain ⟨a', c', rfl, h1, h2, h3⟩ := hx.slicev
    split at hs
    · rename_i h0
      cases hs
      obtain rfl : q = 0 := by omega
      refine ⟨[], by simp; exact .nil, ?_⟩
      show (loadCells a' (0 * n)).run P w = _
      rw [Nat.zero_mul]; rfl
    · rename_i h0
      cases hr : readD b o (len * n) h with
      | none => rw [hr] at hs; cases hs
      | some vs =>
        rw [hr] at hs
        cases hs
        unfold readD at hr
        split at hr
        · rename_i q' st own fz hg
          split at hr
          · rename_i hle
            cases hr
            rcases h3 with ⟨q1, _, _⟩ | ⟨i, hi, _, rfl, _⟩
            · omega
            · have hqn := Nat.mul_le_mul_right n hq
              obtain ⟨vs', k1, k2, k3, _⟩ := cells_sim (P := P) R hi hg (o := o) (n := q * n) (by omega)
              refine ⟨vs', ?_, k3⟩
              rw [List.take_take, Nat.min_eq_left hqn]
              exact k1
          · cases hr
        · cases hr
  · rename_i s
    obtain rfl := hx.string
    cases hs
    refine ⟨_, LRel.plain (List.all_eq_true.2 fun v hv => by obtain ⟨b, _, rfl⟩ := List.mem_map.1 (List.mem_of_mem_take hv); rfl), ?_⟩
    show Result.ok ((s.extract 0 q).data.map fun b => Value.int .u8 b.toNat) w = _
    congr 1
    apply Array.ext'
    simp at hn
    have hn1 : q * n = q ∨ s.size = 0 := by
      rcases Nat.eq_zero_or_pos s.size with h0 | h0
      · exact .inr h0
      · left
        have : n = 1 := by
          have h5 : s.size * n = s.size * 1 := by omega
          exact Nat.eq_of_mul_eq_mul_left h0 h5
        rw [this, Nat.mul_one]
    rcases hn1 with e | e
    · rw [e]; simp [List.map_take]
    · obtain rfl : q = 0 := by omega
      simp
  · cases hs
theorem firstCells_zero {n k : Nat} {x' : Value} (hk : (Builtin.lenOf x').run P w = .ok k w) : (Builtin.firstCells n 0 x').run P w = .ok #[] w := by
  cases x' with
  | string s =>
    show Result.ok ((s.extract 0 0).data.map fun b => Value.int .u8 b.toNat) w = _
    simp
  | slice a l c =>
    cases a with
    | none => rfl
    | some a => show (loadCells a (0 * n)).run P w = _; rw [Nat.zero_mul]; rfl
  | _ => simp [Builtin.lenOf] at hk
include hE in
theorem copy_sim (R : HRel ok G m h w) {ts : Array TypeId} {r : TypeId} {d d' x x' v : Value} {h' : H} (hd : VRel m d d') (hx : VRel m x x') (hc : copyD E ts.toList d x h = some (v, h')) :
    ∃ v' w', (Builtin.copy_ ts r #[d', x']).run P w = .ok v' w' ∧ Step ok G m h w v h' v' w' := by
  unfold copyD at hc
  split at hc
  · rename_i t rest hts
    have ht0 : ts[0]? = some t := by rw [← Array.getElem?_toList, hts]; rfl
    split at hc
    · rename_i elem hu
      split at hc
      · rename_i n hn
        split at hc
        · rename_i q hsrc
          cases hc
          obtain ⟨k, cs⟩ := q
          obtain ⟨rfl, _, _⟩ := hd.nils
          obtain ⟨hk, _⟩ := src_sim (P := P) R hx hsrc
          have hf := firstCells_zero (n := n) hk
          refine ⟨intV 0, w, ?_, Step.same R (.plain rfl)⟩
          simp [Builtin.copy_, ht0, run_underlying hE hu, hk, run_siz hE hn, hf, goInt, intV]
        · rename_i b o len cap k cs hsrc
          obtain ⟨a', c', rfl, h1, h2, h3⟩ := hd.slicev
          obtain ⟨hk, _⟩ := src_sim (P := P) R hx hsrc
          split at hc
          · cases hc
          · rename_i hlen
            simp at hlen
            obtain ⟨cs', hc1, hc2⟩ := firstCells_take (P := P) R hx hsrc (Nat.min_le_left k len) hlen
            split at hc
            · rename_i h0
              cases hc
              have hmin : Nat.min k len = 0 := h0
              rw [h0] at hc1 hc2
              have : cs' = [] := by have := hc1.length; simpa using this
              subst this
              refine ⟨intV 0, w, ?_, Step.same R (.plain rfl)⟩
              simp only [Builtin.copy_, ht0, List.getElem?_toArray, List.getElem?_cons_zero, List.getElem?_cons_succ, Sem.run_bind, run_underlying hE hu, Result.andThen_ok, hk, run_siz hE hn, hmin, hc2]
              rfl
            · rename_i h0
              split at hc
              · rename_i h2' hst
                cases hc
                rcases h3 with ⟨q1, _, _⟩ | ⟨i, hi, _, rfl, _⟩
                · subst q1; simp at h0
                · obtain ⟨w', s1, s2, s3⟩ := stCells_sim (P := P) R hi hc1 hst
                  refine ⟨intV (min k len : Nat), w', ?_, m, s2, s3, .plain rfl⟩
                  have hmm : Nat.min k len = min k len := rfl
                  simp only [Builtin.copy_, ht0, List.getElem?_toArray, List.getElem?_cons_zero, List.getElem?_cons_succ, Sem.run_bind, run_underlying hE hu, Result.andThen_ok, hk, run_siz hE hn, hmm, hc2, s1]
                  rfl
              · cases hc
        · cases hc
      · cases hc
    · cases hc
  · cases hc
end
end Go.Dm
