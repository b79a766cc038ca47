/- What 'AppendInt' comes to, below two million. -/
import Derived.Test.YtnmfdjmejpioiaaDoorTxF
set_option linter.unusedVariables false
set_option linter.unusedSimpArgs false
namespace Go.Dm
open Go.Proofs
theorem fb_all (u : Nat) (h0 : 100 ≤ u) (hu : u < 2097152) (b : Nat) (h : H) (h1 : h.one = []) (hb : h.get b = some (.cells [.int .u8 0, .int .u8 0, .int .u8 0, .int .u8 0, .int .u8 0, .int .u8 0, .int .u8 0, .int .u8 0, .int .u8 0, .int .u8 0, .int .u8 0, .int .u8 0, .int .u8 0, .int .u8 0, .int .u8 0, .int .u8 0, .int .u8 0, .int .u8 0, .int .u8 0, .int .u8 0, .int .u8 0, .int .u8 0, .int .u8 0, .int .u8 0] 0 true 0 none)) :
    CallW E0 X0 (.fn 74) [.slice (some ⟨b, 0, none⟩) (dig u).length 24, .int .u64 u] h (fun r h' => (∃ c, h'.get b = some (.cells c 0 true 0 none) ∧ c.length = 24 ∧ c.take (dig u).length = bytesV (dig u)) ∧ Only b h h') := by
  obtain ⟨hnd, hd3, hd7, hp1, hp2⟩ := nd_dig hu h0
  rw [hnd] at hd3 hd7 hp1 hp2
  have hk : (dig u).length = 3 ∨ (dig u).length = 4 ∨ (dig u).length = 5 ∨ (dig u).length = 6 ∨ (dig u).length = 7 := by omega
  rcases hk with e | e | e | e | e <;> rw [e] at hp1 hp2 ⊢
  · exact fb3 u hp1 hp2 b h h1 hb
  · exact fb4 u hp1 hp2 b h h1 hb
  · exact fb5 u hp1 hp2 b h h1 hb
  · exact fb6 u hp1 hp2 b h h1 hb
  · exact fb7 u hp1 hp2 b h h1 hb
set_option maxRecDepth 100000 in
set_option maxHeartbeats 8000000 in
theorem AppU_big : AppU 2097152 := by
  intro n B v cs len h hn hg h1 hB hlen hs
  by_cases hs100 : n < 100
  · exact AppU_small n B v cs len h hs100 (.inl (by decide)) h1 hB hlen hs
  have hg : Gp h := hg.resolve_left (by decide)
  refine CallW.body efn57 rfl rfl rfl [] (by kernel_rfl) ?_
  have c2 : ¬ (n : Int) < 100 := by omega
  obtain ⟨hnd, hd3, hd7, hp1, hp2⟩ := nd_dig hn (by omega)
  rw [hnd] at hd3 hd7 hp1 hp2
  simp [Tryd.f57, h1, c2]
  refine (numDigits_sp n hn (by omega) _ ⟨by rw [get_nw, if_neg (by have := hg.2; omega)]; exact hg.1, by simp⟩ (by simp)).mono ?_
  rintro _ h2 ⟨rfl, rfl⟩
  have e1 : (dig n).length ≤ 24 := by omega
  simp [e1]
  refine (fb_all n (by omega) hn h.next _ (by simp) (by simp)).mono ?_
  rintro _ h3 ⟨⟨c, hc1, hc2, hc3⟩, ho⟩
  have hne := dig_pos n
  have e2 : (dig n).length ≤ c.length := by omega
  have hn3 := ho.next
  simp at hn3
  simp [ho.one, e1, -appS_some, hne, hc1, e2, hc3, bytesV]
  refine (hs.of_get (h' := h3) (by omega) (fun g hg1 hg2 => (ho.get g (by omega)).trans (by rw [get_nw, if_neg (by omega)]))).app ho.one (by omega) (by simp) (by decide) (bytesV_cells _) (by omega) (by decide) (.inr rfl) ?_
  intro v' h4 sl fr
  simp [fr.one]
  have hF : Fr B h h3 := ⟨ho.one, by omega, fun k hk => (ho.get k (by omega)).trans (by rw [get_nw, if_neg (by omega)])⟩
  exact ⟨sl, hF.trans fr⟩
end Go.Dm
