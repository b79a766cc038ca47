/- What a builder makes, when all is closed. -/
import Derived.Test.YtdgclgfhcgdehaaDoorSbF
import Derived.Test.YtdgclgfhcgdehaaDoorSbP
set_option linter.unusedVariables false
set_option linter.unusedSimpArgs false
namespace Go.Dm
open Go.Proofs
theorem undP : E0.und 65 = some (.pointer 67) := by simp
set_option maxRecDepth 100000 in
set_option maxHeartbeats 8000000 in
theorem Done_sp (bb : Nat) (n : Int) (s : AB) (O : Nat → Prop) (h : H) (h1 : h.one = []) (x : BS bb h s O) (hn : s.nodes.length < 2 ^ 30) (hn0 : 0 < s.nodes.length) (ho : s.opn = [0]) (hf : s.far ≤ n) (hm : n ≤ 1048576) :
    CallW E0 X0 (.fn 21) [.pointer (some ⟨bb, 0, none⟩), .int .i64 n] h (fun r h' => ∃ v, r = .tuple #[v, .int .i64 0] ∧ RdN h' v (s.nodes.set 0 { nd s.nodes 0 with to := n }) ∧ Fr h.next h h') := by
  refine CallW.body efn21 rfl rfl rfl [] (by kernel_rfl) ?_
  obtain ⟨ad, vn, vo, x, rfl⟩ := x
  have hbb := x.bb
  have hbn : ¬ bb = h.next := by omega
  obtain ⟨gn, cn, Cn, rfl, q2, q3, q4, q5, q6, q7⟩ := x.sn
  obtain ⟨go, co, Co, rfl, p2, p3, p4, p5, p6, p7⟩ := x.so
  have c1 := x.blk
  have hlen := x.len
  have w1 : ¬ n < s.far := by omega
  have w2 : ¬ 1048576 < n := by omega
  rw [ho] at c1 p7 p2
  simp at p7 p2
  simp [-wpd_seq, Tryd.f21, h1]
  iterate 5 ((repeat rw [wpd_seq]); simp [-wpd_seq, h1, w1, w2, c1, hbn])
  have hms : makeSliceD E0 48 (.int .i64 (ad.length : Int)) (.int .i64 (ad.length : Int)) h = some (.slice (some ⟨h.next, 0, none⟩) ad.length ad.length, h.nw (.cells (zerosD (encN ⟨0, 0, 0, 0⟩) (ad.length * 4)) 4 true 0 none)) := by
    have hb : E0.byt 67 = some 32 := by simp
    have hz : E0.siz 67 = some 4 := by simp
    have hz0 : zeroD E0 67 = some (.agg (encN ⟨0, 0, 0, 0⟩).toArray) := by simp; rfl
    have hu : E0.und 48 = some (.slice 67) := by simp
    have hadr : h.addr = h.next := addr_one h h1
    unfold Env.byt at hb
    unfold Env.siz at hz
    cases hty : E0.ty 67 with
    | none => rw [hty] at hz; cases hz
    | some i =>
      rw [hty] at hb hz
      have hb' : i.bytes = 32 := by simpa using hb
      have hz' : i.size = 4 := by simpa using hz
      simp only [makeSliceD, hu, hty, hz0, hb', hz']
      rw [if_pos ?_]
      · simp [hadr, new_one h _ h1]
      · have hc1 : ((Value.agg (encN ⟨0, 0, 0, 0⟩).toArray).cells.size == 4) = true := rfl
        rw [hc1]
        simp
        omega
  have hZl : (zerosD (encN ⟨0, 0, 0, 0⟩) (ad.length * 4)).length = ad.length * 4 := by simp [zerosD]
  simp [-wpd_seq, hms]
  obtain ⟨h2, hh2⟩ : ∃ h2, h2 = h.nw (.cells (zerosD (encN ⟨0, 0, 0, 0⟩) (ad.length * 4)) 4 true 0 none) := ⟨_, rfl⟩
  have n2 : h2.next = h.next + 1 := by rw [hh2]; rfl
  have o2 : h2.one = [] := by rw [hh2]; rfl
  have f2 : Fr h.next h h2 := by rw [hh2]; exact (Fr.refl h1).nw (Nat.le_refl _) _
  have e2 : h2.get h.next = some (.cells (zerosD (encN ⟨0, 0, 0, 0⟩) (ad.length * 4)) 4 true 0 none) := by rw [hh2]; simp
  have c2 := (f2.get _ hbb).trans c1
  try rw [← hh2]
  clear hh2
  iterate 2 ((repeat rw [wpd_seq]); simp [-wpd_seq, o2, c2])
  obtain ⟨P, hP⟩ : ∃ P, P = s.nodes.set 0 { nd s.nodes 0 with to := n } := ⟨_, rfl⟩
  rw [← hP]
  have hPl : P.length = ad.length := by rw [hP]; simp [hlen]
  refine wpd_loop (fun (i : Nat) fr h' => i ≤ ad.length ∧ fr.get 35 = some (.int .i64 i) ∧ fr.get 7 = some (.int .i64 ((min i 1 : Nat) : Int)) ∧ (∃ c, h'.get h.next = some (.cells c 4 true 0 none) ∧ c.length = ad.length * 4 ∧ c.take (i * 4) = encsN (P.take i)) ∧ Fr h.next h h' ∧ h.next < h'.next) (fun i => ad.length - i) 0 ⟨Nat.zero_le _, by simp, by simp, ⟨_, e2, hZl, by simp⟩, f2, by omega⟩ ?_
  clear f2 e2 o2 n2 c2 h2
  rintro i fr h2 ⟨hi, i35, i7, ⟨c, hc, hcl, hct⟩, f2, n2⟩ hfe
  have g33 := hfe 33 rfl
  have g34 := hfe 34 rfl
  have g0 := hfe 0 rfl
  have g1 := hfe 1 rfl
  have g6 := hfe 6 rfl
  simp at g33 g34 g0 g1 g6
  clear hfe
  have o2 := f2.one
  have x2 := x.fr f2
  by_cases hil : i < ad.length
  · have hil' : (i : Int) < ad.length := by omega
    have k2 := (f2.get _ q4).trans q5
    have hCi : Cn[i]? = some (.pointer (some ⟨ad.getD i 0, 0, none⟩)) := by
      have := congrArg (fun l => l[i]?) q7
      simp only [List.getElem?_take, Nat.mul_one, hil, if_true, ptrs, List.getElem?_map] at this
      rw [this]
      simp [List.getD, hil]
    have nn := (x2.nod i hil).2
    have nlt := (x2.nod i hil).1
    have nold := (x.nod i hil).1
    have nne : ¬ ad.getD i 0 = h.next := by omega
    have hw1 := wrap_succ (show i < 9223372036854775807 by omega)
    generalize hq : ad.getD i 0 = q at *
    have hgn : ¬ gn = h.next := by omega
    iterate 3 ((repeat rw [wpd_seq]); simp [-wpd_seq, o2, i35, i7, g33, g34, g6, hil, hil', k2, hCi, nn, hc, encN_len])
    have hcs : i * 4 + 4 ≤ c.length := by omega
    have hin : (i : Int) < ad.length := hil'
    have hPi : P.take (i + 1) = P.take i ++ [nd P i] := take_succ_nd (by omega)
    have hsetl : (setAt c (i * 4) (encN (nd s.nodes i))).length = c.length := setAt_length ..
    have hset : (setAt c (i * 4) (encN (nd s.nodes i))).take ((i + 1) * 4) = encsN (P.take i) ++ encN (nd s.nodes i) := by
      rw [setAt_eq _ _ _ (by rw [encN_len]; omega), hct]
      have e : (encsN (P.take i) ++ encN (nd s.nodes i)).length = (i + 1) * 4 := by
        rw [List.length_append, encsN_len, encN_len, List.length_take, Nat.min_eq_left (by omega)]; omega
      rw [← e, List.take_left]
    have hcs2 : i * 4 + 4 ≤ ad.length * 4 := by omega
    have ht4 : (encN (nd s.nodes i)).take 4 = encN (nd s.nodes i) := rfl
    have hcv : ∀ x ∈ encN (nd s.nodes i), cellV x = true := by simp [encN]
    iterate 2 ((repeat rw [wpd_seq]); simp [-wpd_seq, o2, i35, i7, g33, g34, g6, hil, hil', k2, hCi, nn, hc, encN_len, hcs, hcl, hcs2, ht4, eq_true hcv])
    obtain ⟨h3, hh3⟩ : ∃ h3, h3 = h2.put h.next (.cells (setAt c (i * 4) (encN (nd s.nodes i))) 4 true 0 none) := ⟨_, rfl⟩
    rw [← hh3]
    have n3 : h3.next = h2.next := by rw [hh3]; rfl
    have f3 : Fr h.next h h3 := by rw [hh3]; exact f2.put (Nat.le_refl _) _
    have e3 : h3.get h.next = some (.cells (setAt c (i * 4) (encN (nd s.nodes i))) 4 true 0 none) := by rw [hh3]; simp
    have o3 := f3.one
    clear hh3
    have c3 := (f3.get _ hbb).trans c1
    have p3' := (f3.get _ p4).trans p5
    generalize setAt c (i * 4) (encN (nd s.nodes i)) = c' at *
    have hcl' : c'.length = ad.length * 4 := by omega
    by_cases hi0 : i = 0
    · subst hi0
      have hCo : Co[0]? = some (.pointer (some ⟨q, 0, none⟩)) := by
        have := congrArg (fun l => l[0]?) p7
        simp only [List.getElem?_take, Nat.lt_irrefl, show (0 : Nat) < 1 by decide, if_true] at this
        rw [this]
        simp [ptrs]
        rw [← hq]
        simp
      have hle1 : 2 < ad.length * 4 := by omega
      have hpt : ptrT E0 (E0.und 65) ⟨q, 0, none⟩ ⟨q, 0, none⟩ h3 = some true := by simp [ptrT, ptrEq]
      simp only [undP] at hpt
      have hw1' : IntKind.i64.wrap 1 = 1 := rfl
      simp [o3, i7, g0, g1, g6, c3, hCo, p3', hpt, hle1, hcl', e3, hil, i35, hw1']
      refine ⟨by omega, 1, by omega, by omega, rfl, rfl, ?_, f3.put (Nat.le_refl _) _, by omega⟩
      rw [List.take_set, hset, hPi, encsN_app]
      have e : nd P 0 = { nd s.nodes 0 with to := n } := by rw [hP, nd_set hn0, if_pos rfl]
      rw [e]
      rfl
    · have hm1 : min i 1 = 1 := by omega
      rw [hm1] at i7
      simp [o3, i7, g0, c3, i35, hw1, ho]
      refine ⟨i + 1, by omega, by omega, rfl, by omega, ⟨c', e3, hcl', ?_⟩, f3, by omega⟩
      rw [hset, hPi, encsN_app]
      have e : nd P i = nd s.nodes i := by rw [hP, nd_set hn0, if_neg (by omega)]
      rw [e, encsN_cons, encsN_nil, List.append_nil]
  · have hil' : ¬ (i : Int) < ad.length := by omega
    have hie : i = ad.length := by omega
    simp [o2, i35, g34, g6, hil']
    subst hie
    rw [List.take_of_length_le (by omega), List.take_of_length_le (by omega)] at hct
    refine ⟨.inr ⟨h.next, ad.length, 4, true, 0, none, by rw [hPl], by omega, ?_, .inr rfl, n2⟩, f2⟩
    rw [← hct]
    exact hc
end Go.Dm
