/- Parts, bytes, blanks. -/
import Derived.Test.YthclahlplcfdpaaGreatDoorMdA
set_option linter.unusedVariables false
set_option linter.unusedSimpArgs false
namespace Go.Dm
open Go.Proofs
/-! pieces of lines -/
def sg (l : List UInt8) (a e : Nat) : List UInt8 := (l.take e).drop a
theorem sg_len (l : List UInt8) (a e : Nat) (he : e ≤ l.length) : (sg l a e).length = e - a := by simp [sg]; omega
theorem sg_cons {l : List UInt8} {a e : Nat} (h : a < e) (he : e ≤ l.length) : sg l a e = bt l a :: sg l (a + 1) e := by
  unfold sg
  rw [List.drop_eq_getElem_cons (by simp; omega), List.getElem_take]
  congr 1
  unfold bt
  rw [List.getD_eq_getElem?_getD, List.getElem?_eq_getElem (by omega)]
  rfl
theorem sg_nil {l : List UInt8} {a e : Nat} (h : e ≤ a) : sg l a e = [] := by unfold sg; exact List.drop_eq_nil_of_le (by simp; omega)
theorem sg_drop (l : List UInt8) (a e k : Nat) : (sg l a e).drop k = sg l (a + k) e := by unfold sg; rw [List.drop_drop]
theorem bt_sg {l : List UInt8} {a e k : Nat} (h : a + k < e) (he : e ≤ l.length) : bt (sg l a e) k = bt l (a + k) := by
  unfold bt sg
  rw [List.getD_eq_getElem?_getD, List.getD_eq_getElem?_getD, List.getElem?_drop, List.getElem?_take, if_pos h]
theorem sg_pE (l : List UInt8) (e : Int) (a : Nat) : (pE l e).drop a = sg l a (eE l e) := rfl
theorem bt_get {l : List UInt8} {k : Nat} (h : k < l.length) : l[k]? = some (bt l k) := by unfold bt; rw [List.getD_eq_getElem?_getD, List.getElem?_eq_getElem h]; rfl
theorem drop_bt {l : List UInt8} {k : Nat} (h : k < l.length) : l.drop k = bt l k :: l.drop (k + 1) := by
  rw [List.drop_eq_getElem_cons h]
  congr 1
  unfold bt
  rw [List.getD_eq_getElem?_getD, List.getElem?_eq_getElem h]; rfl
theorem tn {c : UInt8} {n : Nat} (hn : n < 256) (h : ¬ c = UInt8.ofNat n) : ¬ c.toNat = n := fun q => h (by apply UInt8.toNat_inj.1; rw [q]; simp; omega)
theorem fnd_step (c : UInt8) (U : List UInt8) (n : Nat) (hn : n < U.length) : fnd c (skAt false U n) (U.drop n) = if skAt false U n = false ∧ bt U n = c then some 0 else (fnd c (skAt false U (n + 1)) (U.drop (n + 1))).map (· + 1) := by
  rw [drop_bt hn]
  have hs : n + 1 < U.length → skAt false U (n + 1) = (!skAt false U n && tks (bt U n) (U.drop (n + 1))) := fun h => skAt_succ U false n h
  rcases Nat.lt_or_ge (n + 1) U.length with h1 | h1
  · rw [hs h1]
    cases hk : skAt false U n with
    | true => rw [fnd_true, if_neg (by simp)]; rfl
    | false =>
      rw [fnd_false]
      by_cases hc : bt U n = c
      · rw [if_pos hc, if_pos ⟨rfl, hc⟩]
      · rw [if_neg hc, if_neg (fun q => hc q.2)]; rfl
  · have e0 : U.drop (n + 1) = [] := List.drop_eq_nil_of_le h1
    rw [e0, fnd_nil]
    cases hk : skAt false U n with
    | true => rw [fnd_true, if_neg (by simp), fnd_nil]
    | false =>
      rw [fnd_false]
      by_cases hc : bt U n = c
      · rw [if_pos hc, if_pos ⟨rfl, hc⟩]
      · rw [if_neg hc, if_neg (fun q => hc q.2), fnd_nil]
theorem mem_ib (l : List UInt8) (c : UInt8) : (0 ≤ Lib.indexByte l c) ↔ c ∈ l := by
  rw [ib_pos]
  constructor
  · intro h
    split at h
    · rename_i h1
      have h2 := List.getElem?_eq_getElem h1
      have h3 := tw_at h2
      have : l[(l.takeWhile (· != c)).length] = c := by simpa using h3
      exact this ▸ List.getElem_mem h1
    · omega
  · intro h
    obtain ⟨i, hi, he⟩ := List.getElem_of_mem h
    rw [if_pos]
    · omega
    · rcases Nat.lt_or_ge (l.takeWhile (· != c)).length l.length with h1 | h1
      · exact h1
      · obtain ⟨d, h2, h3⟩ := tw_ne (p := (· != c)) (l := l) (i := i) (by omega)
        rw [List.getElem?_eq_getElem hi, he] at h2
        cases h2
        simp at h3
section
variable {h : H}
theorem mark0_sp (c : UInt8) (h1 : h.one = []) : CallW E0 X0 (.fn 51) [.int .u8 c.toNat] h (fun v h' => v = .bool (isMk c) ∧ h' = h) := by
  refine CallW.body efn51 rfl rfl rfl [] (by kernel_rfl) ?_
  by_cases a1 : 33 ≤ c.toNat <;> by_cases a2 : c.toNat ≤ 47 <;> (try (exfalso; omega)) <;> by_cases a3 : 58 ≤ c.toNat <;> (try (exfalso; omega)) <;> by_cases a4 : c.toNat ≤ 64 <;> (try (exfalso; omega)) <;> by_cases a5 : 91 ≤ c.toNat <;> (try (exfalso; omega)) <;> by_cases a6 : c.toNat ≤ 96 <;> (try (exfalso; omega)) <;> by_cases a7 : 123 ≤ c.toNat <;> (try (exfalso; omega)) <;> by_cases a8 : c.toNat ≤ 126 <;> (try (exfalso; omega))
  all_goals simp [Tryz.f51, h1, isMk, a1, a2, a3, a4, a5, a6, a7, a8]
theorem mark1_sp (c : UInt8) (h1 : h.one = []) : CallW E0 X0 (.fn 59) [.int .u8 c.toNat] h (fun v h' => v = .bool (isMk c) ∧ h' = h) := by
  refine CallW.body efn59 rfl rfl rfl [] (by kernel_rfl) ?_
  by_cases a1 : 33 ≤ c.toNat <;> by_cases a2 : c.toNat ≤ 47 <;> (try (exfalso; omega)) <;> by_cases a3 : 58 ≤ c.toNat <;> (try (exfalso; omega)) <;> by_cases a4 : c.toNat ≤ 64 <;> (try (exfalso; omega)) <;> by_cases a5 : 91 ≤ c.toNat <;> (try (exfalso; omega)) <;> by_cases a6 : c.toNat ≤ 96 <;> (try (exfalso; omega)) <;> by_cases a7 : 123 ≤ c.toNat <;> (try (exfalso; omega)) <;> by_cases a8 : c.toNat ≤ 126 <;> (try (exfalso; omega))
  all_goals simp [Tryz.f59, h1, isMk, a1, a2, a3, a4, a5, a6, a7, a8]
theorem mark2_sp (c : UInt8) (h1 : h.one = []) : CallW E0 X0 (.fn 89) [.int .u8 c.toNat] h (fun v h' => v = .bool (isMk c) ∧ h' = h) := by
  refine CallW.body efn89 rfl rfl rfl [] (by kernel_rfl) ?_
  by_cases a1 : 33 ≤ c.toNat <;> by_cases a2 : c.toNat ≤ 47 <;> (try (exfalso; omega)) <;> by_cases a3 : 58 ≤ c.toNat <;> (try (exfalso; omega)) <;> by_cases a4 : c.toNat ≤ 64 <;> (try (exfalso; omega)) <;> by_cases a5 : 91 ≤ c.toNat <;> (try (exfalso; omega)) <;> by_cases a6 : c.toNat ≤ 96 <;> (try (exfalso; omega)) <;> by_cases a7 : 123 ≤ c.toNat <;> (try (exfalso; omega)) <;> by_cases a8 : c.toNat ≤ 126 <;> (try (exfalso; omega))
  all_goals simp [Tryz.f89, h1, isMk, a1, a2, a3, a4, a5, a6, a7, a8]
theorem mark3_sp (c : UInt8) (h1 : h.one = []) : CallW E0 X0 (.fn 74) [.int .u8 c.toNat] h (fun v h' => v = .bool (isMk c) ∧ h' = h) := by
  refine CallW.body efn74 rfl rfl rfl [] (by kernel_rfl) ?_
  by_cases a1 : 33 ≤ c.toNat <;> by_cases a2 : c.toNat ≤ 47 <;> (try (exfalso; omega)) <;> by_cases a3 : 58 ≤ c.toNat <;> (try (exfalso; omega)) <;> by_cases a4 : c.toNat ≤ 64 <;> (try (exfalso; omega)) <;> by_cases a5 : 91 ≤ c.toNat <;> (try (exfalso; omega)) <;> by_cases a6 : c.toNat ≤ 96 <;> (try (exfalso; omega)) <;> by_cases a7 : 123 ≤ c.toNat <;> (try (exfalso; omega)) <;> by_cases a8 : c.toNat ≤ 126 <;> (try (exfalso; omega))
  all_goals simp [Tryz.f74, h1, isMk, a1, a2, a3, a4, a5, a6, a7, a8]
theorem isB_eq (c : UInt8) : isB c = (decide (c.toNat = 32) || decide (c.toNat = 9)) := by
  unfold isB
  have e : ∀ d : UInt8, (c == d) = decide (c.toNat = d.toNat) := fun d => by rw [Bool.eq_iff_iff]; simp [UInt8.toNat_inj]
  rw [e 32, e 9]
  rfl
theorem blank_sp (c : UInt8) (h1 : h.one = []) : CallW E0 X0 (.fn 49) [.int .u8 c.toNat] h (fun v h' => v = .bool (isB c) ∧ h' = h) := by
  refine CallW.body efn49 rfl rfl rfl [] (by kernel_rfl) ?_
  by_cases a1 : c.toNat = 32 <;> by_cases a2 : c.toNat = 9 <;> (try (exfalso; omega))
  all_goals simp [Tryz.f49, h1, isB_eq, a1, a2]
theorem Blank_sp (c : UInt8) (h1 : h.one = []) : CallW E0 X0 (.fn 54) [.int .u8 c.toNat] h (fun v h' => v = .bool (isB c) ∧ h' = h) := by
  refine CallW.body efn54 rfl rfl rfl [] (by kernel_rfl) ?_
  by_cases a1 : c.toNat = 32 <;> by_cases a2 : c.toNat = 9 <;> (try (exfalso; omega))
  all_goals simp [Tryz.f54, h1, isB_eq, a1, a2]
/-! what is ahead of a line's end -/
theorem cutLf (l : List UInt8) : Lib.cut l [10] = if lnN l < l.length then (l.take (lnN l), l.drop (lnN l + 1), true) else (l, [], false) := cut_one l 10
theorem ahead0_sp (l : List UInt8) (hl : l.length < 2 ^ 31) (e : Int) (h1 : h.one = []) (g : GmH h) : CallW E0 X0 (.fn 21) [str l, .int .i64 e] h (fun v h' => v = str (pE l e) ∧ h' = h) := by
  refine CallW.body efn21 rfl rfl rfl [] (by kernel_rfl) ?_
  simp [Tryz.f21, h1]
  refine (Cut_sp l [10] hl g).mono ?_
  rintro _ h2 ⟨rfl, rfl⟩
  have hc := cut_aL l
  have e1 : 0 ≤ max 0 (min e ((aL l).length : Int)) := by omega
  have e2 : max 0 (min e ((aL l).length : Int)) ≤ (aL l).length := by omega
  have e3 : (aL l).take (max 0 (min e ((aL l).length : Int))).toNat = pE l e := by
    rw [aL_len]
    show (l.take (eN l)).take (eE l e) = l.take (eE l e)
    rw [List.take_take, Nat.min_eq_left (eE_le l e)]
  rw [cutLf]
  by_cases hlf : lnN l < l.length
  · rw [if_pos hlf] at hc ⊢
    simp [h1]
    refine (TrimSuffix_sp (l.take (lnN l)) [13] (by simp; omega)).mono ?_
    rintro _ h3 ⟨rfl, rfl⟩
    rw [hc]
    simp [h1, minI, maxI, e1, e2, e3]
  · rw [if_neg hlf] at hc ⊢
    rw [← hc] at e1 e2 e3
    simp [h1, minI, maxI, e1, e2, e3]
theorem ahead1_sp (l : List UInt8) (hl : l.length < 2 ^ 31) (h1 : h.one = []) (g : GmH h) : CallW E0 X0 (.fn 88) [str l] h (fun v h' => v = str (aL l) ∧ h' = h) := by
  refine CallW.body efn88 rfl rfl rfl [] (by kernel_rfl) ?_
  simp [Tryz.f88, h1]
  refine (Cut_sp l [10] hl g).mono ?_
  rintro _ h2 ⟨rfl, rfl⟩
  have hc := cut_aL l
  rw [cutLf]
  by_cases hlf : lnN l < l.length
  · rw [if_pos hlf] at hc ⊢
    simp [h1]
    refine (TrimSuffix_sp (l.take (lnN l)) [13] (by simp; omega)).mono ?_
    rintro _ h3 ⟨rfl, rfl⟩
    rw [hc]
    simp [h1]
  · rw [if_neg hlf] at hc ⊢
    simp [h1]
    exact congrArg str hc
theorem ahead2_sp (l : List UInt8) (hl : l.length < 2 ^ 31) (h1 : h.one = []) (g : GmH h) : CallW E0 X0 (.fn 58) [str l] h (fun v h' => v = .tuple #[str (aL l), .bool (decide (lnN l < l.length))] ∧ h' = h) := by
  refine CallW.body efn58 rfl rfl rfl [] (by kernel_rfl) ?_
  simp [Tryz.f58, h1]
  refine (Cut_sp l [10] hl g).mono ?_
  rintro _ h2 ⟨rfl, rfl⟩
  have hc := cut_aL l
  rw [cutLf]
  by_cases hlf : lnN l < l.length
  · rw [if_pos hlf] at hc ⊢
    simp [h1]
    refine (TrimSuffix_sp (l.take (lnN l)) [13] (by simp; omega)).mono ?_
    rintro _ h3 ⟨rfl, rfl⟩
    rw [hc]
    simp [h1, hlf]
  · rw [if_neg hlf] at hc ⊢
    simp [h1, hlf]
    exact congrArg str hc
end
end Go.Dm
