/- What stands at a place: the code's addresses of mail and names of characters. -/
import Derived.Test.YthclahlplcfdpaaGreatDoorMdW
set_option linter.unusedVariables false
set_option linter.unusedSimpArgs false
namespace Go.Dm
open Go.Proofs
theorem dw_nil (p : UInt8 → Bool) : ∀ (m : List UInt8), m.dropWhile p = [] ↔ m.all p = true
  | [] => by simp
  | x :: m => by
    rw [List.dropWhile_cons, List.all_cons]
    cases h : p x with
    | true => simpa using dw_nil p m
    | false => simp
theorem dw_all (p : UInt8 → Bool) : ∀ (m : List UInt8), (m.dropWhile p).all p = true → m.dropWhile p = []
  | [], _ => rfl
  | x :: m, q => by
    rw [List.dropWhile_cons] at q ⊢
    cases h : p x with
    | true => rw [h] at q; simp at q ⊢; exact (dw_nil p m).2 (by have := dw_all p m (by simpa using q); exact (dw_nil p m).1 this) |> fun e => by simpa using e
    | false => rw [h] at q; simp [h] at q
theorem trim_nil (l : List UInt8) (c : UInt8) : Lib.trimB l c = [] ↔ l.all (· == c) = true := by
  unfold Lib.trimB Lib.trimLeftB Lib.trimRightB
  rw [dw_nil, List.all_reverse]
  constructor
  · intro q
    have := dw_all _ _ q
    rw [dw_nil, List.all_reverse] at this
    exact this
  · intro q
    have : l.reverse.dropWhile (· == c) = [] := by rw [dw_nil, List.all_reverse]; exact q
    rw [this]
    rfl
theorem pfx_one (c : UInt8) (t : List UInt8) : Lib.hasPrefix t [c] = true ↔ ∃ u, t = c :: u := by
  unfold Lib.hasPrefix
  rw [List.isPrefixOf_iff_prefix]
  constructor
  · rintro ⟨u, rfl⟩; exact ⟨u, rfl⟩
  · rintro ⟨u, rfl⟩; exact ⟨u, rfl⟩
/-- All are right. -/
def alD (ds : List (List UInt8)) : Bool := ds.all okDom
section
variable {h : H}
theorem mail_sp (t : List UInt8) (ht : t.length < 2 ^ 31) (h1 : h.one = []) (g : GmH h) : CallW E0 X0 (.fn 65) [str t] h (fun v h' => v = .bool (malL t) ∧ Fr h.next h h') := by
  refine CallW.body efn65 rfl rfl rfl [] (by kernel_rfl) ?_
  simp [Tryz.f65, h1]
  refine (Cut_sp t [64] ht g).mono ?_
  rintro _ h2 ⟨rfl, rfl⟩
  rw [cut_one]
  unfold malL
  simp only
  obtain ⟨k, hk⟩ : ∃ k, k = (t.takeWhile (· != 64)).length := ⟨_, rfl⟩
  have hsl := tw_le (· != 64) t
  rw [← hk] at hsl ⊢
  have hF : Fr h2.next h2 h2 := Fr.refl h1
  by_cases c1 : k < t.length
  rotate_left
  · rw [if_neg c1, decide_eq_false c1]
    simp [h1, hF]
  rw [if_pos c1, decide_eq_true c1]
  have hl : (t.take k).length = k := by simp; omega
  by_cases c2 : k = 0
  · have e0 : t.take k = [] := by rw [c2]; rfl
    rw [e0, decide_eq_false (show ¬ 0 < k by omega)]
    simp [h1, hF]
  have e0 : ¬ t.take k = [] := fun q => c2 (by rw [← hl, q]; rfl)
  rw [decide_eq_true (show 0 < k by omega)]
  obtain ⟨T, hT⟩ : ∃ T, T = t.take k := ⟨_, rfl⟩
  obtain ⟨at', hat⟩ : ∃ at', at' = t.drop (k + 1) := ⟨_, rfl⟩
  rw [← hT] at hl e0 ⊢
  rw [← hat]
  have hatl : at'.length ≤ t.length := by rw [hat]; simp
  simp [h1, e0]
  refine (count_sp T (by omega) _ malOk mal1_sp h1).mono ?_
  rintro _ h3 ⟨rfl, rfl⟩
  have e1 := tw_len_all malOk T
  have e1l := tw_le malOk T
  by_cases a1 : (T.takeWhile malOk).length < T.length
  · have e3 : T.all malOk = false := by
      cases q : T.all malOk with
      | false => rfl
      | true => have := e1.2 q; omega
    rw [e3]
    simp [h1, a1, hF]
  rw [e1.1 (by omega)]
  simp [h1, a1]
  refine (Split_sp at' 46 (by omega) h1 g).mono ?_
  rintro _ h4 ⟨rfl, rfl⟩
  have hF2 : Fr h3.next h3 (h3.nw (.cells ((splA 46 [] at').map str) 1 true 0 none)) := (Fr.refl h1).nw (Nat.le_refl _) _
  have hg2 : (h3.nw (.cells ((splA 46 [] at').map str) 1 true 0 none)).get h3.next = some (.cells ((splA 46 [] at').map str) 1 true 0 none) := by simp
  have hdl := splA_len 46 at' []
  have hde := splA_le 46 at' []
  generalize (h3.nw (.cells ((splA 46 [] at').map str) 1 true 0 none)) = h4 at hF2 hg2 ⊢
  obtain ⟨ds, hds⟩ : ∃ ds, ds = splA 46 [] at' := ⟨_, rfl⟩
  rw [← hds] at hg2 hdl hde ⊢
  have h41 := hF2.one
  obtain ⟨R, hR⟩ : ∃ R, R = ds.all okDom := ⟨_, rfl⟩
  rw [← hR]
  simp [h41]
  refine wpd_loop (fun (i : Nat) fr h' => fr.get 30 = some (.int .i64 i) ∧ h' = h4 ∧ i ≤ ds.length ∧ R = alD (ds.drop i)) (fun i => ds.length - i) 0 ⟨by simp, rfl, Nat.zero_le _, by rw [hR]; rfl⟩ ?_
  rintro i fr h5 ⟨g30, rfl, hi, hI⟩ hf
  have g28 := hf 28 rfl
  have g29 := hf 29 rfl
  simp at g28 g29
  by_cases ci : i < ds.length
  rotate_left
  · rw [List.drop_eq_nil_of_le (by omega)] at hI
    have hA : R = true := hI
    simp [g28, g29, g30, h41, ci, hF2, hA]
  have hml : (ds.map str).length = ds.length := by simp
  have hget : (ds.map str)[i]'(by omega) = str ds[i] := by simp
  have hnl : ds[i].length < 2 ^ 31 := by have := hde ds[i] (List.getElem_mem ci); simp at this; omega
  have hI2 : R = (okDom ds[i] && alD (ds.drop (i + 1))) := by rw [hI, List.drop_eq_getElem_cons ci]; rfl
  clear hI
  have hbad : okDom ds[i] = false → R = false := fun q => by rw [hI2, q, Bool.false_and]
  have hnx : okDom ds[i] = true → R = alD (ds.drop (i + 1)) := fun q => by rw [hI2, q, Bool.true_and]
  clear hI2
  have hw : IntKind.i64.wrap ((i : Int) + 1) = (i : Int) + 1 := wrap_succ (by omega)
  obtain ⟨n, hn⟩ : ∃ n, n = ds[i] := ⟨_, rfl⟩
  rw [← hn] at hget hnl hbad hnx
  have hok : okDom n = true ↔ (n ≠ [] ∧ n.length ≤ 63 ∧ ¬ (bt n 0).toNat = 45 ∧ ¬ (bt n (n.length - 1)).toNat = 45 ∧ n.all domOk = true) := by
    have e45 : ∀ c : UInt8, c ≠ 45 ↔ ¬ c.toNat = 45 := fun c => by rw [Ne, ← UInt8.toNat_inj]; rfl
    unfold okDom
    simp only [Bool.and_eq_true, decide_eq_true_eq, e45, and_assoc]
  have hno : ¬ (n ≠ [] ∧ n.length ≤ 63 ∧ ¬ (bt n 0).toNat = 45 ∧ ¬ (bt n (n.length - 1)).toNat = 45 ∧ n.all domOk = true) → R = false := by
    intro q
    refine hbad ?_
    cases z : okDom n with
    | false => rfl
    | true => exact absurd (hok.1 z) q
  by_cases d1 : n = []
  · have hB := hno (fun q => q.1 d1)
    simp [g28, g29, g30, h41, ci, hg2, hget, hml, d1, hB, hF2]
  have hn0 : 0 < n.length := List.length_pos_iff.2 d1
  by_cases d2 : 63 < n.length
  · have hB := hno (fun q => by have := q.2.1; omega)
    have d2' : (63 : Int) < n.length := by omega
    simp [g28, g29, g30, h41, ci, hg2, hget, hml, d1, d2, d2', hB, hF2]
  have d2' : ¬ (63 : Int) < n.length := by omega
  have hi0 : idxB n 0 = some (.int .u8 (bt n 0).toNat) := idxB_nat (k := 0) hn0
  have hwn : IntKind.i64.wrap ((n.length : Int) - 1) = ((n.length - 1 : Nat) : Int) := wrap_pred hn0 (by omega)
  have hi1 := idxB_nat (l := n) (k := n.length - 1) (by omega)
  by_cases d3 : (bt n 0).toNat = 45
  · have hB := hno (fun q => q.2.2.1 d3)
    simp [g28, g29, g30, h41, ci, hg2, hget, hml, d1, d2, d2', hi0, eq_true d3, hB, hF2]
  by_cases d4 : (bt n (n.length - 1)).toNat = 45
  · have hB := hno (fun q => q.2.2.2.1 d4)
    simp [g28, g29, g30, h41, ci, hg2, hget, hml, d1, d2, d2', hi0, d3, hwn, hi1, eq_true d4, hB, hF2]
  simp [g28, g29, g30, h41, ci, hg2, hget, hml, d1, d2, d2', hi0, d3, hwn, hi1, d4]
  refine (count_sp n hnl _ domOk mal2_sp h41).mono ?_
  rintro _ h6 ⟨rfl, rfl⟩
  have e4 := tw_len_all domOk n
  have e4l := tw_le domOk n
  by_cases a2 : (n.takeWhile domOk).length < n.length
  · have hB := hno (fun q => by have := e4.2 q.2.2.2.2; omega)
    simp [h41, a2, hB, hF2]
  · have hN := hnx (hok.2 ⟨d1, by omega, d3, d4, e4.1 (by omega)⟩)
    simp [g28, g29, g30, h41, a2, hw]
    exact ⟨i + 1, by omega, by omega, by omega, hN⟩
theorem entity_sp (t : List UInt8) (ht : t.length < 2 ^ 31) (h1 : h.one = []) (g : GmH h) : CallW E0 X0 (.fn 66) [str t] h (fun v h' => v = .bool (entL t) ∧ h' = h) := by
  refine CallW.body efn66 rfl rfl rfl [] (by kernel_rfl) ?_
  simp [Tryz.f66, h1]
  refine (CutPrefix_sp t [35]).mono ?_
  rintro _ h2 ⟨rfl, rfl⟩
  unfold Lib.trimPrefix
  cases hp : Lib.hasPrefix t [35] with
  | false =>
    have hb : ¬ bt t 0 = 35 := by
      intro q
      have : Lib.hasPrefix t [35] = true := (pfx_one 35 t).2 (by
        cases t with
        | nil => exact absurd q (by decide)
        | cons c u => exact ⟨u, by rw [show c = 35 from q]⟩)
      rw [hp] at this; cases this
    have hE : entL t = decide (t ∈ nmsL) := by unfold entL; rw [if_neg hb]
    rw [hE]
    have hni := names_in t
    by_cases d1 : t = []
    · have hB : ¬ t ∈ nmsL := fun q => (hni.2 q).1 d1
      rw [decide_eq_false hB]
      simp [h1, d1]
    · simp [h1, d1]
      refine (IndexByte_sp t 32).mono ?_
      rintro _ h3 ⟨rfl, rfl⟩
      have hm := mem_ib t 32
      by_cases d2 : 32 ∈ t
      · have hB : ¬ t ∈ nmsL := fun q => (hni.2 q).2.1 d2
        have z : ¬ Lib.indexByte t 32 < 0 := by have := hm.2 d2; omega
        simp [h1, z, hB]
      · have z : Lib.indexByte t 32 < 0 := by
          have : ¬ 0 ≤ Lib.indexByte t 32 := fun q => d2 (hm.1 q)
          omega
        have hnm : ([32, 97, 109, 112, 32, 108, 116, 32, 103, 116, 32, 113, 117, 111, 116, 32, 110, 98, 115, 112, 32, 99, 111, 112, 121, 32, 114, 101, 103, 32, 104, 101, 108, 108, 105, 112, 32, 109, 100, 97, 115, 104, 32, 110, 100, 97, 115, 104, 32] : List UInt8) = nmsT := by decide
        simp [h1, z]
        refine ⟨by omega, by omega, ?_⟩
        rw [hnm]
        refine (Contains_sp nmsT (32 :: (t ++ [32])) (by decide) g).mono ?_
        rintro _ h4 ⟨rfl, rfl⟩
        have : Lib.contains nmsT (32 :: (t ++ [32])) = decide (t ∈ nmsL) := by
          rw [Bool.eq_iff_iff, decide_eq_true_eq, ← hni]
          exact ⟨fun q => ⟨d1, d2, q⟩, fun q => q.2.2⟩
        rw [this]
        simp [h1]
  | true =>
    obtain ⟨u, rfl⟩ := (pfx_one 35 t).1 hp
    have hE : entL (35 :: u) = numL u := rfl
    rw [hE]
    simp at ht
    simp [h1]
    refine (HasPrefix_sp u [120]).mono ?_
    rintro _ h3 ⟨rfl, rfl⟩
    cases hx : Lib.hasPrefix u [120] with
    | true =>
      obtain ⟨w, rfl⟩ := (pfx_one 120 u).1 hx
      have hN : numL (120 :: w) = (decide (w ≠ []) && decide (w.length ≤ 6) && w.all hexOk) := rfl
      rw [hN]
      simp at ht
      simp [h1]
      have bw : (1 : Int) ≤ (w.length : Int) + 1 := by omega
      by_cases d1 : w = []
      · simp [h1, d1, bw]
      have hn0 : 0 < w.length := List.length_pos_iff.2 d1
      by_cases d2 : w.length ≤ 6
      rotate_left
      · have d2' : ¬ (w.length : Int) ≤ 6 := by omega
        simp [h1, d1, d2, d2', bw]
      have d2' : (w.length : Int) ≤ 6 := by omega
      simp [h1, d1, d2, d2', bw]
      refine (count_sp w (by omega) _ hexOk ent1_sp h1).mono ?_
      rintro _ h5 ⟨rfl, rfl⟩
      have e4 := tw_len_all hexOk w
      by_cases a2 : (w.takeWhile hexOk).length = w.length
      · have a2' : ((w.takeWhile hexOk).length : Int) = w.length := by omega
        have hall := e4.1 a2
        simp only [hall]
        simp [h1, eq_true a2', d1]
      · have a2' : ¬ ((w.takeWhile hexOk).length : Int) = w.length := by omega
        have hall : w.all hexOk = false := by
          cases q : w.all hexOk with
          | false => rfl
          | true => exact absurd (e4.2 q) a2
        simp only [hall]
        simp [h1, a2']
    | false =>
      simp [h1]
      refine (HasPrefix_sp u [88]).mono ?_
      rintro _ h4 ⟨rfl, rfl⟩
      cases hy : Lib.hasPrefix u [88] with
      | true =>
        obtain ⟨w, rfl⟩ := (pfx_one 88 u).1 hy
        have hN : numL (88 :: w) = (decide (w ≠ []) && decide (w.length ≤ 6) && w.all hexOk) := rfl
        rw [hN]
        simp at ht
        simp [h1]
        have bw : (1 : Int) ≤ (w.length : Int) + 1 := by omega
        by_cases d1 : w = []
        · simp [h1, d1, bw]
        have hn0 : 0 < w.length := List.length_pos_iff.2 d1
        by_cases d2 : w.length ≤ 6
        rotate_left
        · have d2' : ¬ (w.length : Int) ≤ 6 := by omega
          simp [h1, d1, d2, d2', bw]
        have d2' : (w.length : Int) ≤ 6 := by omega
        simp [h1, d1, d2, d2', bw]
        refine (count_sp w (by omega) _ hexOk ent1_sp h1).mono ?_
        rintro _ h5 ⟨rfl, rfl⟩
        have e4 := tw_len_all hexOk w
        by_cases a2 : (w.takeWhile hexOk).length = w.length
        · have a2' : ((w.takeWhile hexOk).length : Int) = w.length := by omega
          have hall := e4.1 a2
          simp only [hall]
          simp [h1, eq_true a2', d1]
        · have a2' : ¬ ((w.takeWhile hexOk).length : Int) = w.length := by omega
          have hall : w.all hexOk = false := by
            cases q : w.all hexOk with
            | false => rfl
            | true => exact absurd (e4.2 q) a2
          simp only [hall]
          simp [h1, a2']
      | false =>
        have hN : numL u = (decide (u ≠ []) && decide (u.length ≤ 7) && u.all isDig) := by
          unfold numL
          rw [if_neg]
          rintro (q | q)
          · cases u with
            | nil => exact absurd q (by decide)
            | cons c v =>
              have : Lib.hasPrefix (c :: v) [120] = true := (pfx_one 120 _).2 ⟨v, by rw [show c = 120 from q]⟩
              rw [hx] at this; cases this
          · cases u with
            | nil => exact absurd q (by decide)
            | cons c v =>
              have : Lib.hasPrefix (c :: v) [88] = true := (pfx_one 88 _).2 ⟨v, by rw [show c = 88 from q]⟩
              rw [hy] at this; cases this
        rw [hN]
        simp [h1]
        by_cases d1 : u = []
        · simp [h1, d1]
        have hn0 : 0 < u.length := List.length_pos_iff.2 d1
        by_cases d2 : u.length ≤ 7
        rotate_left
        · have d2' : ¬ (u.length : Int) ≤ 7 := by omega
          simp [h1, d1, d2, d2']
        have d2' : (u.length : Int) ≤ 7 := by omega
        simp [h1, d1, d2, d2']
        refine (count_sp u (by omega) _ isDig (fun c h h1 => dig0_sp c h1) h1).mono ?_
        rintro _ h5 ⟨rfl, rfl⟩
        have e4 := tw_len_all isDig u
        by_cases a2 : (u.takeWhile isDig).length = u.length
        · have a2' : ((u.takeWhile isDig).length : Int) = u.length := by omega
          have hall := e4.1 a2
          simp only [hall]
          simp [h1, eq_true a2', d1]
        · have a2' : ¬ ((u.takeWhile isDig).length : Int) = u.length := by omega
          have hall : u.all isDig = false := by
            cases q : u.all isDig with
            | false => rfl
            | true => exact absurd (e4.2 q) a2
          simp only [hall]
          simp [h1, a2']
end
end Go.Dm
