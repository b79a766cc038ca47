/- TreeTexts and TreeBack. -/
import Derived.Test.YtnmfdjmejpioiaaDoorTxV
set_option linter.unusedVariables false
set_option linter.unusedSimpArgs false
namespace Go.Dm
open Go.Proofs
theorem fit_lt {l : List Nd} (hk : ∀ x ∈ l, x.kind < 256) (hl : l.length < 2 ^ 20) (hf : fitN l = true) : LtN 2097152 l := by
  have t := Tr.of_fit hf
  intro x hx
  obtain ⟨i, hi, rfl⟩ := List.getElem_of_mem hx
  rw [nd_get hi]
  have p1 := t.fm i hi
  have p2 := t.to i hi
  have p3 := t.mx i hi
  have p4 := t.n1
  have p5 := t.pos i hi
  have p6 := hk (nd l i) (by rw [← nd_get hi]; exact List.getElem_mem ..)
  omega
theorem fit_back {l : List Nd} (hk : ∀ x ∈ l, x.kind < 256) (hl : l.length < 2 ^ 20) (hf : fitN l = true) : rparseT (printN l) = some l := by
  have t := Tr.of_fit hf
  refine rparse_print l fun x hx => ?_
  have hL := fit_lt hk hl hf x hx
  obtain ⟨i, hi, rfl⟩ := List.getElem_of_mem hx
  rw [nd_get hi] at hL ⊢
  have p1 := t.fm i hi
  have p2 := t.to i hi
  have p5 := t.pos i hi
  have p6 := hk (nd l i) (by rw [← nd_get hi]; exact List.getElem_mem ..)
  omega
theorem rparse_len : ∀ (m : Nat) (s : List UInt8) (l : List Nd), s.length ≤ m → rparseT s = some l → l.length ≤ s.length ∧ ∀ x ∈ l, x.kind < 256 := by
  intro m
  induction m with
  | zero =>
    intro s l h hp
    have : s = [] := List.eq_nil_of_length_eq_zero (by omega)
    subst this
    cases hp
    exact ⟨by simp, fun x hx => by cases hx⟩
  | succ m ih =>
    intro s l h hp
    by_cases hs : s = []
    · subst hs; cases hp; exact ⟨by simp, fun x hx => by cases hx⟩
    · rw [rparseT_step hs] at hp
      cases hr : rline s with
      | none => rw [hr] at hp; cases hp
      | some q =>
        obtain ⟨x, r⟩ := q
        rw [hr] at hp
        simp only at hp
        have hlt := rline_lt hr
        obtain ⟨w1, w2, w3, w4, a, b, c, d, e1, e2, e3, e4, hb, rfl, _⟩ := rline_some hr
        cases hq : rparseT r with
        | none => rw [hq] at hp; cases hp
        | some l2 =>
          rw [hq] at hp
          cases hp
          obtain ⟨i1, i2⟩ := ih r l2 (by omega) hq
          refine ⟨by simp; omega, fun x hx => ?_⟩
          rcases List.mem_cons.1 hx with rfl | hx
          · show b < 256; omega
          · exact i2 x hx
theorem parse_ok {s : List UInt8} (h : parseE s = 0) : rparseT s = some (parseL s) ∧ fitN (parseL s) = true := by
  unfold parseE at h
  unfold parseL
  cases q : rparseT s with
  | none => rw [q] at h; cases h
  | some l =>
    rw [q] at h
    simp only at h ⊢
    cases hf : fitN l with
    | false => rw [hf] at h; cases h
    | true => simp [hf]
theorem parse_no {s : List UInt8} (h : parseE s ≠ 0) : parseL s = [] := by
  unfold parseE at h
  unfold parseL
  cases q : rparseT s with
  | none => rfl
  | some l =>
    rw [q] at h
    simp only at h ⊢
    cases hf : fitN l with
    | false => rfl
    | true => rw [hf] at h; exact absurd rfl h
theorem parseL_kind (s : List UInt8) : ∀ x ∈ parseL s, x.kind < 256 := by
  by_cases h : parseE s = 0
  · exact (rparse_len _ _ _ (Nat.le_refl _) (parse_ok h).1).2
  · rw [parse_no h]; exact fun x hx => by cases hx
theorem parseL_len (s : List UInt8) : (parseL s).length ≤ s.length := by
  by_cases h : parseE s = 0
  · exact (rparse_len _ _ _ (Nat.le_refl _) (parse_ok h).1).1
  · rw [parse_no h]; simp
set_option maxRecDepth 100000 in
set_option maxHeartbeats 8000000 in
theorem law_Texts (l : List Nd) (s : List UInt8) (hk : ∀ x ∈ l, x.kind < 256) (v : Value) (h : H) (h1 : h.one = []) (hp : Gp h) (he : Ge h) (hr : RdN h v l) :
    CallW E0 X0 (.fn 9) [v, str s] h (fun r _ => r = .bool true) := by
  refine CallW.body efn9 rfl rfl rfl [] (by kernel_rfl) ?_
  have hr' := hr
  obtain ⟨a, cap, rfl⟩ := hr.sl
  by_cases hl : 2000 < l.length
  · have hl' : (2000 : Int) < l.length := by omega
    simp [Tryd.f9, h1, hl']
    refine (wakes_sp h h1).mono ?_
    rintro _ h2 ⟨rfl, f1⟩
    simp [f1.one]
  have hl' : ¬ (2000 : Int) < l.length := by omega
  by_cases hsl : 65536 < s.length
  · have hsl' : (65536 : Int) < s.length := by omega
    simp [Tryd.f9, h1, hl', hsl']
    refine (wakes_sp h h1).mono ?_
    rintro _ h2 ⟨rfl, f1⟩
    simp [f1.one]
  have hsl' : ¬ (65536 : Int) < s.length := by omega
  have hl20 : l.length < 2 ^ 20 := by omega
  simp [Tryd.f9, h1, hl', hsl']
  refine (own_sp l _ hl20 h h1 hr').mono ?_
  rintro v2 h2 ⟨r2, f2⟩
  simp [f2.one]
  have p2 := hp.fr f2 (Nat.le_refl _)
  have e2 := he.fr f2 (Nat.le_refl _)
  refine (Print_sp (M := 2097152) (by decide) (by decide) (AppOk.of (by decide) AppU_big) l (fit_lt hk hl20) v2 hl20 h2 (.inr p2) f2.one r2).mono ?_
  rintro _ h3 ⟨rfl, f3⟩
  have r3 := (hr'.mono f2).mono f3
  have e3 := e2.fr f3 (Nat.le_refl _)
  simp [f3.one]
  refine (Fit_sp l _ hl20 h3 f3.one r3).mono ?_
  rintro _ h4 ⟨rfl, f4⟩
  have r4 := r3.mono f4
  have e4 := e3.fr f4 (Nat.le_refl _)
  by_cases hf : fitN l = true
  · have t := Tr.of_fit hf
    simp [f4.one, hf]
    refine (RefPrint_sp l _ t hk _ hl20 h4 f4.one r4).mono ?_
    rintro _ h5 ⟨rfl, f5⟩
    have r5 := r4.mono f5
    have e5 := e4.fr f5 (Nat.le_refl _)
    simp [f5.one, hf]
    refine (Fit_sp l _ hl20 h5 f5.one r5).mono ?_
    rintro _ h6 ⟨rfl, f6⟩
    have e6 := e5.fr f6 (Nat.le_refl _)
    simp [f6.one, hf]
    refine (Parse_sp s (by omega) h6 f6.one e6).mono ?_
    rintro _ h7 ⟨v7, rfl, r7, f7⟩
    simp [f7.one]
    refine (refparse_sp s (by omega) h7 f7.one).mono ?_
    rintro _ h8 ⟨v8, rfl, r8, f8⟩
    simp [f8.one]
    refine (Same_sp (parseL s) (parseL s) v7 v8 (by have := parseL_len s; omega) h8 f8.one (r7.mono f8) r8).mono ?_
    rintro _ h9 ⟨rfl, rfl⟩
    simp [f8.one]
    refine (wakes_sp h9 f8.one).mono ?_
    rintro _ h10 ⟨rfl, f10⟩
    simp [f10.one]
  · simp [f4.one, hf]
    refine (Fit_sp l _ hl20 h4 f4.one r4).mono ?_
    rintro _ h6 ⟨rfl, f6⟩
    have e6 := e4.fr f6 (Nat.le_refl _)
    simp [f6.one, hf]
    refine (Parse_sp s (by omega) h6 f6.one e6).mono ?_
    rintro _ h7 ⟨v7, rfl, r7, f7⟩
    simp [f7.one]
    refine (refparse_sp s (by omega) h7 f7.one).mono ?_
    rintro _ h8 ⟨v8, rfl, r8, f8⟩
    simp [f8.one]
    refine (Same_sp (parseL s) (parseL s) v7 v8 (by have := parseL_len s; omega) h8 f8.one (r7.mono f8) r8).mono ?_
    rintro _ h9 ⟨rfl, rfl⟩
    simp [f8.one]
    refine (wakes_sp h9 f8.one).mono ?_
    rintro _ h10 ⟨rfl, f10⟩
    simp [f10.one]
set_option maxRecDepth 100000 in
set_option maxHeartbeats 8000000 in
theorem law_Back (l : List Nd) (s : List UInt8) (hk : ∀ x ∈ l, x.kind < 256) (v : Value) (h : H) (h1 : h.one = []) (hp : Gp h) (he : Ge h) (hr : RdN h v l) :
    CallW E0 X0 (.fn 10) [v, str s] h (fun r _ => r = .bool true) := by
  refine CallW.body efn10 rfl rfl rfl [] (by kernel_rfl) ?_
  have hr' := hr
  obtain ⟨a, cap, rfl⟩ := hr.sl
  by_cases hl : 2000 < l.length
  · have hl' : (2000 : Int) < l.length := by omega
    simp [Tryd.f10, h1, hl']
    refine (wakes_sp h h1).mono ?_
    rintro _ h2 ⟨rfl, f1⟩
    simp [f1.one]
  have hl' : ¬ (2000 : Int) < l.length := by omega
  by_cases hsl : 65536 < s.length
  · have hsl' : (65536 : Int) < s.length := by omega
    simp [Tryd.f10, h1, hl', hsl']
    refine (wakes_sp h h1).mono ?_
    rintro _ h2 ⟨rfl, f1⟩
    simp [f1.one]
  have hsl' : ¬ (65536 : Int) < s.length := by omega
  have hl20 : l.length < 2 ^ 20 := by omega
  simp [Tryd.f10, h1, hl', hsl']
  refine (own_sp l _ hl20 h h1 hr').mono ?_
  rintro v2 h2 ⟨r2, f2⟩
  simp [f2.one]
  have p2 := hp.fr f2 (Nat.le_refl _)
  have e2 := he.fr f2 (Nat.le_refl _)
  have hA : AppOk 2097152 := AppOk.of (by decide) AppU_big
  refine (Print_sp (M := 2097152) (by decide) (by decide) hA l (fit_lt hk hl20) v2 hl20 h2 (.inr p2) f2.one r2).mono ?_
  rintro _ h3 ⟨rfl, f3⟩
  have r3 := (hr'.mono f2).mono f3
  have e3 := e2.fr f3 (Nat.le_refl _)
  have p3 := p2.fr f3 (Nat.le_refl _)
  have hpL := parse_ok (s := s)
  have hpl := parseL_len s
  have hpk := parseL_kind s
  by_cases hf : fitN l = true
  · have hbk := fit_back hk hl20 hf
    have hE : parseE (printN l) = 0 := by unfold parseE; rw [hbk]; simp [hf]
    have hP : parseL (printN l) = l := by unfold parseL; rw [hbk]; simp [hf]
    have hpn := printN_len (M := 2097152) (by decide) (by decide) l (fit_lt hk hl20 hf)
    simp [f3.one, hf]
    refine (Parse_sp (printN l) (by omega) h3 f3.one e3).mono ?_
    rintro _ h4 ⟨v4, rfl, r4, f4⟩
    rw [hP] at r4
    have e4 := e3.fr f4 (Nat.le_refl _)
    have p4 := p3.fr f4 (Nat.le_refl _)
    simp [f4.one, hE]
    refine (Same_sp l l v4 _ (by omega) h4 f4.one r4 (r3.mono f4)).mono ?_
    rintro _ h5 ⟨rfl, rfl⟩
    simp [f4.one]
    refine (Parse_sp s (by omega) h5 f4.one e4).mono ?_
    rintro _ h6 ⟨v6, rfl, r6, f6⟩
    have p6 := p4.fr f6 (Nat.le_refl _)
    by_cases hE2 : parseE s = 0
    · obtain ⟨hr, hfs⟩ := parse_ok hE2
      have hback := print_rparse _ s _ (Nat.le_refl _) hr
      simp [f6.one, hE2]
      refine (Print_sp (M := 2097152) (by decide) (by decide) hA (parseL s) (fit_lt hpk (by omega)) v6 (by omega) h6 (.inr p6) f6.one r6).mono ?_
      rintro _ h7 ⟨rfl, f7⟩
      simp [f7.one, hfs, hback]
      refine (wakes_sp h7 f7.one).mono ?_
      rintro _ h8 ⟨rfl, f8⟩
      simp [f8.one]
    · simp [f6.one, hE2]
      refine (wakes_sp h6 f6.one).mono ?_
      rintro _ h8 ⟨rfl, f8⟩
      simp [f8.one]
  · simp [f3.one, hf]
    refine (Parse_sp s (by omega) h3 f3.one e3).mono ?_
    rintro _ h6 ⟨v6, rfl, r6, f6⟩
    have p6 := p3.fr f6 (Nat.le_refl _)
    by_cases hE2 : parseE s = 0
    · obtain ⟨hr, hfs⟩ := parse_ok hE2
      have hback := print_rparse _ s _ (Nat.le_refl _) hr
      simp [f6.one, hE2]
      refine (Print_sp (M := 2097152) (by decide) (by decide) hA (parseL s) (fit_lt hpk (by omega)) v6 (by omega) h6 (.inr p6) f6.one r6).mono ?_
      rintro _ h7 ⟨rfl, f7⟩
      simp [f7.one, hfs, hback]
      refine (wakes_sp h7 f7.one).mono ?_
      rintro _ h8 ⟨rfl, f8⟩
      simp [f8.one]
    · simp [f6.one, hE2]
      refine (wakes_sp h6 f6.one).mono ?_
      rintro _ h8 ⟨rfl, f8⟩
      simp [f8.one]
end Go.Dm
