/- What 'Print' comes to. -/
import Derived.Test.YtnmfdjmejpioiaaDoorTrP
set_option linter.unusedVariables false
set_option linter.unusedSimpArgs false
namespace Go.Dm
open Go.Proofs
theorem SlG.eq {ty : Option TypeId} {n B : Nat} {h : H} {v : Value} {cs cs' : List Value} {len len' : Nat} (s : SlG ty n B h v cs len) (e1 : cs' = cs) (e2 : len' = len) : SlG ty n B h v cs' len' := by subst e1 e2; exact s
theorem dig_len : ∀ (k n : Nat), n < 10 ^ (k + 1) → (dig n).length ≤ k + 1 := by
  intro k
  induction k with
  | zero => intro n h; rw [dig_lt (by omega)]; simp
  | succ k ih =>
    intro n h
    by_cases c : n < 10
    · rw [dig_lt c]; simp
    · rw [dig_ge (by omega)]
      have := ih (n / 10) (by rw [Nat.div_lt_iff_lt_mul (by decide), ← Nat.pow_succ]; exact h)
      simp; omega
/-- The first fields of a line, a blank between. -/
def fldF (vs : List Nat) : Nat → List UInt8
  | 0 => []
  | j + 1 => fldF vs j ++ (if j = 0 then [] else [32]) ++ dig (vs.getD j 0)
def valsN (x : Nd) : List Nat := [x.dp.toNat, x.kind, x.fm.toNat, x.to.toNat]
def lineN (x : Nd) : List UInt8 := fldF (valsN x) 4 ++ [10]
def printN (l : List Nd) : List UInt8 := l.flatMap lineN
def LtN (M : Nat) (l : List Nd) : Prop := ∀ x ∈ l, x.dp.toNat < M ∧ x.kind < M ∧ x.fm.toNat < M ∧ x.to.toNat < M
theorem vals_lt {M : Nat} (hM : 0 < M) {x : Nd} (h : x.dp.toNat < M ∧ x.kind < M ∧ x.fm.toNat < M ∧ x.to.toNat < M) (j : Nat) : (valsN x).getD j 0 < M := by
  obtain ⟨a, b, c, d⟩ := h
  match j with
  | 0 => exact a
  | 1 => exact b
  | 2 => exact c
  | 3 => exact d
  | j + 4 => simpa [valsN] using hM
theorem fldF_len {M : Nat} (hM : M ≤ 10 ^ 13) {vs : List Nat} (h : ∀ j, vs.getD j 0 < M) : ∀ j, (fldF vs j).length ≤ j * 14 := by
  intro j
  induction j with
  | zero => simp [fldF]
  | succ j ih =>
    have h1 := dig_len 12 (vs.getD j 0) (Nat.lt_of_lt_of_le (h j) hM)
    unfold fldF
    rw [List.length_append, List.length_append]
    have h2 : (if j = 0 then ([] : List UInt8) else [32]).length ≤ 1 := by split <;> simp
    omega
theorem lineN_len {M : Nat} (hM : M ≤ 10 ^ 13) (h0 : 0 < M) {x : Nd} (h : x.dp.toNat < M ∧ x.kind < M ∧ x.fm.toNat < M ∧ x.to.toNat < M) : (lineN x).length ≤ 60 := by
  have := fldF_len hM (vals_lt h0 h) 4
  simp [lineN]; omega
theorem printN_take {l : List Nd} {k : Nat} (h : k < l.length) : printN (l.take (k + 1)) = printN (l.take k) ++ lineN (nd l k) := by
  rw [take_succ_nd h]; simp [printN]
theorem printN_len {M : Nat} (hM : M ≤ 10 ^ 13) (h0 : 0 < M) : ∀ (l : List Nd), LtN M l → (printN l).length ≤ l.length * 60
  | [], _ => by simp [printN]
  | x :: l, h => by
    have h1 := lineN_len hM h0 (h x (List.mem_cons_self ..))
    have h2 := printN_len hM h0 l fun y hy => h y (List.mem_cons_of_mem _ hy)
    simp [printN] at h2 ⊢
    omega
set_option maxRecDepth 100000 in
set_option maxHeartbeats 8000000 in
theorem Print_sp {M : Nat} (hM : M ≤ 10 ^ 13) (h0 : 0 < M) (hA : AppOk M) (l : List Nd) (hlt : fitN l = true → LtN M l) (v : Value) (hl : l.length < 2 ^ 20) (h : H) (hg : M ≤ 100 ∨ Gp h) (h1 : h.one = []) (hr : RdN h v l) :
    CallW E0 X0 (.fn 30) [v] h (fun r h' => r = .tuple #[str (if fitN l then printN l else []), .int .i64 (if fitN l then 0 else 60)] ∧ Fr h.next h h') := by
  refine CallW.body efn30 rfl rfl rfl [] (by kernel_rfl) ?_
  simp [Tryd.f30, h1]
  refine (fit_sp l 0 _ hl h h1 hr).mono ?_
  rintro _ h' ⟨rfl, hfr⟩
  rw [wrong0]
  by_cases hf : fitN l = true
  · have hl1 := fit_len hf
    have t := Tr.of_fit hf
    have hlt := hlt hf
    obtain ⟨b, cap, st, own, fz, ty, rfl, a2, a3, a4, a5⟩ := hr.ne hl1
    have hb3 : h'.get b = some (.cells (encsN l) st own fz ty) := (hfr.get b a5).trans a3
    have hbB := hfr.next
    have hg' : ∀ h2, Fr h'.next h' h2 → (M ≤ 100 ∨ Gp h2) := fun h2 f2 => hg.imp id fun g => (g.fr hfr (Nat.le_refl _)).fr f2 (Nat.le_refl _)
    simp [hfr.one, hf]
    refine wpd_loop (fun (k : Nat) fr h3 => k ≤ l.length ∧ fr.get 17 = some (.int .i64 k) ∧ (∃ vb, fr.get 5 = some vb ∧ SlG (some 5) 1 h'.next h3 vb (bytesV (printN (l.take k))) (printN (l.take k)).length) ∧ Fr h'.next h' h3) (fun k => l.length - k) 0 ⟨by omega, by simp, ⟨.slice none 0 0, by simp, SlG.nil ..⟩, Fr.refl hfr.one⟩ ?_
    rintro k fr h3 ⟨hk, f17, ⟨vb, f5, sl⟩, hf3⟩ hfe
    have g15 := hfe 15 rfl
    have g16 := hfe 16 rfl
    simp at g15 g16
    have hb4 : h3.get b = some (.cells (encsN l) st own fz ty) := (hf3.get b (by omega)).trans hb3
    have hfn := hf3.next
    have hpl := printN_len hM h0 (l.take k) (fun x hx => hlt x (List.mem_of_mem_take hx))
    simp only [List.length_take, Nat.min_eq_left hk] at hpl
    by_cases hkl : k < l.length
    · have q2 := encsN_get hkl
      have hd0 := (t.pos k hkl).1
      have hf0 := t.fm k hkl
      have ht0 := t.to k hkl
      have hm := hlt (nd l k) (by rw [← nd_get hkl]; exact List.getElem_mem ..)
      have hvl := vals_lt h0 hm
      have hln := lineN_len hM h0 hm
      have hpt := printN_take hkl
      generalize hx : nd l k = x at *
      obtain ⟨xk, xf, xt, xd⟩ := x
      obtain ⟨nf, rfl⟩ := Int.eq_ofNat_of_zero_le hf0
      obtain ⟨nt, rfl⟩ := Int.eq_ofNat_of_zero_le (show 0 ≤ xt by simp only at hf0 ht0; omega)
      obtain ⟨n4, rfl⟩ := Int.eq_ofNat_of_zero_le hd0
      simp only [encN] at q2
      have hvn : valsN ⟨xk, (nf : Int), (nt : Int), (n4 : Int)⟩ = [n4, xk, nf, nt] := rfl
      rw [hvn] at hvl
      have e3 : k * 4 + 4 ≤ l.length * 4 := by omega
      have e1 : (k : Int) < l.length := by omega
      have hgb : ¬ b = h3.next := by omega
      have hwk : IntKind.i64.wrap (xk : Int) = (xk : Int) := wrap_i64 (by omega) (by have := hvl 1; simp at this; omega)
      have hw : IntKind.i64.wrap ((k : Int) + 1) = ((k + 1 : Nat) : Int) := wrap_succ (by omega)
      simp [f17, g15, g16, hb4, q2, e1, e3, hkl, hgb, hf3.one, hwk]
      have hF4 : Fr h'.next h' ((h3.nw (.cells [.int .u8 0, .int .i64 0, .int .i64 0, .int .i64 0] 0 true 0 none)).put h3.next (.cells [.int .u8 xk, .int .i64 nf, .int .i64 nt, .int .i64 n4] 0 true 0 none)) := (hf3.nw hf3.next _).put hf3.next _
      refine wpd_loop (fun (j : Nat) fr h4 => j ≤ 4 ∧ fr.get 31 = some (.int .i64 j) ∧ (∃ vb, fr.get 5 = some vb ∧ SlG (some 5) 1 h'.next h4 vb (bytesV (printN (l.take k) ++ fldF [n4, xk, nf, nt] j)) (printN (l.take k) ++ fldF [n4, xk, nf, nt] j).length) ∧ Fr h'.next h' h4) (fun j => 4 - j) 0
        ⟨by omega, by simp, ⟨vb, by simp [f5], by simpa [fldF] using sl.of_get (by simp) (fun g hg hg2 => by rw [H.get_put, if_neg (by omega), get_nw, if_neg (by omega)])⟩, hF4⟩ ?_
      rintro j fr2 h4 ⟨hj, f31, ⟨vb2, f52, sl2⟩, hf4⟩ hfe2
      have g30 := hfe2 30 rfl
      have g17 := hfe2 17 rfl
      simp [f17] at g30 g17
      have hfl := fldF_len hM hvl j
      have hlen2 : (printN (l.take k) ++ fldF [n4, xk, nf, nt] j).length < 2 ^ 34 := by rw [List.length_append]; omega
      have hbn := hf4.next
      by_cases hj4 : j < 4
      · have hel : [Value.int .i64 n4, .int .i64 xk, .int .i64 nf, .int .i64 nt][j]? = some (.int .i64 (([n4, xk, nf, nt].getD j 0 : Nat) : Int)) := by
          match j, hj4 with
          | 0, _ => rfl
          | 1, _ => rfl
          | 2, _ => rfl
          | 3, _ => rfl
        have hvj := hvl j
        have hfs : fldF [n4, xk, nf, nt] (j + 1) = fldF [n4, xk, nf, nt] j ++ (if j = 0 then [] else [32]) ++ dig ([n4, xk, nf, nt].getD j 0) := rfl
        generalize [n4, xk, nf, nt].getD j 0 = y at *
        have ej : (j : Int) < 4 := by omega
        have hwj : IntKind.i64.wrap ((j : Int) + 1) = ((j + 1 : Nat) : Int) := wrap_succ (by omega)
        by_cases j0 : j = 0
        · subst j0
          simp [f31, g30, ej, hel, hf4.one, f52]
          have hy : n4 = y := by simp at hel; omega
          subst hy
          refine (hA n4 h'.next vb2 _ _ h4 hvj (hg' _ hf4) hf4.one (by omega) (by omega) sl2).mono ?_
          rintro r h5 ⟨sl5, fr5⟩
          have hw01 : IntKind.i64.wrap 1 = 1 := wrap_i64 (by decide) (by decide)
          simp [fr5.one, f31, hw01]
          refine ⟨1, by decide, by decide, by simp, ?_, hf4.trans fr5⟩
          simpa [fldF] using sl5
        · have ej0 : (0 : Int) < j := by omega
          have ej1 : 0 < j := by omega
          have z8 : zerosD [.int .u8 0] 1 = [.int .u8 0] := rfl
          simp [f31, g30, ej, hel, hf4.one, f52, ej0, ej1, -appS_some, z8]
          refine (sl2.nw _).app (by simp) (by simp; omega) (by rfl) (by decide) (by decide) (by omega) (by decide) (.inr rfl) ?_
          intro v5 h5 sl5 fr5
          simp [fr5.one]
          refine (hA y h'.next v5 _ _ h5 hvj (hg' _ ((hf4.nw hf4.next _).trans fr5)) fr5.one (by have := fr5.next; simp at this; omega) (by omega) sl5).mono ?_
          rintro r h6 ⟨sl6, fr6⟩
          simp [fr6.one, f31, hwj]
          refine ⟨j + 1, by omega, by omega, by simp, ?_, ((hf4.nw hf4.next _).trans fr5).trans fr6⟩
          rw [hfs]
          exact sl6.eq (by simp [j0, bytesV]) (by simp [j0]; omega)
      · have ej : ¬ (j : Int) < 4 := by omega
        have hj5 : j = 4 := by omega
        subst hj5
        have z8 : zerosD [.int .u8 0] 1 = [.int .u8 0] := rfl
        simp [f31, f52, hf4.one, -appS_some, z8]
        refine (sl2.nw _).app (by simp) (by simp; omega) (by rfl) (by decide) (by decide) (by omega) (by decide) (.inr rfl) ?_
        intro v5 h5 sl5 fr5
        simp [fr5.one, g17, hw]
        refine ⟨k + 1, by omega, hkl, by simp, ?_, (hf4.nw hf4.next _).trans fr5⟩
        rw [hpt]
        simpa [lineN, valsN, bytesV, Nat.add_assoc] using sl5
    · have e1 : ¬ (k : Int) < l.length := by omega
      have hkk : l.take k = l := List.take_of_length_le (by omega)
      rw [hkk] at sl
      have hst := sl.str und5
      simp [f17, g15, g16, e1, hkl, hf3.one, f5, hst]
      exact ⟨hfr.one ▸ hf3.one, by have := hf3.next; omega, fun c hc => (hf3.get c (by omega)).trans (hfr.get c hc)⟩
  · simp [hfr.one, hf]
    exact hfr
end Go.Dm
