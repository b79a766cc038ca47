/- Trees: rows of nodes in D's memory, and what 'Check' and 'fit' come to. -/
import Derived.Test.YtdgclgfhcgdehaaDoorTrI
import Derived.Test.YtdgclgfhcgdehaaDoorPlugT
import Derived.Test.YtdgclgfhcgdehaaDoorDEq
set_option linter.unusedVariables false
set_option linter.unusedSimpArgs false
namespace Go.Dm
open Go.Proofs
@[simp] theorem nilCheck_ptr (a : Addr) : nilCheckD (.pointer (some a)) = some (.pointer (some a)) := _root_.id rfl
@[simp] theorem nilCheck_fn (f : FuncId) (a b : Array Value) : nilCheckD (.func (.func f) a b) = some (.func (.func f) a b) := _root_.id rfl
/-- A slice of nodes, that is only read. -/
def RdN (h : H) (v : Value) (l : List Nd) : Prop := (v = .slice none 0 0 ∧ l = []) ∨ ∃ b cap st own fz ty, v = .slice (some ⟨b, 0, none⟩) l.length cap ∧ l.length ≤ cap ∧ h.get b = some (.cells (encsN l) st own fz ty) ∧ (st = 0 ∨ st = 4) ∧ b < h.next
theorem RdN.mono {h h' : H} {v : Value} {l : List Nd} (r : RdN h v l) (f : Fr h.next h h') : RdN h' v l := by
  rcases r with r | ⟨b, cap, st, own, fz, ty, a1, a2, a3, a4, a5⟩
  · exact .inl r
  · exact .inr ⟨b, cap, st, own, fz, ty, a1, a2, (f.get _ a5).trans a3, a4, Nat.lt_of_lt_of_le a5 f.next⟩
theorem RdN.ne {h : H} {v : Value} {l : List Nd} (r : RdN h v l) (hl : 0 < l.length) : ∃ b cap st own fz ty, v = .slice (some ⟨b, 0, none⟩) l.length cap ∧ l.length ≤ cap ∧ h.get b = some (.cells (encsN l) st own fz ty) ∧ (st = 0 ∨ st = 4) ∧ b < h.next := by
  rcases r with ⟨_, rfl⟩ | r
  · simp at hl
  · exact r
theorem RdN.sl {h : H} {v : Value} {l : List Nd} (r : RdN h v l) : ∃ a cap, v = .slice a l.length cap := by
  rcases r with ⟨rfl, rfl⟩ | ⟨b, cap, st, own, fz, ty, rfl, _⟩
  · exact ⟨none, 0, rfl⟩
  · exact ⟨_, _, rfl⟩
/-- A slice whose cells may go on behind it. -/
def SlC (ty : Option TypeId) (n B : Nat) (h : H) (v : Value) (cs : List Value) (len : Nat) : Prop :=
  ∃ g cap c, v = .slice (some ⟨g, 0, none⟩) len cap ∧ len ≤ cap ∧ B ≤ g ∧ g < h.next ∧ h.get g = some (.cells c n true 0 ty) ∧ c.length = cap * n ∧ c.take (len * n) = cs
theorem SlC.of_get {ty : Option TypeId} {n B : Nat} {h h' : H} {v : Value} {cs : List Value} {len : Nat} (s : SlC ty n B h v cs len) (hn : h.next ≤ h'.next) (hg : ∀ g, B ≤ g → g < h.next → h'.get g = h.get g) : SlC ty n B h' v cs len := by
  obtain ⟨g, cap, c, a1, a2, a3, a4, a5, a6, a7⟩ := s
  exact ⟨g, cap, c, a1, a2, a3, by omega, (hg g a3 a4).trans a5, a6, a7⟩
theorem setAt_eq : ∀ (vs c : List Value) (o : Nat), o + vs.length ≤ c.length → setAt c o vs = c.take o ++ vs ++ c.drop (o + vs.length)
  | [], c, o, h => by simp [setAt]
  | v :: vs, c, o, h => by
    simp only [List.length_cons] at h
    rw [setAt, setAt_eq vs _ _ (by simp; omega), List.take_succ_eq_append_getElem (by simp; omega)]
    simp only [List.getElem_set_self, List.take_set_of_le (Nat.le_refl o), List.append_assoc, List.cons_append, List.nil_append, List.length_cons]
    rw [List.drop_set_of_lt (by omega)]
    congr 4
    omega
/-- k elements are appended to it. -/
theorem SlC.app {ty ty0 : Option TypeId} {elem : TypeId} {n B : Nat} {h : H} {v : Value} {cs : List Value} {len : Nat} (s : SlC ty n B h v cs len) (h1 : h.one = []) (hB : B ≤ h.next) {k by' : Nat} {xs : List Value} (hx : xs.length = k * n) (hk : k ≠ 0) (hn : 0 < n)
    (hc : xs.all cellV = true) (hl : (len + k) * (by' + 1) ≤ 2 ^ 44) (hb : by' ≤ 2 ^ 32) (ht : ty = none ∨ ty = some elem) {K : VPost} (hK : ∀ v' h', SlC ty n B h' v' (cs ++ xs) (len + k) → Fr B h h' → h'.next ≤ h.next + 1 → (∀ b, b < h.next → (∀ g x y, v = .slice (some ⟨g, 0, none⟩) x y → g ≠ b) → h'.get b = h.get b) → (∀ g x y, v' = .slice (some ⟨g, 0, none⟩) x y → (∃ x y, v = .slice (some ⟨g, 0, none⟩) x y) ∨ g = h.next) → K v' h') : OptW (appS ty0 elem n by' v k xs h) K := by
  have hadr : h.addr = h.next := addr_one h h1
  obtain ⟨g, cap, c, rfl, a2, a3, a4, a5, a6, a7⟩ := s
  have hcl : len * n ≤ c.length := by rw [a6]; exact Nat.mul_le_mul_right _ a2
  have hcs : cs.length = len * n := by rw [← a7, List.length_take, Nat.min_eq_left hcl]
  rw [appS_some, if_neg hk]
  by_cases hcap : len + k ≤ cap
  · have hle : len * n + k * n ≤ c.length := by rw [a6, ← Nat.add_mul]; exact Nat.mul_le_mul_right _ hcap
    have hz : 0 + len * n = len * n := by omega
    have hq : (decide (0 + len * n + xs.length ≤ c.length) && decide (0 ≤ 0 + len * n) && xs.all cellV) = true := by
      rw [hc, hz, hx]; simp [hle]
    rw [if_pos hcap, stCells_eq, a5, stC_some, if_pos hq, roomC_some, OptW.some]
    refine hK _ _ ⟨g, cap, setAt c (0 + len * n) xs, rfl, hcap, a3, a4, by rw [H.get_put, if_pos rfl], by rw [setAt_length]; exact a6, ?_⟩ ((Fr.refl h1).put a3 _) (by simp [H.put]) (fun b hb hne => by
      have e5 : b ≠ g := fun e => hne g len cap rfl e.symm
      rw [H.get_put, if_neg e5]) (fun g' x y e => by cases e; exact .inl ⟨_, _, rfl⟩)
    rw [hz, setAt_eq _ _ _ (by rw [hx]; exact hle), a7, Nat.add_mul, ← hx, ← hcs, ← List.length_append, List.take_left]
  · rw [if_neg hcap, if_pos ⟨hl, hb, hc⟩, a5, growC_some]
    have e2 : n = n ∧ 0 + len * n ≤ c.length ∧ 0 ≤ 0 + len * n ∧ (ty = none ∨ ty = some elem ∧ 0 = 0) := ⟨rfl, by omega, by omega, ht.imp id fun x => ⟨x, rfl⟩⟩
    have e3 : (c.drop 0).take (len * n) = cs := by rw [List.drop_zero, a7]
    have h2 : (h.drop g).one = [] := h1
    rw [if_pos e2, OptW.some, e3, hadr, new_one _ _ h2]
    refine hK _ _ ⟨h.next, len + k, cs ++ xs, by simp, Nat.le_refl _, hB, by simp, by simp, by rw [List.length_append, hcs, hx, Nat.add_mul], List.take_of_length_le (by rw [List.length_append, hcs, hx, Nat.add_mul]; exact Nat.le_refl _)⟩
      (((Fr.refl h1).drop a3).nw (by simpa using hB) _) (by simp) (fun b hb hne => by
        have e5 : b ≠ g := fun e => hne g len cap rfl e.symm
        rw [get_nw, if_neg (by simp; omega), H.get_drop, if_neg e5]) (fun g' x y e => by cases e; exact .inr rfl)

theorem SlC.at {c : List Value} {C : List Nd} (a7 : c.take (C.length * 4) = encsN C) {i j : Nat} (hi : i < C.length) (hj : j < 4) : c[i * 4 + j]? = (encN (nd C i))[j]? := by
  rw [← encsN_at hi hj, ← a7, List.getElem?_take, if_pos (by omega)]
theorem SlC.cut {c : List Value} {C : List Nd} (a7 : c.take (C.length * 4) = encsN C) {k : Nat} (hk : k ≤ C.length) : c.take (k * 4) = encsN (C.take k) := by
  rw [← encsN_take, ← a7, List.take_take, Nat.min_eq_left (by omega)]
theorem take_succ_nd {C : List Nd} {d : Nat} (hd : d < C.length) : C.take (d + 1) = C.take d ++ [nd C d] := by
  rw [List.take_succ_eq_append_getElem hd, nd_get hd]
theorem SlC.set {c : List Value} {C : List Nd} (a7 : c.take (C.length * 4) = encsN C) {d : Nat} (hd : d < C.length) (v : Int) : (c.set (d * 4 + 1) (.int .i64 v)).take ((d + 1) * 4) = encsN (C.take d ++ [{ nd C d with fm := v }]) := by
  rw [List.take_set, SlC.cut a7 (show d + 1 ≤ C.length by omega), take_succ_nd hd, encsN_app, encsN_app, List.set_append_right _ _ (by simp; omega)]
  simp only [encsN_len, List.length_take, Nat.min_eq_left (show d ≤ C.length by omega), Nat.add_sub_cancel_left]
  rfl
theorem eq_nd (p q : Nd) : eqD E0 10000 67 (.agg (encN p).toArray) (.agg (encN q).toArray) = some (decide (p = q)) := by
  obtain ⟨a1, a2, a3, a4⟩ := p
  obtain ⟨b1, b2, b3, b4⟩ := q
  simp [encN]
  rw [Bool.eq_iff_iff]
  simp
  omega
theorem eq_root (x : Nd) (n : Int) : eqD E0 10000 67 (.agg (encN x).toArray) (.agg #[.int .u8 1, .int .i64 0, .int .i64 n, .int .i64 0]) = some (decide (x = rootN n)) := eq_nd x (rootN n)
theorem chk_pos {l : List Nd} {n : Int} (hl : 0 < l.length) : chk l n = (decide (0 ≤ n) && decide (n ≤ 1048576) && decide (nd l 0 = rootN n) && (chkR [nd l 0] (l.drop 1)).isSome) := by
  cases l with
  | nil => simp at hl
  | cons x r => simp [chk, Bool.and_assoc]
theorem one_nd (x : Nd) : setAt (zerosD [.int .u8 0, .int .i64 0, .int .i64 0, .int .i64 0] 4) 0 (encN x) = encN x := rfl
theorem zerN : zerosD [.int .u8 0, .int .i64 0, .int .i64 0, .int .i64 0] 4 = [.int .u8 0, .int .i64 0, .int .i64 0, .int .i64 0] := rfl
theorem zer_len : (zerosD [.int .u8 0, .int .i64 0, .int .i64 0, .int .i64 0] 4).length = 4 := rfl
set_option maxRecDepth 100000 in
set_option maxHeartbeats 8000000 in
theorem check_sp (l : List Nd) (n : Int) (v : Value) (hl : l.length < 2 ^ 30) (h : H) (h1 : h.one = []) (hr : RdN h v l) :
    CallW E0 X0 (.fn 22) [v, .int .i64 n] h (fun r h' => r = .int .i64 (if chk l n then 0 else 60) ∧ Fr h.next h h') := by
  refine CallW.body efn22 rfl rfl rfl [] (by kernel_rfl) ?_
  by_cases hn0 : n < 0
  · have hc : chk l n = false := by unfold chk; simp; omega
    obtain ⟨a, cap, rfl⟩ := hr.sl
    simp [Tryd.f22, h1, hn0, hc, Fr.refl h1]
  by_cases hn1 : n > 1048576
  · have hc : chk l n = false := by unfold chk; simp; omega
    obtain ⟨a, cap, rfl⟩ := hr.sl
    simp [Tryd.f22, h1, hn0, hn1, hc, Fr.refl h1]
  by_cases hl0 : l = []
  · have hc : chk [] n = false := by unfold chk; simp
    obtain ⟨a, cap, rfl⟩ := hr.sl
    simp [Tryd.f22, h1, hn0, hn1, hc, hl0, Fr.refl h1]
  have hl1 : 0 < l.length := List.length_pos_iff.2 hl0
  obtain ⟨b, cap, st, own, fz, ty, rfl, a2, a3, a4, a5⟩ := hr.ne hl1
  have q0 : List.take 4 (encsN l) = encN (nd l 0) := by have := encsN_get hl1; simpa using this
  have b0 : 4 ≤ l.length * 4 := by omega
  have hl2 : ¬ (l.length : Int) = 0 := by omega
  by_cases hr0 : nd l 0 = rootN n
  · have hc : chk l n = (chkR [nd l 0] (l.drop 1)).isSome := by rw [chk_pos hl1]; simp [hr0]; omega
    have hcap : 1 ≤ cap := by omega
    have hll : 1 ≤ l.length := hl1
    have hbn : ¬ b = h.next := by omega
    simp [Tryd.f22, h1, hn0, hn1, a3, q0, b0, hl0, hl1, hl2, -eqD_succ, eq_root, hr0, one_nd, zer_len, encN_len, hbn, hll, a4]
    refine wpd_loop (fun (s : Nat × List Nd) fr h' => s.1 < l.length ∧ fr.get 35 = some (.int .i64 s.1) ∧ (∃ vo, fr.get 5 = some vo ∧ SlC none 4 h.next h' vo (encsN s.2) s.2.length) ∧ chkR s.2 (l.drop (s.1 + 1)) = chkR [nd l 0] (l.drop 1) ∧ 0 < s.2.length ∧ s.2.length ≤ s.1 + 1 ∧ Fr h.next h h') (fun s => l.length - s.1) (0, [nd l 0]) ⟨by omega, by simp, ⟨.slice (some ⟨h.next, 0, none⟩) 1 1, by simp, h.next, 1, encN (rootN n), rfl, by simp, Nat.le_refl _, by simp, by simp, rfl, by rw [hr0]; rfl⟩, rfl, by simp, by simp, (Fr.refl h1).nw (Nat.le_refl _) _⟩ ?_
    rintro ⟨k, C⟩ fr h3 ⟨hk, hi, ⟨vo, h5, g, gc, c, rfl, c2, c3, c4, c5, c6, c7⟩, he, hC, hC2, hfr⟩ hf
    have g33 := hf 33 rfl
    have g34 := hf 34 rfl
    simp at g33 g34 hk hi he hC hC2 h5
    simp only at c2 c7
    have hb3 : h3.get b = some (.cells (encsN l) st own fz ty) := (hfr.get b a5).trans a3
    by_cases hkl : k + 1 < l.length
    · have q1 := encsN_get hkl
      have he1 : chkR C (l.drop (k + 1)) = match chkS C (nd l (k + 1)) with
        | some C' => chkR C' (l.drop (k + 1 + 1))
        | none => none := by rw [drop_nd hkl]; rfl
      generalize hx : nd l (k + 1) = x at *
      have e1 : k < l.length - 1 := by omega
      have e2 : (k : Int) < ((l.length - 1 : Nat) : Int) := by omega
      have e3 : 4 + k * 4 + 4 ≤ l.length * 4 := by omega
      have q2 : List.take 4 (List.drop (4 + k * 4) (encsN l)) = encN x := by rw [← q1]; congr 2; omega
      obtain ⟨xk, xf, xt, xd⟩ := x
      simp only [encN] at q2
      have hgb : ¬ g = h3.next := by omega
      have hgc : ¬ h3.next = g := by omega
      have hbb : ¬ b = h3.next := by omega
      by_cases hd1 : xd < 1
      · have hc2 : chk l n = false := by
          rw [hc, List.drop_one, ← he, he1]; unfold chkS; rw [if_neg (by simp; omega)]; rfl
        simp [hi, g33, g34, h5, hb3, e1, e2, e3, q2, hfr.one, hd1, hc2]
        exact (hfr.nw hfr.next _).put hfr.next _
      by_cases hd2 : xd > C.length
      · have hc2 : chk l n = false := by
          rw [hc, List.drop_one, ← he, he1]; unfold chkS; rw [if_neg (by simp; omega)]; rfl
        simp [hi, g33, g34, h5, hb3, e1, e2, e3, q2, hfr.one, hd1, hd2, hc2]
        exact (hfr.nw hfr.next _).put hfr.next _
      obtain ⟨d, rfl⟩ : ∃ d : Nat, xd = ((d + 1 : Nat) : Int) := ⟨(xd - 1).toNat, by omega⟩
      have hd3 : d < C.length := by omega
      have hd4 : d + 1 ≤ gc := by omega
      have hw1 : IntKind.i64.wrap (d : Int) = (d : Int) := wrap_i64 (by omega) (by omega)
      have hd5 : ¬ (C.length : Int) < (d : Int) + 1 := by omega
      have hd6 : ¬ (d : Int) + 1 < 1 := by omega
      have m1 : c[d * 4 + 1]? = some (.int .i64 (nd C d).fm) := SlC.at c7 hd3 (by decide)
      have m2 : c[d * 4 + 2]? = some (.int .i64 (nd C d).to) := SlC.at c7 hd3 (by decide)
      have hS : chkS C ⟨xk, xf, xt, ((d + 1 : Nat) : Int)⟩ = if (nd C d).fm ≤ xf ∧ xf ≤ xt ∧ xt ≤ (nd C d).to then some (C.take d ++ [{ nd C d with fm := xt }, ⟨xk, xf, xt, ((d + 1 : Nat) : Int)⟩]) else none := by
        unfold chkS
        rw [if_pos (by simp; omega)]
        simp
      generalize hp : nd C d = p at *
      obtain ⟨pk, pf, pt, pd⟩ := p
      simp only at m1 m2 hS
      by_cases t1 : xf < pf
      · have hc2 : chk l n = false := by
          rw [hc, List.drop_one, ← he, he1, hS, if_neg (by omega)]; rfl
        simp [hi, g33, g34, h5, hb3, e1, e2, e3, q2, hfr.one, hd4, hd5, hd6, hw1, hgb, c5, m1, m2, t1, hc2]
        exact (hfr.nw hfr.next _).put hfr.next _
      by_cases t2 : xt < xf
      · have hc2 : chk l n = false := by
          rw [hc, List.drop_one, ← he, he1, hS, if_neg (by omega)]; rfl
        simp [hi, g33, g34, h5, hb3, e1, e2, e3, q2, hfr.one, hd4, hd5, hd6, hw1, hgb, c5, m1, m2, t1, t2, hc2]
        exact (hfr.nw hfr.next _).put hfr.next _
      by_cases t3 : pt < xt
      · have hc2 : chk l n = false := by
          rw [hc, List.drop_one, ← he, he1, hS, if_neg (by omega)]; rfl
        simp [hi, g33, g34, h5, hb3, e1, e2, e3, q2, hfr.one, hd4, hd5, hd6, hw1, hgb, c5, m1, m2, t1, t2, t3, hc2]
        exact (hfr.nw hfr.next _).put hfr.next _
      have e5 : d * 4 + 1 + 1 ≤ gc * 4 := by omega
      simp [hi, g33, g34, h5, hb3, e1, e2, e3, q2, hfr.one, hd4, hd5, hd6, hw1, hgb, c5, m1, m2, t1, t2, t3, c6, e5, hgc, zerN, -appS_some]
      have hC1 : encN ⟨xk, xf, xt, ((d + 1 : Nat) : Int)⟩ = [.int .u8 xk, .int .i64 xf, .int .i64 xt, .int .i64 ((d : Int) + 1)] := by simp [encN]
      have hset : (c.set (d * 4 + 1) (.int .i64 xt)).take ((d + 1) * 4) = encsN (C.take d ++ [⟨pk, xt, pt, pd⟩]) := by
        have := SlC.set c7 hd3 xt
        rw [hp] at this; exact this
      refine SlC.app (B := h.next) (cs := encsN (C.take d ++ [⟨pk, xt, pt, pd⟩])) ⟨g, gc, c.set (d * 4 + 1) (.int .i64 xt), rfl, hd4, c3, by simp; omega, by simp [hgb, show ¬ g = h3.next + 1 by omega], by simp [c6], hset⟩ (by simp) (by have := hfr.next; simp; omega) (by rfl) (by decide) (by decide) (by rfl) (by omega) (by decide) (.inl rfl) ?_
      intro v' h' sl fr' _ _ _
      have hw2 : IntKind.i64.wrap ((k : Int) + 1) = ((k + 1 : Nat) : Int) := wrap_succ (by omega)
      simp [hi, fr'.one, hw2]
      have hfr' : Fr h.next h h' := ((((hfr.nw hfr.next _).put hfr.next _).put c3 _).nw (by have := hfr.next; simp; omega) _).trans fr'
      have hlen : (C.take d ++ [(⟨pk, xt, pt, pd⟩ : Nd), ⟨xk, xf, xt, ((d + 1 : Nat) : Int)⟩]).length = d + 1 + 1 := by simp; omega
      have hcs : encsN (C.take d ++ [(⟨pk, xt, pt, pd⟩ : Nd), ⟨xk, xf, xt, ((d + 1 : Nat) : Int)⟩]) = encsN (C.take d ++ [⟨pk, xt, pt, pd⟩]) ++ [.int .u8 xk, .int .i64 xf, .int .i64 xt, .int .i64 ((d : Int) + 1)] := by
        rw [← hC1]; simp
      refine ⟨k + 1, by omega, by omega, rfl, C.take d ++ [⟨pk, xt, pt, pd⟩, ⟨xk, xf, xt, ((d + 1 : Nat) : Int)⟩], by rw [hcs, hlen]; exact sl, ?_, by omega, by omega, hfr'⟩
      rw [← he, he1, hS, if_pos (by omega)]
    · have hc2 : chk l n = true := by
        rw [hc, List.drop_one, ← he, List.drop_eq_nil_of_le (by omega)]; rfl
      have e1 : ¬ k < l.length - 1 := by omega
      simp [hi, g33, g34, h5, e1, hfr.one, hc2]
      exact hfr
  · have hc : chk l n = false := by rw [chk_pos hl1]; simp [hr0]
    simp [Tryd.f22, h1, hn0, hn1, a3, q0, b0, hl0, hl1, hl2, -eqD_succ, eq_root, hr0, hc, Fr.refl h1]
end Go.Dm
