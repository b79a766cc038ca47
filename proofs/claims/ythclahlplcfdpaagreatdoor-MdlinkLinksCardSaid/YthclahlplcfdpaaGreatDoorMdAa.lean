/- A reader of links: a label, and where a link ends. -/
import Derived.Test.YthclahlplcfdpaaGreatDoorMdU
set_option linter.unusedVariables false
set_option linter.unusedSimpArgs false
namespace Go.Dm
open Go.Proofs
def knV (b : Bool) : Value := .agg #[.bool b]
/-- Block r is a reader; block m is its map. -/
structure RdOk (h : H) (r m : Nat) (s : List UInt8) (kn : List UInt8 → Bool) : Prop where
  blk : h.get r = some (.cells [str s, .map (some m)] 0 true 0 none)
  mp : MapAt str h m (fun k => if kn k = true then some (knV true) else none)
  rl : r < h.next
  ml : m < h.next
theorem RdOk.fr {h h' : H} {r m : Nat} {s : List UInt8} {kn : List UInt8 → Bool} (d : RdOk h r m s kn) {B : Nat} (f : Fr B h h') (hr : r < B) (hm : m < B) : RdOk h' r m s kn :=
  ⟨(f.get r hr).trans d.blk, d.mp.of_get (f.get m hm), Nat.lt_of_lt_of_le d.rl f.next, Nat.lt_of_lt_of_le d.ml f.next⟩
def labV (s : List UInt8) (kn : List UInt8 → Bool) (a : Nat) : Value := match rdL (s.drop a) with
  | none => .tuple #[.int .i64 0, .bool false, .bool false]
  | some n => .tuple #[.int .i64 ((a + n : Nat) : Int), .bool (kn (lab (s.drop a) n)), .bool true]
section
variable {h : H}
theorem look_kn {m : Nat} {kn : List UInt8 → Bool} (d : MapAt str h m (fun k => if kn k = true then some (knV true) else none)) (x : List UInt8) : lookupD E0 52 (.map (some m)) (str x) false h = some (knV (kn x)) := by
  have := lookup_at ko_str und52 zer56 d x false
  rw [this]
  cases kn x <;> rfl
set_option maxRecDepth 100000 in
set_option maxHeartbeats 4000000 in
theorem label_sp (s : List UInt8) (hs : s.length < 2 ^ 31) (hn : 10 ∉ s) (kn : List UInt8 → Bool) (r m a : Nat) (h1 : h.one = []) (g : GmH h) (d : RdOk h r m s kn) :
    CallW E0 X0 (.fn 68) [.pointer (some ⟨r, 0, none⟩), .int .i64 a] h (fun v h' => v = labV s kn a ∧ Fr h.next h h') := by
  refine CallW.body efn68 rfl rfl rfl [4] (by kernel_rfl) ?_
  have hr := d.blk
  simp [-wpd_seq, Tryz.f68, h1]
  (repeat rw [wpd_seq]); simp [-wpd_seq, h1, hr]
  (repeat rw [wpd_seq]); simp [-wpd_seq, h1, hr]
  refine (Read_sp s hs hn a h1 g).mono ?_
  rintro _ h2 ⟨rfl, hF⟩
  have h21 := hF.one
  have d2 := d.fr hF d.rl d.ml
  have hr2 := d2.blk
  unfold labV
  cases hrd : rdL (s.drop a) with
  | none => simp [nOk, h21, hF]
  | some n =>
    have hle := rdL_le hrd
    simp at hle
    have w1 : IntKind.i64.wrap ((a : Int) + 1) = (a : Int) + 1 := wrap_succ (by omega)
    have w2 : IntKind.i64.wrap ((a : Int) + n - 1) = (a : Int) + n - 1 := wrap_i64 (by omega) (by omega)
    have b1 : (a : Int) + 1 ≤ (a : Int) + n - 1 := by omega
    have b2 : (a : Int) + n - 1 ≤ s.length := by omega
    have b3 : (0 : Int) ≤ (a : Int) + 1 := by omega
    have b4 : ((a : Int) + n - 1).toNat = a + n - 1 := by omega
    have hlab : List.drop (a + 1) (List.take (a + n - 1) s) = (List.take (n - 1) (s.drop a)).drop 1 := by
      rw [List.take_drop, List.drop_drop]
      congr 2
      omega
    simp [-wpd_seq, nOk, h21]
    (repeat rw [wpd_seq]); simp [-wpd_seq, h21, hr2]
    have hfl : CallW E0 X0 (.fn 41) [str (List.drop (a + 1) (List.take (a + n - 1) s))] h2 (fun v h' => v = str (lab (s.drop a) n) ∧ Fr h2.next h2 h' ∧ h'.next ≤ h2.next + 2) := by
      rw [hlab]
      exact Fold_sp _ (by simp; omega) h21
    have b5 : a + 1 ≤ a + n - 1 := by omega
    have b7 : (1 : Int) ≤ (a : Int) + n := by omega
    have b6 : a + n - 1 ≤ s.length := by omega
    (repeat rw [wpd_seq])
    simp [-wpd_seq, -lookupD_eq]
    refine ⟨laxW_of [(4, 20)] (by kernel_rfl) ?_, ?_⟩
    · simp [LaxP, -lookupD_eq, h21, hr2, w1, w2, b1, b2, b3, b4, b5, b6, b7]
      refine hfl.mono ?_
      rintro _ h3 ⟨rfl, hF3, hn3⟩
      have d3 := d2.fr hF3 d2.rl d2.ml
      have hr3 := d3.blk
      have hlk := look_kn d3.mp (lab (s.drop a) n)
      simp [-lookupD_eq, hF3.one, hlk, knV, hr2, hr3, LaxG_load, eqv, eqv0]
    · simp [-lookupD_eq, h21, hr2, w1, w2, b1, b2, b3, b4, b5, b6, b7]
      refine hfl.mono ?_
      rintro _ h3 ⟨rfl, hF3, hn3⟩
      have d3 := d2.fr hF3 d2.rl d2.ml
      have hlk := look_kn d3.mp (lab (s.drop a) n)
      simp [-lookupD_eq, hF3.one, hlk, knV]
      exact hF.trans (hF3.mono hF.next)
/-- An opener, as a struct. -/
def opV (x : Opn) : Value := .agg #[.int .i64 x.f, .int .i64 x.o, .bool x.img, .bool x.bar]
set_option maxRecDepth 100000 in
set_option maxHeartbeats 4000000 in
theorem ends_sp (s : List UInt8) (hs : s.length < 2 ^ 31) (hn : 10 ∉ s) (kn : List UInt8 → Bool) (r m k : Nat) (x : Opn) (hx : 1 ≤ x.o) (hxl : x.o ≤ s.length) (hk : k < s.length) (h1 : h.one = []) (g : GmH h) (d : RdOk h r m s kn) :
    CallW E0 X0 (.fn 34) [.pointer (some ⟨r, 0, none⟩), opV x, .int .i64 k] h (fun v h' => (∃ z : Int, v = .tuple #[.int .i64 z, .bool (endL kn s x.o k).isSome] ∧ ∀ e, endL kn s x.o k = some e → z = e) ∧ Fr h.next h h') := by
  refine CallW.body efn34 rfl rfl rfl [] (by kernel_rfl) ?_
  have wk : IntKind.i64.wrap ((k : Int) + 1) = ((k + 1 : Nat) : Int) := by rw [wrap_i64 (by omega) (by omega)]; omega
  have hrh : ¬ r = h.next := by have := d.rl; omega
  have hrb := d.blk
  simp [-wpd_seq, Tryz.f34, h1, opV]
  (repeat rw [wpd_seq]); simp [-wpd_seq, h1]
  obtain ⟨h2, hh2⟩ : ∃ h2, h2 = h.nw (.cells [.int .i64 x.f, .int .i64 x.o, .bool x.img, .bool x.bar] 0 true 0 none) := ⟨_, rfl⟩
  rw [← hh2]
  have hF2 : Fr h.next h h2 := by rw [hh2]; exact (Fr.refl h1).nw (Nat.le_refl _) _
  have hx2 : h2.get h.next = some (.cells [.int .i64 x.f, .int .i64 x.o, .bool x.img, .bool x.bar] 0 true 0 none) := by rw [hh2]; simp
  have hn2 : h2.next = h.next + 1 := by rw [hh2]; simp
  clear hh2
  have h21 := hF2.one
  have d2 := d.fr hF2 d.rl d.ml
  have g2 := GmH.fr g hF2 g.2
  have hr2 := d2.blk
  (repeat rw [wpd_seq]); simp [-wpd_seq, h21, wk]
  (repeat rw [wpd_seq]); simp [-wpd_seq, h21, hr2]
  refine (Target_sp s hs ((k + 1 : Nat) : Int) s.length h21 g2).mono ?_ |> fun x => by simpa using x
  rintro _ h3 ⟨rfl, hF3⟩
  have ht : tgO (pE s s.length) ((k + 1 : Nat) : Int) = nOk (tgL (s.drop (k + 1))) (k + 1) := by
    rw [pE_self hn]
    unfold tgO
    rw [if_neg (by omega), Int.toNat_natCast]
  have h31 := hF3.one
  have hF03 := hF2.trans (hF3.mono (by omega))
  have d3 := d2.fr hF3 d2.rl d2.ml
  have g3 := GmH.fr g2 hF3 g2.2
  have hx3 := (hF3.get h.next (by omega)).trans hx2
  have hr3 := d3.blk
  rw [ht]
  unfold endL
  cases htg : tgL (s.drop (k + 1)) with
  | some n =>
    simp [nOk, h31, hF03]
    try omega
  | none =>
    simp [-wpd_seq, nOk, h31]
    (repeat rw [wpd_seq]); simp [-wpd_seq, h31]
    (repeat rw [wpd_seq]); simp [-wpd_seq, h31]
    refine (label_sp s hs hn kn r m (k + 1) h31 g3 d3).mono ?_ |> fun x => by simpa using x
    rintro _ h4 ⟨rfl, hF4⟩
    have h41 := hF4.one
    have hn3 := hF3.next
    have hF04 := hF03.trans (hF4.mono (by omega))
    have d4 := d3.fr hF4 d3.rl d3.ml
    have g4 := GmH.fr g3 hF4 g3.2
    have hx4 := (hF4.get h.next (by omega)).trans hx3
    have hr4 := d4.blk
    unfold labV
    cases hrd : rdL (s.drop (k + 1)) with
    | some n =>
      simp [h41, hF04]
      exact ⟨_, ⟨rfl, by cases kn (lab (s.drop (k + 1)) n) <;> rfl⟩, fun _ => rfl⟩
    | none =>
      have hkl : (k : Int) + 1 ≤ s.length := by omega
      have hkl2 : k + 1 ≤ s.length := by omega
      simp [-wpd_seq, h41]
      (repeat rw [wpd_seq]); simp [-wpd_seq, h41]
      (repeat rw [wpd_seq]); simp [-wpd_seq, h41, hr4, hkl, hkl2]
      refine (HasPrefix_sp (s.drop (k + 1)) [91, 93]).mono ?_
      rintro _ h5 ⟨rfl, rfl⟩
      have wo : IntKind.i64.wrap ((x.o : Int) - 1) = ((x.o - 1 : Nat) : Int) := wrap_pred hx (by omega)
      have wk1 : IntKind.i64.wrap ((k : Int) + 1) = (k : Int) + 1 := wrap_succ (by omega)
      have wk2 : IntKind.i64.wrap ((k : Int) + 1 + 2) = (k : Int) + 1 + 2 := by rw [wrap_i64 (by omega) (by omega)]
      have fin : ∀ (z : Int) (pf : Bool), (z = if pf = true then (k : Int) + 1 + 2 else (k : Int) + 1) → Lib.hasPrefix (s.drop (k + 1)) [91, 93] = pf → ∀ (fr : T Value) (K : VPost), True := fun _ _ _ _ _ _ => trivial
      cases hpf : Lib.hasPrefix (s.drop (k + 1)) [91, 93] with
      | true =>
        simp [-wpd_seq, h41, wk2]
        (repeat rw [wpd_seq]); simp [-wpd_seq, h41, hx4, wo]
        refine (label_sp s hs hn kn r m (x.o - 1) h41 g4 d4).mono ?_
        rintro _ h6 ⟨rfl, hF6⟩
        have hF06 := hF04.trans (hF6.mono (by have := hF4.next; omega))
        unfold labV
        cases hro : rdL (s.drop (x.o - 1)) with
        | none => simp [hF6.one, hF06]
        | some n =>
          cases hkn : kn (lab (s.drop (x.o - 1)) n) with
          | false => simp [hF6.one, hF06, hkn]
          | true =>
            by_cases q : x.o - 1 + n = k + 1
            · have q' : (((x.o - 1 : Nat) : Int) + n) = (k : Int) + 1 := by omega
              simp [hF6.one, hF06, hkn, wk1, eq_true q, eq_true q']
              try omega
            · have q' : ¬ (((x.o - 1 : Nat) : Int) + n) = (k : Int) + 1 := by omega
              simp [hF6.one, hF06, hkn, wk1, q, q']
      | false =>
        simp [-wpd_seq, h41]
        (repeat rw [wpd_seq]); simp [-wpd_seq, h41, hx4, wo]
        refine (label_sp s hs hn kn r m (x.o - 1) h41 g4 d4).mono ?_
        rintro _ h6 ⟨rfl, hF6⟩
        have hF06 := hF04.trans (hF6.mono (by have := hF4.next; omega))
        unfold labV
        cases hro : rdL (s.drop (x.o - 1)) with
        | none => simp [hF6.one, hF06]
        | some n =>
          cases hkn : kn (lab (s.drop (x.o - 1)) n) with
          | false => simp [hF6.one, hF06, hkn]
          | true =>
            by_cases q : x.o - 1 + n = k + 1
            · have q' : (((x.o - 1 : Nat) : Int) + n) = (k : Int) + 1 := by omega
              simp [hF6.one, hF06, hkn, wk1, eq_true q, eq_true q']
            · have q' : ¬ (((x.o - 1 : Nat) : Int) + n) = (k : Int) + 1 := by omega
              simp [hF6.one, hF06, hkn, wk1, q, q']
end
end Go.Dm
