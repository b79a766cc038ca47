/- The stack of openers. -/
import Derived.Test.YthclahlplcfdpaaGreatDoorMdAa
set_option linter.unusedVariables false
set_option linter.unusedSimpArgs false
namespace Go.Dm
open Go.Proofs
def opC (x : Opn) : List Value := [.int .i64 x.f, .int .i64 x.o, .bool x.img, .bool x.bar]
def encO (l : List Opn) : List Value := l.flatMap opC
theorem encO_len : ∀ l : List Opn, (encO l).length = l.length * 4
  | [] => rfl
  | x :: l => by
    have := encO_len l
    show (opC x ++ encO l).length = _
    rw [List.length_append, this]
    simp [opC]
    omega
theorem encO_app (l m : List Opn) : encO (l ++ m) = encO l ++ encO m := by simp [encO]
/-- A row of own cells, or none yet. -/
def Row (n B : Nat) (h : H) (v : Value) (cs : List Value) (len : Nat) : Prop := (v = .slice none 0 0 ∧ cs = [] ∧ len = 0) ∨ SlC none n B h v cs len
theorem Row.of_get {n B : Nat} {h h' : H} {v : Value} {cs : List Value} {len : Nat} (s : Row n B h v cs len) (hn : h.next ≤ h'.next) (hg : ∀ g x y, v = .slice (some ⟨g, 0, none⟩) x y → h'.get g = h.get g) : Row n B h' v cs len := by
  rcases s with s | ⟨g, cap, c, a1, a2, a3, a4, a5, a6, a7⟩
  · exact .inl s
  · exact .inr ⟨g, cap, c, a1, a2, a3, by omega, (hg g _ _ a1).trans a5, a6, a7⟩
theorem Row.sl {n B : Nat} {h : H} {v : Value} {cs : List Value} {len : Nat} (s : Row n B h v cs len) : ∃ a c, v = .slice a len c := by
  rcases s with ⟨a, b, rfl⟩ | ⟨g, cap, c, a1, _⟩
  · exact ⟨_, _, a⟩
  · exact ⟨_, _, a1⟩
/-- The blocks a row's change leaves alone. -/
structure Kp (ob : Nat) (v v' : Value) (h h' : H) : Prop where
  one : h'.one = []
  next : h.next ≤ h'.next
  get : ∀ b, b < h.next → b ≠ ob → (∀ g x y, v = .slice (some ⟨g, 0, none⟩) x y → g ≠ b) → h'.get b = h.get b
  blk : ∀ g x y, v' = .slice (some ⟨g, 0, none⟩) x y → (∃ x y, v = .slice (some ⟨g, 0, none⟩) x y) ∨ h.next ≤ g
theorem Row.app {n B : Nat} {h : H} {v : Value} {cs : List Value} {len : Nat} (s : Row n B h v cs len) (h1 : h.one = []) (hB : B ≤ h.next) {elem : TypeId} {ty0 : Option TypeId} {by' : Nat} {xs : List Value} (hx : xs.length = n) (hn : 0 < n)
    (hc : xs.all cellV = true) (hl : (len + 1) * (by' + 1) ≤ 2 ^ 44) (hb : by' ≤ 2 ^ 32) (ht0 : ty0 = none) {K : VPost} (hK : ∀ v' h', SlC none n B h' v' (cs ++ xs) (len + 1) → Fr B h h' → (∀ b, b < h.next → (∀ g x y, v = .slice (some ⟨g, 0, none⟩) x y → g ≠ b) → h'.get b = h.get b) → (∀ g x y, v' = .slice (some ⟨g, 0, none⟩) x y → (∃ x y, v = .slice (some ⟨g, 0, none⟩) x y) ∨ h.next ≤ g) → K v' h') : OptW (appS ty0 elem n by' v 1 xs h) K := by
  subst ht0
  rcases s with ⟨rfl, rfl, rfl⟩ | s
  · have hadr : h.addr = h.next := addr_one h h1
    rw [appS_nil, if_neg (by decide), if_pos ⟨by simpa using hl, hb⟩, OptW.some, hadr, new_one h _ h1]
    refine hK _ _ ⟨h.next, 1, xs, by simp, Nat.le_refl _, hB, by simp, by simp, by omega, by rw [List.nil_append]; exact List.take_of_length_le (by omega)⟩ ((Fr.refl h1).nw hB _) (fun b hb _ => by rw [get_nw, if_neg (by omega)]) (fun g x y e => by cases e; exact .inr (Nat.le_refl _))
  · refine SlC.app s h1 hB (k := 1) (by omega) (by decide) hn hc hl hb (.inl rfl) ?_
    intro v' h' q1 q2 q3 q4 q5
    exact hK v' h' q1 q2 q4 fun g x y e => (q5 g x y e).imp id fun z => by omega
theorem cells_two {n k : Nat} {c a b : List Value} (e : c.take ((n + 1) * k) = a ++ b) (ha : a.length = n * k) (hb : b.length = k) : c.take (n * k) = a ∧ (c.drop (n * k)).take k = b := by
  have hk : (n + 1) * k = n * k + k := by rw [Nat.add_mul, Nat.one_mul]
  constructor
  · have e1 := congrArg (List.take (n * k)) e
    rw [List.take_take, Nat.min_eq_left (by omega)] at e1
    rw [e1, ← ha, List.take_left]
  · have e1 := congrArg (List.drop (n * k)) e
    rw [List.drop_take, show (n + 1) * k - n * k = k by omega] at e1
    rw [e1, ← ha, List.drop_left]
section
variable {h : H}
theorem push_sp (ob B : Nat) (v : Value) (op : List Opn) (x : Opn) (hl : op.length < 2 ^ 31) (h1 : h.one = []) (ho : h.get ob = some (.cells [v] 0 true 0 none)) (hob : ob < B) (hB : B ≤ h.next) (s : Row 4 B h v (encO op) op.length) :
    CallW E0 X0 (.fn 32) [.pointer (some ⟨ob, 0, none⟩), opV x] h (fun r h' => r = .tuple #[] ∧ ∃ v', h'.get ob = some (.cells [v'] 0 true 0 none) ∧ SlC none 4 B h' v' (encO (op ++ [x])) (op ++ [x]).length ∧ Kp ob v v' h h') := by
  refine CallW.body efn32 rfl rfl rfl [] (by kernel_rfl) ?_
  obtain ⟨a, cp, rfl⟩ := s.sl
  have hon : ¬ ob = h.next := by omega
  simp [-wpd_seq, Tryz.f32, h1, opV]
  (repeat rw [wpd_seq]); simp [-wpd_seq, h1]
  (repeat rw [wpd_seq]); simp [-wpd_seq, h1, ho, hon, zerosD, List.range, List.range.loop]
  obtain ⟨h2, hh2⟩ : ∃ h2, h2 = (h.nw (.cells [.int .i64 x.f, .int .i64 x.o, .bool x.img, .bool x.bar] 0 true 0 none)).nw (.cells [.int .i64 x.f, .int .i64 x.o, .bool x.img, .bool x.bar] 4 true 0 none) := ⟨_, rfl⟩
  rw [← hh2]
  have hF2 : Fr h.next h h2 := by rw [hh2]; exact ((Fr.refl h1).nw (Nat.le_refl _) _).nw (by simp) _
  clear hh2
  have hn2 := hF2.next
  have hrow : ∀ g x y, Value.slice a op.length cp = .slice (some ⟨g, 0, none⟩) x y → B ≤ g ∧ g < h.next := by
    intro g x y e
    cases e
    rcases s with ⟨e, _⟩ | ⟨g', cap, c, a1, a2, a3, a4, _⟩
    · cases e
    · cases a1; exact ⟨a3, a4⟩
  have s2 : Row 4 B h2 (.slice a op.length cp) (encO op) op.length := s.of_get hn2 fun g x y e => hF2.get g (hrow g x y e).2
  refine Row.app s2 hF2.one (by omega) rfl (by decide) (by rfl) (by omega) (by decide) rfl ?_
  intro v' h3 q1 q2 q3 q4
  have ho3 : h3.get ob = some (.cells [.slice a op.length cp] 0 true 0 none) := by
    rw [q3 ob (by omega) fun g x y e => by have := (hrow g x y e).1; omega, hF2.get ob (by omega)]
    exact ho
  obtain ⟨g3, cap3, c3, rfl, p2, p3, p4, p5, p6, p7⟩ := q1
  have hg3 : ¬ g3 = ob := by omega
  have hn3 := q2.next
  simp [q2.one, ho3, hon]
  refine ⟨⟨g3, cap3, c3, rfl, p2, p3, by simpa using p4, by rw [H.get_put, if_neg hg3]; exact p5, p6, by rw [p7, encO_app]; rfl⟩, ⟨q2.one, by simp; omega, fun b hb hb1 hb2 => ?_, fun g x y e => (q4 g x y e).imp id fun z => by omega⟩⟩
  rw [H.get_put, if_neg hb1, q3 b (by omega) hb2, hF2.get b hb]
theorem pop_none (ob : Nat) (v : Value) (h1 : h.one = []) (ho : h.get ob = some (.cells [v] 0 true 0 none)) (hob : ob < h.next) (hv : ∃ a c, v = .slice a 0 c) :
    CallW E0 X0 (.fn 33) [.pointer (some ⟨ob, 0, none⟩)] h (fun r h' => r = .tuple #[opV ⟨0, 0, false, false⟩, .bool false] ∧ Fr h.next h h') := by
  refine CallW.body efn33 rfl rfl rfl [] (by kernel_rfl) ?_
  obtain ⟨a, cp, rfl⟩ := hv
  have hon : ¬ ob = h.next := by omega
  have hon1 : ¬ ob = h.next + 1 := by omega
  simp [Tryz.f33, h1, ho, hon, hon1, opV]
  exact (((Fr.refl h1).nw (Nat.le_refl _) _).nw (by simp) _).put (Nat.le_refl _) _
theorem pop_some (ob B : Nat) (v : Value) (op : List Opn) (x : Opn) (hl : op.length < 2 ^ 31) (h1 : h.one = []) (ho : h.get ob = some (.cells [v] 0 true 0 none)) (hob : ob < B) (hB : B ≤ h.next) (s : SlC none 4 B h v (encO (op ++ [x])) (op ++ [x]).length) :
    CallW E0 X0 (.fn 33) [.pointer (some ⟨ob, 0, none⟩)] h (fun r h' => r = .tuple #[opV x, .bool true] ∧ ∃ v', h'.get ob = some (.cells [v'] 0 true 0 none) ∧ SlC none 4 B h' v' (encO op) op.length ∧ (∃ g y z, v = .slice (some ⟨g, 0, none⟩) y z ∧ v' = .slice (some ⟨g, 0, none⟩) op.length z) ∧ h'.one = [] ∧ h.next ≤ h'.next ∧ ∀ b, b < h.next → b ≠ ob → h'.get b = h.get b) := by
  refine CallW.body efn33 rfl rfl rfl [] (by kernel_rfl) ?_
  obtain ⟨g, cap, c, rfl, a2, a3, a4, a5, a6, a7⟩ := s
  have hon : ¬ ob = h.next := by omega
  have hon1 : ¬ ob = h.next + 1 := by omega
  have hll : (op ++ [x]).length = op.length + 1 := by simp
  rw [hll] at a2 a7 ⊢
  have w1 : IntKind.i64.wrap ((op.length : Int) + 1 - 1) = (op.length : Int) := by rw [wrap_i64 (by omega) (by omega)]; omega
  simp [-wpd_seq, Tryz.f33, h1, opV]
  (repeat rw [wpd_seq]); simp [-wpd_seq, h1]
  (repeat rw [wpd_seq]); simp [-wpd_seq, h1, ho, hon, hon1]
  have e1 : ¬ (op.length : Int) + 1 = 0 := by omega
  have hgo : ¬ ob = g := by omega
  have hgn : ¬ g = h.next := by omega
  have hgn1 : ¬ g = h.next + 1 := by omega
  have hx1 : op.length < op.length + 1 := by omega
  (repeat rw [wpd_seq]); simp [-wpd_seq, h1, ho, hon, hon1, w1, e1]
  have w0 : IntKind.i64.wrap (op.length : Int) = (op.length : Int) := wrap_i64 (by omega) (by omega)
  have hcl : op.length * 4 + 4 ≤ c.length := by rw [a6]; have := Nat.mul_le_mul_right 4 a2; omega
  rw [encO_app] at a7
  obtain ⟨htk, hdt'⟩ := cells_two (n := op.length) (k := 4) a7 (encO_len op) rfl
  have hdt : List.take 4 (List.drop (op.length * 4) c) = [.int .i64 x.f, .int .i64 x.o, .bool x.img, .bool x.bar] := hdt'
  have b0 : (0 : Int) ≤ op.length := by omega
  have b1 : (op.length : Int) < (op.length : Int) + 1 := by omega
  have b2 : (op.length : Int) ≤ cap := by omega
  have b3 : op.length ≤ cap := by omega
  (repeat rw [wpd_seq]); simp [-wpd_seq, h1, ho, hon, hon1, w0, hgn, hgn1, a5, hcl, hdt, b0, b1]
  (repeat rw [wpd_seq]); simp [-wpd_seq, h1, ho, hon, hon1, w0, hgn, hgn1, a5, a6, b0, b2, b3]
  have hno : ¬ h.next = ob := by omega
  have hno1 : ¬ h.next + 1 = ob := by omega
  simp [h1, hon, hon1, hno, hno1]
  have hgob : ¬ g = ob := by omega
  refine ⟨⟨g, cap, c, rfl, b3, a3, by simp; omega, by simp [hgn, hgn1, hgob]; exact a5, a6, htk⟩, fun b hb hb1 => ?_⟩
  rw [if_neg (by omega), if_neg hb1, if_neg (by omega), if_neg (by omega), if_neg (by omega)]
end
end Go.Dm
