/- The machine D, 34: slices that a call builds by append. -/
import Derived.Test.YtpanpicbikihkaaDoorDLax
set_option linter.unusedVariables false
set_option linter.unusedSimpArgs false
namespace Go.Dm
/-- A slice of the call's own: nil and empty, or a row of its own from block B on. -/
def SlG (ty : Option TypeId) (n B : Nat) (h : H) (v : Value) (cs : List Value) (len : Nat) : Prop :=
  (len = 0 ∧ v = .slice none 0 0 ∧ cs = []) ∨ (0 < len ∧ cs.length = len * n ∧ ∃ g, B ≤ g ∧ g < h.next ∧ v = .slice (some ⟨g, 0, none⟩) len len ∧ h.get g = some (.cells cs n true 0 ty))
theorem SlG.nil (ty : Option TypeId) (n B : Nat) (h : H) : SlG ty n B h (.slice none 0 0) [] 0 := .inl ⟨rfl, rfl, rfl⟩
theorem SlG.of_get {ty : Option TypeId} {n B : Nat} {h h' : H} {v : Value} {cs : List Value} {len : Nat} (s : SlG ty n B h v cs len) (hn : h.next ≤ h'.next) (hg : ∀ g, B ≤ g → g < h.next → h'.get g = h.get g) : SlG ty n B h' v cs len := by
  rcases s with s | ⟨s1, s2, g, s3, s4, s5, s6⟩
  · exact .inl s
  · exact .inr ⟨s1, s2, g, s3, by omega, s5, (hg g s3 s4).trans s6⟩
theorem SlG.nw {ty : Option TypeId} {n B : Nat} {h : H} {v : Value} {cs : List Value} {len : Nat} (s : SlG ty n B h v cs len) (o : DObj) : SlG ty n B (h.nw o) v cs len :=
  s.of_get (by simp) fun g _ hg => by rw [get_nw, if_neg (by omega)]
theorem SlG.put {ty : Option TypeId} {n B : Nat} {h : H} {v : Value} {cs : List Value} {len : Nat} (s : SlG ty n B h v cs len) {b : Nat} (hb : b < B) (o : DObj) : SlG ty n B (h.put b o) v cs len :=
  s.of_get (by simp) fun g hg _ => by rw [H.get_put, if_neg (by omega)]
theorem SlG.cs_len {ty : Option TypeId} {n B : Nat} {h : H} {v : Value} {cs : List Value} {len : Nat} (s : SlG ty n B h v cs len) : cs.length = len * n := by
  rcases s with ⟨rfl, _, rfl⟩ | ⟨_, s2, _⟩
  · simp
  · exact s2
theorem SlG.slice {ty : Option TypeId} {n B : Nat} {h : H} {v : Value} {cs : List Value} {len : Nat} (s : SlG ty n B h v cs len) : ∃ a, v = .slice a len len := by
  rcases s with ⟨rfl, rfl, _⟩ | ⟨_, _, g, _, _, rfl, _⟩ <;> exact ⟨_, rfl⟩
/-- k elements are appended; all blocks but the slice's stay. -/
theorem SlG.app2 {ty : Option TypeId} {elem : TypeId} {n B : Nat} {h : H} {v : Value} {cs : List Value} {len : Nat} (s : SlG ty n B h v cs len) (h1 : h.one = []) (hB : B ≤ h.next) {k by' : Nat} {xs : List Value} (hx : xs.length = k * n) (hn : 0 < n)
    (hc : xs.all cellV = true) (hl : (len + k) * (by' + 1) ≤ 2 ^ 44) (hb : by' ≤ 2 ^ 32) (ht : ty = none ∨ ty = some elem) {K : VPost} (hK : ∀ v' h', SlG ty n B h' v' (cs ++ xs) (len + k) → Fr B h h' → (∀ b, b < h.next → (∀ g x y, v = .slice (some ⟨g, 0, none⟩) x y → g ≠ b) → h'.get b = h.get b) → K v' h') : OptW (appS ty elem n by' v k xs h) K := by
  by_cases hk : k = 0
  · subst hk
    have hxs : xs = [] := List.eq_nil_of_length_eq_zero (by simpa using hx)
    subst hxs
    have hr : OptW (appS ty elem n by' v 0 [] h) K = K v h := by
      rcases s with ⟨_, rfl, _⟩ | ⟨_, _, g, _, _, rfl, _⟩
      · rw [appS_nil, if_pos rfl, OptW.some]
      · rw [appS_some, if_pos rfl, OptW.some]
    rw [hr]
    exact hK v h (by simpa using s) (Fr.refl h1) (fun _ _ _ => rfl)
  · have hadr : h.addr = h.next := addr_one h h1
    rcases s with ⟨rfl, rfl, rfl⟩ | ⟨s1, s2, g, s3, s4, rfl, s6⟩
    · have hb2 : k * (by' + 1) ≤ 2 ^ 44 := by simpa using hl
      rw [appS_nil, if_neg hk, if_pos ⟨hb2, hb⟩, OptW.some, hadr, new_one h _ h1]
      refine hK _ _ (.inr ⟨by omega, by simpa using hx, h.next, hB, by simp, by simp, by simp⟩) ((Fr.refl h1).nw hB _) (fun b hb _ => by rw [get_nw, if_neg (by omega)])
    · have e1 : ¬ len + k ≤ len := by omega
      rw [appS_some, if_neg hk, if_neg e1, if_pos ⟨hl, hb, hc⟩, s6, growC_some]
      have e2 : n = n ∧ 0 + len * n ≤ cs.length ∧ 0 ≤ 0 + len * n ∧ (ty = none ∨ ty = some elem ∧ 0 = 0) := ⟨rfl, by omega, by omega, ht.imp id fun x => ⟨x, rfl⟩⟩
      have e3 : (cs.drop 0).take (len * n) = cs := by rw [List.drop_zero, ← s2, List.take_length]
      have h2 : (h.drop g).one = [] := h1
      rw [if_pos e2, OptW.some, e3, hadr, new_one _ _ h2]
      refine hK _ _ (.inr ⟨by omega, ?_, h.next, hB, by simp, by simp, by simp⟩) (((Fr.refl h1).drop s3).nw (by simpa using hB) _) (fun b hb hne => by
        have e5 : b ≠ g := fun e => hne g len len rfl e.symm
        rw [get_nw, if_neg (by simp; omega), H.get_drop, if_neg e5])
      rw [List.length_append, s2, hx, Nat.add_mul]
/-- k elements are appended. -/
theorem SlG.app {ty : Option TypeId} {elem : TypeId} {n B : Nat} {h : H} {v : Value} {cs : List Value} {len : Nat} (s : SlG ty n B h v cs len) (h1 : h.one = []) (hB : B ≤ h.next) {k by' : Nat} {xs : List Value} (hx : xs.length = k * n) (hn : 0 < n)
    (hc : xs.all cellV = true) (hl : (len + k) * (by' + 1) ≤ 2 ^ 44) (hb : by' ≤ 2 ^ 32) (ht : ty = none ∨ ty = some elem) {K : VPost} (hK : ∀ v' h', SlG ty n B h' v' (cs ++ xs) (len + k) → Fr B h h' → K v' h') : OptW (appS ty elem n by' v k xs h) K := by
  by_cases hk : k = 0
  · subst hk
    have hxs : xs = [] := List.eq_nil_of_length_eq_zero (by simpa using hx)
    subst hxs
    have hr : OptW (appS ty elem n by' v 0 [] h) K = K v h := by
      rcases s with ⟨_, rfl, _⟩ | ⟨_, _, g, _, _, rfl, _⟩
      · rw [appS_nil, if_pos rfl, OptW.some]
      · rw [appS_some, if_pos rfl, OptW.some]
    rw [hr]
    exact hK v h (by simpa using s) (Fr.refl h1)
  · have hadr : h.addr = h.next := addr_one h h1
    rcases s with ⟨rfl, rfl, rfl⟩ | ⟨s1, s2, g, s3, s4, rfl, s6⟩
    · have hb2 : k * (by' + 1) ≤ 2 ^ 44 := by simpa using hl
      rw [appS_nil, if_neg hk, if_pos ⟨hb2, hb⟩, OptW.some, hadr, new_one h _ h1]
      refine hK _ _ (.inr ⟨by omega, by simpa using hx, h.next, hB, by simp, by simp, by simp⟩) ((Fr.refl h1).nw hB _)
    · have e1 : ¬ len + k ≤ len := by omega
      rw [appS_some, if_neg hk, if_neg e1, if_pos ⟨hl, hb, hc⟩, s6, growC_some]
      have e2 : n = n ∧ 0 + len * n ≤ cs.length ∧ 0 ≤ 0 + len * n ∧ (ty = none ∨ ty = some elem ∧ 0 = 0) := ⟨rfl, by omega, by omega, ht.imp id fun x => ⟨x, rfl⟩⟩
      have e3 : (cs.drop 0).take (len * n) = cs := by rw [List.drop_zero, ← s2, List.take_length]
      have h2 : (h.drop g).one = [] := h1
      rw [if_pos e2, OptW.some, e3, hadr, new_one _ _ h2]
      refine hK _ _ (.inr ⟨by omega, ?_, h.next, hB, by simp, by simp, by simp⟩) (((Fr.refl h1).drop s3).nw (by simpa using hB) _)
      rw [List.length_append, s2, hx, Nat.add_mul]
theorem SlG.lt {ty : Option TypeId} {n B : Nat} {h : H} {v : Value} {cs : List Value} {len : Nat} (s : SlG ty n B h v cs len) : ∀ g x y, v = .slice (some ⟨g, 0, none⟩) x y → B ≤ g ∧ g < h.next := by
  intro g x y e
  rcases s with ⟨_, rfl, _⟩ | ⟨_, _, g', s3, s4, rfl, _⟩
  · cases e
  · cases e; exact ⟨s3, s4⟩
section
variable {E : Env}
/-- Bytes become a string. -/
theorem SlG.str {ty : Option TypeId} {B : Nat} {h : H} {v : Value} {l : List UInt8} {e : TypeId} (s : SlG ty 1 B h v (l.map fun b => .int .u8 b.toNat) l.length) (he : E.und e = some (.int .u8)) : convT (some (.slice e)) (some .string) E v h = some (Dm.str l, h) := by
  rcases s with ⟨h0, rfl, hc⟩ | ⟨s1, s2, g, s3, s4, rfl, s6⟩
  · have : l = [] := List.eq_nil_of_length_eq_zero h0
    subst this
    exact convT_nilbytes e h he
  · rw [convT_bytes _ _ _ _ _ _ he, if_neg (by omega), readD_eq, s6, readC_some, if_pos (by simp)]
    have : ((l.map fun b => Value.int .u8 b.toNat).drop 0).take l.length = l.map fun b => Value.int .u8 b.toNat := by
      rw [List.drop_zero]; exact List.take_of_length_le (by simp)
    rw [strR_some, this, bytesD_map, strB_some]
end
end Go.Dm
