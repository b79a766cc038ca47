/- Maps of D's, read and written by their keys (as in XIxA). -/
import Derived.Test.YthclahlplcfdpaaGreatDoorMdZ
import Derived.Test.YthclahlplcfdpaaGreatDoorMdT
import Derived.Test.YthclahlplcfdpaaGreatDoorMdL
import Derived.Test.YthclahlplcfdpaaGreatDoorDSlC
set_option linter.unusedVariables false
set_option linter.unusedSimpArgs false
namespace Go.Dm
open Go.Proofs
section
variable {K : Type}
/-- A map's entries: key, value, number of birth. -/
abbrev AM (K : Type) := List (K × Value × Nat)
def encA (ek : K → Value) (es : AM K) : List MapEntry := es.map fun e => ⟨ek e.1, e.2.1, e.2.2⟩
structure MP (es : AM K) (clock : Nat) (f : K → Option Value) : Prop where
  kn : (es.map (·.1)).Nodup
  bn : (es.map (·.2.2)).Nodup
  bl : ∀ e ∈ es, e.2.2 < clock
  lk : ∀ k v, f k = some v ↔ ∃ b, (k, v, b) ∈ es
/-- Block r is a map: its value at each key. -/
def MapAt (ek : K → Value) (h : H) (r : Nat) (f : K → Option Value) : Prop := ∃ es clock, h.get r = some (.map (encA ek es) clock) ∧ MP es clock f
theorem MapAt.of_get {ek : K → Value} {h h' : H} {r : Nat} {f : K → Option Value} (m : MapAt ek h r f) (hg : h'.get r = h.get r) : MapAt ek h' r f := by
  obtain ⟨es, clock, a, b⟩ := m
  exact ⟨es, clock, hg.trans a, b⟩
theorem MapAt.congr {ek : K → Value} {h : H} {r : Nat} {f g : K → Option Value} (m : MapAt ek h r f) (e : ∀ k, f k = g k) : MapAt ek h r g := by
  obtain ⟨es, clock, a, b⟩ := m
  exact ⟨es, clock, a, b.kn, b.bn, b.bl, fun k v => by rw [← e]; exact b.lk k v⟩
theorem MapAt.new (ek : K → Value) {h : H} {r : Nat} (hr : h.get r = some (.map [] 0)) : MapAt ek h r fun _ => none :=
  ⟨[], 0, hr, List.nodup_nil, List.nodup_nil, fun e he => by simp at he, fun k v => by simp⟩
/-- Only block r is another. -/
structure Upd (r : Nat) (h h' : H) : Prop where
  next : h'.next = h.next
  one : h'.one = h.one
  get : ∀ b, b ≠ r → h'.get b = h.get b
variable {E : Env} {kt et t : TypeId} {ek : K → Value}
theorem MP.split {es : AM K} {clock : Nat} {f : K → Option Value} (m : MP es clock f) (k : K) : (f k = none ∧ ∀ e ∈ es, e.1 ≠ k) ∨ ∃ v b a c, f k = some v ∧ es = a ++ (k, v, b) :: c ∧ (∀ e ∈ a, e.1 ≠ k) ∧ ∀ e ∈ c, e.1 ≠ k := by
  cases hf : f k with
  | none =>
    refine .inl ⟨rfl, fun e he q => ?_⟩
    obtain ⟨k', v, b⟩ := e
    simp only at q
    subst q
    rw [(m.lk k' v).2 ⟨b, he⟩] at hf
    cases hf
  | some v =>
    obtain ⟨b, hb⟩ := (m.lk k v).1 hf
    obtain ⟨a, c, rfl⟩ := List.append_of_mem hb
    have hn := m.kn
    rw [List.map_append, List.map_cons] at hn
    obtain ⟨h1, h2, h3⟩ := List.nodup_append.1 hn
    refine .inr ⟨v, b, a, c, rfl, rfl, fun e he q => ?_, fun e he q => ?_⟩
    · exact h3 e.1 (List.mem_map.2 ⟨e, he, rfl⟩) k (List.mem_cons_self ..) q
    · exact (List.nodup_cons.1 h2).1 (List.mem_map.2 ⟨e, he, q⟩)
/-- How many keys there are. -/
theorem len_at {h : H} {r : Nat} {f : K → Option Value} (m : MapAt ek h r f) (hu : E.und t = some (.map kt et)) (ks : List K) (hnd : ks.Nodup) (hk : ∀ k, k ∈ ks ↔ (f k).isSome = true) : lenD E t (.map (some r)) h = some (intV ks.length) := by
  obtain ⟨es, clock, hg, mp⟩ := m
  unfold lenD
  simp only [hu, hg]
  have hp : (es.map (·.1)).Perm ks := (List.perm_ext_iff_of_nodup mp.kn hnd).2 fun k => by
    rw [hk]
    constructor
    · intro q
      obtain ⟨⟨k', v, b⟩, he, rfl⟩ := List.mem_map.1 q
      rw [(mp.lk k' v).2 ⟨b, he⟩]
      rfl
    · intro q
      obtain ⟨v, hv⟩ := Option.isSome_iff_exists.1 q
      obtain ⟨b, hb⟩ := (mp.lk k v).1 hv
      exact List.mem_map.2 ⟨_, hb, rfl⟩
  have := hp.length_eq
  simp at this
  simp [encA, this]
variable [DecidableEq K]
structure KeyOk (E : Env) (kt : TypeId) (ek : K → Value) : Prop where
  eq : ∀ a b, eqD E 10000 kt (ek a) (ek b) = some (decide (a = b))
  ck : ∀ a, (chkKeyD E 10000 kt (ek a) && plainV (ek a)) = true
  sb : ∀ a, Instr.sameBits 10000 (ek a) (ek a) = true
theorem find_no (ko : KeyOk E kt ek) (k : K) : ∀ (es : AM K) (i : Nat), (∀ e ∈ es, e.1 ≠ k) → findD E kt (ek k) (encA ek es) i = some none
  | [], i, _ => rfl
  | e :: es, i, h => by
    have h1 := h e (List.mem_cons_self ..)
    show (match eqD E 10000 kt (ek k) (ek e.1) with | some true => _ | some false => _ | none => _) = _
    rw [ko.eq, decide_eq_false (fun q => h1 q.symm)]
    exact find_no ko k es (i + 1) fun x hx => h x (List.mem_cons_of_mem _ hx)
theorem find_yes (ko : KeyOk E kt ek) (k : K) : ∀ (a : AM K) (v : Value) (b : Nat) (c : AM K) (i : Nat), (∀ e ∈ a, e.1 ≠ k) → findD E kt (ek k) (encA ek (a ++ (k, v, b) :: c)) i = some (some (i + a.length, ⟨ek k, v, b⟩))
  | [], v, b, c, i, _ => by
    show (match eqD E 10000 kt (ek k) (ek k) with | some true => _ | some false => _ | none => _) = _
    rw [ko.eq, decide_eq_true rfl]
    rfl
  | e :: a, v, b, c, i, h => by
    have h1 := h e (List.mem_cons_self ..)
    show (match eqD E 10000 kt (ek k) (ek e.1) with | some true => _ | some false => findD E kt (ek k) (encA ek (a ++ (k, v, b) :: c)) (i + 1) | none => _) = _
    rw [ko.eq, decide_eq_false (fun q => h1 q.symm)]
    have := find_yes ko k a v b c (i + 1) fun x hx => h x (List.mem_cons_of_mem _ hx)
    simp only
    rw [this, List.length_cons]
    congr 3
    omega
theorem lookup_at (ko : KeyOk E kt ek) (hu : E.und t = some (.map kt et)) {z : Value} (hz : zeroD E et = some z) {h : H} {r : Nat} {f : K → Option Value} (m : MapAt ek h r f) (k : K) (ok : Bool) :
    lookupD E t (.map (some r)) (ek k) ok h = some (if ok then .tuple #[(f k).getD z, .bool (f k).isSome] else (f k).getD z) := by
  obtain ⟨es, clock, hg, mp⟩ := m
  rw [lookupD_eq, hg, hu, luT_map, if_pos (ko.ck k), hz]
  rcases mp.split k with ⟨hf, hn⟩ | ⟨v, b, a, c, hf, rfl, hn, _⟩
  · rw [find_no ko k es 0 hn, luN_none, hf]
    cases ok <;> rfl
  · rw [find_yes ko k a v b c 0 hn, luN_some, hf]
    cases ok <;> rfl
theorem put_at (ko : KeyOk E kt ek) (hu : E.und t = some (.map kt et)) {h : H} {r : Nat} {f : K → Option Value} (m : MapAt ek h r f) (k : K) (v : Value) :
    ∃ h', mapPutD E t (.map (some r)) (ek k) v h = some h' ∧ Upd r h h' ∧ MapAt ek h' r (fun k' => if k' = k then some v else f k') := by
  obtain ⟨es, clock, hg, mp⟩ := m
  rw [mapPutD_eq, hg, hu, mpT_map, if_pos (ko.ck k)]
  rcases mp.split k with ⟨hf, hn⟩ | ⟨v0, b, a, c, hf, rfl, hn, hn2⟩
  · rw [find_no ko k es 0 hn, mpN_none]
    refine ⟨_, rfl, ⟨rfl, rfl, fun b hb => by rw [H.get_put, if_neg hb]⟩, es ++ [(k, v, clock)], clock + 1, by rw [H.get_put, if_pos rfl]; simp [encA], ?_, ?_, ?_, ?_⟩
    · rw [List.map_append, List.nodup_append]
      refine ⟨mp.kn, by simp, ?_⟩
      intro x hx y hy
      simp at hy
      subst hy
      obtain ⟨e, he, rfl⟩ := List.mem_map.1 hx
      exact hn e he
    · rw [List.map_append, List.nodup_append]
      refine ⟨mp.bn, by simp, ?_⟩
      intro x hx y hy
      simp at hy
      subst hy
      obtain ⟨e, he, rfl⟩ := List.mem_map.1 hx
      have := mp.bl e he
      omega
    · intro e he
      rcases List.mem_append.1 he with he | he
      · have := mp.bl e he; omega
      · simp at he; subst he; simp
    · intro k' v'
      by_cases hk : k' = k
      · subst hk
        rw [if_pos rfl]
        constructor
        · intro q; cases q; exact ⟨clock, by simp⟩
        · rintro ⟨b, hb⟩
          rcases List.mem_append.1 hb with hb | hb
          · exact absurd rfl (hn _ hb)
          · simp at hb; rw [hb.1]
      · rw [if_neg hk, mp.lk]
        constructor
        · rintro ⟨b, hb⟩; exact ⟨b, List.mem_append_left _ hb⟩
        · rintro ⟨b, hb⟩
          rcases List.mem_append.1 hb with hb | hb
          · exact ⟨b, hb⟩
          · simp at hb; exact absurd hb.1 hk
  · rw [find_yes ko k a v0 b c 0 hn]
    simp only [mpN]
    rw [if_pos (ko.sb k)]
    have hset : (encA ek (a ++ (k, v0, b) :: c)).set (0 + a.length) ⟨ek k, v, b⟩ = encA ek (a ++ (k, v, b) :: c) := by
      simp [encA, List.set_append]
    refine ⟨_, rfl, ⟨rfl, rfl, fun b hb => by rw [H.get_put, if_neg hb]⟩, a ++ (k, v, b) :: c, clock, by rw [H.get_put, if_pos rfl, hset], ?_, ?_, ?_, ?_⟩
    · have := mp.kn; simpa using this
    · have := mp.bn; simpa using this
    · intro e he
      rcases List.mem_append.1 he with he | he
      · exact mp.bl e (List.mem_append_left _ he)
      · rcases List.mem_cons.1 he with rfl | he
        · exact mp.bl (k, v0, b) (by simp)
        · exact mp.bl e (by simp [he])
    · intro k' v'
      by_cases hk : k' = k
      · subst hk
        rw [if_pos rfl]
        constructor
        · intro q; cases q; exact ⟨b, by simp⟩
        · rintro ⟨b', hb⟩
          rcases List.mem_append.1 hb with hb | hb
          · exact absurd rfl (hn _ hb)
          · rcases List.mem_cons.1 hb with hb | hb
            · cases hb; rfl
            · exact absurd rfl (hn2 _ hb)
      · rw [if_neg hk, mp.lk]
        simp [hk]
theorem del_at (ko : KeyOk E kt ek) (hu : E.und t = some (.map kt et)) {h : H} {r : Nat} {f : K → Option Value} (m : MapAt ek h r f) (k : K) :
    ∃ h', mapDelD E t (.map (some r)) (ek k) h = some h' ∧ Upd r h h' ∧ MapAt ek h' r (fun k' => if k' = k then none else f k') := by
  obtain ⟨es, clock, hg, mp⟩ := m
  unfold mapDelD
  simp only [hu, hg]
  rw [if_pos (ko.ck k)]
  rcases mp.split k with ⟨hf, hn⟩ | ⟨v0, b, a, c, hf, rfl, hn, hn2⟩
  · rw [find_no ko k es 0 hn]
    refine ⟨_, rfl, ⟨rfl, rfl, fun _ _ => rfl⟩, MapAt.congr ⟨es, clock, hg, mp⟩ fun k' => ?_⟩
    by_cases hk : k' = k
    · subst hk; rw [if_pos rfl, hf]
    · rw [if_neg hk]
  · rw [find_yes ko k a v0 b c 0 hn]
    have her : (encA ek (a ++ (k, v0, b) :: c)).eraseIdx (0 + a.length) = encA ek (a ++ c) := by
      simp [encA, List.eraseIdx_append]
    refine ⟨_, rfl, ⟨rfl, rfl, fun b hb => by rw [H.get_put, if_neg hb]⟩, a ++ c, clock, by rw [H.get_put, if_pos rfl, her], ?_, ?_, ?_, ?_⟩
    · have := mp.kn
      rw [List.map_append, List.map_cons] at this
      rw [List.map_append]
      exact this.sublist (List.Sublist.append_left (List.sublist_cons_self ..) _)
    · have := mp.bn
      rw [List.map_append, List.map_cons] at this
      rw [List.map_append]
      exact this.sublist (List.Sublist.append_left (List.sublist_cons_self ..) _)
    · intro e he
      refine mp.bl e ?_
      rcases List.mem_append.1 he with he | he
      · exact List.mem_append_left _ he
      · simp [he]
    · intro k' v'
      by_cases hk : k' = k
      · subst hk
        rw [if_pos rfl]
        constructor
        · intro q; cases q
        · rintro ⟨b', hb⟩
          rcases List.mem_append.1 hb with hb | hb
          · exact absurd rfl (hn _ hb)
          · exact absurd rfl (hn2 _ hb)
      · rw [if_neg hk, mp.lk]
        simp [hk]
end
theorem same_str (n : Nat) (a : List UInt8) : Instr.sameBits n (str a) (str a) = true := by
  have h : ByteArray.beq (ByteArray.mk a.toArray) (ByteArray.mk a.toArray) = true := by simp [ByteArray.beq]
  cases n <;> exact h
theorem ko_str : KeyOk E0 9 str where
  eq a b := by simp
  ck a := by simp
  sb a := same_str 10000 a
end Go.Dm
