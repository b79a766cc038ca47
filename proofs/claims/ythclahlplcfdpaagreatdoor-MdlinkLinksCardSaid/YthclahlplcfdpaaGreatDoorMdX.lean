/- Layer 22's plugs in one, and what the library's functions come to. -/
import Derived.Test.YthclahlplcfdpaaGreatDoorMdPl
import Derived.Test.YthclahlplcfdpaaGreatDoorMdM
import Derived.Test.YthclahlplcfdpaaGreatDoorDMid
set_option linter.unusedVariables false
set_option linter.unusedSimpArgs false
namespace Go.Dm
open Go.Proofs
/-! sort.Slice of links by where they begin -/
structure Lk where
  f : Int
  o : Int
  m : Int
  t : Int
  i : Bool
  deriving DecidableEq, Inhabited
def encLk (x : Lk) : List Value := [.int .i64 x.f, .int .i64 x.o, .int .i64 x.m, .int .i64 x.t, .bool x.i]
def encLs (l : List Lk) : List Value := l.flatMap encLk
def lksD : List Value → Option (List Lk)
  | [] => some []
  | .int .i64 f :: .int .i64 o :: .int .i64 m :: .int .i64 t :: .bool i :: r => (lksD r).map (⟨f, o, m, t, i⟩ :: ·)
  | _ => none
theorem lksD_enc : ∀ l : List Lk, lksD (encLs l) = some l
  | [] => rfl
  | x :: l => by
    show lksD (encLk x ++ encLs l) = _
    simp [encLk, lksD, lksD_enc l]
theorem lksD_eq : ∀ {c : List Value} {l : List Lk}, lksD c = some l → c = encLs l := by
  intro c
  induction c using lksD.induct with
  | case1 => intro l h; cases h; rfl
  | case2 f o m t i r ih =>
    intro l h
    simp only [lksD] at h
    cases hr : lksD r with
    | none => rw [hr] at h; cases h
    | some l' =>
      rw [hr] at h
      cases h
      rw [ih hr]
      rfl
  | case3 c h1 h2 =>
    intro l h
    rw [lksD] at h
    · cases h
    · exact h1
    · exact h2
def ltLk (x y : Lk) : Bool := decide (x.f < y.f)
def srtLk (l : List Lk) : List Lk := (Sort.pdq ltLk l.toArray 0 l.toArray.size (Lib.bitLen l.toArray.size) true true).toList
def slcP : List Value → H → Option (Value × H)
  | [.iface t (.slice a n c), .func (.func g) fst cp], h => if t = 27 ∧ g = 36 ∧ fst.toList = [] then
      if n ≤ 1 then some (.tuple #[], h) else match cp.toList, a with
      | [.pointer (some ⟨bx, 0, none⟩)], some ⟨b, o, none⟩ => match h.get bx, h.get b with
        | some (.cells [.slice (some ⟨b', o', none⟩) n' _] _ _ _ _), some (.cells cs st true 0 ty) => if b' = b ∧ o' = o ∧ n' = n ∧ bx ≠ b then match lksD ((cs.drop o).take (n * 5)) with
            | some zs => if zs.length = n ∧ o + n * 5 ≤ cs.length ∧ n < 4611686018427387904 then some (.tuple #[], h.put b (.cells (setAt cs o (encLs (srtLk zs))) st true 0 ty)) else none
            | none => none
          else none
        | _, _ => none
      | _, _ => none
    else none
  | _, _ => none
/-- The plugs. -/
def X0 : Plug := fun f args h =>
  if f = 46 then cutP args h
  else if f = 108 then conP args h
  else if f = 60 then triP args h
  else if f = 47 then tsuP args h
  else if f = 31 then hprP args h
  else if f = 107 then cprP args h
  else if f = 63 then ibyP args h
  else if f = 84 then joiP args h
  else if f = 105 then splP args h
  else if f = 82 then fieP args h
  else if f = 42 then sortP strsD srtS str args h
  else if f = 43 then cptP args h
  else if f = 35 then slcP args h
  else none
/-- The variable MaxLen lies there. -/
def GmH (h : H) : Prop := numAt gMax h = true ∧ G0 ≤ h.next
theorem GmH.of {h h' : H} (g : GmH h) (hn : h.next ≤ h'.next) (hg : ∀ b, b < G0 → h'.get b = h.get b) : GmH h' := by
  refine ⟨?_, Nat.le_trans g.2 hn⟩
  have := g.1
  unfold numAt at this ⊢
  rwa [hg gMax (by decide)]
section
variable {h : H} (s p : List UInt8)
theorem dat_str : dat ⟨s.toArray⟩ = s := rfl
theorem size_str : (⟨s.toArray⟩ : ByteArray).size = s.length := rfl
theorem Cut_sp (hs : s.length < 2 ^ 31) (g : GmH h) : CallW E0 X0 (.fn 46) [str s, str p] h (fun v h' => v = .tuple #[str (Lib.cut s p).1, str (Lib.cut s p).2.1, .bool (Lib.cut s p).2.2] ∧ h' = h) := by
  refine CallW.plug (v := .tuple #[str (Lib.cut s p).1, str (Lib.cut s p).2.1, .bool (Lib.cut s p).2.2]) (h' := h) ?_ ⟨rfl, rfl⟩
  show cutP [str s, str p] h = _
  unfold cutP str
  simp only [size_str, dat_str]
  rw [if_pos ⟨g.1, by omega⟩]
theorem Contains_sp (hs : s.length < 2 ^ 31) (g : GmH h) : CallW E0 X0 (.fn 108) [str s, str p] h (fun v h' => v = .bool (Lib.contains s p) ∧ h' = h) := by
  refine CallW.plug (v := .bool (Lib.contains s p)) (h' := h) ?_ ⟨rfl, rfl⟩
  show conP [str s, str p] h = _
  unfold conP str
  simp only [size_str, dat_str]
  rw [if_pos ⟨g.1, by omega⟩]
theorem Trim_sp (c : UInt8) (hc : c.toNat < 128) (hs : s.length < 2 ^ 31) : CallW E0 X0 (.fn 60) [str s, str [c]] h (fun v h' => v = str (Lib.trimB s c) ∧ h' = h) := by
  refine CallW.plug (v := str (Lib.trimB s c)) (h' := h) ?_ ⟨rfl, rfl⟩
  show triP [str s, str [c]] h = _
  unfold triP str
  simp only [size_str, dat_str]
  rw [if_pos ⟨hc, by omega⟩]
theorem TrimSuffix_sp (hs : s.length < 2 ^ 31) : CallW E0 X0 (.fn 47) [str s, str p] h (fun v h' => v = str (Lib.trimSuffix s p) ∧ h' = h) := by
  refine CallW.plug (v := str (Lib.trimSuffix s p)) (h' := h) ?_ ⟨rfl, rfl⟩
  show tsuP [str s, str p] h = _
  unfold tsuP str
  simp only [size_str, dat_str]
  rw [if_pos (by omega)]
theorem HasPrefix_sp : CallW E0 X0 (.fn 31) [str s, str p] h (fun v h' => v = .bool (Lib.hasPrefix s p) ∧ h' = h) :=
  CallW.plug (v := .bool (Lib.hasPrefix s p)) (h' := h) rfl ⟨rfl, rfl⟩
theorem CutPrefix_sp : CallW E0 X0 (.fn 107) [str s, str p] h (fun v h' => v = .tuple #[str (Lib.trimPrefix s p), .bool (Lib.hasPrefix s p)] ∧ h' = h) :=
  CallW.plug (v := .tuple #[str (Lib.trimPrefix s p), .bool (Lib.hasPrefix s p)]) (h' := h) rfl ⟨rfl, rfl⟩
theorem IndexByte_sp (c : UInt8) : CallW E0 X0 (.fn 63) [str s, .int .u8 c.toNat] h (fun v h' => v = .int .i64 (Lib.indexByte s c) ∧ h' = h) := by
  refine CallW.plug (v := .int .i64 (Lib.indexByte s c)) (h' := h) ?_ ⟨rfl, rfl⟩
  show ibyP [str s, .int .u8 c.toNat] h = _
  unfold ibyP str
  simp
end
end Go.Dm
