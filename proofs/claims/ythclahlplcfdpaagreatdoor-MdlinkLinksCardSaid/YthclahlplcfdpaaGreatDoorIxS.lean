/- Sorting: plain facts. -/
import Derived.Test.YthclahlplcfdpaaGreatDoorDSlC
set_option linter.unusedVariables false
set_option linter.unusedSimpArgs false
namespace Go.Dm
def srtS (ss : List (List UInt8)) : List (List UInt8) := ss.mergeSort fun x y => decide (x ≤ y)
def srtI (zs : List Int) : List Int := zs.mergeSort fun x y => decide (x ≤ y)
theorem srtS_len (ss : List (List UInt8)) : (srtS ss).length = ss.length := List.length_mergeSort ..
theorem srtI_len (zs : List Int) : (srtI zs).length = zs.length := List.length_mergeSort ..
/-- Rising, each once. -/
def Up (l : List (List UInt8)) : Prop := l.Pairwise (· < ·)
def UpI (l : List Int) : Prop := l.Pairwise (· < ·)
theorem srtI_pw (l : List Int) : (srtI l).Pairwise (· ≤ ·) := by
  have := List.pairwise_mergeSort (le := fun x y : Int => decide (x ≤ y)) (by simp; omega) (by simp; omega) l
  simpa [srtI] using this
theorem srtS_pw (l : List (List UInt8)) : (srtS l).Pairwise (· ≤ ·) := by
  have := List.pairwise_mergeSort (le := fun x y : List UInt8 => decide (x ≤ y)) (by simpa using fun a b c h1 h2 => List.le_trans h1 h2) (by simpa using fun a b => List.le_total a b) l
  simpa [srtS] using this
theorem srtI_p (l : List Int) : (srtI l).Perm l := List.mergeSort_perm ..
theorem srtS_p (l : List (List UInt8)) : (srtS l).Perm l := List.mergeSort_perm ..
theorem pwI_eq {a b : List Int} (ha : a.Pairwise (· ≤ ·)) (hb : b.Pairwise (· ≤ ·)) (p : a.Perm b) : a = b := p.eq_of_pairwise (fun x y _ _ => Int.le_antisymm) ha hb
theorem pwS_eq {a b : List (List UInt8)} (ha : a.Pairwise (· ≤ ·)) (hb : b.Pairwise (· ≤ ·)) (p : a.Perm b) : a = b := p.eq_of_pairwise (fun x y _ _ => List.le_antisymm) ha hb
theorem srtI_perm {a b : List Int} (p : a.Perm b) : srtI a = srtI b := pwI_eq (srtI_pw _) (srtI_pw _) (((srtI_p a).trans p).trans (srtI_p b).symm)
theorem srtS_perm {a b : List (List UInt8)} (p : a.Perm b) : srtS a = srtS b := pwS_eq (srtS_pw _) (srtS_pw _) (((srtS_p a).trans p).trans (srtS_p b).symm)
theorem Up.le {l : List (List UInt8)} (h : Up l) : l.Pairwise (· ≤ ·) := h.imp fun h => List.le_of_lt h
theorem Up.nodup {l : List (List UInt8)} (h : Up l) : l.Nodup := h.imp fun h e => by subst e; exact List.lt_irrefl _ h
theorem UpI.nodup {l : List Int} (h : UpI l) : l.Nodup := h.imp fun h e => by omega
theorem UpI.le {l : List Int} (h : UpI l) : l.Pairwise (· ≤ ·) := h.imp fun h => by omega
theorem Up.ext {a b : List (List UInt8)} (ha : Up a) (hb : Up b) (h : ∀ x, x ∈ a ↔ x ∈ b) : a = b := pwS_eq ha.le hb.le ((List.perm_ext_iff_of_nodup ha.nodup hb.nodup).2 h)
theorem UpI.ext {a b : List Int} (ha : UpI a) (hb : UpI b) (h : ∀ x, x ∈ a ↔ x ∈ b) : a = b := pwI_eq ha.le hb.le ((List.perm_ext_iff_of_nodup ha.nodup hb.nodup).2 h)
theorem srtS_up {l : List (List UInt8)} (h : l.Nodup) : Up (srtS l) := by
  have h1 := srtS_pw l
  have h2 : (srtS l).Nodup := ((srtS_p l).nodup_iff).2 h
  refine List.Pairwise.imp ?_ (h1.and h2)
  rintro a b ⟨x, y⟩
  exact Classical.byContradiction fun h => y (List.le_antisymm x (List.not_lt.1 h))
theorem srtI_up {l : List Int} (h : l.Nodup) : UpI (srtI l) := by
  have h1 := srtI_pw l
  have h2 : (srtI l).Nodup := ((srtI_p l).nodup_iff).2 h
  refine List.Pairwise.imp ?_ (h1.and h2)
  rintro a b ⟨x, y⟩
  omega
end Go.Dm
