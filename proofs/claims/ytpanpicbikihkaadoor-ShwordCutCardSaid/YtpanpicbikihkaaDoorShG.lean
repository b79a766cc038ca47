/- The statements ShwordReads and ShwordOps, in D. -/
import Derived.Test.YtpanpicbikihkaaDoorShF
set_option linter.unusedVariables false
set_option linter.unusedSimpArgs false
namespace Go.Dm
open Go.Proofs
theorem rrunF_len (s : List UInt8) (lf : Bool) : ∀ (n k mark : Nat) (acc : List Pc), (rrunF s lf n k mark acc).1.length ≤ acc.length + n := by
  intro n
  induction n with
  | zero => intro k mark acc; exact Nat.le_refl _
  | succ n ih =>
    intro k mark acc
    simp only [rrunF]
    cases hs : rstep s lf k mark with
    | none => simp only; omega
    | some r =>
      have h1 := (rstep_k hs).2
      have h2 := ih r.2.1 r.2.2 (acc ++ r.1)
      simp only [List.length_append] at h2
      simp only
      omega
theorem rdAt_len (line : List UInt8) (a : Int) (mark : Nat) : (rdAt line a mark).1.length ≤ line.length + 1 := by
  have hcl := ctn_length line
  have hle := ctnN_le line
  unfold rdAt readM
  split
  · simp
  · split
    · have := rrunF_len (ctn line) (lfOf line) ((ctn line).length - (wpiece (ctn line) (lfOf line) a.toNat mark).2.2) (wpiece (ctn line) (lfOf line) a.toNat mark).2.2 (wpiece (ctn line) (lfOf line) a.toNat mark).2.1 [(wpiece (ctn line) (lfOf line) a.toNat mark).1]
      unfold rrun
      simp only [List.length_singleton] at this
      omega
    · have := rrunF_len (ctn line) (lfOf line) ((ctn line).length - a.toNat) a.toNat 0 []
      unfold rrun
      simp only [List.length_nil] at this
      omega
theorem law_Reads (line : List UInt8) (a : Int) (mark : Nat) (hm : mark < 256) (h : H) (h1 : h.one = []) (hg : Gl h) (hg0 : 0 < h.next) :
    CallW E0 X0 (.fn 3) [str line, .int .i64 a, .int .u8 mark] h (fun v h' => v = .bool true) := by
  refine CallW.body efn3 rfl rfl rfl [] (by kernel_rfl) ?_
  by_cases hl : 16384 < line.length
  · simp [Tryd.f3, h1, hl]
    refine (wakes_sp h h1 hg hg0).mono ?_
    rintro _ h2 ⟨rfl, hF⟩
    simp [hF.one]
  · simp [Tryd.f3, h1, hl]
    refine (Read_sp line a mark (by omega) hm h h1 hg hg0).mono ?_
    rintro _ h2 ⟨sa, rfl, hsa, hF⟩
    simp [hF.one]
    refine (RefRead_sp line a mark (by omega) hm h2 hF.one).mono ?_
    rintro _ h3 ⟨sb, rfl, hsb, hF2⟩
    have hF3 := hF.trans (hF2.mono hF.next)
    have hsa' : SlG none 6 h.next h3 sa (encs (rdAt line a mark).1) (rdAt line a mark).1.length := hsa.of_get hF2.next fun g _ hg => hF2.get g hg
    have hlen := rdAt_len line a mark
    simp [hF2.one]
    refine (same_sp _ _ _ _ sa sb (by omega) h3 hF2.one hsa' hsb).mono ?_
    rintro _ h4 ⟨rfl, rfl⟩
    simp [hF2.one]
    have hgl : Gl h4 := by unfold Gl; rw [hF3.get _ hg0]; exact hg
    have hn3 := hF3.next
    refine (wakes_sp h4 hF2.one hgl (by omega)).mono ?_
    rintro _ h5 ⟨rfl, hF5⟩
    simp [hF5.one]
theorem law_Ops (line : List UInt8) (a : Int) (hs : line.length < 2 ^ 62) (h : H) (h1 : h.one = []) (hg : Gl h) (hg0 : 0 < h.next) :
    CallW E0 X0 (.fn 4) [str line, .int .i64 a] h (fun v h' => v = .bool true) := by
  refine CallW.body efn4 rfl rfl rfl [] (by kernel_rfl) ?_
  simp [Tryd.f4, h1]
  refine (Op_sp line a h h1 hg).mono ?_
  rintro _ h2 ⟨rfl, rfl⟩
  simp [h1]
  refine (RefOp_sp line a hs h2 h1).mono ?_
  rintro _ h3 ⟨rfl, hF⟩
  simp [hF.one]
  have hgl : Gl h3 := by unfold Gl; rw [hF.get _ hg0]; exact hg
  have hn3 := hF.next
  refine (wakes_sp h3 hF.one hgl (by omega)).mono ?_
  rintro _ h5 ⟨rfl, hF5⟩
  simp [hF5.one]
end Go.Dm
