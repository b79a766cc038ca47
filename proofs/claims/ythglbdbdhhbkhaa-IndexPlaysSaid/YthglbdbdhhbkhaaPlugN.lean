/- The plugs of chapter 26, first part: slices.Sort. -/
import Derived.Test.YthglbdbdhhbkhaaPlugC
set_option linter.unusedVariables false
set_option linter.unusedSimpArgs false
namespace Go.Dm
open Go.Proofs Go.Sort Go.RowKit
/-- The sorts. -/
def X1 : Plug := fun f args h =>
  if f = 33 then sortP strsD srtS str args h
  else if f = 31 then sortP intsD srtI (Value.int .i64) args h
  else if f = 35 then cptP args h
  else if f = 26 then keysP args h else none
theorem plug1 : PlugOk Try.prog (okC E0 G0 false) G0 X1 := by
  intro f args h v h' hX m w args' R L
  unfold X1 at hX
  split at hX
  · rename_i e; subst e
    refine ⟨⟨_, Try.func33, rfl, by kernel_rfl⟩, sort_ok (enc := str) (fun h => strsD_eq h) srtS_len (fun m x v' h => h.string) (fun m x => .plain rfl) ?_ ?_ hX R L⟩
    · exact fun p cap w => Try.slices_Sort_string_none p cap w
    · exact fun blk off cap zs w h1 h2 h3 => Try.slices_Sort_string blk off cap zs w h1 h2 h3
  split at hX
  · rename_i e; subst e
    refine ⟨⟨_, Try.func31, rfl, by kernel_rfl⟩, sort_ok (enc := Value.int .i64) (fun h => intsD_eq h) srtI_len (fun m x v' h => by cases h; rfl) (fun m x => .plain rfl) ?_ ?_ hX R L⟩
    · exact fun p cap w => Try.slices_Sort_int_none p cap w
    · exact fun blk off cap zs w h1 h2 h3 => Try.slices_Sort_int blk off cap zs w h1 h2 h3
  split at hX
  · rename_i e; subst e
    exact ⟨⟨_, Try.func35, rfl, by kernel_rfl⟩, cpt_ok hX R L⟩
  split at hX
  · rename_i e; subst e
    exact ⟨⟨_, Try.func26, rfl, by kernel_rfl⟩, keys_ok hX R L⟩
  · cases hX
end Go.Dm
