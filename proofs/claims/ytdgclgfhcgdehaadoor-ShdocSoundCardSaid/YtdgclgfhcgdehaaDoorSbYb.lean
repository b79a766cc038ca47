/- ShdocSound answers true at every input and leaves the input as it was, with the laid tables as the program text says; no further condition. -/
import Derived.Test.YtdgclgfhcgdehaaDoorSbR
import Derived.Test.YtdgclgfhcgdehaaDoorSdX
import Derived.Test.YtdgclgfhcgdehaaDoorCards
import Derived.Test.YtdgclgfhcgdehaaDoorTie
set_option linter.unusedVariables false
set_option linter.unusedSimpArgs false
set_option maxRecDepth 100000
namespace Go.Proofs.YtdgclgfhcgdehaaDoor
open Go.Dm Go.ChangeMaps Go.ChangeShapes Go.WideShapes Go.ChangeAt Go.RowKit
theorem shdocSound_below {HH : Type} {enc : TypeId × Value → HH} {W : World} (hL : laidMetH Tryd.prog laidV W) {base : Nat} {v0 : Value} {d0 : DataW HH} {p0 : List MemPlace} (hval0 : Value.okWide Tryd.prog W .any base 38 v0) (hd0 : DataW.Trod enc Tryd.prog W 0 (fun _ => true) true 38 v0 d0 p0) :
    Calls Tryd.prog 8 #[v0] W fun e W' => e = .returned (.bool true) ∧ Below W.heap.size W W' := by
  obtain ⟨ws, v, l, hw, hr, hv⟩ := strs_arg (laid_plain hL) hval0 hd0
  exact call_below env0 mixed0 code0 plug0 (winsH_rel _ hw) (winsH_ro _ _ _) (.cons (hv) .nil) (law_Sound l v hr rfl (gl_wins ws) (g_lt ws))
theorem shdocSound_lifted (os : Os) (started : os.Started) (H : Type) (enc : TypeId × Value → H) :
    ReturnsInHanded {} Tryd.checked os 8 .any (fun w args => (Rows.shdocSoundSpec.pre enc Tryd.prog Tryd.f8 [] false w args ∧ laidMetH Tryd.prog laidV w) ∧ sizedMet enc Tryd.prog Tryd.f8 (OpenSpec.ofChange Rows.shdocSoundSpec) false w args)
      (Rows.shdocSoundSpec.post enc Tryd.prog Tryd.f8 false true false false) := by
  refine returnsInHanded_of_change_and (C := Tryd.checked) (X := fun w _ => laidMetH Tryd.prog laidV w) (fun _ _ _ hh h => h.of_heap hh) own started (by kernel_rfl) Tryd.func8
    (ChangeSpec.witness_shaped (enc := enc) (C := Tryd.checked) (os := os) (X := fun w _ => laidMetH Tryd.prog laidV w) false (World.laidAll Tryd.prog os laidV) #[.slice none 0 0] 8 (World.laidAll_os _ _ _) (World.shaped_of_ZipB (by kernel_rfl) (by kernel_rfl)) (by kernel_rfl) (by kernel_rfl) (by kernel_rfl) (met_all os _)) ?_
  intro W base args ds gs before hval0 hW _ hsz hL _
  have hval : ∀ (j : Nat) t v, Tryd.f8.params[j]? = some t → args[j]? = some v → Value.okWide Tryd.prog W .any base t v := hval0
  have hW' := hW
  obtain ⟨p, q, hA0, hV, rfl, hfz, hnd⟩ := hW
  have hA : DataW.TrodAll enc Tryd.prog W 0 (fun _ => true) true Tryd.f8.params.toList args.toList ds p := hA0
  rw [Tryd.params8] at hA hval
  obtain ⟨v0, d0, rfl, rfl, h0⟩ := trodAll_one hA
  obtain ⟨rfl, rfl⟩ := trodVars_none hV
  refine (shdocSound_below (enc := enc) hL (hval 0 _ v0 rfl rfl) h0).mono fun e W' ⟨he, hw⟩ => ?_
  exact ⟨_, he, post_true laidOut (by kernel_rfl) (by kernel_rfl) Tryd.underlying4 rfl rfl hW' hw⟩
theorem shdocSound_holds : Rows.ShdocSoundSaid :=
  OpenClaim.holds_of_wide 8 Tryd.f8 rfl rfl rfl rfl rfl rfl rfl ⟨rfl, rfl, rfl, rfl, rfl⟩ rfl rfl rfl rfl rfl (by kernel_rfl) Tryd.func8 (by kernel_rfl)
    (of_decide_eq_true (by kernel_rfl)) (by unfold Func.isWrapper; first | (rw [if_pos (by decide +kernel)]; kernel_rfl) | (rw [if_neg (by decide +kernel)]; exact ⟨rfl, rfl⟩))
    (fun os started H enc _ => shdocSound_lifted os started H enc)
theorem shdocSound_card : Rows.ShdocSoundCardSaid :=
  Claim7.holds_tied_plain_at .later [] [.data, .data, .pinned] true (true, "762370412fd8fdfb487d96e0cd32da77240968d92934ebf90c0e9dbae0a2dd67") false
    shdocSound_holds (fun _ h => by cases h) (by kernel_rfl) (fun _ h => by cases h) shdocSound_row_tie rfl ⟨rfl, rfl⟩ (by kernel_rfl) rfl
    (fun f fn hf hfn => by
      obtain rfl : f = 8 := Option.some.inj ((show Tryd.prog.funcNamed "indenture/indenturelaw16.ShdocSound" = some 8 by kernel_rfl).symm.trans hf) |>.symm
      obtain rfl : fn = Tryd.f8 := (Option.some.inj (Tryd.func8.symm.trans hfn)).symm
      exact ⟨by kernel_rfl, fun j t ht => by
        rw [Tryd.params8] at ht
        have hm : t ∈ Tryd.f8.params.toList := by rw [Tryd.params8]; exact List.mem_of_getElem? (by simpa using ht)
        have hall : (Tryd.f8.params.toList.all fun u => !Tryd.prog.wantsStandIn u) = true := by kernel_rfl
        exact (show Tryd.prog.wantsStandIn t = false by simpa using List.all_eq_true.1 hall t hm)⟩)
    (by kernel_rfl)
#print axioms shdocSound_card
end Go.Proofs.YtdgclgfhcgdehaaDoor
