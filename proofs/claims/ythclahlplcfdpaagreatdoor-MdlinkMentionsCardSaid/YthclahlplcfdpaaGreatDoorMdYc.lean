/- Mentions: the row and the card. No conditions. -/
import Derived.Test.YthclahlplcfdpaaGreatDoorMdWn
import Derived.Test.YthclahlplcfdpaaGreatDoorMdXd
import Derived.Test.YthclahlplcfdpaaGreatDoorCards
import Derived.Test.YthclahlplcfdpaaGreatDoorTie
import Derived.ChangeMaps
import Derived.Carry
import Derived.Lay
set_option linter.unusedVariables false
set_option linter.unusedSimpArgs false
set_option maxRecDepth 100000
namespace Go.Proofs.YthclahlplcfdpaaGreatDoor
open Go.Dm Go.ChangeMaps Go.ChangeShapes Go.WideShapes Go.ChangeAt Go.RowKit
theorem mdlinkMentions_below {HH : Type} {enc : TypeId × Value → HH} {W : World} (hL : laidMetH Tryz.prog laidV W) {m : Int} (hm : W.cell? ⟨gMax, 0, none⟩ = some (.int .i64 m)) (a0 : List UInt8) (a1 : Int) (a2 : Int) :
    Calls Tryz.prog 7 #[str a0, .int .i64 a1, .int .i64 a2] W fun e W' => e = .returned (.bool true) ∧ Below W.heap.size W W' := by
  obtain ⟨ws, hw⟩ : ∃ ws, WinsOk G0 (glS m) ws W := ⟨[], wins_ok (laid_plain hL) hm⟩
  exact call_below env0 mixed0 code0 plug0 (winsH_rel _ hw) (winsH_ro _ _ _) (.cons (.plain rfl) (.cons (.plain rfl) (.cons (.plain rfl) .nil))) (law_Mentions a0 a1 a2 rfl (gm_wins m ws))
theorem mdlinkMentions_lifted (os : Os) (started : os.Started) (H : Type) (enc : TypeId × Value → H) :
    ReturnsInHanded {} Tryz.checked os 7 .any (fun w args => (Rows.mdlinkMentionsSpec.pre enc Tryz.prog Tryz.f7 [] false w args ∧ laidMetH Tryz.prog laidV w) ∧ sizedMet enc Tryz.prog Tryz.f7 (OpenSpec.ofChange Rows.mdlinkMentionsSpec) false w args)
      (Rows.mdlinkMentionsSpec.post enc Tryz.prog Tryz.f7 false true false false) := by
  refine change_and_shaped (C := Tryz.checked) (X := fun w _ => laidMetH Tryz.prog laidV w) (fun _ _ _ hh h => h.of_heap hh) own started (by kernel_rfl) Tryz.func7
    (ChangeSpec.witness_shaped (enc := enc) (C := Tryz.checked) (os := os) (X := fun w _ => laidMetH Tryz.prog laidV w) false (World.laidAll Tryz.prog os laidV) #[.string .empty, .int .i64 0, .int .i64 0] 8 (World.laidAll_os _ _ _) (World.shaped_of_ZipB (by kernel_rfl) (by kernel_rfl)) (by kernel_rfl) (by kernel_rfl) (by kernel_rfl) (met_all os _)) ?_
  intro W base args ds gs before hval0 hW hL hsh
  obtain ⟨m, hm⟩ := max_num hsh
  have hval : ∀ (j : Nat) t v, Tryz.f7.params[j]? = some t → args[j]? = some v → Value.okWide Tryz.prog W .any base t v := hval0
  have hW' := hW
  obtain ⟨p, q, hA0, hV, rfl, hfz, hnd⟩ := hW
  have hA : DataW.TrodAll enc Tryz.prog W 0 (fun _ => true) true Tryz.f7.params.toList args.toList ds p := hA0
  rw [Tryz.params7] at hA hval
  obtain ⟨v0, v1, v2, d0, d1, d2, p0, p1, p2, rfl, rfl, rfl, h0, h1, h2⟩ := trodAll_three hA
  obtain ⟨rfl, rfl⟩ := trodVars_none hV
  obtain ⟨a0, rfl, rfl, rfl, wa0⟩ := open_string Tryz.underlying9 (hval 0 _ v0 rfl rfl) h0
  obtain ⟨a1, rfl, rfl, rfl, wa1⟩ := open_int Tryz.underlying3 (hval 1 _ v1 rfl rfl) h1
  obtain ⟨a2, rfl, rfl, rfl, wa2⟩ := open_int Tryz.underlying3 (hval 2 _ v2 rfl rfl) h2
  refine (mdlinkMentions_below (enc := enc) hL hm a0.data.toList a1 a2).mono fun e W' ⟨he, hw⟩ => ?_
  exact ⟨_, he, post_true laidOut (by kernel_rfl) (by kernel_rfl) Tryz.underlying4 rfl rfl hW' hw⟩
theorem mdlinkMentions_holds : Rows.MdlinkMentionsSaid :=
  OpenClaim.holds_of_wide 7 Tryz.f7 rfl rfl rfl rfl rfl rfl rfl ⟨rfl, rfl, rfl, rfl, rfl⟩ rfl rfl rfl rfl rfl (by kernel_rfl) Tryz.func7 (by kernel_rfl)
    (of_decide_eq_true (by kernel_rfl)) (by unfold Func.isWrapper; first | (rw [if_pos (by decide +kernel)]; kernel_rfl) | (rw [if_neg (by decide +kernel)]; exact ⟨rfl, rfl⟩))
    (fun os started H enc _ => mdlinkMentions_lifted os started H enc)
theorem mdlinkMentions_card : Rows.MdlinkMentionsCardSaid :=
  Claim7.holds_tied_plain_at .later [] [.data, .pinned] true (true, "2e534fd7b39db0b08830851461015a1ad6db99221da18a31f4108196f22b5838") false
    mdlinkMentions_holds (fun _ h => by cases h) (by kernel_rfl) (fun _ h => by cases h) mdlinkMentions_row_tie rfl ⟨rfl, rfl⟩ (by kernel_rfl) rfl
    (fun f fn hf hfn => by
      obtain rfl : f = 7 := Option.some.inj ((show Tryz.prog.funcNamed "indenture/indenturelaw22.MdlinkMentions" = some 7 by kernel_rfl).symm.trans hf) |>.symm
      obtain rfl : fn = Tryz.f7 := (Option.some.inj (Tryz.func7.symm.trans hfn)).symm
      exact ⟨by kernel_rfl, fun j t ht => by
        rw [Tryz.params7] at ht
        have hm : t ∈ Tryz.f7.params.toList := by rw [Tryz.params7]; exact List.mem_of_getElem? (by simpa using ht)
        have hall : (Tryz.f7.params.toList.all fun u => !Tryz.prog.wantsStandIn u) = true := by kernel_rfl
        exact (show Tryz.prog.wantsStandIn t = false by simpa using List.all_eq_true.1 hall t hm)⟩)
    (by kernel_rfl)
#print axioms mdlinkMentions_card
end Go.Proofs.YthclahlplcfdpaaGreatDoor
