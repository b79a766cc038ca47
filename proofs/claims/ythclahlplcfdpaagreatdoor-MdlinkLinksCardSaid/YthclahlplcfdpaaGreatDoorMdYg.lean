/- Links are the document's. -/
import Derived.Test.YthclahlplcfdpaaGreatDoorMdWo
import Derived.Test.YthclahlplcfdpaaGreatDoorMdXk
import Derived.Test.YthclahlplcfdpaaGreatDoorCards
import Derived.Test.YthclahlplcfdpaaGreatDoorTie
import Derived.ChangeMaps
import Derived.Carry
import Derived.Lay
set_option linter.unusedVariables false
set_option linter.unusedSimpArgs false
set_option maxRecDepth 100000
namespace Go.Proofs.YthclahlplcfdpaaGreatDoor
open Go.Dm Go.ChangeMaps Go.ChangeShapes Go.WideShapes Go.ChangeAt Go.RowKit
theorem mdlinkLinks_below {HH : Type} {enc : TypeId × Value → HH} {W : World} (hL : laidMetH Tryz.prog laidV W) {m : Int} (hm : W.cell? ⟨gMax, 0, none⟩ = some (.int .i64 m)) (a0 : List UInt8) (a1 : Int) (a2 : Int) {base3 : Nat} {v3 : Value} {d3 : DataW HH} {p3 : List MemPlace} (hval3 : Value.okWide Tryz.prog W .any base3 26 v3) (hd3 : DataW.Trod enc Tryz.prog W 0 (fun _ => true) true 26 v3 d3 p3) :
    Calls Tryz.prog 4 #[str a0, .int .i64 a1, .int .i64 a2, v3] W fun e W' => e = .returned (.bool true) ∧ Below W.heap.size W W' := by
  obtain ⟨ws, u3, l3, hw, hr3, hv3⟩ := strs_arg (laid_plain hL) hm [] (wins_ok (laid_plain hL) hm) hval3 hd3
  simp only [List.nil_append] at hw hr3 hv3
  exact call_below env0 mixed0 code0 plug0 (winsH_rel _ hw) (winsH_ro _ _ _) (.cons (.plain rfl) (.cons (.plain rfl) (.cons (.plain rfl) (.cons (hv3) .nil)))) (law_Links a0 a1 a2 l3 u3 hr3 rfl (gm_wins m _))
theorem mdlinkLinks_lifted (os : Os) (started : os.Started) (H : Type) (enc : TypeId × Value → H) :
    ReturnsInHanded {} Tryz.checked os 4 .any (fun w args => (Rows.mdlinkLinksSpec.pre enc Tryz.prog Tryz.f4 [] false w args ∧ laidMetH Tryz.prog laidV w) ∧ sizedMet enc Tryz.prog Tryz.f4 (OpenSpec.ofChange Rows.mdlinkLinksSpec) false w args)
      (Rows.mdlinkLinksSpec.post enc Tryz.prog Tryz.f4 false true false false) := by
  refine change_and_shaped (C := Tryz.checked) (X := fun w _ => laidMetH Tryz.prog laidV w) (fun _ _ _ hh h => h.of_heap hh) own started (by kernel_rfl) Tryz.func4
    (ChangeSpec.witness_shaped (enc := enc) (C := Tryz.checked) (os := os) (X := fun w _ => laidMetH Tryz.prog laidV w) false (World.laidAll Tryz.prog os laidV) #[.string .empty, .int .i64 0, .int .i64 0, .slice none 0 0] 8 (World.laidAll_os _ _ _) (World.shaped_of_ZipB (by kernel_rfl) (by kernel_rfl)) (by kernel_rfl) (by kernel_rfl) (by kernel_rfl) (met_all os _)) ?_
  intro W base args ds gs before hval0 hW hL hsh
  obtain ⟨m, hm⟩ := max_num hsh
  have hval : ∀ (j : Nat) t v, Tryz.f4.params[j]? = some t → args[j]? = some v → Value.okWide Tryz.prog W .any base t v := hval0
  have hW' := hW
  obtain ⟨p, q, hA0, hV, rfl, hfz, hnd⟩ := hW
  have hA : DataW.TrodAll enc Tryz.prog W 0 (fun _ => true) true Tryz.f4.params.toList args.toList ds p := hA0
  rw [Tryz.params4] at hA hval
  obtain ⟨v0, v1, v2, v3, d0, d1, d2, d3, p0, p1, p2, p3, rfl, rfl, rfl, h0, h1, h2, h3⟩ := trodAll_four hA
  obtain ⟨rfl, rfl⟩ := trodVars_none hV
  obtain ⟨a0, rfl, rfl, rfl, wa0⟩ := open_string Tryz.underlying9 (hval 0 _ v0 rfl rfl) h0
  obtain ⟨a1, rfl, rfl, rfl, wa1⟩ := open_int Tryz.underlying3 (hval 1 _ v1 rfl rfl) h1
  obtain ⟨a2, rfl, rfl, rfl, wa2⟩ := open_int Tryz.underlying3 (hval 2 _ v2 rfl rfl) h2
  refine (mdlinkLinks_below (enc := enc) hL hm a0.data.toList a1 a2 (hval 3 _ v3 rfl rfl) h3).mono fun e W' ⟨he, hw⟩ => ?_
  exact ⟨_, he, post_true laidOut (by kernel_rfl) (by kernel_rfl) Tryz.underlying4 rfl rfl hW' hw⟩
theorem mdlinkLinks_holds : Rows.MdlinkLinksSaid :=
  OpenClaim.holds_of_wide 4 Tryz.f4 rfl rfl rfl rfl rfl rfl rfl ⟨rfl, rfl, rfl, rfl, rfl⟩ rfl rfl rfl rfl rfl (by kernel_rfl) Tryz.func4 (by kernel_rfl)
    (of_decide_eq_true (by kernel_rfl)) (by unfold Func.isWrapper; first | (rw [if_pos (by decide +kernel)]; kernel_rfl) | (rw [if_neg (by decide +kernel)]; exact ⟨rfl, rfl⟩))
    (fun os started H enc _ => mdlinkLinks_lifted os started H enc)
theorem mdlinkLinks_card : Rows.MdlinkLinksCardSaid :=
  Claim7.holds_tied_plain_at .later [] [.data, .pinned] true (true, "2e534fd7b39db0b08830851461015a1ad6db99221da18a31f4108196f22b5838") false
    mdlinkLinks_holds (fun _ h => by cases h) (by kernel_rfl) (fun _ h => by cases h) mdlinkLinks_row_tie rfl ⟨rfl, rfl⟩ (by kernel_rfl) rfl
    (fun f fn hf hfn => by
      obtain rfl : f = 4 := Option.some.inj ((show Tryz.prog.funcNamed "indenture/indenturelaw22.MdlinkLinks" = some 4 by kernel_rfl).symm.trans hf) |>.symm
      obtain rfl : fn = Tryz.f4 := (Option.some.inj (Tryz.func4.symm.trans hfn)).symm
      exact ⟨by kernel_rfl, fun j t ht => by
        rw [Tryz.params4] at ht
        have hm : t ∈ Tryz.f4.params.toList := by rw [Tryz.params4]; exact List.mem_of_getElem? (by simpa using ht)
        have hall : (Tryz.f4.params.toList.all fun u => !Tryz.prog.wantsStandIn u) = true := by kernel_rfl
        exact (show Tryz.prog.wantsStandIn t = false by simpa using List.all_eq_true.1 hall t hm)⟩)
    (by kernel_rfl)
#print axioms mdlinkLinks_card
end Go.Proofs.YthclahlplcfdpaaGreatDoor
