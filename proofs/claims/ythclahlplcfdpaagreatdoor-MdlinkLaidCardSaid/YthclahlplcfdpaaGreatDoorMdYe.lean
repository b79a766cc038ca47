/- Laid: the row and the card. No conditions. -/
import Derived.Test.YthclahlplcfdpaaGreatDoorMdWp
import Derived.Test.YthclahlplcfdpaaGreatDoorMdXf
import Derived.Test.YthclahlplcfdpaaGreatDoorCards
import Derived.Test.YthclahlplcfdpaaGreatDoorTie
import Derived.ChangeMaps
import Derived.Carry
import Derived.Lay
set_option linter.unusedVariables false
set_option linter.unusedSimpArgs false
set_option maxRecDepth 100000
namespace Go.Proofs.YthclahlplcfdpaaGreatDoor
open Go.Dm Go.ChangeMaps Go.ChangeShapes Go.WideShapes Go.ChangeAt Go.RowKit
theorem mdlinkLaid_below {HH : Type} {enc : TypeId × Value → HH} {W : World} (hL : laidMetH Tryz.prog laidV W) {m : Int} (hm : W.cell? ⟨gMax, 0, none⟩ = some (.int .i64 m)) (a0 : List UInt8) (a1 : List UInt8) (a2 : List UInt8) (a3 : Int) (wa3 : (Lit.int .u8 a3).wf = true) (a4 : Bool) (a5 : Bool) :
    Calls Tryz.prog 6 #[str a0, str a1, str a2, .int .u8 a3, .bool a4, .bool a5] W fun e W' => e = .returned (.bool true) ∧ Below W.heap.size W W' := by
  obtain ⟨ws, hw⟩ : ∃ ws, WinsOk G0 (glS m) ws W := ⟨[], wins_ok (laid_plain hL) hm⟩
  exact call_below env0 mixed0 code0 plug0 (winsH_rel _ hw) (winsH_ro _ _ _) (.cons (.plain rfl) (.cons (.plain rfl) (.cons (.plain rfl) (.cons (.plain rfl) (.cons (.plain rfl) (.cons (.plain rfl) .nil)))))) (law_Laid a0 a1 a2 a3 wa3 a4 a5 rfl (gm_wins m _))
theorem mdlinkLaid_lifted (os : Os) (started : os.Started) (H : Type) (enc : TypeId × Value → H) :
    ReturnsInHanded {} Tryz.checked os 6 .any (fun w args => (Rows.mdlinkLaidSpec.pre enc Tryz.prog Tryz.f6 [] false w args ∧ laidMetH Tryz.prog laidV w) ∧ sizedMet enc Tryz.prog Tryz.f6 (OpenSpec.ofChange Rows.mdlinkLaidSpec) false w args)
      (Rows.mdlinkLaidSpec.post enc Tryz.prog Tryz.f6 false true false false) := by
  refine change_and_shaped (C := Tryz.checked) (X := fun w _ => laidMetH Tryz.prog laidV w) (fun _ _ _ hh h => h.of_heap hh) own started (by kernel_rfl) Tryz.func6
    (ChangeSpec.witness_shaped (enc := enc) (C := Tryz.checked) (os := os) (X := fun w _ => laidMetH Tryz.prog laidV w) false (World.laidAll Tryz.prog os laidV) #[.string .empty, .string .empty, .string .empty, .int .u8 0, .bool false, .bool false] 8 (World.laidAll_os _ _ _) (World.shaped_of_ZipB (by kernel_rfl) (by kernel_rfl)) (by kernel_rfl) (by kernel_rfl) (by kernel_rfl) (met_all os _)) ?_
  intro W base args ds gs before hval0 hW hL hsh
  obtain ⟨m, hm⟩ := max_num hsh
  have hval : ∀ (j : Nat) t v, Tryz.f6.params[j]? = some t → args[j]? = some v → Value.okWide Tryz.prog W .any base t v := hval0
  have hW' := hW
  obtain ⟨p, q, hA0, hV, rfl, hfz, hnd⟩ := hW
  have hA : DataW.TrodAll enc Tryz.prog W 0 (fun _ => true) true Tryz.f6.params.toList args.toList ds p := hA0
  rw [Tryz.params6] at hA hval
  obtain ⟨v0, v1, v2, v3, v4, v5, d0, d1, d2, d3, d4, d5, p0, p1, p2, p3, p4, p5, rfl, rfl, rfl, h0, h1, h2, h3, h4, h5⟩ := trodAll_six hA
  obtain ⟨rfl, rfl⟩ := trodVars_none hV
  obtain ⟨a0, rfl, rfl, rfl, wa0⟩ := open_string Tryz.underlying9 (hval 0 _ v0 rfl rfl) h0
  obtain ⟨a1, rfl, rfl, rfl, wa1⟩ := open_string Tryz.underlying9 (hval 1 _ v1 rfl rfl) h1
  obtain ⟨a2, rfl, rfl, rfl, wa2⟩ := open_string Tryz.underlying9 (hval 2 _ v2 rfl rfl) h2
  obtain ⟨a3, rfl, rfl, rfl, wa3⟩ := open_int Tryz.underlying5 (hval 3 _ v3 rfl rfl) h3
  obtain ⟨a4, rfl, rfl, rfl⟩ := open_bool Tryz.underlying4 (hval 4 _ v4 rfl rfl) h4
  obtain ⟨a5, rfl, rfl, rfl⟩ := open_bool Tryz.underlying4 (hval 5 _ v5 rfl rfl) h5
  refine (mdlinkLaid_below (enc := enc) hL hm a0.data.toList a1.data.toList a2.data.toList a3 wa3 a4 a5).mono fun e W' ⟨he, hw⟩ => ?_
  exact ⟨_, he, post_true laidOut (by kernel_rfl) (by kernel_rfl) Tryz.underlying4 rfl rfl hW' hw⟩
theorem mdlinkLaid_holds : Rows.MdlinkLaidSaid :=
  OpenClaim.holds_of_wide 6 Tryz.f6 rfl rfl rfl rfl rfl rfl rfl ⟨rfl, rfl, rfl, rfl, rfl⟩ rfl rfl rfl rfl rfl (by kernel_rfl) Tryz.func6 (by kernel_rfl)
    (of_decide_eq_true (by kernel_rfl)) (by unfold Func.isWrapper; first | (rw [if_pos (by decide +kernel)]; kernel_rfl) | (rw [if_neg (by decide +kernel)]; exact ⟨rfl, rfl⟩))
    (fun os started H enc _ => mdlinkLaid_lifted os started H enc)
theorem mdlinkLaid_card : Rows.MdlinkLaidCardSaid :=
  Claim7.holds_tied_plain_at .later [] [.data, .pinned] true (true, "2e534fd7b39db0b08830851461015a1ad6db99221da18a31f4108196f22b5838") false
    mdlinkLaid_holds (fun _ h => by cases h) (by kernel_rfl) (fun _ h => by cases h) mdlinkLaid_row_tie rfl ⟨rfl, rfl⟩ (by kernel_rfl) rfl
    (fun f fn hf hfn => by
      obtain rfl : f = 6 := Option.some.inj ((show Tryz.prog.funcNamed "indenture/indenturelaw22.MdlinkLaid" = some 6 by kernel_rfl).symm.trans hf) |>.symm
      obtain rfl : fn = Tryz.f6 := (Option.some.inj (Tryz.func6.symm.trans hfn)).symm
      exact ⟨by kernel_rfl, fun j t ht => by
        rw [Tryz.params6] at ht
        have hm : t ∈ Tryz.f6.params.toList := by rw [Tryz.params6]; exact List.mem_of_getElem? (by simpa using ht)
        have hall : (Tryz.f6.params.toList.all fun u => !Tryz.prog.wantsStandIn u) = true := by kernel_rfl
        exact (show Tryz.prog.wantsStandIn t = false by simpa using List.all_eq_true.1 hall t hm)⟩)
    (by kernel_rfl)
#print axioms mdlinkLaid_card
end Go.Proofs.YthclahlplcfdpaaGreatDoor
