/- TreeSums and TreeMoved answer true at every input and leave the input as it was, with the three tables laid as the program text says; no further condition. -/
import Derived.Test.YtnmfdjmejpioiaaDoorTrS
import Derived.Test.YtnmfdjmejpioiaaDoorTrX
import Derived.Test.YtnmfdjmejpioiaaDoorCards
import Derived.Test.YtnmfdjmejpioiaaDoorTie
set_option linter.unusedVariables false
set_option linter.unusedSimpArgs false
set_option maxRecDepth 100000
namespace Go.Proofs.YtnmfdjmejpioiaaDoor
open Go.Dm Go.ChangeMaps Go.ChangeShapes Go.WideShapes Go.ChangeAt Go.RowKit
theorem treeSums_below {HH : Type} {enc : TypeId × Value → HH} {W : World} (hL : laidMetH Tryd.prog laidU W) {base : Nat} {v0 : Value} {d0 : DataW HH} {p0 : List MemPlace} (hval : Value.okWide Tryd.prog W .any base 22 v0)
    (hd : DataW.Trod enc Tryd.prog W 0 (fun _ => true) true 22 v0 d0 p0) (a1 : Int) :
    Calls Tryd.prog 5 #[v0, .int .i64 a1] W fun e W' => e = .returned (.bool true) ∧ Below W.heap.size W W' := by
  obtain ⟨ws, v, l, hw, hr, hv, hk⟩ := node_arg (laid_last hL) hval hd
  exact call_below env0 mixed0 code0 plug0 (winsH_rel _ hw) (winsH_ro _ _ _) (.cons hv (.cons (.plain rfl) .nil)) (law_Sums l a1 hk v _ rfl hr)
theorem treeSums_lifted (os : Os) (started : os.Started) (H : Type) (enc : TypeId × Value → H) :
    ReturnsInHanded {} Tryd.checked os 5 .any (fun w args => (Rows.treeSumsSpec.pre enc Tryd.prog Tryd.f5 [] false w args ∧ laidMetH Tryd.prog laidU w) ∧ sizedMet enc Tryd.prog Tryd.f5 (OpenSpec.ofChange Rows.treeSumsSpec) false w args)
      (Rows.treeSumsSpec.post enc Tryd.prog Tryd.f5 false true false false) := by
  refine returnsInHanded_of_change_and (C := Tryd.checked) (X := fun w _ => laidMetH Tryd.prog laidU w) (fun _ _ _ hh h => h.of_heap hh) own started (by kernel_rfl) Tryd.func5
    (ChangeSpec.witness_shaped (enc := enc) (C := Tryd.checked) (os := os) (X := fun w _ => laidMetH Tryd.prog laidU w) false (World.doorLaid Tryd.prog 400 os) #[.slice none 0 0, .int .i64 0] 8 rfl (World.shaped_of_RefB (by kernel_rfl) (by kernel_rfl)) (by kernel_rfl) (by kernel_rfl) (by kernel_rfl) (door_met os _)) ?_
  intro W base args ds gs before hval0 hW _ hsz hL _
  have hval : ∀ (j : Nat) t v, Tryd.f5.params[j]? = some t → args[j]? = some v → Value.okWide Tryd.prog W .any base t v := hval0
  have hW' := hW
  obtain ⟨p, q, hA0, hV, rfl, hfz, hnd⟩ := hW
  have hA : DataW.TrodAll enc Tryd.prog W 0 (fun _ => true) true Tryd.f5.params.toList args.toList ds p := hA0
  rw [Tryd.params5] at hA hval
  obtain ⟨v0, v1, d0, d1, p0, p1, rfl, rfl, rfl, h0, h1⟩ := trodAll_two hA
  obtain ⟨rfl, rfl⟩ := trodVars_none hV
  obtain ⟨a1, rfl, rfl, rfl, wa1⟩ := open_int Tryd.underlying3 (hval 1 _ v1 rfl rfl) h1
  refine (treeSums_below hL (hval 0 _ v0 rfl rfl) h0 a1).mono fun e W' ⟨he, hw⟩ => ?_
  exact ⟨_, he, post_true laidOut (by kernel_rfl) (by kernel_rfl) Tryd.underlying4 rfl rfl hW' hw⟩
theorem treeSums_holds : Rows.TreeSumsSaid :=
  OpenClaim.holds_of_wide 5 Tryd.f5 rfl rfl rfl rfl rfl rfl rfl ⟨rfl, rfl, rfl, rfl, rfl⟩ rfl rfl rfl rfl rfl (by kernel_rfl) Tryd.func5 (by kernel_rfl)
    (of_decide_eq_true (by kernel_rfl)) (by unfold Func.isWrapper; first | (rw [if_pos (by decide +kernel)]; kernel_rfl) | (rw [if_neg (by decide +kernel)]; exact ⟨rfl, rfl⟩))
    (fun os started H enc _ => treeSums_lifted os started H enc)
theorem treeSums_card : Rows.TreeSumsCardSaid :=
  Claim7.holds_tied_plain_at .later [] [.data, .data, .data] true (true, "941c2d36f69a0ee3ce82870923b9d39124aaf6e6aba0b17a7483d67650bf7116") true
    treeSums_holds (fun _ h => by cases h) (by kernel_rfl) (fun _ h => by cases h) treeSums_row_tie rfl ⟨rfl, rfl⟩ (by kernel_rfl) rfl
    (fun f fn hf hfn => by
      obtain rfl : f = 5 := Option.some.inj ((show Tryd.prog.funcNamed "indenture/indenturelaw06.TreeSums" = some 5 by kernel_rfl).symm.trans hf) |>.symm
      obtain rfl : fn = Tryd.f5 := (Option.some.inj (Tryd.func5.symm.trans hfn)).symm
      exact ⟨by kernel_rfl, fun j t ht => by
        rw [Tryd.params5] at ht
        have hm : t ∈ Tryd.f5.params.toList := by rw [Tryd.params5]; exact List.mem_of_getElem? (by simpa using ht)
        have hall : (Tryd.f5.params.toList.all fun u => !Tryd.prog.wantsStandIn u) = true := by kernel_rfl
        exact (show Tryd.prog.wantsStandIn t = false by simpa using List.all_eq_true.1 hall t hm)⟩)
    (by kernel_rfl)
#print axioms treeSums_card
theorem treeMoved_below {HH : Type} {enc : TypeId × Value → HH} {W : World} (hL : laidMetH Tryd.prog laidU W) {base : Nat} {v0 : Value} {d0 : DataW HH} {p0 : List MemPlace} (hval : Value.okWide Tryd.prog W .any base 22 v0)
    (hd : DataW.Trod enc Tryd.prog W 0 (fun _ => true) true 22 v0 d0 p0) (a1 : Int) (a2 : Int) :
    Calls Tryd.prog 6 #[v0, .int .i64 a1, .int .i64 a2] W fun e W' => e = .returned (.bool true) ∧ Below W.heap.size W W' := by
  obtain ⟨ws, v, l, hw, hr, hv, hk⟩ := node_arg (laid_last hL) hval hd
  exact call_below env0 mixed0 code0 plug0 (winsH_rel _ hw) (winsH_ro _ _ _) (.cons hv (.cons (.plain rfl) (.cons (.plain rfl) .nil))) (law_Moved l a1 a2 hk v _ rfl hr)
theorem treeMoved_lifted (os : Os) (started : os.Started) (H : Type) (enc : TypeId × Value → H) :
    ReturnsInHanded {} Tryd.checked os 6 .any (fun w args => (Rows.treeMovedSpec.pre enc Tryd.prog Tryd.f6 [] false w args ∧ laidMetH Tryd.prog laidU w) ∧ sizedMet enc Tryd.prog Tryd.f6 (OpenSpec.ofChange Rows.treeMovedSpec) false w args)
      (Rows.treeMovedSpec.post enc Tryd.prog Tryd.f6 false true false false) := by
  refine returnsInHanded_of_change_and (C := Tryd.checked) (X := fun w _ => laidMetH Tryd.prog laidU w) (fun _ _ _ hh h => h.of_heap hh) own started (by kernel_rfl) Tryd.func6
    (ChangeSpec.witness_shaped (enc := enc) (C := Tryd.checked) (os := os) (X := fun w _ => laidMetH Tryd.prog laidU w) false (World.doorLaid Tryd.prog 400 os) #[.slice none 0 0, .int .i64 0, .int .i64 0] 8 rfl (World.shaped_of_RefB (by kernel_rfl) (by kernel_rfl)) (by kernel_rfl) (by kernel_rfl) (by kernel_rfl) (door_met os _)) ?_
  intro W base args ds gs before hval0 hW _ hsz hL _
  have hval : ∀ (j : Nat) t v, Tryd.f6.params[j]? = some t → args[j]? = some v → Value.okWide Tryd.prog W .any base t v := hval0
  have hW' := hW
  obtain ⟨p, q, hA0, hV, rfl, hfz, hnd⟩ := hW
  have hA : DataW.TrodAll enc Tryd.prog W 0 (fun _ => true) true Tryd.f6.params.toList args.toList ds p := hA0
  rw [Tryd.params6] at hA hval
  obtain ⟨v0, v1, v2, d0, d1, d2, p0, p1, p2, rfl, rfl, rfl, h0, h1, h2⟩ := trodAll_three hA
  obtain ⟨rfl, rfl⟩ := trodVars_none hV
  obtain ⟨a1, rfl, rfl, rfl, wa1⟩ := open_int Tryd.underlying3 (hval 1 _ v1 rfl rfl) h1
  obtain ⟨a2, rfl, rfl, rfl, wa2⟩ := open_int Tryd.underlying3 (hval 2 _ v2 rfl rfl) h2
  refine (treeMoved_below hL (hval 0 _ v0 rfl rfl) h0 a1 a2).mono fun e W' ⟨he, hw⟩ => ?_
  exact ⟨_, he, post_true laidOut (by kernel_rfl) (by kernel_rfl) Tryd.underlying4 rfl rfl hW' hw⟩
theorem treeMoved_holds : Rows.TreeMovedSaid :=
  OpenClaim.holds_of_wide 6 Tryd.f6 rfl rfl rfl rfl rfl rfl rfl ⟨rfl, rfl, rfl, rfl, rfl⟩ rfl rfl rfl rfl rfl (by kernel_rfl) Tryd.func6 (by kernel_rfl)
    (of_decide_eq_true (by kernel_rfl)) (by unfold Func.isWrapper; first | (rw [if_pos (by decide +kernel)]; kernel_rfl) | (rw [if_neg (by decide +kernel)]; exact ⟨rfl, rfl⟩))
    (fun os started H enc _ => treeMoved_lifted os started H enc)
theorem treeMoved_card : Rows.TreeMovedCardSaid :=
  Claim7.holds_tied_plain_at .later [] [.data, .data, .data] true (true, "941c2d36f69a0ee3ce82870923b9d39124aaf6e6aba0b17a7483d67650bf7116") true
    treeMoved_holds (fun _ h => by cases h) (by kernel_rfl) (fun _ h => by cases h) treeMoved_row_tie rfl ⟨rfl, rfl⟩ (by kernel_rfl) rfl
    (fun f fn hf hfn => by
      obtain rfl : f = 6 := Option.some.inj ((show Tryd.prog.funcNamed "indenture/indenturelaw06.TreeMoved" = some 6 by kernel_rfl).symm.trans hf) |>.symm
      obtain rfl : fn = Tryd.f6 := (Option.some.inj (Tryd.func6.symm.trans hfn)).symm
      exact ⟨by kernel_rfl, fun j t ht => by
        rw [Tryd.params6] at ht
        have hm : t ∈ Tryd.f6.params.toList := by rw [Tryd.params6]; exact List.mem_of_getElem? (by simpa using ht)
        have hall : (Tryd.f6.params.toList.all fun u => !Tryd.prog.wantsStandIn u) = true := by kernel_rfl
        exact (show Tryd.prog.wantsStandIn t = false by simpa using List.all_eq_true.1 hall t hm)⟩)
    (by kernel_rfl)
#print axioms treeMoved_card
end Go.Proofs.YtnmfdjmejpioiaaDoor
