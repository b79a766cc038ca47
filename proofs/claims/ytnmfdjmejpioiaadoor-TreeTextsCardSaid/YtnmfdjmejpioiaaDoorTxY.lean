/- TreeTexts and TreeBack answer true at every input and leave the input as it was, with the listed variables laid as the program text says; no further condition. -/
import Derived.Test.YtnmfdjmejpioiaaDoorTxW
import Derived.Test.YtnmfdjmejpioiaaDoorTxX
import Derived.Test.YtnmfdjmejpioiaaDoorCards
import Derived.Test.YtnmfdjmejpioiaaDoorTie
set_option linter.unusedVariables false
set_option linter.unusedSimpArgs false
set_option maxRecDepth 100000
namespace Go.Proofs.YtnmfdjmejpioiaaDoor
open Go.Dm Go.ChangeMaps Go.ChangeShapes Go.WideShapes Go.ChangeAt Go.RowKit
theorem treeTexts_below {HH : Type} {enc : TypeId × Value → HH} {W : World} (hL : laidMetH Tryd.prog laidV W) {base : Nat} {v0 : Value} {d0 : DataW HH} {p0 : List MemPlace} (hval : Value.okWide Tryd.prog W .any base 22 v0)
    (hd : DataW.Trod enc Tryd.prog W 0 (fun _ => true) true 22 v0 d0 p0) (a1 : List UInt8) :
    Calls Tryd.prog 9 #[v0, str a1] W fun e W' => e = .returned (.bool true) ∧ Below W.heap.size W W' := by
  have hL2 := laid_plain hL
  obtain ⟨ws, v, l, hw, hr, hv, hk⟩ := node_arg (laid_lastV hL2) hval hd
  obtain ⟨gs, x, hw2, hGp, hGe⟩ := more hL2 hw
  exact call_below env0 mixed0 code0 plug0 (winsH_rel _ hw2) (winsH_ro _ _ _) (.cons (hv.mono (inj_more ws x)) (.cons (.plain rfl) .nil)) (law_Texts l a1 hk v _ rfl hGp hGe (rdn_more hr))
theorem treeTexts_lifted (os : Os) (started : os.Started) (H : Type) (enc : TypeId × Value → H) :
    ReturnsInHanded {} Tryd.checked os 9 .any (fun w args => (Rows.treeTextsSpec.pre enc Tryd.prog Tryd.f9 [] false w args ∧ laidMetH Tryd.prog laidV w) ∧ sizedMet enc Tryd.prog Tryd.f9 (OpenSpec.ofChange Rows.treeTextsSpec) false w args)
      (Rows.treeTextsSpec.post enc Tryd.prog Tryd.f9 false true false false) := by
  refine returnsInHanded_of_change_and (C := Tryd.checked) (X := fun w _ => laidMetH Tryd.prog laidV w) (fun _ _ _ hh h => h.of_heap hh) own started (by kernel_rfl) Tryd.func9
    (ChangeSpec.witness_shaped (enc := enc) (C := Tryd.checked) (os := os) (X := fun w _ => laidMetH Tryd.prog laidV w) false (World.laidAll Tryd.prog os laidV) #[.slice none 0 0, .string .empty] 8 (World.laidAll_os _ _ _) (World.shaped_of_ZipB (by kernel_rfl) (by kernel_rfl)) (by kernel_rfl) (by kernel_rfl) (by kernel_rfl) (met_all os _)) ?_
  intro W base args ds gs before hval0 hW _ hsz hL _
  have hval : ∀ (j : Nat) t v, Tryd.f9.params[j]? = some t → args[j]? = some v → Value.okWide Tryd.prog W .any base t v := hval0
  have hW' := hW
  obtain ⟨p, q, hA0, hV, rfl, hfz, hnd⟩ := hW
  have hA : DataW.TrodAll enc Tryd.prog W 0 (fun _ => true) true Tryd.f9.params.toList args.toList ds p := hA0
  rw [Tryd.params9] at hA hval
  obtain ⟨v0, v1, d0, d1, p0, p1, rfl, rfl, rfl, h0, h1⟩ := trodAll_two hA
  obtain ⟨rfl, rfl⟩ := trodVars_none hV
  obtain ⟨a1, rfl, rfl, rfl, wa1⟩ := open_string Tryd.underlying9 (hval 1 _ v1 rfl rfl) h1
  refine (treeTexts_below hL (hval 0 _ v0 rfl rfl) h0 a1.data.toList).mono fun e W' ⟨he, hw⟩ => ?_
  exact ⟨_, he, post_true laidOut (by kernel_rfl) (by kernel_rfl) Tryd.underlying4 rfl rfl hW' hw⟩
theorem treeTexts_holds : Rows.TreeTextsSaid :=
  OpenClaim.holds_of_wide 9 Tryd.f9 rfl rfl rfl rfl rfl rfl rfl ⟨rfl, rfl, rfl, rfl, rfl⟩ rfl rfl rfl rfl rfl (by kernel_rfl) Tryd.func9 (by kernel_rfl)
    (of_decide_eq_true (by kernel_rfl)) (by unfold Func.isWrapper; first | (rw [if_pos (by decide +kernel)]; kernel_rfl) | (rw [if_neg (by decide +kernel)]; exact ⟨rfl, rfl⟩))
    (fun os started H enc _ => treeTexts_lifted os started H enc)
theorem treeTexts_card : Rows.TreeTextsCardSaid :=
  Claim7.holds_tied_plain_at .later [] [.data, .data, .data, .data, .sentinel, .sentinel, .pinned] true (true, "941c2d36f69a0ee3ce82870923b9d39124aaf6e6aba0b17a7483d67650bf7116") true
    treeTexts_holds (fun _ h => by cases h) (by kernel_rfl) (fun _ h => by cases h) treeTexts_row_tie rfl ⟨rfl, rfl⟩ (by kernel_rfl) rfl
    (fun f fn hf hfn => by
      obtain rfl : f = 9 := Option.some.inj ((show Tryd.prog.funcNamed "indenture/indenturelaw06.TreeTexts" = some 9 by kernel_rfl).symm.trans hf) |>.symm
      obtain rfl : fn = Tryd.f9 := (Option.some.inj (Tryd.func9.symm.trans hfn)).symm
      exact ⟨by kernel_rfl, fun j t ht => by
        rw [Tryd.params9] at ht
        have hm : t ∈ Tryd.f9.params.toList := by rw [Tryd.params9]; exact List.mem_of_getElem? (by simpa using ht)
        have hall : (Tryd.f9.params.toList.all fun u => !Tryd.prog.wantsStandIn u) = true := by kernel_rfl
        exact (show Tryd.prog.wantsStandIn t = false by simpa using List.all_eq_true.1 hall t hm)⟩)
    (by kernel_rfl)
#print axioms treeTexts_card
theorem treeBack_below {HH : Type} {enc : TypeId × Value → HH} {W : World} (hL : laidMetH Tryd.prog laidV W) {base : Nat} {v0 : Value} {d0 : DataW HH} {p0 : List MemPlace} (hval : Value.okWide Tryd.prog W .any base 22 v0)
    (hd : DataW.Trod enc Tryd.prog W 0 (fun _ => true) true 22 v0 d0 p0) (a1 : List UInt8) :
    Calls Tryd.prog 10 #[v0, str a1] W fun e W' => e = .returned (.bool true) ∧ Below W.heap.size W W' := by
  have hL2 := laid_plain hL
  obtain ⟨ws, v, l, hw, hr, hv, hk⟩ := node_arg (laid_lastV hL2) hval hd
  obtain ⟨gs, x, hw2, hGp, hGe⟩ := more hL2 hw
  exact call_below env0 mixed0 code0 plug0 (winsH_rel _ hw2) (winsH_ro _ _ _) (.cons (hv.mono (inj_more ws x)) (.cons (.plain rfl) .nil)) (law_Back l a1 hk v _ rfl hGp hGe (rdn_more hr))
theorem treeBack_lifted (os : Os) (started : os.Started) (H : Type) (enc : TypeId × Value → H) :
    ReturnsInHanded {} Tryd.checked os 10 .any (fun w args => (Rows.treeBackSpec.pre enc Tryd.prog Tryd.f10 [] false w args ∧ laidMetH Tryd.prog laidV w) ∧ sizedMet enc Tryd.prog Tryd.f10 (OpenSpec.ofChange Rows.treeBackSpec) false w args)
      (Rows.treeBackSpec.post enc Tryd.prog Tryd.f10 false true false false) := by
  refine returnsInHanded_of_change_and (C := Tryd.checked) (X := fun w _ => laidMetH Tryd.prog laidV w) (fun _ _ _ hh h => h.of_heap hh) own started (by kernel_rfl) Tryd.func10
    (ChangeSpec.witness_shaped (enc := enc) (C := Tryd.checked) (os := os) (X := fun w _ => laidMetH Tryd.prog laidV w) false (World.laidAll Tryd.prog os laidV) #[.slice none 0 0, .string .empty] 8 (World.laidAll_os _ _ _) (World.shaped_of_ZipB (by kernel_rfl) (by kernel_rfl)) (by kernel_rfl) (by kernel_rfl) (by kernel_rfl) (met_all os _)) ?_
  intro W base args ds gs before hval0 hW _ hsz hL _
  have hval : ∀ (j : Nat) t v, Tryd.f10.params[j]? = some t → args[j]? = some v → Value.okWide Tryd.prog W .any base t v := hval0
  have hW' := hW
  obtain ⟨p, q, hA0, hV, rfl, hfz, hnd⟩ := hW
  have hA : DataW.TrodAll enc Tryd.prog W 0 (fun _ => true) true Tryd.f10.params.toList args.toList ds p := hA0
  rw [Tryd.params10] at hA hval
  obtain ⟨v0, v1, d0, d1, p0, p1, rfl, rfl, rfl, h0, h1⟩ := trodAll_two hA
  obtain ⟨rfl, rfl⟩ := trodVars_none hV
  obtain ⟨a1, rfl, rfl, rfl, wa1⟩ := open_string Tryd.underlying9 (hval 1 _ v1 rfl rfl) h1
  refine (treeBack_below hL (hval 0 _ v0 rfl rfl) h0 a1.data.toList).mono fun e W' ⟨he, hw⟩ => ?_
  exact ⟨_, he, post_true laidOut (by kernel_rfl) (by kernel_rfl) Tryd.underlying4 rfl rfl hW' hw⟩
theorem treeBack_holds : Rows.TreeBackSaid :=
  OpenClaim.holds_of_wide 10 Tryd.f10 rfl rfl rfl rfl rfl rfl rfl ⟨rfl, rfl, rfl, rfl, rfl⟩ rfl rfl rfl rfl rfl (by kernel_rfl) Tryd.func10 (by kernel_rfl)
    (of_decide_eq_true (by kernel_rfl)) (by unfold Func.isWrapper; first | (rw [if_pos (by decide +kernel)]; kernel_rfl) | (rw [if_neg (by decide +kernel)]; exact ⟨rfl, rfl⟩))
    (fun os started H enc _ => treeBack_lifted os started H enc)
theorem treeBack_card : Rows.TreeBackCardSaid :=
  Claim7.holds_tied_plain_at .later [] [.data, .data, .data, .data, .sentinel, .sentinel, .pinned] true (true, "941c2d36f69a0ee3ce82870923b9d39124aaf6e6aba0b17a7483d67650bf7116") true
    treeBack_holds (fun _ h => by cases h) (by kernel_rfl) (fun _ h => by cases h) treeBack_row_tie rfl ⟨rfl, rfl⟩ (by kernel_rfl) rfl
    (fun f fn hf hfn => by
      obtain rfl : f = 10 := Option.some.inj ((show Tryd.prog.funcNamed "indenture/indenturelaw06.TreeBack" = some 10 by kernel_rfl).symm.trans hf) |>.symm
      obtain rfl : fn = Tryd.f10 := (Option.some.inj (Tryd.func10.symm.trans hfn)).symm
      exact ⟨by kernel_rfl, fun j t ht => by
        rw [Tryd.params10] at ht
        have hm : t ∈ Tryd.f10.params.toList := by rw [Tryd.params10]; exact List.mem_of_getElem? (by simpa using ht)
        have hall : (Tryd.f10.params.toList.all fun u => !Tryd.prog.wantsStandIn u) = true := by kernel_rfl
        exact (show Tryd.prog.wantsStandIn t = false by simpa using List.all_eq_true.1 hall t hm)⟩)
    (by kernel_rfl)
#print axioms treeBack_card
end Go.Proofs.YtnmfdjmejpioiaaDoor
