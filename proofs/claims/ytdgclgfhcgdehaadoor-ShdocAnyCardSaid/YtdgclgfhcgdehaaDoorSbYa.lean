/- ShdocAny answers true at every input and leaves the input as it was, with the laid tables as the program text says; no further condition. -/
import Derived.Test.YtdgclgfhcgdehaaDoorSbO
import Derived.Test.YtdgclgfhcgdehaaDoorSdX
import Derived.Test.YtdgclgfhcgdehaaDoorCards
import Derived.Test.YtdgclgfhcgdehaaDoorTie
set_option linter.unusedVariables false
set_option linter.unusedSimpArgs false
set_option maxRecDepth 100000
namespace Go.Proofs.YtdgclgfhcgdehaaDoor
open Go.Dm Go.ChangeMaps Go.ChangeShapes Go.WideShapes Go.ChangeAt Go.RowKit
theorem shdocAny_below {HH : Type} {enc : TypeId × Value → HH} {W : World} (hL : laidMetH Tryd.prog laidV W) (a0 : ShS) (o0 : a0.ok) (a1 : List UInt8) :
    Calls Tryd.prog 7 #[.agg (encS a0).toArray, str a1] W fun e W' => e = .returned (.bool true) ∧ Below W.heap.size W W' := by
  obtain ⟨ws, hw⟩ : ∃ ws, WinsOk G0 glS ws W := ⟨[], wins_ok (laid_plain hL)⟩
  exact call_below env0 mixed0 code0 plug0 (winsH_rel _ hw) (winsH_ro _ _ _) (.cons (plain_encS a0) (.cons (.plain rfl) .nil)) (law_Any a0 o0 a1 _ rfl (gl_wins ws) (g_lt ws))
theorem shdocAny_lifted (os : Os) (started : os.Started) (H : Type) (enc : TypeId × Value → H) :
    ReturnsInHanded {} Tryd.checked os 7 .any (fun w args => (Rows.shdocAnySpec.pre enc Tryd.prog Tryd.f7 [] false w args ∧ laidMetH Tryd.prog laidV w) ∧ sizedMet enc Tryd.prog Tryd.f7 (OpenSpec.ofChange Rows.shdocAnySpec) false w args)
      (Rows.shdocAnySpec.post enc Tryd.prog Tryd.f7 false true false false) := by
  refine returnsInHanded_of_change_and (C := Tryd.checked) (X := fun w _ => laidMetH Tryd.prog laidV w) (fun _ _ _ hh h => h.of_heap hh) own started (by kernel_rfl) Tryd.func7
    (ChangeSpec.witness_shaped (enc := enc) (C := Tryd.checked) (os := os) (X := fun w _ => laidMetH Tryd.prog laidV w) false (World.laidAll Tryd.prog os laidV) #[.agg (encS zS).toArray, .string .empty] 8 (World.laidAll_os _ _ _) (World.shaped_of_ZipB (by kernel_rfl) (by kernel_rfl)) (by kernel_rfl) (by kernel_rfl) (by kernel_rfl) (met_all os _)) ?_
  intro W base args ds gs before hval0 hW _ hsz hL _
  have hval : ∀ (j : Nat) t v, Tryd.f7.params[j]? = some t → args[j]? = some v → Value.okWide Tryd.prog W .any base t v := hval0
  have hW' := hW
  obtain ⟨p, q, hA0, hV, rfl, hfz, hnd⟩ := hW
  have hA : DataW.TrodAll enc Tryd.prog W 0 (fun _ => true) true Tryd.f7.params.toList args.toList ds p := hA0
  rw [Tryd.params7] at hA hval
  obtain ⟨v0, v1, d0, d1, p0, p1, rfl, rfl, rfl, h0, h1⟩ := trodAll_two hA
  obtain ⟨rfl, rfl⟩ := trodVars_none hV
  obtain ⟨a0, o0, _, _, rfl⟩ := state_arg (hval 0 _ v0 rfl rfl)
  obtain ⟨a1, rfl, rfl, rfl, wa1⟩ := open_string Tryd.underlying9 (hval 1 _ v1 rfl rfl) h1
  refine (shdocAny_below (enc := enc) hL a0 o0 a1.data.toList).mono fun e W' ⟨he, hw⟩ => ?_
  exact ⟨_, he, post_true laidOut (by kernel_rfl) (by kernel_rfl) Tryd.underlying4 rfl rfl hW' hw⟩
theorem shdocAny_holds : Rows.ShdocAnySaid :=
  OpenClaim.holds_of_wide 7 Tryd.f7 rfl rfl rfl rfl rfl rfl rfl ⟨rfl, rfl, rfl, rfl, rfl⟩ rfl rfl rfl rfl rfl (by kernel_rfl) Tryd.func7 (by kernel_rfl)
    (of_decide_eq_true (by kernel_rfl)) (by unfold Func.isWrapper; first | (rw [if_pos (by decide +kernel)]; kernel_rfl) | (rw [if_neg (by decide +kernel)]; exact ⟨rfl, rfl⟩))
    (fun os started H enc _ => shdocAny_lifted os started H enc)
theorem shdocAny_card : Rows.ShdocAnyCardSaid :=
  Claim7.holds_tied_plain_at .later [] [.data, .data, .pinned] true (true, "762370412fd8fdfb487d96e0cd32da77240968d92934ebf90c0e9dbae0a2dd67") false
    shdocAny_holds (fun _ h => by cases h) (by kernel_rfl) (fun _ h => by cases h) shdocAny_row_tie rfl ⟨rfl, rfl⟩ (by kernel_rfl) rfl
    (fun f fn hf hfn => by
      obtain rfl : f = 7 := Option.some.inj ((show Tryd.prog.funcNamed "indenture/indenturelaw16.ShdocAny" = some 7 by kernel_rfl).symm.trans hf) |>.symm
      obtain rfl : fn = Tryd.f7 := (Option.some.inj (Tryd.func7.symm.trans hfn)).symm
      exact ⟨by kernel_rfl, fun j t ht => by
        rw [Tryd.params7] at ht
        have hm : t ∈ Tryd.f7.params.toList := by rw [Tryd.params7]; exact List.mem_of_getElem? (by simpa using ht)
        have hall : (Tryd.f7.params.toList.all fun u => !Tryd.prog.wantsStandIn u) = true := by kernel_rfl
        exact (show Tryd.prog.wantsStandIn t = false by simpa using List.all_eq_true.1 hall t hm)⟩)
    (by kernel_rfl)
#print axioms shdocAny_card
end Go.Proofs.YtdgclgfhcgdehaaDoor
