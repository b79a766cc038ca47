/- ShwordOps and ShwordReads answer true at every input and leave the input as it was, with the operators list laid as the program text says; no further condition. -/
import Derived.Test.YtpanpicbikihkaaDoorShG
import Derived.Test.YtpanpicbikihkaaDoorDFin
import Derived.Test.YtpanpicbikihkaaDoorRows
import Derived.Test.YtpanpicbikihkaaDoorCards
import Derived.Test.YtpanpicbikihkaaDoorTie
set_option linter.unusedVariables false
set_option linter.unusedSimpArgs false
set_option maxRecDepth 100000
namespace Go.Proofs.YtpanpicbikihkaaDoor
open Go.Dm Go.ChangeMaps Go.ChangeShapes Go.WideShapes Go.ChangeAt Go.RowKit

theorem own : ownKnob Tryd.prog.godebug = none := by kernel_rfl
theorem laidOut : laidOutB Tryd.prog = true := by kernel_rfl
theorem gOps : Tryd.prog.globalNamed "indenture/shword.operators" = some 0 := by kernel_rfl
theorem tOps : (Tryd.prog.globals[0]?).map (·.type) = some 48 := by kernel_rfl
def laidU : List (String × DataW Unit) := [("indenture/shword.operators", Rows.laid_indenture_shword_operators)]

theorem door_met (os : Os) (args : Array Value) : laidMetH Tryd.prog laidU ((World.doorLaid Tryd.prog 400 os).forCall (fun _ _ => 0) ⟨#[], args, []⟩).memory :=
  laidMetH_of_parts3 (fuel := 8) (laidMet_of_run' 8 (by kernel_rfl) (by kernel_rfl)) (by kernel_rfl) (by kernel_rfl)

/-- What the row's laid variable gives D's heap. -/
theorem wins_ok {W : World} (h : laidMetH Tryd.prog laidU W) : WinsOk G0 [(0, opsL.map str)] [] W := by
  rw [MakeChecks.laidMetH_plain _ _ _ (by kernel_rfl)] at h
  obtain ⟨ps, ⟨g0, t0, cs0, f0, p0, q0, hg0, ht0, hv0, hd0, _⟩, _, _⟩ := h
  obtain rfl := Option.some.inj (gOps.symm.trans hg0)
  obtain rfl := Option.some.inj (tOps.symm.trans ht0)
  obtain ⟨c', e', fr, hh, hc⟩ := laid_strs opsL gOps Tryd.underlying48 Tryd.underlying9 (by kernel_rfl) hv0 hd0
  have hlen : (opsL.map str).length ≤ c'.size := by
    have h16 := hc 16 [41] rfl
    have := (Array.getElem?_eq_some_iff.1 h16).1
    show 17 ≤ c'.size
    omega
  refine ⟨?_, ?_, ?_⟩
  · have : 0 < W.heap.size := by
      rcases Nat.lt_or_ge 0 W.heap.size with h | h
      · exact h
      · rw [Array.getElem?_eq_none h] at hh; cases hh
    exact this
  · intro p hp
    simp only [List.mem_singleton] at hp
    subst hp
    refine ⟨by decide, c', e', fr, hh, hlen, fun j v hj => ?_⟩
    rw [List.getElem?_map, Option.map_eq_some_iff] at hj
    obtain ⟨s, hs, rfl⟩ := hj
    exact ⟨_, hc j s hs, .plain rfl⟩
  · intro k x hx; cases hx

theorem reads_below {W : World} (hL : laidMetH Tryd.prog laidU W) (line : List UInt8) (a : Int) (mark : Nat) (hm : mark < 256) :
    Calls Tryd.prog 3 #[str line, .int .i64 a, .int .u8 mark] W fun e W' => e = .returned (.bool true) ∧ Below W.heap.size W W' := by
  have hw := wins_ok hL
  exact call_below env0 mixed0 code0 plug0 (winsH_rel _ hw) (winsH_ro _ _ _) (.cons (.plain rfl) (.cons (.plain rfl) (.cons (.plain rfl) .nil))) (law_Reads line a mark hm _ rfl rfl (by decide))
theorem ops_below {W : World} (hL : laidMetH Tryd.prog laidU W) (line : List UInt8) (hl : line.length < 2 ^ 62) (a : Int) :
    Calls Tryd.prog 4 #[str line, .int .i64 a] W fun e W' => e = .returned (.bool true) ∧ Below W.heap.size W W' := by
  have hw := wins_ok hL
  exact call_below env0 mixed0 code0 plug0 (winsH_rel _ hw) (winsH_ro _ _ _) (.cons (.plain rfl) (.cons (.plain rfl) .nil)) (law_Ops line a hl _ rfl rfl (by decide))
theorem str_eta (s : ByteArray) : str s.data.toList = .string s := rfl

theorem reads_lifted (os : Os) (started : os.Started) (H : Type) (enc : TypeId × Value → H) :
    ReturnsInHanded {} Tryd.checked os 3 .any (fun w args => (Rows.shwordReadsSpec.pre enc Tryd.prog Tryd.f3 [] false w args ∧ laidMetH Tryd.prog laidU w) ∧ sizedMet enc Tryd.prog Tryd.f3 (OpenSpec.ofChange Rows.shwordReadsSpec) false w args)
      (Rows.shwordReadsSpec.post enc Tryd.prog Tryd.f3 false true false false) := by
  refine returnsInHanded_of_change_and (C := Tryd.checked) (X := fun w _ => laidMetH Tryd.prog laidU w) (fun _ _ _ hh h => h.of_heap hh) own started (by kernel_rfl) Tryd.func3
    (ChangeSpec.witness_shaped (enc := enc) (C := Tryd.checked) (os := os) (X := fun w _ => laidMetH Tryd.prog laidU w) false (World.doorLaid Tryd.prog 400 os) #[.string .empty, .int .i64 0, .int .u8 0] 8 rfl (World.shaped_of_RefB (by kernel_rfl) (by kernel_rfl)) (by kernel_rfl) (by kernel_rfl) (by kernel_rfl) (door_met os _)) ?_
  intro W base args ds gs before hval0 hW _ hsz hL _
  have hval : ∀ (j : Nat) t v, Tryd.f3.params[j]? = some t → args[j]? = some v → Value.okWide Tryd.prog W .any base t v := hval0
  have hW' := hW
  obtain ⟨p, q, hA0, hV, rfl, hfz, hnd⟩ := hW
  have hA : DataW.TrodAll enc Tryd.prog W 0 (fun _ => true) true Tryd.f3.params.toList args.toList ds p := hA0
  rw [Tryd.params3] at hA hval
  obtain ⟨v0, v1, v2, d0, d1, d2, p0, p1, p2, rfl, rfl, rfl, h0, h1, h2⟩ := trodAll_three hA
  obtain ⟨rfl, rfl⟩ := trodVars_none hV
  obtain ⟨s, rfl, rfl, rfl, hs⟩ := open_string Tryd.underlying9 (hval 0 _ v0 rfl rfl) h0
  obtain ⟨a, rfl, rfl, rfl, wa⟩ := open_int Tryd.underlying3 (hval 1 _ v1 rfl rfl) h1
  obtain ⟨b, rfl, rfl, rfl, wb⟩ := open_int Tryd.underlying5 (hval 2 _ v2 rfl rfl) h2
  have hb : 0 ≤ b ∧ b ≤ 255 := by
    simp [Lit.wf, IntKind.min, IntKind.max, IntKind.signed, IntKind.bits] at wb
    omega
  obtain ⟨m, rfl⟩ := Int.eq_ofNat_of_zero_le hb.1
  refine (reads_below hL s.data.toList a m (by omega)).mono fun e W' ⟨he, hw⟩ => ?_
  exact ⟨_, he, post_true laidOut (by kernel_rfl) (by kernel_rfl) Tryd.underlying4 rfl rfl hW' hw⟩

theorem shwordReads_holds : Rows.ShwordReadsSaid :=
  OpenClaim.holds_of_wide 3 Tryd.f3 rfl rfl rfl rfl rfl rfl rfl ⟨rfl, rfl, rfl, rfl, rfl⟩ rfl rfl rfl rfl rfl (by kernel_rfl) Tryd.func3 (by kernel_rfl)
    (of_decide_eq_true (by kernel_rfl)) (by unfold Func.isWrapper; first | (rw [if_pos (by decide +kernel)]; kernel_rfl) | (rw [if_neg (by decide +kernel)]; exact ⟨rfl, rfl⟩))
    (fun os started H enc _ => reads_lifted os started H enc)
theorem shwordReads_card : Rows.ShwordReadsCardSaid :=
  Claim7.holds_tied_plain_at .later [] [.data] true (true, "2d2115c6fde36445447216151cfdec53ac3b415c83df284ac179f96ffc2e1eb9") false
    shwordReads_holds (fun _ h => by cases h) (by kernel_rfl) (fun _ h => by cases h) shwordReads_row_tie rfl ⟨rfl, rfl⟩ (by kernel_rfl) rfl
    (fun f fn hf hfn => by
      obtain rfl : f = 3 := Option.some.inj ((show Tryd.prog.funcNamed "indenture/indenturelaw15.ShwordReads" = some 3 by kernel_rfl).symm.trans hf) |>.symm
      obtain rfl : fn = Tryd.f3 := (Option.some.inj (Tryd.func3.symm.trans hfn)).symm
      exact ⟨by kernel_rfl, fun j t ht => by
        rw [Tryd.params3] at ht
        have hm : t ∈ Tryd.f3.params.toList := by rw [Tryd.params3]; exact List.mem_of_getElem? (by simpa using ht)
        have hall : (Tryd.f3.params.toList.all fun u => !Tryd.prog.wantsStandIn u) = true := by kernel_rfl
        exact (show Tryd.prog.wantsStandIn t = false by simpa using List.all_eq_true.1 hall t hm)⟩)
    (by kernel_rfl)
#print axioms shwordReads_card
theorem ops_lifted (os : Os) (started : os.Started) (H : Type) (enc : TypeId × Value → H) :
    ReturnsInHanded {} Tryd.checked os 4 .any (fun w args => (Rows.shwordOpsSpec.pre enc Tryd.prog Tryd.f4 [] false w args ∧ laidMetH Tryd.prog laidU w) ∧ sizedMet enc Tryd.prog Tryd.f4 (OpenSpec.ofChange Rows.shwordOpsSpec) false w args)
      (Rows.shwordOpsSpec.post enc Tryd.prog Tryd.f4 false true false false) := by
  refine returnsInHanded_of_change_and (C := Tryd.checked) (X := fun w _ => laidMetH Tryd.prog laidU w) (fun _ _ _ hh h => h.of_heap hh) own started (by kernel_rfl) Tryd.func4
    (ChangeSpec.witness_shaped (enc := enc) (C := Tryd.checked) (os := os) (X := fun w _ => laidMetH Tryd.prog laidU w) false (World.doorLaid Tryd.prog 400 os) #[.string .empty, .int .i64 0] 8 rfl (World.shaped_of_RefB (by kernel_rfl) (by kernel_rfl)) (by kernel_rfl) (by kernel_rfl) (by kernel_rfl) (door_met os _)) ?_
  intro W base args ds gs before hval0 hW _ hsz hL _
  have hval : ∀ (j : Nat) t v, Tryd.f4.params[j]? = some t → args[j]? = some v → Value.okWide Tryd.prog W .any base t v := hval0
  have hW' := hW
  obtain ⟨p, q, hA0, hV, rfl, hfz, hnd⟩ := hW
  have hA : DataW.TrodAll enc Tryd.prog W 0 (fun _ => true) true Tryd.f4.params.toList args.toList ds p := hA0
  rw [Tryd.params4] at hA hval
  obtain ⟨v0, v1, d0, d1, p0, p1, rfl, rfl, rfl, h0, h1⟩ := trodAll_two hA
  obtain ⟨rfl, rfl⟩ := trodVars_none hV
  obtain ⟨s, rfl, rfl, rfl, hs⟩ := open_string Tryd.underlying9 (hval 0 _ v0 rfl rfl) h0
  obtain ⟨a, rfl, rfl, rfl, wa⟩ := open_int Tryd.underlying3 (hval 1 _ v1 rfl rfl) h1
  have hlen : s.data.toList.length < 2 ^ 62 := by
    have h47 := reach_lt (sized_string (j := 0) (bytes := s.data.toList) hsz rfl rfl)
    exact Nat.lt_trans h47 (by decide)
  refine (ops_below hL s.data.toList hlen a).mono fun e W' ⟨he, hw⟩ => ?_
  exact ⟨_, he, post_true laidOut (by kernel_rfl) (by kernel_rfl) Tryd.underlying4 rfl rfl hW' hw⟩

theorem shwordOps_holds : Rows.ShwordOpsSaid :=
  OpenClaim.holds_of_wide 4 Tryd.f4 rfl rfl rfl rfl rfl rfl rfl ⟨rfl, rfl, rfl, rfl, rfl⟩ rfl rfl rfl rfl rfl (by kernel_rfl) Tryd.func4 (by kernel_rfl)
    (of_decide_eq_true (by kernel_rfl)) (by unfold Func.isWrapper; first | (rw [if_pos (by decide +kernel)]; kernel_rfl) | (rw [if_neg (by decide +kernel)]; exact ⟨rfl, rfl⟩))
    (fun os started H enc _ => ops_lifted os started H enc)
theorem shwordOps_card : Rows.ShwordOpsCardSaid :=
  Claim7.holds_tied_plain_at .later [] [.data] true (true, "2d2115c6fde36445447216151cfdec53ac3b415c83df284ac179f96ffc2e1eb9") false
    shwordOps_holds (fun _ h => by cases h) (by kernel_rfl) (fun _ h => by cases h) shwordOps_row_tie rfl ⟨rfl, rfl⟩ (by kernel_rfl) rfl
    (fun f fn hf hfn => by
      obtain rfl : f = 4 := Option.some.inj ((show Tryd.prog.funcNamed "indenture/indenturelaw15.ShwordOps" = some 4 by kernel_rfl).symm.trans hf) |>.symm
      obtain rfl : fn = Tryd.f4 := (Option.some.inj (Tryd.func4.symm.trans hfn)).symm
      exact ⟨by kernel_rfl, fun j t ht => by
        rw [Tryd.params4] at ht
        have hm : t ∈ Tryd.f4.params.toList := by rw [Tryd.params4]; exact List.mem_of_getElem? (by simpa using ht)
        have hall : (Tryd.f4.params.toList.all fun u => !Tryd.prog.wantsStandIn u) = true := by kernel_rfl
        exact (show Tryd.prog.wantsStandIn t = false by simpa using List.all_eq_true.1 hall t hm)⟩)
    (by kernel_rfl)
#print axioms shwordOps_card
end Go.Proofs.YtpanpicbikihkaaDoor
