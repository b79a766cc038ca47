/- sort.Slice of links as a plug of the machine D's. -/
import Derived.Test.YthclahlplcfdpaaGreatDoorMdSl
import Derived.Test.YthclahlplcfdpaaGreatDoorMdX
import Derived.Test.YthclahlplcfdpaaGreatDoorMdL
import Derived.WalkKit
import Derived.Outline
import Derived.RegionTactic
import Derived.WalkSpells
set_option linter.unusedVariables false
set_option linter.unusedSimpArgs false
namespace Go.Dm
open Go.Sort Go.RowKit Go.Proofs Go.Shelf
noncomputable def svT : TypeInfo := (Tryz.prog.info? 27).get (by kernel_rfl)
noncomputable def svE : TypeInfo := (Tryz.prog.info? 33).get (by kernel_rfl)
theorem svK (n : Nat) (h2 : 2 ≤ n) : Lib.swapperK n svE 25 = 9 := by
  have a : svE.hasPointers = false := by kernel_rfl
  have b : svE.bytes = 40 := by kernel_rfl
  have c : (n == 0) = false := by simp; omega
  have d : (n == 1) = false := by simp; omega
  simp [Lib.swapperK, a, b, c, d]
set_option maxHeartbeats 2000000 in
theorem lkless (blk off c Bs Bo size : Nat) (W : World) (G : Nat → Int) (hs : W.cell? ⟨Bs, Bo, none⟩ = some (.slice (some ⟨blk, off, none⟩) size c))
    (hc : ∀ t, t < size → W.cell? ⟨blk, off + t * 5, none⟩ = some (.int .i64 (G t))) (i j : Nat) (hi : i < size) (hj : j < size) (_hsz : size < 4611686018427387904) :
    Calls Tryz.prog 36 #[.int .i64 i, .int .i64 j, .pointer (some ⟨Bs, Bo, none⟩)] W fun e w' => e = .returned (.bool (decide (G i < G j))) ∧ ∃ q, w' = W.drewN q := by
  have ci := hc i hi
  have cj := hc j hj
  go_enter Tryz.func36, Tryz.ntmps36
  go_wp2
  go_quiet (fail)
  go_wp2
  go_ret
  exact ⟨rfl, nq, rfl⟩
section
variable {ok : OkC} {G : Nat} {m : Inj} {h : H} {w : World}
/-- What is known of a row that D owns. -/
theorem holds_ofV (R : HRel ok G m h w) {b : Nat} {i : Img} {cs : List Value} {st o : Nat} {ty : Option TypeId} {zs : List Value} (hb : h.get b = some (.cells cs st true 0 ty)) (hi : m b = some i) (hcs : (cs.drop o).take zs.length = zs) (hpl : ∀ x ∈ zs, ∀ v', VRel m x v' → v' = x) :
    Go.Sort.Holds id w i.blk (o + i.off) zs.toArray := by
  obtain ⟨h0, c', e, lo, hi', h1, h2, h3, h4, h5, h6⟩ := R.obj b _ i hb hi
  intro j hj
  have hj' : j < zs.length := by simpa using hj
  have hc : cs[o + j]? = some (zs[j]) := by
    have := congrArg (fun l => l[j]?) hcs
    simp only [List.getElem?_take, hj', if_true, List.getElem?_drop, List.getElem?_eq_getElem hj', Option.map_some] at this
    exact this
  obtain ⟨v', g1, g2⟩ := h4 _ _ hc
  have hlt : i.off + (o + j) < c'.size := (Array.getElem?_eq_some_iff.1 g1).1
  have h5' := h5 rfl
  have eq1 : o + i.off + j = i.off + (o + j) := by omega
  refine ⟨?_, ?_⟩
  · simp only [World.cell?, h1, Option.isSome_none, Bool.false_eq_true, if_false, eq1, g1]
    rw [hpl _ (List.getElem_mem hj') _ g2]
    simp [hj']
  · simp only [World.frozen?, h1, eq1]
    rw [← h2] at h5'
    rcases h5' with h | h | h
    · simp; omega
    · simp; omega
    · simp; omega
/-- A row's cells get others. -/
theorem row_updV (R : HRel ok G m h w) {b : Nat} {i : Img} {cs : List Value} {st o n : Nat} {ty : Option TypeId} {zs : List Value} (hb : h.get b = some (.cells cs st true 0 ty)) (hi : m b = some i) (hle : o + zs.length ≤ cs.length) (hpl : ∀ x ∈ zs, VRel m x x) (os : Array Obj) :
    HRel ok G m (h.put b (.cells (setAt cs o (zs)) st true 0 ty)) (grow (putRow id (Sort.ahead w n) i.blk (o + i.off) zs.toArray) os) ∧ Evo m h w m (h.put b (.cells (setAt cs o (zs)) st true 0 ty)) (grow (putRow id (Sort.ahead w n) i.blk (o + i.off) zs.toArray) os) := by
  obtain ⟨h0, c', e, lo, hi', h1, h2, h3, h4, h5, h6⟩ := R.obj b _ i hb hi
  obtain ⟨w1, hw1⟩ : ∃ w1, w1 = putRow id (Sort.ahead w n) i.blk (o + i.off) zs.toArray := ⟨_, rfl⟩
  have hs : w1.heap.size = w.heap.size := by rw [hw1]; simp [putRow, mapBlock, Sort.ahead]
  have hot : ∀ r, r ≠ i.blk → w1.heap[r]? = w.heap[r]? := fun r hr => by
    rw [hw1]; simp [putRow, mapBlock, Sort.ahead, Array.getElem?_modify]
    intro e; exact absurd e.symm hr
  have hbl : w1.heap[i.blk]? = some (.cells (putCells id (o + i.off) zs.toArray c') e (lo, hi')) := by
    rw [hw1]; simp [putRow, mapBlock, Sort.ahead, Array.getElem?_modify, h1, onCells]
  have hO : ORel ok m w1 i (.cells (setAt cs o (zs)) st true 0 ty) := by
    refine ⟨h0, _, e, lo, hi', hbl, by simp [putCells, h2], by rw [setAt_length]; simpa [putCells] using h3, ?_, h5, h6⟩
    intro j v hv
    rw [setAt_at _ _ _ (by simpa using hle)] at hv
    by_cases hj : o ≤ j ∧ j < o + zs.length
    · rw [if_pos hj] at hv
      have hjl : j - o < zs.length := by omega
      rw [List.getElem?_eq_getElem hjl] at hv
      cases hv
      refine ⟨zs[j - o], ?_, hpl _ (List.getElem_mem hjl)⟩
      have hlt : i.off + j < c'.size := by omega
      simp only [putCells, Array.getElem?_mapIdx, Array.getElem?_eq_getElem hlt, Option.map_some, List.size_toArray]
      rw [if_pos (by omega), show i.off + j - (o + i.off) = j - o by omega]
      simp [hjl]
    · rw [if_neg hj] at hv
      obtain ⟨v', g1, g2⟩ := h4 j v hv
      refine ⟨v', ?_, g2⟩
      simp only [putCells, Array.getElem?_mapIdx, g1, Option.map_some, List.size_toArray]
      rw [if_neg (by omega)]
  have R1 : HRel ok G m (h.put b (.cells (setAt cs o (zs)) st true 0 ty)) w1 := R.upd hb rfl hi hs hot hO
  have e1 : Evo m h w m (h.put b (.cells (setAt cs o (zs)) st true 0 ty)) w1 := Evo.upd hb rfl hi (by rw [hw1]; rfl) (by rw [hw1]; rfl) (by rw [hw1]; rfl) hs hot
  rw [← hw1]
  obtain ⟨R2, e2⟩ := R1.below' (below_grow w1 os)
  exact ⟨R2, e1.trans e2⟩
theorem lsLen : ∀ l : List Lk, (encLs l).length = l.length * 5
  | [] => rfl
  | x :: l => by
    have := lsLen l
    show (encLk x ++ encLs l).length = _
    rw [List.length_append, this]
    simp [encLk]
    omega
theorem encLs_at : ∀ (l : List Lk) (i j : Nat) (hi : i < l.length), j < 5 → (encLs l)[i * 5 + j]? = (encLk l[i])[j]?
  | x :: l, 0, j, hi, hj => by
    show (encLk x ++ encLs l)[0 * 5 + j]? = _
    rw [show 0 * 5 + j = j by omega, List.getElem?_append_left (by simp [encLk]; omega)]
    rfl
  | x :: l, i + 1, j, hi, hj => by
    show (encLk x ++ encLs l)[(i + 1) * 5 + j]? = _
    have e : (i + 1) * 5 + j - (encLk x).length = i * 5 + j := by simp [encLk]; omega
    rw [List.getElem?_append_right (by simp [encLk]; omega), e, encLs_at l i j (by simpa using hi) hj]
    rfl
theorem flat_enc (l : List Lk) : flatK encLk 5 l.toArray = (encLs l).toArray := by
  refine ext_get! (by simp [lsLen]) fun t ht => ?_
  have ht' : t < l.length * 5 := by simpa using ht
  rw [get_flatK _ _ _ _ (by simpa using ht')]
  have hd : t / 5 < l.length := by omega
  have hm : t % 5 < 5 := by omega
  have h1 := encLs_at l (t / 5) (t % 5) hd hm
  rw [show t / 5 * 5 + t % 5 = t by omega] at h1
  have e1 : l.toArray[t / 5]! = l[t / 5] := by simp [hd]
  rw [e1]
  have hlen : t < (encLs l).length := by rw [lsLen]; exact ht'
  have hlk : t % 5 < (encLk l[t / 5]).length := by simp [encLk]; omega
  rw [List.getElem?_eq_getElem hlen, List.getElem?_eq_getElem hlk] at h1
  have h2 := Option.some.inj h1
  have a1 : (encLk l[t / 5])[t % 5]! = (encLk l[t / 5])[t % 5] := by simp [hlk]
  have a2 : (encLs l).toArray[t]! = (encLs l)[t] := by simp [hlen]
  rw [a1, a2, h2]
theorem encLs_plain {l : List Lk} : ∀ v ∈ encLs l, plain0 v = true := by
  intro v hv
  unfold encLs at hv
  obtain ⟨x, _, hx⟩ := List.mem_flatMap.1 hv
  simp only [encLk, List.mem_cons, List.not_mem_nil, or_false] at hx
  rcases hx with rfl | rfl | rfl | rfl | rfl <;> rfl
theorem encLs_rel {l : List Lk} (m : Inj) : ∀ v ∈ encLs l, ∀ v', VRel m v v' → v' = v := by
  intro v hv v' hr
  unfold encLs at hv
  obtain ⟨x, _, hx⟩ := List.mem_flatMap.1 hv
  simp only [encLk, List.mem_cons, List.not_mem_nil, or_false] at hx
  rcases hx with rfl | rfl | rfl | rfl | rfl
  · exact hr.int
  · exact hr.int
  · exact hr.int
  · exact hr.int
  · exact hr.bool
set_option maxHeartbeats 2000000 in
theorem slc_ok {args args' : List Value} {v : Value} {h' : H} (hx : slcP args h = some (v, h')) (R : HRel ok G m h w) (L : LRel m args args') : Calls Tryz.prog 35 args'.toArray w fun e w' => ∃ v', e = .returned v' ∧ Step ok G m h w v h' v' w' := by
  unfold slcP at hx
  split at hx
  · rename_i t a n c g fst cp
    split at hx
    · rename_i hc
      obtain ⟨rfl, rfl, hfst⟩ := hc
      obtain ⟨fst⟩ := fst
      obtain ⟨cp⟩ := cp
      simp only at hfst
      subst hfst
      cases L with
      | cons h1 L =>
        cases L with
        | cons h2 L =>
          cases L
          obtain ⟨u, rfl, hu⟩ := h1.ifacev
          obtain ⟨b1, b2, rfl, k1, k2⟩ := h2.funcv
          obtain ⟨b1⟩ := b1
          obtain ⟨b2⟩ := b2
          simp only at k1 k2
          cases k1
          split at hx
          · rename_i hn1
            cases hx
            have hsl : ∃ p c', u = .slice p n c' := by
              cases a with
              | none => obtain ⟨rfl, rfl, rfl⟩ := hu.nils; exact ⟨_, _, rfl⟩
              | some a => obtain ⟨a', c', rfl, _⟩ := hu.slicev; exact ⟨_, _, rfl⟩
            obtain ⟨p, c', rfl⟩ := hsl
            have hK : Lib.swapperK n svE 25 = n + 1 := by
              rcases (show n = 0 ∨ n = 1 by omega) with rfl | rfl <;> rfl
            obtain ⟨f, hf⟩ : ∃ f, Tryz.prog.funcs.findIdx? (·.name == "internal/reflectlite" ++ ".Swapper$" ++ toString (Lib.swapperK n svE 25)) = some f := by
              rcases (show n = 0 ∨ n = 1 by omega) with rfl | rfl
              · exact ⟨110, by kernel_rfl⟩
              · exact ⟨111, by kernel_rfl⟩
            refine (Any.sort_Slice_tiny Tryz.laysGg6 27 33 svT svE (by kernel_rfl) (by kernel_rfl) (by kernel_rfl) (by kernel_rfl) 25 (fun _ => by kernel_rfl) p n c' hn1 f hf (.func 36) #[] ⟨b2⟩ w).mono ?_
            rintro e w' ⟨rfl, os, rfl⟩
            obtain ⟨R2, e2⟩ := R.below' (below_grow w os)
            exact ⟨_, rfl, m, e2, R2, .tuple .nil⟩
          · rename_i hn1
            split at hx
            · rename_i bx b o hcp
              split at hx
              · rename_i b' o' n' cx s1 o1 f1 t1 cs st ty hbx hb
                split at hx
                · rename_i hc2
                  obtain ⟨rfl, rfl, rfl, hne⟩ := hc2
                  split at hx
                  · rename_i zs hzs
                    split at hx
                    · rename_i hc3
                      obtain ⟨c1, c2, c3⟩ := hc3
                      cases hx
                      simp only at hcp
                      subst hcp
                      cases k2 with
                      | cons kp k2 =>
                        cases k2
                        obtain ⟨ix, hix, _, rfl⟩ := kp.pointer
                        cases hu with
                        | plain h => simp [plain0] at h
                        | slice0 => simp at hn1
                        | @slice _ _ _ _ c' ib g1 g2 g3 g4 =>
                          obtain ⟨_, cB, eB, loB, hiB, hB1, hB2, hB3, hB4, _⟩ := R.obj bx _ ix hbx hix
                          obtain ⟨vB, hB5, hB6⟩ := hB4 0 _ rfl
                          have hvB : ∃ c2, vB = .slice (some ⟨ib.blk, o' + ib.off, none⟩) n' c2 := by
                            cases hB6 with
                            | plain h => simp [plain0] at h
                            | slice0 => simp at hn1
                            | @slice _ _ _ _ c2 ib2 p1 p2 p3 p4 =>
                              rw [g1] at p1
                              cases p1
                              exact ⟨_, rfl⟩
                          obtain ⟨cB2, rfl⟩ := hvB
                          subst c1
                          have hcs : (cs.drop o').take (encLs zs).length = encLs zs := by rw [lsLen]; exact lksD_eq hzs
                          have hH : HoldsK encLk 5 w ib.blk (o' + ib.off) zs.toArray := by
                            unfold HoldsK
                            rw [flat_enc]
                            exact holds_ofV R hb g1 hcs (encLs_rel m)
                          have hblk := (R.dom _ _ g1).2
                          have hB1' := (R.dom _ _ hix).2
                          have hne2 : ix.blk ≠ ib.blk := fun q => hne (R.inj b' bx _ _ ib ix hb rfl hbx g1 hix q.symm).symm
                          have hBs : w.cell? ⟨ix.blk, 0 + ix.off, none⟩ = some (.slice (some ⟨ib.blk, o' + ib.off, none⟩) zs.toArray.size cB2) := by
                            simp only [World.cell?, hB1, Option.isSome_none, Bool.false_eq_true, if_false]
                            rw [show 0 + ix.off = ix.off + 0 by omega, hB5]
                            simp
                          have hless : LessReadsK Tryz.prog 36 #[.pointer (some ⟨ix.blk, 0 + ix.off, none⟩)] encLk 5 ltLk ib.blk (o' + ib.off) zs.toArray.size w := by
                            intro m2 os dk hs i j hi hj
                            have e : sortWorldK encLk 5 w ib.blk (o' + ib.off) m2 dk os = putRowK encLk 5 (grow (Sort.ahead w m2) os) ib.blk (o' + ib.off) dk := by
                              unfold sortWorldK; rw [putRowK_grow _ _ (Sort.ahead w m2) _ ib.blk _ _ hblk]
                            have hHg : HoldsK encLk 5 (grow (Sort.ahead w m2) os) ib.blk (o' + ib.off) zs.toArray := holdsK_grow _ _ _ _ ib.blk _ _ hblk (holdsK_ahead _ _ _ _ _ _ _ hH)
                            refine lkless ib.blk (o' + ib.off) cB2 ix.blk (0 + ix.off) zs.toArray.size _ (fun t => dk[t]!.f) ?_ (fun t ht => ?_) i j hi hj (by simpa using c3)
                            · rw [e, cell?_putRowK_other _ _ _ ib.blk _ dk _ (by exact hne2), cell?_grow _ _ _ (by exact hB1')]; exact hBs
                            · rw [e]; exact ((holdsK_putRowK _ _ _ ib.blk _ zs.toArray dk hHg hs).cell (i := t) (c := 0) (by omega) (by omega)).1
                          have hsz : zs.toArray.size = zs.length := by simp
                          have hmain := Any.sort_Slice_cells_eq Tryz.laysGg6 27 33 svT svE (by kernel_rfl) (by kernel_rfl) (by kernel_rfl) (by kernel_rfl) 25 (fun _ => by kernel_rfl) encLk 5 (fun _ => rfl) (by kernel_rfl) (fun _ => by kernel_rfl)
                            (fun x v hv => by simp [encLk] at hv; rcases hv with rfl | rfl | rfl | rfl | rfl <;> rfl) ltLk ltLk_swo 36 #[.pointer (some ⟨ix.blk, 0 + ix.off, none⟩)]
                            (enters_of Tryz.func36 (by kernel_rfl) rfl) ib.blk (o' + ib.off) c' zs.toArray (by rw [hsz]; omega) (by rw [hsz]; exact c3) 118 (by rw [svK _ (by rw [hsz]; omega)]; kernel_rfl) false
                            (fun args W => run_callFunc_extern Tryz.func118 (by kernel_rfl) (by kernel_rfl) (by kernel_rfl) (e := Extern.ReflectliteSwapper.swap false) (by kernel_rfl) args W) w hless hH hblk
                          rw [hsz] at hmain
                          refine hmain.mono ?_
                          rintro e w' ⟨rfl, n, os, rfl⟩
                          have hD : flatK encLk 5 (pdq ltLk zs.toArray 0 zs.length (Lib.bitLen zs.length) true true) = (encLs (srtLk zs)).toArray := by
                            rw [← flat_enc]
                            congr 1
                          have hu2 := row_updV (n := n) R hb g1 (zs := encLs (srtLk zs)) (o := o') (by rw [lsLen, (srtLk_pw zs).2.length_eq]; exact c2) (fun v hv => .plain (encLs_plain v hv)) os
                          have hw : putRowK encLk 5 (Sort.ahead w n) ib.blk (o' + ib.off) (pdq ltLk zs.toArray 0 zs.length (Lib.bitLen zs.length) true true) = putRow id (Sort.ahead w n) ib.blk (o' + ib.off) (encLs (srtLk zs)).toArray := by
                            unfold putRowK
                            rw [hD]
                          rw [hw]
                          exact ⟨_, rfl, m, hu2.2, hu2.1, .tuple .nil⟩
                    · cases hx
                  · cases hx
                · cases hx
              · cases hx
            · cases hx
    · cases hx
  · cases hx
end
theorem plug0 : PlugOk Tryz.prog (okC E0 G0 false) G0 X0 := by
  intro f args h v h' hX m w args' R L
  unfold X0 at hX
  by_cases e : f = 46
  · rw [if_pos e] at hX
    subst e
    exact ⟨⟨_, Tryz.func46, rfl, by kernel_rfl⟩, cut_ok hX R L⟩
  rw [if_neg e] at hX
  clear e
  by_cases e : f = 108
  · rw [if_pos e] at hX
    subst e
    exact ⟨⟨_, Tryz.func108, rfl, by kernel_rfl⟩, con_ok hX R L⟩
  rw [if_neg e] at hX
  clear e
  by_cases e : f = 60
  · rw [if_pos e] at hX
    subst e
    exact ⟨⟨_, Tryz.func60, rfl, by kernel_rfl⟩, tri_ok hX R L⟩
  rw [if_neg e] at hX
  clear e
  by_cases e : f = 47
  · rw [if_pos e] at hX
    subst e
    exact ⟨⟨_, Tryz.func47, rfl, by kernel_rfl⟩, tsu_ok hX R L⟩
  rw [if_neg e] at hX
  clear e
  by_cases e : f = 31
  · rw [if_pos e] at hX
    subst e
    exact ⟨⟨_, Tryz.func31, rfl, by kernel_rfl⟩, hpr_ok hX R L⟩
  rw [if_neg e] at hX
  clear e
  by_cases e : f = 107
  · rw [if_pos e] at hX
    subst e
    exact ⟨⟨_, Tryz.func107, rfl, by kernel_rfl⟩, cpr_ok hX R L⟩
  rw [if_neg e] at hX
  clear e
  by_cases e : f = 63
  · rw [if_pos e] at hX
    subst e
    exact ⟨⟨_, Tryz.func63, rfl, by kernel_rfl⟩, iby_ok hX R L⟩
  rw [if_neg e] at hX
  clear e
  by_cases e : f = 84
  · rw [if_pos e] at hX
    subst e
    exact ⟨⟨_, Tryz.func84, rfl, by kernel_rfl⟩, joi_ok hX R L⟩
  rw [if_neg e] at hX
  clear e
  by_cases e : f = 105
  · rw [if_pos e] at hX
    subst e
    exact ⟨⟨_, Tryz.func105, rfl, by kernel_rfl⟩, spl_ok hX R L⟩
  rw [if_neg e] at hX
  clear e
  by_cases e : f = 82
  · rw [if_pos e] at hX
    subst e
    exact ⟨⟨_, Tryz.func82, rfl, by kernel_rfl⟩, fie_ok hX R L⟩
  rw [if_neg e] at hX
  clear e
  by_cases e : f = 42
  · rw [if_pos e] at hX
    subst e
    exact ⟨⟨_, Tryz.func42, rfl, by kernel_rfl⟩, srt_ok hX R L⟩
  rw [if_neg e] at hX
  clear e
  by_cases e : f = 43
  · rw [if_pos e] at hX
    subst e
    exact ⟨⟨_, Tryz.func43, rfl, by kernel_rfl⟩, cpt_ok hX R L⟩
  rw [if_neg e] at hX
  clear e
  by_cases e : f = 35
  · rw [if_pos e] at hX
    subst e
    exact ⟨⟨_, Tryz.func35, rfl, by kernel_rfl⟩, slc_ok hX R L⟩
  rw [if_neg e] at hX
  clear e
  cases hX
end Go.Dm
