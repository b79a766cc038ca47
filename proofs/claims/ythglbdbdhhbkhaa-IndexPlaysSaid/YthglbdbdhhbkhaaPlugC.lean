/- slices.Compact, and slices.Sorted of a map's keys, as plugs of the machine D's. -/
import Derived.Test.YthglbdbdhhbkhaaSortP
import Derived.Test.YthglbdbdhhbkhaaSort
import Derived.Test.YthglbdbdhhbkhaaComp
import Derived.Test.YthglbdbdhhbkhaaIxS
set_option linter.unusedVariables false
set_option linter.unusedSimpArgs false
namespace Go.Dm
open Go.Sort Go.RowKit Go.Proofs Go.Maps Go.Shelf
theorem grow_nil (w : World) : grow w #[] = w := by simp [grow]
/-- A row that the model has laid anew: D's own. -/
theorem HRel.bornRow {ok : OkC} {G : Nat} {m : Inj} {h : H} {w w' : World} (R : HRel ok G m h w) (b : Below w.heap.size w w') {N : Nat} {c : Array Value} {e : TypeId} (hN : w.heap.size ≤ N) (hc : w'.heap[N]? = some (.cells c e (0, 0))) {vs : List Value} (hle : vs.length ≤ c.size)
    (hv : ∀ (j : Nat) v, vs[j]? = some v → c[j]? = some v ∧ ∀ m, VRel m v v) :
    HRel ok G (m.add h.addr ⟨N, 0, 1, c.size⟩) (h.new (.cells vs 1 true 0 none)) w' ∧ Evo m h w (m.add h.addr ⟨N, 0, 1, c.size⟩) (h.new (.cells vs 1 true 0 none)) w' := by
  have hlt : N < w'.heap.size := by
    rcases Nat.lt_or_ge N w'.heap.size with h1 | h1
    · exact h1
    · rw [Array.getElem?_eq_none h1] at hc; cases hc
  have hnew : ∀ o : DObj, h.addr < (h.new o).next := fun o => H.lt_new _ _ fun a ha => (R.one a ha).1
  refine ⟨⟨?_, ?_, ?_, ?_, ?_, ?_⟩, ?_⟩
  · intro d u j hd hj
    rw [H.get_new] at hd
    unfold Inj.add at hj
    by_cases e1 : d = h.addr
    · rw [if_pos e1] at hd hj; cases hd; cases hj
      exact ⟨rfl, c, e, 0, 0, hc, rfl, by simpa using hle, fun j v hj => ⟨v, by rw [Nat.zero_add]; exact (hv j v hj).1, (hv j v hj).2 _⟩, fun _ => .inl (Nat.zero_le _), fun t q => (by cases q)⟩
    · rw [if_neg e1] at hd hj
      exact (R.obj d u j hd hj).congr (Inj.ext_add _ R.fresh) (b.block _ (R.dom d j hj).2)
  · intro d d' u u' j j' hd hu hd' hj hj' q
    rw [H.get_new] at hd hd'
    unfold Inj.add at hj hj'
    by_cases e1 : d = h.addr
    · rw [if_pos e1] at hj; cases hj
      by_cases e2 : d' = h.addr
      · rw [e1, e2]
      · rw [if_neg e2] at hj'
        have h3 := (R.dom d' j' hj').2
        have h4 : N = j'.blk := q
        omega
    · rw [if_neg e1] at hj hd
      by_cases e2 : d' = h.addr
      · rw [if_pos e2] at hj'; cases hj'
        have h3 := (R.dom d j hj).2
        have h4 : j.blk = N := q
        omega
      · rw [if_neg e2] at hj' hd'; exact R.inj d d' u u' j j' hd hu hd' hj hj' q
  · intro d j hj
    unfold Inj.add at hj
    by_cases e1 : d = h.addr
    · rw [if_pos e1] at hj; cases hj
      exact ⟨by rw [e1]; exact hnew _, hlt⟩
    · rw [if_neg e1] at hj
      have := R.dom d j hj
      exact ⟨Nat.lt_of_lt_of_le this.1 (H.next_new _ _), Nat.lt_of_lt_of_le this.2 b.size⟩
  · intro a ha
    have ⟨h1, h2⟩ := H.one_new ha
    exact ⟨Nat.lt_of_lt_of_le (R.one a h1).1 (H.next_new _ _), by unfold Inj.add; rw [if_neg h2]; exact (R.one a h1).2⟩
  · intro d hd
    rw [H.get_new, if_neg, R.wf d (Nat.le_trans (H.next_new _ _) hd)]
    have := hnew (.cells vs 1 true 0 none)
    omega
  · intro g hg; obtain ⟨j, h1, h2⟩ := R.glob g hg; exact ⟨j, Inj.ext_add _ R.fresh _ _ h1, h2⟩
  · refine ⟨Inj.ext_add _ R.fresh, b.os, b.tape, b.output, b.size, fun r hr _ => b.block r hr, ?_, ?_⟩
    · intro d i q q'
      unfold Inj.add at q
      by_cases hc : d = h.addr
      · rw [if_pos hc] at q; cases q; exact .inl hN
      · rw [if_neg hc] at q; rw [q] at q'; cases q'
    · rintro r hr ⟨d, u, j, hd, hu, hj, q⟩
      rw [H.get_new] at hd
      unfold Inj.add at hj
      by_cases e1 : d = h.addr
      · rw [if_pos e1] at hj; cases hj
        have h4 : N = r := q
        omega
      · rw [if_neg e1] at hd hj; exact ⟨d, u, j, hd, hu, hj, q⟩
theorem vrel_sl0 {m : Inj} {a : Option Addr} {c : Nat} {v : Value} (hv : VRel m (.slice a 0 c) v) : ∃ a' c', v = .slice a' 0 c' := by
  cases hv with
  | plain h => exact ⟨_, _, rfl⟩
  | slice h1 h2 h3 h4 => exact ⟨_, _, rfl⟩
  | slice0 => exact ⟨_, _, rfl⟩
/-! slices.Compact -/
def cptP (args : List Value) (h : H) : Option (Value × H) := match args with
  | [.slice a n c] => if n = 0 then some (.slice a n c, h) else match a with
    | some ⟨b, o, none⟩ => match h.get b with
      | some (.cells cs st true 0 ty) => match strsD ((cs.drop o).take n) with
        | some zs => if zs.length = n ∧ o + n ≤ cs.length ∧ n < 4611686018427387904 then some (.slice (some ⟨b, o, none⟩) (Lib.compact zs).length c, h.put b (.cells (setAt cs o ((Lib.compact zs ++ List.replicate (zs.length - (Lib.compact zs).length) []).map str)) st true 0 ty)) else none
        | none => none
      | _ => none
    | _ => none
  | _ => none
theorem cpt_len (zs : List (List UInt8)) : (Lib.compact zs).length ≤ zs.length := by
  unfold Lib.compact Lib.compactUpTo
  rw [List.length_map]
  exact Nat.le_trans (List.length_filter_le ..) (by simp)
theorem cpt_ok {ok : OkC} {G : Nat} {args : List Value} {h : H} {v : Value} {h' : H} (hx : cptP args h = some (v, h')) {m : Inj} {w : World} {args' : List Value} (R : HRel ok G m h w) (L : LRel m args args') :
    Calls Try.prog 35 args'.toArray w fun e w' => ∃ v', e = .returned v' ∧ Step ok G m h w v h' v' w' := by
  unfold cptP at hx
  split at hx
  · rename_i a n c
    cases L with
    | cons hv L =>
      cases L
      split at hx
      · rename_i hn
        subst hn
        cases hx
        obtain ⟨a', c', rfl⟩ := vrel_sl0 hv
        refine (Try.slices_Compact_string_empty a' c' w).mono ?_
        rintro e w' ⟨rfl, rfl⟩
        exact ⟨_, rfl, m, Evo.refl .., R, hv⟩
      · rename_i hn
        split at hx
        · rename_i b o
          split at hx
          · rename_i cs st ty hb
            split at hx
            · rename_i zs hz
              split at hx
              · rename_i hc
                obtain ⟨c1, c2, c3⟩ := hc
                cases hx
                cases hv with
                | plain h => simp [plain0] at h
                | slice0 => exact absurd rfl hn
                | @slice _ _ _ _ c' i h1 h2 h3 h4 =>
                  have hcs : (cs.drop o).take zs.length = zs.map str := by rw [c1]; exact strsD_eq hz
                  have hH := holds_of str R hb h1 hcs (fun x v' h => h.string)
                  have hcl := cpt_len zs
                  have hlen : (Lib.compact zs ++ List.replicate (zs.length - (Lib.compact zs).length) []).length = zs.length := by simp; omega
                  have hcs2 : o + (Lib.compact zs ++ List.replicate (zs.length - (Lib.compact zs).length) []).length ≤ cs.length := by rw [hlen]; omega
                  rw [← c1]
                  refine (Try.slices_Compact_string i.blk (o + i.off) c' zs w hH (by omega) (by omega)).mono ?_
                  rintro e w' ⟨rfl, q, rfl⟩
                  have U := row_upd str (n := q) (zs := Lib.compact zs ++ List.replicate (zs.length - (Lib.compact zs).length) []) R hb h1 hcs2 (fun x => .plain rfl) #[]
                  rw [grow_nil] at U
                  exact ⟨_, rfl, m, U.2, U.1, .slice h1 (by omega) h3 h4⟩
              · cases hx
            · cases hx
          · cases hx
        · cases hx
  · cases hx
/-! A map's keys, sorted -/
theorem sorts26 (m : Nat) : AnyZ.SortsIn Try.prog Try.sorted26_ren Fence.wide m :=
  ⟨fun blk off cap ss W hH hblk hsz => callsIn_wide.2 (Try.slices_Sort_string blk off cap ss W hH hblk hsz), fun p cap W => callsIn_wide.2 (Try.slices_Sort_string_none p cap W)⟩
set_option maxHeartbeats 1000000 in
theorem sortedKeys (b nn bx : Nat) (D0 : DataW Unit) (R : Value → Option (DataW Unit × List MemPlace)) (w : World) (hbx : bx < w.heap.size) (hm : w.cell? ⟨bx, 0, none⟩ = some (.map (some b))) (hown : w.ownsMap Try.prog 9 R b nn D0) (hmax : Maps.size D0 ≤ maxLen) (hbytes : Maps.size D0 * 16 ≤ 140737488355328) :
    Calls Try.prog 26 #[.func (.func 34) #[] #[.pointer (some ⟨bx, 0, none⟩)]] w fun e w' => ∃ (v : Value) (ss : List (List UInt8)), e = .returned v ∧ ss.Perm (strKeys D0) ∧
      w'.ownsRow w.heap.size 9 1 v ss.length ((ss.mergeSort (fun x y => decide (x ≤ y))).map encStr) ∧ (v = .slice none 0 0 ↔ ss = []) ∧ Below w.heap.size w w' := by
  have hseq : SeqGives Fence.wide 2 Try.prog 34 #[.pointer (some ⟨bx, 0, none⟩)] encStr (fun ss => ss.Perm (strKeys D0)) (Maps.size D0) w :=
    AnyZ.keys_gives (ρ := Try.keys27_ren) { Try.keys27 with } Fence.wide _ trivial rfl (by omega) bx b nn D0 _ hbx hm hown
  exact callsIn_wide.1 (AnyZ.sorted_in Try.sorted26 Fence.wide 5 trivial trivial trivial trivial rfl (by omega) (sorts26 _) (enters_of Try.func33 (by kernel_rfl) rfl) 34 #[.pointer (some ⟨bx, 0, none⟩)] trivial (enters_of Try.func34 (by kernel_rfl) rfl) _ _ hmax hbytes _ hseq)
def keysP (args : List Value) (h : H) : Option (Value × H) := match args with
  | [.func (.func g) fst cp] => if g = 34 ∧ fst.toList = [] then match cp.toList with
    | [.pointer (some ⟨b, 0, none⟩)] => match h.get b with
      | some (.cells [.map (some r)] st own fz (some 54)) => match h.get r with
        | some (.map es clock) => match strsD (es.map (·.key)) with
          | some ss => if (ss.Nodup ∧ (es.map (·.born)).Nodup ∧ ∀ e ∈ es, e.born < clock) ∧ es.length < 1099511627776 ∧ ∀ s ∈ ss, s.length ≤ maxLen then some (if ss = [] then (.slice none 0 0, h) else (.slice (some ⟨h.addr, 0, none⟩) ss.length ss.length, h.new (.cells ((srtS ss).map str) 1 true 0 none))) else none
          | none => none
        | _ => none
      | _ => none
    | _ => none
    else none
  | _ => none
theorem maxLen_eq : maxLen = 9223372036854775807 := by decide
theorem keys_arg {ok : OkC} {G : Nat} {m : Inj} {h : H} {w : World} (R : HRel ok G m h w) {g : Nat} {fst cp : Array Value} {args' : List Value} (L : LRel m [.func (.func g) fst cp] args') (hf : fst.toList = []) {b : Nat} (hcp : cp.toList = [.pointer (some ⟨b, 0, none⟩)])
    {r st fz : Nat} {own : Bool} (hb : h.get b = some (.cells [.map (some r)] st own fz (some 54))) {es : List MapEntry} {clock : Nat} (hr : h.get r = some (.map es clock)) :
    ∃ (a b' : List Value) (i j : Img) (es' : Array MapEntry), args' = [.func (.func g) #[] #[.pointer (some ⟨i.blk, 0, none⟩)]] ∧ i.blk < w.heap.size ∧ i.off = 0 ∧ m r = some j ∧ w.cell? ⟨i.blk, 0, none⟩ = some (.map (some j.blk)) ∧ w.heap[j.blk]? = some (.map es' clock) ∧ MRel m es es'.toList := by
  cases L with
  | cons hv L =>
    cases L
    obtain ⟨fst⟩ := fst
    obtain ⟨cp⟩ := cp
    simp only at hf hcp
    subst hf hcp
    cases hv with
    | plain h => simp [plain0] at h
    | func h1 h2 =>
      cases h1
      cases h2 with
      | cons h3 h4 =>
        cases h4
        cases h3 with
        | plain h => simp [plain0] at h
        | @ptr _ _ i hi =>
          obtain ⟨g0, c', e, lo, hh, g1, g2, g3, g4, g5, g6⟩ := R.obj b _ i hb hi
          obtain ⟨q1, q2, q3⟩ := g6 _ rfl
          obtain ⟨v', u1, u2⟩ := g4 0 _ rfl
          cases u2 with
          | plain h => simp [plain0] at h
          | @map _ j hj =>
            obtain ⟨es', g7, g8⟩ := R.obj r _ j hr hj
            refine ⟨[], [], i, j, es', by rw [q2], (R.dom b i hi).2, q2, hj, ?_, g7, g8⟩
            rw [q2] at u1
            simp [World.cell?, g1, u1]
theorem MRel.keys {m : Inj} {es es' : List MapEntry} (h : MRel m es es') : es'.map (·.key) = es.map (·.key) := by
  induction h with
  | nil => rfl
  | cons h _ ih => simp [h.key, ih]
theorem rd_str {x : MapEntry} {s : List UInt8} (hk : x.key = str s) (hl : s.length ≤ maxLen) : Go.WideElems.rd (H := Unit) Try.prog 9 (fun _ => some (.nil, [])) x = some (.string s, .nil) := by
  have hsz : (ByteArray.mk s.toArray).size ≤ maxLen := by simpa [ByteArray.size] using hl
  have h2 : keyOf Try.prog 9 x.key = some (.string s) := by
    rw [hk]
    unfold keyOf
    rw [Try.underlying9]
    show mapKey _ _ _ = _
    unfold mapKey
    rw [Try.underlying9]
    show (if _ then _ else _) = _
    rw [if_pos hsz]
  unfold Go.WideElems.rd
  rw [h2]
  rfl
theorem rg_keys : ∀ (l : List MapEntry) (ss : List (List UInt8)), l.map (·.key) = ss.map str → (∀ s ∈ ss, s.length ≤ maxLen) →
    (l.map (Go.WideElems.rg (H := Unit) Try.prog 9 (fun _ => some (.nil, [])))).map (fun p => strOf p.1) = ss ∧ ∀ x ∈ l, ∃ y, Go.WideElems.rd (H := Unit) Try.prog 9 (fun _ => some (.nil, [])) x = some y
  | [], [], _, _ => ⟨rfl, fun x hx => by cases hx⟩
  | [], s :: ss, h, _ => by simp at h
  | x :: l, [], h, _ => by simp at h
  | x :: l, s :: ss, h, hl => by
    simp only [List.map_cons, List.cons.injEq] at h
    obtain ⟨i1, i2⟩ := rg_keys l ss h.2 fun s hs => hl s (List.mem_cons_of_mem _ hs)
    have hr := rd_str h.1 (hl s (List.mem_cons_self ..))
    refine ⟨?_, ?_⟩
    · rw [List.map_cons, List.map_cons, i1, Go.WideElems.rg_of hr]
      rfl
    · rintro y hy
      rcases List.mem_cons.1 hy with rfl | hy
      · exact ⟨_, hr⟩
      · exact i2 y hy
theorem keys_own {m : Inj} {w : World} {es : List MapEntry} {es' : Array MapEntry} {clock B : Nat} {ss : List (List UInt8)} (c1 : ss.Nodup) (c2 : (es.map (·.born)).Nodup) (c3 : ∀ e ∈ es, e.born < clock) (c4 : es.length ≤ 1099511627776) (c5 : ∀ s ∈ ss, s.length ≤ maxLen)
    (hss : es.map (·.key) = ss.map str) (hbl : w.heap[B]? = some (.map es' clock)) (hM : MRel m es es'.toList) :
    let D0 : DataW Unit := .map ((es'.toList.map (Go.WideElems.rg Try.prog 9 (fun _ => some (.nil, [])))).foldr DataW.insert [])
    (strKeys D0).Perm ss ∧ Maps.size D0 = es.length ∧ w.ownsMap Try.prog 9 (fun _ => some (.nil, [])) B es'.size D0 := by
  intro D0
  have hk : es'.toList.map (·.key) = ss.map str := hM.keys.trans hss
  obtain ⟨k1, k2⟩ := rg_keys _ _ hk c5
  have hlen : es'.size = es.length := by
    have := congrArg List.length hM.borns
    simpa using this
  have hp := Go.WideShapes.sorted_perm (es'.toList.map (Go.WideElems.rg (H := Unit) Try.prog 9 (fun _ => some (.nil, []))))
  refine ⟨?_, ?_, es', clock, hbl, ⟨?_, ⟨?_, ?_, ?_⟩, k2⟩, Nat.le_refl _, rfl⟩
  · have := hp.map (fun p : Lit × DataW Unit => strOf p.1)
    rw [k1] at this
    exact this
  · show List.length _ = _
    rw [hp.length_eq]
    simp [hlen]
  · rw [hlen]; have := maxLen_eq; omega
  · intro x hx
    obtain ⟨e, he, r⟩ := hM.left x hx
    rw [r.born]
    exact c3 e he
  · rw [hM.borns]; exact c2
  · rw [hk]
    have : (ss.map str).Nodup := List.Pairwise.map str (fun a b hab e => hab (str_inj.mp e)) c1
    exact this
theorem keys_ok {ok : OkC} {G : Nat} {args : List Value} {h : H} {v : Value} {h' : H} (hx : keysP args h = some (v, h')) {m : Inj} {w : World} {args' : List Value} (R : HRel ok G m h w) (L : LRel m args args') :
    Calls Try.prog 26 args'.toArray w fun e w' => ∃ v', e = .returned v' ∧ Step ok G m h w v h' v' w' := by
  unfold keysP at hx
  split at hx
  · rename_i g fst cp
    split at hx
    · rename_i hg
      obtain ⟨rfl, hf⟩ := hg
      split at hx
      · rename_i b hcp
        split at hx
        · rename_i r st own fz hb
          split at hx
          · rename_i es clock hr
            split at hx
            · rename_i ss hss
              split at hx
              · rename_i hc
                obtain ⟨⟨c1, c2, c3⟩, c4, c5⟩ := hc
                have hx := Option.some.inj hx
                have hss := strsD_eq hss
                obtain ⟨a', b', i, j, es', rfl, hi, ho, hj, hcell, hbl, hM⟩ := keys_arg R L hf hcp hb hr
                have hown := keys_own c1 c2 c3 (by omega) c5 hss hbl hM
                obtain ⟨hD, hsz, hown⟩ := hown
                refine (sortedKeys j.blk es'.size i.blk _ (fun _ => some (.nil, [])) w hi hcell hown (by rw [hsz]; have := maxLen_eq; omega) (by rw [hsz]; omega)).mono ?_
                rintro e w' ⟨v2, ss2, rfl, hp, hrow, hnil, hbelow⟩
                have hp2 := hp.trans hD
                have hs2 : ss2.mergeSort (fun x y => decide (x ≤ y)) = srtS ss := srtS_perm hp2
                rw [hs2] at hrow
                by_cases hs0 : ss = []
                · rw [if_pos hs0] at hx
                  cases hx
                  have h0 : ss2 = [] := by rw [hs0] at hp2; exact hp2.eq_nil
                  obtain ⟨R2, e2⟩ := R.below' hbelow
                  exact ⟨_, rfl, m, e2, R2, by rw [hnil.2 h0]; exact .plain rfl⟩
                · rw [if_neg hs0] at hx
                  cases hx
                  have hlen := hp2.length_eq
                  obtain ⟨hl, hr2⟩ := hrow
                  rcases hr2 with ⟨_, h0⟩ | ⟨N, cap, cur, rfl, q1, q2, q3, q4, q5, q6⟩
                  · exact absurd (List.eq_nil_of_length_eq_zero (by omega)) hs0
                  · simp only [Nat.mul_one] at q5 q6
                    obtain ⟨R2, e2⟩ := R.bornRow hbelow q1 q2 (vs := (srtS ss).map str) (by simp [srtS_len]; omega) (fun k v hk => by
                      refine ⟨?_, fun m => ?_⟩
                      · have hk' := hk
                        rw [show (srtS ss).map str = (srtS ss).map encStr from rfl, ← q6, List.getElem?_take] at hk'
                        split at hk'
                        · rwa [Array.getElem?_toList] at hk'
                        · cases hk'
                      · rw [List.getElem?_map] at hk
                        cases hq : (srtS ss)[k]? with
                        | none => rw [hq] at hk; cases hk
                        | some x => rw [hq] at hk; cases hk; exact .plain rfl)
                    rw [hlen] at q3
                    refine ⟨_, rfl, _, e2, R2, ?_⟩
                    rw [hlen]
                    exact VRel.slice (i := ⟨N, 0, 1, cur.size⟩) (Inj.add_self ..) (Nat.le_refl _) q3 (.inr ⟨Nat.one_pos, by simp [q5]⟩)
              · cases hx
            · cases hx
          · cases hx
        · cases hx
      · cases hx
    · cases hx
  · cases hx
end Go.Dm
