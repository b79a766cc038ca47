/- The machine D, 11: its operations are followed by the model's: append, copy. -/
import Derived.Test.YtpanpicbikihkaaDoorDOpsG
set_option linter.unusedVariables false
set_option linter.unusedSimpArgs false
namespace Go.Dm

theorem growBy_le (n : Nat) : ∀ (r c : Nat), c ≤ 2 * n + 192 → Builtin.growBy n r c ≤ 2 * n + 192 := by
  intro r
  induction r with
  | zero => intro c h; exact h
  | succ r ih =>
    intro c h
    unfold Builtin.growBy
    split
    · exact h
    · exact ih _ (by omega)
theorem nextcap_le {n c : Nat} (h : c < n) : Builtin.nextslicecap n c ≤ 2 * n + 192 := by
  unfold Builtin.nextslicecap
  split
  · omega
  · split
    · omega
    · exact growBy_le n 4 c (by omega)

section
variable {P : Program} {E : Env} (hE : EnvOk P E) {w : World} {m : Inj} {ok : OkC} {G : Nat} {h : H}
theorem loadCells_zero (a : Addr) : (loadCells a 0).run P w = .ok #[] w := rfl
theorem src_sim (R : HRel ok G m h w) {n k : Nat} {x x' : Value} {cs : List Value} (hx : VRel m x x') (hs : srcD n x h = some (k, cs)) :
    (Builtin.lenOf x').run P w = .ok k w ∧ ∃ cs' : List Value, LRel m cs cs' ∧ (Builtin.firstCells n k x').run P w = .ok cs'.toArray w := by
  unfold srcD at hs
  split at hs
  · cases hs
    obtain ⟨rfl, _⟩ := hx.nils
    exact ⟨rfl, [], .nil, rfl⟩
  · rename_i b o len c
    obtain ⟨a', c', rfl, h1, h2, h3⟩ := hx.slicev
    split at hs
    · rename_i h0
      cases hs
      subst h0
      refine ⟨rfl, [], .nil, ?_⟩
      show (loadCells a' (0 * n)).run P w = _
      rw [Nat.zero_mul]; rfl
    · rename_i h0
      cases hr : readD b o (len * n) h with
      | none => rw [hr] at hs; cases hs
      | some vs =>
        rw [hr] at hs
        cases hs
        unfold readD at hr
        split at hr
        · rename_i q st own fz ty hg
          split at hr
          · rename_i hle
            cases hr
            rcases h3 with ⟨q1, _, _⟩ | ⟨i, hi, _, rfl, _⟩
            · omega
            · obtain ⟨vs', k1, k2, k3, _⟩ := cells_sim (P := P) R hi hg hle
              exact ⟨rfl, vs', k1, k3⟩
          · cases hr
        · cases hr
  · rename_i s
    obtain rfl := hx.string
    cases hs
    refine ⟨rfl, _, LRel.plain (List.all_eq_true.2 fun v hv => by obtain ⟨b, _, rfl⟩ := List.mem_map.1 hv; rfl), ?_⟩
    show Result.ok ((s.extract 0 s.size).data.map fun b => Value.int .u8 b.toNat) w = _
    have : s.extract 0 s.size = s := by
      apply ByteArray.ext
      simp
    rw [this]
    congr 1
    apply Array.ext'
    simp
  · cases hs
theorem src_length {n k : Nat} {x : Value} {cs : List Value} (hs : srcD n x h = some (k, cs)) (hn : n = 1 ∨ ∀ s, x ≠ .string s) : cs.length = k * n := by
  unfold srcD at hs
  split at hs
  · cases hs; simp
  · split at hs
    · cases hs; simp
    · rename_i b o len c h0
      cases hr : readD b o (len * n) h with
      | none => rw [hr] at hs; cases hs
      | some vs =>
        rw [hr] at hs
        cases hs
        unfold readD at hr
        split at hr
        · split at hr
          · cases hr; simp; omega
          · cases hr
        · cases hr
  · rename_i s
    cases hs
    rcases hn with rfl | hn
    · simp
    · exact absurd rfl (hn s)
  · cases hs
end
/-- A block of D's is left, and a new one takes over its place in the model's memory. -/
theorem HRel.move {ok : OkC} {G : Nat} {m : Inj} {h : H} {w w' : World} (R : HRel ok G m h w) {b : Nat} {o o' : DObj} {i j : Img} (hb : h.get b = some o) (hm : o.mut = true) (hi : m b = some i) (hj : j.blk = i.blk)
    (hs : w'.heap.size = w.heap.size) (hw : ∀ r, r ≠ i.blk → w'.heap[r]? = w.heap[r]?) (ho : ORel ok (m.add h.addr j) w' j o') : HRel ok G (m.add h.addr j) ((h.drop b).new o') w' where
  obj c u k hc hk := by
    rw [H.get_new] at hc
    unfold Inj.add at hk
    have hnext : (h.drop b).addr = h.addr := rfl
    rw [hnext] at hc
    by_cases e : c = h.addr
    · rw [if_pos e] at hc hk; cases hc; cases hk; exact ho
    · rw [if_neg e] at hc hk
      rw [H.get_drop] at hc
      by_cases e2 : c = b
      · rw [if_pos e2] at hc; cases hc
      · rw [if_neg e2] at hc
        exact (R.obj c u k hc hk).congr (Inj.ext_add j R.fresh) (hw _ fun e' => e2 (R.inj b c o u i k hb hm hc hi hk e'.symm).symm)
  inj c d u u' k k' hc hu hd hk hk' e := by
    rw [H.get_new] at hc hd
    unfold Inj.add at hk hk'
    have hnext : (h.drop b).addr = h.addr := rfl
    rw [hnext] at hc hd
    by_cases e1 : c = h.addr
    · by_cases e2 : d = h.addr
      · rw [e1, e2]
      · rw [if_pos e1] at hk; rw [if_neg e2] at hk' hd; cases hk
        rw [H.get_drop] at hd
        by_cases e3 : d = b
        · rw [if_pos e3] at hd; cases hd
        · rw [if_neg e3] at hd
          exact absurd (R.inj b d o u' i k' hb hm hd hi hk' (hj.symm.trans e)) (Ne.symm e3)
    · rw [if_neg e1] at hk hc
      rw [H.get_drop] at hc
      by_cases e3 : c = b
      · rw [if_pos e3] at hc; cases hc
      · rw [if_neg e3] at hc
        by_cases e2 : d = h.addr
        · rw [if_pos e2] at hk'; cases hk'
          exact absurd (R.inj c b u o k i hc hu hb hk hi (e.trans hj)) e3
        · rw [if_neg e2] at hk' hd
          rw [H.get_drop] at hd
          by_cases e4 : d = b
          · rw [if_pos e4] at hd; cases hd
          · rw [if_neg e4] at hd; exact R.inj c d u u' k k' hc hu hd hk hk' e
  dom c k hk := by
    unfold Inj.add at hk
    by_cases e : c = h.addr
    · rw [if_pos e] at hk; cases hk
      have := (R.dom b i hi).2
      exact ⟨by rw [e]; exact H.lt_new (h.drop b) _ fun a ha => (R.one a ha).1, by omega⟩
    · rw [if_neg e] at hk
      have := R.dom c k hk
      exact ⟨Nat.lt_of_lt_of_le this.1 (H.next_new (h.drop b) _), by omega⟩
  one a ha := by
    have ⟨h1, h2⟩ := H.one_new ha
    exact ⟨Nat.lt_of_lt_of_le (R.one a h1).1 (H.next_new (h.drop b) _), by unfold Inj.add; rw [if_neg (show a ≠ h.addr from h2)]; exact (R.one a h1).2⟩
  wf c hc := by
    have h1 := H.lt_new (h.drop b) o' fun a ha => (R.one a ha).1
    have h2 : h.next ≤ ((h.drop b).new o').next := H.next_new (h.drop b) _
    rw [H.get_new, if_neg (by omega), H.get_drop]
    by_cases e : c = b
    · rw [if_pos e]
    · rw [if_neg e]; exact R.wf c (Nat.le_trans h2 hc)
  glob g hg := let ⟨k, h1, h2⟩ := R.glob g hg; ⟨k, Inj.ext_add j R.fresh _ _ h1, h2⟩
theorem Evo.move {ok : OkC} {G : Nat} {m : Inj} {h : H} {w w' : World} (R : HRel ok G m h w) {b : Nat} {o o' : DObj} {i j : Img} (hb : h.get b = some o) (hm : o.mut = true) (hi : m b = some i) (hj : j.blk = i.blk)
    (h1 : w'.os = w.os) (h2 : w'.tape = w.tape) (h3 : w'.output = w.output) (hs : w'.heap.size = w.heap.size) (hw : ∀ r, r ≠ i.blk → w'.heap[r]? = w.heap[r]?) : Evo m h w (m.add h.addr j) ((h.drop b).new o') w' where
  ext := Inj.ext_add j R.fresh
  os := h1
  tape := h2
  output := h3
  size := by omega
  keep r hr hn := hw r fun e => hn ⟨b, o, i, hb, hm, hi, e.symm⟩
  new c k e e' := by
    unfold Inj.add at e
    by_cases hc : c = h.addr
    · rw [if_pos hc] at e; cases e; exact .inr ⟨b, o, i, hb, hm, hi, hj.symm⟩
    · rw [if_neg hc] at e; rw [e] at e'; cases e'
  own r hr := by
    rintro ⟨c, u, k, hc, hu, hk, e⟩
    rw [H.get_new] at hc
    unfold Inj.add at hk
    have hnext : (h.drop b).addr = h.addr := rfl
    rw [hnext] at hc
    by_cases e1 : c = h.addr
    · rw [if_pos e1] at hk; cases hk; exact ⟨b, o, i, hb, hm, hi, hj.symm.trans e⟩
    · rw [if_neg e1] at hc hk
      rw [H.get_drop] at hc
      by_cases e2 : c = b
      · rw [if_pos e2] at hc; cases hc
      · rw [if_neg e2] at hc; exact ⟨c, u, k, hc, hu, hk, e⟩
theorem Evo.drop {m : Inj} {h : H} {w : World} (b : Nat) : Evo m h w m (h.drop b) w where
  ext := Ext.refl m
  os := rfl
  tape := rfl
  output := rfl
  size := Nat.le_refl _
  keep _ _ _ := rfl
  new c k e e' := by rw [e] at e'; cases e'
  own r _ := by
    rintro ⟨c, u, k, hc, hu, hk, e⟩
    rw [H.get_drop] at hc
    by_cases e2 : c = b
    · rw [if_pos e2] at hc; cases hc
    · rw [if_neg e2] at hc; exact ⟨c, u, k, hc, hu, hk, e⟩

section
variable {P : Program} {E : Env} (hE : EnvOk P E) {w : World} {m : Inj} {ok : OkC} {G : Nat} {h : H}
include hE in
/-- The model's append: there is room. -/
theorem append_room {t xt elem : TypeId} {xd : TypeDesc} {i : TypeInfo} {ts : Array TypeId} {r : TypeId} (ht : ts.toList = [t, xt]) (hu : E.und t = some (.slice elem)) (hx : E.und xt = some xd) (hxd : ∀ k, xd ≠ .int k)
    (hi : E.ty elem = some i) {base : Option Addr} {len cap k : Nat} {x' : Value} {cs' : List Value} (hk : (Builtin.lenOf x').run P w = .ok k w) (hc : (Builtin.firstCells i.size k x').run P w = .ok cs'.toArray w) (hle : len + k ≤ cap) :
    (Builtin.append_ ts r #[.slice base len cap, x']).run P w =
      ((match base with | some a => storeCells (a.add (len * i.size)) cs' | none => pure ()).run P w).andThen fun _ w' => .ok (.slice base (len + k) cap) w' := by
  have ht0 : ts[0]? = some t := by rw [← Array.getElem?_toList, ht]; rfl
  have ht1 : ts[1]? = some xt := by rw [← Array.getElem?_toList, ht]; rfl
  have hsz : E.siz elem = some i.size := by simp [Env.siz, hi]
  have hz : (match xd with | .int _ => true | _ => false) = false := by
    cases xd <;> first | rfl | (exact absurd rfl (hxd _))
  simp only [Builtin.append_, ht0, ht1, List.getElem?_toArray, List.getElem?_cons_zero, List.getElem?_cons_succ, Sem.run_bind, run_underlying hE hu, Result.andThen_ok, run_siz hE hsz, run_underlying hE hx, Sem.run_pure]
  cases xd <;> first | (exact absurd rfl (hxd _)) | skip
  all_goals
    simp only [Bool.false_eq_true, if_false, hk, Result.andThen_ok, hle, if_true, Bool.not_false, Sem.run_bind, hc]
    cases base <;> simp
include hE in
/-- The model's append: there is none; a new row is made. -/
theorem append_grow {t xt elem : TypeId} {xd : TypeDesc} {i : TypeInfo} {z : Value} {ts : Array TypeId} {r : TypeId} (ht : ts.toList = [t, xt]) (hu : E.und t = some (.slice elem)) (hx : E.und xt = some xd) (hxd : ∀ k, xd ≠ .int k)
    (hi : E.ty elem = some i) (hz : zeroD E elem = some z) (hzs : z.cells.size = i.size) {base : Option Addr} {len cap k : Nat} {x' : Value} {cs' old : List Value}
    (hk : (Builtin.lenOf x').run P w = .ok k w) (hc : (Builtin.firstCells i.size k x').run P w.drew = .ok cs'.toArray w.drew) (ho : (Builtin.firstCells i.size len (.slice base len cap)).run P w.drew = .ok old.toArray w.drew)
    (hlt : cap < len + k) (hb1 : (len + k) * (i.bytes + 1) ≤ 2 ^ 44) (hb2 : i.bytes ≤ 2 ^ 32) :
    ∃ newCap, len + k ≤ newCap ∧ ∃ rest : Array Value, rest.size = (newCap - (len + k)) * i.size ∧
    (Builtin.append_ ts r #[.slice base len cap, x']).run P w = .ok (.slice (some ⟨w.heap.size, 0, none⟩) (len + k) newCap) (w.drew.alloc (.cells (old.toArray ++ cs'.toArray ++ rest) elem)) := by
  have ht0 : ts[0]? = some t := by rw [← Array.getElem?_toList, ht]; rfl
  have ht1 : ts[1]? = some xt := by rw [← Array.getElem?_toList, ht]; rfl
  have hsz : E.siz elem = some i.size := by simp [Env.siz, hi]
  have hmul : (len + k) * (i.bytes + 1) = (len + k) * i.bytes + (len + k) := by rw [Nat.mul_add, Nat.mul_one]
  have hn := nextcap_le hlt
  have hnb : Builtin.nextslicecap (len + k) cap * i.bytes ≤ 2 ^ 48 := by
    have h1 : Builtin.nextslicecap (len + k) cap * i.bytes ≤ (2 * (len + k) + 192) * i.bytes := Nat.mul_le_mul_right _ hn
    have h2 : (2 * (len + k) + 192) * i.bytes = 2 * ((len + k) * i.bytes) + 192 * i.bytes := by rw [Nat.add_mul, Nat.mul_assoc]
    omega
  have hfr : (Question.appendCap (len + k) cap elem).forced = false := rfl
  obtain ⟨newCap, hnc⟩ : ∃ newCap, (Question.appendCap (len + k) cap elem).cut (w.tape w.drawn (.appendCap (len + k) cap elem)) = newCap := ⟨_, rfl⟩
  have hle : len + k ≤ newCap := by rw [← hnc]; simp [Question.cut]
  refine ⟨newCap, hle, Builtin.zeroCells z.cells (newCap - (len + k)), by simp [Builtin.zeroCells, hzs], ?_⟩
  simp only [Builtin.append_, ht0, ht1, List.getElem?_toArray, List.getElem?_cons_zero, List.getElem?_cons_succ, Sem.run_bind, run_underlying hE hu, Result.andThen_ok, run_siz hE hsz, run_underlying hE hx, Sem.run_pure]
  cases xd <;> first | (exact absurd rfl (hxd _)) | skip
  all_goals
    simp only [Bool.false_eq_true, if_false, hk, Result.andThen_ok, Nat.not_le.2 hlt, Bool.not_false, if_true, Sem.run_bind, run_typeInfo hE hi]
    rw [if_neg (by simp [IntKind.max, IntKind.signed, IntKind.bits]; omega)]
    simp only [Sem.run_pure, Result.andThen_ok, false_or, Sem.run_bind, run_typeInfo hE hi]
    rw [if_neg (by omega)]
    simp only [Sem.run_pure, Result.andThen_ok, Sem.run_bind, run_choose, hfr, Bool.false_eq_true, if_false, hnc, run_askRoom, run_typeInfo hE hi, World.drew_eq, ho, hc, run_zero hE hz, newRow, run_newObj]
    simp
    rfl
theorem append_nonint {xd : TypeDesc} {a b : Bool} (h : ¬ ((isIntT xd || a || b) = true)) : (∀ k, xd ≠ .int k) ∧ a = false ∧ b = false := by
  simp at h
  refine ⟨fun k e => ?_, h.1.2, h.2⟩
  subst e; simp [isIntT] at h
include hE in
theorem append_sim (R : HRel ok G m h w) {ts : Array TypeId} {r : TypeId} {s s' x x' v : Value} {h' : H} (hs : VRel m s s') (hx : VRel m x x') (hd : appendD E ts.toList s x h = some (v, h')) :
    ∃ v' w', (Builtin.append_ ts r #[s', x']).run P w = .ok v' w' ∧ Step ok G m h w v h' v' w' := by
  unfold appendD at hd
  split at hd
  · rename_i t xt hts
    split at hd
    · rename_i elem xd hu hxd
      split at hd
      · rename_i i z hi hz
        split at hd
        · cases hd
        · rename_i hg
          obtain ⟨hni, hsz0, hzs⟩ := append_nonint hg
          simp at hsz0 hzs
          split at hd
          · cases hd
          · rename_i k cs hsrc
            split at hd
            · rename_i hlen
              obtain ⟨hk, cs', hc1, hc2⟩ := src_sim (P := P) R hx hsrc
              have hlen' : cs'.length = k * i.size := by rw [hc1.length, hlen]
              have Rd : HRel ok G m h w.drew := R.same rfl
              split at hd
              · -- onto nothing
                obtain ⟨rfl, _, _⟩ := hs.nils
                split at hd
                · rename_i h0
                  cases hd
                  subst h0
                  refine ⟨.slice none 0 0, w, ?_, Step.same R (.plain rfl)⟩
                  rw [append_room hE hts hu hxd hni hi hk hc2 (Nat.le_refl _)]
                  rfl
                · rename_i h0
                  split at hd
                  · rename_i hb
                    simp at hb
                    cases hd
                    obtain ⟨_, cs2, hd1, hd2⟩ := src_sim (P := P) Rd hx hsrc
                    have hlen2 : cs2.length = k * i.size := by rw [hd1.length, hlen]
                    obtain ⟨nc, hn1, rest, hr, hrun⟩ := append_grow hE (r := r) (base := none) (len := 0) (cap := 0) (old := []) hts hu hxd hni hi hz hzs hk hd2 rfl (by omega) (by simpa using hb.1) hb.2
                    simp only [Nat.zero_add] at hrun hn1 hr
                    have hsize : (([] : List Value).toArray ++ cs2.toArray ++ rest).size = nc * i.size := by
                      have : k * i.size + (nc - k) * i.size = nc * i.size := by rw [← Nat.add_mul]; congr 1; omega
                      simp [hlen2, hr]; omega
                    obtain ⟨e1, e2⟩ := new_simW R hd1 i.size hsize (fun j hj => by
                        rw [Array.getElem?_append_left (by simp; have := hd1.length; omega)]
                        simp) (by rw [hlen]; exact Nat.mul_le_mul_right _ hn1) (e := elem) (lo := 0) (hi := 0) 0 (ty := E.tag elem) (fun t ht => ⟨E.tag_eq elem t ht, rfl⟩) (w' := w.drew.alloc (.cells (([] : List Value).toArray ++ cs2.toArray ++ rest) elem)) rfl rfl rfl rfl (.inl (Nat.le_refl _))
                    exact ⟨_, _, hrun, _, e1, e2, .slice (Inj.add_self _ _ _) (Nat.le_refl _) hn1 (.inr ⟨by simp; omega, by simp⟩)⟩
                  · cases hd
              · rename_i b o len cap
                obtain ⟨a', c', rfl, h1, h2, h3⟩ := hs.slicev
                split at hd
                · rename_i h0
                  cases hd
                  subst h0
                  refine ⟨.slice (some a') len c', w, ?_, Step.same R hs⟩
                  rw [append_room hE hts hu hxd hni hi hk hc2 (by omega)]
                  have : cs' = [] := List.eq_nil_of_length_eq_zero (by simp [hlen'])
                  subst this
                  rfl
                · rename_i h0
                  split at hd
                  · rename_i hroom
                    split at hd
                    · rename_i h2' hst
                      cases hd
                      rcases h3 with ⟨q1, q2, q3⟩ | ⟨j, hj, _, rfl, hcap⟩
                      · omega
                      · obtain ⟨w', s1, s2, s3⟩ := stCells_sim (P := P) R hj hc1 hst
                        refine ⟨.slice (some ⟨j.blk, o + j.off, none⟩) (len + k) c', w', ?_, m, s2, s3, .slice hj hroom h2 hcap⟩
                        rw [append_room hE hts hu hxd hni hi hk hc2 (by omega)]
                        simp only [add_plain]
                        rw [show o + j.off + len * i.size = o + len * i.size + j.off by omega, s1]
                        rfl
                    · cases hd
                  · rename_i hroom
                    split at hd
                    · rename_i hb
                      simp only [Bool.and_eq_true, decide_eq_true_eq] at hb
                      obtain ⟨⟨hb1, hb2⟩, hb3⟩ := hb
                      split at hd
                      · rename_i c st fz ty hgb
                        split at hd
                        · rename_i hq
                          simp only [Bool.and_eq_true, decide_eq_true_eq, Bool.or_eq_true, beq_iff_eq] at hq
                          obtain ⟨⟨⟨hq1, hq2⟩, hq3⟩, hq4⟩ := hq
                          cases hd
                          subst hq1
                          by_cases hin : len + k ≤ c'
                          · -- there is room in the model
                            rcases h3 with ⟨q1, q2, q3⟩ | ⟨j, hj, _, rfl, hcap⟩
                            · omega
                            · rcases hcap with hcap | ⟨hst0, hcap⟩
                              · omega
                              · simp only at hj hcap
                                obtain ⟨p0, c2, el, lo, hi', p1, p2, p3, p4, p5, p6⟩ := R.obj b _ j hgb hj
                                rw [p0] at hcap
                                have hmul : (len + k) * i.size = len * i.size + k * i.size := Nat.add_mul ..
                                have hmul2 : (len + k) * i.size ≤ c' * i.size := Nat.mul_le_mul_right _ hin
                                have hfz := p5 rfl
                                have hone : ∀ v ∈ cs', v.oneCell' = true := by
                                  intro v' hv'
                                  obtain ⟨q, hq, e⟩ := List.getElem_of_mem hv'
                                  have hj' : q < cs.length := by have := hc1.length; omega
                                  obtain ⟨u, hu1, hu2⟩ := hc1.get (List.getElem?_eq_getElem hj')
                                  rw [List.getElem?_eq_getElem hq, e] at hu1
                                  cases hu1
                                  exact hu2.cellV (List.all_eq_true.1 hb3 _ (List.getElem_mem hj'))
                                have hF := setCells_facts j.blk cs' w (o + j.off + len * i.size + 0)
                                have hB := setCells_block j.blk cs' w (o + j.off + len * i.size + 0) c2 el (lo, hi') p1
                                have hrs := run_storeCells (P := P) j.blk (o + j.off + len * i.size) cs' w 0 c2 el lo hi' p1 (by omega) hone (by intro q q1 q2; omega)
                                have hO : ORel ok (m.add h.addr ⟨j.blk, j.off + o, i.size, j.size⟩) (setCells w j.blk (o + j.off + len * i.size + 0) cs') ⟨j.blk, j.off + o, i.size, j.size⟩ (.cells ((c.drop o).take (len * i.size) ++ cs) i.size true (fz - o) ty) := by
                                  refine ⟨rfl, _, el, lo, hi', hB, by simp [setAt_length]; exact p2, ?_, ?_, fun _ => ?_, fun t ht => ?_⟩
                                  · simp [setAt_length]; omega
                                  · intro q v hv
                                    simp only [List.getElem?_toArray, setAt_get, Array.length_toList]
                                    by_cases hql : q < len * i.size
                                    · rw [List.getElem?_append_left (by simp; omega), List.getElem?_take, if_pos hql, List.getElem?_drop] at hv
                                      obtain ⟨v', y1, y2⟩ := p4 _ v hv
                                      rw [if_neg (by omega)]
                                      exact ⟨v', by rw [show j.off + o + q = j.off + (o + q) by omega]; simpa using y1, y2.mono (Inj.ext_add _ R.fresh)⟩
                                    · have hl0 : ((c.drop o).take (len * i.size)).length = len * i.size := by simp; omega
                                      rw [List.getElem?_append_right (by omega), hl0] at hv
                                      have hqk : q - len * i.size < cs.length := (List.getElem?_eq_some_iff.1 hv).1
                                      obtain ⟨v', y1, y2⟩ := hc1.get hv
                                      rw [if_pos (by omega)]
                                      exact ⟨v', by rw [show j.off + o + q - (o + j.off + len * i.size + 0) = q - len * i.size by omega]; exact y1, y2.mono (Inj.ext_add _ R.fresh)⟩
                                  · simp only; omega
                                  · have := p6 t ht
                                    rcases hq4 with hq4 | hq4
                                    · rw [hq4] at ht; cases ht
                                    · exact ⟨this.1, by simp only; omega, by omega⟩
                                refine ⟨.slice (some ⟨j.blk, o + j.off, none⟩) (len + k) c', _, ?_, _, Evo.move R (j := ⟨j.blk, j.off + o, i.size, j.size⟩) hgb rfl hj rfl hF.os hF.tape hF.output hF.size hF.other, R.move hgb rfl hj rfl hF.size hF.other hO, ?_⟩
                                · rw [append_room hE hts hu hxd hni hi hk hc2 hin]
                                  simp only [add_plain]
                                  rw [hrs]
                                  rfl
                                · have := VRel.slice (m := m.add h.addr ⟨j.blk, j.off + o, i.size, j.size⟩) (b := h.addr) (o := 0) (n := len + k) (c := len + k) (c' := c') (Inj.add_self _ _ _) (Nat.le_refl _) hin (.inr ⟨by simp; omega, by simp only; omega⟩)
                                  rw [show o + j.off = 0 + (j.off + o) by omega]
                                  exact this
                          · -- there is none
                            obtain ⟨_, cs2, hd1, hd2⟩ := src_sim (P := P) Rd hx hsrc
                            have hlen2 : cs2.length = k * i.size := by rw [hd1.length, hlen]
                            have hold : ∃ old : List Value, LRel m ((c.drop o).take (len * i.size)) old ∧ (Builtin.firstCells i.size len (.slice (some a') len c')).run P w.drew = .ok old.toArray w.drew := by
                              rcases h3 with ⟨q1, q2, q3⟩ | ⟨j, hj, _, rfl, hcap⟩
                              · subst q1
                                refine ⟨[], by rw [Nat.zero_mul]; exact .nil, ?_⟩
                                show (loadCells a' (0 * i.size)).run P w.drew = _
                                rw [Nat.zero_mul]; rfl
                              · obtain ⟨vs', y1, y2, y3, _⟩ := cells_sim (P := P) Rd hj hgb hq2
                                exact ⟨vs', y1, y3⟩
                            obtain ⟨old, ho1, ho2⟩ := hold
                            have hol : old.length = len * i.size := by rw [ho1.length]; simp; omega
                            obtain ⟨nc, hn1, rest, hr, hrun⟩ := append_grow hE (r := r) hts hu hxd hni hi hz hzs hk hd2 ho2 (by omega) hb1 hb2
                            have hmul : (len + k) * i.size = len * i.size + k * i.size := Nat.add_mul ..
                            have hsize : (old.toArray ++ cs2.toArray ++ rest).size = nc * i.size := by
                              have : (len + k) * i.size + (nc - (len + k)) * i.size = nc * i.size := by rw [← Nat.add_mul]; congr 1; omega
                              simp [hol, hlen2, hr]; omega
                            have hLL := ho1.append hd1
                            have hcl : ((c.drop o).take (len * i.size) ++ cs).length = (len + k) * i.size := by simp; omega
                            obtain ⟨e1, e2⟩ := new_simW (R.drop b) (h := h.drop b) hLL i.size hsize (fun j hj => by
                                rw [Array.getElem?_append_left (by simp; omega)]
                                simp) (by rw [hcl]; exact Nat.mul_le_mul_right _ hn1) (e := elem) (lo := 0) (hi := 0) (fz - o) (ty := ty) (fun t ht => ⟨by rcases hq4 with hq4 | hq4 <;> simp_all, rfl⟩) (w' := w.drew.alloc (.cells (old.toArray ++ cs2.toArray ++ rest) elem)) rfl rfl rfl rfl (.inl (Nat.zero_le _))
                            exact ⟨_, _, hrun, _, (Evo.drop b).trans e1, e2, .slice (Inj.add_self _ _ _) (Nat.le_refl _) hn1 (.inr ⟨by simp; omega, by simp⟩)⟩
                        · cases hd
                      · cases hd
                    · cases hd
              · cases hd
            · cases hd
      · cases hd
    · cases hd
  · cases hd
end
end Go.Dm
