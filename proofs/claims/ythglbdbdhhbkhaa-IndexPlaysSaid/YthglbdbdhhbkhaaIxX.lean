/- The plugs of chapter 26: Put and Who, whatever order is drawn. -/
import Derived.Test.YthglbdbdhhbkhaaIxQ
set_option linter.unusedVariables false
set_option linter.unusedSimpArgs false
namespace Go.Dm
open Go.Proofs
theorem xptr_nn (k : Nat) : binD E0 .eql 25 (.tmp k) (.const (.pointer none)) (.pointer none) (.pointer none) = some (.bool true) := by
  simp [binD, eqTopD]
  rfl
/-! What memory says determines it. -/
theorem map_inj {α β : Type} {g : α → β} (hg : ∀ a b, g a = g b → a = b) : ∀ {a b : List α}, a.map g = b.map g → a = b
  | [], [], _ => rfl
  | [], b :: lb, h => by cases h
  | a :: la, [], h => by cases h
  | a :: la, b :: lb, h => by
    simp only [List.map_cons, List.cons.injEq] at h
    rw [hg _ _ h.1, map_inj hg h.2]
theorem str_inj' (a b : List UInt8) (h : str a = str b) : a = b := str_inj.mp h
theorem MapAt.uniq {K : Type} {ek : K → Value} (hk : ∀ a b, ek a = ek b → a = b) {h : H} {r : Nat} {f g : K → Option Value} (m : MapAt ek h r f) (m' : MapAt ek h r g) : f = g := by
  obtain ⟨es, c, h1, p⟩ := m
  obtain ⟨es', c', h2, p'⟩ := m'
  rw [h1] at h2
  have e := Option.some.inj h2
  have e1 : encA ek es = encA ek es' := by injection e
  have e2 : es = es' := map_inj (fun a b q => by
    obtain ⟨a1, a2, a3⟩ := a
    obtain ⟨b1, b2, b3⟩ := b
    injection q with q1 q2 q3
    simp only at q1 q2 q3
    rw [hk _ _ q1, q2, q3]) e1
  subst e2
  funext k
  cases hf : f k with
  | some v => exact ((p'.lk k v).2 ((p.lk k v).1 hf)).symm
  | none =>
    cases hg : g k with
    | none => rfl
    | some v => rw [(p.lk k v).2 ((p'.lk k v).1 hg)] at hf; cases hf
theorem RdS.uniq {h : H} {v : Value} {a b : List (List UInt8)} (r : RdS h v a) (r' : RdS h v b) : a = b := by
  have hl : a.length = b.length := by
    obtain ⟨x, c, e⟩ := r.sl
    obtain ⟨x', c', e'⟩ := r'.sl
    rw [e] at e'
    injection e'
  rcases r with ⟨_, _, rfl⟩ | ⟨g, cap, c, st, own, fz, ty, rfl, _, a3, _, a5, _⟩
  · exact (List.eq_nil_of_length_eq_zero hl.symm).symm
  · rcases r' with ⟨_, _, rfl⟩ | ⟨g', cap', c', st', own', fz', ty', e, _, b3, _, b5, _⟩
    · exact List.eq_nil_of_length_eq_zero hl
    · injection e with e1 e2 e3
      injection e1 with e1
      injection e1 with e1
      subst e1
      rw [a3] at b3
      cases b3
      rw [← e2, a5] at b5
      exact map_inj str_inj' b5
theorem en_ext {a b : En} (h1 : a.n = b.n) (h2 : a.d = b.d) (h3 : a.m = b.m) : a = b := by
  cases a; cases b; simp only at h1 h2 h3; subst h1 h2 h3; rfl
theorem ris_ext {L M : List En} (r : Ris L) (s : Ris M) (h : ∀ e, e ∈ L ↔ e ∈ M) : L = M := by
  have n1 : L.Nodup := r.imp fun h e => by rw [e] at h; omega
  have n2 : M.Nodup := s.imp fun h e => by rw [e] at h; omega
  exact ((List.perm_ext_iff_of_nodup n1 n2).2 h).eq_of_pairwise (le := fun a b : En => a.n < b.n) (fun a b _ _ h1 h2 => absurd (Int.lt_trans h1 h2) (Int.lt_irrefl _)) r s
theorem ent_sub {h : H} {f : Int → Option Value} {L M : List En} (r : Ris L) (s : Ris M) (a : EntOk h f L) (b : EntOk h f M) (e : En) (he : e ∈ L) : e ∈ M := by
  have q := a e.n
  have q' := b e.n
  have hg := (getL_some r).2 ⟨he, rfl⟩
  rw [hg] at q
  obtain ⟨v1, v2, y1, y2, y3⟩ := q
  cases hm : getL M e.n with
  | none => rw [hm] at q'; simp only at q'; rw [y1] at q'; cases q'
  | some e' =>
    rw [hm] at q'
    obtain ⟨u1, u2, z1, z2, z3⟩ := q'
    rw [y1] at z1
    have z1 := Option.some.inj z1
    injection z1 with z1
    injection z1 with z1
    injection z1 with p1 p2
    injection p2 with p2 p3
    subst p1 p2
    have := (getL_some s).1 hm
    rw [en_ext this.2.symm (y2.rd.uniq z2.rd) (y3.rd.uniq z3.rd)]
    exact this.1
theorem Rep.uniq {h : H} {xb em dm mm cm em' dm' mm' cm' : Nat} {L L' : List En} {f f' : Int → Option Value} (r : Rep h xb em dm mm cm L f) (r' : Rep h xb em' dm' mm' cm' L' f') : em' = em ∧ dm' = dm ∧ mm' = mm ∧ cm' = cm ∧ L' = L ∧ f' = f := by
  have e := r.x.symm.trans r'.x
  injection e with e
  injection e with e1
  injection e1 with e1 e2
  injection e2 with e2 e3
  injection e3 with e3 e4
  injection e4 with e4
  injection e1 with e1
  injection e1 with e1
  injection e2 with e2
  injection e2 with e2
  injection e3 with e3
  injection e3 with e3
  injection e4 with e4
  injection e4 with e4
  subst e1 e2 e3 e4
  have hf : f = f' := r.e.uniq (fun a b q => by injection q) r'.e
  subst hf
  refine ⟨rfl, rfl, rfl, rfl, ris_ext r'.ris r.ris fun e => ⟨fun h => ?_, fun h => ?_⟩, rfl⟩
  · exact ent_sub r'.ris r.ris r'.en r.en e h
  · exact ent_sub r.ris r'.ris r.en r'.en e h
/-! Calls that end at once -/
theorem Put_nil_n (n : Int) (dv mv : Value) (h : H) (h1 : h.one = []) :
    ∃ v h', (v = .tuple #[.slice none 0 0, .int .i64 8] ∧ Fr h.next h h') ∧ CallN Try.prog E0 G0 16 [.pointer none, .int .i64 n, dv, mv] h v h' := by
  refine CallN.of_wne env0 (fn := Try.f16) efn16 rfl (by rfl) ?_
  refine WNE.seq env0 mixed0 code0 plug1 [] (by kernel_rfl) (by kernel_rfl) ?_
  simp [h1]
  refine WNE.seq env0 mixed0 code0 plug1 [] (by kernel_rfl) (by kernel_rfl) ?_
  simp [h1, xptr_nn]
  exact (Fr.refl h1).nw (Nat.le_refl _) _
theorem Put_neg_n (xb : Nat) (n : Int) (hn : n < 0) (dv mv : Value) (h : H) (h1 : h.one = []) :
    ∃ v h', (v = .tuple #[.slice none 0 0, .int .i64 1] ∧ Fr h.next h h') ∧ CallN Try.prog E0 G0 16 [.pointer (some ⟨xb, 0, none⟩), .int .i64 n, dv, mv] h v h' := by
  refine CallN.of_wne env0 (fn := Try.f16) efn16 rfl (by rfl) ?_
  refine WNE.seq env0 mixed0 code0 plug1 [] (by kernel_rfl) (by kernel_rfl) ?_
  simp [h1]
  refine WNE.seq env0 mixed0 code0 plug1 [] (by kernel_rfl) (by kernel_rfl) ?_
  simp [h1, hn]
  exact (Fr.refl h1).nw (Nat.le_refl _) _
theorem Who_nil_n (l : Value) (h : H) (h1 : h.one = []) :
    ∃ v h', (v = .slice none 0 0 ∧ Fr h.next h h') ∧ CallN Try.prog E0 G0 23 [.pointer none, l] h v h' := by
  refine CallN.of_wne env0 (fn := Try.f23) efn23 rfl (by rfl) ?_
  refine WNE.seq env0 mixed0 code0 plug1 [] (by kernel_rfl) (by kernel_rfl) ?_
  simp [h1]
  refine WNE.seq env0 mixed0 code0 plug1 [] (by kernel_rfl) (by kernel_rfl) ?_
  simp [h1, xptr_nn]
  exact Fr.refl h1
theorem nodup_len {α : Type} [DecidableEq α] : ∀ {a b : List α}, a.Nodup → (∀ x ∈ a, x ∈ b) → a.length ≤ b.length
  | [], b, _, _ => Nat.zero_le _
  | x :: a, b, hn, hs => by
    obtain ⟨h1, h2⟩ := List.nodup_cons.1 hn
    have hx := hs x (List.mem_cons_self ..)
    have := nodup_len (b := b.erase x) h2 fun y hy => (List.mem_erase_of_ne (fun e : y = x => h1 (by rw [← e]; exact hy))).2 (hs y (List.mem_cons_of_mem _ hy))
    rw [List.length_erase_of_mem hx] at this
    have := List.length_pos_of_mem hx
    simp only [List.length_cons]
    omega
/-- A slice of numbers that is read. -/
def RdI (h : H) (v : Value) (zs : List Int) : Prop := (v = .slice none 0 0 ∧ zs = []) ∨ ∃ b cap c st own fz ty, v = .slice (some ⟨b, 0, none⟩) zs.length cap ∧ zs.length ≤ cap ∧ h.get b = some (.cells c st own fz ty) ∧ b < h.next ∧ c.take zs.length = zs.map (Value.int .i64) ∧ (st = 0 ∨ st = 1)
theorem Who_rep (xb em dm mm cm : Nat) (L : List En) (f : Int → Option Value) (l : List UInt8) (h : H) (h1 : h.one = []) (rep : Rep h xb em dm mm cm L f) (hT : totL L < 2 ^ 20) :
    ∃ v h', (RdI h' v (whoP L l) ∧ Fr h.next h h') ∧ CallN Try.prog E0 G0 23 [.pointer (some ⟨xb, 0, none⟩), str l] h v h' := by
  obtain ⟨es, clock, hg, mp⟩ := rep.m
  obtain ⟨es2, he2⟩ : ∃ es2 : List ((List UInt8 × Int) × Nat), es2 = es.map fun e => (e.1, e.2.2) := ⟨_, rfl⟩
  have hval : ∀ k v b, (k, v, b) ∈ es → v = .bool true ∧ k.1 ∈ mOf L k.2 := by
    intro k v b hb
    have q := (mp.lk k v).2 ⟨b, hb⟩
    unfold mF at q
    by_cases hc : k.1 ∈ mOf L k.2
    · rw [if_pos hc] at q; cases q; exact ⟨rfl, hc⟩
    · rw [if_neg hc] at q; cases q
  have hme : mentE es2 = encA keyS es := by
    rw [he2]
    unfold mentE encA
    rw [List.map_map]
    refine List.map_congr_left ?_
    rintro ⟨k, v, b⟩ hb
    rw [(hval k v b hb).1]
    rfl
  have hlen : es.length ≤ totL L := by
    have h2 := nodup_len (b := L.flatMap fun e => e.m.map fun s => (s, e.n)) mp.kn (by
      intro k hk
      obtain ⟨⟨k', v, b⟩, hb, rfl⟩ := List.mem_map.1 hk
      obtain ⟨e, y1, y2, y3⟩ := (mem_mOf rep.ris).1 (hval _ _ _ hb).2
      exact List.mem_flatMap.2 ⟨e, y1, List.mem_map.2 ⟨k'.1, y3, by rw [y2]⟩⟩)
    have h3 : ∀ M : List En, (M.flatMap fun e => e.m.map fun s => (s, e.n)).length ≤ totL M := by
      intro M
      induction M with
      | nil => exact Nat.le_refl _
      | cons a M ih =>
        unfold totL at *
        simp only [List.flatMap_cons, List.length_append, List.length_map, List.map_cons, List.sum_cons] at *
        omega
    have := h3 L
    simp only [List.length_map] at h2
    omega
  have hl2 : es2.length = es.length := by rw [he2]; simp
  have hkn : (es2.map (·.1)).Nodup := by
    have : es2.map (·.1) = es.map (·.1) := by rw [he2]; simp
    rw [this]; exact mp.kn
  have hmem : ∀ k, (∃ b, (k, b) ∈ es2) ↔ k.1 ∈ mOf L k.2 := by
    intro k
    rw [he2]
    constructor
    · rintro ⟨b, hb⟩
      obtain ⟨⟨k', v, b'⟩, hb', e⟩ := List.mem_map.1 hb
      injection e with e1 e2
      subst e1
      exact (hval _ _ _ hb').2
    · intro hk
      obtain ⟨b, hb⟩ := (mp.lk k (.bool true)).1 (by unfold mF; rw [if_pos hk])
      exact ⟨b, List.mem_map.2 ⟨_, hb, rfl⟩⟩
  have hwn : (whoL es2 l).Nodup := by
    unfold whoL
    have h3 : ((es2.filter fun e => decide (e.1.1 = l)).map (·.1)).Nodup := hkn.sublist (List.filter_sublist.map _)
    rw [show (fun e : (List UInt8 × Int) × Nat => e.1.2) = (fun k : List UInt8 × Int => k.2) ∘ (·.1) from rfl, ← List.map_map]
    refine List.pairwise_map.2 (h3.imp_of_mem ?_)
    intro a b ha hb hab e
    obtain ⟨x, hx, rfl⟩ := List.mem_map.1 ha
    obtain ⟨y, hy, rfl⟩ := List.mem_map.1 hb
    have hx2 := of_decide_eq_true (List.mem_filter.1 hx).2
    have hy2 := of_decide_eq_true (List.mem_filter.1 hy).2
    exact hab (Prod.ext (hx2.trans hy2.symm) e)
  have hws : srtI (whoL es2 l) = whoP L l := by
    refine (srtI_up hwn).ext (who_up rep.ris l) fun n => ?_
    rw [(srtI_p _).mem_iff, who_mem rep.ris]
    unfold whoL
    rw [List.mem_map]
    constructor
    · rintro ⟨x, hx, rfl⟩
      have hx1 := (List.mem_filter.1 hx).1
      have hx2 := of_decide_eq_true (List.mem_filter.1 hx).2
      have := (hmem x.1).1 ⟨x.2, hx1⟩
      rw [hx2] at this
      exact this
    · intro hn
      obtain ⟨b, hb⟩ := (hmem (l, n)).2 hn
      exact ⟨_, List.mem_filter.2 ⟨hb, by simp⟩, rfl⟩
  have hcall := Who_n xb em dm mm cm es2 clock l h h1 rep.x (by rw [hme]; exact hg) (by
    intro e he
    rw [he2] at he
    obtain ⟨x, hx, rfl⟩ := List.mem_map.1 he
    exact mp.bl x hx) (by
    have : es2.map (·.2) = es.map (·.2.2) := by rw [he2]; simp
    rw [this]; exact mp.bn) rep.mlt (by omega)
  have hsl := srtI_len (whoL es2 l)
  rw [hws] at hsl hcall
  refine ⟨_, _, ?_, hcall⟩
  by_cases h0 : whoL es2 l = []
  · rw [if_pos h0, if_pos h0]
    refine ⟨.inl ⟨rfl, ?_⟩, ⟨rfl, by show h.next ≤ _ + 4 * es2.length; omega, fun b hb => rfl⟩⟩
    rw [h0] at hsl
    exact List.eq_nil_of_length_eq_zero hsl
  · rw [if_neg h0, if_neg h0, ← hsl]
    refine ⟨.inr ⟨_, _, _, 1, true, 0, none, rfl, Nat.le_refl _, by rw [gcH_get, if_pos rfl], Nat.lt_succ_self _, List.take_of_length_le (by rw [List.length_map]; exact Nat.le_refl _), .inr rfl⟩, ⟨rfl, by show h.next ≤ _ + 1; omega, fun b hb => by rw [gcH_get, if_neg (by omega)]⟩⟩
/-! The plug -/
def PutAll (args : List Value) (h : H) (v : Value) (h' : H) : Prop :=
  (∃ n dv mv, args = [.pointer none, .int .i64 n, dv, mv] ∧ v = .tuple #[.slice none 0 0, .int .i64 8] ∧ Fr h.next h h') ∨
  (∃ xb n dv mv, args = [.pointer (some ⟨xb, 0, none⟩), .int .i64 n, dv, mv] ∧ n < 0 ∧ v = .tuple #[.slice none 0 0, .int .i64 1] ∧ Fr h.next h h') ∨
  (∃ xb em dm mm cm L f n dv mv ds ms, args = [.pointer (some ⟨xb, 0, none⟩), .int .i64 n, dv, mv] ∧ 0 ≤ n ∧ Rep h xb em dm mm cm L f ∧ RdS h dv ds ∧ RdS h mv ms ∧ PutPost xb em dm mm cm L (putL L n (riseL ds) (riseL ms)) f n h v h')
def WhoAll (args : List Value) (h : H) (v : Value) (h' : H) : Prop :=
  (∃ l, args = [.pointer none, l] ∧ v = .slice none 0 0 ∧ Fr h.next h h') ∨
  (∃ xb em dm mm cm L f l, args = [.pointer (some ⟨xb, 0, none⟩), str l] ∧ Rep h xb em dm mm cm L f ∧ RdI h' v (whoP L l) ∧ Fr h.next h h')
def IxPost (f : FuncId) (args : List Value) (h : H) (r : Value × H) : Prop := (f = 16 ∧ PutAll args h r.1 r.2) ∨ (f = 23 ∧ WhoAll args h r.1 r.2)
noncomputable def X0 : Plug := fun f args h => if f = 16 ∨ f = 23 then choosePlug Try.prog E0 G0 IxPost f args h else X1 f args h
theorem plug0 : PlugOk Try.prog (okC E0 G0 false) G0 X0 := by
  intro f args h v h' hX
  unfold X0 at hX
  split at hX
  · exact choosePlug_ok _ _ _ _ hX
  · exact plug1 hX
theorem Put_nil (n : Int) (dv mv : Value) (h : H) (h1 : h.one = []) : CallW E0 X0 (.fn 16) [.pointer none, .int .i64 n, dv, mv] h (fun v h' => v = .tuple #[.slice none 0 0, .int .i64 8] ∧ Fr h.next h h') := by
  obtain ⟨v, h', p, c⟩ := Put_nil_n n dv mv h h1
  obtain ⟨⟨v2, h2⟩, q1, q2⟩ := choosePlug_use (Post := IxPost) c (.inl ⟨rfl, .inl ⟨n, dv, mv, rfl, p⟩⟩)
  refine CallW.plug (v := v2) (h' := h2) ((if_pos (.inl rfl)).trans q1) ?_
  rcases q2 with ⟨_, q2⟩ | ⟨e, _⟩
  · rcases q2 with ⟨n', dv', mv', e, q⟩ | ⟨xb, n', dv', mv', e, _⟩ | ⟨xb, em, dm, mm, cm, L, f, n', dv', mv', ds, ms, e, _⟩
    · exact q
    · cases e
    · cases e
  · cases e
theorem Put_neg (xb : Nat) (n : Int) (hn : n < 0) (dv mv : Value) (h : H) (h1 : h.one = []) : CallW E0 X0 (.fn 16) [.pointer (some ⟨xb, 0, none⟩), .int .i64 n, dv, mv] h (fun v h' => v = .tuple #[.slice none 0 0, .int .i64 1] ∧ Fr h.next h h') := by
  obtain ⟨v, h', p, c⟩ := Put_neg_n xb n hn dv mv h h1
  obtain ⟨⟨v2, h2⟩, q1, q2⟩ := choosePlug_use (Post := IxPost) c (.inl ⟨rfl, .inr (.inl ⟨xb, n, dv, mv, rfl, hn, p⟩)⟩)
  refine CallW.plug (v := v2) (h' := h2) ((if_pos (.inl rfl)).trans q1) ?_
  rcases q2 with ⟨_, q2⟩ | ⟨e, _⟩
  · rcases q2 with ⟨n', dv', mv', e, q⟩ | ⟨xb', n', dv', mv', e, _, q⟩ | ⟨xb', em, dm, mm, cm, L, f, n', dv', mv', ds, ms, e, hn', _⟩
    · cases e
    · exact q
    · cases e; omega
  · cases e
theorem Put_sp (xb em dm mm cm : Nat) (L : List En) (f : Int → Option Value) (n : Int) (dv mv : Value) (ds ms : List (List UInt8)) (h : H) (h1 : h.one = []) (rep : Rep h xb em dm mm cm L f) (hd : RdS h dv ds) (hm : RdS h mv ms) (hn0 : 0 ≤ n)
    (hT : totL L + ds.length + ms.length < 2 ^ 20) (hml : ∀ s ∈ ds, s.length ≤ maxLen) :
    CallW E0 X0 (.fn 16) [.pointer (some ⟨xb, 0, none⟩), .int .i64 n, dv, mv] h (PutPost xb em dm mm cm L (putL L n (riseL ds) (riseL ms)) f n h) := by
  obtain ⟨v, h', p, c⟩ := Put_n xb em dm mm cm L f n dv mv ds ms h h1 rep hd hm hn0 hT hml
  obtain ⟨⟨v2, h2⟩, q1, q2⟩ := choosePlug_use (Post := IxPost) c (.inl ⟨rfl, .inr (.inr ⟨xb, em, dm, mm, cm, L, f, n, dv, mv, ds, ms, rfl, hn0, rep, hd, hm, p⟩)⟩)
  refine CallW.plug (v := v2) (h' := h2) ((if_pos (.inl rfl)).trans q1) ?_
  rcases q2 with ⟨_, q2⟩ | ⟨e, _⟩
  · rcases q2 with ⟨n', dv', mv', e, q⟩ | ⟨xb', n', dv', mv', e, hn', q⟩ | ⟨xb', em', dm', mm', cm', L', f', n', dv', mv', ds', ms', e, hn', rep', hd', hm', q⟩
    · cases e
    · cases e; omega
    · cases e
      obtain ⟨rfl, rfl, rfl, rfl, rfl, rfl⟩ := rep.uniq rep'
      rw [hd.uniq hd', hm.uniq hm']
      exact q
  · cases e
theorem Who_nil (l : Value) (h : H) (h1 : h.one = []) : CallW E0 X0 (.fn 23) [.pointer none, l] h (fun v h' => v = .slice none 0 0 ∧ Fr h.next h h') := by
  obtain ⟨v, h', p, c⟩ := Who_nil_n l h h1
  obtain ⟨⟨v2, h2⟩, q1, q2⟩ := choosePlug_use (Post := IxPost) c (.inr ⟨rfl, .inl ⟨l, rfl, p⟩⟩)
  refine CallW.plug (v := v2) (h' := h2) ((if_pos (.inr rfl)).trans q1) ?_
  rcases q2 with ⟨e, _⟩ | ⟨_, q2⟩
  · cases e
  · rcases q2 with ⟨l', e, q⟩ | ⟨xb', em', dm', mm', cm', L', f', l', e, _⟩
    · exact q
    · cases e
theorem Who_sp (xb em dm mm cm : Nat) (L : List En) (f : Int → Option Value) (l : List UInt8) (h : H) (h1 : h.one = []) (rep : Rep h xb em dm mm cm L f) (hT : totL L < 2 ^ 20) : CallW E0 X0 (.fn 23) [.pointer (some ⟨xb, 0, none⟩), str l] h (fun v h' => RdI h' v (whoP L l) ∧ Fr h.next h h') := by
  obtain ⟨v, h', p, c⟩ := Who_rep xb em dm mm cm L f l h h1 rep hT
  obtain ⟨⟨v2, h2⟩, q1, q2⟩ := choosePlug_use (Post := IxPost) c (.inr ⟨rfl, .inr ⟨xb, em, dm, mm, cm, L, f, l, rfl, rep, p⟩⟩)
  refine CallW.plug (v := v2) (h' := h2) ((if_pos (.inr rfl)).trans q1) ?_
  rcases q2 with ⟨e, _⟩ | ⟨_, q2⟩
  · cases e
  · rcases q2 with ⟨l', e, q⟩ | ⟨xb', em', dm', mm', cm', L', f', l', e, rep', q⟩
    · cases e
    · injection e with e1 e2
      injection e1 with e1
      injection e1 with e1
      injection e1 with e1
      injection e2 with e2
      subst e1
      obtain ⟨rfl, rfl, rfl, rfl, rfl, rfl⟩ := rep.uniq rep'
      rw [str_inj' _ _ e2]
      exact q
end Go.Dm
