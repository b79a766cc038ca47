/- The scanner: a line of commands. -/
import Derived.Test.YtdgclgfhcgdehaaDoorSdG
import Derived.Test.YtdgclgfhcgdehaaDoorShT
import Derived.Test.YtdgclgfhcgdehaaDoorDMid
set_option linter.unusedVariables false
set_option linter.unusedSimpArgs false
namespace Go.Dm
open Go.Proofs
theorem Kp.mono {B B' cb : Nat} {a b : H} (x : Kp B cb a b) (hB : B' ≤ B) : Kp B' cb a b := ⟨x.one, x.next, fun k hk hc => x.get k (by omega) hc, x.st0⟩
theorem Scn.mono {B B' cb : Nat} {h : H} {s : ShS} {line : List UInt8} {l : List ShE} (x : Scn B cb h s line l) (hB : B' ≤ B) : Scn B' cb h s line l := by
  obtain ⟨v, h1, h2⟩ := x
  refine ⟨v, h1, ?_⟩
  rcases h2 with h2 | ⟨a, b, g, c, d⟩
  · exact .inl h2
  · exact .inr ⟨a, b, g, by omega, d⟩
theorem pc_bnd (line : List UInt8) (mark : Nat) : ∀ p ∈ (rdAt line 0 mark).1, p.fm ≤ p.to ∧ p.to ≤ line.length := by
  intro p hp
  unfold rdAt at hp
  rw [if_neg (by omega)] at hp
  obtain ⟨k', _, t⟩ := readM_tile (ctn line) (lfOf line) 0 mark (Nat.zero_le _)
  obtain ⟨i, hi, rfl⟩ := List.getElem_of_mem hp
  have := t.pcs i _ (List.getElem?_eq_getElem hi)
  have e := ctn_lf line
  rw [← ctn_length line] at e
  exact ⟨this.le, by rw [e]; exact this.to⟩
theorem mark_bnd (line : List UInt8) (mark : Nat) : (rdAt line 0 mark).2 = 0 ∨ (rdAt line 0 mark).2 = 39 ∨ (rdAt line 0 mark).2 = 34 := by
  unfold rdAt
  rw [if_neg (by omega)]
  obtain ⟨k', _, t⟩ := readM_tile (ctn line) (lfOf line) 0 mark (Nat.zero_le _)
  by_cases h : (readM (ctn line) (lfOf line) 0 mark).2 = 0
  · exact .inl h
  · exact .inr (t.mq h).1
theorem rrunF_len (s : List UInt8) (lf : Bool) : ∀ (n k mark : Nat) (acc : List Pc), (rrunF s lf n k mark acc).1.length ≤ acc.length + n
  | 0, k, mark, acc => by simp [rrunF]
  | n + 1, k, mark, acc => by
    simp only [rrunF]
    cases hr : rstep s lf k mark with
    | none => simp
    | some r =>
      have h1 := (rstep_k hr).2
      have h2 := rrunF_len s lf n r.2.1 r.2.2 (acc ++ r.1)
      simp only [List.length_append] at h2
      simp only
      omega
theorem len_bnd (line : List UInt8) (mark : Nat) : (rdAt line 0 mark).1.length ≤ line.length + 1 := by
  unfold rdAt
  rw [if_neg (by omega)]
  have hc := ctn_length line
  have hle := ctnN_le line
  unfold readM rrun
  split
  · have := rrunF_len (ctn line) (lfOf line) ((ctn line).length - (wpiece (ctn line) (lfOf line) (Int.toNat 0) mark).2.2) (wpiece (ctn line) (lfOf line) (Int.toNat 0) mark).2.2 (wpiece (ctn line) (lfOf line) (Int.toNat 0) mark).2.1 [(wpiece (ctn line) (lfOf line) (Int.toNat 0) mark).1]
    simp only [List.length_cons, List.length_nil] at this
    omega
  · have := rrunF_len (ctn line) (lfOf line) ((ctn line).length - Int.toNat 0) (Int.toNat 0) 0 []
    simp only [List.length_nil] at this
    omega
theorem encs_app (a b : List Pc) : encs (a ++ b) = encs a ++ encs b := by simp [encs]
theorem encs_split (l : List Pc) (i : Nat) : (encs l).drop (i * 6) = encs (l.drop i) := by
  have e : l = l.take i ++ l.drop i := (List.take_append_drop ..).symm
  by_cases h : i ≤ l.length
  · conv => lhs; rw [e]
    rw [encs_app, show i * 6 = (encs (l.take i)).length by rw [encs_length, List.length_take, Nat.min_eq_left h], List.drop_left]
  · rw [List.drop_eq_nil_of_le (by rw [encs_length]; omega), List.drop_eq_nil_of_le (by omega)]; rfl
structure PI (B cb : Nat) (h2 : H) (line : List UInt8) (l : List Pc) (x0 : PS) (i : Nat) (x : PS) (fr : T Value) (h' : H) : Prop where
  f32 : fr.get 32 = some (.int .i64 i)
  f4 : fr.get 4 = some (.bool x.opn)
  f5 : fr.get 5 = some (.int .i64 x.fin)
  f6 : fr.get 6 = some (.bool x.jnd)
  le : i ≤ l.length
  run : prun line (l.drop i) x = prun line l x0
  scn : Scn B cb h' x.st line x.ev
  ok : x.st.ok
  wt : 0 ≤ x.st.wait ∧ x.st.wait ≤ 4
  ev : x.ev.length ≤ 2 * i
  kp : Kp B cb h2 h'
theorem asks_ok {op : List UInt8} {r : List Pc} {s : ShS} (hs : s.ok) (hw : 0 ≤ s.wait ∧ s.wait ≤ 4) : ((asksN op r s).getD s).ok ∧ 0 ≤ ((asksN op r s).getD s).wait ∧ ((asksN op r s).getD s).wait ≤ 4 := by
  unfold asksN
  split
  · split
    · rename_i hd
      unfold docOk at hd
      simp only [Bool.and_eq_true, decide_eq_true_eq] at hd
      refine ⟨⟨hs.stk, by simp [putDoc, hs.docs]⟩, ?_, ?_⟩
      · show 0 ≤ s.wait + 1; omega
      · show s.wait + 1 ≤ 4; omega
    · exact ⟨hs, hw⟩
  · exact ⟨hs, hw⟩
set_option maxRecDepth 100000 in
set_option maxHeartbeats 16000000 in
theorem pieces_sp (B0 cb : Nat) (s : ShS) (hs : s.ok) (hm : s.mark < 256) (hw : 0 ≤ s.wait ∧ s.wait ≤ 4) (line : List UInt8) (hl : line.length < 2 ^ 30) (h : H) (h1 : h.one = []) (hg : Gl h) (hg0 : 0 < h.next) (hcb : cb < B0) (hB : B0 ≤ h.next) 
    (hc : h.get cb = some (.cells (scS s [str line, .slice none 0 0]) 0 true 0 none)) :
    CallW E0 X0 (.fn 31) [.pointer (some ⟨cb, 0, none⟩)] h (fun r h' => Scn B0 cb h' (piecesN s line).2 line (piecesN s line).1 ∧ Kp B0 cb h h') := by
  refine CallW.body efn31 rfl rfl rfl [] (by kernel_rfl) ?_
  simp [Tryd.f31, nil_ptr, h1, hc, sc_line hs, scS_mark hs]
  refine (Read_sp line 0 s.mark (by omega) hm h h1 hg hg0).mono ?_
  rintro _ h2 ⟨sl, rfl, hsl, f2⟩
  have n2 := f2.next
  have c2 : h2.get cb = some (.cells (scS s [str line, .slice none 0 0]) 0 true 0 none) := (f2.get cb (by omega)).trans hc
  have hbnd := pc_bnd line s.mark
  have hmk := mark_bnd line s.mark
  have hlen := len_bnd line s.mark
  obtain ⟨l, hll⟩ : ∃ l, l = (rdAt line 0 s.mark).1 := ⟨_, rfl⟩
  obtain ⟨mk, hmm⟩ : ∃ mk, mk = (rdAt line 0 s.mark).2 := ⟨_, rfl⟩
  have hP : piecesN s line = (if mk ≠ 0 ∨ (prun line l ⟨[], s, decide (s.mode = 1), 0, false⟩).jnd = true then ((prun line l ⟨[], s, decide (s.mode = 1), 0, false⟩).ev, { (prun line l ⟨[], s, decide (s.mode = 1), 0, false⟩).st with mode := 1, mark := mk })
      else ((prun line l ⟨[], s, decide (s.mode = 1), 0, false⟩).ev ++ (if (prun line l ⟨[], s, decide (s.mode = 1), 0, false⟩).opn then [⟨2, 0, (prun line l ⟨[], s, decide (s.mode = 1), 0, false⟩).fin, 0⟩] else []) ++ docEv line (prun line l ⟨[], s, decide (s.mode = 1), 0, false⟩).st, docSt (prun line l ⟨[], s, decide (s.mode = 1), 0, false⟩).st)) := by rw [hll, hmm]; rfl
  rw [← hll] at hsl
  rw [← hll] at hbnd hlen
  rw [← hmm] at hmk ⊢
  clear hll hmm
  generalize hx0 : (⟨[], s, decide (s.mode = 1), 0, false⟩ : PS) = x0 at hP
  have b1 : ((s.mode : Int) = 1) = (s.mode = 1) := by rw [eq_iff_iff]; omega
  have hsl' := hsl
  obtain ⟨av, rfl⟩ := hsl.slice
  simp [f2.one, nil_ptr, c2, scS_mode hs, b1]
  refine wpd_loop (fun (q : Nat × PS) fr h' => PI h2.next cb h2 line l x0 q.1 q.2 fr h') (fun q => l.length - q.1) (0, x0) ?_ ?_
  · subst hx0
    exact ⟨by simp, by simp, by simp, by simp, Nat.zero_le _, rfl, ⟨_, c2, SlG.nil ..⟩, hs, hw, Nat.le_refl _, Kp.refl f2.one⟩
  rintro ⟨i, x⟩ fr h3 st hfe
  have j0 := hfe 0 rfl
  have j2 := hfe 2 rfl
  have j3 := hfe 3 rfl
  have j30 := hfe 30 rfl
  have j31 := hfe 31 rfl
  simp at j0 j2 j3 j30 j31
  have f32 := st.f32
  have f4 := st.f4
  have f5 := st.f5
  have f6 := st.f6
  have hrun := st.run
  have o3 := st.kp.one
  have n3 := st.kp.next
  have hev := st.ev
  simp only at f32 f4 f5 f6 hrun hev
  by_cases hi : i < l.length
  · have hi' : (i : Int) < l.length := by omega
    obtain ⟨p, hp⟩ : ∃ p, p = l[i] := ⟨_, rfl⟩
    have hdrop : l.drop i = p :: l.drop (i + 1) := by rw [hp]; exact List.drop_eq_getElem_cons hi
    have hpb := hbnd p (by rw [hp]; exact List.getElem_mem ..)
    rcases hsl with ⟨e, _⟩ | ⟨_, _, g, g1, g2, ea, hga⟩
    · omega
    cases ea
    have hg3 : h3.get g = some (.cells (encs l) 6 true 0 none) := (st.kp.get g g2 (by omega)).trans hga
    have hmid : ((encs l).drop (i * 6)).take 6 = encP p := by
      rw [encs_split, hdrop]
      show (encP p ++ encs (l.drop (i + 1))).take 6 = _
      rw [List.take_append_of_le_length (show 6 ≤ (encP p).length from Nat.le_refl 6), List.take_of_length_le (show (encP p).length ≤ 6 from Nat.le_refl 6)]
    have hle6 : i * 6 + 6 ≤ (encs l).length := by rw [encs_length]; omega
    have hep : encP p = [.int .u8 p.kind, .int .i64 p.fm, .int .i64 p.to, str p.text, .bool p.raw, .bool p.whole] := rfl
    rw [hep] at hmid
    have w0 : IntKind.i64.wrap ((i : Int) + 1) = ((i + 1 : Nat) : Int) := wrap_succ (by omega)
    have k53 : ((p.kind : Int) = 53) = (p.kind = 53) := by rw [eq_iff_iff]; omega
    have k52 : ((p.kind : Int) = 52) = (p.kind = 52) := by rw [eq_iff_iff]; omega
    have k54 : ((p.kind : Int) = 54) = (p.kind = 54) := by rw [eq_iff_iff]; omega
    have hcbn : cb < h2.next := by omega
    have xg : ¬ g = h3.next := by omega
    have xc : ¬ cb = h3.next := by omega
    iterate 4 (rw [wpd_seq]; simp [-wpd_seq, f32, f4, j30, j31, hi, hi', o3, hg3, hmid, hle6, k53, j0])
    have pn3 : h3.next ≠ cb := by omega
    obtain ⟨h4, hh4⟩ : ∃ h4, h4 = (h3.nw (.cells [.int .u8 0, .int .i64 0, .int .i64 0, str [], .bool false, .bool false] 0 true 0 none)).put h3.next (.cells [.int .u8 p.kind, .int .i64 p.fm, .int .i64 p.to, str p.text, .bool p.raw, .bool p.whole] 0 true 0 none) := ⟨_, rfl⟩
    rw [← hh4]
    have o4 : h4.one = [] := by rw [hh4]; rfl
    have n4 : h4.next = h3.next + 1 := by rw [hh4]; rfl
    have b4 : h4.get h3.next = some (.cells [.int .u8 p.kind, .int .i64 p.fm, .int .i64 p.to, str p.text, .bool p.raw, .bool p.whole] 0 true 0 none) := by rw [hh4]; simp
    have g4 : ∀ c, c ≠ h3.next → h4.get c = h3.get c := fun c hc => by rw [hh4]; simp [hc]
    have f34 : Fr h3.next h3 h4 := ⟨o4, by omega, fun c hc => g4 c (by omega)⟩
    have x4 : Scn h2.next cb h4 x.st line x.ev := st.scn.fr (by omega) f34
    have kp4 : Kp h2.next cb h2 h4 := st.kp.trans (Kp.of_fr f34 (by omega))
    clear hh4
    refine wpd_cut (fun fr' h' => fr'.get 4 = some (.bool (x.opn || decide (p.kind ≠ 53))) ∧ Scn h2.next cb h' x.st line (x.ev ++ (if x.opn = false ∧ p.kind ≠ 53 then [⟨1, 50, p.fm, 0⟩] else [])) ∧ Kp h2.next cb h4 h') ?_ ?_
    · cases hop : x.opn with
      | true => simp [f4, hop, o4]; exact ⟨x4, Kp.refl o4⟩
      | false =>
        by_cases hk : p.kind = 53
        · simp [f4, hop, hk, o4, b4]; exact ⟨x4, Kp.refl o4⟩
        · simp [f4, hop, hk, o4, b4, k53, j0]
          refine (put_sp h2.next cb 1 50 p.fm 0 x.st st.ok line x.ev (by omega) h4 o4 hcbn (by omega) x4).mono ?_
          rintro r h5 ⟨x5, kp5⟩
          simp [kp5.one]
          exact ⟨x5, kp5⟩
    rintro fr5 h5 hf5 ⟨q4, x5, kp5⟩
    generalize hev5 : x.ev ++ (if x.opn = false ∧ p.kind ≠ 53 then [⟨1, 50, p.fm, 0⟩] else []) = ev5 at x5
    have q0 := hf5 0 rfl
    have q2 := hf5 2 rfl
    have q7 := hf5 7 rfl
    have q8 := hf5 8 rfl
    have q32 := hf5 32 rfl
    simp [j0, j2, f32] at q0 q2 q7 q8 q32
    have b5 := kp5.st0 _ _ _ _ _ (by omega) pn3 b4
    have o5 := kp5.one
    have x5' := x5
    obtain ⟨v5, c5, sl5⟩ := x5'
    have ft1 : (p.fm : Int) ≤ p.to := by omega
    have ft2 : (p.to : Int) ≤ line.length := by omega
    have hok := st.ok
    have hwt := st.wt
    simp only at hok hwt
    rw [wpd_seq]; simp [-wpd_seq, q8, b5, o5]
    refine wpd_cut (fun fr' h' => fr'.get 9 = some (.int .u8 (kindN line p (l.drop (i + 1)) x.st).1) ∧ Scn h2.next cb h' (kindN line p (l.drop (i + 1)) x.st).2 line ev5 ∧ Kp h2.next cb h5 h') ?_ ?_
    · by_cases hk : p.kind = 52
      · simp [o5, q0, q2, q7, q8, b5, c5, nil_ptr, sc_line hok, ft1, ft2, k52, hk]
        refine (HasPrefix_sp _ _ h5 o5).mono ?_
        rintro _ hx ⟨rfl, rfl⟩
        have hopT : (line.take p.to).drop p.fm = opT line p := rfl
        rw [hopT]
        cases hpre : [60, 60].isPrefixOf (opT line p) with
        | false =>
          have e1 : kindN line p (l.drop (i + 1)) x.st = (52, x.st) := by unfold kindN isAsk; simp [hk, hpre]
          simp [o5, e1]
          exact ⟨x5, Kp.refl o5⟩
        | true =>
          have gx : hx.get g = some (.cells (encs l) 6 true 0 none) := by
            have a1 : h4.get g = some (.cells (encs l) 6 true 0 none) := (g4 g (by omega)).trans hg3
            rw [kp5.get g g2 (by omega)]; exact a1
          have wi : IntKind.i64.wrap ((i : Int) + 1) = ((i + 1 : Nat) : Int) := wrap_succ (by omega)
          have ei : ((i + 1 : Nat) : Int) ≤ l.length := by omega
          have ei2 : i + 1 ≤ l.length := by omega
          simp [o5, q0, q2, q7, wi, gx, ei, ei2]
          have gn : g < hx.next := by have := kp5.next; omega
          refine (asks_sp h2.next cb x.st hok hwt.1 line (opT line p) _ (l.drop (i + 1)) ev5 hx o5 hcbn (by have := kp5.next; omega) x5 ⟨g, (i + 1) * 6, l.length - (i + 1), encs l, 6, true, 0, none, by rw [List.length_drop], gx, gn, ?_⟩).mono ?_
          · rw [encs_split]; exact List.take_of_length_le (by rw [encs_length]; exact Nat.le_refl _)
          rintro y h6 ⟨rfl, x6, kp6⟩
          have o6 := kp6.one
          cases has : asksN (opT line p) (l.drop (i + 1)) x.st with
          | none =>
            have e1 : kindN line p (l.drop (i + 1)) x.st = (2, x.st) := by unfold kindN isAsk; simp [hk, hpre, has]
            rw [has] at x6
            simp [o6, e1]
            exact ⟨x6, kp6⟩
          | some s6 =>
            have e1 : kindN line p (l.drop (i + 1)) x.st = (52, s6) := by unfold kindN isAsk; simp [hk, hpre, has]
            rw [has] at x6
            simp [o6, e1]
            exact ⟨x6, kp6⟩
      · have e1 : kindN line p (l.drop (i + 1)) x.st = (p.kind, x.st) := by unfold kindN isAsk; simp [hk]
        simp [o5, q0, q2, q7, q8, b5, c5, nil_ptr, sc_line hok, ft1, ft2, k52, hk, e1]
        exact ⟨x5, Kp.refl o5⟩
    rintro fr6 h6 hf6 ⟨q9, x6, kp6⟩
    have z0 := hf6 0 rfl
    have z4 := hf6 4 rfl
    have z8 := hf6 8 rfl
    have z32 := hf6 32 rfl
    simp [q0, q4, q8, q32] at z0 z4 z8 z32
    have o6 := kp6.one
    have b6 := kp6.st0 _ _ _ _ _ (by have := kp5.next; omega) pn3 b5
    have n5 := kp5.next
    have n6 := kp6.next
    have evl : ev5.length ≤ 2 * i + 1 := by rw [← hev5]; split <;> simp <;> omega
    rw [wpd_seq]; simp [-wpd_seq, z0, z8, q9, b6, o6]
    have hok6 : (kindN line p (l.drop (i + 1)) x.st).2.ok ∧ 0 ≤ (kindN line p (l.drop (i + 1)) x.st).2.wait ∧ (kindN line p (l.drop (i + 1)) x.st).2.wait ≤ 4 := by
      have := asks_ok (op := opT line p) (r := l.drop (i + 1)) hok hwt
      unfold kindN
      split
      · split
        · rename_i s' e; rw [e] at this; exact this
        · exact ⟨hok, hwt⟩
      · exact ⟨hok, hwt⟩
    refine (put_sp h2.next cb 3 _ p.fm p.to _ hok6.1 line ev5 (by omega) h6 o6 hcbn (by omega) x6).mono ?_
    rintro r h7 ⟨x7, kp7⟩
    have b7 := kp7.st0 _ _ _ _ _ (by omega) pn3 b6
    simp [z0, z4, z8, z32, kp7.one, b7, w0]
    rw [hdrop] at hrun
    have hq : prun line (l.drop (i + 1)) (pstep line p (l.drop (i + 1)) x) = prun line l x0 := hrun
    have hst : pstep line p (l.drop (i + 1)) x = ⟨ev5 ++ [⟨3, (kindN line p (l.drop (i + 1)) x.st).1, p.fm, p.to⟩], (kindN line p (l.drop (i + 1)) x.st).2, x.opn || decide (p.kind ≠ 53), p.to, decide (p.kind = 54)⟩ := by unfold pstep; rw [← hev5]
    refine ⟨i + 1, by omega, pstep line p (l.drop (i + 1)) x, ⟨by simp, by rw [hst]; simp [z4], by rw [hst]; simp, by rw [hst]; simp, hi, hq, by rw [hst]; exact x7, by rw [hst]; exact hok6.1, by rw [hst]; exact hok6.2, by rw [hst]; simp; omega, kp4.trans (kp5.trans (kp6.trans kp7))⟩⟩
  · have hi' : ¬ (i : Int) < l.length := by omega
    have x3 := st.scn
    have hok := st.ok
    have hwt := st.wt
    have hle := st.le
    simp only at x3 hok hwt hle
    have hend : x = prun line l x0 := by rw [← hrun, List.drop_eq_nil_of_le (by omega)]; rfl
    rw [← hend] at hP
    clear hrun hend hfe
    have kp3 : Kp B0 cb h h3 := (Kp.of_fr f2 hB).trans (st.kp.mono (by omega))
    have x3 := x3.mono (B' := B0) (by omega)
    have nn : B0 ≤ h3.next := by omega
    have hlt : x.ev.length < 2 ^ 33 := by have := st.le; simp only at this; omega
    clear hev n3 n2 st
    simp [f32, j31, hi, hi', o3]
    have m0 : ((mk : Int) = 0) = (mk = 0) := by rw [eq_iff_iff]; omega
    by_cases hmj : mk ≠ 0 ∨ x.jnd = true
    · rw [if_pos hmj] at hP
      rw [hP]
      obtain ⟨v3, c3, sl3⟩ := x3
      have k1 : (scS x.st [str line, v3]).set 65 (.int .u8 1) = scS { x.st with mode := 1 } [str line, v3] := set_mode hok _ 1
      have hs1 : ShS.ok { x.st with mode := 1 } := ⟨hok.stk, hok.docs⟩
      have k2 : (scS { x.st with mode := 1 } [str line, v3]).set 66 (.int .u8 mk) = scS { x.st with mode := 1, mark := mk } [str line, v3] := set_mark hs1 _ mk
      have fin : Scn B0 cb ((h3.put cb (.cells (scS { x.st with mode := 1 } [str line, v3]) 0 true 0 none)).put cb (.cells (scS { x.st with mode := 1, mark := mk } [str line, v3]) 0 true 0 none)) { x.st with mode := 1, mark := mk } line x.ev ∧ Kp B0 cb h ((h3.put cb (.cells (scS { x.st with mode := 1 } [str line, v3]) 0 true 0 none)).put cb (.cells (scS { x.st with mode := 1, mark := mk } [str line, v3]) 0 true 0 none)) :=
        ⟨⟨v3, by simp, (sl3.put hcb _).put hcb _⟩, kp3.trans ⟨by simpa using o3, by simp, fun c q1 q2 => by simp [q2], fun c C own fz ty q1 q2 q3 => by simpa [q2] using q3⟩⟩
      by_cases hm0 : mk = 0
      · have hj : x.jnd = true := hmj.resolve_left fun q => q hm0
        subst hm0
        have k2' : (scS { x.st with mode := 1 } [str line, v3]).set 66 (.int .u8 0) = scS { x.st with mode := 1, mark := 0 } [str line, v3] := k2
        simp [f6, j0, j3, o3, hj, c3, nil_ptr, sc_le hok, sc_le hs1, k1, k2']
        exact fin
      · simp [f6, j0, j3, o3, m0, hm0, c3, nil_ptr, sc_le hok, sc_le hs1, k1, k2]
        exact fin
    · rw [if_neg hmj] at hP
      rw [hP]
      obtain ⟨hm0, hj⟩ : mk = 0 ∧ x.jnd = false := by
        constructor
        · exact Decidable.byContradiction fun q => hmj (.inl q)
        · cases hq : x.jnd with
          | false => rfl
          | true => exact absurd (.inr hq) hmj
      simp [f5, f4, f6, j3, o3, hm0, hj]
      refine BrC.join (fun fr' h' => Scn B0 cb h' x.st line (x.ev ++ (if x.opn = true then [⟨2, 0, x.fin, 0⟩] else [])) ∧ Kp B0 cb h3 h') ?_ ?_
      · cases hop : x.opn with
        | false => simp; exact ⟨x3, Kp.refl o3⟩
        | true =>
          simp [j0, f5, o3]
          refine (put_sp B0 cb 2 0 x.fin 0 x.st hok line x.ev (by omega) h3 o3 hcb nn x3).mono ?_
          rintro r h5 ⟨x5, kp5⟩
          simp [kp5.one]
          exact ⟨x5, kp5⟩
      rintro fr4 h4 hf4 ⟨x4, kp4⟩
      have t0 := hf4 0 rfl
      simp [j0] at t0
      simp [t0, kp4.one]
      refine (doc_sp B0 cb x.st hok line _ (by simp; split <;> simp <;> omega) h4 kp4.one hcb (by have := kp4.next; omega) x4).mono ?_
      rintro r h5 ⟨x5, kp5⟩
      simp [kp5.one]
      rw [List.append_assoc] at x5
      exact ⟨x5, kp3.trans (kp4.trans kp5)⟩
end Go.Dm
