/- A builder, plainly; the shell's lines tell what a builder takes. -/
import Derived.Test.YtdgclgfhcgdehaaDoorSdN
import Derived.Test.YtdgclgfhcgdehaaDoorTrM
set_option linter.unusedVariables false
set_option linter.unusedSimpArgs false
namespace Go.Dm
structure AB where
  nodes : List Nd
  opn : List Nat
  far : Int
def endB (a : Int) (k : Nat) (s : AB) : AB :=
  ⟨s.nodes.set (s.opn.getLastD 0) { nd s.nodes (s.opn.getLastD 0) with to := a, kind := if k = 0 then (nd s.nodes (s.opn.getLastD 0)).kind else k }, s.opn.dropLast, a⟩
def stepB (b : Int) (s : AB) (e : ShE) : AB :=
  if e.op = 1 then ⟨s.nodes ++ [⟨e.kind, e.at_ + b, 0, s.opn.length⟩], s.opn ++ [s.nodes.length], e.at_ + b⟩
  else if e.op = 2 then endB (e.at_ + b) e.kind s
  else ⟨s.nodes ++ [⟨e.kind, e.at_ + b, e.to + b, s.opn.length⟩], s.opn, e.to + b⟩
def runB (b : Int) : List ShE → AB → AB
  | [], s => s
  | e :: r, s => runB b r (stepB b s e)
/-- How far events come, and how many nodes are open then beside the root. -/
def comeB (b f : Int) (x : Nat) : Bool := decide ((x : Int) ≤ 1048576 - b ∧ f ≤ b + x)
def snd1 (b f o : Int) (e : ShE) : Option (Int × Int) :=
  if e.op = 1 then if o = 0 ∧ e.to = 0 ∧ comeB b f e.at_ = true then some (b + e.at_, 1) else none
  else if e.op = 2 then if o = 1 ∧ e.kind = 0 ∧ e.to = 0 ∧ comeB b f e.at_ = true then some (b + e.at_, 0) else none
  else if e.op = 3 then if comeB b f e.at_ = true ∧ comeB b (b + e.at_) e.to = true then some (b + e.to, o) else none
  else none
theorem snd_leaf {b f o : Int} {k a t : Nat} (h1 : f ≤ b + a) (h2 : a ≤ t) (h3 : b + t ≤ 1048576) : snd1 b f o ⟨3, k, a, t⟩ = some (b + t, o) := by
  have : (f ≤ b + (a : Int)) ∧ ((a : Int) ≤ 1048576 - b) ∧ (b + (a : Int) ≤ b + t) ∧ ((t : Int) ≤ 1048576 - b) := by omega
  simp [snd1, comeB, this]
theorem snd_open {b f : Int} {k a : Nat} (h1 : f ≤ b + a) (h3 : b + a ≤ 1048576) : snd1 b f 0 ⟨1, k, a, 0⟩ = some (b + a, 1) := by
  have : (f ≤ b + (a : Int)) ∧ ((a : Int) ≤ 1048576 - b) := by omega
  simp [snd1, comeB, this]
theorem snd_close {b f : Int} {a : Nat} (h1 : f ≤ b + a) (h3 : b + a ≤ 1048576) : snd1 b f 1 ⟨2, 0, a, 0⟩ = some (b + a, 0) := by
  have : (f ≤ b + (a : Int)) ∧ ((a : Int) ≤ 1048576 - b) := by omega
  simp [snd1, comeB, this]
def sndR (b : Int) : List ShE → Int × Int → Option (Int × Int)
  | [], x => some x
  | e :: r, x => match snd1 b x.1 x.2 e with
    | some y => sndR b r y
    | none => none
theorem snd1_bnd {b f o : Int} {e : ShE} {y : Int × Int} (hb : 0 ≤ b) (h : snd1 b f o e = some y) : e.at_ < 2 ^ 62 ∧ e.to < 2 ^ 62 := by
  unfold snd1 comeB at h
  repeat' (split at h)
  all_goals first | (cases h; done) | (rename_i hq; simp only [decide_eq_true_eq] at hq; omega)
theorem sndR_bnd {b : Int} (hb : 0 ≤ b) : ∀ (l : List ShE) (x y : Int × Int), sndR b l x = some y → ∀ e ∈ l, e.at_ < 2 ^ 62 ∧ e.to < 2 ^ 62
  | [], _, _, _, e, he => by cases he
  | d :: l, x, y, h, e, he => by
    simp only [sndR] at h
    split at h
    · rename_i z hz
      rcases List.mem_cons.1 he with rfl | he
      · exact snd1_bnd hb hz
      · exact sndR_bnd hb l z y h e he
    · cases h
theorem sndR_app (b : Int) : ∀ (l m : List ShE) (x : Int × Int), sndR b (l ++ m) x = match sndR b l x with
    | some y => sndR b m y
    | none => none
  | [], m, x => rfl
  | e :: l, m, x => by
    simp only [List.cons_append, sndR]
    cases snd1 b x.1 x.2 e with
    | none => rfl
    | some y => exact sndR_app b l m y
/-- One event behind others. -/
theorem sndR_snoc {b : Int} {l : List ShE} {e : ShE} {x y z : Int × Int} (h : sndR b l x = some y) (h1 : snd1 b y.1 y.2 e = some z) : sndR b (l ++ [e]) x = some z := by
  rw [sndR_app, h]
  simp only [sndR, h1]
/-! the pieces lie one behind the other -/
theorem pc_order (line : List UInt8) (mark : Nat) (i : Nat) (p : Pc) (hp : (rdAt line 0 mark).1[i]? = some p) : endT 0 ((rdAt line 0 mark).1.take i) ≤ p.fm ∧ p.fm ≤ p.to ∧ p.to ≤ line.length := by
  have hm : p ∈ (rdAt line 0 mark).1 := List.mem_of_getElem? hp
  have hb := pc_bnd line mark p hm
  refine ⟨?_, hb⟩
  unfold rdAt at hp ⊢
  rw [if_neg (by omega)] at hp ⊢
  obtain ⟨k', _, t⟩ := readM_tile (ctn line) (lfOf line) 0 mark (Nat.zero_le _)
  exact (t.pcs i p hp).ge
theorem endT_snoc (a : Nat) (l : List Pc) (p : Pc) : endT a (l ++ [p]) = p.to := by simp [endT]
structure PrI (b : Int) (n : Nat) (x0 : Int × Int) (t : Nat) (x : PS) : Prop where
  snd : ∃ y, sndR b x.ev x0 = some y ∧ y.1 ≤ b + t ∧ y.2 = (if x.opn then 1 else 0)
  fin : x.fin = t ∨ (x.ev = [] ∧ x.fin = 0 ∧ t = 0)
theorem snd_step {b : Int} {line : List UInt8} {p : Pc} {r : List Pc} {x0 : Int × Int} {t : Nat} {x : PS} (hb : b + line.length ≤ 1048576) (h1 : t ≤ p.fm) (h2 : p.fm ≤ p.to) (h3 : p.to ≤ line.length) (h : ∃ y, sndR b x.ev x0 = some y ∧ y.1 ≤ b + t ∧ y.2 = (if x.opn then 1 else 0)) :
    ∃ y, sndR b (pstep line p r x).ev x0 = some y ∧ y.1 = b + p.to ∧ (y.2 = (if (pstep line p r x).opn then 1 else 0) ∨ False) := by
  obtain ⟨y, e1, e2, e3⟩ := h
  have leaf : ∀ (l : List ShE) (y : Int × Int) k, sndR b l x0 = some y → y.1 ≤ b + p.fm → sndR b (l ++ [⟨3, k, p.fm, p.to⟩]) x0 = some (b + p.to, y.2) := by
    intro l y k q1 q2
    exact sndR_snoc q1 (snd_leaf (by omega) h2 (by omega))
  unfold pstep
  simp only
  cases ho : x.opn with
  | true =>
    rw [ho] at e3
    rw [if_neg (by simp), List.append_nil]
    exact ⟨_, leaf _ y _ e1 (by omega), rfl, .inl (by simpa using e3)⟩
  | false =>
    rw [ho] at e3
    by_cases hk : p.kind = 53
    · rw [if_neg (by simp [hk]), List.append_nil]
      exact ⟨_, leaf _ y _ e1 (by omega), rfl, .inl (by simpa [hk] using e3)⟩
    · rw [if_pos ⟨rfl, hk⟩]
      have e4 : sndR b (x.ev ++ [⟨1, 50, p.fm, 0⟩]) x0 = some (b + p.fm, 1) := by
        refine sndR_snoc e1 ?_
        rw [e3]
        exact snd_open (by omega) (by omega)
      exact ⟨_, leaf _ _ _ e4 (by simp only; omega), rfl, .inl (by simp [hk])⟩
theorem snd_prun {b : Int} {line : List UInt8} (hb : b + line.length ≤ 1048576) {x0 : Int × Int} : ∀ (l pre : List Pc) (x : PS), (∀ i p, (pre ++ l)[i]? = some p → endT 0 ((pre ++ l).take i) ≤ p.fm ∧ p.fm ≤ p.to ∧ p.to ≤ line.length) →
    (∃ y, sndR b x.ev x0 = some y ∧ y.1 ≤ b + endT 0 pre ∧ y.2 = (if x.opn then 1 else 0)) → (x.fin = endT 0 pre) →
    ∃ y, sndR b (prun line l x).ev x0 = some y ∧ y.1 ≤ b + endT 0 (pre ++ l) ∧ y.2 = (if (prun line l x).opn then 1 else 0) ∧ (prun line l x).fin = endT 0 (pre ++ l)
  | [], pre, x, _, h, hf => by
    obtain ⟨y, e1, e2, e3⟩ := h
    rw [List.append_nil]
    exact ⟨y, e1, e2, e3, hf⟩
  | p :: l, pre, x, ho, h, hf => by
    have hp := ho pre.length p (by simp)
    rw [List.take_left] at hp
    obtain ⟨y, e1, e2, e3⟩ := snd_step (r := l) hb hp.1 hp.2.1 hp.2.2 h
    have ha : pre ++ p :: l = (pre ++ [p]) ++ l := by simp
    have := snd_prun hb l (pre ++ [p]) (pstep line p l x) (by rw [← ha]; exact ho) ⟨y, e1, by rw [endT_snoc]; omega, e3.resolve_right id⟩ (by rw [endT_snoc]; rfl)
    rw [← ha] at this
    exact this
theorem endT_le (line : List UInt8) (mark : Nat) : endT 0 (rdAt line 0 mark).1 ≤ line.length := by
  unfold endT
  split
  · rename_i p hp
    exact (pc_bnd line mark p (List.mem_of_getLast? hp)).2
  · exact Nat.zero_le _
theorem rrunF_mark (s : List UInt8) (lf : Bool) : ∀ (n k mark : Nat) (acc : List Pc), (rrunF s lf n k mark acc).2 = mark ∨ ∃ p ∈ (rrunF s lf n k mark acc).1, p.kind = 51
  | 0, k, mark, acc => .inl rfl
  | n + 1, k, mark, acc => by
    simp only [rrunF]
    cases hr : rstep s lf k mark with
    | none => exact .inl rfl
    | some r =>
      have hm : r.2.2 = mark ∨ ∃ p ∈ r.1, p.kind = 51 := by
        unfold rstep at hr
        split at hr
        · cases hr
        · split at hr
          · cases hr; exact .inl rfl
          · split at hr
            · cases hr; exact .inl rfl
            · split at hr
              · cases hr; exact .inl rfl
              · split at hr
                · cases hr; exact .inl rfl
                · cases hr; exact .inr ⟨_, List.mem_singleton.2 rfl, wpiece_kind ..⟩
      have hsub : ∀ p ∈ acc ++ r.1, p ∈ (rrunF s lf n r.2.1 r.2.2 (acc ++ r.1)).1 := by
        have : ∀ (n k mark : Nat) (acc : List Pc), ∀ p ∈ acc, p ∈ (rrunF s lf n k mark acc).1 := by
          intro n
          induction n with
          | zero => intro k mark acc p hp; exact hp
          | succ n ih =>
            intro k mark acc p hp
            simp only [rrunF]
            cases rstep s lf k mark with
            | none => exact hp
            | some r => exact ih _ _ _ p (List.mem_append_left _ hp)
        exact this n _ _ _
      rcases hm with e | ⟨p, hp, hk⟩
      · simp only; rw [← e]; exact rrunF_mark s lf n _ _ _
      · exact .inr ⟨p, hsub p (List.mem_append_right _ hp), hk⟩
theorem rd_open (line : List UInt8) (mark : Nat) (h : (rdAt line 0 mark).2 ≠ 0) : ∃ p ∈ (rdAt line 0 mark).1, p.kind = 51 := by
  unfold rdAt at h ⊢
  rw [if_neg (by omega)] at h ⊢
  unfold readM rrun at h ⊢
  split
  · rename_i hq
    have hsub : ∀ (n k mark : Nat) (acc : List Pc), ∀ p ∈ acc, p ∈ (rrunF (ctn line) (lfOf line) n k mark acc).1 := by
      intro n
      induction n with
      | zero => intro k mark acc p hp; exact hp
      | succ n ih =>
        intro k mark acc p hp
        simp only [rrunF]
        cases rstep (ctn line) (lfOf line) k mark with
        | none => exact hp
        | some r => exact ih _ _ _ p (List.mem_append_left _ hp)
    exact ⟨_, hsub _ _ _ _ _ (List.mem_singleton.2 rfl), wpiece_kind ..⟩
  · rename_i hq
    rw [if_neg hq] at h
    exact (rrunF_mark ..).resolve_left h
theorem prun_opn (line : List UInt8) : ∀ (l : List Pc) (x : PS), (prun line l x).opn = (x.opn || l.any fun p => decide (p.kind ≠ 53))
  | [], x => by simp [prun]
  | p :: l, x => by
    show (prun line l (pstep line p l x)).opn = _
    rw [prun_opn line l]
    simp [pstep, Bool.or_assoc]
/-- What a line tells from one of the shell's states is taken; how far it comes, what is open then. -/
theorem snd_scan {s : ShS} (ho : ownN s = true) (line : List UInt8) (b f : Int) (hf : f ≤ b) (hb : b + line.length ≤ 1048576) :
    ∃ f', sndR b (scanN s line).1 (f, if s.mode = 0 then 0 else 1) = some (f', if (scanN s line).2.mode = 0 then 0 else 1) ∧ f' ≤ b + line.length := by
  have hbs : base s = s := by unfold base; rw [if_pos ho]
  have hsp := own_spec ho
  unfold scanN
  rw [hbs]
  split
  · exact ⟨f, rfl, by omega⟩
  · split
    · rename_i hm
      have hw : 0 < s.wait := by omega
      unfold textN
      have hFle : (if (docK s 0).strip = true then tabsN (ctn line) else 0) ≤ ctnN line := by
        split
        · have := tabsN_le (ctn line); rw [ctn_length] at this; exact this
        · exact Nat.zero_le _
      generalize (if (docK s 0).strip = true then tabsN (ctn line) else 0) = F at hFle
      have hcl := ctnN_le line
      simp only
      split
      · refine ⟨b + line.length, ?_, by omega⟩
        simp only [sndR]
        rw [snd_leaf (by omega) (Nat.zero_le _) (by omega)]
      · have e1 : sndR b [⟨3, 57, F, ctnN line⟩, ⟨2, 0, line.length, 0⟩] (f, if s.mode = 0 then 0 else 1) = some (b + line.length, 0) := by
          rw [if_neg (by omega)]
          simp only [sndR]
          rw [snd_leaf (by omega) hFle (by omega)]
          simp only
          rw [snd_close (by omega) (by omega)]
        refine ⟨b + line.length, ?_, by omega⟩
        split
        · rw [sndR_app, e1]
          simp only [sndR]
          rw [snd_open (by omega) (by omega)]
          rfl
        · rw [List.append_nil, e1]
          rfl
    · rename_i hne hm
      have hm01 : s.mode = 0 ∨ s.mode = 1 := by omega
      obtain ⟨y, e1, e2, e3, e4⟩ := snd_prun (line := line) hb (x0 := (f, if s.mode = 0 then 0 else 1)) (rdAt line 0 s.mark).1 [] ⟨[], s, decide (s.mode = 1), 0, false⟩ (by rw [List.nil_append]; exact fun i p hp => pc_order line s.mark i p hp)
        ⟨(f, if s.mode = 0 then 0 else 1), rfl, by show f ≤ b + 0; omega, by rcases hm01 with h | h <;> simp [h]⟩ rfl
      rw [List.nil_append] at e2 e4
      have hel := endT_le line s.mark
      unfold piecesN
      have hopn : ((rdAt line 0 s.mark).2 ≠ 0 ∨ (prun line (rdAt line 0 s.mark).1 ⟨[], s, decide (s.mode = 1), 0, false⟩).jnd = true) → (prun line (rdAt line 0 s.mark).1 ⟨[], s, decide (s.mode = 1), 0, false⟩).opn = true := by
        intro h
        rw [prun_opn, Bool.or_eq_true]
        refine .inr (List.any_eq_true.2 ?_)
        rcases h with h | h
        · obtain ⟨p, hp, hk⟩ := rd_open line s.mark h
          exact ⟨p, hp, by simp [hk]⟩
        · by_cases hne : (rdAt line 0 s.mark).1 = []
          · rw [hne] at h; cases h
          · rw [prun_jnd line _ _ hne] at h
            exact ⟨_, List.getLast_mem hne, by have := of_decide_eq_true h; simp [this]⟩
      generalize prun line (rdAt line 0 s.mark).1 ⟨[], s, decide (s.mode = 1), 0, false⟩ = x at e1 e2 e3 e4 hopn
      simp only
      split
      · rename_i hj
        rw [hopn hj] at e3
        exact ⟨y.1, by rw [e1, if_neg (by simp)]; exact congrArg some (Prod.ext rfl e3), by omega⟩
      · have hd : ∀ (l : List ShE) (f' : Int), sndR b l (f, if s.mode = 0 then 0 else 1) = some (f', 0) → f' ≤ b + line.length → ∃ f', sndR b (l ++ docEv line x.st) (f, if s.mode = 0 then 0 else 1) = some (f', if (docSt x.st).mode = 0 then 0 else 1) ∧ f' ≤ b + line.length := by
          intro l f' q1 q2
          unfold docEv docSt
          split
          · refine ⟨b + line.length, ?_, by omega⟩
            exact sndR_snoc q1 (snd_open (by omega) (by omega))
          · exact ⟨f', by rw [List.append_nil]; exact q1, q2⟩
        split
        · rename_i hop
          rw [if_pos hop] at e3
          refine hd _ (b + x.fin) ?_ (by omega)
          refine sndR_snoc e1 ?_
          rw [e3]
          exact snd_close (by omega) (by omega)
        · rename_i hop
          rw [if_neg hop] at e3
          rw [List.append_nil]
          exact hd _ y.1 (by rw [e1]; exact congrArg some (Prod.ext rfl e3)) (by omega)
end Go.Dm
