/- The machine D, 7: its operations are followed by the model's: structs, rows, arithmetic. -/
import Derived.Test.YtpanpicbikihkaaDoorDOpsC
set_option linter.unusedVariables false
set_option linter.unusedSimpArgs false
namespace Go.Dm

theorem fold_set (off : Nat) : ∀ (l : List Value) (k : Nat) (cells : Array Value),
    ((l.zipIdx k).foldl (fun (cs : Array Value) (x : Value × Nat) => cs.setIfInBounds (off + x.2) x.1) cells).toList = setAt cells.toList (off + k) l := by
  intro l
  induction l with
  | nil => intro k cells; rfl
  | cons v l ih => intro k cells; simp only [List.zipIdx_cons, List.foldl_cons, ih, setAt]; simp [Nat.add_assoc]
theorem fold_set_array (off : Nat) (v : Array Value) (cells : Array Value) :
    (v.zipIdx.foldl (fun (cs : Array Value) (x : Value × Nat) => match x with | (c, j) => cs.setIfInBounds (off + j) c) cells).toList = setAt cells.toList off v.toList := by
  rw [← Array.foldl_toList]
  have := fold_set off v.toList 0 cells
  simp only [Nat.add_zero] at this
  rw [← this]
  simp

inductive PRel (m : Inj) : List (Nat × Value) → List (Nat × Value) → Prop
  | nil : PRel m [] []
  | cons {i : Nat} {v v' : Value} {l l' : List (Nat × Value)} (h : VRel m v v') (k : PRel m l l') : PRel m ((i, v) :: l) ((i, v') :: l')
theorem fill_sim {m : Inj} {place : Nat → Option (Nat × Nat)} {ps ps' : List (Nat × Value)} (hp : PRel m ps ps') : ∀ {cs r : List Value} {cs' : Array Value}, LRel m cs cs'.toList → fillD place cs ps = some r →
    ∃ r' : Array Value, Instr.fill place cs' ps' = some r' ∧ LRel m r r'.toList := by
  induction hp with
  | nil => intro cs r cs' hc h; simp only [fillD] at h; cases h; exact ⟨cs', rfl, hc⟩
  | cons hv hk ih =>
    rename_i i v v' l l'
    intro cs r cs' hc h
    simp only [fillD] at h
    cases hpl : place i with
    | none => rw [hpl] at h; cases h
    | some q =>
      obtain ⟨off, size⟩ := q
      rw [hpl] at h
      simp only at h
      split at h
      · rename_i hb
        simp at hb
        obtain ⟨r', h1, h2⟩ := ih (cs' := v'.cells.zipIdx.foldl (fun (cs : Array Value) (x : Value × Nat) => match x with | (c, j) => cs.setIfInBounds (off + j) c) cs') (by rw [fold_set_array]; exact (hv.cells).setAt hc off) h
        refine ⟨r', ?_, h2⟩
        have hsz := hv.cells_size
        have hlen := hc.length
        simp only [Instr.fill, hpl]
        rw [if_neg]
        · exact h1
        · simp at hlen
          simp
          omega
      · cases h

section
variable {P : Program} {E : Env} (hE : EnvOk P E) {w : World} {m : Inj}
include hE
theorem places_run : ∀ {fs : List Field} {pl : List (Nat × Nat)}, placesD E fs = some pl → (fs.mapM (fun f => do pure (f.offset, ← sizeOf f.type)) : Sem (List (Nat × Nat))).run P w = .ok pl w := by
  intro fs
  induction fs with
  | nil => intro pl h; simp only [placesD] at h; cases h; rfl
  | cons f fs ih =>
    intro pl h
    simp only [placesD] at h
    split at h
    · rename_i n r hn hr
      cases h
      rw [List.mapM_cons]
      simp only [Sem.run_bind, run_siz hE hn, Result.andThen_ok, Sem.run_pure, ih hr]
    · cases h
theorem build_sim {t : TypeId} {ps ps' : List (Nat × Value)} {v : Value} (hp : PRel m ps ps') (h : buildD E t ps = some v) : ∃ v', (Instr.build t ps'.toArray).run P w = .ok v' w ∧ VRel m v v' := by
  unfold buildD at h
  split at h
  · rename_i z fields hz hu
    split at h
    · rename_i pl hpl
      split at h
      · rename_i cs hf
        cases h
        obtain ⟨r', h1, h2⟩ := fill_sim hp (cs' := z.cells) ((VRel.plainV (m := m) (zero_plain hz)).cells) hf
        refine ⟨.agg r', ?_, .agg h2⟩
        have hm : (fields.mapM (fun f => do pure (f.offset, ← sizeOf f.type)) : Sem (Array (Nat × Nat))).run P w = .ok pl.toArray w := by
          rw [Array.mapM_eq_mapM_toList]
          simp only [Sem.run_map, places_run hE hpl, Result.andThen_ok]
        simp only [Instr.build, Sem.run_bind, run_zero hE hz, Result.andThen_ok, run_underlying hE hu, hm]
        have : (fun x : Nat => pl.toArray[x]?) = (pl[·]?) := by funext x; simp
        rw [this, h1]
        rfl
      · cases h
    · cases h
  · rename_i z n elem hz hu
    split at h
    · rename_i k hk
      split at h
      · rename_i cs hf
        cases h
        obtain ⟨r', h1, h2⟩ := fill_sim hp (cs' := z.cells) ((VRel.plainV (m := m) (zero_plain hz)).cells) hf
        refine ⟨.agg r', ?_, .agg h2⟩
        simp only [Instr.build, Sem.run_bind, run_zero hE hz, Result.andThen_ok, run_underlying hE hu, run_siz hE hk, h1]
        rfl
      · cases h
    · cases h
  · cases h
omit hE in
theorem zeros_sim {z : Value} (hz : plainV z = true) {n : Nat} (hpos : 0 < z.cells.size) :
    LRel m (zerosD z.cells.toList n) ((Array.range n).map fun i => z.cells[i % z.cells.size]!).toList := by
  refine LRel.of_get (by simp [zerosD]) fun i v hv => ?_
  unfold zerosD at hv
  rw [List.getElem?_map] at hv
  by_cases hi : i < n
  · rw [List.getElem?_range hi] at hv
    simp only [Option.map_some, Option.some.injEq] at hv
    have hlt : i % z.cells.size < z.cells.size := Nat.mod_lt _ hpos
    have hg : z.cells.toList[i % z.cells.toList.length]? = some v := by
      rw [← hv, List.getD_eq_getElem?_getD]
      have : i % z.cells.toList.length < z.cells.toList.length := by simpa using hlt
      rw [List.getElem?_eq_getElem this]; rfl
    obtain ⟨v', h1, h2⟩ := ((VRel.plainV (m := m) hz).cells).get hg
    refine ⟨v', ?_, h2⟩
    simp at h1
    simp only [Array.toList_map, Array.toList_range, List.getElem?_map, List.getElem?_range hi, Option.map_some]
    rw [getElem!_pos z.cells _ hlt]
    rw [Array.getElem?_eq_getElem hlt] at h1
    simpa using h1
  · rw [List.getElem?_eq_none (by simpa using hi)] at hv; cases hv
theorem buildSlice_sim {ok : OkC} {G : Nat} {h : H} (R : HRel ok G m h w) {t : TypeId} {len : Nat} {ps ps' : List (Nat × Value)} {v : Value} {h' : H} (hp : PRel m ps ps') (hb : buildSliceD E t len ps h = some (v, h')) :
    ∃ v' w', (Instr.buildSlice t len ps'.toArray).run P w = .ok v' w' ∧ Step ok G m h w v h' v' w' := by
  unfold buildSliceD at hb
  split at hb
  · rename_i elem hu
    split at hb
    · rename_i n z hn hz
      split at hb
      · rename_i hc
        simp at hc
        obtain ⟨⟨hc1, hc2⟩, hc3⟩ := hc
        split at hb
        · rename_i cs hf
          cases hb
          obtain ⟨r', h1, h2⟩ := fill_sim (m := m) hp (cs' := (Array.range (len * n)).map fun i => z.cells[i % z.cells.size]!) (zeros_sim (zero_plain hz) (by omega)) hf
          have hl := h2.length
          obtain ⟨e1, e2⟩ := new_sim R h2 n (cs2 := r') (n2 := r'.size) rfl (fun j _ => by simp only [Array.getElem?_toList]) (by simp at hl; omega) elem 0 (ty := none) (fun _ h => by cases h)
          have hlen : cs.length = len * n := by
            have : ∀ (ps : List (Nat × Value)) (c r : List Value), fillD (fun i => some (i * n, n)) c ps = some r → r.length = c.length := by
              intro ps
              induction ps with
              | nil => intro c r h; simp only [fillD] at h; cases h; rfl
              | cons p ps ih =>
                intro c r h
                obtain ⟨i, u⟩ := p
                simp only [fillD] at h
                split at h
                · rw [ih _ _ h, setAt_length]
                · cases h
            rw [this _ _ _ hf]; simp [zerosD]
          refine ⟨.slice (some ⟨w.heap.size, 0, none⟩) len len, w.alloc (.cells r' elem), ?_, _, e1, e2, ?_⟩
          · simp only [Instr.buildSlice, Sem.run_bind, run_underlying hE hu, Result.andThen_ok, run_siz hE hn]
            rw [if_neg (by omega)]
            by_cases h0 : len * n = 0
            · have r0 : Array.range (len * n) = #[] := by rw [h0]; rfl
              rw [if_pos h0, r0]
              rw [r0] at h1
              simp only [List.map_toArray, List.map_nil, Sem.run_bind, Sem.run_pure, Result.andThen_ok] at h1 ⊢
              rw [h1]
              simp [newRow]
            · rw [if_neg h0]
              simp only [Sem.run_bind, run_zero hE hz, Result.andThen_ok, Sem.run_pure, h1]
              simp [newRow]
          · exact .slice (Inj.add_self _ _ _) (Nat.le_refl _) (Nat.le_refl _) (.inl rfl)
        · cases hb
      · cases hb
    · cases hb
  · cases hb
theorem makeSlice_sim {ok : OkC} {G : Nat} {h : H} (R : HRel ok G m h w) {t : TypeId} {a a' b b' v : Value} {h' : H} (ha : VRel m a a') (hb : VRel m b b') (hs : makeSliceD E t a b h = some (v, h')) :
    ∃ v' w', (Instr.makeSlice t a' b').run P w = .ok v' w' ∧ Step ok G m h w v h' v' w' := by
  unfold makeSliceD at hs
  split at hs
  · rename_i elem k l k2 c hu
    obtain rfl := ha.int
    obtain rfl := hb.int
    split at hs
    · rename_i i z hi hz
      split at hs
      · rename_i hc
        simp at hc
        obtain ⟨⟨⟨⟨⟨c1, c2⟩, c3⟩, c3'⟩, c4⟩, c5⟩ := hc
        cases hs
        have hZ := zeros_sim (m := m) (zero_plain hz) (n := c.toNat * i.size) (by omega)
        obtain ⟨e1, e2⟩ := new_sim R hZ i.size (cs2 := (Array.range (c.toNat * i.size)).map fun i => z.cells[i % z.cells.size]!) (n2 := c.toNat * i.size) (by simp) (fun j _ => by simp only [Array.getElem?_toList]) (by simp [zerosD]) elem 0 (ty := none) (fun _ h => by cases h)
        refine ⟨.slice (some ⟨w.heap.size, 0, none⟩) l.toNat c.toNat, _, ?_, _, e1, e2, .slice (Inj.add_self _ _ _) (by omega) (Nat.le_refl _) (.inl rfl)⟩
        have w1 : IntKind.i64.wrap l = l := by unfold IntKind.wrap IntKind.bits IntKind.signed; simp; omega
        have w2 : IntKind.i64.wrap c = c := by unfold IntKind.wrap IntKind.bits IntKind.signed; simp; omega
        have hsz : E.siz elem = some i.size := by simp [Env.siz, hi]
        simp only [Instr.makeSlice, Sem.run_bind, run_underlying hE hu, Result.andThen_ok, asInt, asIntOf, Sem.run_pure, run_typeInfo hE hi, w1, w2]
        rw [if_neg (by simp; omega)]
        simp only [Sem.run_pure, Result.andThen_ok, run_askRoom, run_siz hE hsz, Sem.run_bind]
        by_cases h0 : c.toNat * i.size = 0
        · simp only [h0, if_true, Sem.run_pure, Result.andThen_ok]
          simp [newRow, show Array.range 0 = #[] from rfl]
        · simp only [h0, if_false, Sem.run_bind, run_zero hE hz, Result.andThen_ok, Sem.run_pure]
          simp [newRow]
      · cases hs
    · cases hs
  · cases hs
end
end Go.Dm
