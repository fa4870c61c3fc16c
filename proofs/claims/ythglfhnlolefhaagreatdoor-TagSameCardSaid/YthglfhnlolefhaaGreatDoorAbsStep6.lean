/- Own framework, part 11: literals, slices of an array variable, strings as bytes. -/
import Derived.Test.YthglfhnlolefhaaGreatDoorAbsStep5
set_option linter.unusedVariables false
set_option linter.unusedSimpArgs false
namespace Go.Abs
open Go.RowKit (Below)

section
variable {P : Program} {w : World} {g : Gh} {V : List VO} {T : List Nat} {a : Act} {e : Env} {o : Oper}

theorem fold_list (off : Nat) : ∀ (l : List Value) (k : Nat) (arr : Array Value), (l.zipIdx k).foldl (fun cs p => cs.setIfInBounds (off + p.2) p.1) arr = segA arr (off + k) l
  | [], k, arr => rfl
  | v :: r, k, arr => by
    rw [List.zipIdx_cons, List.foldl_cons, fold_list off r]
    rfl
theorem fold_seg (off : Nat) (vs arr : Array Value) : vs.zipIdx.foldl (fun cs p => cs.setIfInBounds (off + p.2) p.1) arr = segA arr off vs.toList := by
  rw [← Array.foldl_toList, Array.toList_zipIdx, fold_list]
  rfl
theorem fill_cons {place : Nat → Option (Nat × Nat)} {cells : Array Value} {i : Nat} {v : Value} {rest : List (Nat × Value)} {off sz : Nat} (hp : place i = some (off, sz)) (h1 : v.cells.size = sz) (h2 : off + sz ≤ cells.size) :
    Instr.fill place cells ((i, v) :: rest) = Instr.fill place (segA cells off v.cells.toList) rest := by
  rw [Instr.fill]
  simp only [hp]
  rw [if_neg (by simp; omega), fold_seg]

theorem fill_rep {place : Nat → Option (Nat × Nat)} (he : EnvOk w g T a.tmps e) : ∀ (parts : List (Nat × Operand)) (ps : List Part) (cells : Array Value) (ds cs : List D), partsOf place parts = some ps → RepL w g T cells ds →
    (∀ i (hi : i < ds.length), (ds[i]).one = true) → fillD e ds ps = some cs → ∃ arr, Instr.fill place cells (parts.map fun (p : Nat × Operand) => (p.1, a.eval p.2)) = some arr ∧ RepL w g T arr cs ∧ (∀ i (hi : i < cs.length), (cs[i]).one = true) ∧ cs.length = ds.length
  | [], ps, cells, ds, cs, h1, h2, h3, h4 => by
    simp only [partsOf, Option.some.injEq] at h1
    subst h1
    simp only [fillD, Option.some.injEq] at h4
    subst h4
    exact ⟨cells, rfl, h2, h3, rfl⟩
  | (i, x) :: r, ps, cells, ds, cs, h1, h2, h3, h4 => by
    simp only [partsOf] at h1
    cases hp : place i with
    | none => simp [hp] at h1
    | some y =>
      obtain ⟨off, sz⟩ := y
      cases hx : opd x with
      | none => simp [hp, hx] at h1
      | some x' =>
        cases hr : partsOf place r with
        | none => simp [hp, hx, hr] at h1
        | some r' =>
          simp only [hp, hx, hr, Option.bind_eq_bind, Option.bind_some, Option.some.injEq] at h1
          subst h1
          simp only [fillD] at h4
          split at h4
          · rename_i hc
            obtain ⟨hf, hle⟩ := hc
            obtain ⟨g1, g2, g3, g4⟩ := fits_rep (opd_rep he hx) hf
            have hle' : off + (ev e x').cells.length ≤ ds.length := by omega
            have hlen := setAt_length ds off (ev e x').cells hle'
            obtain ⟨arr, k1, k2, k3, k4⟩ := fill_rep he r r' _ _ cs hr (repL_seg h2 g4 hle') (ones_setAt h3 g3 hle') h4
            refine ⟨arr, ?_, k2, k3, by omega⟩
            rw [List.map_cons, fill_cons hp g1 (by rw [h2.1]; omega)]
            exact k1
          · simp at h4

theorem fillP_rep {place : Nat → Option (Nat × Nat)} (he : EnvOk w g T a.tmps e) : ∀ (parts : List (Nat × Operand)) (ps : List Part) (cells : Array Value) (ds cs : List Go.Abs.P), partsOf place parts = some ps → RepPL w g.I cells ds →
    fillP e ds ps = some cs → ∃ arr, Instr.fill place cells (parts.map fun (p : Nat × Operand) => (p.1, a.eval p.2)) = some arr ∧ RepPL w g.I arr cs ∧ cs.length = ds.length
  | [], ps, cells, ds, cs, h1, h2, h4 => by
    simp only [partsOf, Option.some.injEq] at h1
    subst h1
    simp only [fillP, Option.some.injEq] at h4
    subst h4
    exact ⟨cells, rfl, h2, rfl⟩
  | (i, x) :: r, ps, cells, ds, cs, h1, h2, h4 => by
    simp only [partsOf] at h1
    cases hp : place i with
    | none => simp [hp] at h1
    | some y =>
      obtain ⟨off, sz⟩ := y
      cases hx : opd x with
      | none => simp [hp, hx] at h1
      | some x' =>
        cases hr : partsOf place r with
        | none => simp [hp, hx, hr] at h1
        | some r' =>
          simp only [hp, hx, hr, Option.bind_eq_bind, Option.bind_some, Option.some.injEq] at h1
          subst h1
          simp only [fillP] at h4
          cases hpc : (ev e x').pcells with
          | none => simp [hpc] at h4
          | some xs =>
            simp only [hpc] at h4
            split at h4
            · rename_i hc
              obtain ⟨hf, hle⟩ := hc
              have hrp := pcells_rep (opd_rep he hx) hpc
              have hle' : off + xs.length ≤ ds.length := by omega
              have hlen := setAt_length ds off xs hle'
              have hseg : RepPL w g.I (segA cells off (a.eval x).cells.toList) (setAt ds off xs) := by
                have h5 := repL_seg (g := g) (T := T) (off := off) (rep_pure h2) (rep_pure hrp) (by simpa using hle')
                refine ⟨by rw [segA_size, hlen]; exact h2.1, fun j hj => ?_⟩
                have hj' : j < ds.length := by omega
                have e1 := segA_get (a.eval x).cells.toList cells off j
                have e2 := setAt_get ds off xs j hle'
                have hl2 : (a.eval x).cells.toList.length = xs.length := by simpa using hrp.1
                rw [List.getElem?_eq_getElem hj] at e2
                by_cases hc2 : off ≤ j ∧ j < off + xs.length
                · rw [if_pos hc2, List.getElem?_eq_getElem (by omega)] at e2
                  rw [if_pos ⟨hc2.1, by omega, by rw [h2.1]; omega⟩, Array.getElem?_toList] at e1
                  rw [Option.some.inj e2]
                  have := hrp.2 (j - off) (by omega)
                  simpa [Array.getD_eq_getD_getElem?, e1] using this
                · rw [if_neg hc2, List.getElem?_eq_getElem hj'] at e2
                  rw [if_neg (by omega)] at e1
                  rw [Option.some.inj e2]
                  have := h2.2 j hj'
                  simpa [Array.getD_eq_getD_getElem?, e1] using this
              obtain ⟨arr, k1, k2, k4⟩ := fillP_rep he r r' _ _ cs hr hseg h4
              refine ⟨arr, ?_, k2, by omega⟩
              rw [List.map_cons, fill_cons hp (by have := hrp.1; show (a.eval x).cells.size = sz; omega) (by rw [h2.1]; omega)]
              exact k1
            · simp at h4

theorem mapM_run {α β : Type} {f : α → Option β} {m : α → Sem β} (hm : ∀ x y, f x = some y → (m x).run P w = .ok y w) : ∀ {l : List α} {r : List β}, mapO f l = some r → (l.mapM m).run P w = .ok r w
  | [], r, h => by simp only [mapO, Option.some.injEq] at h; subst h; simp
  | x :: l, r, h => by
    simp only [mapO] at h
    cases hx : f x with
    | none => rw [hx] at h; simp at h
    | some y =>
      rw [hx] at h
      cases hl : mapO f l with
      | none => rw [hl] at h; simp at h
      | some ys =>
        rw [hl] at h
        simp only [Option.some.injEq] at h
        subst h
        simp [List.mapM_cons, hm x y hx, mapM_run hm hl]
theorem yl_build_struct {t : TypeId} {parts : Array (Nat × Operand)} {fs : Array Field} {z : List Go.Abs.P} {places : List (Nat × Nat)} {ps : List Part} {cs : List D} (hop : o.op = .build t parts) (hu : P.underlying t = some (.struct fs)) (hz : zeroT P t = some z)
    (hpl : mapO (fun f : Field => (sizeT P f.type).map fun s => (f.offset, s)) fs.toList = some places) (hps : partsOf (places[·]?) parts.toList = some ps) (he : EnvOk w g T a.tmps e) (hd : fillD e (z.map zD) ps = some cs) : Yl P w g T a o (.ag cs) := by
  obtain ⟨zv, h1, h2, h3⟩ := zeroT_run (P := P) (w := w) hz
  obtain ⟨hp, hone⟩ := zDL_rep (w := w) (g := g) (T := T) h3
  obtain ⟨arr, k1, k2, k3, k4⟩ := fill_rep he parts.toList ps zv.cells _ cs hps (by simpa using hp) hone hd
  have hmm : (fs.mapM fun f : Field => do pure (f.offset, ← sizeOf f.type)).run P w = .ok places.toArray w := by
    rw [Array.mapM_eq_mapM_toList]
    simp only [Sem.run_map]
    rw [mapM_run (P := P) (w := w) (f := fun f : Field => (sizeT P f.type).map fun s => (f.offset, s)) (fun x y hxy => ?_) hpl]
    · rfl
    · cases hs : sizeT P x.type with
      | none => simp [hs] at hxy
      | some s => simp only [hs, Option.map_some, Option.some.injEq] at hxy; subst hxy; simp [sizeT_run hs]
  refine ⟨.agg arr, ?_, .ag k2.1 k3 k2.2⟩
  simp only [execOp, hop, Instr.build, Sem.run_bind, h1, Result.andThen_ok, Sem.run_pure, underlying_run hu, hmm]
  have e1 : (parts.map fun (p : Nat × Operand) => (p.1, a.eval p.2)).toList = parts.toList.map fun (p : Nat × Operand) => (p.1, a.eval p.2) := by simp
  have e2 : (fun x : Nat => places.toArray[x]?) = fun x => places[x]? := by funext x; simp
  simp only [e1, e2, k1, Sem.run_pure, Result.andThen_ok]
theorem yl_build_array {t et : TypeId} {n s : Nat} {parts : Array (Nat × Operand)} {z : List Go.Abs.P} {ps : List Part} {cs : List D} (hop : o.op = .build t parts) (hu : P.underlying t = some (.array n et)) (hz : zeroT P t = some z)
    (hs : sizeT P et = some s) (hps : partsOf (fun i => some (i * s, s)) parts.toList = some ps) (he : EnvOk w g T a.tmps e) (hd : fillD e (z.map zD) ps = some cs) : Yl P w g T a o (.ag cs) := by
  obtain ⟨zv, h1, h2, h3⟩ := zeroT_run (P := P) (w := w) hz
  obtain ⟨hp, hone⟩ := zDL_rep (w := w) (g := g) (T := T) h3
  obtain ⟨arr, k1, k2, k3, k4⟩ := fill_rep he parts.toList ps zv.cells _ cs hps (by simpa using hp) hone hd
  refine ⟨.agg arr, ?_, .ag k2.1 k3 k2.2⟩
  simp only [execOp, hop, Instr.build, Sem.run_bind, h1, Result.andThen_ok, Sem.run_pure, underlying_run hu, sizeT_run hs]
  have e1 : (parts.map fun (p : Nat × Operand) => (p.1, a.eval p.2)).toList = parts.toList.map fun (p : Nat × Operand) => (p.1, a.eval p.2) := by simp
  simp only [e1, k1, Sem.run_pure, Result.andThen_ok]

/-- So many times the same cells. -/
theorem rep_flat (z : List Go.Abs.P) : ∀ (n i : Nat), (List.replicate n z).flatten[i]? = if i < n * z.length then z[i % z.length]? else none
  | 0, i => by simp
  | n + 1, i => by
    rw [List.replicate_succ, List.flatten_cons]
    by_cases h : i < z.length
    · rw [List.getElem?_append_left h, if_pos (by rw [Nat.succ_mul]; omega), Nat.mod_eq_of_lt h]
    · rw [List.getElem?_append_right (by omega), rep_flat z n]
      have e1 : i % z.length = (i - z.length) % z.length := by rw [Nat.mod_eq_sub_mod (by omega)]
      rw [e1]
      by_cases h2 : i - z.length < n * z.length
      · rw [if_pos h2, if_pos (by rw [Nat.succ_mul]; omega)]
      · rw [if_neg h2, if_neg (by rw [Nat.succ_mul]; omega)]
theorem zeros_rep {I : Nat → Nat → Prop} {zs : Array Value} {z : List Go.Abs.P} {m n : Nat} (h : RepPL w I zs z) (hm : m = n * z.length) (hz : 0 < z.length) :
    RepPL w I ((Array.range m).map fun i => zs[i % zs.size]!) (List.replicate n z).flatten := by
  subst hm
  refine ⟨by simp, fun i hi => ?_⟩
  have hi' : i < n * z.length := by simpa using hi
  have e1 := rep_flat z n i
  rw [if_pos hi', List.getElem?_eq_getElem hi, List.getElem?_eq_getElem (Nat.mod_lt _ hz)] at e1
  rw [Option.some.inj e1]
  have := h.2 (i % z.length) (Nat.mod_lt _ hz)
  have hlt : i % zs.size < zs.size := by rw [h.1]; exact Nat.mod_lt _ hz
  have e2 : ((Array.range (n * z.length)).map fun i => zs[i % zs.size]!).getD i undef = zs.getD (i % z.length) undef := by
    simp only [Array.getD_eq_getD_getElem?]
    rw [h.1] at hlt ⊢
    simp [hi', hlt, h.1]
  rw [e2]
  exact this
theorem st_bsl {t et : TypeId} {n s : Nat} {parts : Array (Nat × Operand)} {z : List Go.Abs.P} {ps : List Part} {cs : List Go.Abs.P} (hop : o.op = .buildSlice t n parts) (hu : P.underlying t = some (.slice et)) (hsz : sizeT P et = some s) (hz : zeroT P et = some z) (hs0 : s ≠ 0) (hlim : ¬ n * s > 2 ^ 24) (hzl : z.length = s)
    (hps : partsOf (fun i => some (i * s, s)) parts.toList = some ps) (he : EnvOk w g T a.tmps e) (hd : fillP e (List.replicate n z).flatten ps = some cs) (hs : Sim w g V T) : StG P w g T a o (.fs n cs) V T := by
  obtain ⟨zv, h1, h2, h3⟩ := zeroT_run (P := P) (w := w) hz
  have hp := cellPL_rep (w := w) h3 g.I
  have hp' : RepPL w g.I zv.cells z := by simpa using hp
  have hzero : ∃ zs : Array Value, ((n * s = 0 ∧ zs = #[]) ∨ (n * s ≠ 0 ∧ zs = zv.cells)) ∧ RepPL w g.I ((Array.range (n * s)).map fun i => zs[i % zs.size]!) (List.replicate n z).flatten := by
    by_cases h0 : n * s = 0
    · have hn : n = 0 := by
        rcases Nat.eq_zero_or_pos n with h | h
        · exact h
        · have := Nat.mul_pos h (Nat.pos_of_ne_zero hs0); omega
      subst hn
      refine ⟨#[], .inl ⟨h0, rfl⟩, by simp [RepPL]⟩
    · exact ⟨zv.cells, .inr ⟨h0, rfl⟩, zeros_rep hp' (by rw [hzl]) (by omega)⟩
  obtain ⟨zs, hz1, hz2⟩ := hzero
  obtain ⟨arr, k1, k2, k4⟩ := fillP_rep he parts.toList ps _ _ cs hps hz2 hd
  refine ⟨w.alloc (.cells arr et), .slice (some ⟨w.heap.size, 0, none⟩) n n, .inl ?_, got_fs hs (alloc_below _) (alloc_heap _) (Nat.le_refl _) (by rw [k2.1]; exact Nat.le_refl _) k2.2⟩
  have e1 : (parts.map fun (p : Nat × Operand) => (p.1, a.eval p.2)).toList = parts.toList.map fun (p : Nat × Operand) => (p.1, a.eval p.2) := by simp
  simp only [execOp, hop, Instr.buildSlice, Sem.run_bind, underlying_run hu, Result.andThen_ok, sizeT_run hsz, Sem.run_ite, if_neg hlim, Sem.run_pure]
  rcases hz1 with ⟨h0, rfl⟩ | ⟨h0, rfl⟩
  · rw [if_pos h0, e1, k1]
    simp only [Result.andThen_ok, Sem.run_bind, newRow, run_newObj, Sem.run_pure]
    rfl
  · rw [if_neg h0, h1]
    simp only [Result.andThen_ok]
    rw [e1, k1]
    simp only [Result.andThen_ok, Sem.run_bind, newRow, run_newObj, Sem.run_pure]
    rfl
end
end Go.Abs
