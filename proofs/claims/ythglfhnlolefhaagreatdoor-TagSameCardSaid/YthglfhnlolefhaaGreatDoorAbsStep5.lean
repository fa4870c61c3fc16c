/- Own framework, part 10: the machine's operations that make memory or write it, against the abstract ones. -/
import Derived.Test.YthglfhnlolefhaaGreatDoorAbsStep4
import Derived.Test.YthglfhnlolefhaaGreatDoorAbsMem
import Derived.Laws.AppendOwn
set_option linter.unusedVariables false
set_option linter.unusedSimpArgs false
namespace Go.Abs
open Go.RowKit (Below)

/-- A step of the machine that the abstract step (d, V', T') tells. -/
def StG (P : Program) (w : World) (g : Gh) (T : List Nat) (a : Act) (o : Oper) (d : D) (V' : List VO) (T' : List Nat) : Prop :=
  ∃ w' v, ((execOp a.eval o).run P w = .ok (.value v) w' ∨ ((execOp a.eval o).run P w = .ok .skip w' ∧ v = undef)) ∧ Got w g T w' v d V' T'

section
variable {P : Program} {w : World} {g : Gh} {V : List VO} {T : List Nat} {a : Act} {e : Env} {o : Oper}

theorem Yl.stg {d : D} (h : Yl P w g T a o d) (hs : Sim w g V T) : StG P w g T a o d V T := by
  obtain ⟨v, h1, h2⟩ := h
  exact ⟨w, v, .inl h1, got_same hs h2⟩

theorem alloc_heap (o : Obj) : (w.alloc o).heap[w.heap.size]? = some o := by
  show (w.heap.push o)[w.heap.size]? = some o
  simp
theorem alloc_below (o : Obj) : Below w.heap.size w (w.alloc o) := (Below.refl _ _).alloc (Nat.le_refl _) o
theorem unfz (n : Nat) : Unf n (0, 0) := .inl rfl

theorem st_alloc {t : TypeId} {z : List Go.Abs.P} (hop : o.op = .alloc t) (hz : zeroT P t = some z) (hs : Sim w g V T) : StG P w g T a o (.mp V.length 0) (V ++ [⟨t, false, false, z.map zD⟩]) T := by
  obtain ⟨zv, h1, h2, h3⟩ := zeroT_run (P := P) (w := w) hz
  obtain ⟨hp, hone⟩ := zDL_rep (w := w) (g := g) (T := T) h3
  refine ⟨w.alloc (.cells zv.cells t), _, .inl ?_, got_push hs (alloc_below _) t (alloc_heap _) (Nat.le_refl _) (unfz _) hone (by simpa using hp)⟩
  simp only [execOp, hop, Instr.alloc, Sem.run_bind, h1, Result.andThen_ok, newVar, newRow, run_newObj, Sem.run_pure]
  rfl
theorem st_box {t : TypeId} {sz : Nat} {x : Operand} {x' : Opd} (hop : o.op = .box t x) (hx : opd x = some x') (he : EnvOk w g T a.tmps e) (hf : (ev e x').fits sz = true) (hs : Sim w g V T) :
    StG P w g T a o (.mp V.length 0) (V ++ [⟨t, false, false, (ev e x').cells⟩]) T := by
  obtain ⟨h1, h2, h3, h4⟩ := fits_rep (opd_rep he hx) hf
  refine ⟨w.alloc (.cells (a.eval x).cells t), _, .inl ?_, got_push hs (alloc_below _) t (alloc_heap _) (Nat.le_refl _) (unfz _) h3 h4⟩
  simp only [execOp, hop, Instr.box, Sem.run_bind, Result.andThen_ok, newVar, newRow, run_newObj, Sem.run_pure]
  rfl
theorem st_rng {t : TypeId} {x : Operand} {x' : Opd} {s : ByteArray} (hop : o.op = .range t x) (hu : P.underlying t = some .string) (hx : opd x = some x') (he : EnvOk w g T a.tmps e) (hv : ev e x' = .c (.v (.string s))) (hs : Sim w g V T) :
    StG P w g T a o (.mp V.length 0) (V ++ [⟨0, true, false, [.c (.v (.string s)), .c (.v (.int .i64 0))]⟩]) T := by
  have h1 := opd_rep he hx
  rw [hv] at h1
  refine ⟨w.alloc (.stringIter s 0), _, .inl ?_, got_rng hs (alloc_below _) (alloc_heap _) (Nat.le_refl _)⟩
  simp only [execOp, hop, Instr.range, rep_sc h1, Sem.run_bind, underlying_run hu, Result.andThen_ok, run_newObj, Sem.run_pure]
  rfl
theorem st_nxt {t : TypeId} {x : Operand} {x' : Opd} {id : Nat} {vo : VO} {s : ByteArray} {p : Nat} (hop : o.op = .next x true) (hx : opd x = some x') (he : EnvOk w g T a.tmps e) (hv : ev e x' = .mp id 0)
    (ho : V[id]? = some vo) (hit : vo.it = true) (hcs : vo.cs = [.c (.v (.string s)), .c (.v (.int .i64 p))]) (hs : Sim w g V T) :
    (p < s.size → StG P w g T a o (.tu [.c (.v (.bool true)), .c (.v (.int .i64 p)), .c (.v (.int .i32 (Utf8.decode s p).1))])
      (V.set id ⟨vo.t, true, false, [.c (.v (.string s)), .c (.v (.int .i64 (p + (Utf8.decode s p).2 : Nat)))]⟩) T) ∧
    (¬ p < s.size → StG P w g T a o (.tu [.c (.v (.bool false))]) V T) := by
  have h1 := opd_rep he hx
  rw [hv] at h1
  obtain ⟨b, hxe, hb⟩ := rep_mp h1
  rcases hs.var id vo b ho hb with ⟨_, hfz, s', p', hcs', hh⟩ | ⟨h2, _⟩
  rotate_left
  · simp [hit] at h2
  rw [hcs] at hcs'
  simp only [List.cons.injEq, D.c.injEq, Go.Abs.P.v.injEq, Value.string.injEq, Value.int.injEq, Int.natCast_inj, true_and, and_true] at hcs'
  obtain ⟨rfl, hp'⟩ := hcs'
  have hp' : p = p' := by omega
  subst hp'
  have hg : (getObj b).run P w = .ok (.stringIter s p) w := by simp [getObj, Sem.run, hh]
  constructor
  · intro hlt
    have hlt' : b < w.heap.size := lt_of_get hh
    let w' : World := { w with heap := w.heap.setIfInBounds b (.stringIter s (p + (Utf8.decode s p).2)) }
    have hset : (setObj b (.stringIter s (p + (Utf8.decode s p).2))).run P w = .ok () w' := by simp [setObj, Sem.run, hh, w']
    have hv' : VarOk w' g T ⟨vo.t, true, false, [.c (.v (.string s)), .c (.v (.int .i64 (p + (Utf8.decode s p).2 : Nat)))]⟩ b := .inl ⟨rfl, rfl, s, p + (Utf8.decode s p).2, rfl, by simp [w', hlt']⟩
    have hbel : Below b w w' := ⟨rfl, rfl, rfl, by simp [w'], fun k hk => by simp [w', Array.getElem?_setIfInBounds_ne (show b ≠ k by omega)]⟩
    obtain ⟨h5, h6, h7⟩ := hs.setVar ho hb hfz hbel (fun k hk => by simp [w', Array.getElem?_setIfInBounds_ne (Ne.symm hk)]) hv'
    refine ⟨w', .tuple #[.bool true, goInt p, .int .i32 (Utf8.decode s p).1], .inl ?_, g, h5, h6, ?_, h7⟩
    · simp only [execOp, hop, Instr.next, hxe, Sem.run_bind, hg, Result.andThen_ok]
      rw [if_pos hlt]
      simp only [Sem.run_bind, hset, Result.andThen_ok, Sem.run_pure]
    · refine .tu rfl (fun i hi => ?_)
      match i, hi with
      | 0, _ => exact sc_rep rfl
      | 1, _ => exact sc_rep rfl
      | 2, _ => exact sc_rep rfl
  · intro hlt
    refine ⟨w, .tuple #[.bool false], .inl ?_, got_same hs (.tu rfl (fun i hi => ?_))⟩
    · simp only [execOp, hop, Instr.next, hxe, Sem.run_bind, hg, Result.andThen_ok]
      rw [if_neg hlt]
      rfl
    · match i, hi with
      | 0, _ => exact sc_rep rfl

/-! ### loads and stores of variables -/
theorem st_load_mp {t : TypeId} {x : Operand} {x' : Opd} {ag : Bool} {sz id off : Nat} {vo : VO} {d : D} (hop : o.op = .load t x) (ha : aggT P t = some ag) (hsz : sizeT P t = some sz) (hx : opd x = some x') (he : EnvOk w g T a.tmps e)
    (hv : ev e x' = .mp id off) (ho : V[id]? = some vo) (hit : vo.it = false) (hd : partD ag vo.cs off sz = some d) (hs : Sim w g V T) : StG P w g T a o d V T := by
  have h1 := opd_rep he hx
  rw [hv] at h1
  obtain ⟨b, hxe, hb⟩ := rep_mp h1
  rcases hs.var id vo b ho hb with ⟨h2, _⟩ | ⟨_, arr, ty, fr, hh, hf, h1c, hr⟩
  · simp [hit] at h2
  refine Yl.stg ?_ hs
  unfold partD at hd
  split at hd
  case isFalse => simp at hd
  rename_i hle
  have hcell : ∀ i, i < sz → w.cell? ((⟨b, off, none⟩ : Addr).add i) = some (arr.getD (off + i) undef) := fun i hi => by
    rw [add0, cell_arr hh, getD_some (by rw [hr.1]; omega)]
  have hmk : (ag = true ∧ d = .ag ((vo.cs.drop off).take sz)) ∨ (ag = false ∧ (vo.cs.drop off).take sz = [d]) := by
    unfold mkV at hd
    split at hd
    · rename_i y hy
      cases ag <;> simp_all
    · cases ag <;> simp_all
  rcases hmk with ⟨rfl, rfl⟩ | ⟨rfl, hd1⟩
  · have hrun := loadVar_run (P := P) (w := w) (ag := true) ha hsz hcell (by simp)
    refine ⟨.agg ((List.range sz).map fun i => arr.getD (off + i) undef).toArray, by simp [execOp, hop, hxe, Instr.loadAt, Instr.sureAddr, hrun], .ag (by simp; omega) ?_ ?_⟩
    · intro i hi
      simp at hi
      simp only [List.getElem_take, List.getElem_drop]
      exact h1c _ (by omega)
    · intro i hi
      simp at hi
      have hlt : i < sz := by omega
      simp only [List.getElem_take, List.getElem_drop]
      have := hr.2 (off + i) (by omega)
      simpa [Array.getD_eq_getD_getElem?, hlt] using this
  · have hsz1 : sz = 1 := by
      have := congrArg List.length hd1
      simp at this; omega
    have hrun := loadVar_run (P := P) (w := w) (ag := false) ha hsz hcell (fun _ => hsz1)
    refine ⟨arr.getD (off + 0) undef, by simp [execOp, hop, hxe, Instr.loadAt, Instr.sureAddr, hrun], ?_⟩
    have hx2 : vo.cs[off]? = some d := by
      have : ((vo.cs.drop off).take sz)[0]? = some d := by rw [hd1]; rfl
      rw [List.getElem?_take] at this
      split at this
      · simpa using this
      · simp at this
    obtain ⟨y, hy, hry⟩ := hr.at hx2
    simpa [Array.getD_eq_getD_getElem?, hy] using hry

/-- A segment written into a row. -/
def segA : Array Value → Nat → List Value → Array Value
  | arr, _, [] => arr
  | arr, o, v :: r => segA (arr.setIfInBounds o v) (o + 1) r
theorem segA_size : ∀ (vs : List Value) (arr : Array Value) (o : Nat), (segA arr o vs).size = arr.size
  | [], _, _ => rfl
  | v :: r, arr, o => by simp [segA, segA_size r]
theorem segA_get : ∀ (vs : List Value) (arr : Array Value) (o i : Nat), (segA arr o vs)[i]? = if o ≤ i ∧ i < o + vs.length ∧ i < arr.size then vs[i - o]? else arr[i]?
  | [], arr, o, i => by simp [segA]; intro h1 h2; omega
  | v :: r, arr, o, i => by
    rw [segA, segA_get r]
    by_cases h : o = i
    · subst h
      rw [if_neg (by omega)]
      by_cases hlt : o < arr.size
      · rw [if_pos ⟨Nat.le_refl _, by simp, hlt⟩]
        simp [hlt]
      · rw [if_neg (by omega)]
        simp [Array.getElem?_eq_none (Nat.le_of_not_lt hlt), hlt]
    · rw [Array.getElem?_setIfInBounds_ne h]
      by_cases h2 : o + 1 ≤ i ∧ i < o + 1 + r.length ∧ i < (arr.setIfInBounds o v).size
      · rw [if_pos h2, if_pos (by simp at h2 ⊢; omega)]
        rw [show i - o = (i - (o + 1)) + 1 by omega]
        rfl
      · rw [if_neg h2, if_neg (by simp at h2 ⊢; omega)]
theorem setAt_length {α : Type} : ∀ (l : List α) (o : Nat) (xs : List α), o + xs.length ≤ l.length → (setAt l o xs).length = l.length
  | l, 0, [], h => by cases l <;> rfl
  | [], o, xs, h => by cases o <;> cases xs <;> simp_all [setAt]
  | x :: l, 0, y :: ys, h => by simp [setAt, setAt_length l 0 ys (by simp at h; omega)]
  | x :: l, o + 1, xs, h => by simp [setAt, setAt_length l o xs (by simp at h; omega)]
theorem setAt_get {α : Type} : ∀ (l : List α) (o : Nat) (xs : List α) (i : Nat), o + xs.length ≤ l.length → (setAt l o xs)[i]? = if o ≤ i ∧ i < o + xs.length then xs[i - o]? else l[i]?
  | l, 0, [], i, h => by cases l <;> simp [setAt]
  | [], o, xs, i, h => by
    have : xs = [] := by cases xs <;> simp_all
    subst this
    cases o <;> simp [setAt] <;> omega
  | x :: l, 0, y :: ys, i, h => by
    cases i with
    | zero => simp [setAt]
    | succ i =>
      simp only [setAt, List.getElem?_cons_succ]
      rw [setAt_get l 0 ys i (by simp at h; omega)]
      by_cases h2 : i < ys.length
      · rw [if_pos (by omega), if_pos (by simp; omega)]; simp
      · rw [if_neg (by omega), if_neg (by simp; omega)]
  | x :: l, o + 1, xs, i, h => by
    cases i with
    | zero => simp [setAt]
    | succ i =>
      simp only [setAt, List.getElem?_cons_succ]
      rw [setAt_get l o xs i (by simp at h; omega)]
      by_cases h2 : o ≤ i ∧ i < o + xs.length
      · rw [if_pos h2, if_pos (by omega)]; congr 1; omega
      · rw [if_neg h2, if_neg (by omega)]
theorem setCells_heap (b : Nat) : ∀ (vs : List Value) (o : Nat) (w : World) (arr : Array Value) (t : TypeId) (fr : Nat × Nat), w.heap[b]? = some (.cells arr t fr) →
    (w.setCells b o vs).heap[b]? = some (.cells (segA arr o vs) t fr) ∧ (∀ k, k ≠ b → (w.setCells b o vs).heap[k]? = w.heap[k]?) ∧ (w.setCells b o vs).heap.size = w.heap.size ∧
      (w.setCells b o vs).os = w.os ∧ (w.setCells b o vs).tape = w.tape ∧ (w.setCells b o vs).output = w.output
  | [], o, w, arr, t, fr, h => ⟨h, fun _ _ => rfl, rfl, rfl, rfl, rfl⟩
  | v :: r, o, w, arr, t, fr, h => by
    have h0 : (w.setCell ⟨b, o, none⟩ v).heap[b]? = some (.cells (arr.setIfInBounds o v) t fr) := by
      simp [World.setCell, Array.getElem?_modify, h]
    obtain ⟨h1, h2, h3, h4, h5, h6⟩ := setCells_heap b r (o + 1) (w.setCell ⟨b, o, none⟩ v) _ t fr h0
    refine ⟨h1, fun k hk => ?_, ?_, h4, h5, h6⟩
    · rw [World.setCells, h2 k hk]; exact Below.heap_setCell w ⟨b, o, none⟩ v k hk
    · rw [World.setCells, h3]; simp [World.setCell]
theorem repL_seg {cs vs : Array Value} {ds xs : List D} {off : Nat} (h : RepL w g T cs ds) (hv : RepL w g T vs xs) (hle : off + xs.length ≤ ds.length) : RepL w g T (segA cs off vs.toList) (setAt ds off xs) := by
  refine ⟨by rw [segA_size, setAt_length _ _ _ hle]; exact h.1, fun i hi => ?_⟩
  rw [setAt_length _ _ _ hle] at hi
  have hlen : vs.toList.length = xs.length := by simpa using hv.1
  have e1 := segA_get vs.toList cs off i
  have e2 := setAt_get ds off xs i hle
  by_cases hc : off ≤ i ∧ i < off + xs.length
  · rw [if_pos hc] at e2
    rw [if_pos ⟨hc.1, by omega, by rw [h.1]; exact hi⟩] at e1
    have hx : (setAt ds off xs)[i]'(by rw [setAt_length _ _ _ hle]; exact hi) = xs[i - off]'(by omega) := by
      rw [List.getElem?_eq_getElem (by rw [setAt_length _ _ _ hle]; exact hi), List.getElem?_eq_getElem (by omega)] at e2
      exact Option.some.inj e2
    rw [hx]
    have := hv.2 (i - off) (by omega)
    rw [Array.getElem?_toList] at e1
    simpa [Array.getD_eq_getD_getElem?, e1] using this
  · rw [if_neg hc] at e2
    rw [if_neg (by omega)] at e1
    have hx : (setAt ds off xs)[i]'(by rw [setAt_length _ _ _ hle]; exact hi) = ds[i] := by
      rw [List.getElem?_eq_getElem (by rw [setAt_length _ _ _ hle]; exact hi), List.getElem?_eq_getElem hi] at e2
      exact Option.some.inj e2
    rw [hx]
    have := h.2 i hi
    simpa [Array.getD_eq_getD_getElem?, e1] using this
theorem ones_setAt {ds xs : List D} {off : Nat} (h : ∀ i (hi : i < ds.length), (ds[i]).one = true) (hx : ∀ i (hi : i < xs.length), (xs[i]).one = true) (hle : off + xs.length ≤ ds.length) : ∀ i (hi : i < (setAt ds off xs).length), ((setAt ds off xs)[i]).one = true := by
  intro i hi
  have hi' : i < ds.length := by rw [setAt_length _ _ _ hle] at hi; exact hi
  have e2 := setAt_get ds off xs i hle
  rw [List.getElem?_eq_getElem hi] at e2
  split at e2
  · rename_i hc
    rw [List.getElem?_eq_getElem (by omega)] at e2
    rw [Option.some.inj e2]
    exact hx _ _
  · rw [List.getElem?_eq_getElem hi'] at e2
    rw [Option.some.inj e2]
    exact h _ _
theorem st_store {t : TypeId} {p x : Operand} {p' x' : Opd} {sz id off : Nat} {vo : VO} (hop : o.op = .store t p x) (hsz : sizeT P t = some sz) (hp : opd p = some p') (hx : opd x = some x') (he : EnvOk w g T a.tmps e)
    (hv : ev e p' = .mp id off) (hf : (ev e x').fits sz = true) (ho : V[id]? = some vo) (hit : vo.it = false) (hfz : vo.fz = false) (hle : off + sz ≤ vo.cs.length) (hs : Sim w g V T) :
    StG P w g T a o und (V.set id ⟨vo.t, false, false, setAt vo.cs off (ev e x').cells⟩) T := by
  have h1 := opd_rep he hp
  rw [hv] at h1
  obtain ⟨b, hpe, hb⟩ := rep_mp h1
  obtain ⟨hc1, hc2, hc3, hc4⟩ := fits_rep (opd_rep he hx) hf
  rcases hs.var id vo b ho hb with ⟨h2, _⟩ | ⟨_, arr, ty, fr, hh, hfr, h1c, hr⟩
  · simp [hit] at h2
  have hones := ones_rep hc4 hc3
  have hlen : (a.eval x).cells.toList.length = sz := by simpa using hc1
  have hrun := run_storeCells_cells (P := P) b off (a.eval x).cells.toList 0 w
    (fun j hj => by
      rw [Nat.add_zero, cell_arr hh, getD_some (by rw [hr.1]; omega)]; rfl)
    (fun j hj => by
      have hlt : off + 0 + j < arr.size := by rw [hr.1]; omega
      have := hfr.not hlt
      simp only [World.frozen?, hh]
      simpa using this) hones
  rw [Nat.add_zero] at hrun
  obtain ⟨h5, h6, h7, h8, h9, h10⟩ := setCells_heap b (a.eval x).cells.toList off w arr ty fr hh
  have hbel : Below b w (w.setCells b off (a.eval x).cells.toList) := ⟨h8, h9, h10, by rw [h7]; exact Nat.le_refl _, fun k hk => h6 k (by omega)⟩
  have hle' : off + (ev e x').cells.length ≤ vo.cs.length := by omega
  have hni : ∀ x, ¬ g.I b x := fun x hx => by have := hs.iv b x id vo hx hb ho; simp [hfz] at this
  have hext : Ext w g T (w.setCells b off (a.eval x).cells.toList) g T := ⟨rfl, fun c y hi => ⟨hi, by
      have : c ≠ b := fun e => hni y (e ▸ hi)
      simp only [World.cell?, h6 c this]⟩, fun _ _ h => h, fun _ k h => ⟨k, h, Nat.le_refl _, fun _ => rfl⟩, fun _ _ h => .inl h⟩
  have hv' : VarOk (w.setCells b off (a.eval x).cells.toList) g T ⟨vo.t, false, false, setAt vo.cs off (ev e x').cells⟩ b :=
    .inr ⟨rfl, _, ty, fr, h5, by rw [segA_size]; exact hfr, ones_setAt h1c hc3 hle', (repL_seg hr hc4 hle').mono hext⟩
  obtain ⟨h11, h12, h13⟩ := hs.setVar ho hb hfz hbel h6 hv'
  refine ⟨_, undef, .inr ⟨?_, rfl⟩, g, h11, h12, und_rep, h13⟩
  have hne : ¬ ((a.eval x).cells.size ≠ sz) := by omega
  simp only [execOp, hop, Instr.storeAt, hpe, Instr.sureAddr, storeVar, Sem.run_bind, Sem.run_pure, Result.andThen_ok, sizeT_run hsz, Sem.run_ite, if_neg hne, hrun]
end
end Go.Abs
