/- Own framework, part 27: structs and arrays held against each other, cell for cell. -/
import Derived.Test.YthglfhnlolefhaaGreatDoorAbsStep9
import Derived.Laws.StructEq
set_option linter.unusedVariables false
set_option linter.unusedSimpArgs false
namespace Go.Abs

theorem eqCells_append : ∀ {k1 k2 : List EK} {xs ys : List D} {r : Bool}, eqCells (k1 ++ k2) xs ys = some r → ∃ r1 r2, eqCells k1 (xs.take k1.length) (ys.take k1.length) = some r1 ∧ eqCells k2 (xs.drop k1.length) (ys.drop k1.length) = some r2 ∧ r = (r1 && r2)
  | [], k2, xs, ys, r, h => ⟨true, r, rfl, h, rfl⟩
  | k :: k1, k2, [], ys, r, h => by simp [eqCells] at h
  | k :: k1, k2, x :: xs, [], r, h => by simp [eqCells] at h
  | k :: k1, k2, x :: xs, y :: ys, r, h => by
    simp only [List.cons_append, eqCells] at h
    cases hc : eqCell k x y with
    | none => simp [hc] at h
    | some b =>
      simp only [hc] at h
      cases hr : eqCells (k1 ++ k2) xs ys with
      | none => simp [hr] at h
      | some r' =>
        simp only [hr, Option.some.injEq] at h
        obtain ⟨r1, r2, h1, h2, h3⟩ := eqCells_append hr
        refine ⟨b && r1, r2, ?_, by simpa using h2, by rw [← h, h3, Bool.and_assoc]⟩
        simp only [List.length_cons, List.take_succ_cons, eqCells, hc, h1]
theorem eqCells_len : ∀ {ks : List EK} {xs ys : List D} {r : Bool}, eqCells ks xs ys = some r → xs.length = ks.length ∧ ys.length = ks.length
  | [], [], [], _, _ => ⟨rfl, rfl⟩
  | [], x :: xs, ys, r, h => by simp [eqCells] at h
  | [], [], y :: ys, r, h => by simp [eqCells] at h
  | k :: ks, [], ys, r, h => by simp [eqCells] at h
  | k :: ks, x :: xs, [], r, h => by simp [eqCells] at h
  | k :: ks, x :: xs, y :: ys, r, h => by
    simp only [eqCells] at h
    cases hc : eqCell k x y with
    | none => simp [hc] at h
    | some b =>
      simp only [hc] at h
      cases hr : eqCells ks xs ys with
      | none => simp [hr] at h
      | some r' =>
        obtain ⟨h1, h2⟩ := eqCells_len hr
        simp [h1, h2]

section
variable {P : Program} {w : World} {g : Gh} {T : List Nat}

theorem repL_seg_of {cs : Array Value} {ds : List D} (h : RepL w g T cs ds) {off k : Nat} (hk : off + k ≤ ds.length) : RepL w g T (cs.extract off (off + k)) ((ds.drop off).take k) := by
  have h1 := h.1
  refine ⟨by simp; omega, fun i hi => ?_⟩
  simp at hi
  simp only [List.getElem_take, List.getElem_drop]
  have := h.2 (off + i) (by omega)
  rw [Array.getD_eq_getD_getElem?] at this ⊢
  rw [Array.getElem?_extract, if_pos (by omega)]
  exact this

/-- One kind: its cell. -/
theorem cell_seg {k : EK} {xs ys : List D} {off : Nat} {r : Bool} {cx cy : Array Value} (hx : RepL w g T cx xs) (hy : RepL w g T cy ys) (h : eqCells [k] ((xs.drop off).take 1) ((ys.drop off).take 1) = some r) :
    ∃ vx vy dx dy, cx[off]? = some vx ∧ cy[off]? = some vy ∧ RepD w g T vx dx ∧ RepD w g T vy dy ∧ eqCell k dx dy = some r := by
  cases h1 : (xs.drop off).take 1 with
  | nil => rw [h1] at h; simp [eqCells] at h
  | cons dx rx =>
    cases h2 : (ys.drop off).take 1 with
    | nil => rw [h1, h2] at h; simp [eqCells] at h
    | cons dy ry =>
      have e1 : xs[off]? = some dx := by
        have : ((xs.drop off).take 1)[0]? = some dx := by rw [h1]; rfl
        rw [List.getElem?_take] at this
        simpa using this
      have e2 : ys[off]? = some dy := by
        have : ((ys.drop off).take 1)[0]? = some dy := by rw [h2]; rfl
        rw [List.getElem?_take] at this
        simpa using this
      obtain ⟨vx, k1, k2⟩ := hx.at e1
      obtain ⟨vy, k3, k4⟩ := hy.at e2
      refine ⟨vx, vy, dx, dy, k1, k3, k2, k4, ?_⟩
      obtain ⟨l1, l2⟩ := eqCells_len h
      rw [h1] at l1
      rw [h2] at l2
      rw [h1, h2] at h
      simp at l1 l2
      subst l1
      subst l2
      simp only [eqCells] at h
      cases hc : eqCell k dx dy with
      | none => simp [hc] at h
      | some b => simpa [hc] using h

def SegOk (P : Program) (w : World) (g : Gh) (T : List Nat) (d : Nat) (t : TypeId) (ks : List EK) : Prop := ∀ (cx cy : Array Value) (xs ys : List D) (off : Nat) (r : Bool), RepL w g T cx xs → RepL w g T cy ys → off + ks.length ≤ xs.length → off + ks.length ≤ ys.length →
  eqCells ks ((xs.drop off).take ks.length) ((ys.drop off).take ks.length) = some r → ∃ px py, (part t cx off).run P w = .ok px w ∧ (part t cy off).run P w = .ok py w ∧ (Op.equalIn d t px py).run P w = .ok r w

theorem seg_split {k1 k2 : List EK} {xs ys : List D} {off : Nat} {r : Bool} (h : eqCells (k1 ++ k2) ((xs.drop off).take (k1 ++ k2).length) ((ys.drop off).take (k1 ++ k2).length) = some r) :
    ∃ r1 r2, eqCells k1 ((xs.drop off).take k1.length) ((ys.drop off).take k1.length) = some r1 ∧ eqCells k2 ((xs.drop (off + k1.length)).take k2.length) ((ys.drop (off + k1.length)).take k2.length) = some r2 ∧ r = (r1 && r2) := by
  obtain ⟨r1, r2, h1, h2, h3⟩ := eqCells_append h
  refine ⟨r1, r2, ?_, ?_, h3⟩
  · rw [List.length_append, List.take_take, List.take_take, Nat.min_eq_left (by omega)] at h1
    exact h1
  · rw [List.length_append, List.drop_take, List.drop_take, List.drop_drop, List.drop_drop, Nat.add_sub_cancel_left] at h2
    exact h2

theorem fields_eq {pe : TypeId → Option (List EK)} {d : Nat} (hpe : ∀ t ks, pe t = some ks → SegOk P w g T d t ks) {cx cy : Array Value} {xs ys : List D} (hx : RepL w g T cx xs) (hy : RepL w g T cy ys) : ∀ (fs : List Field) (o : Nat) (ks : List EK) (r : Bool),
    plainFs pe fs o = some ks → o + ks.length ≤ xs.length → o + ks.length ≤ ys.length → eqCells ks ((xs.drop o).take ks.length) ((ys.drop o).take ks.length) = some r → (Op.eqFields d cx cy fs).run P w = .ok r w
  | [], o, ks, r, h, h1, h2, h3 => by
    simp only [plainFs, Option.some.injEq] at h
    subst h
    simp [eqCells] at h3
    subst h3
    rfl
  | f :: fs, o, ks, r, h, h1, h2, h3 => by
    simp only [plainFs] at h
    split at h
    · rename_i hc
      simp only [Bool.and_eq_true, bne_iff_ne, ne_eq, beq_iff_eq] at hc
      split at h
      · rename_i k1 hk1
        split at h
        · rename_i k2 hk2
          simp only [Option.some.injEq] at h
          subst h
          rw [List.length_append] at h1 h2
          obtain ⟨r1, r2, e1, e2, rfl⟩ := seg_split h3
          obtain ⟨px, py, p1, p2, p3⟩ := hpe _ _ hk1 cx cy xs ys o r1 hx hy (by omega) (by omega) e1
          have ih := fields_eq hpe hx hy fs (o + k1.length) k2 r2 hk2 (by omega) (by omega) e2
          simp only [Op.eqFields, ne_eq, hc.1, not_false_eq_true, if_true, hc.2, Sem.run_bind, p1, p2, p3, Result.andThen_ok]
          cases r1 with
          | false => simp
          | true => simpa using ih
        · simp at h
      · simp at h
    · simp at h

theorem plainEq_size : ∀ {n : Nat} {t : TypeId} {ks : List EK}, plainEq P n t = some ks → sizeT P t = some ks.length
  | 0, t, ks, h => by simp [plainEq] at h
  | n + 1, t, ks, h => by
    simp only [plainEq] at h
    split at h
    · split at h
      · simp only [Option.some.injEq] at h; subst h; assumption
      · simp at h
    · split at h
      · simp only [Option.some.injEq] at h; subst h; assumption
      · simp at h
    · split at h
      · simp only [Option.some.injEq] at h; subst h; assumption
      · simp at h
    · split at h
      · simp at h
      · split at h
        · split at h
          · simp only [Option.some.injEq] at h; subst h; assumption
          · simp at h
        · simp at h
    · split at h
      · split at h
        · rename_i hsz
          simp only [Option.some.injEq] at h; subst h
          simpa using hsz
        · simp at h
      · simp at h
    · simp at h

theorem items_eq {d : Nat} {e : TypeId} {ks : List EK} (hs : SegOk P w g T d e ks) {cx cy : Array Value} {xs ys : List D} (hx : RepL w g T cx xs) (hy : RepL w g T cy ys) : ∀ (m i : Nat) (r : Bool),
    i * ks.length + m * ks.length ≤ xs.length → i * ks.length + m * ks.length ≤ ys.length → eqCells (List.replicate m ks).flatten ((xs.drop (i * ks.length)).take (m * ks.length)) ((ys.drop (i * ks.length)).take (m * ks.length)) = some r →
    (forIn (m := Sem) (List.range' i m) (none, PUnit.unit) fun j (st : Option Bool × PUnit) => do
      let a ← part e cx (j * ks.length)
      let b ← part e cy (j * ks.length)
      let q ← Op.equalIn d e a b
      if (!q) = true then pure (ForInStep.done (some false, PUnit.unit)) else pure (ForInStep.yield (none, PUnit.unit))).run P w = .ok (if r then none else some false, PUnit.unit) w
  | 0, i, r, h1, h2, h3 => by
    simp [eqCells] at h3
    subst h3
    rfl
  | m + 1, i, r, h1, h2, h3 => by
    have hm : (m + 1) * ks.length = ks.length + m * ks.length := by rw [Nat.add_mul]; omega
    have hi : (i + 1) * ks.length = i * ks.length + ks.length := by rw [Nat.add_mul]; omega
    rw [List.replicate_succ, List.flatten_cons] at h3
    have hl : (ks ++ (List.replicate m ks).flatten).length = (m + 1) * ks.length := by simp [hm]
    rw [← hl] at h3
    obtain ⟨r1, r2, e1, e2, rfl⟩ := seg_split h3
    obtain ⟨px, py, p1, p2, p3⟩ := hs cx cy xs ys (i * ks.length) r1 hx hy (by omega) (by omega) e1
    have hl2 : (List.replicate m ks).flatten.length = m * ks.length := by simp
    rw [hl2, ← hi] at e2
    have ih := items_eq hs hx hy m (i + 1) r2 (by omega) (by omega) e2
    rw [List.range'_succ]
    simp only [List.forIn_cons, Sem.run_bind, p1, p2, p3, Result.andThen_ok]
    cases r1 with
    | false => simp
    | true => simpa using ih

theorem seg_ok : ∀ (n : Nat) (t : TypeId) (ks : List EK) (d : Nat), plainEq P n t = some ks → n ≤ d → SegOk P w g T d t ks
  | 0, t, ks, d, h, _ => by simp [plainEq] at h
  | n + 1, t, ks, 0, h, hd => by omega
  | n + 1, t, ks, d + 1, h, hd => by
    intro cx cy xs ys off r hx hy h1 h2 h3
    have hsz := plainEq_size h
    simp only [plainEq] at h
    split at h
    · rename_i hu
      split at h
      case isFalse => simp at h
      simp only [Option.some.injEq] at h
      subst h
      obtain ⟨vx, vy, dx, dy, k1, k2, k3, k4, k5⟩ := cell_seg hx hy h3
      refine ⟨vx, vy, by simp [part, isAgg, underlying_run hu, k1], by simp [part, isAgg, underlying_run hu, k2], ?_⟩
      unfold eqCell at k5
      split at k5 <;> first | contradiction | skip
      simp only [Option.some.injEq] at k5
      rw [rep_sc k3, rep_sc k4, ← k5]
      simp [Op.equalIn, underlying_run hu]
    · rename_i hu
      split at h
      case isFalse => simp at h
      simp only [Option.some.injEq] at h
      subst h
      obtain ⟨vx, vy, dx, dy, k1, k2, k3, k4, k5⟩ := cell_seg hx hy h3
      refine ⟨vx, vy, by simp [part, isAgg, underlying_run hu, k1], by simp [part, isAgg, underlying_run hu, k2], ?_⟩
      unfold eqCell at k5
      split at k5 <;> first | contradiction | skip
      split at k5 <;> first | contradiction | skip
      rename_i e
      subst e
      simp only [Option.some.injEq] at k5
      rw [rep_sc k3, rep_sc k4, ← k5]
      simp [Op.equalIn, underlying_run hu]
    · rename_i hu
      split at h
      case isFalse => simp at h
      simp only [Option.some.injEq] at h
      subst h
      obtain ⟨vx, vy, dx, dy, k1, k2, k3, k4, k5⟩ := cell_seg hx hy h3
      refine ⟨vx, vy, by simp [part, isAgg, underlying_run hu, k1], by simp [part, isAgg, underlying_run hu, k2], ?_⟩
      unfold eqCell at k5
      split at k5 <;> first | contradiction | skip
      simp only [Option.some.injEq] at k5
      rw [rep_sc k3, rep_sc k4, ← k5]
      simp [Op.equalIn, underlying_run hu, beq_toListBytes]
    · rename_i fs hu
      split at h
      · simp at h
      · rename_i hst
        split at h
        · rename_i ks' hfs
          split at h
          case isFalse => simp at h
          simp only [Option.some.injEq] at h
          subst h
          refine ⟨.agg (cx.extract off (off + ks'.length)), .agg (cy.extract off (off + ks'.length)), by simp [part, isAgg, underlying_run hu, sizeT_run hsz], by simp [part, isAgg, underlying_run hu, sizeT_run hsz], ?_⟩
          have hft : P.fieldsOf t = fs := by unfold Program.fieldsOf; rw [hu]
          rw [run_equalIn_struct w d t _ _ (by rw [hft]; exact hu) (by simpa using hst), hft]
          have l1 := repL_seg_of hx h1
          have l2 := repL_seg_of hy h2
          refine fields_eq (fun t' ks' h' => seg_ok n t' ks' d h' (by omega)) l1 l2 fs.toList 0 ks' r hfs (by simp; omega) (by simp; omega) ?_
          simpa [List.take_take] using h3
        · simp at h
    · rename_i len e hu
      split at h
      · rename_i ks' he
        split at h
        case isFalse => simp at h
        rename_i hsz'
        simp only [Option.some.injEq] at h
        subst h
        have hl : (List.replicate len ks').flatten.length = len * ks'.length := by simp
        rw [hl] at h1 h2 h3
        refine ⟨.agg (cx.extract off (off + len * ks'.length)), .agg (cy.extract off (off + len * ks'.length)), by simp [part, isAgg, underlying_run hu, sizeT_run hsz'], by simp [part, isAgg, underlying_run hu, sizeT_run hsz'], ?_⟩
        have l1 := repL_seg_of hx h1
        have l2 := repL_seg_of hy h2
        have hit := items_eq (seg_ok n e ks' d he (by omega)) l1 l2 len 0 r (by simp; omega) (by simp; omega) (by simpa [List.take_take] using h3)
        simp only [Op.equalIn, Sem.run_bind, underlying_run hu, Result.andThen_ok, sizeT_run (plainEq_size he), Std.Legacy.Range.forIn_eq_forIn_range', Std.Legacy.Range.size, Nat.sub_zero, Nat.add_sub_cancel, Nat.div_one]
        refine (congrArg (Result.andThen · _) hit).trans ?_
        cases r <;> rfl
      · simp at h
    · simp at h

theorem agOk (P : Program) : AgOk P := by
  intro t cx cy xs ys ks r w g T hag hp hx hy he
  obtain ⟨l1, l2⟩ := eqCells_len he
  obtain ⟨px, py, h1, h2, h3⟩ := seg_ok (P := P) (w := w) (g := g) (T := T) 30 t ks 10000 hp (by omega) cx cy xs ys 0 r hx hy (by omega) (by omega) (by rw [List.drop_zero, List.drop_zero, ← l1, List.take_length, l1, ← l2, List.take_length]; exact he)
  have e1 : px = .agg cx := by
    unfold part at h1
    simp only [Sem.run_bind, aggT_run hag, Result.andThen_ok, if_true, sizeT_run (plainEq_size hp), Sem.run_pure, Result.ok.injEq] at h1
    rw [← h1.1, Nat.zero_add, ← l1, ← hx.1, Array.extract_size]
  have e2 : py = .agg cy := by
    unfold part at h2
    simp only [Sem.run_bind, aggT_run hag, Result.andThen_ok, if_true, sizeT_run (plainEq_size hp), Sem.run_pure, Result.ok.injEq] at h2
    rw [← h2.1, Nat.zero_add, ← l2, ← hy.1, Array.extract_size]
  rw [e1, e2] at h3
  exact h3
end
end Go.Abs
