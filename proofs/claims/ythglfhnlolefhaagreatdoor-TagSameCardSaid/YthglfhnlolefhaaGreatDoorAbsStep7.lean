/- Own framework, part 12: append, make, strings as bytes, slices of an array variable, max, min, panic. -/
import Derived.Test.YthglfhnlolefhaaGreatDoorAbsStep6
set_option linter.unusedVariables false
set_option linter.unusedSimpArgs false
namespace Go.Abs
open Go.RowKit (Below)

section
variable {P : Program} {w : World} {g : Gh} {V : List VO} {T : List Nat} {a : Act} {e : Env} {o : Oper}

/-! ### max, min -/
theorem foldlM_run {f : D → D → Option D} {m : Value → Value → Sem Value} (hm : ∀ u v x y d, RepD w g T u x → RepD w g T v y → f x y = some d → ∃ r, (m u v).run P w = .ok r w ∧ RepD w g T r d) :
    ∀ (ds : List D) (vs : List Value) (x : D) (u : Value) (d : D), vs.length = ds.length → (∀ i (h : i < ds.length) (h' : i < vs.length), RepD w g T vs[i] ds[i]) → RepD w g T u x → foldO f x ds = some d → ∃ r, (vs.foldlM m u).run P w = .ok r w ∧ RepD w g T r d
  | [], vs, x, u, d, hl, hr, hu, hd => by
    cases vs with
    | nil => simp only [foldO, Option.some.injEq] at hd; subst hd; exact ⟨u, rfl, hu⟩
    | cons => simp at hl
  | y :: ds, vs, x, u, d, hl, hr, hu, hd => by
    cases vs with
    | nil => simp at hl
    | cons v vs =>
      simp only [foldO] at hd
      cases hf : f x y with
      | none => simp [hf] at hd
      | some z =>
        simp only [hf] at hd
        obtain ⟨r, h1, h2⟩ := hm u v x y z hu (hr 0 (by simp) (by simp)) hf
        obtain ⟨r2, h3, h4⟩ := foldlM_run hm ds vs z r d (by simpa using hl) (fun i h h' => hr (i + 1) (by simpa using h) (by simpa using h')) h2 hd
        exact ⟨r2, by simp [List.foldlM_cons, h1, h3], h4⟩
theorem yl_mx {xs : Array Operand} {ts : Array TypeId} {x' : Opd} {ys : List Opd} {d : D} (hop : o.op = .call { callee := .builtin .max, args := xs, argTypes := ts }) (hx : opds xs.toList = some (x' :: ys)) (he : EnvOk w g T a.tmps e)
    (hd : foldO max2D (ev e x') (ys.map (ev e)) = some d) : Yl P w g T a o d := by
  obtain ⟨hl, hr⟩ := opds_rep he hx
  obtain ⟨x, r, hxs⟩ : ∃ x r, xs.toList = x :: r := by
    cases h : xs.toList with
    | nil => rw [h] at hx; simp [opds, mapO] at hx
    | cons x r => exact ⟨x, r, rfl⟩
  rw [hxs] at hl hr
  have h0 := hr 0 (by simp)
  simp at h0
  obtain ⟨v, h1, h2⟩ := foldlM_run (P := P) (m := Builtin.max2) (f := max2D) (fun u v x y d hu hv h => by
      unfold max2D at h
      split at h
      · simp only [Option.some.injEq] at h
        subst h
        exact ⟨_, by rw [rep_sc hu, rep_sc hv]; rfl, sc_rep rfl⟩
      · simp at h) (ys.map (ev e)) (r.map a.eval) (ev e x') (a.eval x) d (by simp at hl ⊢; omega) (fun i h h' => by
      have := hr (i + 1) (by simpa using h)
      simp at h'
      simpa [Array.getD_eq_getD_getElem?, h'] using this) h0 hd
  refine ⟨v, ?_, h2⟩
  have e1 : (xs.map a.eval).toList = a.eval x :: r.map a.eval := by simp [hxs]
  simp only [execOp, hop, resolve, invoke, builtin, Builtin.max_, Sem.run_bind, Sem.run_pure, Result.andThen_ok, e1, h1]
theorem yl_mn {xs : Array Operand} {ts : Array TypeId} {x' : Opd} {ys : List Opd} {d : D} (hop : o.op = .call { callee := .builtin .min, args := xs, argTypes := ts }) (hx : opds xs.toList = some (x' :: ys)) (he : EnvOk w g T a.tmps e)
    (hd : foldO min2D (ev e x') (ys.map (ev e)) = some d) : Yl P w g T a o d := by
  obtain ⟨hl, hr⟩ := opds_rep he hx
  obtain ⟨x, r, hxs⟩ : ∃ x r, xs.toList = x :: r := by
    cases h : xs.toList with
    | nil => rw [h] at hx; simp [opds, mapO] at hx
    | cons x r => exact ⟨x, r, rfl⟩
  rw [hxs] at hl hr
  have h0 := hr 0 (by simp)
  simp at h0
  obtain ⟨v, h1, h2⟩ := foldlM_run (P := P) (m := Builtin.min2) (f := min2D) (fun u v x y d hu hv h => by
      unfold min2D at h
      split at h
      · simp only [Option.some.injEq] at h
        subst h
        exact ⟨_, by rw [rep_sc hu, rep_sc hv]; rfl, sc_rep rfl⟩
      · simp at h) (ys.map (ev e)) (r.map a.eval) (ev e x') (a.eval x) d (by simp at hl ⊢; omega) (fun i h h' => by
      have := hr (i + 1) (by simpa using h)
      simp at h'
      simpa [Array.getD_eq_getD_getElem?, h'] using this) h0 hd
  refine ⟨v, ?_, h2⟩
  have e1 : (xs.map a.eval).toList = a.eval x :: r.map a.eval := by simp [hxs]
  simp only [execOp, hop, resolve, invoke, builtin, Builtin.min_, Sem.run_bind, Sem.run_pure, Result.andThen_ok, e1, h1]

/-! ### make of a known size -/
theorem st_mks {t et : TypeId} {n : Int} {s b : Nat} {z : List Go.Abs.P} (hop : o.op = .makeSlice t (.const (.int .i64 n)) (.const (.int .i64 n))) (hu : P.underlying t = some (.slice et)) (hsz : sizeT P et = some s) (hb : bytesT P et = some b) (hz : zeroT P et = some z)
    (hn : 0 ≤ n) (hs0 : s ≠ 0) (hbn : b * n ≤ 2 ^ 40) (hlim : n.toNat ≤ 2 ^ 20) (hzl : z.length = s) (hs : Sim w g V T) : StG P w g T a o (.fs n.toNat (List.replicate n.toNat z).flatten) V T := by
  obtain ⟨zv, h1, h2, h3⟩ := zeroT_run (P := P) (w := w) hz
  have hp := cellPL_rep (w := w) h3 g.I
  have hp' : RepPL w g.I zv.cells z := by simpa using hp
  obtain ⟨i, hi, hbi⟩ : ∃ i, P.info? et = some i ∧ i.bytes = b := by
    unfold bytesT at hb
    cases h : P.info? et with
    | none => simp [h] at hb
    | some i => simp only [h, Option.map_some, Option.some.injEq] at hb; exact ⟨i, rfl, hb⟩
  have hw : IntKind.i64.wrap n = n := by
    have : n ≤ 2 ^ 20 := by omega
    simp only [IntKind.wrap, IntKind.bits, IntKind.signed]
    simp
    omega
  have hzero : ∃ zs : Array Value, ((n.toNat * s = 0 ∧ zs = #[]) ∨ (n.toNat * s ≠ 0 ∧ zs = zv.cells)) ∧ RepPL w g.I ((Array.range (n.toNat * s)).map fun i => zs[i % zs.size]!) (List.replicate n.toNat z).flatten := by
    by_cases h0 : n.toNat * s = 0
    · have hn : n.toNat = 0 := by
        rcases Nat.eq_zero_or_pos n.toNat with h | h
        · exact h
        · have := Nat.mul_pos h (Nat.pos_of_ne_zero hs0); omega
      rw [hn]
      refine ⟨#[], .inl ⟨by simp, rfl⟩, by simp [RepPL]⟩
    · exact ⟨zv.cells, .inr ⟨h0, rfl⟩, zeros_rep hp' (by rw [hzl]) (by omega)⟩
  obtain ⟨zs, hz1, hz2⟩ := hzero
  refine ⟨w.alloc (.cells ((Array.range (n.toNat * s)).map fun i => zs[i % zs.size]!) et), .slice (some ⟨w.heap.size, 0, none⟩) n.toNat n.toNat, .inl ?_, got_fs hs (alloc_below _) (alloc_heap _) (Nat.le_refl _) (by rw [hz2.1]; exact Nat.le_refl _) hz2.2⟩
  have hk : a.eval (.const (.int .i64 n)) = .int .i64 n := rfl
  have hbig : ¬ ((i.bytes : Int) * n > 2 ^ 48) := by rw [hbi]; omega
  have hti : (typeInfo et).run P w = .ok i w := by simp [typeInfo, hi]
  simp only [execOp, hop, hk, Instr.makeSlice, Sem.run_bind, underlying_run hu, Result.andThen_ok, asInt, asIntOf, Sem.run_pure, hti, hw]
  have hcond : ¬ ((decide (n < 0) || decide ((i.bytes : Int) * n > 2 ^ 48) || decide (n < 0) || decide (n > n)) = true) := by
    simp; omega
  simp only [Sem.run_ite, if_neg hcond, Sem.run_bind, run_askRoom, Result.andThen_ok, sizeT_run hsz, Sem.run_pure]
  rcases hz1 with ⟨h0, rfl⟩ | ⟨h0, rfl⟩
  · rw [if_pos h0]
    simp only [Result.andThen_ok, Sem.run_bind, newRow, run_newObj, Sem.run_pure]
    rfl
  · rw [if_neg h0, h1]
    simp only [Result.andThen_ok, Sem.run_bind, newRow, run_newObj, Sem.run_pure]
    rfl

/-! ### a string as bytes -/
theorem freeze_heap {b n : Nat} {arr : Array Value} {t : TypeId} {fr : Nat × Nat} (h : w.heap[b]? = some (.cells arr t fr)) (hf : Unf arr.size fr) (hn : n = arr.size) :
    ∃ fr', (w.freeze ⟨b, n, none⟩ 1).heap[b]? = some (.cells arr t fr') ∧ Unf arr.size fr' ∧ (∀ k, k ≠ b → (w.freeze ⟨b, n, none⟩ 1).heap[k]? = w.heap[k]?) ∧
      (w.freeze ⟨b, n, none⟩ 1).heap.size = w.heap.size ∧ (w.freeze ⟨b, n, none⟩ 1).os = w.os ∧ (w.freeze ⟨b, n, none⟩ 1).tape = w.tape ∧ (w.freeze ⟨b, n, none⟩ 1).output = w.output := by
  obtain ⟨lo, hi⟩ := fr
  refine ⟨if lo == hi then (n, n + 1) else (min lo n, max hi (n + 1)), ?_, ?_, ?_, ?_, rfl, rfl, rfl⟩
  · simp [World.freeze, Array.getElem?_modify, h]
  · by_cases hc : lo = hi
    · simp only [hc, beq_self_eq_true, if_true]
      exact .inr (by simp; omega)
    · have : (lo == hi) = false := by simpa using hc
      simp only [this, Bool.false_eq_true, if_false]
      rcases hf with hf | hf
      · exact absurd hf hc
      · exact .inr (by simp at hf ⊢; omega)
  · intro k hk
    simp [World.freeze, Array.getElem?_modify, Ne.symm hk]
  · simp [World.freeze]
theorem st_s2b {src dst et : TypeId} {x : Operand} {x' : Opd} {s : ByteArray} (hop : o.op = .convert src dst x) (hs : P.underlying src = some .string) (hd : P.underlying dst = some (.slice et)) (hse : P.underlying et = some (.int .u8)) (hx : opd x = some x') (he : EnvOk w g T a.tmps e)
    (hv : ev e x' = .c (.v (.string s))) (hS : Sim w g V T) : StG P w g T a o (.ow T.length 0 s.size (bytesP s.data.toList)) V (T ++ [0]) := by
  have h1 := opd_rep he hx
  rw [hv] at h1
  let cap := grownCap w s.size 0 et
  have hcap : s.size ≤ cap := grownCap_ge w s.size 0 et
  let arr : Array Value := s.data.map (fun b => Value.int .u8 b.toNat) ++ Array.replicate (cap - s.size) (.int .u8 0)
  have hsz : arr.size = cap := by
    have : s.data.size = s.size := rfl
    simp [arr, this]; omega
  let w1 : World := w.drew.alloc (.cells arr et)
  have hh1 : w1.heap[w.heap.size]? = some (.cells arr et (0, 0)) := alloc_heap (w := w.drew) _
  obtain ⟨fr', k1, k2, k3, k4, k5, k6, k7⟩ := freeze_heap (w := w1) (n := arr.size) hh1 (unfz _) rfl
  let w' := w1.freeze ⟨w.heap.size, arr.size, none⟩ 1
  have hbel : Below w.heap.size w w' := by
    have hb1 : Below w.heap.size w w1 := (Below.drew (Below.refl _ _)).alloc (Nat.le_refl _) _
    refine ⟨k5.trans hb1.os, k6.trans hb1.tape, k7.trans hb1.output, by show w.heap.size ≤ w'.heap.size; rw [show w'.heap.size = w1.heap.size from k4]; exact hb1.size, fun k hk => ?_⟩
    rw [show w'.heap[k]? = w1.heap[k]? from k3 k (by omega)]
    exact hb1.block k hk
  have hrep : ∀ i (hi : i < (bytesP s.data.toList).length), RepP w g.I (arr.getD i undef) (bytesP s.data.toList)[i] := by
    intro i hi
    have hi' : i < s.data.size := by simpa [bytesP] using hi
    have : arr.getD i undef = .int .u8 (s.data[i]).toNat := by
      simp only [arr, Array.getD_eq_getD_getElem?]
      rw [Array.getElem?_append_left (by simpa using hi'), Array.getElem?_map, Array.getElem?_eq_getElem hi']
      rfl
    rw [this]
    simp only [bytesP, byteP, List.getElem_map, Array.getElem_toList]
    exact .v rfl
  have hlen : (bytesP s.data.toList).length = s.size * 1 := by simp [bytesP]
  obtain ⟨g', h5, h6, h7, h8⟩ := got_tp (esz := 1) hS hbel k1 (Nat.le_refl _) (by omega) (by omega) hcap hlen k2 hrep
  refine ⟨w', _, .inl ?_, g', h5, h6, h7, h8⟩
  have hsh : w1.shape? w.heap.size = some (et, arr.size) := by simp [World.shape?, hh1]
  simp only [execOp, hop, rep_sc h1, convert, Sem.run_bind, underlying_run hs, underlying_run hd, underlying_run hse, Result.andThen_ok, Conv.stringToBytes, run_choose, Question.forced, Bool.false_eq_true, if_false, newRow, run_newObj, Sem.run_pure]
  have e1 : Question.cut (.appendCap s.size 0 et) (w.tape w.drawn (.appendCap s.size 0 et)) = cap := rfl
  rw [e1]
  have e2 : ({ heap := Array.push w.heap (.cells (s.data.map (fun b => Value.int .u8 b.toNat) ++ Array.replicate (cap - s.size) (.int .u8 0)) et), tape := w.tape, drawn := w.drawn + 1, os := w.os, output := w.output } : World) = w1 := rfl
  rw [e2]
  simp only [markStringish, Sem.run_bind, run_shape, Result.andThen_ok, hsh, run_freeze, Sem.run_pure]
  rfl
end
end Go.Abs
