/- Own framework, part 13: append. -/
import Derived.Test.YthglfhnlolefhaaGreatDoorAbsStep7
set_option linter.unusedVariables false
set_option linter.unusedSimpArgs false
set_option linter.unusedSectionVars false
namespace Go.Abs
open Go.RowKit (Below)

section
variable {P : Program} {w : World} {g : Gh} {V : List VO} {T : List Nat} {a : Act} {e : Env} {o : Oper}

/-- What may be appended: m elements, with these cells. -/
structure Src (P : Program) (w : World) (I : Nat → Nat → Prop) (u : TypeId) (size : Nat) (yv : Value) (m : Nat) (ys : List Go.Abs.P) (news : Array Value) : Prop where
  ty : ∃ ud, P.underlying u = some ud ∧ ∀ k, ud ≠ .int k
  len : ∀ w2 : World, (Builtin.lenOf yv).run P w2 = .ok m w2
  run : ∀ w2 : World, (∀ a, w2.cell? a = w.cell? a) → (Builtin.firstCells size m yv).run P w2 = .ok news w2
  sz : news.size = m * size
  rep : m ≠ 0 → RepPL w I news ys

theorem src_str {u : TypeId} {y : Operand} {y' : Opd} {s : ByteArray} (hu : P.underlying u = some .string) (hy : opd y = some y') (he : EnvOk w g T a.tmps e) (hv : ev e y' = .c (.v (.string s))) : ∃ news, Src P w g.I u 1 (a.eval y) s.size (bytesP s.data.toList) news := by
  have h1 := opd_rep he hy
  rw [hv] at h1
  have h2 := rep_sc h1
  refine ⟨s.data.map fun b => .int .u8 b.toNat, ⟨_, hu, fun k => by simp⟩, fun w2 => by simp [h2, Builtin.lenOf], fun w2 hw => ?_, by simp, fun _ => ?_⟩
  · simp only [h2, Builtin.firstCells, Sem.run_pure]
    congr 1
    rw [show (s.extract 0 s.size).data = s.data by simp [ByteArray.data_extract]]
  · refine ⟨by simp [bytesP], fun i hi => ?_⟩
    have hi' : i < s.data.size := by simpa [bytesP] using hi
    simp only [bytesP, byteP, List.getElem_map, Array.getElem_toList, Array.getD_eq_getD_getElem?, Array.getElem?_map, Array.getElem?_eq_getElem hi']
    exact .v rfl
theorem src_sl {u et : TypeId} {size m : Nat} {y : Operand} {y' : Opd} {ys : List Go.Abs.P} (hu : P.underlying u = some (.slice et)) (hy : opd y = some y') (he : EnvOk w g T a.tmps e) (hv : (ev e y').slc = some (m, ys)) (hm : m ≠ 0 → ys.length = m * size) : ∃ news, Src P w g.I u size (a.eval y) m ys news := by
  have h1 := opd_rep he hy
  have hty : ∃ ud, P.underlying u = some ud ∧ ∀ k, ud ≠ .int k := ⟨_, hu, fun k => by simp⟩
  rcases slc_rep h1 hv with ⟨h2, rfl, rfl⟩ | ⟨ad, cap, us, h2, hle, hc, hr⟩
  · exact ⟨#[], hty, fun w2 => by simp [h2, Builtin.lenOf], fun w2 _ => by simp [h2, Builtin.firstCells], by simp, fun h => absurd rfl h⟩
  · by_cases hm0 : m = 0
    · subst hm0
      refine ⟨#[], hty, fun w2 => by simp [h2, Builtin.lenOf], fun w2 _ => ?_, by simp, fun h => absurd rfl h⟩
      simp [h2, Builtin.firstCells, loadCells, loadCellsFrom]
    · have hl := hm hm0
      refine ⟨((List.range (m * size)).map us).toArray, hty, fun w2 => by simp [h2, Builtin.lenOf], fun w2 hw => ?_, by simp, fun _ => ⟨by simp [hl], fun i hi => ?_⟩⟩
      · simp only [h2, Builtin.firstCells]
        exact run_loadCells w2 ad (m * size) us (fun j hj => by rw [hw]; exact hc.cell j (by omega))
      · have hlt : i < m * size := by omega
        have := hr i hi
        simpa [Array.getD_eq_getD_getElem?, hlt] using this

theorem append_room {t u ty et : TypeId} {size n m cap : Nat} {base : Option Addr} {yv : Value} {ys : List Go.Abs.P} {news : Array Value} (ht : P.underlying t = some (.slice et)) (hsz : sizeT P et = some size) (hsrc : Src P w g.I u size yv m ys news) (hle : n + m ≤ cap) :
    (Builtin.append_ #[t, u] ty #[.slice base n cap, yv]).run P w = (match base with
      | some ad => (storeCells (ad.add (n * size)) news.toList).run P w
      | none => .ok () w).andThen fun _ w' => .ok (.slice base (n + m) cap) w' := by
  obtain ⟨ud, hud, hni⟩ := hsrc.ty
  have hmt : (match ud with | .int _ => true | _ => false) = false := by
    cases ud with
    | int k => exact absurd rfl (hni k)
    | _ => rfl
  have hlen := hsrc.len w
  have hrun := hsrc.run w (fun _ => rfl)
  simp only [Builtin.append_, List.getElem?_toArray, List.getElem?_cons_zero, List.getElem?_cons_succ, Sem.run_bind, underlying_run ht, Result.andThen_ok, sizeT_run hsz, underlying_run hud, Sem.run_pure, hmt, Bool.false_eq_true, if_false, hlen, Bool.not_false, if_true, Sem.run_ite, if_pos hle, hrun]
  cases base with
  | none => simp
  | some ad => simp
theorem append_grow {t u ty et : TypeId} {size bytes n m cap : Nat} {base : Option Addr} {yv : Value} {ys : List Go.Abs.P} {news olds : Array Value} {z : List Go.Abs.P} (ht : P.underlying t = some (.slice et)) (hsz : sizeT P et = some size) (hb : bytesT P et = some bytes) (hz : zeroT P et = some z)
    (hsrc : Src P w g.I u size yv m ys news) (hgt : cap < n + m) (hr1 : (n + m) * bytes ≤ room) (hr2 : n + m ≤ room) (hold : ∀ w2 : World, (∀ a, w2.cell? a = w.cell? a) → (Builtin.firstCells size n (.slice base n cap)).run P w2 = .ok olds w2) :
    ∃ zv : Value, zv.cells.size = size ∧ (Builtin.append_ #[t, u] ty #[.slice base n cap, yv]).run P w =
      .ok (.slice (some ⟨w.heap.size, 0, none⟩) (n + m) (grownCap w (n + m) cap et)) (w.drew.alloc (.cells (olds ++ news ++ Builtin.zeroCells zv.cells (grownCap w (n + m) cap et - (n + m))) et)) := by
  obtain ⟨ud, hud, hni⟩ := hsrc.ty
  have hmt : (match ud with | .int _ => true | _ => false) = false := by
    cases ud with
    | int k => exact absurd rfl (hni k)
    | _ => rfl
  obtain ⟨zv, hz1, hz2, hz3⟩ := zeroT_run (P := P) (w := w.drew) hz
  have hlen := hsrc.len w
  have hrun := hsrc.run w.drew (fun _ => rfl)
  have hold' := hold w.drew (fun _ => rfl)
  obtain ⟨i, hi, hbi⟩ : ∃ i, P.info? et = some i ∧ i.bytes = bytes := by
    unfold bytesT at hb
    cases h : P.info? et with
    | none => simp [h] at hb
    | some i => simp only [h, Option.map_some, Option.some.injEq] at hb; exact ⟨i, rfl, hb⟩
  have hti : ∀ w2 : World, (typeInfo et).run P w2 = .ok i w2 := fun w2 => by simp [typeInfo, hi]
  have h63 : ¬ ((n + m : Nat) : Int) > IntKind.i64.max := by
    have : IntKind.i64.max = 9223372036854775807 := by decide
    simp only [room] at hr2
    omega
  have h48 : ¬ Builtin.nextslicecap (n + m) cap * i.bytes > 2 ^ 48 := by
    have := growslice_fits (bytes := i.bytes) hgt (by simp only [room] at hr1; rw [hbi]; omega)
    omega
  have hn : ¬ n + m ≤ cap := by omega
  refine ⟨zv, by rw [hsz] at hz2; exact (Option.some.inj hz2).symm, ?_⟩
  have hc63 : ¬ (((n + m : Nat) : Int) > IntKind.i64.max ∧ (false = true ∨ i.bytes = 0)) := fun h => h63 h.1
  simp only [Builtin.append_, List.getElem?_toArray, List.getElem?_cons_zero, List.getElem?_cons_succ, Sem.run_bind, underlying_run ht, Result.andThen_ok, sizeT_run hsz, underlying_run hud, Sem.run_pure, hmt, Bool.false_eq_true, if_false, hlen, Bool.not_false, if_true, Sem.run_ite, if_neg hn, hti, if_neg h63, if_neg h48,
    run_choose, Question.forced, run_askRoom]
  have e0 : ({ heap := w.heap, tape := w.tape, drawn := w.drawn + 1, os := w.os, output := w.output } : World) = w.drew := rfl
  simp only [false_or]
  have hx : ¬ (((n + m : Nat) : Int) > IntKind.i64.max ∧ i.bytes = 0) := fun h => h63 h.1
  simp only [if_neg hx, Result.andThen_ok, e0, hti, run_askRoom, hold', hrun, hz1, newRow, Sem.run_bind, run_newObj, Sem.run_pure]
  rfl
theorem size_sum {n m c s : Nat} (h : n + m ≤ c) : n * s + m * s + (c - (n + m)) * s = c * s := by
  rw [← Nat.add_mul, ← Nat.add_mul]
  congr 1
  omega
/-- A new row behind an append. -/
theorem row_rep {I : Nat → Nat → Prop} {olds news rest : Array Value} {cs ys : List Go.Abs.P} (h1 : RepPL w I olds cs) (h2 : RepPL w I news ys) : ∀ i (hi : i < (cs ++ ys).length), RepP w I ((olds ++ news ++ rest).getD i undef) (cs ++ ys)[i] := by
  intro i hi
  have hi' : i < cs.length + ys.length := by simpa using hi
  have hs : i < (olds ++ news).size := by have := h1.1; have := h2.1; simp; omega
  have e : (olds ++ news ++ rest).getD i undef = (olds ++ news).getD i undef := by
    simp only [Array.getD_eq_getD_getElem?]
    rw [Array.getElem?_append_left hs]
  rw [e]
  by_cases hc : i < cs.length
  · rw [List.getElem_append_left hc]
    have := h1.2 i hc
    have e2 : (olds ++ news).getD i undef = olds.getD i undef := by
      simp only [Array.getD_eq_getD_getElem?]
      rw [Array.getElem?_append_left (by rw [h1.1]; exact hc)]
    rw [e2]; exact this
  · rw [List.getElem_append_right (by omega)]
    have := h2.2 (i - cs.length) (by omega)
    have e2 : (olds ++ news).getD i undef = news.getD (i - cs.length) undef := by
      simp only [Array.getD_eq_getD_getElem?]
      rw [Array.getElem?_append_right (by rw [h1.1]; omega), h1.1]
    rw [e2]; exact this
theorem sl_cells {n size cap : Nat} {ad : Addr} {us : Nat → Value} {cs : List Go.Abs.P} (hc : Cel w g.I ad cs.length us) (hr : ∀ i (h : i < cs.length), RepP w g.I (us i) cs[i]) (hl : cs.length = n * size) :
    ∃ olds : Array Value, (∀ w2 : World, (∀ a, w2.cell? a = w.cell? a) → (Builtin.firstCells size n (.slice (some ad) n cap)).run P w2 = .ok olds w2) ∧ RepPL w g.I olds cs := by
  refine ⟨((List.range (n * size)).map us).toArray, fun w2 hw => ?_, by simp [hl], fun i hi => ?_⟩
  · simp only [Builtin.firstCells]
    exact run_loadCells w2 ad (n * size) us (fun j hj => by rw [hw]; exact hc.cell j (by omega))
  · have hlt : i < n * size := by omega
    have := hr i hi
    simpa [Array.getD_eq_getD_getElem?, hlt] using this
section
variable {t u et : TypeId} {x y : Operand} {x' y' : Opd} {size bytes m : Nat} {ys : List Go.Abs.P}
  (hop : o.op = .call { callee := .builtin .append, args := #[x, y], argTypes := #[t, u] }) (ht : P.underlying t = some (.slice et)) (hsz : sizeT P et = some size) (hb : bytesT P et = some bytes) {z : List Go.Abs.P} (hz : zeroT P et = some z)
  (hx : opd x = some x') (he : EnvOk w g T a.tmps e) {news : Array Value} (hsrc : Src P w g.I u size (a.eval y) m ys news) (hS : Sim w g V T)
include hop ht hsz hb hz hx he hsrc hS
theorem st_app_none {n : Nat} {cs : List Go.Abs.P} (hm : m = 0) (hv : (ev e x').slc = some (n, cs)) : StG P w g T a o (ev e x') V T := by
  subst hm
  have h1 := opd_rep he hx
  have hn0 : news = #[] := by
    have := hsrc.sz
    simp at this
    exact this
  subst hn0
  refine ⟨w, a.eval x, .inl ?_, got_same hS h1⟩
  rcases slc_rep h1 hv with ⟨h2, rfl, rfl⟩ | ⟨ad, cap, us, h2, hle, _⟩
  · have h3 := append_room (ty := o.type) (base := none) (n := 0) (cap := 0) ht hsz hsrc (Nat.le_refl _)
    simp only [execOp, hop, resolve, List.map_toArray, List.map_cons, List.map_nil, Sem.run_bind, Sem.run_pure, Result.andThen_ok, invoke, builtin, h2, h3]
  · have h3 := append_room (ty := o.type) (base := some ad) (n := n) (cap := cap) ht hsz hsrc (by omega)
    simp only [execOp, hop, resolve, List.map_toArray, List.map_cons, List.map_nil, Sem.run_bind, Sem.run_pure, Result.andThen_ok, invoke, builtin, h2, h3, storeCells]
    rfl
theorem st_app_tp {n : Nat} {cs : List Go.Abs.P} (hs0 : 0 < size) (hm : m ≠ 0) (hv : ev e x' = .fs n cs) (hr1 : (n + m) * bytes ≤ room) (hr2 : n + m ≤ room) (hl : cs.length = n * size) (hly : ys.length = m * size) :
    StG P w g T a o (.ow T.length 0 (n + m) (cs ++ ys)) V (T ++ [0]) := by
  have h1 := opd_rep he hx
  rw [hv] at h1
  have hslc : SlR w g.I (a.eval x) n cs := slc_rep h1 rfl
  have hval : ∃ base, a.eval x = .slice base n n ∧ ∃ olds : Array Value, (∀ w2 : World, (∀ a, w2.cell? a = w.cell? a) → (Builtin.firstCells size n (.slice base n n)).run P w2 = .ok olds w2) ∧ RepPL w g.I olds cs := by
    generalize a.eval x = xv at h1
    cases h1 with
    | fsnil => exact ⟨none, rfl, #[], fun w2 _ => by simp [Builtin.firstCells], by simp [RepPL]⟩
    | fs hB hc hr => exact ⟨_, rfl, sl_cells hc hr hl⟩
  obtain ⟨base, h2, olds, h3, h4⟩ := hval
  obtain ⟨zv, h5, h6⟩ := append_grow (ty := o.type) ht hsz hb hz hsrc (show n < n + m by omega) hr1 hr2 h3
  have hge := grownCap_ge w (n + m) n et
  have hbel : Below w.heap.size w (w.drew.alloc (.cells (olds ++ news ++ Builtin.zeroCells zv.cells (grownCap w (n + m) n et - (n + m))) et)) := (Below.drew (Below.refl _ _)).alloc (Nat.le_refl _) _
  obtain ⟨g', k1, k2, k3, k4⟩ := got_tp (n := n + m) (cap := grownCap w (n + m) n et) (esz := size) (ps := cs ++ ys) hS hbel (alloc_heap (w := w.drew) _) (Nat.le_refl _) hs0
    (by simp only [Array.size_append, size_zeroCells, h4.1, hsrc.sz, h5, hl]; exact size_sum hge) hge (by simp only [List.length_append, hl, hly, Nat.add_mul]) (unfz _) (row_rep h4 (hsrc.rep hm))
  refine ⟨_, _, .inl ?_, g', k1, k2, k3, k4⟩
  simp only [execOp, hop, resolve, List.map_toArray, List.map_cons, List.map_nil, Sem.run_bind, Sem.run_pure, Result.andThen_ok, invoke, builtin, h2, h6]
  rfl
theorem st_app_tw {id ver n : Nat} {cs : List Go.Abs.P} (hs0 : 0 < size) (hv : ev e x' = .ow id ver n cs) (hk : T[id]? = some ver) (hn0 : n ≠ 0) (hr1 : (n + m) * bytes ≤ room) (hr2 : n + m ≤ room) (hl : cs.length = n * size) (hly : ys.length = m * size) :
    StG P w g T a o (.ow id (ver + 1) (n + m) (cs ++ ys)) V (T.set id (ver + 1)) := by
  have h1 := opd_rep he hx
  rw [hv] at h1
  have hval : ∃ (tg : TG) (us : Nat → Value), g.τ[id]? = some tg ∧ a.eval x = .slice (some ⟨tg.blk, 0, none⟩) n tg.cap ∧ n = tg.n ∧ cs.length = n * tg.esz ∧ Cel w g.I ⟨tg.blk, 0, none⟩ cs.length us ∧ ∀ i (h : i < cs.length), RepP w g.I (us i) cs[i] := by
    generalize a.eval x = xv at h1
    cases h1 with
    | ow hn hc hr ht =>
      obtain ⟨k, h2, h3, h4⟩ := ht
      rw [hk] at h2
      obtain ⟨tg, h5, rfl, h6, rfl, h8⟩ := h4 (Option.some.inj h2).symm
      exact ⟨tg, _, h5, rfl, h6, h8, hc, hr⟩
  obtain ⟨tg, us, ht1, h2, hntg, h8, hc, hr⟩ := hval
  have hesz : tg.esz = size := by
    have : n * tg.esz = n * size := by omega
    exact Nat.eq_of_mul_eq_mul_left (Nat.pos_of_ne_zero hn0) this
  obtain ⟨hz0, hncap, arr, aty, afr, hh, harr, hfr⟩ := hS.tok id tg ht1
  have hid : id < T.length := (List.getElem?_eq_some_iff.1 hk).1
  have hrep2 : RepPL w g.I news ys := by
    by_cases hm : m = 0
    · subst hm
      have e1 : ys = [] := by simpa using hly
      have e2 : news = #[] := by have := hsrc.sz; simpa using this
      subst e1 e2
      simp [RepPL]
    · exact hsrc.rep hm
  by_cases hroom : n + m ≤ tg.cap
  · -- in place
    have h3 := append_room (ty := o.type) (base := some ⟨tg.blk, 0, none⟩) (n := n) (cap := tg.cap) ht hsz hsrc hroom
    have hmul : n * size + m * size ≤ tg.cap * size := by rw [← Nat.add_mul]; exact Nat.mul_le_mul_right _ hroom
    have hnones : ∀ v ∈ news.toList, v.oneCell' = true := by
      intro v hv
      obtain ⟨i, hi⟩ := List.getElem?_of_mem hv
      have hlt : i < news.size := by have := (List.getElem?_eq_some_iff.1 hi).1; simpa using this
      have := repP_one (hrep2.2 i (by rw [← hrep2.1]; exact hlt))
      rw [Array.getElem?_toList] at hi
      simpa [Array.getD_eq_getD_getElem?, hi] using this
    have hnl : news.toList.length = m * size := by simpa using hsrc.sz
    have hrun := run_storeCells_cells (P := P) tg.blk (n * size) news.toList 0 w
      (fun j hj => by rw [Nat.add_zero, cell_arr hh, getD_some (by rw [harr, hesz]; omega)]; rfl)
      (fun j hj => by
        have hlt : n * size + 0 + j < arr.size := by rw [harr, hesz]; omega
        have := hfr.not hlt
        simp only [World.frozen?, hh]
        simpa using this) hnones
    rw [Nat.add_zero] at hrun
    obtain ⟨g5, g6, g7, g8, g9, g10⟩ := setCells_heap tg.blk news.toList (n * size) w arr aty afr hh
    have hsame : ∀ i, i < n * size → (segA arr (n * size) news.toList)[i]? = arr[i]? := fun i hi => by rw [segA_get, if_neg (by omega)]
    obtain ⟨k1, k2, k3⟩ := hS.setTok (w' := w.setCells tg.blk (n * size) news.toList) (tg' := ⟨tg.blk, n + m, tg.cap, tg.esz⟩) ht1 hk (.inl rfl)
      (fun _ => Nat.mul_le_mul_right _ (by show tg.n ≤ n + m; omega)) (fun k _ hk2 => g6 k hk2) (by rw [g7]; exact Nat.le_refl _) ⟨g8, g9, g10⟩
      (fun q hq => by
        have := hS.it tg.blk q id tg hq ht1 rfl
        rw [cell_arr g5, cell_arr hh, hsame q (by rw [← hntg, hesz] at this; exact this)])
      ⟨hz0, hroom, _, aty, afr, g5, by rw [segA_size]; exact harr, by rw [segA_size]; exact hfr⟩
    refine ⟨_, .slice (some ⟨tg.blk, 0, none⟩) (n + m) tg.cap, .inl ?_, _, k1, k2, ?_, k3⟩
    · have hadd : (⟨tg.blk, 0, none⟩ : Addr).add (n * size) = ⟨tg.blk, n * size, none⟩ := by rw [add0, Nat.zero_add]
      simp only [execOp, hop, resolve, List.map_toArray, List.map_cons, List.map_nil, Sem.run_bind, Sem.run_pure, Result.andThen_ok, invoke, builtin, h2, h3, hadd, hrun]
    · refine .ow (us := fun i => (segA arr (n * size) news.toList).getD (0 + i) undef) hroom (cel_arr g5 (by rw [segA_size, harr, hesz]; simp only [List.length_append]; omega) (fun i hi => .inr ⟨rfl, ?_⟩)) (fun i hi => ?_)
        ⟨ver + 1, by rw [List.getElem?_set_self hid], Nat.le_refl _, fun _ => ⟨⟨tg.blk, n + m, tg.cap, tg.esz⟩, ?_, rfl, rfl, rfl, ?_⟩⟩
      · simp only [List.length_append] at hi
        show 0 + i < (n + m) * tg.esz
        rw [hesz, Nat.add_mul]; omega
      · rw [Nat.zero_add]
        have hi' : i < cs.length + ys.length := by simpa using hi
        by_cases hc2 : i < cs.length
        · rw [List.getElem_append_left hc2]
          have e1 := hc.cell i hc2
          rw [add0, Nat.zero_add, cell_arr hh] at e1
          have e2 : (segA arr (n * size) news.toList).getD i undef = us i := by
            simp only [Array.getD_eq_getD_getElem?]
            rw [hsame i (by omega), e1]
            rfl
          rw [e2]
          exact (hr i hc2).mono k1.imm
        · rw [List.getElem_append_right (by omega)]
          have e2 : (segA arr (n * size) news.toList).getD i undef = news.getD (i - cs.length) undef := by
            simp only [Array.getD_eq_getD_getElem?]
            rw [segA_get, if_pos ⟨by omega, by omega, by rw [harr, hesz]; omega⟩, Array.getElem?_toList, hl]
          rw [e2]
          exact (hrep2.2 _ (by omega)).mono k1.imm
      · show (g.τ.set id _)[id]? = _
        rw [List.getElem?_set_self (List.getElem?_eq_some_iff.1 ht1).1]
      · simp only [List.length_append, hl, hly, hesz, Nat.add_mul]
  · -- a new row
    obtain ⟨olds, h3, h4⟩ := sl_cells (P := P) (size := size) (n := n) (cap := tg.cap) hc hr hl
    obtain ⟨zv, h5, h6⟩ := append_grow (ty := o.type) ht hsz hb hz hsrc (show tg.cap < n + m by omega) hr1 hr2 h3
    have hge := grownCap_ge w (n + m) tg.cap et
    let w' := w.drew.alloc (.cells (olds ++ news ++ Builtin.zeroCells zv.cells (grownCap w (n + m) tg.cap et - (n + m))) et)
    have hbel : Below w.heap.size w w' := (Below.drew (Below.refl _ _)).alloc (Nat.le_refl _) _
    have hnew : w'.heap[w.heap.size]? = _ := alloc_heap (w := w.drew) _
    have hsize : (olds ++ news ++ Builtin.zeroCells zv.cells (grownCap w (n + m) tg.cap et - (n + m))).size = grownCap w (n + m) tg.cap et * size := by
      simp only [Array.size_append, size_zeroCells, h4.1, hsrc.sz, h5, hl]; exact size_sum hge
    have htlt := hS.τlt ht1
    obtain ⟨k1, k2, k3⟩ := hS.setTok (w' := w') (tg' := ⟨w.heap.size, n + m, grownCap w (n + m) tg.cap et, size⟩) ht1 hk (.inr (Nat.le_refl _))
      (fun e => by simp only at e; omega) (fun k hk1 _ => hbel.block k hk1) hbel.size ⟨hbel.os, hbel.tape, hbel.output⟩
      (fun q hq => cell_block hbel.block htlt) ⟨hs0, hge, _, et, (0, 0), hnew, hsize, unfz _⟩
    refine ⟨w', .slice (some ⟨w.heap.size, 0, none⟩) (n + m) (grownCap w (n + m) tg.cap et), .inl ?_, _, k1, k2, ?_, k3⟩
    · simp only [execOp, hop, resolve, List.map_toArray, List.map_cons, List.map_nil, Sem.run_bind, Sem.run_pure, Result.andThen_ok, invoke, builtin, h2, h6]
      rfl
    · have hlen : (cs ++ ys).length = (n + m) * size := by simp only [List.length_append, hl, hly, Nat.add_mul]
      have hle : (n + m) * size ≤ grownCap w (n + m) tg.cap et * size := Nat.mul_le_mul_right _ hge
      refine .ow (us := fun i => (olds ++ news ++ Builtin.zeroCells zv.cells (grownCap w (n + m) tg.cap et - (n + m))).getD (0 + i) undef) hge (cel_arr hnew (by rw [hsize]; omega) (fun i hi => .inr ⟨rfl, ?_⟩)) (fun i hi => ?_)
        ⟨ver + 1, by rw [List.getElem?_set_self hid], Nat.le_refl _, fun _ => ⟨⟨w.heap.size, n + m, grownCap w (n + m) tg.cap et, size⟩, ?_, rfl, rfl, rfl, hlen⟩⟩
      · show 0 + i < (n + m) * size
        omega
      · rw [Nat.zero_add]
        exact (row_rep h4 hrep2 i hi).mono k1.imm
      · show (g.τ.set id _)[id]? = _
        rw [List.getElem?_set_self (List.getElem?_eq_some_iff.1 ht1).1]
end
end
end Go.Abs
