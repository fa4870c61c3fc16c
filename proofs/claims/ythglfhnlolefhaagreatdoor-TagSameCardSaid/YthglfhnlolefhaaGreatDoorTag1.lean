/- Own: tag.Same, on pure data (prototype). -/
import Derived.Test.YthglfhnlolefhaaGreatDoorCodeTag
import Derived.Test.YthglfhnlolefhaaGreatDoorGet
set_option linter.unusedSimpArgs false
set_option linter.unusedVariables false
namespace Go.Proofs.YthglfhnlolefhaaGreatDoor
open Go.Abs

set_option maxHeartbeats 1000000 in
theorem run68 (a b : List UInt8) : callV orcA F 68 [byD a, byD b] = some (.ret (boD (a == b))) := by
  refine callV_ret tr68 ?_
  simp only [c68, toList_mk, DrwE_nil, DrwE_plain, DrwE_guard, GdE_true, GdE_false, DcE_q, DcE_push, DcE_rd, drdE, dcallE, Ex_seq, Ex_reg, Ex_ret, Ex_skip, Ex_exit, Ex_block, Ex_cond', condE_true, condE_false, loopQ_nrm, loopQ_ret, loopQ_ext, blockQ_nrm, blockQ_ret, blockQ_ext, OpsE_plain, OpsE_guard, OpsE_nil, GuE_true, GuE_false, guardD, act, callA, ev, upd, putE, AcE_q, AcE_push, AcE_rd', AcE_wr', rdE, wrE, initE, thenQ_nrm, thenQ_ret, thenQ_ext, retQ, qo_s, convD, D.slc, unBytes_bytesP, bytesP_length, binD, scD, blD, scBin, blBin, strBin, intBin, ressD, mapO, resD, D.frz, frzL, frz_cells, D.closed, closedL, closed_cells, mkV_true, gt0, gtk, st0, stk, List.append_assoc, List.length_append, D.fits, D.cells, partD, mkV_false, setAt, iadD, asI, List.map_cons, List.map_nil, List.getElem?_cons_zero, List.getElem?_cons_succ, List.getElem?_nil, List.length_cons, List.length_nil, List.drop_succ_cons, List.drop_zero, List.take_succ_cons, List.take_zero, List.nil_append, List.cons_append, List.set_cons_zero, List.set_cons_succ, Nat.reduceAdd, Nat.reduceLeDiff, Nat.reduceEqDiff, Nat.reduceBEq, beq_iff_eq, reduceCtorEq, ↓reduceIte, Option.map_some, Option.some.injEq, Bool.true_and, Bool.false_and, Bool.and_true, Bool.and_self, Bool.and_false, Bool.or_self, Bool.false_eq_true, b_ff, b_ft, b_tf, b_tt, Bool.not_true, Bool.not_false, BEq.rfl, decide_true, decide_false, Nat.le_refl, callE, zD, snilD, inilD, tasD, fnilD, AcE_tp, AcE_tw, twE, DcE_tp, appD, appSrc, fillD, fillP, D.pcells, cellPure, thenQ_pan, blockQ_pan, loopQ_pan, cntQ_nrm, cntQ_ret, cntQ_ext, cntQ_pan, indQ_nrm, indQ_ret, indQ_ext, indQ_pan, resQ, panQ_pan, rawQ, unD, and_self, and_true, true_and, not_true_eq_false, not_false_eq_true, orcA]
set_option maxHeartbeats 1000000 in
theorem run113 (i1 i2 o1 o2 : Bool) (a1 a2 : List UInt8) : callV orcA F 113 [.ag [boD i1, boD o1, byD a1], .ag [boD i2, boD o2, byD a2]] = some (.ret (boD (i1 == i2 && o1 == o2 && a1 == a2))) := by
  refine callV_ret tr113 ?_
  cases hi : (i1 == i2) <;> cases ho : (o1 == o2) <;> simp only [c113, hi, ho, DrwE_nil, DrwE_plain, DrwE_guard, GdE_true, GdE_false, DcE_q, DcE_push, DcE_rd, drdE, dcallE, Ex_seq, Ex_reg, Ex_ret, Ex_skip, Ex_exit, Ex_block, Ex_cond', condE_true, condE_false, loopQ_nrm, loopQ_ret, loopQ_ext, blockQ_nrm, blockQ_ret, blockQ_ext, OpsE_plain, OpsE_guard, OpsE_nil, GuE_true, GuE_false, guardD, act, callA, ev, upd, putE, AcE_q, AcE_push, AcE_rd', AcE_wr', rdE, wrE, initE, thenQ_nrm, thenQ_ret, thenQ_ext, retQ, qo_s, convD, D.slc, unBytes_bytesP, bytesP_length, binD, scD, blD, scBin, blBin, strBin, intBin, ressD, mapO, resD, D.frz, frzL, frz_cells, D.closed, closedL, closed_cells, mkV_true, gt0, gtk, st0, stk, List.append_assoc, List.length_append, D.fits, D.cells, partD, mkV_false, setAt, iadD, asI, List.map_cons, List.map_nil, List.getElem?_cons_zero, List.getElem?_cons_succ, List.getElem?_nil, List.length_cons, List.length_nil, List.drop_succ_cons, List.drop_zero, List.take_succ_cons, List.take_zero, List.nil_append, List.cons_append, List.set_cons_zero, List.set_cons_succ, Nat.reduceAdd, Nat.reduceLeDiff, Nat.reduceEqDiff, Nat.reduceBEq, beq_iff_eq, reduceCtorEq, ↓reduceIte, Option.map_some, Option.some.injEq, Bool.true_and, Bool.false_and, Bool.and_true, Bool.and_self, Bool.and_false, Bool.or_self, Bool.false_eq_true, b_ff, b_ft, b_tf, b_tt, Bool.not_true, Bool.not_false, BEq.rfl, decide_true, decide_false, Nat.le_refl, callE, zD, snilD, inilD, tasD, fnilD, AcE_tp, AcE_tw, twE, DcE_tp, appD, appSrc, fillD, fillP, D.pcells, cellPure, thenQ_pan, blockQ_pan, loopQ_pan, cntQ_nrm, cntQ_ret, cntQ_ext, cntQ_pan, indQ_nrm, indQ_ret, indQ_ext, indQ_pan, resQ, panQ_pan, rawQ, unD, and_self, and_true, true_and, not_true_eq_false, not_false_eq_true, orcA, AcE_call, run68]
abbrev u8D (n : Int) : D := .c (.v (.int .u8 n))
abbrev inD (n : Int) : D := .c (.v (.int .i64 n))
set_option maxHeartbeats 1000000 in
theorem run69 (m1 m2 : Int) (i1 i2 o1 o2 j1 j2 p1 p2 : Bool) (a1 a2 b1 b2 : List UInt8) :
    callV orcA F 69 [.ag [u8D m1, boD i1, boD o1, byD a1, boD j1, boD p1, byD b1], .ag [u8D m2, boD i2, boD o2, byD a2, boD j2, boD p2, byD b2]] =
      some (.ret (boD (m1 == m2 && (i1 == i2 && o1 == o2 && a1 == a2) && (j1 == j2 && p1 == p2 && b1 == b2)))) := by
  refine callV_ret tr69 ?_
  cases hm : (m1 == m2) <;> cases hb : (i1 == i2 && o1 == o2 && a1 == a2) <;> simp only [c69, hm, hb, DrwE_nil, DrwE_plain, DrwE_guard, GdE_true, GdE_false, DcE_q, DcE_push, DcE_rd, drdE, dcallE, Ex_seq, Ex_reg, Ex_ret, Ex_skip, Ex_exit, Ex_block, Ex_cond', condE_true, condE_false, loopQ_nrm, loopQ_ret, loopQ_ext, blockQ_nrm, blockQ_ret, blockQ_ext, OpsE_plain, OpsE_guard, OpsE_nil, GuE_true, GuE_false, guardD, act, callA, ev, upd, putE, AcE_q, AcE_push, AcE_rd', AcE_wr', rdE, wrE, initE, thenQ_nrm, thenQ_ret, thenQ_ext, retQ, qo_s, convD, D.slc, unBytes_bytesP, bytesP_length, binD, scD, blD, scBin, blBin, strBin, intBin, ressD, mapO, resD, D.frz, frzL, frz_cells, D.closed, closedL, closed_cells, mkV_true, gt0, gtk, st0, stk, List.append_assoc, List.length_append, D.fits, D.cells, partD, mkV_false, setAt, iadD, asI, List.map_cons, List.map_nil, List.getElem?_cons_zero, List.getElem?_cons_succ, List.getElem?_nil, List.length_cons, List.length_nil, List.drop_succ_cons, List.drop_zero, List.take_succ_cons, List.take_zero, List.nil_append, List.cons_append, List.set_cons_zero, List.set_cons_succ, Nat.reduceAdd, Nat.reduceLeDiff, Nat.reduceEqDiff, Nat.reduceBEq, beq_iff_eq, reduceCtorEq, ↓reduceIte, Option.map_some, Option.some.injEq, Bool.true_and, Bool.false_and, Bool.and_true, Bool.and_self, Bool.and_false, Bool.or_self, Bool.false_eq_true, b_ff, b_ft, b_tf, b_tt, Bool.not_true, Bool.not_false, BEq.rfl, decide_true, decide_false, Nat.le_refl, callE, zD, snilD, inilD, tasD, fnilD, AcE_tp, AcE_tw, twE, DcE_tp, appD, appSrc, fillD, fillP, D.pcells, cellPure, thenQ_pan, blockQ_pan, loopQ_pan, cntQ_nrm, cntQ_ret, cntQ_ext, cntQ_pan, indQ_nrm, indQ_ret, indQ_ext, indQ_pan, resQ, panQ_pan, rawQ, unD, and_self, and_true, true_and, not_true_eq_false, not_false_eq_true, orcA, AcE_call, run113]

theorem loop70 {α : Type} (c : α → List Go.Abs.P) (hc : ∀ x, (c x).length = 10) (f : FuncId) (hf1 : f ≠ 51) (hf2 : f ≠ 116) (eq : α → α → Bool) (k1 k2 : List α) (hlen : k1.length = k2.length) (hbd : k1.length < 2 ^ 62)
    (hf : ∀ x ∈ k1, ∀ y, callV orcA F f [.ag ((c x).map .c), .ag ((c y).map .c)] = some (.ret (boD (eq x y)))) (Q : Out → St → Prop) : ∀ (m i : Nat) (s : St), i + m = k1.length → s.T = [] →
    s.e 1 = .c (.sl k2.length (k2.flatMap c)) → s.e 2 = .fn f [] → s.e 15 = .c (.sl k1.length (k1.flatMap c)) → s.e 16 = inD k1.length → s.e 17 = inD i →
    (((k1.drop i).zip (k2.drop i)).all (fun p => eq p.1 p.2) = true → ∀ s', Q (.ext 0) s') → (((k1.drop i).zip (k2.drop i)).all (fun p => eq p.1 p.2) = false → ∀ s', s'.e 6 = boD false → Q .ret s') →
    Ex orcA F (.loop c70L0) s Q
  | 0, i, s, hi, hT, h1, h2, h15, h16, h17, hq1, hq2 => by
    have hd : decide ((i : Int) < (k1.length : Int)) = false := by simp; omega
    rw [Ex_loop]
    simp only [c70L0, hf1, hf2, h1, h2, h15, h16, h17, hd, DrwE_nil, DrwE_plain, DrwE_guard, GdE_true, GdE_false, DcE_q, DcE_push, DcE_rd, drdE, dcallE, Ex_seq, Ex_reg, Ex_ret, Ex_skip, Ex_exit, Ex_block, Ex_cond', condE_true, condE_false, loopQ_nrm, loopQ_ret, loopQ_ext, blockQ_nrm, blockQ_ret, blockQ_ext, OpsE_plain, OpsE_guard, OpsE_nil, GuE_true, GuE_false, guardD, act, callA, ev, upd, putE, AcE_q, AcE_push, AcE_rd', AcE_wr', rdE, wrE, initE, thenQ_nrm, thenQ_ret, thenQ_ext, retQ, qo_s, convD, D.slc, unBytes_bytesP, bytesP_length, binD, scD, blD, scBin, blBin, strBin, intBin, ressD, mapO, resD, D.frz, frzL, frz_cells, D.closed, closedL, closed_cells, mkV_true, gt0, gtk, st0, stk, List.append_assoc, List.length_append, D.fits, D.cells, partD, mkV_false, setAt, iadD, asI, List.map_cons, List.map_nil, List.getElem?_cons_zero, List.getElem?_cons_succ, List.getElem?_nil, List.length_cons, List.length_nil, List.drop_succ_cons, List.drop_zero, List.take_succ_cons, List.take_zero, List.nil_append, List.cons_append, List.set_cons_zero, List.set_cons_succ, Nat.reduceAdd, Nat.reduceLeDiff, Nat.reduceEqDiff, Nat.reduceBEq, beq_iff_eq, reduceCtorEq, ↓reduceIte, Option.map_some, Option.some.injEq, Bool.true_and, Bool.false_and, Bool.and_true, Bool.and_self, Bool.and_false, Bool.or_self, Bool.false_eq_true, b_ff, b_ft, b_tf, b_tt, Bool.not_true, Bool.not_false, BEq.rfl, decide_true, decide_false, Nat.le_refl, callE, zD, snilD, inilD, tasD, fnilD, AcE_tp, AcE_tw, twE, DcE_tp, appD, appSrc, fillD, fillP, D.pcells, cellPure, thenQ_pan, blockQ_pan, loopQ_pan, cntQ_nrm, cntQ_ret, cntQ_ext, cntQ_pan, indQ_nrm, indQ_ret, indQ_ext, indQ_pan, resQ, panQ_pan, rawQ, unD, and_self, and_true, true_and, not_true_eq_false, not_false_eq_true, orcA]
    refine hq1 ?_ _
    rw [List.drop_eq_nil_of_le (by omega)]
    rfl
  | m + 1, i, s, hi, hT, h1, h2, h15, h16, h17, hq1, hq2 => by
    have hlt : i < k1.length := by omega
    have hd : decide ((i : Int) < (k1.length : Int)) = true := by simp; omega
    obtain ⟨x, hx⟩ : ∃ x, k1[i]? = some x := ⟨_, List.getElem?_eq_getElem hlt⟩
    obtain ⟨y, hy⟩ : ∃ y, k2[i]? = some y := ⟨_, List.getElem?_eq_getElem (by omega)⟩
    have hr1 : (0 ≤ (i : Int) ∧ (i : Int) < (k1.length : Int)) = True := by simp; omega
    have hr2 : (0 ≤ (i : Int) ∧ (i : Int) < (k2.length : Int)) = True := by simp; omega
    obtain ⟨x1, x2⟩ := seg_at hc hx
    obtain ⟨y1, y2⟩ := seg_at hc hy
    have x3 : List.take 10 (List.map D.c (c x)) = List.map D.c (c x) := List.take_of_length_le (by simp [hc])
    have y3 : List.take 10 (List.map D.c (c y)) = List.map D.c (c y) := List.take_of_length_le (by simp [hc])
    have hfx := hf x (List.mem_of_getElem? hx) y
    have hzip : ((k1.drop i).zip (k2.drop i)).all (fun p => eq p.1 p.2) = (eq x y && ((k1.drop (i + 1)).zip (k2.drop (i + 1))).all (fun p => eq p.1 p.2)) := by
      obtain ⟨g1, rfl⟩ := List.getElem?_eq_some_iff.1 hx
      obtain ⟨g2, rfl⟩ := List.getElem?_eq_some_iff.1 hy
      rw [List.drop_eq_getElem_cons g1, List.drop_eq_getElem_cons g2]
      rfl
    rw [Ex_loop]
    generalize hQ : loopQ orcA F c70L0 Q = Q'
    cases hE : eq x y with
    | true =>
      simp only [c70L0, hf1, hf2, h1, h2, h15, h16, h17, hd, hr1, hr2, x1, x2, y1, y2, x3, y3, hc, hfx, hE, setAt_all, List.length_map, Int.toNat_natCast, unD, DrwE_nil, DrwE_plain, DrwE_guard, GdE_true, GdE_false, DcE_q, DcE_push, DcE_rd, drdE, dcallE, Ex_seq, Ex_reg, Ex_ret, Ex_skip, Ex_exit, Ex_block, Ex_cond', condE_true, condE_false, loopQ_nrm, loopQ_ret, loopQ_ext, blockQ_nrm, blockQ_ret, blockQ_ext, OpsE_plain, OpsE_guard, OpsE_nil, GuE_true, GuE_false, guardD, act, callA, ev, upd, putE, AcE_q, AcE_push, AcE_rd', AcE_wr', rdE, wrE, initE, thenQ_nrm, thenQ_ret, thenQ_ext, retQ, qo_s, convD, D.slc, unBytes_bytesP, bytesP_length, binD, scD, blD, scBin, blBin, strBin, intBin, ressD, mapO, resD, D.frz, frzL, frz_cells, D.closed, closedL, closed_cells, mkV_true, gt0, gtk, st0, stk, List.append_assoc, List.length_append, D.fits, D.cells, partD, mkV_false, setAt, iadD, asI, List.map_cons, List.map_nil, List.getElem?_cons_zero, List.getElem?_cons_succ, List.getElem?_nil, List.length_cons, List.length_nil, List.drop_succ_cons, List.drop_zero, List.take_succ_cons, List.take_zero, List.nil_append, List.cons_append, List.set_cons_zero, List.set_cons_succ, Nat.reduceAdd, Nat.reduceLeDiff, Nat.reduceEqDiff, Nat.reduceBEq, beq_iff_eq, reduceCtorEq, ↓reduceIte, Option.map_some, Option.some.injEq, Bool.true_and, Bool.false_and, Bool.and_true, Bool.and_self, Bool.and_false, Bool.or_self, Bool.false_eq_true, b_ff, b_ft, b_tf, b_tt, Bool.not_true, Bool.not_false, BEq.rfl, decide_true, decide_false, Nat.le_refl, callE, zD, snilD, inilD, tasD, fnilD, AcE_tp, AcE_tw, twE, DcE_tp, appD, appSrc, fillD, fillP, D.pcells, cellPure, thenQ_pan, blockQ_pan, loopQ_pan, cntQ_nrm, cntQ_ret, cntQ_ext, cntQ_pan, indQ_nrm, indQ_ret, indQ_ext, indQ_pan, resQ, panQ_pan, rawQ, unD, and_self, and_true, true_and, not_true_eq_false, not_false_eq_true, orcA, AcE_call]
      rw [← hQ, loopQ_nrm]
      have hw : IntKind.i64.wrap ((i : Int) + 1) = ((i + 1 : Nat) : Int) := wrap_i64 (by omega) (by omega)
      refine loop70 c hc f hf1 hf2 eq k1 k2 hlen hbd hf Q m (i + 1) _ (by omega) hT (by simp [upd, h1]) (by simp [upd, h2]) (by simp [upd, h15]) (by simp [upd, h16]) (by simp [upd, hw]) (fun h => hq1 ?_) (fun h => hq2 ?_)
      · rw [hzip, hE, h]; rfl
      · rw [hzip, hE, h]; rfl
    | false =>
      simp only [c70L0, hf1, hf2, h1, h2, h15, h16, h17, hd, hr1, hr2, x1, x2, y1, y2, x3, y3, hc, hfx, hE, setAt_all, List.length_map, Int.toNat_natCast, unD, DrwE_nil, DrwE_plain, DrwE_guard, GdE_true, GdE_false, DcE_q, DcE_push, DcE_rd, drdE, dcallE, Ex_seq, Ex_reg, Ex_ret, Ex_skip, Ex_exit, Ex_block, Ex_cond', condE_true, condE_false, loopQ_nrm, loopQ_ret, loopQ_ext, blockQ_nrm, blockQ_ret, blockQ_ext, OpsE_plain, OpsE_guard, OpsE_nil, GuE_true, GuE_false, guardD, act, callA, ev, upd, putE, AcE_q, AcE_push, AcE_rd', AcE_wr', rdE, wrE, initE, thenQ_nrm, thenQ_ret, thenQ_ext, retQ, qo_s, convD, D.slc, unBytes_bytesP, bytesP_length, binD, scD, blD, scBin, blBin, strBin, intBin, ressD, mapO, resD, D.frz, frzL, frz_cells, D.closed, closedL, closed_cells, mkV_true, gt0, gtk, st0, stk, List.append_assoc, List.length_append, D.fits, D.cells, partD, mkV_false, setAt, iadD, asI, List.map_cons, List.map_nil, List.getElem?_cons_zero, List.getElem?_cons_succ, List.getElem?_nil, List.length_cons, List.length_nil, List.drop_succ_cons, List.drop_zero, List.take_succ_cons, List.take_zero, List.nil_append, List.cons_append, List.set_cons_zero, List.set_cons_succ, Nat.reduceAdd, Nat.reduceLeDiff, Nat.reduceEqDiff, Nat.reduceBEq, beq_iff_eq, reduceCtorEq, ↓reduceIte, Option.map_some, Option.some.injEq, Bool.true_and, Bool.false_and, Bool.and_true, Bool.and_self, Bool.and_false, Bool.or_self, Bool.false_eq_true, b_ff, b_ft, b_tf, b_tt, Bool.not_true, Bool.not_false, BEq.rfl, decide_true, decide_false, Nat.le_refl, callE, zD, snilD, inilD, tasD, fnilD, AcE_tp, AcE_tw, twE, DcE_tp, appD, appSrc, fillD, fillP, D.pcells, cellPure, thenQ_pan, blockQ_pan, loopQ_pan, cntQ_nrm, cntQ_ret, cntQ_ext, cntQ_pan, indQ_nrm, indQ_ret, indQ_ext, indQ_pan, resQ, panQ_pan, rawQ, unD, and_self, and_true, true_and, not_true_eq_false, not_false_eq_true, orcA, AcE_call]
      rw [← hQ, loopQ_ret]
      refine hq2 ?_ _ rfl
      rw [hzip, hE]; rfl

set_option maxHeartbeats 1000000 in
theorem run70 {α : Type} (c : α → List Go.Abs.P) (hc : ∀ x, (c x).length = 10) (f : FuncId) (hf1 : f ≠ 51) (hf2 : f ≠ 116) (eq : α → α → Bool) (k1 k2 : List α) (hbd : k1.length < 2 ^ 62)
    (hf : ∀ x ∈ k1, ∀ y, callV orcA F f [.ag ((c x).map .c), .ag ((c y).map .c)] = some (.ret (boD (eq x y)))) :
    callV orcA F 70 [.c (.sl k1.length (k1.flatMap c)), .c (.sl k2.length (k2.flatMap c)), .fn f []] = some (.ret (boD (k1.length == k2.length && (k1.zip k2).all fun p => eq p.1 p.2))) := by
  refine callV_ret tr70 ?_
  by_cases hl : k1.length = k2.length
  · have hd : ((k1.length : Int) != (k2.length : Int)) = false := by simp [hl]
    have hl' : (k1.length == k2.length) = true := by simp [hl]
    simp only [c70, hd, hl', DrwE_nil, DrwE_plain, DrwE_guard, GdE_true, GdE_false, DcE_q, DcE_push, DcE_rd, drdE, dcallE, Ex_seq, Ex_reg, Ex_ret, Ex_skip, Ex_exit, Ex_block, Ex_cond', condE_true, condE_false, loopQ_nrm, loopQ_ret, loopQ_ext, blockQ_nrm, blockQ_ret, blockQ_ext, OpsE_plain, OpsE_guard, OpsE_nil, GuE_true, GuE_false, guardD, act, callA, ev, upd, putE, AcE_q, AcE_push, AcE_rd', AcE_wr', rdE, wrE, initE, thenQ_nrm, thenQ_ret, thenQ_ext, retQ, qo_s, convD, D.slc, unBytes_bytesP, bytesP_length, binD, scD, blD, scBin, blBin, strBin, intBin, ressD, mapO, resD, D.frz, frzL, frz_cells, D.closed, closedL, closed_cells, mkV_true, gt0, gtk, st0, stk, List.append_assoc, List.length_append, D.fits, D.cells, partD, mkV_false, setAt, iadD, asI, List.map_cons, List.map_nil, List.getElem?_cons_zero, List.getElem?_cons_succ, List.getElem?_nil, List.length_cons, List.length_nil, List.drop_succ_cons, List.drop_zero, List.take_succ_cons, List.take_zero, List.nil_append, List.cons_append, List.set_cons_zero, List.set_cons_succ, Nat.reduceAdd, Nat.reduceLeDiff, Nat.reduceEqDiff, Nat.reduceBEq, beq_iff_eq, reduceCtorEq, ↓reduceIte, Option.map_some, Option.some.injEq, Bool.true_and, Bool.false_and, Bool.and_true, Bool.and_self, Bool.and_false, Bool.or_self, Bool.false_eq_true, b_ff, b_ft, b_tf, b_tt, Bool.not_true, Bool.not_false, BEq.rfl, decide_true, decide_false, Nat.le_refl, callE, zD, snilD, inilD, tasD, fnilD, AcE_tp, AcE_tw, twE, DcE_tp, appD, appSrc, fillD, fillP, D.pcells, cellPure, thenQ_pan, blockQ_pan, loopQ_pan, cntQ_nrm, cntQ_ret, cntQ_ext, cntQ_pan, indQ_nrm, indQ_ret, indQ_ext, indQ_pan, resQ, panQ_pan, rawQ, unD, and_self, and_true, true_and, not_true_eq_false, not_false_eq_true, orcA]
    refine loop70 c hc f hf1 hf2 eq k1 k2 hl hbd hf _ k1.length 0 _ (by omega) rfl rfl rfl rfl rfl rfl (fun h s' => ?_) (fun h s' h6 => ?_)
    · rw [List.drop_zero, List.drop_zero] at h
      simp only [h, DrwE_nil, DrwE_plain, DrwE_guard, GdE_true, GdE_false, DcE_q, DcE_push, DcE_rd, drdE, dcallE, Ex_seq, Ex_reg, Ex_ret, Ex_skip, Ex_exit, Ex_block, Ex_cond', condE_true, condE_false, loopQ_nrm, loopQ_ret, loopQ_ext, blockQ_nrm, blockQ_ret, blockQ_ext, OpsE_plain, OpsE_guard, OpsE_nil, GuE_true, GuE_false, guardD, act, callA, ev, upd, putE, AcE_q, AcE_push, AcE_rd', AcE_wr', rdE, wrE, initE, thenQ_nrm, thenQ_ret, thenQ_ext, retQ, qo_s, convD, D.slc, unBytes_bytesP, bytesP_length, binD, scD, blD, scBin, blBin, strBin, intBin, ressD, mapO, resD, D.frz, frzL, frz_cells, D.closed, closedL, closed_cells, mkV_true, gt0, gtk, st0, stk, List.append_assoc, List.length_append, D.fits, D.cells, partD, mkV_false, setAt, iadD, asI, List.map_cons, List.map_nil, List.getElem?_cons_zero, List.getElem?_cons_succ, List.getElem?_nil, List.length_cons, List.length_nil, List.drop_succ_cons, List.drop_zero, List.take_succ_cons, List.take_zero, List.nil_append, List.cons_append, List.set_cons_zero, List.set_cons_succ, Nat.reduceAdd, Nat.reduceLeDiff, Nat.reduceEqDiff, Nat.reduceBEq, beq_iff_eq, reduceCtorEq, ↓reduceIte, Option.map_some, Option.some.injEq, Bool.true_and, Bool.false_and, Bool.and_true, Bool.and_self, Bool.and_false, Bool.or_self, Bool.false_eq_true, b_ff, b_ft, b_tf, b_tt, Bool.not_true, Bool.not_false, BEq.rfl, decide_true, decide_false, Nat.le_refl, callE, zD, snilD, inilD, tasD, fnilD, AcE_tp, AcE_tw, twE, DcE_tp, appD, appSrc, fillD, fillP, D.pcells, cellPure, thenQ_pan, blockQ_pan, loopQ_pan, cntQ_nrm, cntQ_ret, cntQ_ext, cntQ_pan, indQ_nrm, indQ_ret, indQ_ext, indQ_pan, resQ, panQ_pan, rawQ, unD, and_self, and_true, true_and, not_true_eq_false, not_false_eq_true, orcA]
    · rw [List.drop_zero, List.drop_zero] at h
      simp only [h, h6, DrwE_nil, DrwE_plain, DrwE_guard, GdE_true, GdE_false, DcE_q, DcE_push, DcE_rd, drdE, dcallE, Ex_seq, Ex_reg, Ex_ret, Ex_skip, Ex_exit, Ex_block, Ex_cond', condE_true, condE_false, loopQ_nrm, loopQ_ret, loopQ_ext, blockQ_nrm, blockQ_ret, blockQ_ext, OpsE_plain, OpsE_guard, OpsE_nil, GuE_true, GuE_false, guardD, act, callA, ev, upd, putE, AcE_q, AcE_push, AcE_rd', AcE_wr', rdE, wrE, initE, thenQ_nrm, thenQ_ret, thenQ_ext, retQ, qo_s, convD, D.slc, unBytes_bytesP, bytesP_length, binD, scD, blD, scBin, blBin, strBin, intBin, ressD, mapO, resD, D.frz, frzL, frz_cells, D.closed, closedL, closed_cells, mkV_true, gt0, gtk, st0, stk, List.append_assoc, List.length_append, D.fits, D.cells, partD, mkV_false, setAt, iadD, asI, List.map_cons, List.map_nil, List.getElem?_cons_zero, List.getElem?_cons_succ, List.getElem?_nil, List.length_cons, List.length_nil, List.drop_succ_cons, List.drop_zero, List.take_succ_cons, List.take_zero, List.nil_append, List.cons_append, List.set_cons_zero, List.set_cons_succ, Nat.reduceAdd, Nat.reduceLeDiff, Nat.reduceEqDiff, Nat.reduceBEq, beq_iff_eq, reduceCtorEq, ↓reduceIte, Option.map_some, Option.some.injEq, Bool.true_and, Bool.false_and, Bool.and_true, Bool.and_self, Bool.and_false, Bool.or_self, Bool.false_eq_true, b_ff, b_ft, b_tf, b_tt, Bool.not_true, Bool.not_false, BEq.rfl, decide_true, decide_false, Nat.le_refl, callE, zD, snilD, inilD, tasD, fnilD, AcE_tp, AcE_tw, twE, DcE_tp, appD, appSrc, fillD, fillP, D.pcells, cellPure, thenQ_pan, blockQ_pan, loopQ_pan, cntQ_nrm, cntQ_ret, cntQ_ext, cntQ_pan, indQ_nrm, indQ_ret, indQ_ext, indQ_pan, resQ, panQ_pan, rawQ, unD, and_self, and_true, true_and, not_true_eq_false, not_false_eq_true, orcA]
  · have hd : ((k1.length : Int) != (k2.length : Int)) = true := by simp; omega
    have hl' : (k1.length == k2.length) = false := by simp [hl]
    simp only [c70, hd, hl', DrwE_nil, DrwE_plain, DrwE_guard, GdE_true, GdE_false, DcE_q, DcE_push, DcE_rd, drdE, dcallE, Ex_seq, Ex_reg, Ex_ret, Ex_skip, Ex_exit, Ex_block, Ex_cond', condE_true, condE_false, loopQ_nrm, loopQ_ret, loopQ_ext, blockQ_nrm, blockQ_ret, blockQ_ext, OpsE_plain, OpsE_guard, OpsE_nil, GuE_true, GuE_false, guardD, act, callA, ev, upd, putE, AcE_q, AcE_push, AcE_rd', AcE_wr', rdE, wrE, initE, thenQ_nrm, thenQ_ret, thenQ_ext, retQ, qo_s, convD, D.slc, unBytes_bytesP, bytesP_length, binD, scD, blD, scBin, blBin, strBin, intBin, ressD, mapO, resD, D.frz, frzL, frz_cells, D.closed, closedL, closed_cells, mkV_true, gt0, gtk, st0, stk, List.append_assoc, List.length_append, D.fits, D.cells, partD, mkV_false, setAt, iadD, asI, List.map_cons, List.map_nil, List.getElem?_cons_zero, List.getElem?_cons_succ, List.getElem?_nil, List.length_cons, List.length_nil, List.drop_succ_cons, List.drop_zero, List.take_succ_cons, List.take_zero, List.nil_append, List.cons_append, List.set_cons_zero, List.set_cons_succ, Nat.reduceAdd, Nat.reduceLeDiff, Nat.reduceEqDiff, Nat.reduceBEq, beq_iff_eq, reduceCtorEq, ↓reduceIte, Option.map_some, Option.some.injEq, Bool.true_and, Bool.false_and, Bool.and_true, Bool.and_self, Bool.and_false, Bool.or_self, Bool.false_eq_true, b_ff, b_ft, b_tf, b_tt, Bool.not_true, Bool.not_false, BEq.rfl, decide_true, decide_false, Nat.le_refl, callE, zD, snilD, inilD, tasD, fnilD, AcE_tp, AcE_tw, twE, DcE_tp, appD, appSrc, fillD, fillP, D.pcells, cellPure, thenQ_pan, blockQ_pan, loopQ_pan, cntQ_nrm, cntQ_ret, cntQ_ext, cntQ_pan, indQ_nrm, indQ_ret, indQ_ext, indQ_pan, resQ, panQ_pan, rawQ, unD, and_self, and_true, true_and, not_true_eq_false, not_false_eq_true, orcA]

/-- Tags. -/
inductive Tg where
  | mk (kind : UInt8) (data : List UInt8) (kids : List Tg) (o : UInt8) (i1 o1 : Bool) (a1 : List UInt8) (i2 o2 : Bool) (a2 : List UInt8)
mutual
def Tg.cells : Tg → List Go.Abs.P
  | .mk kind data kids o i1 o1 a1 i2 o2 a2 => [byteP kind, byP data, .sl kids.length (kidsC kids), byteP o, boP i1, boP o1, byP a1, boP i2, boP o2, byP a2]
def kidsC : List Tg → List Go.Abs.P
  | [] => []
  | t :: r => t.cells ++ kidsC r
end
mutual
def Tg.same : Tg → Tg → Bool
  | .mk kind data kids o i1 o1 a1 i2 o2 a2, .mk kind' data' kids' o' i1' o1' a1' i2' o2' a2' =>
    kind == kind' && data == data' && (o == o' && (i1 == i1' && o1 == o1' && a1 == a1') && (i2 == i2' && o2 == o2' && a2 == a2')) && sameL kids kids'
def sameL : List Tg → List Tg → Bool
  | [], [] => true
  | x :: xs, y :: ys => x.same y && sameL xs ys
  | _, _ => false
end
theorem kidsC_eq : ∀ l : List Tg, kidsC l = l.flatMap Tg.cells
  | [] => rfl
  | t :: r => by rw [kidsC, kidsC_eq r]; rfl
theorem cells_len (t : Tg) : t.cells.length = 10 := by cases t; rfl
theorem sameL_eq : ∀ l r : List Tg, sameL l r = (l.length == r.length && (l.zip r).all fun p => p.1.same p.2)
  | [], [] => rfl
  | [], y :: r => by simp [sameL]
  | x :: l, [] => by simp [sameL]
  | x :: l, y :: r => by
    rw [sameL, sameL_eq l r]
    simp only [List.length_cons, List.zip_cons_cons, List.all_cons]
    cases x.same y <;> cases h : (l.length == r.length) <;> simp_all

theorem cells_mk (kind : UInt8) (data : List UInt8) (kids : List Tg) (o : UInt8) (i1 o1 : Bool) (a1 : List UInt8) (i2 o2 : Bool) (a2 : List UInt8) :
    (Tg.mk kind data kids o i1 o1 a1 i2 o2 a2).cells = [byteP kind, byP data, .sl kids.length (kids.flatMap Tg.cells), byteP o, boP i1, boP o1, byP a1, boP i2, boP o2, byP a2] := by
  rw [← kidsC_eq]; rfl
theorem same_mk (kind kind' : UInt8) (data data' : List UInt8) (kids kids' : List Tg) (o o' : UInt8) (i1 o1 i1' o1' : Bool) (a1 a1' : List UInt8) (i2 o2 i2' o2' : Bool) (a2 a2' : List UInt8) :
    (Tg.mk kind data kids o i1 o1 a1 i2 o2 a2).same (Tg.mk kind' data' kids' o' i1' o1' a1' i2' o2' a2') =
      (kind == kind' && data == data' && (o == o' && (i1 == i1' && o1 == o1' && a1 == a1') && (i2 == i2' && o2 == o2' && a2 == a2')) && (kids.length == kids'.length && (kids.zip kids').all fun p => p.1.same p.2)) := by
  rw [← sameL_eq]; rfl
theorem u8_eq (a b : UInt8) : ((a.toNat : Int) == (b.toNat : Int)) = (a == b) := by
  by_cases h : a = b
  · subst h; simp
  · have : ¬ a.toNat = b.toNat := fun e => h (UInt8.toNat_inj.1 e)
    rw [beq_eq_false_iff_ne.2 h, beq_eq_false_iff_ne]; omega
inductive Tg.ok : Tg → Prop
  | mk {kind data kids o i1 o1 a1 i2 o2 a2} (h : kids.length < 2 ^ 62) (hk : ∀ x ∈ kids, x.ok) : Tg.ok (.mk kind data kids o i1 o1 a1 i2 o2 a2)
set_option maxHeartbeats 2000000 in
theorem run23 (a b : Tg) (ha : a.ok) : callV orcA F 23 [.ag (a.cells.map .c), .ag (b.cells.map .c)] = some (.ret (boD (a.same b))) := by
  induction ha generalizing b with
  | @mk kind data kids o i1 o1 a1 i2 o2 a2 h hk ih =>
    obtain ⟨kind', data', kids', o', i1', o1', a1', i2', o2', a2'⟩ := b
    have hkids := run70 Tg.cells cells_len 23 (by decide) (by decide) Tg.same kids kids' h (fun x hx y => ih x hx y)
    rw [cells_mk, cells_mk, same_mk]
    refine callV_ret tr23 ?_
    cases h1 : (kind == kind') <;> cases h2 : (data == data') <;> cases h3 : (o == o' && (i1 == i1' && o1 == o1' && a1 == a1') && (i2 == i2' && o2 == o2' && a2 == a2')) <;>
      simp only [c23, byteP, h1, h2, h3, u8_eq, DrwE_nil, DrwE_plain, DrwE_guard, GdE_true, GdE_false, DcE_q, DcE_push, DcE_rd, drdE, dcallE, Ex_seq, Ex_reg, Ex_ret, Ex_skip, Ex_exit, Ex_block, Ex_cond', condE_true, condE_false, loopQ_nrm, loopQ_ret, loopQ_ext, blockQ_nrm, blockQ_ret, blockQ_ext, OpsE_plain, OpsE_guard, OpsE_nil, GuE_true, GuE_false, guardD, act, callA, ev, upd, putE, AcE_q, AcE_push, AcE_rd', AcE_wr', rdE, wrE, initE, thenQ_nrm, thenQ_ret, thenQ_ext, retQ, qo_s, convD, D.slc, unBytes_bytesP, bytesP_length, binD, scD, blD, scBin, blBin, strBin, intBin, ressD, mapO, resD, D.frz, frzL, frz_cells, D.closed, closedL, closed_cells, mkV_true, gt0, gtk, st0, stk, List.append_assoc, List.length_append, D.fits, D.cells, partD, mkV_false, setAt, iadD, asI, List.map_cons, List.map_nil, List.getElem?_cons_zero, List.getElem?_cons_succ, List.getElem?_nil, List.length_cons, List.length_nil, List.drop_succ_cons, List.drop_zero, List.take_succ_cons, List.take_zero, List.nil_append, List.cons_append, List.set_cons_zero, List.set_cons_succ, Nat.reduceAdd, Nat.reduceLeDiff, Nat.reduceEqDiff, Nat.reduceBEq, beq_iff_eq, reduceCtorEq, ↓reduceIte, Option.map_some, Option.some.injEq, Bool.true_and, Bool.false_and, Bool.and_true, Bool.and_self, Bool.and_false, Bool.or_self, Bool.false_eq_true, b_ff, b_ft, b_tf, b_tt, Bool.not_true, Bool.not_false, BEq.rfl, decide_true, decide_false, Nat.le_refl, callE, zD, snilD, inilD, tasD, fnilD, AcE_tp, AcE_tw, twE, DcE_tp, appD, appSrc, fillD, fillP, D.pcells, cellPure, thenQ_pan, blockQ_pan, loopQ_pan, cntQ_nrm, cntQ_ret, cntQ_ext, cntQ_pan, indQ_nrm, indQ_ret, indQ_ext, indQ_pan, resQ, panQ_pan, rawQ, unD, and_self, and_true, true_and, not_true_eq_false, not_false_eq_true, orcA, AcE_call, run68, run69, hkids]
end Go.Proofs.YthglfhnlolefhaaGreatDoor
