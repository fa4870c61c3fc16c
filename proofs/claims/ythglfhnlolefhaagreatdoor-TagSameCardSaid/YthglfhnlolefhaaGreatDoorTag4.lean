/- Own: TagSame's body. -/
import Derived.Test.YthglfhnlolefhaaGreatDoorTag3
import Derived.Test.YthglfhnlolefhaaGreatDoorCodeTag4
set_option linter.unusedSimpArgs false
set_option linter.unusedVariables false
namespace Go.Proofs.YthglfhnlolefhaaGreatDoor
open Go.Abs
theorem same_self (a : Tg) (ha : a.ok) : a.same a = true := by
  induction ha with
  | @mk kind data kids o i1 o1 a1 i2 o2 a2 h hk ih =>
    rw [same_mk]
    simp only [BEq.rfl, Bool.true_and, Bool.and_true, Bool.and_self]
    rw [List.all_eq_true]
    intro p hp
    have hz : ∀ (l : List Tg) (p : Tg × Tg), p ∈ l.zip l → p.1 = p.2 ∧ p.1 ∈ l := fun l => by
      induction l with
      | nil => intro p hp; simp at hp
      | cons x l ih =>
        intro p hp
        rw [List.zip_cons_cons, List.mem_cons] at hp
        rcases hp with rfl | hp
        · simp
        · have := ih p hp
          exact ⟨this.1, List.mem_cons_of_mem _ this.2⟩
    obtain ⟨e, hm⟩ := hz kids p hp
    rw [← e]
    exact ih _ hm
set_option maxRecDepth 20000 in
set_option maxHeartbeats 2000000 in
theorem run4 (hawake : callV orcB F 16 [] = some (.ret (boD true))) (a b : Tg) (ha : a.ok) (hb : b.ok) : callV orcB F 4 [.ag (a.cells.map .c), .ag (b.cells.map .c)] = some (.ret (boD true)) := by
  obtain ⟨ga, hga⟩ := run17 a ha 0 (by omega)
  replace hga := callV_table tableB hga
  obtain ⟨gb, hgb⟩ := run17 b hb 0 (by omega)
  replace hgb := callV_table tableB hgb
  have h1 := callV_table tableB (run23 a b ha)
  have h2 := callV_table tableB (run22 a b ha)
  have h3 := run23 a a ha
  rw [same_self a ha] at h3
  replace h3 := callV_table tableB h3
  have la := cells_len a
  have lb := cells_len b
  have xa : List.take 10 (List.map D.c a.cells) = List.map D.c a.cells := List.take_of_length_le (by simp [la])
  have xb : List.take 10 (List.map D.c b.cells) = List.map D.c b.cells := List.take_of_length_le (by simp [lb])
  have hc0 : closedL [] = true := rfl
  have z0 : ((0 : Nat) : Int) = 0 := rfl
  rw [z0] at hga hgb
  refine callV_ret tr4 ?_
  cases ga <;> cases gb <;> simp only [c4, la, lb, xa, xb, hga, hgb, h1, h2, h3, hawake, hc0, AcE_call (f := 16) (args := []) rfl, DcE_call (f := 16) (args := []) rfl, List.length_map, orcB, DrwE_nil, DrwE_plain, DrwE_guard, GdE_true, GdE_false, DcE_q, DcE_push, DcE_rd, drdE, dcallE, Ex_seq, Ex_reg, Ex_ret, Ex_skip, Ex_exit, Ex_block, Ex_cond', condE_true, condE_false, loopQ_nrm, loopQ_ret, loopQ_ext, blockQ_nrm, blockQ_ret, blockQ_ext, OpsE_plain, OpsE_guard, OpsE_nil, GuE_true, GuE_false, guardD, act, callA, ev, upd, putE, AcE_q, AcE_push, AcE_rd', AcE_wr', rdE, wrE, initE, thenQ_nrm, thenQ_ret, thenQ_ext, retQ, qo_s, convD, D.slc, unBytes_bytesP, bytesP_length, binD, scD, blD, scBin, blBin, strBin, intBin, ressD, mapO, resD, D.frz, frzL, frz_cells, D.closed, closedL, closed_cells, mkV_true, gt0, gtk, st0, stk, List.append_assoc, List.length_append, D.fits, D.cells, partD, mkV_false, setAt, iadD, asI, List.map_cons, List.map_nil, List.getElem?_cons_zero, List.getElem?_cons_succ, List.getElem?_nil, List.length_cons, List.length_nil, List.drop_succ_cons, List.drop_zero, List.take_succ_cons, List.take_zero, List.nil_append, List.cons_append, List.set_cons_zero, List.set_cons_succ, Nat.reduceAdd, Nat.reduceLeDiff, Nat.reduceEqDiff, Nat.reduceBEq, beq_iff_eq, reduceCtorEq, ↓reduceIte, Option.map_some, Option.some.injEq, Bool.true_and, Bool.false_and, Bool.and_true, Bool.and_self, Bool.and_false, Bool.or_self, Bool.false_eq_true, b_ff, b_ft, b_tf, b_tt, Bool.not_true, Bool.not_false, BEq.rfl, decide_true, decide_false, Nat.le_refl, callE, zD, snilD, inilD, tasD, fnilD, AcE_tp, AcE_tw, twE, DcE_tp, appD, appSrc, fillD, fillP, D.pcells, cellPure, thenQ_pan, blockQ_pan, loopQ_pan, cntQ_nrm, cntQ_ret, cntQ_ext, cntQ_pan, indQ_nrm, indQ_ret, indQ_ext, indQ_pan, resQ, panQ_pan, rawQ, unD, and_self, and_true, true_and, not_true_eq_false, not_false_eq_true, orcA, AcE_call, DcE_call]
  refine Ex_drw' ?_
  simp only [c4, la, lb, xa, xb, hga, hgb, h1, h2, h3, hawake, hc0, AcE_call (f := 16) (args := []) rfl, DcE_call (f := 16) (args := []) rfl, List.length_map, orcB, DrwE_nil, DrwE_plain, DrwE_guard, GdE_true, GdE_false, DcE_q, DcE_push, DcE_rd, drdE, dcallE, Ex_seq, Ex_reg, Ex_ret, Ex_skip, Ex_exit, Ex_block, Ex_cond', condE_true, condE_false, loopQ_nrm, loopQ_ret, loopQ_ext, blockQ_nrm, blockQ_ret, blockQ_ext, OpsE_plain, OpsE_guard, OpsE_nil, GuE_true, GuE_false, guardD, act, callA, ev, upd, putE, AcE_q, AcE_push, AcE_rd', AcE_wr', rdE, wrE, initE, thenQ_nrm, thenQ_ret, thenQ_ext, retQ, qo_s, convD, D.slc, unBytes_bytesP, bytesP_length, binD, scD, blD, scBin, blBin, strBin, intBin, ressD, mapO, resD, D.frz, frzL, frz_cells, D.closed, closedL, closed_cells, mkV_true, gt0, gtk, st0, stk, List.append_assoc, List.length_append, D.fits, D.cells, partD, mkV_false, setAt, iadD, asI, List.map_cons, List.map_nil, List.getElem?_cons_zero, List.getElem?_cons_succ, List.getElem?_nil, List.length_cons, List.length_nil, List.drop_succ_cons, List.drop_zero, List.take_succ_cons, List.take_zero, List.nil_append, List.cons_append, List.set_cons_zero, List.set_cons_succ, Nat.reduceAdd, Nat.reduceLeDiff, Nat.reduceEqDiff, Nat.reduceBEq, beq_iff_eq, reduceCtorEq, ↓reduceIte, Option.map_some, Option.some.injEq, Bool.true_and, Bool.false_and, Bool.and_true, Bool.and_self, Bool.and_false, Bool.or_self, Bool.false_eq_true, b_ff, b_ft, b_tf, b_tt, Bool.not_true, Bool.not_false, BEq.rfl, decide_true, decide_false, Nat.le_refl, callE, zD, snilD, inilD, tasD, fnilD, AcE_tp, AcE_tw, twE, DcE_tp, appD, appSrc, fillD, fillP, D.pcells, cellPure, thenQ_pan, blockQ_pan, loopQ_pan, cntQ_nrm, cntQ_ret, cntQ_ext, cntQ_pan, indQ_nrm, indQ_ret, indQ_ext, indQ_pan, resQ, panQ_pan, rawQ, unD, and_self, and_true, true_and, not_true_eq_false, not_false_eq_true, orcA, AcE_call, DcE_call]
  rfl
end Go.Proofs.YthglfhnlolefhaaGreatDoor
