/- Own: greffierlaw12.awake. -/
import Derived.Test.YthglfhnlolefhaaGreatDoorTag4
import Derived.Test.YthglfhnlolefhaaGreatDoorCodeAwake
set_option maxRecDepth 100000
set_option linter.unusedSimpArgs false
set_option linter.unusedVariables false
namespace Go.Proofs.YthglfhnlolefhaaGreatDoor
open Go.Abs
theorem callV_map {orc : Orc} {F : FuncId → Option AFn} {n : Nat} {f : FuncId} {args : List D} {r : Res} (h : (callN orc F n f args [] []).map (·.1) = some r) : callV orc F f args = some r := by
  obtain ⟨⟨r', V, T⟩, h1, rfl⟩ := Option.map_eq_some_iff.1 h
  exact callV_of ⟨n, V, T, h1⟩
abbrev atomP (s : List UInt8) : List Go.Abs.P := [boP false, boP false, byP [], byP s, .sl 0 []]
abbrev listP (n : Nat) (cs : List Go.Abs.P) : List Go.Abs.P := [boP true, boP false, byP [], byP [], .sl n cs]
/-- ftp, a list of a star, prefix, /pub/ -/
def ftpV : List Go.Abs.P := listP 2 (atomP [102, 116, 112] ++ listP 3 (atomP [42] ++ (atomP [112, 114, 101, 102, 105, 120] ++ atomP [47, 112, 117, 98, 47])))
theorem aw61 : callV orcA F 61 [.ag (ftpV.map .c)] = some (.ret (boD true)) := callV_map (n := 60) (by kernel_rfl)
def ftpT : List Go.Abs.P := [.v (.int .u8 3), byP [], .sl 2 ([.v (.int .u8 2), byP [102, 116, 112], .sl 0 [], .v (.int .u8 0), boP false, boP false, byP [], boP false, boP false, byP []] ++ [.v (.int .u8 5), byP [47, 112, 117, 98, 47], .sl 0 [], .v (.int .u8 0), boP false, boP false, byP [], boP false, boP false, byP []]), .v (.int .u8 0), boP false, boP false, byP [], boP false, boP false, byP []]
theorem aw62 : callV orcA F 62 [.ag (ftpV.map .c)] = some (.ret (.ag (ftpT.map .c))) := callV_map (n := 60) (by kernel_rfl)
theorem aw20 : getR (.ag (ftpV.map .c)) = some (.tu [.ag (ftpT.map .c), .c (.v (.int .i64 0))]) := by
  unfold getR
  rw [aw61, aw62]
  rfl
theorem run52 (b : ByteArray) : callV orcA F 52 [.c (.v (.string b))] = some (.ret (.ag ((atomP b.data.toList).map .c))) := by
  refine callV_ret tr52 ?_
  simp only [c52, DrwE_nil, DrwE_plain, DrwE_guard, GdE_true, GdE_false, DcE_q, DcE_push, DcE_rd, drdE, dcallE, Ex_seq, Ex_reg, Ex_ret, Ex_skip, Ex_exit, Ex_block, Ex_cond', condE_true, condE_false, loopQ_nrm, loopQ_ret, loopQ_ext, blockQ_nrm, blockQ_ret, blockQ_ext, OpsE_plain, OpsE_guard, OpsE_nil, GuE_true, GuE_false, guardD, act, callA, ev, upd, putE, AcE_q, AcE_push, AcE_rd', AcE_wr', rdE, wrE, initE, thenQ_nrm, thenQ_ret, thenQ_ext, retQ, qo_s, convD, D.slc, unBytes_bytesP, bytesP_length, binD, scD, blD, scBin, blBin, strBin, intBin, ressD, mapO, resD, D.frz, frzL, frz_cells, D.closed, closedL, closed_cells, mkV_true, gt0, gtk, st0, stk, List.append_assoc, List.length_append, D.fits, D.cells, partD, mkV_false, setAt, iadD, asI, List.map_cons, List.map_nil, List.getElem?_cons_zero, List.getElem?_cons_succ, List.getElem?_nil, List.length_cons, List.length_nil, List.drop_succ_cons, List.drop_zero, List.take_succ_cons, List.take_zero, List.nil_append, List.cons_append, List.set_cons_zero, List.set_cons_succ, Nat.reduceAdd, Nat.reduceLeDiff, Nat.reduceEqDiff, Nat.reduceBEq, beq_iff_eq, reduceCtorEq, ↓reduceIte, Option.map_some, Option.some.injEq, Bool.true_and, Bool.false_and, Bool.and_true, Bool.and_self, Bool.and_false, Bool.or_self, Bool.false_eq_true, b_ff, b_ft, b_tf, b_tt, Bool.not_true, Bool.not_false, BEq.rfl, decide_true, decide_false, Nat.le_refl, callE, zD, snilD, inilD, tasD, fnilD, AcE_tp, AcE_tw, twE, DcE_tp, appD, appSrc, fillD, fillP, D.pcells, cellPure, thenQ_pan, blockQ_pan, loopQ_pan, cntQ_nrm, cntQ_ret, cntQ_ext, cntQ_pan, indQ_nrm, indQ_ret, indQ_ext, indQ_pan, resQ, panQ_pan, rawQ, unD, and_self, and_true, true_and, not_true_eq_false, not_false_eq_true, Int.cast_ofNat_Int, Int.reduceLT, Int.reduceLE, Int.reduceBEq, Int.reduceToNat, Nat.reduceMul, Int.zero_le_ofNat, orcA]
  rfl
set_option maxHeartbeats 1000000 in
theorem awake12 : callV orcB F 16 [] = some (.ret (boD true)) := by
  refine callV_ret tr16 ?_
  have h1 := fun b => callV_table tableB (run52 b)
  have h2 : getR (.ag [boD true, boD false, byD [], byD [], .c (.sl 2 [boP false, boP false, byP [], byP [102, 116, 112], .sl 0 [], boP true, boP false, byP [], byP [], .sl 3 [boP false, boP false, byP [], byP [42], .sl 0 [], boP false, boP false, byP [], byP [112, 114, 101, 102, 105, 120], .sl 0 [], boP false, boP false, byP [], byP [47, 112, 117, 98, 47], .sl 0 []]])]) = _ := aw20
  simp only [c16, h1, h2, orcB, getT, listT, ftpT, room, Nat.reducePow, Nat.reduceMul, DrwE_nil, DrwE_plain, DrwE_guard, GdE_true, GdE_false, DcE_q, DcE_push, DcE_rd, drdE, dcallE, Ex_seq, Ex_reg, Ex_ret, Ex_skip, Ex_exit, Ex_block, Ex_cond', condE_true, condE_false, loopQ_nrm, loopQ_ret, loopQ_ext, blockQ_nrm, blockQ_ret, blockQ_ext, OpsE_plain, OpsE_guard, OpsE_nil, GuE_true, GuE_false, guardD, act, callA, ev, upd, putE, AcE_q, AcE_push, AcE_rd', AcE_wr', rdE, wrE, initE, thenQ_nrm, thenQ_ret, thenQ_ext, retQ, qo_s, convD, D.slc, unBytes_bytesP, bytesP_length, binD, scD, blD, scBin, blBin, strBin, intBin, ressD, mapO, resD, D.frz, frzL, frz_cells, D.closed, closedL, closed_cells, mkV_true, gt0, gtk, st0, stk, List.append_assoc, List.length_append, D.fits, D.cells, partD, mkV_false, setAt, iadD, asI, List.map_cons, List.map_nil, List.getElem?_cons_zero, List.getElem?_cons_succ, List.getElem?_nil, List.length_cons, List.length_nil, List.drop_succ_cons, List.drop_zero, List.take_succ_cons, List.take_zero, List.nil_append, List.cons_append, List.set_cons_zero, List.set_cons_succ, Nat.reduceAdd, Nat.reduceLeDiff, Nat.reduceEqDiff, Nat.reduceBEq, beq_iff_eq, reduceCtorEq, ↓reduceIte, Option.map_some, Option.some.injEq, Bool.true_and, Bool.false_and, Bool.and_true, Bool.and_self, Bool.and_false, Bool.or_self, Bool.false_eq_true, b_ff, b_ft, b_tf, b_tt, Bool.not_true, Bool.not_false, BEq.rfl, decide_true, decide_false, Nat.le_refl, callE, zD, snilD, inilD, tasD, fnilD, AcE_tp, AcE_tw, twE, DcE_tp, appD, appSrc, fillD, fillP, D.pcells, cellPure, thenQ_pan, blockQ_pan, loopQ_pan, cntQ_nrm, cntQ_ret, cntQ_ext, cntQ_pan, indQ_nrm, indQ_ret, indQ_ext, indQ_pan, resQ, panQ_pan, rawQ, unD, and_self, and_true, true_and, not_true_eq_false, not_false_eq_true, Int.cast_ofNat_Int, Int.reduceLT, Int.reduceLE, Int.reduceBEq, Int.reduceToNat, Nat.reduceMul, Int.zero_le_ofNat, orcA, AcE_call]
end Go.Proofs.YthglfhnlolefhaaGreatDoor
