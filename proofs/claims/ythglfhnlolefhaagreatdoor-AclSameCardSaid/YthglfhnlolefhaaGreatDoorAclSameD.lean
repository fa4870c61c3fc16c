/- Own: texts EqF CodeSubj Subj CodeAcl AclD AbsBridge ReadTag Post ReadSj FactsC Facts13 AclSame in one, as a program put them together. The last text of the row proves the law; no condition of our own. -/
import Derived.Test.YthglfhnlolefhaaGreatDoorAclSameC
import Derived.Test.YthglfhnlolefhaaGreatDoorProg
import Derived.KernelRfl
import Derived.ChangeShapes
import Derived.Test.YthglfhnlolefhaaGreatDoorRows
import Derived.Test.YthglfhnlolefhaaGreatDoorCards
import Derived.Test.YthglfhnlolefhaaGreatDoorTie
import Derived.WalkKit
import Derived.ProofKit
import Derived.OpenShut
import Derived.Carry
import Derived.Deep.DeepHandedRow
import Derived.Lib.LaidTab
import Derived.JoinedCond
section
/- Own: slices.EqualFunc, whatever its elements. -/
set_option maxRecDepth 100000
set_option linter.unusedSimpArgs false
set_option linter.unusedVariables false
namespace Go.Proofs.YthglfhnlolefhaaGreatDoor
open Go.Abs
/-- The round of an EqualFunc whose elements have W cells. -/
def eqL (W : Nat) (T : TypeId) (z : List Go.Abs.P) : ACode := (.seq (.reg [⟨(some 18), none, (.bin .lss .sc (.t 17) (.t 16))⟩]) (.seq (.cond (.t 18) .skip (.exit 0)) (.seq (.block 1 (.seq (.reg [⟨(some 19), none, (.mv (.t 17))⟩, ⟨(some 20), none, (.iad (.sl W) (.t 15) (.t 17))⟩, ⟨(some 21), none, (.load true W (.t 20))⟩, ⟨(some 8), none, (.alloc T z)⟩, ⟨(some 7), none, (.mv (.t 19))⟩, ⟨none, none, (.store W (.t 8) (.t 21))⟩]) (.seq (.reg [⟨(some 22), none, (.mv (.t 1))⟩, ⟨(some 23), none, (.mv (.t 7))⟩, ⟨(some 24), none, (.iad (.sl W) (.t 22) (.t 23))⟩, ⟨(some 25), none, (.load true W (.t 24))⟩, ⟨(some 9), none, (.alloc T z)⟩, ⟨none, none, (.store W (.t 9) (.t 25))⟩]) (.seq (.reg [⟨(some 26), none, (.mv (.t 2))⟩, ⟨(some 27), none, (.load true W (.t 8))⟩, ⟨(some 28), none, (.load true W (.t 9))⟩, ⟨(some 29), none, (.dyn (.t 26) [(.t 27), (.t 28)])⟩, ⟨(some 30), none, (.un .not (.t 29))⟩]) (.cond (.t 30) (.seq (.reg [⟨(some 6), none, (.mv (.k (.c (.v (.bool false)))))⟩]) .ret) .skip))))) (.reg [⟨(some 31), none, (.bin .add .sc (.t 17) (.k (.c (.v (.int .i64 1)))))⟩, ⟨(some 17), none, (.mv (.t 31))⟩]))))
def eqL1 : ACode := (.seq (.reg [⟨(some 18), none, (.bin .lss .sc (.t 17) (.t 16))⟩]) (.seq (.cond (.t 18) .skip (.exit 0)) (.seq (.block 1 (.seq (.reg [⟨(some 19), none, (.mv (.t 17))⟩, ⟨(some 20), none, (.iad (.sl 1) (.t 15) (.t 17))⟩, ⟨(some 21), none, (.load false 1 (.t 20))⟩, ⟨(some 7), none, (.mv (.t 19))⟩, ⟨(some 8), none, (.mv (.t 21))⟩]) (.seq (.reg [⟨(some 22), none, (.mv (.t 1))⟩, ⟨(some 23), none, (.mv (.t 7))⟩, ⟨(some 24), none, (.iad (.sl 1) (.t 22) (.t 23))⟩, ⟨(some 25), none, (.load false 1 (.t 24))⟩, ⟨(some 9), none, (.mv (.t 25))⟩]) (.seq (.reg [⟨(some 26), none, (.mv (.t 2))⟩, ⟨(some 27), none, (.mv (.t 8))⟩, ⟨(some 28), none, (.mv (.t 9))⟩, ⟨(some 29), none, (.dyn (.t 26) [(.t 27), (.t 28)])⟩, ⟨(some 30), none, (.un .not (.t 29))⟩]) (.cond (.t 30) (.seq (.reg [⟨(some 6), none, (.mv (.k (.c (.v (.bool false)))))⟩]) .ret) .skip))))) (.reg [⟨(some 31), none, (.bin .add .sc (.t 17) (.k (.c (.v (.int .i64 1)))))⟩, ⟨(some 17), none, (.mv (.t 31))⟩]))))
def eqF (c : ACode) : AFn := ⟨32, [(.t 6)], (.seq (.reg [⟨(some 6), none, (.mv (.k (.c (.v (.bool false)))))⟩]) (.seq (.seq (.reg [⟨(some 10), none, (.mv (.t 0))⟩, ⟨(some 11), none, (.len .sl (.t 10))⟩, ⟨(some 12), none, (.mv (.t 1))⟩, ⟨(some 13), none, (.len .sl (.t 12))⟩, ⟨(some 14), none, (.bin .neq .sc (.t 11) (.t 13))⟩]) (.cond (.t 14) (.seq (.reg [⟨(some 6), none, (.mv (.k (.c (.v (.bool false)))))⟩]) .ret) .skip)) (.seq (.seq (.reg [⟨(some 15), none, (.mv (.t 0))⟩, ⟨(some 16), none, (.len .sl (.t 15))⟩, ⟨(some 17), none, (.mv (.k (.c (.v (.int .i64 0)))))⟩]) (.block 0 (.loop c))) (.seq (.reg [⟨(some 6), none, (.mv (.k (.c (.v (.bool true)))))⟩]) .ret))))⟩

/-- What is held at round i. -/
structure EqI {α : Type} (c : α → List Go.Abs.P) (eq : α → α → Bool) (f : FuncId) (k1 k2 : List α) (i : Nat) (s : St) : Prop where
  T : s.T = []
  h1 : s.e 1 = .c (.sl k2.length (k2.flatMap c))
  h2 : s.e 2 = .fn f []
  h15 : s.e 15 = .c (.sl k1.length (k1.flatMap c))
  h16 : s.e 16 = inD k1.length
  h17 : s.e 17 = inD i
  all : ((k1.take i).zip (k2.take i)).all (fun p => eq p.1 p.2) = true

theorem zip_take {α : Type} {eq : α → α → Bool} : ∀ {k1 k2 : List α} {i : Nat} {x y : α}, k1[i]? = some x → k2[i]? = some y →
    ((k1.take (i + 1)).zip (k2.take (i + 1))).all (fun p => eq p.1 p.2) = (((k1.take i).zip (k2.take i)).all (fun p => eq p.1 p.2) && eq x y)
  | [], k2, i, x, y, h, _ => by simp at h
  | a :: k1, [], i, x, y, _, h => by simp at h
  | a :: k1, b :: k2, 0, x, y, h1, h2 => by
    simp only [List.getElem?_cons_zero, Option.some.injEq] at h1 h2
    subst h1; subst h2
    simp
  | a :: k1, b :: k2, i + 1, x, y, h1, h2 => by
    have := zip_take (eq := eq) (k1 := k1) (k2 := k2) (i := i) (x := x) (y := y) (by simpa using h1) (by simpa using h2)
    simp only [List.take_succ_cons, List.zip_cons_cons, List.all_cons] at this ⊢
    rw [this, Bool.and_assoc]
theorem zip_false {α : Type} {eq : α → α → Bool} : ∀ {k1 k2 : List α} {i : Nat} {x y : α}, k1[i]? = some x → k2[i]? = some y → eq x y = false → (k1.zip k2).all (fun p => eq p.1 p.2) = false
  | [], k2, i, x, y, h, _, _ => by simp at h
  | a :: k1, [], i, x, y, _, h, _ => by simp at h
  | a :: k1, b :: k2, 0, x, y, h1, h2, h3 => by
    simp only [List.getElem?_cons_zero, Option.some.injEq] at h1 h2
    subst h1; subst h2
    simp [h3]
  | a :: k1, b :: k2, i + 1, x, y, h1, h2, h3 => by
    have := zip_false (eq := eq) (k1 := k1) (k2 := k2) (i := i) (x := x) (y := y) (by simpa using h1) (by simpa using h2) h3
    simp only [List.zip_cons_cons, List.all_cons, this, Bool.and_false]

set_option maxHeartbeats 1000000 in
theorem run_eqF {f0 : FuncId} {W : Nat} {T : TypeId} {z : List Go.Abs.P} (hF : trFn Tryz.prog f0 = some (eqF (eqL W T z))) (hz : z.length = W) {α : Type} (c : α → List Go.Abs.P) (hc : ∀ x, (c x).length = W) (f : FuncId) (hf1 : f ≠ 51) (hf2 : f ≠ 116) (eq : α → α → Bool) (k1 k2 : List α) (hbd : k1.length < 2 ^ 62)
    (hf : ∀ x ∈ k1, ∀ y ∈ k2, callV orcA F f [.ag ((c x).map .c), .ag ((c y).map .c)] = some (.ret (boD (eq x y)))) :
    callV orcA F f0 [.c (.sl k1.length (k1.flatMap c)), .c (.sl k2.length (k2.flatMap c)), .fn f []] = some (.ret (boD (k1.length == k2.length && (k1.zip k2).all fun p => eq p.1 p.2))) := by
  refine callV_ret hF ?_
  by_cases hl : k1.length = k2.length
  · have hd : ((k1.length : Int) != (k2.length : Int)) = false := by simp [hl]
    have hl' : (k1.length == k2.length) = true := by simp [hl]
    simp only [eqF, hd, hl', DrwE_nil, DrwE_plain, DrwE_guard, GdE_true, GdE_false, DcE_q, DcE_push, DcE_rd, drdE, dcallE, Ex_seq, Ex_reg, Ex_ret, Ex_skip, Ex_exit, Ex_block, Ex_cond', condE_true, condE_false, loopQ_nrm, loopQ_ret, loopQ_ext, blockQ_nrm, blockQ_ret, blockQ_ext, OpsE_plain, OpsE_guard, OpsE_nil, GuE_true, GuE_false, guardD, act, callA, ev, upd, putE, AcE_q, AcE_push, AcE_rd', AcE_wr', rdE, wrE, initE, thenQ_nrm, thenQ_ret, thenQ_ext, retQ, qo_s, convD, D.slc, unBytes_bytesP, bytesP_length, binD, scD, blD, scBin, blBin, strBin, intBin, ressD, mapO, resD, D.frz, frzL, frz_cells, D.closed, closedL, closed_cells, mkV_true, gt0, gtk, st0, stk, List.append_assoc, List.length_append, D.fits, D.cells, partD, mkV_false, setAt, iadD, asI, List.map_cons, List.map_nil, List.getElem?_cons_zero, List.getElem?_cons_succ, List.getElem?_nil, List.length_cons, List.length_nil, List.drop_succ_cons, List.drop_zero, List.take_succ_cons, List.take_zero, List.nil_append, List.cons_append, List.set_cons_zero, List.set_cons_succ, Nat.reduceAdd, Nat.reduceLeDiff, Nat.reduceEqDiff, Nat.reduceBEq, beq_iff_eq, reduceCtorEq, ↓reduceIte, Option.map_some, Option.some.injEq, Bool.true_and, Bool.false_and, Bool.and_true, Bool.and_self, Bool.and_false, Bool.or_self, Bool.false_eq_true, b_ff, b_ft, b_tf, b_tt, Bool.not_true, Bool.not_false, BEq.rfl, decide_true, decide_false, Nat.le_refl, callE, zD, snilD, inilD, tasD, fnilD, AcE_tp, AcE_tw, twE, DcE_tp, appD, appSrc, fillD, fillP, D.pcells, cellPure, thenQ_pan, blockQ_pan, loopQ_pan, cntQ_nrm, cntQ_ret, cntQ_ext, cntQ_pan, indQ_nrm, indQ_ret, indQ_ext, indQ_pan, resQ, panQ_pan, rawQ, unD, and_self, and_true, true_and, not_true_eq_false, not_false_eq_true, Int.cast_ofNat_Int, Int.reduceLT, Int.reduceLE, Int.reduceBEq, Int.reduceToNat, Nat.reduceMul, Int.zero_le_ofNat, orcA]
    refine Ex_loop_cnt k1.length (EqI c eq f k1 k2) ⟨rfl, rfl, rfl, rfl, rfl, rfl, by simp⟩ fun i s hi h => ?_
    rcases Nat.lt_or_ge i k1.length with hlt | hge
    · have hd : decide ((i : Int) < (k1.length : Int)) = true := by simp; omega
      obtain ⟨x, hx⟩ : ∃ x, k1[i]? = some x := ⟨_, List.getElem?_eq_getElem hlt⟩
      obtain ⟨y, hy⟩ : ∃ y, k2[i]? = some y := ⟨_, List.getElem?_eq_getElem (by omega)⟩
      have hr1 : (0 ≤ (i : Int) ∧ (i : Int) < (k1.length : Int)) = True := by simp; omega
      have hr2 : (0 ≤ (i : Int) ∧ (i : Int) < (k2.length : Int)) = True := by simp; omega
      obtain ⟨x1, x2⟩ := seg_at hc hx
      obtain ⟨y1, y2⟩ := seg_at hc hy
      have x3 : List.take W (List.map D.c (c x)) = List.map D.c (c x) := List.take_of_length_le (by simp [hc])
      have y3 : List.take W (List.map D.c (c y)) = List.map D.c (c y) := List.take_of_length_le (by simp [hc])
      have hfx := hf x (List.mem_of_getElem? hx) y (List.mem_of_getElem? hy)
      have sx : setAt (List.map zD z) 0 (List.map D.c (c x)) = List.map D.c (c x) := setAt_all (by simp [hc, hz])
      have sy : setAt (List.map zD z) 0 (List.map D.c (c y)) = List.map D.c (c y) := setAt_all (by simp [hc, hz])
      have hw : IntKind.i64.wrap ((i : Int) + 1) = ((i + 1 : Nat) : Int) := wrap_i64 (by omega) (by omega)
      have hzt := zip_take (eq := eq) hx hy
      cases hE : eq x y with
      | true =>
        simp only [eqL, hf1, hf2, h.h1, h.h2, h.h15, h.h16, h.h17, hd, hr1, hr2, x1, x2, y1, y2, x3, y3, sx, sy, hc, hz, hw, hfx, hE, List.length_map, Int.toNat_natCast, Nat.zero_add, DrwE_nil, DrwE_plain, DrwE_guard, GdE_true, GdE_false, DcE_q, DcE_push, DcE_rd, drdE, dcallE, Ex_seq, Ex_reg, Ex_ret, Ex_skip, Ex_exit, Ex_block, Ex_cond', condE_true, condE_false, loopQ_nrm, loopQ_ret, loopQ_ext, blockQ_nrm, blockQ_ret, blockQ_ext, OpsE_plain, OpsE_guard, OpsE_nil, GuE_true, GuE_false, guardD, act, callA, ev, upd, putE, AcE_q, AcE_push, AcE_rd', AcE_wr', rdE, wrE, initE, thenQ_nrm, thenQ_ret, thenQ_ext, retQ, qo_s, convD, D.slc, unBytes_bytesP, bytesP_length, binD, scD, blD, scBin, blBin, strBin, intBin, ressD, mapO, resD, D.frz, frzL, frz_cells, D.closed, closedL, closed_cells, mkV_true, gt0, gtk, st0, stk, List.append_assoc, List.length_append, D.fits, D.cells, partD, mkV_false, setAt, iadD, asI, List.map_cons, List.map_nil, List.getElem?_cons_zero, List.getElem?_cons_succ, List.getElem?_nil, List.length_cons, List.length_nil, List.drop_succ_cons, List.drop_zero, List.take_succ_cons, List.take_zero, List.nil_append, List.cons_append, List.set_cons_zero, List.set_cons_succ, Nat.reduceAdd, Nat.reduceLeDiff, Nat.reduceEqDiff, Nat.reduceBEq, beq_iff_eq, reduceCtorEq, ↓reduceIte, Option.map_some, Option.some.injEq, Bool.true_and, Bool.false_and, Bool.and_true, Bool.and_self, Bool.and_false, Bool.or_self, Bool.false_eq_true, b_ff, b_ft, b_tf, b_tt, Bool.not_true, Bool.not_false, BEq.rfl, decide_true, decide_false, Nat.le_refl, callE, zD, snilD, inilD, tasD, fnilD, AcE_tp, AcE_tw, twE, DcE_tp, appD, appSrc, fillD, fillP, D.pcells, cellPure, thenQ_pan, blockQ_pan, loopQ_pan, cntQ_nrm, cntQ_ret, cntQ_ext, cntQ_pan, indQ_nrm, indQ_ret, indQ_ext, indQ_pan, resQ, panQ_pan, rawQ, unD, and_self, and_true, true_and, not_true_eq_false, not_false_eq_true, Int.cast_ofNat_Int, Int.reduceLT, Int.reduceLE, Int.reduceBEq, Int.reduceToNat, Nat.reduceMul, Int.zero_le_ofNat, orcA, AcE_call]
        exact ⟨hlt, h.T, by simp [upd, h.h1], by simp [upd, h.h2], by simp [upd, h.h15], by simp [upd, h.h16], by simp [upd], by rw [hzt, h.all, hE]; rfl⟩
      | false =>
        simp only [eqL, hf1, hf2, h.h1, h.h2, h.h15, h.h16, h.h17, hd, hr1, hr2, x1, x2, y1, y2, x3, y3, sx, sy, hc, hz, hw, hfx, hE, zip_false hx hy hE, List.length_map, Int.toNat_natCast, Nat.zero_add, DrwE_nil, DrwE_plain, DrwE_guard, GdE_true, GdE_false, DcE_q, DcE_push, DcE_rd, drdE, dcallE, Ex_seq, Ex_reg, Ex_ret, Ex_skip, Ex_exit, Ex_block, Ex_cond', condE_true, condE_false, loopQ_nrm, loopQ_ret, loopQ_ext, blockQ_nrm, blockQ_ret, blockQ_ext, OpsE_plain, OpsE_guard, OpsE_nil, GuE_true, GuE_false, guardD, act, callA, ev, upd, putE, AcE_q, AcE_push, AcE_rd', AcE_wr', rdE, wrE, initE, thenQ_nrm, thenQ_ret, thenQ_ext, retQ, qo_s, convD, D.slc, unBytes_bytesP, bytesP_length, binD, scD, blD, scBin, blBin, strBin, intBin, ressD, mapO, resD, D.frz, frzL, frz_cells, D.closed, closedL, closed_cells, mkV_true, gt0, gtk, st0, stk, List.append_assoc, List.length_append, D.fits, D.cells, partD, mkV_false, setAt, iadD, asI, List.map_cons, List.map_nil, List.getElem?_cons_zero, List.getElem?_cons_succ, List.getElem?_nil, List.length_cons, List.length_nil, List.drop_succ_cons, List.drop_zero, List.take_succ_cons, List.take_zero, List.nil_append, List.cons_append, List.set_cons_zero, List.set_cons_succ, Nat.reduceAdd, Nat.reduceLeDiff, Nat.reduceEqDiff, Nat.reduceBEq, beq_iff_eq, reduceCtorEq, ↓reduceIte, Option.map_some, Option.some.injEq, Bool.true_and, Bool.false_and, Bool.and_true, Bool.and_self, Bool.and_false, Bool.or_self, Bool.false_eq_true, b_ff, b_ft, b_tf, b_tt, Bool.not_true, Bool.not_false, BEq.rfl, decide_true, decide_false, Nat.le_refl, callE, zD, snilD, inilD, tasD, fnilD, AcE_tp, AcE_tw, twE, DcE_tp, appD, appSrc, fillD, fillP, D.pcells, cellPure, thenQ_pan, blockQ_pan, loopQ_pan, cntQ_nrm, cntQ_ret, cntQ_ext, cntQ_pan, indQ_nrm, indQ_ret, indQ_ext, indQ_pan, resQ, panQ_pan, rawQ, unD, and_self, and_true, true_and, not_true_eq_false, not_false_eq_true, Int.cast_ofNat_Int, Int.reduceLT, Int.reduceLE, Int.reduceBEq, Int.reduceToNat, Nat.reduceMul, Int.zero_le_ofNat, orcA, AcE_call]
    · obtain rfl : i = k1.length := by omega
      have hd : decide ((k1.length : Int) < (k1.length : Int)) = false := by simp
      have ha := h.all
      rw [List.take_length, hl, List.take_length] at ha
      simp only [eqL, h.h1, h.h2, h.h15, h.h16, h.h17, hd, ha, DrwE_nil, DrwE_plain, DrwE_guard, GdE_true, GdE_false, DcE_q, DcE_push, DcE_rd, drdE, dcallE, Ex_seq, Ex_reg, Ex_ret, Ex_skip, Ex_exit, Ex_block, Ex_cond', condE_true, condE_false, loopQ_nrm, loopQ_ret, loopQ_ext, blockQ_nrm, blockQ_ret, blockQ_ext, OpsE_plain, OpsE_guard, OpsE_nil, GuE_true, GuE_false, guardD, act, callA, ev, upd, putE, AcE_q, AcE_push, AcE_rd', AcE_wr', rdE, wrE, initE, thenQ_nrm, thenQ_ret, thenQ_ext, retQ, qo_s, convD, D.slc, unBytes_bytesP, bytesP_length, binD, scD, blD, scBin, blBin, strBin, intBin, ressD, mapO, resD, D.frz, frzL, frz_cells, D.closed, closedL, closed_cells, mkV_true, gt0, gtk, st0, stk, List.append_assoc, List.length_append, D.fits, D.cells, partD, mkV_false, setAt, iadD, asI, List.map_cons, List.map_nil, List.getElem?_cons_zero, List.getElem?_cons_succ, List.getElem?_nil, List.length_cons, List.length_nil, List.drop_succ_cons, List.drop_zero, List.take_succ_cons, List.take_zero, List.nil_append, List.cons_append, List.set_cons_zero, List.set_cons_succ, Nat.reduceAdd, Nat.reduceLeDiff, Nat.reduceEqDiff, Nat.reduceBEq, beq_iff_eq, reduceCtorEq, ↓reduceIte, Option.map_some, Option.some.injEq, Bool.true_and, Bool.false_and, Bool.and_true, Bool.and_self, Bool.and_false, Bool.or_self, Bool.false_eq_true, b_ff, b_ft, b_tf, b_tt, Bool.not_true, Bool.not_false, BEq.rfl, decide_true, decide_false, Nat.le_refl, callE, zD, snilD, inilD, tasD, fnilD, AcE_tp, AcE_tw, twE, DcE_tp, appD, appSrc, fillD, fillP, D.pcells, cellPure, thenQ_pan, blockQ_pan, loopQ_pan, cntQ_nrm, cntQ_ret, cntQ_ext, cntQ_pan, indQ_nrm, indQ_ret, indQ_ext, indQ_pan, resQ, panQ_pan, rawQ, unD, and_self, and_true, true_and, not_true_eq_false, not_false_eq_true, Int.cast_ofNat_Int, Int.reduceLT, Int.reduceLE, Int.reduceBEq, Int.reduceToNat, Nat.reduceMul, Int.zero_le_ofNat, orcA]
  · have hd : ((k1.length : Int) != (k2.length : Int)) = true := by simp; omega
    have hl' : (k1.length == k2.length) = false := by simp [hl]
    simp only [eqF, hd, hl', DrwE_nil, DrwE_plain, DrwE_guard, GdE_true, GdE_false, DcE_q, DcE_push, DcE_rd, drdE, dcallE, Ex_seq, Ex_reg, Ex_ret, Ex_skip, Ex_exit, Ex_block, Ex_cond', condE_true, condE_false, loopQ_nrm, loopQ_ret, loopQ_ext, blockQ_nrm, blockQ_ret, blockQ_ext, OpsE_plain, OpsE_guard, OpsE_nil, GuE_true, GuE_false, guardD, act, callA, ev, upd, putE, AcE_q, AcE_push, AcE_rd', AcE_wr', rdE, wrE, initE, thenQ_nrm, thenQ_ret, thenQ_ext, retQ, qo_s, convD, D.slc, unBytes_bytesP, bytesP_length, binD, scD, blD, scBin, blBin, strBin, intBin, ressD, mapO, resD, D.frz, frzL, frz_cells, D.closed, closedL, closed_cells, mkV_true, gt0, gtk, st0, stk, List.append_assoc, List.length_append, D.fits, D.cells, partD, mkV_false, setAt, iadD, asI, List.map_cons, List.map_nil, List.getElem?_cons_zero, List.getElem?_cons_succ, List.getElem?_nil, List.length_cons, List.length_nil, List.drop_succ_cons, List.drop_zero, List.take_succ_cons, List.take_zero, List.nil_append, List.cons_append, List.set_cons_zero, List.set_cons_succ, Nat.reduceAdd, Nat.reduceLeDiff, Nat.reduceEqDiff, Nat.reduceBEq, beq_iff_eq, reduceCtorEq, ↓reduceIte, Option.map_some, Option.some.injEq, Bool.true_and, Bool.false_and, Bool.and_true, Bool.and_self, Bool.and_false, Bool.or_self, Bool.false_eq_true, b_ff, b_ft, b_tf, b_tt, Bool.not_true, Bool.not_false, BEq.rfl, decide_true, decide_false, Nat.le_refl, callE, zD, snilD, inilD, tasD, fnilD, AcE_tp, AcE_tw, twE, DcE_tp, appD, appSrc, fillD, fillP, D.pcells, cellPure, thenQ_pan, blockQ_pan, loopQ_pan, cntQ_nrm, cntQ_ret, cntQ_ext, cntQ_pan, indQ_nrm, indQ_ret, indQ_ext, indQ_pan, resQ, panQ_pan, rawQ, unD, and_self, and_true, true_and, not_true_eq_false, not_false_eq_true, Int.cast_ofNat_Int, Int.reduceLT, Int.reduceLE, Int.reduceBEq, Int.reduceToNat, Nat.reduceMul, Int.zero_le_ofNat, orcA]
end Go.Proofs.YthglfhnlolefhaaGreatDoor

end
section
/- The compiled code of functions 77 79 80 81 82 125 126, printed by a program; each is what the compiler 'trFn' gives. -/
set_option maxRecDepth 100000
namespace Go.Proofs.YthglfhnlolefhaaGreatDoor
open Go.Abs
def c77L0 : ACode := (.seq (.reg [⟨(some 32), none, (.bin .lss .sc (.t 31) (.t 30))⟩]) (.seq (.cond (.t 32) .skip (.exit 0)) (.seq (.block 1 (.seq (.reg [⟨(some 33), none, (.mv (.t 31))⟩, ⟨(some 5), none, (.mv (.t 33))⟩]) (.seq (.reg [⟨(some 34), none, (.fad 3 (.t 2))⟩, ⟨(some 35), none, (.load false 1 (.t 34))⟩, ⟨(some 36), none, (.mv (.t 5))⟩, ⟨(some 37), none, (.iad (.sl 1) (.t 35) (.t 36))⟩, ⟨(some 38), none, (.load false 1 (.t 37))⟩, ⟨(some 39), none, (.len .sl (.t 38))⟩, ⟨(some 40), none, (.bin .gtr .sc (.t 39) (.k (.c (.v (.int .i64 5000)))))⟩]) (.cond (.t 40) (.seq (.reg [⟨(some 4), none, (.mv (.k (.c (.v (.bool true)))))⟩]) .ret) .skip)))) (.reg [⟨(some 41), none, (.bin .add .sc (.t 31) (.k (.c (.v (.int .i64 1)))))⟩, ⟨(some 31), none, (.mv (.t 41))⟩]))))
def c77L1 : ACode := (.seq (.reg [⟨(some 46), none, (.bin .lss .sc (.t 45) (.t 44))⟩]) (.seq (.cond (.t 46) .skip (.exit 2)) (.seq (.block 3 (.seq (.reg [⟨(some 47), none, (.mv (.t 45))⟩, ⟨(some 6), none, (.mv (.t 47))⟩]) (.seq (.reg [⟨(some 48), none, (.fad 5 (.t 2))⟩, ⟨(some 49), none, (.load false 1 (.t 48))⟩, ⟨(some 50), none, (.mv (.t 6))⟩, ⟨(some 51), none, (.iad (.sl 6) (.t 49) (.t 50))⟩, ⟨(some 52), none, (.load true 6 (.t 51))⟩, ⟨(some 53), none, (.mv (.t 1))⟩, ⟨(some 54), none, (.bin .add .sc (.t 53) (.k (.c (.v (.int .i64 1)))))⟩, ⟨(some 55), none, (.call 77 [(.t 52), (.t 54)])⟩]) (.cond (.t 55) (.seq (.reg [⟨(some 4), none, (.mv (.k (.c (.v (.bool true)))))⟩]) .ret) .skip)))) (.reg [⟨(some 56), none, (.bin .add .sc (.t 45) (.k (.c (.v (.int .i64 1)))))⟩, ⟨(some 45), none, (.mv (.t 56))⟩]))))
def c77 : AFn := ⟨57, [(.t 4)], (.seq (.reg [⟨(some 2), none, (.box 54 6 (.t 0))⟩, ⟨(some 4), none, (.mv (.k (.c (.v (.bool false)))))⟩]) (.seq (.seq (.reg [⟨(some 7), none, (.mv (.t 1))⟩, ⟨(some 8), none, (.bin .gtr .sc (.t 7) (.k (.c (.v (.int .i64 6)))))⟩, ⟨(some 9), none, (.mv (.t 8))⟩, ⟨(some 10), (some (9, false)), (.fad 5 (.t 2))⟩, ⟨(some 11), (some (9, false)), (.load false 1 (.t 10))⟩, ⟨(some 12), (some (9, false)), (.len .sl (.t 11))⟩, ⟨(some 13), (some (9, false)), (.bin .gtr .sc (.t 12) (.k (.c (.v (.int .i64 12)))))⟩, ⟨(some 14), none, (.pick (.t 9) (.k (.c (.v (.bool true)))) (.t 13))⟩, ⟨(some 15), none, (.mv (.t 14))⟩, ⟨(some 16), (some (15, false)), (.fad 3 (.t 2))⟩, ⟨(some 17), (some (15, false)), (.load false 1 (.t 16))⟩, ⟨(some 18), (some (15, false)), (.len .sl (.t 17))⟩, ⟨(some 19), (some (15, false)), (.bin .gtr .sc (.t 18) (.k (.c (.v (.int .i64 12)))))⟩, ⟨(some 20), none, (.pick (.t 15) (.k (.c (.v (.bool true)))) (.t 19))⟩, ⟨(some 21), none, (.mv (.t 20))⟩, ⟨(some 22), (some (21, false)), (.fad 1 (.t 2))⟩, ⟨(some 23), (some (21, false)), (.fad 1 (.t 22))⟩, ⟨(some 24), (some (21, false)), (.load false 1 (.t 23))⟩, ⟨(some 25), (some (21, false)), (.len .sl (.t 24))⟩, ⟨(some 26), (some (21, false)), (.bin .gtr .sc (.t 25) (.k (.c (.v (.int .i64 200)))))⟩, ⟨(some 27), none, (.pick (.t 21) (.k (.c (.v (.bool true)))) (.t 26))⟩]) (.cond (.t 27) (.seq (.reg [⟨(some 4), none, (.mv (.k (.c (.v (.bool true)))))⟩]) .ret) .skip)) (.seq (.seq (.reg [⟨(some 28), none, (.fad 3 (.t 2))⟩, ⟨(some 29), none, (.load false 1 (.t 28))⟩, ⟨(some 30), none, (.len .sl (.t 29))⟩, ⟨(some 31), none, (.mv (.k (.c (.v (.int .i64 0)))))⟩]) (.block 0 (.loop c77L0))) (.seq (.seq (.reg [⟨(some 42), none, (.fad 5 (.t 2))⟩, ⟨(some 43), none, (.load false 1 (.t 42))⟩, ⟨(some 44), none, (.len .sl (.t 43))⟩, ⟨(some 45), none, (.mv (.k (.c (.v (.int .i64 0)))))⟩]) (.block 2 (.loop c77L1))) (.seq (.reg [⟨(some 4), none, (.mv (.k (.c (.v (.bool false)))))⟩]) .ret)))))⟩
theorem tr77 : trFn Tryz.prog 77 = some c77 := by kernel_rfl
def c79 : AFn := ⟨17, [(.t 4)], (.seq (.reg [⟨(some 2), none, (.box 50 2 (.t 0))⟩, ⟨(some 3), none, (.box 50 2 (.t 1))⟩, ⟨(some 4), none, (.mv (.k (.c (.v (.bool false)))))⟩]) (.seq (.reg [⟨(some 5), none, (.fad 0 (.t 2))⟩, ⟨(some 6), none, (.load false 1 (.t 5))⟩, ⟨(some 7), none, (.fad 0 (.t 3))⟩, ⟨(some 8), none, (.load false 1 (.t 7))⟩, ⟨(some 9), none, (.bin .eql .bl (.t 6) (.t 8))⟩, ⟨(some 10), none, (.mv (.t 9))⟩, ⟨(some 11), (some (10, true)), (.fad 1 (.t 2))⟩, ⟨(some 12), (some (10, true)), (.load false 1 (.t 11))⟩, ⟨(some 13), (some (10, true)), (.fad 1 (.t 3))⟩, ⟨(some 14), (some (10, true)), (.load false 1 (.t 13))⟩, ⟨(some 15), (some (10, true)), (.call 68 [(.t 12), (.t 14)])⟩, ⟨(some 16), none, (.pick (.t 10) (.t 15) (.k (.c (.v (.bool false)))))⟩, ⟨(some 4), none, (.mv (.t 16))⟩]) .ret))⟩
theorem tr79 : trFn Tryz.prog 79 = some c79 := by kernel_rfl
def c80 : AFn := ⟨38, [(.t 4)], (.seq (.reg [⟨(some 2), none, (.box 54 6 (.t 0))⟩, ⟨(some 3), none, (.box 54 6 (.t 1))⟩, ⟨(some 4), none, (.mv (.k (.c (.v (.bool false)))))⟩]) (.seq (.reg [⟨(some 5), none, (.fad 0 (.t 2))⟩, ⟨(some 6), none, (.load false 1 (.t 5))⟩, ⟨(some 7), none, (.fad 0 (.t 3))⟩, ⟨(some 8), none, (.load false 1 (.t 7))⟩, ⟨(some 9), none, (.bin .eql .sc (.t 6) (.t 8))⟩, ⟨(some 10), none, (.mv (.t 9))⟩, ⟨(some 11), (some (10, true)), (.fad 4 (.t 2))⟩, ⟨(some 12), (some (10, true)), (.load false 1 (.t 11))⟩, ⟨(some 13), (some (10, true)), (.fad 4 (.t 3))⟩, ⟨(some 14), (some (10, true)), (.load false 1 (.t 13))⟩, ⟨(some 15), (some (10, true)), (.bin .eql .sc (.t 12) (.t 14))⟩, ⟨(some 16), none, (.pick (.t 10) (.t 15) (.k (.c (.v (.bool false)))))⟩, ⟨(some 17), none, (.mv (.t 16))⟩, ⟨(some 18), (some (17, true)), (.fad 1 (.t 2))⟩, ⟨(some 19), (some (17, true)), (.load true 2 (.t 18))⟩, ⟨(some 20), (some (17, true)), (.fad 1 (.t 3))⟩, ⟨(some 21), (some (17, true)), (.load true 2 (.t 20))⟩, ⟨(some 22), (some (17, true)), (.call 79 [(.t 19), (.t 21)])⟩, ⟨(some 23), none, (.pick (.t 17) (.t 22) (.k (.c (.v (.bool false)))))⟩, ⟨(some 24), none, (.mv (.t 23))⟩, ⟨(some 25), (some (24, true)), (.fad 3 (.t 2))⟩, ⟨(some 26), (some (24, true)), (.load false 1 (.t 25))⟩, ⟨(some 27), (some (24, true)), (.fad 3 (.t 3))⟩, ⟨(some 28), (some (24, true)), (.load false 1 (.t 27))⟩, ⟨(some 29), (some (24, true)), (.call 125 [(.t 26), (.t 28), (.f 68)])⟩, ⟨(some 30), none, (.pick (.t 24) (.t 29) (.k (.c (.v (.bool false)))))⟩, ⟨(some 31), none, (.mv (.t 30))⟩, ⟨(some 32), (some (31, true)), (.fad 5 (.t 2))⟩, ⟨(some 33), (some (31, true)), (.load false 1 (.t 32))⟩, ⟨(some 34), (some (31, true)), (.fad 5 (.t 3))⟩, ⟨(some 35), (some (31, true)), (.load false 1 (.t 34))⟩, ⟨(some 36), (some (31, true)), (.call 126 [(.t 33), (.t 35), (.f 80)])⟩, ⟨(some 37), none, (.pick (.t 31) (.t 36) (.k (.c (.v (.bool false)))))⟩, ⟨(some 4), none, (.mv (.t 37))⟩]) .ret))⟩
theorem tr80 : trFn Tryz.prog 80 = some c80 := by kernel_rfl
def c81 : AFn := ⟨19, [(.t 4)], (.seq (.reg [⟨(some 2), none, (.box 50 2 (.t 0))⟩, ⟨(some 3), none, (.box 50 2 (.t 1))⟩, ⟨(some 4), none, (.mv (.k (.c (.v (.bool false)))))⟩]) (.seq (.reg [⟨(some 5), none, (.fad 0 (.t 2))⟩, ⟨(some 6), none, (.load false 1 (.t 5))⟩, ⟨(some 7), none, (.fad 0 (.t 3))⟩, ⟨(some 8), none, (.load false 1 (.t 7))⟩, ⟨(some 9), none, (.bin .eql .bl (.t 6) (.t 8))⟩, ⟨(some 10), none, (.mv (.t 9))⟩, ⟨(some 11), (some (10, true)), (.fad 1 (.t 2))⟩, ⟨(some 12), (some (10, true)), (.load false 1 (.t 11))⟩, ⟨(some 13), (some (10, true)), (.conv .b2s (.t 12))⟩, ⟨(some 14), (some (10, true)), (.fad 1 (.t 3))⟩, ⟨(some 15), (some (10, true)), (.load false 1 (.t 14))⟩, ⟨(some 16), (some (10, true)), (.conv .b2s (.t 15))⟩, ⟨(some 17), (some (10, true)), (.bin .eql .sc (.t 13) (.t 16))⟩, ⟨(some 18), none, (.pick (.t 10) (.t 17) (.k (.c (.v (.bool false)))))⟩, ⟨(some 4), none, (.mv (.t 18))⟩]) .ret))⟩
theorem tr81 : trFn Tryz.prog 81 = some c81 := by kernel_rfl
def c82L0 : ACode := (.seq (.reg [⟨(some 49), none, (.bin .lss .sc (.t 48) (.t 47))⟩]) (.seq (.cond (.t 49) .skip (.exit 0)) (.seq (.block 1 (.seq (.reg [⟨(some 50), none, (.mv (.t 48))⟩, ⟨(some 5), none, (.mv (.t 50))⟩]) (.seq (.drw [⟨(some 51), none, (.fad 3 (.t 2))⟩, ⟨(some 52), none, (.load false 1 (.t 51))⟩, ⟨(some 53), none, (.mv (.t 5))⟩, ⟨(some 54), none, (.iad (.sl 1) (.t 52) (.t 53))⟩, ⟨(some 55), none, (.load false 1 (.t 54))⟩, ⟨(some 56), none, (.conv .b2s (.t 55))⟩, ⟨(some 57), none, (.fad 3 (.t 3))⟩, ⟨(some 58), none, (.load false 1 (.t 57))⟩, ⟨(some 59), none, (.mv (.t 5))⟩, ⟨(some 60), none, (.iad (.sl 1) (.t 58) (.t 59))⟩, ⟨(some 61), none, (.load false 1 (.t 60))⟩, ⟨(some 62), none, (.conv .b2s (.t 61))⟩, ⟨(some 63), none, (.bin .neq .sc (.t 56) (.t 62))⟩] [(0, 2), (1, 2), (0, 3), (0, 4), (1, 4), (2, 4), (0, 5), (1, 5), (2, 5), (3, 5), (0, 6), (1, 6), (2, 6), (3, 6), (4, 6), (5, 6), (0, 7), (1, 7), (2, 7), (3, 7), (4, 7), (5, 7), (0, 8), (1, 8), (2, 8), (3, 8), (4, 8), (5, 8), (6, 8), (7, 8), (0, 9), (1, 9), (2, 9), (3, 9), (4, 9), (5, 9), (6, 9), (0, 10), (1, 10), (2, 10), (3, 10), (4, 10), (5, 10), (6, 10), (7, 10), (8, 10), (0, 11), (1, 11), (2, 11), (3, 11), (4, 11), (5, 11), (6, 11), (7, 11), (8, 11), (9, 11), (0, 12), (1, 12), (2, 12), (3, 12), (4, 12), (6, 12), (7, 12), (8, 12), (9, 12), (10, 12)]) (.cond (.t 63) (.seq (.reg [⟨(some 4), none, (.mv (.k (.c (.v (.bool false)))))⟩]) .ret) .skip)))) (.reg [⟨(some 64), none, (.bin .add .sc (.t 48) (.k (.c (.v (.int .i64 1)))))⟩, ⟨(some 48), none, (.mv (.t 64))⟩]))))
def c82L1 : ACode := (.seq (.reg [⟨(some 69), none, (.bin .lss .sc (.t 68) (.t 67))⟩]) (.seq (.cond (.t 69) .skip (.exit 2)) (.seq (.block 3 (.seq (.reg [⟨(some 70), none, (.mv (.t 68))⟩, ⟨(some 6), none, (.mv (.t 70))⟩]) (.seq (.drw [⟨(some 71), none, (.fad 5 (.t 2))⟩, ⟨(some 72), none, (.load false 1 (.t 71))⟩, ⟨(some 73), none, (.mv (.t 6))⟩, ⟨(some 74), none, (.iad (.sl 6) (.t 72) (.t 73))⟩, ⟨(some 75), none, (.load true 6 (.t 74))⟩, ⟨(some 76), none, (.fad 5 (.t 3))⟩, ⟨(some 77), none, (.load false 1 (.t 76))⟩, ⟨(some 78), none, (.mv (.t 6))⟩, ⟨(some 79), none, (.iad (.sl 6) (.t 77) (.t 78))⟩, ⟨(some 80), none, (.load true 6 (.t 79))⟩, ⟨(some 81), none, (.call 82 [(.t 75), (.t 80)])⟩, ⟨(some 82), none, (.un .not (.t 81))⟩] [(0, 2), (1, 2), (0, 3), (0, 4), (1, 4), (2, 4), (0, 5), (1, 5), (2, 5), (3, 5), (4, 5), (0, 6), (1, 6), (2, 6), (3, 6), (4, 6), (0, 7), (1, 7), (2, 7), (3, 7), (4, 7), (5, 7), (6, 7), (0, 8), (1, 8), (2, 8), (3, 8), (4, 8), (5, 8), (0, 9), (1, 9), (2, 9), (3, 9), (4, 9), (5, 9), (6, 9), (7, 9), (0, 10), (1, 10), (2, 10), (3, 10), (5, 10), (6, 10), (7, 10), (8, 10), (0, 11), (1, 11), (2, 11), (3, 11), (4, 11), (5, 11), (6, 11), (7, 11), (8, 11), (9, 11)]) (.cond (.t 82) (.seq (.reg [⟨(some 4), none, (.mv (.k (.c (.v (.bool false)))))⟩]) .ret) .skip)))) (.reg [⟨(some 83), none, (.bin .add .sc (.t 68) (.k (.c (.v (.int .i64 1)))))⟩, ⟨(some 68), none, (.mv (.t 83))⟩]))))
def c82 : AFn := ⟨84, [(.t 4)], (.seq (.reg [⟨(some 2), none, (.box 54 6 (.t 0))⟩, ⟨(some 3), none, (.box 54 6 (.t 1))⟩, ⟨(some 4), none, (.mv (.k (.c (.v (.bool false)))))⟩]) (.seq (.seq (.reg [⟨(some 7), none, (.fad 0 (.t 2))⟩, ⟨(some 8), none, (.load false 1 (.t 7))⟩, ⟨(some 9), none, (.fad 0 (.t 3))⟩, ⟨(some 10), none, (.load false 1 (.t 9))⟩, ⟨(some 11), none, (.bin .neq .sc (.t 8) (.t 10))⟩, ⟨(some 12), none, (.mv (.t 11))⟩, ⟨(some 13), (some (12, false)), (.fad 4 (.t 2))⟩, ⟨(some 14), (some (12, false)), (.load false 1 (.t 13))⟩, ⟨(some 15), (some (12, false)), (.fad 4 (.t 3))⟩, ⟨(some 16), (some (12, false)), (.load false 1 (.t 15))⟩, ⟨(some 17), (some (12, false)), (.bin .neq .sc (.t 14) (.t 16))⟩, ⟨(some 18), none, (.pick (.t 12) (.k (.c (.v (.bool true)))) (.t 17))⟩, ⟨(some 19), none, (.mv (.t 18))⟩, ⟨(some 20), (some (19, false)), (.fad 1 (.t 2))⟩, ⟨(some 21), (some (19, false)), (.load true 2 (.t 20))⟩, ⟨(some 22), (some (19, false)), (.fad 1 (.t 3))⟩, ⟨(some 23), (some (19, false)), (.load true 2 (.t 22))⟩, ⟨(some 24), (some (19, false)), (.call 81 [(.t 21), (.t 23)])⟩, ⟨(some 25), (some (19, false)), (.un .not (.t 24))⟩, ⟨(some 26), none, (.pick (.t 19) (.k (.c (.v (.bool true)))) (.t 25))⟩, ⟨(some 27), none, (.mv (.t 26))⟩, ⟨(some 28), (some (27, false)), (.fad 3 (.t 2))⟩, ⟨(some 29), (some (27, false)), (.load false 1 (.t 28))⟩, ⟨(some 30), (some (27, false)), (.len .sl (.t 29))⟩, ⟨(some 31), (some (27, false)), (.fad 3 (.t 3))⟩, ⟨(some 32), (some (27, false)), (.load false 1 (.t 31))⟩, ⟨(some 33), (some (27, false)), (.len .sl (.t 32))⟩, ⟨(some 34), (some (27, false)), (.bin .neq .sc (.t 30) (.t 33))⟩, ⟨(some 35), none, (.pick (.t 27) (.k (.c (.v (.bool true)))) (.t 34))⟩, ⟨(some 36), none, (.mv (.t 35))⟩, ⟨(some 37), (some (36, false)), (.fad 5 (.t 2))⟩, ⟨(some 38), (some (36, false)), (.load false 1 (.t 37))⟩, ⟨(some 39), (some (36, false)), (.len .sl (.t 38))⟩, ⟨(some 40), (some (36, false)), (.fad 5 (.t 3))⟩, ⟨(some 41), (some (36, false)), (.load false 1 (.t 40))⟩, ⟨(some 42), (some (36, false)), (.len .sl (.t 41))⟩, ⟨(some 43), (some (36, false)), (.bin .neq .sc (.t 39) (.t 42))⟩, ⟨(some 44), none, (.pick (.t 36) (.k (.c (.v (.bool true)))) (.t 43))⟩]) (.cond (.t 44) (.seq (.reg [⟨(some 4), none, (.mv (.k (.c (.v (.bool false)))))⟩]) .ret) .skip)) (.seq (.seq (.reg [⟨(some 45), none, (.fad 3 (.t 2))⟩, ⟨(some 46), none, (.load false 1 (.t 45))⟩, ⟨(some 47), none, (.len .sl (.t 46))⟩, ⟨(some 48), none, (.mv (.k (.c (.v (.int .i64 0)))))⟩]) (.block 0 (.loop c82L0))) (.seq (.seq (.reg [⟨(some 65), none, (.fad 5 (.t 2))⟩, ⟨(some 66), none, (.load false 1 (.t 65))⟩, ⟨(some 67), none, (.len .sl (.t 66))⟩, ⟨(some 68), none, (.mv (.k (.c (.v (.int .i64 0)))))⟩]) (.block 2 (.loop c82L1))) (.seq (.reg [⟨(some 4), none, (.mv (.k (.c (.v (.bool true)))))⟩]) .ret)))))⟩
theorem tr82 : trFn Tryz.prog 82 = some c82 := by kernel_rfl
def c125L0 : ACode := (.seq (.reg [⟨(some 18), none, (.bin .lss .sc (.t 17) (.t 16))⟩]) (.seq (.cond (.t 18) .skip (.exit 0)) (.seq (.block 1 (.seq (.reg [⟨(some 19), none, (.mv (.t 17))⟩, ⟨(some 20), none, (.iad (.sl 1) (.t 15) (.t 17))⟩, ⟨(some 21), none, (.load false 1 (.t 20))⟩, ⟨(some 7), none, (.mv (.t 19))⟩, ⟨(some 8), none, (.mv (.t 21))⟩]) (.seq (.reg [⟨(some 22), none, (.mv (.t 1))⟩, ⟨(some 23), none, (.mv (.t 7))⟩, ⟨(some 24), none, (.iad (.sl 1) (.t 22) (.t 23))⟩, ⟨(some 25), none, (.load false 1 (.t 24))⟩, ⟨(some 9), none, (.mv (.t 25))⟩]) (.seq (.reg [⟨(some 26), none, (.mv (.t 2))⟩, ⟨(some 27), none, (.mv (.t 8))⟩, ⟨(some 28), none, (.mv (.t 9))⟩, ⟨(some 29), none, (.dyn (.t 26) [(.t 27), (.t 28)])⟩, ⟨(some 30), none, (.un .not (.t 29))⟩]) (.cond (.t 30) (.seq (.reg [⟨(some 6), none, (.mv (.k (.c (.v (.bool false)))))⟩]) .ret) .skip))))) (.reg [⟨(some 31), none, (.bin .add .sc (.t 17) (.k (.c (.v (.int .i64 1)))))⟩, ⟨(some 17), none, (.mv (.t 31))⟩]))))
def c125 : AFn := ⟨32, [(.t 6)], (.seq (.reg [⟨(some 6), none, (.mv (.k (.c (.v (.bool false)))))⟩]) (.seq (.seq (.reg [⟨(some 10), none, (.mv (.t 0))⟩, ⟨(some 11), none, (.len .sl (.t 10))⟩, ⟨(some 12), none, (.mv (.t 1))⟩, ⟨(some 13), none, (.len .sl (.t 12))⟩, ⟨(some 14), none, (.bin .neq .sc (.t 11) (.t 13))⟩]) (.cond (.t 14) (.seq (.reg [⟨(some 6), none, (.mv (.k (.c (.v (.bool false)))))⟩]) .ret) .skip)) (.seq (.seq (.reg [⟨(some 15), none, (.mv (.t 0))⟩, ⟨(some 16), none, (.len .sl (.t 15))⟩, ⟨(some 17), none, (.mv (.k (.c (.v (.int .i64 0)))))⟩]) (.block 0 (.loop c125L0))) (.seq (.reg [⟨(some 6), none, (.mv (.k (.c (.v (.bool true)))))⟩]) .ret))))⟩
theorem tr125 : trFn Tryz.prog 125 = some c125 := by kernel_rfl
def c126L0 : ACode := (.seq (.reg [⟨(some 18), none, (.bin .lss .sc (.t 17) (.t 16))⟩]) (.seq (.cond (.t 18) .skip (.exit 0)) (.seq (.block 1 (.seq (.reg [⟨(some 19), none, (.mv (.t 17))⟩, ⟨(some 20), none, (.iad (.sl 6) (.t 15) (.t 17))⟩, ⟨(some 21), none, (.load true 6 (.t 20))⟩, ⟨(some 8), none, (.alloc 54 [(.v (.int .u8 0)), (.v (.bool false)), (.sl 0 []), (.sl 0 []), (.v (.int .i64 0)), (.sl 0 [])])⟩, ⟨(some 7), none, (.mv (.t 19))⟩, ⟨none, none, (.store 6 (.t 8) (.t 21))⟩]) (.seq (.reg [⟨(some 22), none, (.mv (.t 1))⟩, ⟨(some 23), none, (.mv (.t 7))⟩, ⟨(some 24), none, (.iad (.sl 6) (.t 22) (.t 23))⟩, ⟨(some 25), none, (.load true 6 (.t 24))⟩, ⟨(some 9), none, (.alloc 54 [(.v (.int .u8 0)), (.v (.bool false)), (.sl 0 []), (.sl 0 []), (.v (.int .i64 0)), (.sl 0 [])])⟩, ⟨none, none, (.store 6 (.t 9) (.t 25))⟩]) (.seq (.reg [⟨(some 26), none, (.mv (.t 2))⟩, ⟨(some 27), none, (.load true 6 (.t 8))⟩, ⟨(some 28), none, (.load true 6 (.t 9))⟩, ⟨(some 29), none, (.dyn (.t 26) [(.t 27), (.t 28)])⟩, ⟨(some 30), none, (.un .not (.t 29))⟩]) (.cond (.t 30) (.seq (.reg [⟨(some 6), none, (.mv (.k (.c (.v (.bool false)))))⟩]) .ret) .skip))))) (.reg [⟨(some 31), none, (.bin .add .sc (.t 17) (.k (.c (.v (.int .i64 1)))))⟩, ⟨(some 17), none, (.mv (.t 31))⟩]))))
def c126 : AFn := ⟨32, [(.t 6)], (.seq (.reg [⟨(some 6), none, (.mv (.k (.c (.v (.bool false)))))⟩]) (.seq (.seq (.reg [⟨(some 10), none, (.mv (.t 0))⟩, ⟨(some 11), none, (.len .sl (.t 10))⟩, ⟨(some 12), none, (.mv (.t 1))⟩, ⟨(some 13), none, (.len .sl (.t 12))⟩, ⟨(some 14), none, (.bin .neq .sc (.t 11) (.t 13))⟩]) (.cond (.t 14) (.seq (.reg [⟨(some 6), none, (.mv (.k (.c (.v (.bool false)))))⟩]) .ret) .skip)) (.seq (.seq (.reg [⟨(some 15), none, (.mv (.t 0))⟩, ⟨(some 16), none, (.len .sl (.t 15))⟩, ⟨(some 17), none, (.mv (.k (.c (.v (.int .i64 0)))))⟩]) (.block 0 (.loop c126L0))) (.seq (.reg [⟨(some 6), none, (.mv (.k (.c (.v (.bool true)))))⟩]) .ret))))⟩
theorem tr126 : trFn Tryz.prog 126 = some c126 := by kernel_rfl
end Go.Proofs.YthglfhnlolefhaaGreatDoor

end
section
/- Own: subjects on pure data: subject.Same, greffierref16.Same, Great. -/
set_option maxRecDepth 100000
set_option linter.unusedSimpArgs false
set_option linter.unusedVariables false
namespace Go.Proofs.YthglfhnlolefhaaGreatDoor
open Go.Abs
/-- Subjects. -/
inductive Sj where
  | mk (kind : UInt8) (sum : Bool) (kd : List UInt8) (names : List (List UInt8)) (k : Int) (kids : List Sj)
def nmC (b : List UInt8) : List Go.Abs.P := [byP b]
theorem nmC_len (b : List UInt8) : (nmC b).length = 1 := rfl
mutual
def Sj.cells : Sj → List Go.Abs.P
  | .mk kind sum kd names k kids => [byteP kind, boP sum, byP kd, .sl names.length (names.flatMap nmC), .v (.int .i64 k), .sl kids.length (sjC kids)]
def sjC : List Sj → List Go.Abs.P
  | [] => []
  | t :: r => t.cells ++ sjC r
end
def nmSame (a b : List (List UInt8)) : Bool := a.length == b.length && (a.zip b).all fun p => p.1 == p.2
mutual
def Sj.same : Sj → Sj → Bool
  | .mk kind sum kd names k kids, .mk kind' sum' kd' names' k' kids' => kind == kind' && k == k' && (sum == sum' && kd == kd') && nmSame names names' && sjSame kids kids'
def sjSame : List Sj → List Sj → Bool
  | [], [] => true
  | x :: xs, y :: ys => x.same y && sjSame xs ys
  | _, _ => false
end
theorem sjC_eq : ∀ l : List Sj, sjC l = l.flatMap Sj.cells
  | [] => rfl
  | t :: r => by rw [sjC, sjC_eq r]; rfl
theorem sj_len (t : Sj) : t.cells.length = 6 := by cases t; rfl
theorem sjSame_eq : ∀ l r : List Sj, sjSame l r = (l.length == r.length && (l.zip r).all fun p => p.1.same p.2)
  | [], [] => rfl
  | [], y :: r => by simp [sjSame]
  | x :: l, [] => by simp [sjSame]
  | x :: l, y :: r => by
    rw [sjSame, sjSame_eq l r]
    simp only [List.length_cons, List.zip_cons_cons, List.all_cons]
    cases x.same y <;> cases h : (l.length == r.length) <;> simp_all
theorem sj_mk (kind : UInt8) (sum : Bool) (kd : List UInt8) (names : List (List UInt8)) (k : Int) (kids : List Sj) :
    (Sj.mk kind sum kd names k kids).cells = [byteP kind, boP sum, byP kd, .sl names.length (names.flatMap nmC), .v (.int .i64 k), .sl kids.length (kids.flatMap Sj.cells)] := by
  rw [← sjC_eq]; rfl
theorem sj_same_mk (kind kind' : UInt8) (sum sum' : Bool) (kd kd' : List UInt8) (names names' : List (List UInt8)) (k k' : Int) (kids kids' : List Sj) :
    (Sj.mk kind sum kd names k kids).same (Sj.mk kind' sum' kd' names' k' kids') =
      (kind == kind' && k == k' && (sum == sum' && kd == kd') && nmSame names names' && (kids.length == kids'.length && (kids.zip kids').all fun p => p.1.same p.2)) := by
  rw [← sjSame_eq]; rfl
inductive Sj.ok : Sj → Prop
  | mk {kind sum kd names k kids} (hn : names.length < 2 ^ 62) (h : kids.length < 2 ^ 62) (hk : ∀ x ∈ kids, x.ok) : Sj.ok (.mk kind sum kd names k kids)

theorem zip_self {α : Type} {eq : α → α → Bool} : ∀ (l : List α), (∀ x ∈ l, eq x x = true) → (l.zip l).all (fun p => eq p.1 p.2) = true
  | [], _ => rfl
  | x :: l, h => by
    rw [List.zip_cons_cons, List.all_cons, h x List.mem_cons_self, zip_self l fun y hy => h y (List.mem_cons_of_mem _ hy)]; rfl
theorem sj_self (a : Sj) (ha : a.ok) : a.same a = true := by
  induction ha with
  | @mk kind sum kd names k kids hn h hk ih =>
    rw [sj_same_mk, nmSame, zip_self names (fun x _ => BEq.rfl), zip_self kids ih]
    simp

set_option maxHeartbeats 1000000 in
theorem run79 (s1 s2 : Bool) (d1 d2 : List UInt8) : callV orcA F 79 [.ag [boD s1, byD d1], .ag [boD s2, byD d2]] = some (.ret (boD (s1 == s2 && d1 == d2))) := by
  refine callV_ret tr79 ?_
  cases hs : (s1 == s2) <;> simp only [c79, hs, DrwE_nil, DrwE_plain, DrwE_guard, GdE_true, GdE_false, DcE_q, DcE_push, DcE_rd, drdE, dcallE, Ex_seq, Ex_reg, Ex_ret, Ex_skip, Ex_exit, Ex_block, Ex_cond', condE_true, condE_false, loopQ_nrm, loopQ_ret, loopQ_ext, blockQ_nrm, blockQ_ret, blockQ_ext, OpsE_plain, OpsE_guard, OpsE_nil, GuE_true, GuE_false, guardD, act, callA, ev, upd, putE, AcE_q, AcE_push, AcE_rd', AcE_wr', rdE, wrE, initE, thenQ_nrm, thenQ_ret, thenQ_ext, retQ, qo_s, convD, D.slc, unBytes_bytesP, bytesP_length, binD, scD, blD, scBin, blBin, strBin, intBin, ressD, mapO, resD, D.frz, frzL, frz_cells, D.closed, closedL, closed_cells, mkV_true, gt0, gtk, st0, stk, List.append_assoc, List.length_append, D.fits, D.cells, partD, mkV_false, setAt, iadD, asI, List.map_cons, List.map_nil, List.getElem?_cons_zero, List.getElem?_cons_succ, List.getElem?_nil, List.length_cons, List.length_nil, List.drop_succ_cons, List.drop_zero, List.take_succ_cons, List.take_zero, List.nil_append, List.cons_append, List.set_cons_zero, List.set_cons_succ, Nat.reduceAdd, Nat.reduceLeDiff, Nat.reduceEqDiff, Nat.reduceBEq, beq_iff_eq, reduceCtorEq, ↓reduceIte, Option.map_some, Option.some.injEq, Bool.true_and, Bool.false_and, Bool.and_true, Bool.and_self, Bool.and_false, Bool.or_self, Bool.false_eq_true, b_ff, b_ft, b_tf, b_tt, Bool.not_true, Bool.not_false, BEq.rfl, decide_true, decide_false, Nat.le_refl, callE, zD, snilD, inilD, tasD, fnilD, AcE_tp, AcE_tw, twE, DcE_tp, appD, appSrc, fillD, fillP, D.pcells, cellPure, thenQ_pan, blockQ_pan, loopQ_pan, cntQ_nrm, cntQ_ret, cntQ_ext, cntQ_pan, indQ_nrm, indQ_ret, indQ_ext, indQ_pan, resQ, panQ_pan, rawQ, unD, and_self, and_true, true_and, not_true_eq_false, not_false_eq_true, Int.cast_ofNat_Int, Int.reduceLT, Int.reduceLE, Int.reduceBEq, Int.reduceToNat, Nat.reduceMul, Int.zero_le_ofNat, orcA, AcE_call, run68]
set_option maxHeartbeats 1000000 in
theorem run81 (s1 s2 : Bool) (d1 d2 : List UInt8) : callV orcA F 81 [.ag [boD s1, byD d1], .ag [boD s2, byD d2]] = some (.ret (boD (s1 == s2 && d1 == d2))) := by
  refine callV_ret tr81 ?_
  cases hs : (s1 == s2) <;> simp only [c81, hs, toList_mk, DrwE_nil, DrwE_plain, DrwE_guard, GdE_true, GdE_false, DcE_q, DcE_push, DcE_rd, drdE, dcallE, Ex_seq, Ex_reg, Ex_ret, Ex_skip, Ex_exit, Ex_block, Ex_cond', condE_true, condE_false, loopQ_nrm, loopQ_ret, loopQ_ext, blockQ_nrm, blockQ_ret, blockQ_ext, OpsE_plain, OpsE_guard, OpsE_nil, GuE_true, GuE_false, guardD, act, callA, ev, upd, putE, AcE_q, AcE_push, AcE_rd', AcE_wr', rdE, wrE, initE, thenQ_nrm, thenQ_ret, thenQ_ext, retQ, qo_s, convD, D.slc, unBytes_bytesP, bytesP_length, binD, scD, blD, scBin, blBin, strBin, intBin, ressD, mapO, resD, D.frz, frzL, frz_cells, D.closed, closedL, closed_cells, mkV_true, gt0, gtk, st0, stk, List.append_assoc, List.length_append, D.fits, D.cells, partD, mkV_false, setAt, iadD, asI, List.map_cons, List.map_nil, List.getElem?_cons_zero, List.getElem?_cons_succ, List.getElem?_nil, List.length_cons, List.length_nil, List.drop_succ_cons, List.drop_zero, List.take_succ_cons, List.take_zero, List.nil_append, List.cons_append, List.set_cons_zero, List.set_cons_succ, Nat.reduceAdd, Nat.reduceLeDiff, Nat.reduceEqDiff, Nat.reduceBEq, beq_iff_eq, reduceCtorEq, ↓reduceIte, Option.map_some, Option.some.injEq, Bool.true_and, Bool.false_and, Bool.and_true, Bool.and_self, Bool.and_false, Bool.or_self, Bool.false_eq_true, b_ff, b_ft, b_tf, b_tt, Bool.not_true, Bool.not_false, BEq.rfl, decide_true, decide_false, Nat.le_refl, callE, zD, snilD, inilD, tasD, fnilD, AcE_tp, AcE_tw, twE, DcE_tp, appD, appSrc, fillD, fillP, D.pcells, cellPure, thenQ_pan, blockQ_pan, loopQ_pan, cntQ_nrm, cntQ_ret, cntQ_ext, cntQ_pan, indQ_nrm, indQ_ret, indQ_ext, indQ_pan, resQ, panQ_pan, rawQ, unD, and_self, and_true, true_and, not_true_eq_false, not_false_eq_true, Int.cast_ofNat_Int, Int.reduceLT, Int.reduceLE, Int.reduceBEq, Int.reduceToNat, Nat.reduceMul, Int.zero_le_ofNat, orcA]

theorem tr125' : F 125 = some (eqF eqL1) := tr125
set_option maxHeartbeats 1000000 in
theorem run125 (k1 k2 : List (List UInt8)) (hbd : k1.length < 2 ^ 62) :
    callV orcA F 125 [.c (.sl k1.length (k1.flatMap nmC)), .c (.sl k2.length (k2.flatMap nmC)), .fn 68 []] = some (.ret (boD (nmSame k1 k2))) := by
  refine callV_ret tr125' ?_
  rw [nmSame]
  by_cases hl : k1.length = k2.length
  · have hd : ((k1.length : Int) != (k2.length : Int)) = false := by simp [hl]
    have hl' : (k1.length == k2.length) = true := by simp [hl]
    simp only [eqF, hd, hl', DrwE_nil, DrwE_plain, DrwE_guard, GdE_true, GdE_false, DcE_q, DcE_push, DcE_rd, drdE, dcallE, Ex_seq, Ex_reg, Ex_ret, Ex_skip, Ex_exit, Ex_block, Ex_cond', condE_true, condE_false, loopQ_nrm, loopQ_ret, loopQ_ext, blockQ_nrm, blockQ_ret, blockQ_ext, OpsE_plain, OpsE_guard, OpsE_nil, GuE_true, GuE_false, guardD, act, callA, ev, upd, putE, AcE_q, AcE_push, AcE_rd', AcE_wr', rdE, wrE, initE, thenQ_nrm, thenQ_ret, thenQ_ext, retQ, qo_s, convD, D.slc, unBytes_bytesP, bytesP_length, binD, scD, blD, scBin, blBin, strBin, intBin, ressD, mapO, resD, D.frz, frzL, frz_cells, D.closed, closedL, closed_cells, mkV_true, gt0, gtk, st0, stk, List.append_assoc, List.length_append, D.fits, D.cells, partD, mkV_false, setAt, iadD, asI, List.map_cons, List.map_nil, List.getElem?_cons_zero, List.getElem?_cons_succ, List.getElem?_nil, List.length_cons, List.length_nil, List.drop_succ_cons, List.drop_zero, List.take_succ_cons, List.take_zero, List.nil_append, List.cons_append, List.set_cons_zero, List.set_cons_succ, Nat.reduceAdd, Nat.reduceLeDiff, Nat.reduceEqDiff, Nat.reduceBEq, beq_iff_eq, reduceCtorEq, ↓reduceIte, Option.map_some, Option.some.injEq, Bool.true_and, Bool.false_and, Bool.and_true, Bool.and_self, Bool.and_false, Bool.or_self, Bool.false_eq_true, b_ff, b_ft, b_tf, b_tt, Bool.not_true, Bool.not_false, BEq.rfl, decide_true, decide_false, Nat.le_refl, callE, zD, snilD, inilD, tasD, fnilD, AcE_tp, AcE_tw, twE, DcE_tp, appD, appSrc, fillD, fillP, D.pcells, cellPure, thenQ_pan, blockQ_pan, loopQ_pan, cntQ_nrm, cntQ_ret, cntQ_ext, cntQ_pan, indQ_nrm, indQ_ret, indQ_ext, indQ_pan, resQ, panQ_pan, rawQ, unD, and_self, and_true, true_and, not_true_eq_false, not_false_eq_true, Int.cast_ofNat_Int, Int.reduceLT, Int.reduceLE, Int.reduceBEq, Int.reduceToNat, Nat.reduceMul, Int.zero_le_ofNat, orcA]
    refine Ex_loop_cnt k1.length (EqI nmC (· == ·) 68 k1 k2) ⟨rfl, rfl, rfl, rfl, rfl, rfl, by simp⟩ fun i s hi h => ?_
    rcases Nat.lt_or_ge i k1.length with hlt | hge
    · have hd : decide ((i : Int) < (k1.length : Int)) = true := by simp; omega
      obtain ⟨x, hx⟩ : ∃ x, k1[i]? = some x := ⟨_, List.getElem?_eq_getElem hlt⟩
      obtain ⟨y, hy⟩ : ∃ y, k2[i]? = some y := ⟨_, List.getElem?_eq_getElem (by omega)⟩
      have hr1 : (0 ≤ (i : Int) ∧ (i : Int) < (k1.length : Int)) = True := by simp; omega
      have hr2 : (0 ≤ (i : Int) ∧ (i : Int) < (k2.length : Int)) = True := by simp; omega
      obtain ⟨x1, x2⟩ := seg_at nmC_len hx
      obtain ⟨y1, y2⟩ := seg_at nmC_len hy
      have hw : IntKind.i64.wrap ((i : Int) + 1) = ((i + 1 : Nat) : Int) := wrap_i64 (by omega) (by omega)
      have hzt := zip_take (eq := (· == ·)) hx hy
      cases hE : (x == y) with
      | true =>
        simp only [eqL1, nmC, h.h1, h.h2, h.h15, h.h16, h.h17, hd, hr1, hr2, x1, x2, y1, y2, hw, hE, List.length_map, Int.toNat_natCast, Nat.zero_add, DrwE_nil, DrwE_plain, DrwE_guard, GdE_true, GdE_false, DcE_q, DcE_push, DcE_rd, drdE, dcallE, Ex_seq, Ex_reg, Ex_ret, Ex_skip, Ex_exit, Ex_block, Ex_cond', condE_true, condE_false, loopQ_nrm, loopQ_ret, loopQ_ext, blockQ_nrm, blockQ_ret, blockQ_ext, OpsE_plain, OpsE_guard, OpsE_nil, GuE_true, GuE_false, guardD, act, callA, ev, upd, putE, AcE_q, AcE_push, AcE_rd', AcE_wr', rdE, wrE, initE, thenQ_nrm, thenQ_ret, thenQ_ext, retQ, qo_s, convD, D.slc, unBytes_bytesP, bytesP_length, binD, scD, blD, scBin, blBin, strBin, intBin, ressD, mapO, resD, D.frz, frzL, frz_cells, D.closed, closedL, closed_cells, mkV_true, gt0, gtk, st0, stk, List.append_assoc, List.length_append, D.fits, D.cells, partD, mkV_false, setAt, iadD, asI, List.map_cons, List.map_nil, List.getElem?_cons_zero, List.getElem?_cons_succ, List.getElem?_nil, List.length_cons, List.length_nil, List.drop_succ_cons, List.drop_zero, List.take_succ_cons, List.take_zero, List.nil_append, List.cons_append, List.set_cons_zero, List.set_cons_succ, Nat.reduceAdd, Nat.reduceLeDiff, Nat.reduceEqDiff, Nat.reduceBEq, beq_iff_eq, reduceCtorEq, ↓reduceIte, Option.map_some, Option.some.injEq, Bool.true_and, Bool.false_and, Bool.and_true, Bool.and_self, Bool.and_false, Bool.or_self, Bool.false_eq_true, b_ff, b_ft, b_tf, b_tt, Bool.not_true, Bool.not_false, BEq.rfl, decide_true, decide_false, Nat.le_refl, callE, zD, snilD, inilD, tasD, fnilD, AcE_tp, AcE_tw, twE, DcE_tp, appD, appSrc, fillD, fillP, D.pcells, cellPure, thenQ_pan, blockQ_pan, loopQ_pan, cntQ_nrm, cntQ_ret, cntQ_ext, cntQ_pan, indQ_nrm, indQ_ret, indQ_ext, indQ_pan, resQ, panQ_pan, rawQ, unD, and_self, and_true, true_and, not_true_eq_false, not_false_eq_true, Int.cast_ofNat_Int, Int.reduceLT, Int.reduceLE, Int.reduceBEq, Int.reduceToNat, Nat.reduceMul, Int.zero_le_ofNat, orcA, AcE_call, run68]
        exact ⟨hlt, h.T, by simp [upd, h.h1], by simp [upd, h.h2], by simp [upd, h.h15], by simp [upd, h.h16], by simp [upd], by rw [hzt, h.all, hE]; rfl⟩
      | false =>
        simp only [eqL1, nmC, h.h1, h.h2, h.h15, h.h16, h.h17, hd, hr1, hr2, x1, x2, y1, y2, hw, hE, zip_false hx hy hE, List.length_map, Int.toNat_natCast, Nat.zero_add, DrwE_nil, DrwE_plain, DrwE_guard, GdE_true, GdE_false, DcE_q, DcE_push, DcE_rd, drdE, dcallE, Ex_seq, Ex_reg, Ex_ret, Ex_skip, Ex_exit, Ex_block, Ex_cond', condE_true, condE_false, loopQ_nrm, loopQ_ret, loopQ_ext, blockQ_nrm, blockQ_ret, blockQ_ext, OpsE_plain, OpsE_guard, OpsE_nil, GuE_true, GuE_false, guardD, act, callA, ev, upd, putE, AcE_q, AcE_push, AcE_rd', AcE_wr', rdE, wrE, initE, thenQ_nrm, thenQ_ret, thenQ_ext, retQ, qo_s, convD, D.slc, unBytes_bytesP, bytesP_length, binD, scD, blD, scBin, blBin, strBin, intBin, ressD, mapO, resD, D.frz, frzL, frz_cells, D.closed, closedL, closed_cells, mkV_true, gt0, gtk, st0, stk, List.append_assoc, List.length_append, D.fits, D.cells, partD, mkV_false, setAt, iadD, asI, List.map_cons, List.map_nil, List.getElem?_cons_zero, List.getElem?_cons_succ, List.getElem?_nil, List.length_cons, List.length_nil, List.drop_succ_cons, List.drop_zero, List.take_succ_cons, List.take_zero, List.nil_append, List.cons_append, List.set_cons_zero, List.set_cons_succ, Nat.reduceAdd, Nat.reduceLeDiff, Nat.reduceEqDiff, Nat.reduceBEq, beq_iff_eq, reduceCtorEq, ↓reduceIte, Option.map_some, Option.some.injEq, Bool.true_and, Bool.false_and, Bool.and_true, Bool.and_self, Bool.and_false, Bool.or_self, Bool.false_eq_true, b_ff, b_ft, b_tf, b_tt, Bool.not_true, Bool.not_false, BEq.rfl, decide_true, decide_false, Nat.le_refl, callE, zD, snilD, inilD, tasD, fnilD, AcE_tp, AcE_tw, twE, DcE_tp, appD, appSrc, fillD, fillP, D.pcells, cellPure, thenQ_pan, blockQ_pan, loopQ_pan, cntQ_nrm, cntQ_ret, cntQ_ext, cntQ_pan, indQ_nrm, indQ_ret, indQ_ext, indQ_pan, resQ, panQ_pan, rawQ, unD, and_self, and_true, true_and, not_true_eq_false, not_false_eq_true, Int.cast_ofNat_Int, Int.reduceLT, Int.reduceLE, Int.reduceBEq, Int.reduceToNat, Nat.reduceMul, Int.zero_le_ofNat, orcA, AcE_call, run68]
    · obtain rfl : i = k1.length := by omega
      have hd : decide ((k1.length : Int) < (k1.length : Int)) = false := by simp
      have ha := h.all
      rw [List.take_length, hl, List.take_length] at ha
      simp only [eqL1, h.h1, h.h2, h.h15, h.h16, h.h17, hd, ha, DrwE_nil, DrwE_plain, DrwE_guard, GdE_true, GdE_false, DcE_q, DcE_push, DcE_rd, drdE, dcallE, Ex_seq, Ex_reg, Ex_ret, Ex_skip, Ex_exit, Ex_block, Ex_cond', condE_true, condE_false, loopQ_nrm, loopQ_ret, loopQ_ext, blockQ_nrm, blockQ_ret, blockQ_ext, OpsE_plain, OpsE_guard, OpsE_nil, GuE_true, GuE_false, guardD, act, callA, ev, upd, putE, AcE_q, AcE_push, AcE_rd', AcE_wr', rdE, wrE, initE, thenQ_nrm, thenQ_ret, thenQ_ext, retQ, qo_s, convD, D.slc, unBytes_bytesP, bytesP_length, binD, scD, blD, scBin, blBin, strBin, intBin, ressD, mapO, resD, D.frz, frzL, frz_cells, D.closed, closedL, closed_cells, mkV_true, gt0, gtk, st0, stk, List.append_assoc, List.length_append, D.fits, D.cells, partD, mkV_false, setAt, iadD, asI, List.map_cons, List.map_nil, List.getElem?_cons_zero, List.getElem?_cons_succ, List.getElem?_nil, List.length_cons, List.length_nil, List.drop_succ_cons, List.drop_zero, List.take_succ_cons, List.take_zero, List.nil_append, List.cons_append, List.set_cons_zero, List.set_cons_succ, Nat.reduceAdd, Nat.reduceLeDiff, Nat.reduceEqDiff, Nat.reduceBEq, beq_iff_eq, reduceCtorEq, ↓reduceIte, Option.map_some, Option.some.injEq, Bool.true_and, Bool.false_and, Bool.and_true, Bool.and_self, Bool.and_false, Bool.or_self, Bool.false_eq_true, b_ff, b_ft, b_tf, b_tt, Bool.not_true, Bool.not_false, BEq.rfl, decide_true, decide_false, Nat.le_refl, callE, zD, snilD, inilD, tasD, fnilD, AcE_tp, AcE_tw, twE, DcE_tp, appD, appSrc, fillD, fillP, D.pcells, cellPure, thenQ_pan, blockQ_pan, loopQ_pan, cntQ_nrm, cntQ_ret, cntQ_ext, cntQ_pan, indQ_nrm, indQ_ret, indQ_ext, indQ_pan, resQ, panQ_pan, rawQ, unD, and_self, and_true, true_and, not_true_eq_false, not_false_eq_true, Int.cast_ofNat_Int, Int.reduceLT, Int.reduceLE, Int.reduceBEq, Int.reduceToNat, Nat.reduceMul, Int.zero_le_ofNat, orcA]
  · have hd : ((k1.length : Int) != (k2.length : Int)) = true := by simp; omega
    have hl' : (k1.length == k2.length) = false := by simp [hl]
    simp only [eqF, hd, hl', DrwE_nil, DrwE_plain, DrwE_guard, GdE_true, GdE_false, DcE_q, DcE_push, DcE_rd, drdE, dcallE, Ex_seq, Ex_reg, Ex_ret, Ex_skip, Ex_exit, Ex_block, Ex_cond', condE_true, condE_false, loopQ_nrm, loopQ_ret, loopQ_ext, blockQ_nrm, blockQ_ret, blockQ_ext, OpsE_plain, OpsE_guard, OpsE_nil, GuE_true, GuE_false, guardD, act, callA, ev, upd, putE, AcE_q, AcE_push, AcE_rd', AcE_wr', rdE, wrE, initE, thenQ_nrm, thenQ_ret, thenQ_ext, retQ, qo_s, convD, D.slc, unBytes_bytesP, bytesP_length, binD, scD, blD, scBin, blBin, strBin, intBin, ressD, mapO, resD, D.frz, frzL, frz_cells, D.closed, closedL, closed_cells, mkV_true, gt0, gtk, st0, stk, List.append_assoc, List.length_append, D.fits, D.cells, partD, mkV_false, setAt, iadD, asI, List.map_cons, List.map_nil, List.getElem?_cons_zero, List.getElem?_cons_succ, List.getElem?_nil, List.length_cons, List.length_nil, List.drop_succ_cons, List.drop_zero, List.take_succ_cons, List.take_zero, List.nil_append, List.cons_append, List.set_cons_zero, List.set_cons_succ, Nat.reduceAdd, Nat.reduceLeDiff, Nat.reduceEqDiff, Nat.reduceBEq, beq_iff_eq, reduceCtorEq, ↓reduceIte, Option.map_some, Option.some.injEq, Bool.true_and, Bool.false_and, Bool.and_true, Bool.and_self, Bool.and_false, Bool.or_self, Bool.false_eq_true, b_ff, b_ft, b_tf, b_tt, Bool.not_true, Bool.not_false, BEq.rfl, decide_true, decide_false, Nat.le_refl, callE, zD, snilD, inilD, tasD, fnilD, AcE_tp, AcE_tw, twE, DcE_tp, appD, appSrc, fillD, fillP, D.pcells, cellPure, thenQ_pan, blockQ_pan, loopQ_pan, cntQ_nrm, cntQ_ret, cntQ_ext, cntQ_pan, indQ_nrm, indQ_ret, indQ_ext, indQ_pan, resQ, panQ_pan, rawQ, unD, and_self, and_true, true_and, not_true_eq_false, not_false_eq_true, Int.cast_ofNat_Int, Int.reduceLT, Int.reduceLE, Int.reduceBEq, Int.reduceToNat, Nat.reduceMul, Int.zero_le_ofNat, orcA]

theorem tr126' : F 126 = some (eqF (eqL 6 54 [.v (.int .u8 0), .v (.bool false), .sl 0 [], .sl 0 [], .v (.int .i64 0), .sl 0 []])) := tr126
set_option maxHeartbeats 2000000 in
theorem run80 (a b : Sj) (ha : a.ok) : callV orcA F 80 [.ag (a.cells.map .c), .ag (b.cells.map .c)] = some (.ret (boD (a.same b))) := by
  induction ha generalizing b with
  | @mk kind sum kd names k kids hn h hk ih =>
    obtain ⟨kind', sum', kd', names', k', kids'⟩ := b
    have hkids := run_eqF tr126' rfl Sj.cells sj_len 80 (by decide) (by decide) Sj.same kids kids' h (fun x hx y _ => ih x hx y)
    have hnames := run125 names names' hn
    rw [sj_mk, sj_mk, sj_same_mk]
    refine callV_ret tr80 ?_
    cases h1 : (kind == kind') <;> cases h2 : (k == k') <;> cases h3 : (sum == sum' && kd == kd') <;> cases h4 : nmSame names names' <;>
      simp only [c80, byteP, h1, h2, h3, h4, u8_eq, DrwE_nil, DrwE_plain, DrwE_guard, GdE_true, GdE_false, DcE_q, DcE_push, DcE_rd, drdE, dcallE, Ex_seq, Ex_reg, Ex_ret, Ex_skip, Ex_exit, Ex_block, Ex_cond', condE_true, condE_false, loopQ_nrm, loopQ_ret, loopQ_ext, blockQ_nrm, blockQ_ret, blockQ_ext, OpsE_plain, OpsE_guard, OpsE_nil, GuE_true, GuE_false, guardD, act, callA, ev, upd, putE, AcE_q, AcE_push, AcE_rd', AcE_wr', rdE, wrE, initE, thenQ_nrm, thenQ_ret, thenQ_ext, retQ, qo_s, convD, D.slc, unBytes_bytesP, bytesP_length, binD, scD, blD, scBin, blBin, strBin, intBin, ressD, mapO, resD, D.frz, frzL, frz_cells, D.closed, closedL, closed_cells, mkV_true, gt0, gtk, st0, stk, List.append_assoc, List.length_append, D.fits, D.cells, partD, mkV_false, setAt, iadD, asI, List.map_cons, List.map_nil, List.getElem?_cons_zero, List.getElem?_cons_succ, List.getElem?_nil, List.length_cons, List.length_nil, List.drop_succ_cons, List.drop_zero, List.take_succ_cons, List.take_zero, List.nil_append, List.cons_append, List.set_cons_zero, List.set_cons_succ, Nat.reduceAdd, Nat.reduceLeDiff, Nat.reduceEqDiff, Nat.reduceBEq, beq_iff_eq, reduceCtorEq, ↓reduceIte, Option.map_some, Option.some.injEq, Bool.true_and, Bool.false_and, Bool.and_true, Bool.and_self, Bool.and_false, Bool.or_self, Bool.false_eq_true, b_ff, b_ft, b_tf, b_tt, Bool.not_true, Bool.not_false, BEq.rfl, decide_true, decide_false, Nat.le_refl, callE, zD, snilD, inilD, tasD, fnilD, AcE_tp, AcE_tw, twE, DcE_tp, appD, appSrc, fillD, fillP, D.pcells, cellPure, thenQ_pan, blockQ_pan, loopQ_pan, cntQ_nrm, cntQ_ret, cntQ_ext, cntQ_pan, indQ_nrm, indQ_ret, indQ_ext, indQ_pan, resQ, panQ_pan, rawQ, unD, and_self, and_true, true_and, not_true_eq_false, not_false_eq_true, Int.cast_ofNat_Int, Int.reduceLT, Int.reduceLE, Int.reduceBEq, Int.reduceToNat, Nat.reduceMul, Int.zero_le_ofNat, orcA, AcE_call, run79, hkids, hnames]

abbrev sjV (kind : UInt8) (sum : Bool) (kd : List UInt8) (names : List (List UInt8)) (k : Int) (kids : List Sj) : VO :=
  ⟨54, false, false, [.c (byteP kind), .c (boP sum), .c (byP kd), .c (.sl names.length (names.flatMap nmC)), .c (.v (.int .i64 k)), .c (.sl kids.length (kids.flatMap Sj.cells))]⟩
structure I82 {α : Type} (V : List VO) (eq : α → α → Bool) (k1 k2 : List α) (a b : Nat) (i : Nat) (s : St) : Prop where
  T : s.T = []
  V : s.V = V
  h2 : s.e 2 = .mp 0 0
  h3 : s.e 3 = .mp 1 0
  ha : s.e a = inD k1.length
  hb : s.e b = inD i
  all : ((k1.take i).zip (k2.take i)).all (fun p => eq p.1 p.2) = true
theorem len_eq (a b : Nat) : ((a : Int) == (b : Int)) = (a == b) := by
  by_cases e : a = b
  · rw [e, BEq.rfl, BEq.rfl]
  · rw [beq_eq_false_iff_ne.2 e, beq_eq_false_iff_ne]; omega
set_option maxHeartbeats 4000000 in
theorem run82 (a b : Sj) (ha : a.ok) : callV orcA F 82 [.ag (a.cells.map .c), .ag (b.cells.map .c)] = some (.ret (boD (a.same b))) := by
  induction ha generalizing b with
  | @mk kind sum kd names k kids hn hbd hk ih =>
    obtain ⟨kind', sum', kd', names', k', kids'⟩ := b
    rw [sj_mk, sj_mk, sj_same_mk, nmSame]
    refine callV_ret tr82 ?_
    cases h1 : (kind == kind') <;> cases h2 : (k == k') <;> cases h3 : (sum == sum' && kd == kd') <;> cases h4 : (names.length == names'.length) <;> cases h5 : (kids.length == kids'.length) <;>
      simp only [c82, byteP, h1, h2, h3, h4, h5, len_eq names.length names'.length, len_eq kids.length kids'.length, bne, u8_eq, unD, DrwE_nil, DrwE_plain, DrwE_guard, GdE_true, GdE_false, DcE_q, DcE_push, DcE_rd, drdE, dcallE, Ex_seq, Ex_reg, Ex_ret, Ex_skip, Ex_exit, Ex_block, Ex_cond', condE_true, condE_false, loopQ_nrm, loopQ_ret, loopQ_ext, blockQ_nrm, blockQ_ret, blockQ_ext, OpsE_plain, OpsE_guard, OpsE_nil, GuE_true, GuE_false, guardD, act, callA, ev, upd, putE, AcE_q, AcE_push, AcE_rd', AcE_wr', rdE, wrE, initE, thenQ_nrm, thenQ_ret, thenQ_ext, retQ, qo_s, convD, D.slc, unBytes_bytesP, bytesP_length, binD, scD, blD, scBin, blBin, strBin, intBin, ressD, mapO, resD, D.frz, frzL, frz_cells, D.closed, closedL, closed_cells, mkV_true, gt0, gtk, st0, stk, List.append_assoc, List.length_append, D.fits, D.cells, partD, mkV_false, setAt, iadD, asI, List.map_cons, List.map_nil, List.getElem?_cons_zero, List.getElem?_cons_succ, List.getElem?_nil, List.length_cons, List.length_nil, List.drop_succ_cons, List.drop_zero, List.take_succ_cons, List.take_zero, List.nil_append, List.cons_append, List.set_cons_zero, List.set_cons_succ, Nat.reduceAdd, Nat.reduceLeDiff, Nat.reduceEqDiff, Nat.reduceBEq, beq_iff_eq, reduceCtorEq, ↓reduceIte, Option.map_some, Option.some.injEq, Bool.true_and, Bool.false_and, Bool.and_true, Bool.and_self, Bool.and_false, Bool.or_self, Bool.false_eq_true, b_ff, b_ft, b_tf, b_tt, Bool.not_true, Bool.not_false, BEq.rfl, decide_true, decide_false, Nat.le_refl, callE, zD, snilD, inilD, tasD, fnilD, AcE_tp, AcE_tw, twE, DcE_tp, appD, appSrc, fillD, fillP, D.pcells, cellPure, thenQ_pan, blockQ_pan, loopQ_pan, cntQ_nrm, cntQ_ret, cntQ_ext, cntQ_pan, indQ_nrm, indQ_ret, indQ_ext, indQ_pan, resQ, panQ_pan, rawQ, unD, and_self, and_true, true_and, not_true_eq_false, not_false_eq_true, Int.cast_ofNat_Int, Int.reduceLT, Int.reduceLE, Int.reduceBEq, Int.reduceToNat, Nat.reduceMul, Int.zero_le_ofNat, orcA, AcE_call, run81]
    have hl4 : names.length = names'.length := by simpa using h4
    have hl5 : kids.length = kids'.length := by simpa using h5
    refine Ex_loop_cnt names.length (I82 [sjV kind sum kd names k kids, sjV kind' sum' kd' names' k' kids'] (· == ·) names names' 47 48) ⟨rfl, rfl, rfl, rfl, rfl, rfl, by simp⟩ fun i s hi h => ?_
    rcases Nat.lt_or_ge i names.length with hlt | hge
    · have hd : decide ((i : Int) < (names.length : Int)) = true := by simp; omega
      obtain ⟨x, hx⟩ : ∃ x, names[i]? = some x := ⟨_, List.getElem?_eq_getElem hlt⟩
      obtain ⟨y, hy⟩ : ∃ y, names'[i]? = some y := ⟨_, List.getElem?_eq_getElem (by omega)⟩
      have hr1 : (0 ≤ (i : Int) ∧ (i : Int) < (names.length : Int)) = True := by simp; omega
      have hr2 : (0 ≤ (i : Int) ∧ (i : Int) < (names'.length : Int)) = True := by simp; omega
      obtain ⟨x1, x2⟩ := seg_at nmC_len hx
      obtain ⟨y1, y2⟩ := seg_at nmC_len hy
      have hw : IntKind.i64.wrap ((i : Int) + 1) = ((i + 1 : Nat) : Int) := wrap_i64 (by omega) (by omega)
      have hzt := zip_take (eq := (· == ·)) hx hy
      cases hE : (x == y) with
      | true =>
        simp only [c82L0, nmC, h.V, h.h2, h.h3, h.ha, h.hb, hd, DrwE_nil, DrwE_plain, DrwE_guard, GdE_true, GdE_false, DcE_q, DcE_push, DcE_rd, drdE, dcallE, Ex_seq, Ex_reg, Ex_ret, Ex_skip, Ex_exit, Ex_block, Ex_cond', condE_true, condE_false, loopQ_nrm, loopQ_ret, loopQ_ext, blockQ_nrm, blockQ_ret, blockQ_ext, OpsE_plain, OpsE_guard, OpsE_nil, GuE_true, GuE_false, guardD, act, callA, ev, upd, putE, AcE_q, AcE_push, AcE_rd', AcE_wr', rdE, wrE, initE, thenQ_nrm, thenQ_ret, thenQ_ext, retQ, qo_s, convD, D.slc, unBytes_bytesP, bytesP_length, binD, scD, blD, scBin, blBin, strBin, intBin, ressD, mapO, resD, D.frz, frzL, frz_cells, D.closed, closedL, closed_cells, mkV_true, gt0, gtk, st0, stk, List.append_assoc, List.length_append, D.fits, D.cells, partD, mkV_false, setAt, iadD, asI, List.map_cons, List.map_nil, List.getElem?_cons_zero, List.getElem?_cons_succ, List.getElem?_nil, List.length_cons, List.length_nil, List.drop_succ_cons, List.drop_zero, List.take_succ_cons, List.take_zero, List.nil_append, List.cons_append, List.set_cons_zero, List.set_cons_succ, Nat.reduceAdd, Nat.reduceLeDiff, Nat.reduceEqDiff, Nat.reduceBEq, beq_iff_eq, reduceCtorEq, ↓reduceIte, Option.map_some, Option.some.injEq, Bool.true_and, Bool.false_and, Bool.and_true, Bool.and_self, Bool.and_false, Bool.or_self, Bool.false_eq_true, b_ff, b_ft, b_tf, b_tt, Bool.not_true, Bool.not_false, BEq.rfl, decide_true, decide_false, Nat.le_refl, callE, zD, snilD, inilD, tasD, fnilD, AcE_tp, AcE_tw, twE, DcE_tp, appD, appSrc, fillD, fillP, D.pcells, cellPure, thenQ_pan, blockQ_pan, loopQ_pan, cntQ_nrm, cntQ_ret, cntQ_ext, cntQ_pan, indQ_nrm, indQ_ret, indQ_ext, indQ_pan, resQ, panQ_pan, rawQ, unD, and_self, and_true, true_and, not_true_eq_false, not_false_eq_true, Int.cast_ofNat_Int, Int.reduceLT, Int.reduceLE, Int.reduceBEq, Int.reduceToNat, Nat.reduceMul, Int.zero_le_ofNat, orcA]
        refine Ex_drw' ?_
        simp only [c82L0, nmC, h.V, h.h2, h.h3, h.ha, h.hb, hd, hr1, hr2, x1, x2, y1, y2, hw, hE, bne, toList_mk, List.length_map, Int.toNat_natCast, DrwE_nil, DrwE_plain, DrwE_guard, GdE_true, GdE_false, DcE_q, DcE_push, DcE_rd, drdE, dcallE, Ex_seq, Ex_reg, Ex_ret, Ex_skip, Ex_exit, Ex_block, Ex_cond', condE_true, condE_false, loopQ_nrm, loopQ_ret, loopQ_ext, blockQ_nrm, blockQ_ret, blockQ_ext, OpsE_plain, OpsE_guard, OpsE_nil, GuE_true, GuE_false, guardD, act, callA, ev, upd, putE, AcE_q, AcE_push, AcE_rd', AcE_wr', rdE, wrE, initE, thenQ_nrm, thenQ_ret, thenQ_ext, retQ, qo_s, convD, D.slc, unBytes_bytesP, bytesP_length, binD, scD, blD, scBin, blBin, strBin, intBin, ressD, mapO, resD, D.frz, frzL, frz_cells, D.closed, closedL, closed_cells, mkV_true, gt0, gtk, st0, stk, List.append_assoc, List.length_append, D.fits, D.cells, partD, mkV_false, setAt, iadD, asI, List.map_cons, List.map_nil, List.getElem?_cons_zero, List.getElem?_cons_succ, List.getElem?_nil, List.length_cons, List.length_nil, List.drop_succ_cons, List.drop_zero, List.take_succ_cons, List.take_zero, List.nil_append, List.cons_append, List.set_cons_zero, List.set_cons_succ, Nat.reduceAdd, Nat.reduceLeDiff, Nat.reduceEqDiff, Nat.reduceBEq, beq_iff_eq, reduceCtorEq, ↓reduceIte, Option.map_some, Option.some.injEq, Bool.true_and, Bool.false_and, Bool.and_true, Bool.and_self, Bool.and_false, Bool.or_self, Bool.false_eq_true, b_ff, b_ft, b_tf, b_tt, Bool.not_true, Bool.not_false, BEq.rfl, decide_true, decide_false, Nat.le_refl, callE, zD, snilD, inilD, tasD, fnilD, AcE_tp, AcE_tw, twE, DcE_tp, appD, appSrc, fillD, fillP, D.pcells, cellPure, thenQ_pan, blockQ_pan, loopQ_pan, cntQ_nrm, cntQ_ret, cntQ_ext, cntQ_pan, indQ_nrm, indQ_ret, indQ_ext, indQ_pan, resQ, panQ_pan, rawQ, unD, and_self, and_true, true_and, not_true_eq_false, not_false_eq_true, Int.cast_ofNat_Int, Int.reduceLT, Int.reduceLE, Int.reduceBEq, Int.reduceToNat, Nat.reduceMul, Int.zero_le_ofNat, orcA]
        refine ⟨rfl, ?_⟩
        exact ⟨hlt, h.T, by first | rfl | exact h.V, by simp [upd, h.h2], by simp [upd, h.h3], by simp [upd, h.ha], by simp [upd], by rw [hzt, h.all, hE]; rfl⟩
      | false =>
        simp only [c82L0, nmC, h.V, h.h2, h.h3, h.ha, h.hb, hd, DrwE_nil, DrwE_plain, DrwE_guard, GdE_true, GdE_false, DcE_q, DcE_push, DcE_rd, drdE, dcallE, Ex_seq, Ex_reg, Ex_ret, Ex_skip, Ex_exit, Ex_block, Ex_cond', condE_true, condE_false, loopQ_nrm, loopQ_ret, loopQ_ext, blockQ_nrm, blockQ_ret, blockQ_ext, OpsE_plain, OpsE_guard, OpsE_nil, GuE_true, GuE_false, guardD, act, callA, ev, upd, putE, AcE_q, AcE_push, AcE_rd', AcE_wr', rdE, wrE, initE, thenQ_nrm, thenQ_ret, thenQ_ext, retQ, qo_s, convD, D.slc, unBytes_bytesP, bytesP_length, binD, scD, blD, scBin, blBin, strBin, intBin, ressD, mapO, resD, D.frz, frzL, frz_cells, D.closed, closedL, closed_cells, mkV_true, gt0, gtk, st0, stk, List.append_assoc, List.length_append, D.fits, D.cells, partD, mkV_false, setAt, iadD, asI, List.map_cons, List.map_nil, List.getElem?_cons_zero, List.getElem?_cons_succ, List.getElem?_nil, List.length_cons, List.length_nil, List.drop_succ_cons, List.drop_zero, List.take_succ_cons, List.take_zero, List.nil_append, List.cons_append, List.set_cons_zero, List.set_cons_succ, Nat.reduceAdd, Nat.reduceLeDiff, Nat.reduceEqDiff, Nat.reduceBEq, beq_iff_eq, reduceCtorEq, ↓reduceIte, Option.map_some, Option.some.injEq, Bool.true_and, Bool.false_and, Bool.and_true, Bool.and_self, Bool.and_false, Bool.or_self, Bool.false_eq_true, b_ff, b_ft, b_tf, b_tt, Bool.not_true, Bool.not_false, BEq.rfl, decide_true, decide_false, Nat.le_refl, callE, zD, snilD, inilD, tasD, fnilD, AcE_tp, AcE_tw, twE, DcE_tp, appD, appSrc, fillD, fillP, D.pcells, cellPure, thenQ_pan, blockQ_pan, loopQ_pan, cntQ_nrm, cntQ_ret, cntQ_ext, cntQ_pan, indQ_nrm, indQ_ret, indQ_ext, indQ_pan, resQ, panQ_pan, rawQ, unD, and_self, and_true, true_and, not_true_eq_false, not_false_eq_true, Int.cast_ofNat_Int, Int.reduceLT, Int.reduceLE, Int.reduceBEq, Int.reduceToNat, Nat.reduceMul, Int.zero_le_ofNat, orcA]
        refine Ex_drw' ?_
        simp only [c82L0, nmC, h.V, h.h2, h.h3, h.ha, h.hb, hd, hr1, hr2, x1, x2, y1, y2, hw, hE, bne, zip_false hx hy hE, toList_mk, List.length_map, Int.toNat_natCast, DrwE_nil, DrwE_plain, DrwE_guard, GdE_true, GdE_false, DcE_q, DcE_push, DcE_rd, drdE, dcallE, Ex_seq, Ex_reg, Ex_ret, Ex_skip, Ex_exit, Ex_block, Ex_cond', condE_true, condE_false, loopQ_nrm, loopQ_ret, loopQ_ext, blockQ_nrm, blockQ_ret, blockQ_ext, OpsE_plain, OpsE_guard, OpsE_nil, GuE_true, GuE_false, guardD, act, callA, ev, upd, putE, AcE_q, AcE_push, AcE_rd', AcE_wr', rdE, wrE, initE, thenQ_nrm, thenQ_ret, thenQ_ext, retQ, qo_s, convD, D.slc, unBytes_bytesP, bytesP_length, binD, scD, blD, scBin, blBin, strBin, intBin, ressD, mapO, resD, D.frz, frzL, frz_cells, D.closed, closedL, closed_cells, mkV_true, gt0, gtk, st0, stk, List.append_assoc, List.length_append, D.fits, D.cells, partD, mkV_false, setAt, iadD, asI, List.map_cons, List.map_nil, List.getElem?_cons_zero, List.getElem?_cons_succ, List.getElem?_nil, List.length_cons, List.length_nil, List.drop_succ_cons, List.drop_zero, List.take_succ_cons, List.take_zero, List.nil_append, List.cons_append, List.set_cons_zero, List.set_cons_succ, Nat.reduceAdd, Nat.reduceLeDiff, Nat.reduceEqDiff, Nat.reduceBEq, beq_iff_eq, reduceCtorEq, ↓reduceIte, Option.map_some, Option.some.injEq, Bool.true_and, Bool.false_and, Bool.and_true, Bool.and_self, Bool.and_false, Bool.or_self, Bool.false_eq_true, b_ff, b_ft, b_tf, b_tt, Bool.not_true, Bool.not_false, BEq.rfl, decide_true, decide_false, Nat.le_refl, callE, zD, snilD, inilD, tasD, fnilD, AcE_tp, AcE_tw, twE, DcE_tp, appD, appSrc, fillD, fillP, D.pcells, cellPure, thenQ_pan, blockQ_pan, loopQ_pan, cntQ_nrm, cntQ_ret, cntQ_ext, cntQ_pan, indQ_nrm, indQ_ret, indQ_ext, indQ_pan, resQ, panQ_pan, rawQ, unD, and_self, and_true, true_and, not_true_eq_false, not_false_eq_true, Int.cast_ofNat_Int, Int.reduceLT, Int.reduceLE, Int.reduceBEq, Int.reduceToNat, Nat.reduceMul, Int.zero_le_ofNat, orcA]
        rfl
    · obtain rfl : i = names.length := by omega
      have hd : decide ((names.length : Int) < (names.length : Int)) = false := by simp
      have hal := h.all
      rw [List.take_length, hl4, List.take_length] at hal
      simp only [c82L0, h.V, h.h2, h.h3, h.ha, h.hb, hd, hal, DrwE_nil, DrwE_plain, DrwE_guard, GdE_true, GdE_false, DcE_q, DcE_push, DcE_rd, drdE, dcallE, Ex_seq, Ex_reg, Ex_ret, Ex_skip, Ex_exit, Ex_block, Ex_cond', condE_true, condE_false, loopQ_nrm, loopQ_ret, loopQ_ext, blockQ_nrm, blockQ_ret, blockQ_ext, OpsE_plain, OpsE_guard, OpsE_nil, GuE_true, GuE_false, guardD, act, callA, ev, upd, putE, AcE_q, AcE_push, AcE_rd', AcE_wr', rdE, wrE, initE, thenQ_nrm, thenQ_ret, thenQ_ext, retQ, qo_s, convD, D.slc, unBytes_bytesP, bytesP_length, binD, scD, blD, scBin, blBin, strBin, intBin, ressD, mapO, resD, D.frz, frzL, frz_cells, D.closed, closedL, closed_cells, mkV_true, gt0, gtk, st0, stk, List.append_assoc, List.length_append, D.fits, D.cells, partD, mkV_false, setAt, iadD, asI, List.map_cons, List.map_nil, List.getElem?_cons_zero, List.getElem?_cons_succ, List.getElem?_nil, List.length_cons, List.length_nil, List.drop_succ_cons, List.drop_zero, List.take_succ_cons, List.take_zero, List.nil_append, List.cons_append, List.set_cons_zero, List.set_cons_succ, Nat.reduceAdd, Nat.reduceLeDiff, Nat.reduceEqDiff, Nat.reduceBEq, beq_iff_eq, reduceCtorEq, ↓reduceIte, Option.map_some, Option.some.injEq, Bool.true_and, Bool.false_and, Bool.and_true, Bool.and_self, Bool.and_false, Bool.or_self, Bool.false_eq_true, b_ff, b_ft, b_tf, b_tt, Bool.not_true, Bool.not_false, BEq.rfl, decide_true, decide_false, Nat.le_refl, callE, zD, snilD, inilD, tasD, fnilD, AcE_tp, AcE_tw, twE, DcE_tp, appD, appSrc, fillD, fillP, D.pcells, cellPure, thenQ_pan, blockQ_pan, loopQ_pan, cntQ_nrm, cntQ_ret, cntQ_ext, cntQ_pan, indQ_nrm, indQ_ret, indQ_ext, indQ_pan, resQ, panQ_pan, rawQ, unD, and_self, and_true, true_and, not_true_eq_false, not_false_eq_true, Int.cast_ofNat_Int, Int.reduceLT, Int.reduceLE, Int.reduceBEq, Int.reduceToNat, Nat.reduceMul, Int.zero_le_ofNat, orcA]
      refine Ex_loop_cnt kids.length (I82 [sjV kind sum kd names k kids, sjV kind' sum' kd' names' k' kids'] Sj.same kids kids' 67 68) ⟨h.T, rfl, by simp [upd, h.h2], by simp [upd, h.h3], rfl, rfl, by simp⟩ fun i s hi h => ?_
      rcases Nat.lt_or_ge i kids.length with hlt | hge
      · have hd : decide ((i : Int) < (kids.length : Int)) = true := by simp; omega
        obtain ⟨x, hx⟩ : ∃ x, kids[i]? = some x := ⟨_, List.getElem?_eq_getElem hlt⟩
        obtain ⟨y, hy⟩ : ∃ y, kids'[i]? = some y := ⟨_, List.getElem?_eq_getElem (by omega)⟩
        have hr1 : (0 ≤ (i : Int) ∧ (i : Int) < (kids.length : Int)) = True := by simp; omega
        have hr2 : (0 ≤ (i : Int) ∧ (i : Int) < (kids'.length : Int)) = True := by simp; omega
        obtain ⟨x1, x2⟩ := seg_at sj_len hx
        obtain ⟨y1, y2⟩ := seg_at sj_len hy
        have hfx := ih x (List.mem_of_getElem? hx) y
        have hw : IntKind.i64.wrap ((i : Int) + 1) = ((i + 1 : Nat) : Int) := wrap_i64 (by omega) (by omega)
        have hzt := zip_take (eq := Sj.same) hx hy
        cases hE : x.same y with
        | true =>
          simp only [c82L1, h.V, h.h2, h.h3, h.ha, h.hb, hd, DrwE_nil, DrwE_plain, DrwE_guard, GdE_true, GdE_false, DcE_q, DcE_push, DcE_rd, drdE, dcallE, Ex_seq, Ex_reg, Ex_ret, Ex_skip, Ex_exit, Ex_block, Ex_cond', condE_true, condE_false, loopQ_nrm, loopQ_ret, loopQ_ext, blockQ_nrm, blockQ_ret, blockQ_ext, OpsE_plain, OpsE_guard, OpsE_nil, GuE_true, GuE_false, guardD, act, callA, ev, upd, putE, AcE_q, AcE_push, AcE_rd', AcE_wr', rdE, wrE, initE, thenQ_nrm, thenQ_ret, thenQ_ext, retQ, qo_s, convD, D.slc, unBytes_bytesP, bytesP_length, binD, scD, blD, scBin, blBin, strBin, intBin, ressD, mapO, resD, D.frz, frzL, frz_cells, D.closed, closedL, closed_cells, mkV_true, gt0, gtk, st0, stk, List.append_assoc, List.length_append, D.fits, D.cells, partD, mkV_false, setAt, iadD, asI, List.map_cons, List.map_nil, List.getElem?_cons_zero, List.getElem?_cons_succ, List.getElem?_nil, List.length_cons, List.length_nil, List.drop_succ_cons, List.drop_zero, List.take_succ_cons, List.take_zero, List.nil_append, List.cons_append, List.set_cons_zero, List.set_cons_succ, Nat.reduceAdd, Nat.reduceLeDiff, Nat.reduceEqDiff, Nat.reduceBEq, beq_iff_eq, reduceCtorEq, ↓reduceIte, Option.map_some, Option.some.injEq, Bool.true_and, Bool.false_and, Bool.and_true, Bool.and_self, Bool.and_false, Bool.or_self, Bool.false_eq_true, b_ff, b_ft, b_tf, b_tt, Bool.not_true, Bool.not_false, BEq.rfl, decide_true, decide_false, Nat.le_refl, callE, zD, snilD, inilD, tasD, fnilD, AcE_tp, AcE_tw, twE, DcE_tp, appD, appSrc, fillD, fillP, D.pcells, cellPure, thenQ_pan, blockQ_pan, loopQ_pan, cntQ_nrm, cntQ_ret, cntQ_ext, cntQ_pan, indQ_nrm, indQ_ret, indQ_ext, indQ_pan, resQ, panQ_pan, rawQ, unD, and_self, and_true, true_and, not_true_eq_false, not_false_eq_true, Int.cast_ofNat_Int, Int.reduceLT, Int.reduceLE, Int.reduceBEq, Int.reduceToNat, Nat.reduceMul, Int.zero_le_ofNat, orcA]
          refine Ex_drw' ?_
          simp only [c82L1, h.V, h.h2, h.h3, h.ha, h.hb, hd, hr1, hr2, x1, x2, y1, y2, hw, hfx, hE, unD, List.length_map, Int.toNat_natCast, DrwE_nil, DrwE_plain, DrwE_guard, GdE_true, GdE_false, DcE_q, DcE_push, DcE_rd, drdE, dcallE, Ex_seq, Ex_reg, Ex_ret, Ex_skip, Ex_exit, Ex_block, Ex_cond', condE_true, condE_false, loopQ_nrm, loopQ_ret, loopQ_ext, blockQ_nrm, blockQ_ret, blockQ_ext, OpsE_plain, OpsE_guard, OpsE_nil, GuE_true, GuE_false, guardD, act, callA, ev, upd, putE, AcE_q, AcE_push, AcE_rd', AcE_wr', rdE, wrE, initE, thenQ_nrm, thenQ_ret, thenQ_ext, retQ, qo_s, convD, D.slc, unBytes_bytesP, bytesP_length, binD, scD, blD, scBin, blBin, strBin, intBin, ressD, mapO, resD, D.frz, frzL, frz_cells, D.closed, closedL, closed_cells, mkV_true, gt0, gtk, st0, stk, List.append_assoc, List.length_append, D.fits, D.cells, partD, mkV_false, setAt, iadD, asI, List.map_cons, List.map_nil, List.getElem?_cons_zero, List.getElem?_cons_succ, List.getElem?_nil, List.length_cons, List.length_nil, List.drop_succ_cons, List.drop_zero, List.take_succ_cons, List.take_zero, List.nil_append, List.cons_append, List.set_cons_zero, List.set_cons_succ, Nat.reduceAdd, Nat.reduceLeDiff, Nat.reduceEqDiff, Nat.reduceBEq, beq_iff_eq, reduceCtorEq, ↓reduceIte, Option.map_some, Option.some.injEq, Bool.true_and, Bool.false_and, Bool.and_true, Bool.and_self, Bool.and_false, Bool.or_self, Bool.false_eq_true, b_ff, b_ft, b_tf, b_tt, Bool.not_true, Bool.not_false, BEq.rfl, decide_true, decide_false, Nat.le_refl, callE, zD, snilD, inilD, tasD, fnilD, AcE_tp, AcE_tw, twE, DcE_tp, appD, appSrc, fillD, fillP, D.pcells, cellPure, thenQ_pan, blockQ_pan, loopQ_pan, cntQ_nrm, cntQ_ret, cntQ_ext, cntQ_pan, indQ_nrm, indQ_ret, indQ_ext, indQ_pan, resQ, panQ_pan, rawQ, unD, and_self, and_true, true_and, not_true_eq_false, not_false_eq_true, Int.cast_ofNat_Int, Int.reduceLT, Int.reduceLE, Int.reduceBEq, Int.reduceToNat, Nat.reduceMul, Int.zero_le_ofNat, orcA, AcE_call, DcE_call]
          refine ⟨rfl, ?_⟩
          exact ⟨hlt, h.T, by first | rfl | exact h.V, by simp [upd, h.h2], by simp [upd, h.h3], by simp [upd, h.ha], by simp [upd], by rw [hzt, h.all, hE]; rfl⟩
        | false =>
          simp only [c82L1, h.V, h.h2, h.h3, h.ha, h.hb, hd, DrwE_nil, DrwE_plain, DrwE_guard, GdE_true, GdE_false, DcE_q, DcE_push, DcE_rd, drdE, dcallE, Ex_seq, Ex_reg, Ex_ret, Ex_skip, Ex_exit, Ex_block, Ex_cond', condE_true, condE_false, loopQ_nrm, loopQ_ret, loopQ_ext, blockQ_nrm, blockQ_ret, blockQ_ext, OpsE_plain, OpsE_guard, OpsE_nil, GuE_true, GuE_false, guardD, act, callA, ev, upd, putE, AcE_q, AcE_push, AcE_rd', AcE_wr', rdE, wrE, initE, thenQ_nrm, thenQ_ret, thenQ_ext, retQ, qo_s, convD, D.slc, unBytes_bytesP, bytesP_length, binD, scD, blD, scBin, blBin, strBin, intBin, ressD, mapO, resD, D.frz, frzL, frz_cells, D.closed, closedL, closed_cells, mkV_true, gt0, gtk, st0, stk, List.append_assoc, List.length_append, D.fits, D.cells, partD, mkV_false, setAt, iadD, asI, List.map_cons, List.map_nil, List.getElem?_cons_zero, List.getElem?_cons_succ, List.getElem?_nil, List.length_cons, List.length_nil, List.drop_succ_cons, List.drop_zero, List.take_succ_cons, List.take_zero, List.nil_append, List.cons_append, List.set_cons_zero, List.set_cons_succ, Nat.reduceAdd, Nat.reduceLeDiff, Nat.reduceEqDiff, Nat.reduceBEq, beq_iff_eq, reduceCtorEq, ↓reduceIte, Option.map_some, Option.some.injEq, Bool.true_and, Bool.false_and, Bool.and_true, Bool.and_self, Bool.and_false, Bool.or_self, Bool.false_eq_true, b_ff, b_ft, b_tf, b_tt, Bool.not_true, Bool.not_false, BEq.rfl, decide_true, decide_false, Nat.le_refl, callE, zD, snilD, inilD, tasD, fnilD, AcE_tp, AcE_tw, twE, DcE_tp, appD, appSrc, fillD, fillP, D.pcells, cellPure, thenQ_pan, blockQ_pan, loopQ_pan, cntQ_nrm, cntQ_ret, cntQ_ext, cntQ_pan, indQ_nrm, indQ_ret, indQ_ext, indQ_pan, resQ, panQ_pan, rawQ, unD, and_self, and_true, true_and, not_true_eq_false, not_false_eq_true, Int.cast_ofNat_Int, Int.reduceLT, Int.reduceLE, Int.reduceBEq, Int.reduceToNat, Nat.reduceMul, Int.zero_le_ofNat, orcA]
          refine Ex_drw' ?_
          simp only [c82L1, h.V, h.h2, h.h3, h.ha, h.hb, hd, hr1, hr2, x1, x2, y1, y2, hw, hfx, hE, unD, zip_false hx hy hE, List.length_map, Int.toNat_natCast, DrwE_nil, DrwE_plain, DrwE_guard, GdE_true, GdE_false, DcE_q, DcE_push, DcE_rd, drdE, dcallE, Ex_seq, Ex_reg, Ex_ret, Ex_skip, Ex_exit, Ex_block, Ex_cond', condE_true, condE_false, loopQ_nrm, loopQ_ret, loopQ_ext, blockQ_nrm, blockQ_ret, blockQ_ext, OpsE_plain, OpsE_guard, OpsE_nil, GuE_true, GuE_false, guardD, act, callA, ev, upd, putE, AcE_q, AcE_push, AcE_rd', AcE_wr', rdE, wrE, initE, thenQ_nrm, thenQ_ret, thenQ_ext, retQ, qo_s, convD, D.slc, unBytes_bytesP, bytesP_length, binD, scD, blD, scBin, blBin, strBin, intBin, ressD, mapO, resD, D.frz, frzL, frz_cells, D.closed, closedL, closed_cells, mkV_true, gt0, gtk, st0, stk, List.append_assoc, List.length_append, D.fits, D.cells, partD, mkV_false, setAt, iadD, asI, List.map_cons, List.map_nil, List.getElem?_cons_zero, List.getElem?_cons_succ, List.getElem?_nil, List.length_cons, List.length_nil, List.drop_succ_cons, List.drop_zero, List.take_succ_cons, List.take_zero, List.nil_append, List.cons_append, List.set_cons_zero, List.set_cons_succ, Nat.reduceAdd, Nat.reduceLeDiff, Nat.reduceEqDiff, Nat.reduceBEq, beq_iff_eq, reduceCtorEq, ↓reduceIte, Option.map_some, Option.some.injEq, Bool.true_and, Bool.false_and, Bool.and_true, Bool.and_self, Bool.and_false, Bool.or_self, Bool.false_eq_true, b_ff, b_ft, b_tf, b_tt, Bool.not_true, Bool.not_false, BEq.rfl, decide_true, decide_false, Nat.le_refl, callE, zD, snilD, inilD, tasD, fnilD, AcE_tp, AcE_tw, twE, DcE_tp, appD, appSrc, fillD, fillP, D.pcells, cellPure, thenQ_pan, blockQ_pan, loopQ_pan, cntQ_nrm, cntQ_ret, cntQ_ext, cntQ_pan, indQ_nrm, indQ_ret, indQ_ext, indQ_pan, resQ, panQ_pan, rawQ, unD, and_self, and_true, true_and, not_true_eq_false, not_false_eq_true, Int.cast_ofNat_Int, Int.reduceLT, Int.reduceLE, Int.reduceBEq, Int.reduceToNat, Nat.reduceMul, Int.zero_le_ofNat, orcA, AcE_call, DcE_call]
          rfl
      · obtain rfl : i = kids.length := by omega
        have hd : decide ((kids.length : Int) < (kids.length : Int)) = false := by simp
        have hal := h.all
        rw [List.take_length, hl5, List.take_length] at hal
        simp only [c82L1, h.V, h.h2, h.h3, h.ha, h.hb, hd, hal, DrwE_nil, DrwE_plain, DrwE_guard, GdE_true, GdE_false, DcE_q, DcE_push, DcE_rd, drdE, dcallE, Ex_seq, Ex_reg, Ex_ret, Ex_skip, Ex_exit, Ex_block, Ex_cond', condE_true, condE_false, loopQ_nrm, loopQ_ret, loopQ_ext, blockQ_nrm, blockQ_ret, blockQ_ext, OpsE_plain, OpsE_guard, OpsE_nil, GuE_true, GuE_false, guardD, act, callA, ev, upd, putE, AcE_q, AcE_push, AcE_rd', AcE_wr', rdE, wrE, initE, thenQ_nrm, thenQ_ret, thenQ_ext, retQ, qo_s, convD, D.slc, unBytes_bytesP, bytesP_length, binD, scD, blD, scBin, blBin, strBin, intBin, ressD, mapO, resD, D.frz, frzL, frz_cells, D.closed, closedL, closed_cells, mkV_true, gt0, gtk, st0, stk, List.append_assoc, List.length_append, D.fits, D.cells, partD, mkV_false, setAt, iadD, asI, List.map_cons, List.map_nil, List.getElem?_cons_zero, List.getElem?_cons_succ, List.getElem?_nil, List.length_cons, List.length_nil, List.drop_succ_cons, List.drop_zero, List.take_succ_cons, List.take_zero, List.nil_append, List.cons_append, List.set_cons_zero, List.set_cons_succ, Nat.reduceAdd, Nat.reduceLeDiff, Nat.reduceEqDiff, Nat.reduceBEq, beq_iff_eq, reduceCtorEq, ↓reduceIte, Option.map_some, Option.some.injEq, Bool.true_and, Bool.false_and, Bool.and_true, Bool.and_self, Bool.and_false, Bool.or_self, Bool.false_eq_true, b_ff, b_ft, b_tf, b_tt, Bool.not_true, Bool.not_false, BEq.rfl, decide_true, decide_false, Nat.le_refl, callE, zD, snilD, inilD, tasD, fnilD, AcE_tp, AcE_tw, twE, DcE_tp, appD, appSrc, fillD, fillP, D.pcells, cellPure, thenQ_pan, blockQ_pan, loopQ_pan, cntQ_nrm, cntQ_ret, cntQ_ext, cntQ_pan, indQ_nrm, indQ_ret, indQ_ext, indQ_pan, resQ, panQ_pan, rawQ, unD, and_self, and_true, true_and, not_true_eq_false, not_false_eq_true, Int.cast_ofNat_Int, Int.reduceLT, Int.reduceLE, Int.reduceBEq, Int.reduceToNat, Nat.reduceMul, Int.zero_le_ofNat, orcA]

structure I77 (V : List VO) (at_ : Int) (N a b : Nat) (i : Nat) (s : St) : Prop where
  T : s.T = []
  V : s.V = V
  h1 : s.e 1 = inD at_
  h2 : s.e 2 = .mp 0 0
  ha : s.e a = inD N
  hb : s.e b = inD i
set_option maxHeartbeats 4000000 in
theorem run77 (a : Sj) (ha : a.ok) : ∀ k : Nat, k ≤ 7 → ∃ g, callV orcA F 77 [.ag (a.cells.map .c), inD k] = some (.ret (boD g)) := by
  induction ha with
  | @mk kind sum kd names kk kids hn hbd hk ih =>
    intro k hk7
    rw [sj_mk]
    obtain ⟨x, ⟨g, rfl⟩, hx⟩ := callV_ex (orc := orcA) (p := fun x => ∃ g, x = boD g) tr77 (args := [.ag ([byteP kind, boP sum, byP kd, .sl names.length (names.flatMap nmC), .v (.int .i64 kk), .sl kids.length (kids.flatMap Sj.cells)].map .c), inD k]) (by
      cases h1 : decide ((k : Int) > 6) <;> cases h2 : decide ((kids.length : Int) > 12) <;> cases h3 : decide ((names.length : Int) > 12) <;> cases h4 : decide ((kd.length : Int) > 200) <;>
        simp only [c77, byteP, h1, h2, h3, h4, exQ_nrm, exQ_ret, DrwE_nil, DrwE_plain, DrwE_guard, GdE_true, GdE_false, DcE_q, DcE_push, DcE_rd, drdE, dcallE, Ex_seq, Ex_reg, Ex_ret, Ex_skip, Ex_exit, Ex_block, Ex_cond', condE_true, condE_false, loopQ_nrm, loopQ_ret, loopQ_ext, blockQ_nrm, blockQ_ret, blockQ_ext, OpsE_plain, OpsE_guard, OpsE_nil, GuE_true, GuE_false, guardD, act, callA, ev, upd, putE, AcE_q, AcE_push, AcE_rd', AcE_wr', rdE, wrE, initE, thenQ_nrm, thenQ_ret, thenQ_ext, retQ, qo_s, convD, D.slc, unBytes_bytesP, bytesP_length, binD, scD, blD, scBin, blBin, strBin, intBin, ressD, mapO, resD, D.frz, frzL, frz_cells, D.closed, closedL, closed_cells, mkV_true, gt0, gtk, st0, stk, List.append_assoc, List.length_append, D.fits, D.cells, partD, mkV_false, setAt, iadD, asI, List.map_cons, List.map_nil, List.getElem?_cons_zero, List.getElem?_cons_succ, List.getElem?_nil, List.length_cons, List.length_nil, List.drop_succ_cons, List.drop_zero, List.take_succ_cons, List.take_zero, List.nil_append, List.cons_append, List.set_cons_zero, List.set_cons_succ, Nat.reduceAdd, Nat.reduceLeDiff, Nat.reduceEqDiff, Nat.reduceBEq, beq_iff_eq, reduceCtorEq, ↓reduceIte, Option.map_some, Option.some.injEq, Bool.true_and, Bool.false_and, Bool.and_true, Bool.and_self, Bool.and_false, Bool.or_self, Bool.false_eq_true, b_ff, b_ft, b_tf, b_tt, Bool.not_true, Bool.not_false, BEq.rfl, decide_true, decide_false, Nat.le_refl, callE, zD, snilD, inilD, tasD, fnilD, AcE_tp, AcE_tw, twE, DcE_tp, appD, appSrc, fillD, fillP, D.pcells, cellPure, thenQ_pan, blockQ_pan, loopQ_pan, cntQ_nrm, cntQ_ret, cntQ_ext, cntQ_pan, indQ_nrm, indQ_ret, indQ_ext, indQ_pan, resQ, panQ_pan, rawQ, unD, and_self, and_true, true_and, not_true_eq_false, not_false_eq_true, Int.cast_ofNat_Int, Int.reduceLT, Int.reduceLE, Int.reduceBEq, Int.reduceToNat, Nat.reduceMul, Int.zero_le_ofNat, orcA]
      all_goals first
        | exact ⟨_, ⟨true, rfl⟩, rfl⟩
        | skip
      have hk60 : k ≤ 6 := by simp at h1; omega
      refine Ex_loop_cnt names.length (I77 [sjV kind sum kd names kk kids] k names.length 30 31) ⟨rfl, rfl, rfl, rfl, rfl, rfl⟩ fun i s hi h => ?_
      rcases Nat.lt_or_ge i names.length with hlt | hge
      · have hd : decide ((i : Int) < (names.length : Int)) = true := by simp; omega
        obtain ⟨x, hx⟩ : ∃ x, names[i]? = some x := ⟨_, List.getElem?_eq_getElem hlt⟩
        have hr1 : (0 ≤ (i : Int) ∧ (i : Int) < (names.length : Int)) = True := by simp; omega
        obtain ⟨x1, x2⟩ := seg_at nmC_len hx
        have hw : IntKind.i64.wrap ((i : Int) + 1) = ((i + 1 : Nat) : Int) := wrap_i64 (by omega) (by omega)
        cases hE : decide ((x.length : Int) > 5000) <;>
          simp only [c77L0, nmC, h.V, h.h1, h.h2, h.ha, h.hb, hd, hr1, x1, x2, hw, hE, exQ_nrm, exQ_ret, List.length_map, Int.toNat_natCast, DrwE_nil, DrwE_plain, DrwE_guard, GdE_true, GdE_false, DcE_q, DcE_push, DcE_rd, drdE, dcallE, Ex_seq, Ex_reg, Ex_ret, Ex_skip, Ex_exit, Ex_block, Ex_cond', condE_true, condE_false, loopQ_nrm, loopQ_ret, loopQ_ext, blockQ_nrm, blockQ_ret, blockQ_ext, OpsE_plain, OpsE_guard, OpsE_nil, GuE_true, GuE_false, guardD, act, callA, ev, upd, putE, AcE_q, AcE_push, AcE_rd', AcE_wr', rdE, wrE, initE, thenQ_nrm, thenQ_ret, thenQ_ext, retQ, qo_s, convD, D.slc, unBytes_bytesP, bytesP_length, binD, scD, blD, scBin, blBin, strBin, intBin, ressD, mapO, resD, D.frz, frzL, frz_cells, D.closed, closedL, closed_cells, mkV_true, gt0, gtk, st0, stk, List.append_assoc, List.length_append, D.fits, D.cells, partD, mkV_false, setAt, iadD, asI, List.map_cons, List.map_nil, List.getElem?_cons_zero, List.getElem?_cons_succ, List.getElem?_nil, List.length_cons, List.length_nil, List.drop_succ_cons, List.drop_zero, List.take_succ_cons, List.take_zero, List.nil_append, List.cons_append, List.set_cons_zero, List.set_cons_succ, Nat.reduceAdd, Nat.reduceLeDiff, Nat.reduceEqDiff, Nat.reduceBEq, beq_iff_eq, reduceCtorEq, ↓reduceIte, Option.map_some, Option.some.injEq, Bool.true_and, Bool.false_and, Bool.and_true, Bool.and_self, Bool.and_false, Bool.or_self, Bool.false_eq_true, b_ff, b_ft, b_tf, b_tt, Bool.not_true, Bool.not_false, BEq.rfl, decide_true, decide_false, Nat.le_refl, callE, zD, snilD, inilD, tasD, fnilD, AcE_tp, AcE_tw, twE, DcE_tp, appD, appSrc, fillD, fillP, D.pcells, cellPure, thenQ_pan, blockQ_pan, loopQ_pan, cntQ_nrm, cntQ_ret, cntQ_ext, cntQ_pan, indQ_nrm, indQ_ret, indQ_ext, indQ_pan, resQ, panQ_pan, rawQ, unD, and_self, and_true, true_and, not_true_eq_false, not_false_eq_true, Int.cast_ofNat_Int, Int.reduceLT, Int.reduceLE, Int.reduceBEq, Int.reduceToNat, Nat.reduceMul, Int.zero_le_ofNat, orcA]
        · exact ⟨hlt, h.T, by first | rfl | exact h.V, by simp [upd, h.h1], by simp [upd, h.h2], by simp [upd, h.ha], by simp [upd]⟩
        · exact ⟨_, ⟨true, rfl⟩, rfl⟩
      · obtain rfl : i = names.length := by omega
        have hd : decide ((names.length : Int) < (names.length : Int)) = false := by simp
        simp only [c77L0, h.V, h.h1, h.h2, h.ha, h.hb, hd, exQ_nrm, exQ_ret, DrwE_nil, DrwE_plain, DrwE_guard, GdE_true, GdE_false, DcE_q, DcE_push, DcE_rd, drdE, dcallE, Ex_seq, Ex_reg, Ex_ret, Ex_skip, Ex_exit, Ex_block, Ex_cond', condE_true, condE_false, loopQ_nrm, loopQ_ret, loopQ_ext, blockQ_nrm, blockQ_ret, blockQ_ext, OpsE_plain, OpsE_guard, OpsE_nil, GuE_true, GuE_false, guardD, act, callA, ev, upd, putE, AcE_q, AcE_push, AcE_rd', AcE_wr', rdE, wrE, initE, thenQ_nrm, thenQ_ret, thenQ_ext, retQ, qo_s, convD, D.slc, unBytes_bytesP, bytesP_length, binD, scD, blD, scBin, blBin, strBin, intBin, ressD, mapO, resD, D.frz, frzL, frz_cells, D.closed, closedL, closed_cells, mkV_true, gt0, gtk, st0, stk, List.append_assoc, List.length_append, D.fits, D.cells, partD, mkV_false, setAt, iadD, asI, List.map_cons, List.map_nil, List.getElem?_cons_zero, List.getElem?_cons_succ, List.getElem?_nil, List.length_cons, List.length_nil, List.drop_succ_cons, List.drop_zero, List.take_succ_cons, List.take_zero, List.nil_append, List.cons_append, List.set_cons_zero, List.set_cons_succ, Nat.reduceAdd, Nat.reduceLeDiff, Nat.reduceEqDiff, Nat.reduceBEq, beq_iff_eq, reduceCtorEq, ↓reduceIte, Option.map_some, Option.some.injEq, Bool.true_and, Bool.false_and, Bool.and_true, Bool.and_self, Bool.and_false, Bool.or_self, Bool.false_eq_true, b_ff, b_ft, b_tf, b_tt, Bool.not_true, Bool.not_false, BEq.rfl, decide_true, decide_false, Nat.le_refl, callE, zD, snilD, inilD, tasD, fnilD, AcE_tp, AcE_tw, twE, DcE_tp, appD, appSrc, fillD, fillP, D.pcells, cellPure, thenQ_pan, blockQ_pan, loopQ_pan, cntQ_nrm, cntQ_ret, cntQ_ext, cntQ_pan, indQ_nrm, indQ_ret, indQ_ext, indQ_pan, resQ, panQ_pan, rawQ, unD, and_self, and_true, true_and, not_true_eq_false, not_false_eq_true, Int.cast_ofNat_Int, Int.reduceLT, Int.reduceLE, Int.reduceBEq, Int.reduceToNat, Nat.reduceMul, Int.zero_le_ofNat, orcA]
        refine Ex_loop_cnt kids.length (I77 [sjV kind sum kd names kk kids] k kids.length 44 45) ⟨h.T, rfl, by simp [upd, h.h1], by simp [upd, h.h2], rfl, rfl⟩ fun i s hi h => ?_
        rcases Nat.lt_or_ge i kids.length with hlt | hge
        · have hd : decide ((i : Int) < (kids.length : Int)) = true := by simp; omega
          obtain ⟨x, hx⟩ : ∃ x, kids[i]? = some x := ⟨_, List.getElem?_eq_getElem hlt⟩
          have hr1 : (0 ≤ (i : Int) ∧ (i : Int) < (kids.length : Int)) = True := by simp; omega
          obtain ⟨x1, x2⟩ := seg_at sj_len hx
          obtain ⟨g, hfx⟩ := ih x (List.mem_of_getElem? hx) (k + 1) (by omega)
          have hw : IntKind.i64.wrap ((i : Int) + 1) = ((i + 1 : Nat) : Int) := wrap_i64 (by omega) (by omega)
          have hw2 : IntKind.i64.wrap ((k : Int) + 1) = ((k + 1 : Nat) : Int) := wrap_i64 (by omega) (by omega)
          cases g <;>
            simp only [c77L1, h.V, h.h1, h.h2, h.ha, h.hb, hd, hr1, x1, x2, hw, hw2, hfx, exQ_nrm, exQ_ret, List.length_map, Int.toNat_natCast, DrwE_nil, DrwE_plain, DrwE_guard, GdE_true, GdE_false, DcE_q, DcE_push, DcE_rd, drdE, dcallE, Ex_seq, Ex_reg, Ex_ret, Ex_skip, Ex_exit, Ex_block, Ex_cond', condE_true, condE_false, loopQ_nrm, loopQ_ret, loopQ_ext, blockQ_nrm, blockQ_ret, blockQ_ext, OpsE_plain, OpsE_guard, OpsE_nil, GuE_true, GuE_false, guardD, act, callA, ev, upd, putE, AcE_q, AcE_push, AcE_rd', AcE_wr', rdE, wrE, initE, thenQ_nrm, thenQ_ret, thenQ_ext, retQ, qo_s, convD, D.slc, unBytes_bytesP, bytesP_length, binD, scD, blD, scBin, blBin, strBin, intBin, ressD, mapO, resD, D.frz, frzL, frz_cells, D.closed, closedL, closed_cells, mkV_true, gt0, gtk, st0, stk, List.append_assoc, List.length_append, D.fits, D.cells, partD, mkV_false, setAt, iadD, asI, List.map_cons, List.map_nil, List.getElem?_cons_zero, List.getElem?_cons_succ, List.getElem?_nil, List.length_cons, List.length_nil, List.drop_succ_cons, List.drop_zero, List.take_succ_cons, List.take_zero, List.nil_append, List.cons_append, List.set_cons_zero, List.set_cons_succ, Nat.reduceAdd, Nat.reduceLeDiff, Nat.reduceEqDiff, Nat.reduceBEq, beq_iff_eq, reduceCtorEq, ↓reduceIte, Option.map_some, Option.some.injEq, Bool.true_and, Bool.false_and, Bool.and_true, Bool.and_self, Bool.and_false, Bool.or_self, Bool.false_eq_true, b_ff, b_ft, b_tf, b_tt, Bool.not_true, Bool.not_false, BEq.rfl, decide_true, decide_false, Nat.le_refl, callE, zD, snilD, inilD, tasD, fnilD, AcE_tp, AcE_tw, twE, DcE_tp, appD, appSrc, fillD, fillP, D.pcells, cellPure, thenQ_pan, blockQ_pan, loopQ_pan, cntQ_nrm, cntQ_ret, cntQ_ext, cntQ_pan, indQ_nrm, indQ_ret, indQ_ext, indQ_pan, resQ, panQ_pan, rawQ, unD, and_self, and_true, true_and, not_true_eq_false, not_false_eq_true, Int.cast_ofNat_Int, Int.reduceLT, Int.reduceLE, Int.reduceBEq, Int.reduceToNat, Nat.reduceMul, Int.zero_le_ofNat, orcA, AcE_call]
          · exact ⟨hlt, h.T, by first | rfl | exact h.V, by simp [upd, h.h1], by simp [upd, h.h2], by simp [upd, h.ha], by simp [upd]⟩
          · exact ⟨_, ⟨true, rfl⟩, rfl⟩
        · obtain rfl : i = kids.length := by omega
          have hd : decide ((kids.length : Int) < (kids.length : Int)) = false := by simp
          simp only [c77L1, h.V, h.h1, h.h2, h.ha, h.hb, hd, exQ_nrm, exQ_ret, DrwE_nil, DrwE_plain, DrwE_guard, GdE_true, GdE_false, DcE_q, DcE_push, DcE_rd, drdE, dcallE, Ex_seq, Ex_reg, Ex_ret, Ex_skip, Ex_exit, Ex_block, Ex_cond', condE_true, condE_false, loopQ_nrm, loopQ_ret, loopQ_ext, blockQ_nrm, blockQ_ret, blockQ_ext, OpsE_plain, OpsE_guard, OpsE_nil, GuE_true, GuE_false, guardD, act, callA, ev, upd, putE, AcE_q, AcE_push, AcE_rd', AcE_wr', rdE, wrE, initE, thenQ_nrm, thenQ_ret, thenQ_ext, retQ, qo_s, convD, D.slc, unBytes_bytesP, bytesP_length, binD, scD, blD, scBin, blBin, strBin, intBin, ressD, mapO, resD, D.frz, frzL, frz_cells, D.closed, closedL, closed_cells, mkV_true, gt0, gtk, st0, stk, List.append_assoc, List.length_append, D.fits, D.cells, partD, mkV_false, setAt, iadD, asI, List.map_cons, List.map_nil, List.getElem?_cons_zero, List.getElem?_cons_succ, List.getElem?_nil, List.length_cons, List.length_nil, List.drop_succ_cons, List.drop_zero, List.take_succ_cons, List.take_zero, List.nil_append, List.cons_append, List.set_cons_zero, List.set_cons_succ, Nat.reduceAdd, Nat.reduceLeDiff, Nat.reduceEqDiff, Nat.reduceBEq, beq_iff_eq, reduceCtorEq, ↓reduceIte, Option.map_some, Option.some.injEq, Bool.true_and, Bool.false_and, Bool.and_true, Bool.and_self, Bool.and_false, Bool.or_self, Bool.false_eq_true, b_ff, b_ft, b_tf, b_tt, Bool.not_true, Bool.not_false, BEq.rfl, decide_true, decide_false, Nat.le_refl, callE, zD, snilD, inilD, tasD, fnilD, AcE_tp, AcE_tw, twE, DcE_tp, appD, appSrc, fillD, fillP, D.pcells, cellPure, thenQ_pan, blockQ_pan, loopQ_pan, cntQ_nrm, cntQ_ret, cntQ_ext, cntQ_pan, indQ_nrm, indQ_ret, indQ_ext, indQ_pan, resQ, panQ_pan, rawQ, unD, and_self, and_true, true_and, not_true_eq_false, not_false_eq_true, Int.cast_ofNat_Int, Int.reduceLT, Int.reduceLE, Int.reduceBEq, Int.reduceToNat, Nat.reduceMul, Int.zero_le_ofNat, orcA]
          exact ⟨_, ⟨false, rfl⟩, rfl⟩)
    exact ⟨g, hx⟩
end Go.Proofs.YthglfhnlolefhaaGreatDoor

end
section
/- The compiled code of functions 13 36 37 44 45 91 92, printed by a program; each is what the compiler 'trFn' gives. -/
set_option maxRecDepth 100000
namespace Go.Proofs.YthglfhnlolefhaaGreatDoor
open Go.Abs
def c13 : AFn := ⟨27, [(.t 4)], (.seq (.reg [⟨(some 4), none, (.mv (.k (.c (.v (.bool false)))))⟩]) (.seq (.seq (.reg [⟨(some 5), none, (.mv (.t 0))⟩, ⟨(some 6), none, (.call 36 [(.t 5)])⟩, ⟨(some 7), none, (.mv (.t 6))⟩, ⟨(some 8), (some (7, false)), (.mv (.t 1))⟩, ⟨(some 9), (some (7, false)), (.call 36 [(.t 8)])⟩, ⟨(some 10), none, (.pick (.t 7) (.k (.c (.v (.bool true)))) (.t 9))⟩]) (.cond (.t 10) (.seq (.reg [⟨(some 11), none, (.call 37 [])⟩, ⟨(some 4), none, (.mv (.t 11))⟩]) .ret) .skip)) (.seq (.reg [⟨(some 12), none, (.mv (.t 0))⟩, ⟨(some 13), none, (.mv (.t 1))⟩, ⟨(some 14), none, (.call 45 [(.t 12), (.t 13)])⟩, ⟨(some 15), none, (.mv (.t 0))⟩, ⟨(some 16), none, (.mv (.t 1))⟩, ⟨(some 17), none, (.call 44 [(.t 15), (.t 16)])⟩, ⟨(some 18), none, (.bin .eql .bl (.t 14) (.t 17))⟩, ⟨(some 19), none, (.mv (.t 18))⟩, ⟨(some 20), (some (19, true)), (.mv (.t 0))⟩, ⟨(some 21), (some (19, true)), (.mv (.t 0))⟩, ⟨(some 22), (some (19, true)), (.call 45 [(.t 20), (.t 21)])⟩, ⟨(some 23), none, (.pick (.t 19) (.t 22) (.k (.c (.v (.bool false)))))⟩, ⟨(some 24), none, (.mv (.t 23))⟩, ⟨(some 25), (some (24, true)), (.call 37 [])⟩, ⟨(some 26), none, (.pick (.t 24) (.t 25) (.k (.c (.v (.bool false)))))⟩, ⟨(some 4), none, (.mv (.t 26))⟩]) .ret)))⟩
theorem tr13 : trFn Tryz.prog 13 = some c13 := by kernel_rfl
def c36L0 : ACode := (.seq (.reg [⟨(some 10), none, (.bin .lss .sc (.t 9) (.t 8))⟩]) (.seq (.cond (.t 10) .skip (.exit 0)) (.seq (.block 1 (.seq (.reg [⟨(some 11), none, (.mv (.t 9))⟩, ⟨(some 3), none, (.mv (.t 11))⟩]) (.seq (.reg [⟨(some 12), none, (.mv (.t 0))⟩, ⟨(some 13), none, (.mv (.t 3))⟩, ⟨(some 14), none, (.iad (.sl 21) (.t 12) (.t 13))⟩, ⟨(some 15), none, (.fad 0 (.t 14))⟩, ⟨(some 16), none, (.load true 6 (.t 15))⟩, ⟨(some 17), none, (.call 77 [(.t 16), (.k (.c (.v (.int .i64 0))))])⟩, ⟨(some 18), none, (.mv (.t 17))⟩, ⟨(some 19), (some (18, false)), (.mv (.t 0))⟩, ⟨(some 20), (some (18, false)), (.mv (.t 3))⟩, ⟨(some 21), (some (18, false)), (.iad (.sl 21) (.t 19) (.t 20))⟩, ⟨(some 22), (some (18, false)), (.fad 7 (.t 21))⟩, ⟨(some 23), (some (18, false)), (.load true 10 (.t 22))⟩, ⟨(some 24), (some (18, false)), (.call 17 [(.t 23), (.k (.c (.v (.int .i64 0))))])⟩, ⟨(some 25), none, (.pick (.t 18) (.k (.c (.v (.bool true)))) (.t 24))⟩]) (.cond (.t 25) (.seq (.reg [⟨(some 2), none, (.mv (.k (.c (.v (.bool true)))))⟩]) .ret) .skip)))) (.reg [⟨(some 26), none, (.bin .add .sc (.t 9) (.k (.c (.v (.int .i64 1)))))⟩, ⟨(some 9), none, (.mv (.t 26))⟩]))))
def c36 : AFn := ⟨27, [(.t 2)], (.seq (.reg [⟨(some 2), none, (.mv (.k (.c (.v (.bool false)))))⟩]) (.seq (.seq (.reg [⟨(some 4), none, (.mv (.t 0))⟩, ⟨(some 5), none, (.len .sl (.t 4))⟩, ⟨(some 6), none, (.bin .gtr .sc (.t 5) (.k (.c (.v (.int .i64 20)))))⟩]) (.cond (.t 6) (.seq (.reg [⟨(some 2), none, (.mv (.k (.c (.v (.bool true)))))⟩]) .ret) .skip)) (.seq (.seq (.reg [⟨(some 7), none, (.mv (.t 0))⟩, ⟨(some 8), none, (.len .sl (.t 7))⟩, ⟨(some 9), none, (.mv (.k (.c (.v (.int .i64 0)))))⟩]) (.block 0 (.loop c36L0))) (.seq (.reg [⟨(some 2), none, (.mv (.k (.c (.v (.bool false)))))⟩]) .ret))))⟩
theorem tr36 : trFn Tryz.prog 36 = some c36 := by kernel_rfl
def c37 : AFn := ⟨35, [(.t 0)], (.seq (.reg [⟨(some 0), none, (.mv (.k (.c (.v (.bool false)))))⟩]) (.seq (.reg [⟨(some 6), none, (.call 40 [(.k (.fs 0 []))])⟩, ⟨(some 5), none, (.mv (.t 6))⟩, ⟨(some 7), none, (.ext (.t 5) 0)⟩, ⟨(some 8), none, (.ext (.t 5) 1)⟩, ⟨(some 1), none, (.alloc 27 [(.v (.bool false)), (.v (.bool false)), (.sl 0 []), (.sl 0 []), (.sl 0 [])])⟩, ⟨none, none, (.store 5 (.t 1) (.t 7))⟩, ⟨(some 2), none, (.mv (.t 8))⟩]) (.seq (.reg [⟨(some 10), none, (.load true 5 (.t 1))⟩, ⟨(some 11), none, (.call 43 [(.t 10)])⟩, ⟨(some 9), none, (.mv (.t 11))⟩, ⟨(some 12), none, (.ext (.t 9) 0)⟩, ⟨(some 13), none, (.ext (.t 9) 1)⟩, ⟨(some 3), none, (.mv (.t 12))⟩, ⟨(some 4), none, (.mv (.t 13))⟩]) (.seq (.reg [⟨(some 14), none, (.mv (.t 2))⟩, ⟨(some 15), none, (.bin .eql .sc (.t 14) (.k (.c (.v (.int .i64 0)))))⟩, ⟨(some 16), none, (.mv (.t 15))⟩, ⟨(some 17), (some (16, true)), (.load true 5 (.t 1))⟩, ⟨(some 18), (some (16, true)), (.call 78 [(.t 17), (.k (.c (.v (.string ⟨#[97, 99, 108]⟩))))])⟩, ⟨(some 19), none, (.pick (.t 16) (.t 18) (.k (.c (.v (.bool false)))))⟩, ⟨(some 20), none, (.mv (.t 19))⟩, ⟨(some 21), (some (20, true)), (.fad 4 (.t 1))⟩, ⟨(some 22), (some (20, true)), (.load false 1 (.t 21))⟩, ⟨(some 23), (some (20, true)), (.len .sl (.t 22))⟩, ⟨(some 24), (some (20, true)), (.bin .eql .sc (.t 23) (.k (.c (.v (.int .i64 1)))))⟩, ⟨(some 25), none, (.pick (.t 20) (.t 24) (.k (.c (.v (.bool false)))))⟩, ⟨(some 26), none, (.mv (.t 25))⟩, ⟨(some 27), (some (26, true)), (.mv (.t 4))⟩, ⟨(some 28), (some (26, true)), (.bin .eql .sc (.t 27) (.k (.c (.v (.int .i64 0)))))⟩, ⟨(some 29), none, (.pick (.t 26) (.t 28) (.k (.c (.v (.bool false)))))⟩, ⟨(some 30), none, (.mv (.t 29))⟩, ⟨(some 31), (some (30, true)), (.mv (.t 3))⟩, ⟨(some 32), (some (30, true)), (.len .sl (.t 31))⟩, ⟨(some 33), (some (30, true)), (.bin .eql .sc (.t 32) (.k (.c (.v (.int .i64 0)))))⟩, ⟨(some 34), none, (.pick (.t 30) (.t 33) (.k (.c (.v (.bool false)))))⟩, ⟨(some 0), none, (.mv (.t 34))⟩]) .ret))))⟩
theorem tr37 : trFn Tryz.prog 37 = some c37 := by kernel_rfl
def c44L0 : ACode := (.seq (.reg [⟨(some 14), none, (.bin .lss .sc (.t 13) (.t 12))⟩]) (.seq (.cond (.t 14) .skip (.exit 0)) (.seq (.block 1 (.seq (.reg [⟨(some 15), none, (.mv (.t 13))⟩, ⟨(some 5), none, (.mv (.t 15))⟩]) (.seq (.drw [⟨(some 16), none, (.mv (.t 0))⟩, ⟨(some 17), none, (.mv (.t 5))⟩, ⟨(some 18), none, (.iad (.sl 21) (.t 16) (.t 17))⟩, ⟨(some 19), none, (.fad 0 (.t 18))⟩, ⟨(some 20), none, (.load true 6 (.t 19))⟩, ⟨(some 21), none, (.mv (.t 1))⟩, ⟨(some 22), none, (.mv (.t 5))⟩, ⟨(some 23), none, (.iad (.sl 21) (.t 21) (.t 22))⟩, ⟨(some 24), none, (.fad 0 (.t 23))⟩, ⟨(some 25), none, (.load true 6 (.t 24))⟩, ⟨(some 26), none, (.call 82 [(.t 20), (.t 25)])⟩, ⟨(some 27), none, (.un .not (.t 26))⟩, ⟨(some 28), none, (.mv (.t 27))⟩, ⟨(some 29), (some (28, false)), (.mv (.t 0))⟩, ⟨(some 30), (some (28, false)), (.mv (.t 5))⟩, ⟨(some 31), (some (28, false)), (.iad (.sl 21) (.t 29) (.t 30))⟩, ⟨(some 32), (some (28, false)), (.fad 6 (.t 31))⟩, ⟨(some 33), (some (28, false)), (.load false 1 (.t 32))⟩, ⟨(some 34), (some (28, false)), (.mv (.t 1))⟩, ⟨(some 35), (some (28, false)), (.mv (.t 5))⟩, ⟨(some 36), (some (28, false)), (.iad (.sl 21) (.t 34) (.t 35))⟩, ⟨(some 37), (some (28, false)), (.fad 6 (.t 36))⟩, ⟨(some 38), (some (28, false)), (.load false 1 (.t 37))⟩, ⟨(some 39), (some (28, false)), (.bin .neq .bl (.t 33) (.t 38))⟩, ⟨(some 40), none, (.pick (.t 28) (.k (.c (.v (.bool true)))) (.t 39))⟩, ⟨(some 41), none, (.mv (.t 40))⟩, ⟨(some 42), (some (41, false)), (.mv (.t 0))⟩, ⟨(some 43), (some (41, false)), (.mv (.t 5))⟩, ⟨(some 44), (some (41, false)), (.iad (.sl 21) (.t 42) (.t 43))⟩, ⟨(some 45), (some (41, false)), (.fad 7 (.t 44))⟩, ⟨(some 46), (some (41, false)), (.load true 10 (.t 45))⟩, ⟨(some 47), (some (41, false)), (.mv (.t 1))⟩, ⟨(some 48), (some (41, false)), (.mv (.t 5))⟩, ⟨(some 49), (some (41, false)), (.iad (.sl 21) (.t 47) (.t 48))⟩, ⟨(some 50), (some (41, false)), (.fad 7 (.t 49))⟩, ⟨(some 51), (some (41, false)), (.load true 10 (.t 50))⟩, ⟨(some 52), (some (41, false)), (.call 22 [(.t 46), (.t 51)])⟩, ⟨(some 53), (some (41, false)), (.un .not (.t 52))⟩, ⟨(some 54), none, (.pick (.t 41) (.k (.c (.v (.bool true)))) (.t 53))⟩, ⟨(some 55), none, (.mv (.t 54))⟩, ⟨(some 56), (some (55, false)), (.mv (.t 0))⟩, ⟨(some 57), (some (55, false)), (.mv (.t 5))⟩, ⟨(some 58), (some (55, false)), (.iad (.sl 21) (.t 56) (.t 57))⟩, ⟨(some 59), (some (55, false)), (.fad 17 (.t 58))⟩, ⟨(some 60), (some (55, false)), (.load true 4 (.t 59))⟩, ⟨(some 61), (some (55, false)), (.mv (.t 1))⟩, ⟨(some 62), (some (55, false)), (.mv (.t 5))⟩, ⟨(some 63), (some (55, false)), (.iad (.sl 21) (.t 61) (.t 62))⟩, ⟨(some 64), (some (55, false)), (.fad 17 (.t 63))⟩, ⟨(some 65), (some (55, false)), (.load true 4 (.t 64))⟩, ⟨(some 66), (some (55, false)), (.bin .neq (.ag [.b, .i, .b, .i]) (.t 60) (.t 65))⟩, ⟨(some 67), none, (.pick (.t 55) (.k (.c (.v (.bool true)))) (.t 66))⟩] [(0, 1), (0, 3), (1, 3), (0, 4), (1, 4), (2, 4), (0, 5), (1, 5), (2, 5), (3, 5), (4, 5), (0, 6), (1, 6), (2, 6), (3, 6), (4, 6), (5, 6), (0, 7), (1, 7), (2, 7), (3, 7), (4, 7), (0, 8), (1, 8), (2, 8), (3, 8), (4, 8), (5, 8), (6, 8), (0, 9), (1, 9), (2, 9), (3, 9), (4, 9), (5, 9), (6, 9), (7, 9), (0, 10), (1, 10), (2, 10), (3, 10), (5, 10), (6, 10), (7, 10), (8, 10), (0, 11), (1, 11), (2, 11), (3, 11), (4, 11), (5, 11), (6, 11), (7, 11), (8, 11), (9, 11), (0, 12), (1, 12), (2, 12), (3, 12), (4, 12), (5, 12), (6, 12), (7, 12), (8, 12), (9, 12), (0, 13), (1, 13), (2, 13), (3, 13), (4, 13), (5, 13), (6, 13), (7, 13), (8, 13), (9, 13), (10, 13), (11, 13), (0, 14), (1, 14), (2, 14), (3, 14), (4, 14), (5, 14), (6, 14), (7, 14), (8, 14), (9, 14), (10, 14), (11, 14), (13, 14), (0, 15), (1, 15), (2, 15), (3, 15), (4, 15), (5, 15), (6, 15), (7, 15), (8, 15), (9, 15), (10, 15), (11, 15), (0, 16), (1, 16), (2, 16), (3, 16), (4, 16), (5, 16), (6, 16), (7, 16), (8, 16), (9, 16), (10, 16), (11, 16), (13, 16), (14, 16), (0, 17), (1, 17), (2, 17), (3, 17), (4, 17), (5, 17), (6, 17), (7, 17), (8, 17), (9, 17), (10, 17), (11, 17), (13, 17), (14, 17), (15, 17), (0, 18), (1, 18), (2, 18), (3, 18), (4, 18), (5, 18), (6, 18), (7, 18), (8, 18), (9, 18), (10, 18), (11, 18), (13, 18), (14, 18), (15, 18), (16, 18), (17, 18), (0, 19), (1, 19), (2, 19), (3, 19), (4, 19), (5, 19), (6, 19), (7, 19), (8, 19), (9, 19), (10, 19), (11, 19), (13, 19), (14, 19), (15, 19), (16, 19), (17, 19), (18, 19), (0, 20), (1, 20), (2, 20), (3, 20), (4, 20), (5, 20), (6, 20), (7, 20), (8, 20), (9, 20), (10, 20), (11, 20), (13, 20), (14, 20), (15, 20), (16, 20), (17, 20), (0, 21), (1, 21), (2, 21), (3, 21), (4, 21), (5, 21), (6, 21), (7, 21), (8, 21), (9, 21), (10, 21), (11, 21), (13, 21), (14, 21), (15, 21), (16, 21), (17, 21), (18, 21), (19, 21), (0, 22), (1, 22), (2, 22), (3, 22), (4, 22), (5, 22), (6, 22), (7, 22), (8, 22), (9, 22), (10, 22), (11, 22), (13, 22), (14, 22), (15, 22), (16, 22), (17, 22), (18, 22), (19, 22), (20, 22), (0, 23), (1, 23), (2, 23), (3, 23), (4, 23), (5, 23), (6, 23), (7, 23), (8, 23), (9, 23), (10, 23), (11, 23), (13, 23), (14, 23), (15, 23), (16, 23), (18, 23), (19, 23), (20, 23), (21, 23), (0, 24), (1, 24), (2, 24), (3, 24), (4, 24), (5, 24), (6, 24), (7, 24), (8, 24), (9, 24), (10, 24), (11, 24), (13, 24), (14, 24), (15, 24), (16, 24), (17, 24), (18, 24), (19, 24), (20, 24), (21, 24), (22, 24), (0, 25), (1, 25), (2, 25), (3, 25), (4, 25), (5, 25), (6, 25), (7, 25), (8, 25), (9, 25), (10, 25), (11, 25), (13, 25), (14, 25), (15, 25), (16, 25), (17, 25), (18, 25), (19, 25), (20, 25), (21, 25), (22, 25), (23, 25), (0, 26), (1, 26), (2, 26), (3, 26), (4, 26), (5, 26), (6, 26), (7, 26), (8, 26), (9, 26), (10, 26), (11, 26), (12, 26), (13, 26), (14, 26), (15, 26), (16, 26), (17, 26), (18, 26), (19, 26), (20, 26), (21, 26), (22, 26), (23, 26), (24, 26), (0, 27), (1, 27), (2, 27), (3, 27), (4, 27), (5, 27), (6, 27), (7, 27), (8, 27), (9, 27), (10, 27), (11, 27), (12, 27), (13, 27), (14, 27), (15, 27), (16, 27), (17, 27), (18, 27), (19, 27), (20, 27), (21, 27), (22, 27), (23, 27), (24, 27), (26, 27), (0, 28), (1, 28), (2, 28), (3, 28), (4, 28), (5, 28), (6, 28), (7, 28), (8, 28), (9, 28), (10, 28), (11, 28), (12, 28), (13, 28), (14, 28), (15, 28), (16, 28), (17, 28), (18, 28), (19, 28), (20, 28), (21, 28), (22, 28), (23, 28), (24, 28), (0, 29), (1, 29), (2, 29), (3, 29), (4, 29), (5, 29), (6, 29), (7, 29), (8, 29), (9, 29), (10, 29), (11, 29), (12, 29), (13, 29), (14, 29), (15, 29), (16, 29), (17, 29), (18, 29), (19, 29), (20, 29), (21, 29), (22, 29), (23, 29), (24, 29), (26, 29), (27, 29), (0, 30), (1, 30), (2, 30), (3, 30), (4, 30), (5, 30), (6, 30), (7, 30), (8, 30), (9, 30), (10, 30), (11, 30), (12, 30), (13, 30), (14, 30), (15, 30), (16, 30), (17, 30), (18, 30), (19, 30), (20, 30), (21, 30), (22, 30), (23, 30), (24, 30), (26, 30), (27, 30), (28, 30), (0, 31), (1, 31), (2, 31), (3, 31), (4, 31), (5, 31), (6, 31), (7, 31), (8, 31), (9, 31), (10, 31), (11, 31), (12, 31), (13, 31), (14, 31), (15, 31), (16, 31), (17, 31), (18, 31), (19, 31), (20, 31), (21, 31), (22, 31), (23, 31), (24, 31), (26, 31), (27, 31), (28, 31), (29, 31), (30, 31), (0, 32), (1, 32), (2, 32), (3, 32), (4, 32), (5, 32), (6, 32), (7, 32), (8, 32), (9, 32), (10, 32), (11, 32), (12, 32), (13, 32), (14, 32), (15, 32), (16, 32), (17, 32), (18, 32), (19, 32), (20, 32), (21, 32), (22, 32), (23, 32), (24, 32), (26, 32), (27, 32), (28, 32), (29, 32), (30, 32), (31, 32), (0, 33), (1, 33), (2, 33), (3, 33), (4, 33), (5, 33), (6, 33), (7, 33), (8, 33), (9, 33), (10, 33), (11, 33), (12, 33), (13, 33), (14, 33), (15, 33), (16, 33), (17, 33), (18, 33), (19, 33), (20, 33), (21, 33), (22, 33), (23, 33), (24, 33), (26, 33), (27, 33), (28, 33), (29, 33), (30, 33), (0, 34), (1, 34), (2, 34), (3, 34), (4, 34), (5, 34), (6, 34), (7, 34), (8, 34), (9, 34), (10, 34), (11, 34), (12, 34), (13, 34), (14, 34), (15, 34), (16, 34), (17, 34), (18, 34), (19, 34), (20, 34), (21, 34), (22, 34), (23, 34), (24, 34), (26, 34), (27, 34), (28, 34), (29, 34), (30, 34), (31, 34), (32, 34), (0, 35), (1, 35), (2, 35), (3, 35), (4, 35), (5, 35), (6, 35), (7, 35), (8, 35), (9, 35), (10, 35), (11, 35), (12, 35), (13, 35), (14, 35), (15, 35), (16, 35), (17, 35), (18, 35), (19, 35), (20, 35), (21, 35), (22, 35), (23, 35), (24, 35), (26, 35), (27, 35), (28, 35), (29, 35), (30, 35), (31, 35), (32, 35), (33, 35), (0, 36), (1, 36), (2, 36), (3, 36), (4, 36), (5, 36), (6, 36), (7, 36), (8, 36), (9, 36), (10, 36), (11, 36), (12, 36), (13, 36), (14, 36), (15, 36), (16, 36), (17, 36), (18, 36), (19, 36), (20, 36), (21, 36), (22, 36), (23, 36), (24, 36), (26, 36), (27, 36), (28, 36), (29, 36), (31, 36), (32, 36), (33, 36), (34, 36), (0, 37), (1, 37), (2, 37), (3, 37), (4, 37), (5, 37), (6, 37), (7, 37), (8, 37), (9, 37), (10, 37), (11, 37), (12, 37), (13, 37), (14, 37), (15, 37), (16, 37), (17, 37), (18, 37), (19, 37), (20, 37), (21, 37), (22, 37), (23, 37), (24, 37), (26, 37), (27, 37), (28, 37), (29, 37), (30, 37), (31, 37), (32, 37), (33, 37), (34, 37), (35, 37), (0, 38), (1, 38), (2, 38), (3, 38), (4, 38), (5, 38), (6, 38), (7, 38), (8, 38), (9, 38), (10, 38), (11, 38), (12, 38), (13, 38), (14, 38), (15, 38), (16, 38), (17, 38), (18, 38), (19, 38), (20, 38), (21, 38), (22, 38), (23, 38), (24, 38), (26, 38), (27, 38), (28, 38), (29, 38), (30, 38), (31, 38), (32, 38), (33, 38), (34, 38), (35, 38), (36, 38), (0, 39), (1, 39), (2, 39), (3, 39), (4, 39), (5, 39), (6, 39), (7, 39), (8, 39), (9, 39), (10, 39), (11, 39), (12, 39), (13, 39), (14, 39), (15, 39), (16, 39), (17, 39), (18, 39), (19, 39), (20, 39), (21, 39), (22, 39), (23, 39), (24, 39), (25, 39), (26, 39), (27, 39), (28, 39), (29, 39), (30, 39), (31, 39), (32, 39), (33, 39), (34, 39), (35, 39), (37, 39), (0, 40), (1, 40), (2, 40), (3, 40), (4, 40), (5, 40), (6, 40), (7, 40), (8, 40), (9, 40), (10, 40), (11, 40), (12, 40), (13, 40), (14, 40), (15, 40), (16, 40), (17, 40), (18, 40), (19, 40), (20, 40), (21, 40), (22, 40), (23, 40), (24, 40), (25, 40), (26, 40), (27, 40), (28, 40), (29, 40), (30, 40), (31, 40), (32, 40), (33, 40), (34, 40), (35, 40), (36, 40), (37, 40), (38, 40), (0, 41), (1, 41), (2, 41), (3, 41), (4, 41), (5, 41), (6, 41), (7, 41), (8, 41), (9, 41), (10, 41), (11, 41), (12, 41), (13, 41), (14, 41), (15, 41), (16, 41), (17, 41), (18, 41), (19, 41), (20, 41), (21, 41), (22, 41), (23, 41), (24, 41), (25, 41), (26, 41), (27, 41), (28, 41), (29, 41), (30, 41), (31, 41), (32, 41), (33, 41), (34, 41), (35, 41), (36, 41), (37, 41), (38, 41), (40, 41), (0, 42), (1, 42), (2, 42), (3, 42), (4, 42), (5, 42), (6, 42), (7, 42), (8, 42), (9, 42), (10, 42), (11, 42), (12, 42), (13, 42), (14, 42), (15, 42), (16, 42), (17, 42), (18, 42), (19, 42), (20, 42), (21, 42), (22, 42), (23, 42), (24, 42), (25, 42), (26, 42), (27, 42), (28, 42), (29, 42), (30, 42), (31, 42), (32, 42), (33, 42), (34, 42), (35, 42), (36, 42), (37, 42), (38, 42), (0, 43), (1, 43), (2, 43), (3, 43), (4, 43), (5, 43), (6, 43), (7, 43), (8, 43), (9, 43), (10, 43), (11, 43), (12, 43), (13, 43), (14, 43), (15, 43), (16, 43), (17, 43), (18, 43), (19, 43), (20, 43), (21, 43), (22, 43), (23, 43), (24, 43), (25, 43), (26, 43), (27, 43), (28, 43), (29, 43), (30, 43), (31, 43), (32, 43), (33, 43), (34, 43), (35, 43), (36, 43), (37, 43), (38, 43), (40, 43), (41, 43), (0, 44), (1, 44), (2, 44), (3, 44), (4, 44), (5, 44), (6, 44), (7, 44), (8, 44), (9, 44), (10, 44), (11, 44), (12, 44), (13, 44), (14, 44), (15, 44), (16, 44), (17, 44), (18, 44), (19, 44), (20, 44), (21, 44), (22, 44), (23, 44), (24, 44), (25, 44), (26, 44), (27, 44), (28, 44), (29, 44), (30, 44), (31, 44), (32, 44), (33, 44), (34, 44), (35, 44), (36, 44), (37, 44), (38, 44), (40, 44), (41, 44), (42, 44), (0, 45), (1, 45), (2, 45), (3, 45), (4, 45), (5, 45), (6, 45), (7, 45), (8, 45), (9, 45), (10, 45), (11, 45), (12, 45), (13, 45), (14, 45), (15, 45), (16, 45), (17, 45), (18, 45), (19, 45), (20, 45), (21, 45), (22, 45), (23, 45), (24, 45), (25, 45), (26, 45), (27, 45), (28, 45), (29, 45), (30, 45), (31, 45), (32, 45), (33, 45), (34, 45), (35, 45), (36, 45), (37, 45), (38, 45), (40, 45), (41, 45), (42, 45), (43, 45), (44, 45), (0, 46), (1, 46), (2, 46), (3, 46), (4, 46), (5, 46), (6, 46), (7, 46), (8, 46), (9, 46), (10, 46), (11, 46), (12, 46), (13, 46), (14, 46), (15, 46), (16, 46), (17, 46), (18, 46), (19, 46), (20, 46), (21, 46), (22, 46), (23, 46), (24, 46), (25, 46), (26, 46), (27, 46), (28, 46), (29, 46), (30, 46), (31, 46), (32, 46), (33, 46), (34, 46), (35, 46), (36, 46), (37, 46), (38, 46), (40, 46), (41, 46), (42, 46), (43, 46), (44, 46), (45, 46), (0, 47), (1, 47), (2, 47), (3, 47), (4, 47), (5, 47), (6, 47), (7, 47), (8, 47), (9, 47), (10, 47), (11, 47), (12, 47), (13, 47), (14, 47), (15, 47), (16, 47), (17, 47), (18, 47), (19, 47), (20, 47), (21, 47), (22, 47), (23, 47), (24, 47), (25, 47), (26, 47), (27, 47), (28, 47), (29, 47), (30, 47), (31, 47), (32, 47), (33, 47), (34, 47), (35, 47), (36, 47), (37, 47), (38, 47), (40, 47), (41, 47), (42, 47), (43, 47), (44, 47), (0, 48), (1, 48), (2, 48), (3, 48), (4, 48), (5, 48), (6, 48), (7, 48), (8, 48), (9, 48), (10, 48), (11, 48), (12, 48), (13, 48), (14, 48), (15, 48), (16, 48), (17, 48), (18, 48), (19, 48), (20, 48), (21, 48), (22, 48), (23, 48), (24, 48), (25, 48), (26, 48), (27, 48), (28, 48), (29, 48), (30, 48), (31, 48), (32, 48), (33, 48), (34, 48), (35, 48), (36, 48), (37, 48), (38, 48), (40, 48), (41, 48), (42, 48), (43, 48), (44, 48), (45, 48), (46, 48), (0, 49), (1, 49), (2, 49), (3, 49), (4, 49), (5, 49), (6, 49), (7, 49), (8, 49), (9, 49), (10, 49), (11, 49), (12, 49), (13, 49), (14, 49), (15, 49), (16, 49), (17, 49), (18, 49), (19, 49), (20, 49), (21, 49), (22, 49), (23, 49), (24, 49), (25, 49), (26, 49), (27, 49), (28, 49), (29, 49), (30, 49), (31, 49), (32, 49), (33, 49), (34, 49), (35, 49), (36, 49), (37, 49), (38, 49), (40, 49), (41, 49), (42, 49), (43, 49), (44, 49), (45, 49), (46, 49), (47, 49), (0, 50), (1, 50), (2, 50), (3, 50), (4, 50), (5, 50), (6, 50), (7, 50), (8, 50), (9, 50), (10, 50), (11, 50), (12, 50), (13, 50), (14, 50), (15, 50), (16, 50), (17, 50), (18, 50), (19, 50), (20, 50), (21, 50), (22, 50), (23, 50), (24, 50), (25, 50), (26, 50), (27, 50), (28, 50), (29, 50), (30, 50), (31, 50), (32, 50), (33, 50), (34, 50), (35, 50), (36, 50), (37, 50), (38, 50), (40, 50), (41, 50), (42, 50), (43, 50), (45, 50), (46, 50), (47, 50), (48, 50), (0, 51), (1, 51), (2, 51), (3, 51), (4, 51), (5, 51), (6, 51), (7, 51), (8, 51), (9, 51), (10, 51), (11, 51), (12, 51), (13, 51), (14, 51), (15, 51), (16, 51), (17, 51), (18, 51), (19, 51), (20, 51), (21, 51), (22, 51), (23, 51), (24, 51), (25, 51), (26, 51), (27, 51), (28, 51), (29, 51), (30, 51), (31, 51), (32, 51), (33, 51), (34, 51), (35, 51), (36, 51), (37, 51), (38, 51), (40, 51), (41, 51), (42, 51), (43, 51), (44, 51), (45, 51), (46, 51), (47, 51), (48, 51), (49, 51)]) (.cond (.t 67) (.seq (.reg [⟨(some 4), none, (.mv (.k (.c (.v (.bool false)))))⟩]) .ret) .skip)))) (.reg [⟨(some 68), none, (.bin .add .sc (.t 13) (.k (.c (.v (.int .i64 1)))))⟩, ⟨(some 13), none, (.mv (.t 68))⟩]))))
def c44 : AFn := ⟨69, [(.t 4)], (.seq (.reg [⟨(some 4), none, (.mv (.k (.c (.v (.bool false)))))⟩]) (.seq (.seq (.reg [⟨(some 6), none, (.mv (.t 0))⟩, ⟨(some 7), none, (.len .sl (.t 6))⟩, ⟨(some 8), none, (.mv (.t 1))⟩, ⟨(some 9), none, (.len .sl (.t 8))⟩, ⟨(some 10), none, (.bin .neq .sc (.t 7) (.t 9))⟩]) (.cond (.t 10) (.seq (.reg [⟨(some 4), none, (.mv (.k (.c (.v (.bool false)))))⟩]) .ret) .skip)) (.seq (.seq (.reg [⟨(some 11), none, (.mv (.t 0))⟩, ⟨(some 12), none, (.len .sl (.t 11))⟩, ⟨(some 13), none, (.mv (.k (.c (.v (.int .i64 0)))))⟩]) (.block 0 (.loop c44L0))) (.seq (.reg [⟨(some 4), none, (.mv (.k (.c (.v (.bool true)))))⟩]) .ret))))⟩
theorem tr44 : trFn Tryz.prog 44 = some c44 := by kernel_rfl
def c45 : AFn := ⟨8, [(.t 4)], (.seq (.reg [⟨(some 4), none, (.mv (.k (.c (.v (.bool false)))))⟩]) (.seq (.reg [⟨(some 5), none, (.mv (.t 0))⟩, ⟨(some 6), none, (.mv (.t 1))⟩, ⟨(some 7), none, (.call 91 [(.t 5), (.t 6), (.f 92)])⟩, ⟨(some 4), none, (.mv (.t 7))⟩]) .ret))⟩
theorem tr45 : trFn Tryz.prog 45 = some c45 := by kernel_rfl
def c91L0 : ACode := (.seq (.reg [⟨(some 18), none, (.bin .lss .sc (.t 17) (.t 16))⟩]) (.seq (.cond (.t 18) .skip (.exit 0)) (.seq (.block 1 (.seq (.reg [⟨(some 19), none, (.mv (.t 17))⟩, ⟨(some 20), none, (.iad (.sl 21) (.t 15) (.t 17))⟩, ⟨(some 21), none, (.load true 21 (.t 20))⟩, ⟨(some 8), none, (.alloc 66 [(.v (.int .u8 0)), (.v (.bool false)), (.sl 0 []), (.sl 0 []), (.v (.int .i64 0)), (.sl 0 []), (.v (.bool false)), (.v (.int .u8 0)), (.sl 0 []), (.sl 0 []), (.v (.int .u8 0)), (.v (.bool false)), (.v (.bool false)), (.sl 0 []), (.v (.bool false)), (.v (.bool false)), (.sl 0 []), (.v (.bool false)), (.v (.int .i64 0)), (.v (.bool false)), (.v (.int .i64 0))])⟩, ⟨(some 7), none, (.mv (.t 19))⟩, ⟨none, none, (.store 21 (.t 8) (.t 21))⟩]) (.seq (.reg [⟨(some 22), none, (.mv (.t 1))⟩, ⟨(some 23), none, (.mv (.t 7))⟩, ⟨(some 24), none, (.iad (.sl 21) (.t 22) (.t 23))⟩, ⟨(some 25), none, (.load true 21 (.t 24))⟩, ⟨(some 9), none, (.alloc 66 [(.v (.int .u8 0)), (.v (.bool false)), (.sl 0 []), (.sl 0 []), (.v (.int .i64 0)), (.sl 0 []), (.v (.bool false)), (.v (.int .u8 0)), (.sl 0 []), (.sl 0 []), (.v (.int .u8 0)), (.v (.bool false)), (.v (.bool false)), (.sl 0 []), (.v (.bool false)), (.v (.bool false)), (.sl 0 []), (.v (.bool false)), (.v (.int .i64 0)), (.v (.bool false)), (.v (.int .i64 0))])⟩, ⟨none, none, (.store 21 (.t 9) (.t 25))⟩]) (.seq (.reg [⟨(some 26), none, (.mv (.t 2))⟩, ⟨(some 27), none, (.load true 21 (.t 8))⟩, ⟨(some 28), none, (.load true 21 (.t 9))⟩, ⟨(some 29), none, (.dyn (.t 26) [(.t 27), (.t 28)])⟩, ⟨(some 30), none, (.un .not (.t 29))⟩]) (.cond (.t 30) (.seq (.reg [⟨(some 6), none, (.mv (.k (.c (.v (.bool false)))))⟩]) .ret) .skip))))) (.reg [⟨(some 31), none, (.bin .add .sc (.t 17) (.k (.c (.v (.int .i64 1)))))⟩, ⟨(some 17), none, (.mv (.t 31))⟩]))))
def c91 : AFn := ⟨32, [(.t 6)], (.seq (.reg [⟨(some 6), none, (.mv (.k (.c (.v (.bool false)))))⟩]) (.seq (.seq (.reg [⟨(some 10), none, (.mv (.t 0))⟩, ⟨(some 11), none, (.len .sl (.t 10))⟩, ⟨(some 12), none, (.mv (.t 1))⟩, ⟨(some 13), none, (.len .sl (.t 12))⟩, ⟨(some 14), none, (.bin .neq .sc (.t 11) (.t 13))⟩]) (.cond (.t 14) (.seq (.reg [⟨(some 6), none, (.mv (.k (.c (.v (.bool false)))))⟩]) .ret) .skip)) (.seq (.seq (.reg [⟨(some 15), none, (.mv (.t 0))⟩, ⟨(some 16), none, (.len .sl (.t 15))⟩, ⟨(some 17), none, (.mv (.k (.c (.v (.int .i64 0)))))⟩]) (.block 0 (.loop c91L0))) (.seq (.reg [⟨(some 6), none, (.mv (.k (.c (.v (.bool true)))))⟩]) .ret))))⟩
theorem tr91 : trFn Tryz.prog 91 = some c91 := by kernel_rfl
def c92 : AFn := ⟨31, [(.t 4)], (.seq (.reg [⟨(some 2), none, (.box 66 21 (.t 0))⟩, ⟨(some 3), none, (.box 66 21 (.t 1))⟩, ⟨(some 4), none, (.mv (.k (.c (.v (.bool false)))))⟩]) (.seq (.reg [⟨(some 5), none, (.fad 0 (.t 2))⟩, ⟨(some 6), none, (.load true 6 (.t 5))⟩, ⟨(some 7), none, (.fad 0 (.t 3))⟩, ⟨(some 8), none, (.load true 6 (.t 7))⟩, ⟨(some 9), none, (.call 80 [(.t 6), (.t 8)])⟩, ⟨(some 10), none, (.mv (.t 9))⟩, ⟨(some 11), (some (10, true)), (.fad 6 (.t 2))⟩, ⟨(some 12), (some (10, true)), (.load false 1 (.t 11))⟩, ⟨(some 13), (some (10, true)), (.fad 6 (.t 3))⟩, ⟨(some 14), (some (10, true)), (.load false 1 (.t 13))⟩, ⟨(some 15), (some (10, true)), (.bin .eql .bl (.t 12) (.t 14))⟩, ⟨(some 16), none, (.pick (.t 10) (.t 15) (.k (.c (.v (.bool false)))))⟩, ⟨(some 17), none, (.mv (.t 16))⟩, ⟨(some 18), (some (17, true)), (.fad 7 (.t 2))⟩, ⟨(some 19), (some (17, true)), (.load true 10 (.t 18))⟩, ⟨(some 20), (some (17, true)), (.fad 7 (.t 3))⟩, ⟨(some 21), (some (17, true)), (.load true 10 (.t 20))⟩, ⟨(some 22), (some (17, true)), (.call 23 [(.t 19), (.t 21)])⟩, ⟨(some 23), none, (.pick (.t 17) (.t 22) (.k (.c (.v (.bool false)))))⟩, ⟨(some 24), none, (.mv (.t 23))⟩, ⟨(some 25), (some (24, true)), (.fad 17 (.t 2))⟩, ⟨(some 26), (some (24, true)), (.load true 4 (.t 25))⟩, ⟨(some 27), (some (24, true)), (.fad 17 (.t 3))⟩, ⟨(some 28), (some (24, true)), (.load true 4 (.t 27))⟩, ⟨(some 29), (some (24, true)), (.bin .eql (.ag [.b, .i, .b, .i]) (.t 26) (.t 28))⟩, ⟨(some 30), none, (.pick (.t 24) (.t 29) (.k (.c (.v (.bool false)))))⟩, ⟨(some 4), none, (.mv (.t 30))⟩]) .ret))⟩
theorem tr92 : trFn Tryz.prog 92 = some c92 := by kernel_rfl
end Go.Proofs.YthglfhnlolefhaaGreatDoor

end
section
/- Own: lists of entries on pure data: acl.Same, greffierref20.Same, Great, AclSame's body. -/
set_option maxRecDepth 100000
set_option linter.unusedSimpArgs false
set_option linter.unusedVariables false
namespace Go.Proofs.YthglfhnlolefhaaGreatDoor
open Go.Abs
/-- Windows, entries. -/
structure Wn where
  a : Bool
  f : Int
  u : Bool
  t : Int
structure En where
  s : Sj
  d : Bool
  t : Tg
  w : Wn
def Wn.cells (w : Wn) : List Go.Abs.P := [boP w.a, .v (.int .i64 w.f), boP w.u, .v (.int .i64 w.t)]
def En.cells (x : En) : List Go.Abs.P := x.s.cells ++ (boP x.d :: (x.t.cells ++ x.w.cells))
def Wn.same (x y : Wn) : Bool := x.a == y.a && x.f == y.f && x.u == y.u && x.t == y.t
def En.same (x y : En) : Bool := x.s.same y.s && x.d == y.d && x.t.same y.t && x.w.same y.w
structure En.ok (x : En) : Prop where
  s : x.s.ok
  t : x.t.ok
theorem en_len (x : En) : x.cells.length = 21 := by simp [En.cells, sj_len, cells_len, Wn.cells]
theorem wn_self (x : Wn) : x.same x = true := by simp [Wn.same]
theorem en_self (x : En) (h : x.ok) : x.same x = true := by simp [En.same, sj_self _ h.s, same_self _ h.t, wn_self]
def enSame (a b : List En) : Bool := a.length == b.length && (a.zip b).all fun p => p.1.same p.2
theorem enSame_self (a : List En) (h : ∀ x ∈ a, x.ok) : enSame a a = true := by
  rw [enSame, zip_self a fun x hx => en_self x (h x hx)]; simp

theorem take_app {α : Type} {a b : List α} {n : Nat} (h : a.length = n) : (a ++ b).take n = a := by subst h; simp
theorem drop_app {α : Type} {a b : List α} {n k : Nat} (h : a.length = n) : (a ++ b).drop (n + k) = b.drop k := by subst h; simp
/-- An entry's parts where they stand. -/
theorem en_seg {l : List En} {i : Nat} {x : En} (hx : l[i]? = some x) : let L := (l.flatMap En.cells).drop (i * 21)
    (L.take 6 = x.s.cells ∧ 6 ≤ L.length) ∧ ((L.drop 6).take 1 = [boP x.d] ∧ 1 ≤ (L.drop 6).length) ∧ ((L.drop 7).take 10 = x.t.cells ∧ 10 ≤ (L.drop 7).length) ∧ ((L.drop 17).take 4 = x.w.cells ∧ 4 ≤ (L.drop 17).length) := by
  obtain ⟨h1, h2⟩ := seg_at en_len hx
  intro L
  obtain ⟨r, hr⟩ : ∃ r, L = x.cells ++ r := ⟨L.drop 21, by rw [← h1]; exact (List.take_append_drop 21 L).symm⟩
  have e : L = x.s.cells ++ (boP x.d :: (x.t.cells ++ (x.w.cells ++ r))) := by rw [hr]; simp [En.cells]
  have e6 : L.drop 6 = boP x.d :: (x.t.cells ++ (x.w.cells ++ r)) := by rw [e]; exact (drop_app (k := 0) (sj_len _)).trans rfl
  have e7 : L.drop 7 = x.t.cells ++ (x.w.cells ++ r) := by rw [e]; exact (drop_app (k := 1) (sj_len _)).trans rfl
  have e17 : L.drop 17 = x.w.cells ++ r := by
    have : L.drop 17 = (L.drop 7).drop (10 + 0) := (List.drop_drop (l := L) (i := 10) (j := 7)).symm
    rw [this, e7]; exact (drop_app (k := 0) (cells_len _)).trans rfl
  refine ⟨⟨by rw [e]; exact take_app (sj_len _), ?_⟩, ⟨by rw [e6]; rfl, ?_⟩, ⟨by rw [e7]; exact take_app (cells_len _), ?_⟩, ⟨by rw [e17]; exact take_app rfl, ?_⟩⟩
  · show 6 ≤ L.length
    have : 21 ≤ L.length := h2
    omega
  · rw [e6]; simp
  · rw [e7]; simp [cells_len]
  · rw [e17]; simp [Wn.cells]
theorem ag_eql (x y : Wn) : agD .eql [.b, .i, .b, .i] (.ag [.c (boP x.a), .c (.v (.int .i64 x.f)), .c (boP x.u), .c (.v (.int .i64 x.t))]) (.ag [.c (boP y.a), .c (.v (.int .i64 y.f)), .c (boP y.u), .c (.v (.int .i64 y.t))]) = some (boD (x.same y)) := by
  simp [agD, eqCells, eqCell, Wn.same, Bool.and_assoc]
theorem ag_neq (x y : Wn) : agD .neq [.b, .i, .b, .i] (.ag [.c (boP x.a), .c (.v (.int .i64 x.f)), .c (boP x.u), .c (.v (.int .i64 x.t))]) (.ag [.c (boP y.a), .c (.v (.int .i64 y.f)), .c (boP y.u), .c (.v (.int .i64 y.t))]) = some (boD (!(x.same y))) := by
  simp [agD, eqCells, eqCell, Wn.same, Bool.and_assoc]
theorem boP_c (w : Wn) : List.map D.c w.cells = [.c (boP w.a), .c (.v (.int .i64 w.f)), .c (boP w.u), .c (.v (.int .i64 w.t))] := rfl

set_option maxHeartbeats 4000000 in
theorem run92 (x y : En) (hx : x.ok) : callV orcA F 92 [.ag (x.cells.map .c), .ag (y.cells.map .c)] = some (.ret (boD (x.same y))) := by
  have h80 := run80 x.s y.s hx.s
  have h23 := run23 x.t y.t hx.t
  obtain ⟨s, d, t, w⟩ := x
  obtain ⟨s', d', t', w'⟩ := y
  simp only [En.same] at h80 h23 ⊢
  obtain ⟨kind, sum, kd, names, k, kids⟩ := s
  obtain ⟨kind', sum', kd', names', k', kids'⟩ := s'
  obtain ⟨tk, data, tkids, o, i1, o1, a1, i2, o2, a2⟩ := t
  obtain ⟨tk', data', tkids', o', i1', o1', a1', i2', o2', a2'⟩ := t'
  generalize hE1 : (Sj.mk kind sum kd names k kids).same (Sj.mk kind' sum' kd' names' k' kids') = E1 at h80 ⊢
  generalize hE2 : (Tg.mk tk data tkids o i1 o1 a1 i2 o2 a2).same (Tg.mk tk' data' tkids' o' i1' o1' a1' i2' o2' a2') = E2 at h23 ⊢
  rw [sj_mk, sj_mk] at h80
  rw [cells_mk, cells_mk] at h23
  simp only [byteP, List.map_cons, List.map_nil] at h80 h23
  simp only [En.cells, Wn.cells, sj_mk, cells_mk, List.cons_append, List.nil_append]
  refine callV_ret tr92 ?_
  cases E1 <;> cases hd : (d == d') <;> cases E2 <;> simp only [c92, byteP, hd, h80, h23, ag_eql, DrwE_nil, DrwE_plain, DrwE_guard, GdE_true, GdE_false, DcE_q, DcE_push, DcE_rd, drdE, dcallE, Ex_seq, Ex_reg, Ex_ret, Ex_skip, Ex_exit, Ex_block, Ex_cond', condE_true, condE_false, loopQ_nrm, loopQ_ret, loopQ_ext, blockQ_nrm, blockQ_ret, blockQ_ext, OpsE_plain, OpsE_guard, OpsE_nil, GuE_true, GuE_false, guardD, act, callA, ev, upd, putE, AcE_q, AcE_push, AcE_rd', AcE_wr', rdE, wrE, initE, thenQ_nrm, thenQ_ret, thenQ_ext, retQ, qo_s, convD, D.slc, unBytes_bytesP, bytesP_length, binD, scD, blD, scBin, blBin, strBin, intBin, ressD, mapO, resD, D.frz, frzL, frz_cells, D.closed, closedL, closed_cells, mkV_true, gt0, gtk, st0, stk, List.append_assoc, List.length_append, D.fits, D.cells, partD, mkV_false, setAt, iadD, asI, List.map_cons, List.map_nil, List.getElem?_cons_zero, List.getElem?_cons_succ, List.getElem?_nil, List.length_cons, List.length_nil, List.drop_succ_cons, List.drop_zero, List.take_succ_cons, List.take_zero, List.nil_append, List.cons_append, List.set_cons_zero, List.set_cons_succ, Nat.reduceAdd, Nat.reduceLeDiff, Nat.reduceEqDiff, Nat.reduceBEq, beq_iff_eq, reduceCtorEq, ↓reduceIte, Option.map_some, Option.some.injEq, Bool.true_and, Bool.false_and, Bool.and_true, Bool.and_self, Bool.and_false, Bool.or_self, Bool.false_eq_true, b_ff, b_ft, b_tf, b_tt, Bool.not_true, Bool.not_false, BEq.rfl, decide_true, decide_false, Nat.le_refl, callE, zD, snilD, inilD, tasD, fnilD, AcE_tp, AcE_tw, twE, DcE_tp, appD, appSrc, fillD, fillP, D.pcells, cellPure, thenQ_pan, blockQ_pan, loopQ_pan, cntQ_nrm, cntQ_ret, cntQ_ext, cntQ_pan, indQ_nrm, indQ_ret, indQ_ext, indQ_pan, resQ, panQ_pan, rawQ, unD, and_self, and_true, true_and, not_true_eq_false, not_false_eq_true, Int.cast_ofNat_Int, Int.reduceLT, Int.reduceLE, Int.reduceBEq, Int.reduceToNat, Nat.reduceMul, Int.zero_le_ofNat, orcA, AcE_call]

theorem tr91' : F 91 = some (eqF (eqL 21 66 [.v (.int .u8 0), .v (.bool false), .sl 0 [], .sl 0 [], .v (.int .i64 0), .sl 0 [], .v (.bool false), .v (.int .u8 0), .sl 0 [], .sl 0 [], .v (.int .u8 0), .v (.bool false), .v (.bool false), .sl 0 [], .v (.bool false), .v (.bool false), .sl 0 [], .v (.bool false), .v (.int .i64 0), .v (.bool false), .v (.int .i64 0)])) := tr91
theorem run45 (a b : List En) (ha : ∀ x ∈ a, x.ok) (hbd : a.length < 2 ^ 62) : callV orcA F 45 [.c (.sl a.length (a.flatMap En.cells)), .c (.sl b.length (b.flatMap En.cells))] = some (.ret (boD (enSame a b))) := by
  have h := run_eqF tr91' rfl En.cells en_len 92 (by decide) (by decide) En.same a b hbd (fun x hx y _ => run92 x y (ha x hx))
  refine callV_ret tr45 ?_
  simp only [c45, h, enSame, DrwE_nil, DrwE_plain, DrwE_guard, GdE_true, GdE_false, DcE_q, DcE_push, DcE_rd, drdE, dcallE, Ex_seq, Ex_reg, Ex_ret, Ex_skip, Ex_exit, Ex_block, Ex_cond', condE_true, condE_false, loopQ_nrm, loopQ_ret, loopQ_ext, blockQ_nrm, blockQ_ret, blockQ_ext, OpsE_plain, OpsE_guard, OpsE_nil, GuE_true, GuE_false, guardD, act, callA, ev, upd, putE, AcE_q, AcE_push, AcE_rd', AcE_wr', rdE, wrE, initE, thenQ_nrm, thenQ_ret, thenQ_ext, retQ, qo_s, convD, D.slc, unBytes_bytesP, bytesP_length, binD, scD, blD, scBin, blBin, strBin, intBin, ressD, mapO, resD, D.frz, frzL, frz_cells, D.closed, closedL, closed_cells, mkV_true, gt0, gtk, st0, stk, List.append_assoc, List.length_append, D.fits, D.cells, partD, mkV_false, setAt, iadD, asI, List.map_cons, List.map_nil, List.getElem?_cons_zero, List.getElem?_cons_succ, List.getElem?_nil, List.length_cons, List.length_nil, List.drop_succ_cons, List.drop_zero, List.take_succ_cons, List.take_zero, List.nil_append, List.cons_append, List.set_cons_zero, List.set_cons_succ, Nat.reduceAdd, Nat.reduceLeDiff, Nat.reduceEqDiff, Nat.reduceBEq, beq_iff_eq, reduceCtorEq, ↓reduceIte, Option.map_some, Option.some.injEq, Bool.true_and, Bool.false_and, Bool.and_true, Bool.and_self, Bool.and_false, Bool.or_self, Bool.false_eq_true, b_ff, b_ft, b_tf, b_tt, Bool.not_true, Bool.not_false, BEq.rfl, decide_true, decide_false, Nat.le_refl, callE, zD, snilD, inilD, tasD, fnilD, AcE_tp, AcE_tw, twE, DcE_tp, appD, appSrc, fillD, fillP, D.pcells, cellPure, thenQ_pan, blockQ_pan, loopQ_pan, cntQ_nrm, cntQ_ret, cntQ_ext, cntQ_pan, indQ_nrm, indQ_ret, indQ_ext, indQ_pan, resQ, panQ_pan, rawQ, unD, and_self, and_true, true_and, not_true_eq_false, not_false_eq_true, Int.cast_ofNat_Int, Int.reduceLT, Int.reduceLE, Int.reduceBEq, Int.reduceToNat, Nat.reduceMul, Int.zero_le_ofNat, orcA, AcE_call]

structure I44 (k1 k2 : List En) (i : Nat) (s : St) : Prop where
  T : s.T = []
  h0 : s.e 0 = .c (.sl k1.length (k1.flatMap En.cells))
  h1 : s.e 1 = .c (.sl k2.length (k2.flatMap En.cells))
  ha : s.e 12 = inD k1.length
  hb : s.e 13 = inD i
  all : ((k1.take i).zip (k2.take i)).all (fun p => En.same p.1 p.2) = true
set_option maxHeartbeats 4000000 in
theorem run44 (k1 k2 : List En) (hok : ∀ x ∈ k1, x.ok) (hbd : k1.length < 2 ^ 62) : callV orcA F 44 [.c (.sl k1.length (k1.flatMap En.cells)), .c (.sl k2.length (k2.flatMap En.cells))] = some (.ret (boD (enSame k1 k2))) := by
  refine callV_ret tr44 ?_
  rw [enSame]
  cases h4 : (k1.length == k2.length) <;> simp only [c44, len_eq k1.length k2.length, h4, bne, DrwE_nil, DrwE_plain, DrwE_guard, GdE_true, GdE_false, DcE_q, DcE_push, DcE_rd, drdE, dcallE, Ex_seq, Ex_reg, Ex_ret, Ex_skip, Ex_exit, Ex_block, Ex_cond', condE_true, condE_false, loopQ_nrm, loopQ_ret, loopQ_ext, blockQ_nrm, blockQ_ret, blockQ_ext, OpsE_plain, OpsE_guard, OpsE_nil, GuE_true, GuE_false, guardD, act, callA, ev, upd, putE, AcE_q, AcE_push, AcE_rd', AcE_wr', rdE, wrE, initE, thenQ_nrm, thenQ_ret, thenQ_ext, retQ, qo_s, convD, D.slc, unBytes_bytesP, bytesP_length, binD, scD, blD, scBin, blBin, strBin, intBin, ressD, mapO, resD, D.frz, frzL, frz_cells, D.closed, closedL, closed_cells, mkV_true, gt0, gtk, st0, stk, List.append_assoc, List.length_append, D.fits, D.cells, partD, mkV_false, setAt, iadD, asI, List.map_cons, List.map_nil, List.getElem?_cons_zero, List.getElem?_cons_succ, List.getElem?_nil, List.length_cons, List.length_nil, List.drop_succ_cons, List.drop_zero, List.take_succ_cons, List.take_zero, List.nil_append, List.cons_append, List.set_cons_zero, List.set_cons_succ, Nat.reduceAdd, Nat.reduceLeDiff, Nat.reduceEqDiff, Nat.reduceBEq, beq_iff_eq, reduceCtorEq, ↓reduceIte, Option.map_some, Option.some.injEq, Bool.true_and, Bool.false_and, Bool.and_true, Bool.and_self, Bool.and_false, Bool.or_self, Bool.false_eq_true, b_ff, b_ft, b_tf, b_tt, Bool.not_true, Bool.not_false, BEq.rfl, decide_true, decide_false, Nat.le_refl, callE, zD, snilD, inilD, tasD, fnilD, AcE_tp, AcE_tw, twE, DcE_tp, appD, appSrc, fillD, fillP, D.pcells, cellPure, thenQ_pan, blockQ_pan, loopQ_pan, cntQ_nrm, cntQ_ret, cntQ_ext, cntQ_pan, indQ_nrm, indQ_ret, indQ_ext, indQ_pan, resQ, panQ_pan, rawQ, unD, and_self, and_true, true_and, not_true_eq_false, not_false_eq_true, Int.cast_ofNat_Int, Int.reduceLT, Int.reduceLE, Int.reduceBEq, Int.reduceToNat, Nat.reduceMul, Int.zero_le_ofNat, orcA]
  have hl : k1.length = k2.length := by simpa using h4
  refine Ex_loop_cnt k1.length (I44 k1 k2) ⟨rfl, rfl, rfl, rfl, rfl, by simp⟩ fun i s hi h => ?_
  rcases Nat.lt_or_ge i k1.length with hlt | hge
  · have hd : decide ((i : Int) < (k1.length : Int)) = true := by simp; omega
    obtain ⟨x, hx⟩ : ∃ x, k1[i]? = some x := ⟨_, List.getElem?_eq_getElem hlt⟩
    obtain ⟨y, hy⟩ : ∃ y, k2[i]? = some y := ⟨_, List.getElem?_eq_getElem (by omega)⟩
    have hr1 : (0 ≤ (i : Int) ∧ (i : Int) < (k1.length : Int)) = True := by simp; omega
    have hr2 : (0 ≤ (i : Int) ∧ (i : Int) < (k2.length : Int)) = True := by simp; omega
    obtain ⟨⟨x1, x2⟩, ⟨x3, x4⟩, ⟨x5, x6⟩, ⟨x7, x8⟩⟩ := en_seg hx
    obtain ⟨⟨y1, y2⟩, ⟨y3, y4⟩, ⟨y5, y6⟩, ⟨y7, y8⟩⟩ := en_seg hy
    have hokx := hok x (List.mem_of_getElem? hx)
    have h82 := run82 x.s y.s hokx.s
    have h22 := run22 x.t y.t hokx.t
    have hw : IntKind.i64.wrap ((i : Int) + 1) = ((i + 1 : Nat) : Int) := wrap_i64 (by omega) (by omega)
    have hzt := zip_take (eq := En.same) hx hy
    have hE : En.same x y = (x.s.same y.s && x.d == y.d && x.t.same y.t && x.w.same y.w) := rfl
    have hzf := fun h => zip_false (eq := En.same) hx hy h
    cases hE1 : x.s.same y.s <;> cases hE2 : (x.d == y.d) <;> cases hE3 : x.t.same y.t <;> cases hE4 : x.w.same y.w <;> simp only [hE1, hE2, hE3, hE4, Bool.true_and, Bool.false_and, Bool.and_true, Bool.and_false] at hE
    all_goals (
      simp only [c44L0, h.h0, h.h1, h.ha, h.hb, hd, DrwE_nil, DrwE_plain, DrwE_guard, GdE_true, GdE_false, DcE_q, DcE_push, DcE_rd, drdE, dcallE, Ex_seq, Ex_reg, Ex_ret, Ex_skip, Ex_exit, Ex_block, Ex_cond', condE_true, condE_false, loopQ_nrm, loopQ_ret, loopQ_ext, blockQ_nrm, blockQ_ret, blockQ_ext, OpsE_plain, OpsE_guard, OpsE_nil, GuE_true, GuE_false, guardD, act, callA, ev, upd, putE, AcE_q, AcE_push, AcE_rd', AcE_wr', rdE, wrE, initE, thenQ_nrm, thenQ_ret, thenQ_ext, retQ, qo_s, convD, D.slc, unBytes_bytesP, bytesP_length, binD, scD, blD, scBin, blBin, strBin, intBin, ressD, mapO, resD, D.frz, frzL, frz_cells, D.closed, closedL, closed_cells, mkV_true, gt0, gtk, st0, stk, List.append_assoc, List.length_append, D.fits, D.cells, partD, mkV_false, setAt, iadD, asI, List.map_cons, List.map_nil, List.getElem?_cons_zero, List.getElem?_cons_succ, List.getElem?_nil, List.length_cons, List.length_nil, List.drop_succ_cons, List.drop_zero, List.take_succ_cons, List.take_zero, List.nil_append, List.cons_append, List.set_cons_zero, List.set_cons_succ, Nat.reduceAdd, Nat.reduceLeDiff, Nat.reduceEqDiff, Nat.reduceBEq, beq_iff_eq, reduceCtorEq, ↓reduceIte, Option.map_some, Option.some.injEq, Bool.true_and, Bool.false_and, Bool.and_true, Bool.and_self, Bool.and_false, Bool.or_self, Bool.false_eq_true, b_ff, b_ft, b_tf, b_tt, Bool.not_true, Bool.not_false, BEq.rfl, decide_true, decide_false, Nat.le_refl, callE, zD, snilD, inilD, tasD, fnilD, AcE_tp, AcE_tw, twE, DcE_tp, appD, appSrc, fillD, fillP, D.pcells, cellPure, thenQ_pan, blockQ_pan, loopQ_pan, cntQ_nrm, cntQ_ret, cntQ_ext, cntQ_pan, indQ_nrm, indQ_ret, indQ_ext, indQ_pan, resQ, panQ_pan, rawQ, unD, and_self, and_true, true_and, not_true_eq_false, not_false_eq_true, Int.cast_ofNat_Int, Int.reduceLT, Int.reduceLE, Int.reduceBEq, Int.reduceToNat, Nat.reduceMul, Int.zero_le_ofNat, orcA]
      refine Ex_drw' ?_
      simp only [c44L0, h.h0, h.h1, h.ha, h.hb, hd, hr1, hr2, x1, x2, x3, x4, x5, x6, x7, x8, y1, y2, y3, y4, y5, y6, y7, y8, hw, h82, h22, hE1, hE2, hE3, hE4, boP_c, ag_neq, bne, unD, List.length_map, Int.toNat_natCast, DrwE_nil, DrwE_plain, DrwE_guard, GdE_true, GdE_false, DcE_q, DcE_push, DcE_rd, drdE, dcallE, Ex_seq, Ex_reg, Ex_ret, Ex_skip, Ex_exit, Ex_block, Ex_cond', condE_true, condE_false, loopQ_nrm, loopQ_ret, loopQ_ext, blockQ_nrm, blockQ_ret, blockQ_ext, OpsE_plain, OpsE_guard, OpsE_nil, GuE_true, GuE_false, guardD, act, callA, ev, upd, putE, AcE_q, AcE_push, AcE_rd', AcE_wr', rdE, wrE, initE, thenQ_nrm, thenQ_ret, thenQ_ext, retQ, qo_s, convD, D.slc, unBytes_bytesP, bytesP_length, binD, scD, blD, scBin, blBin, strBin, intBin, ressD, mapO, resD, D.frz, frzL, frz_cells, D.closed, closedL, closed_cells, mkV_true, gt0, gtk, st0, stk, List.append_assoc, List.length_append, D.fits, D.cells, partD, mkV_false, setAt, iadD, asI, List.map_cons, List.map_nil, List.getElem?_cons_zero, List.getElem?_cons_succ, List.getElem?_nil, List.length_cons, List.length_nil, List.drop_succ_cons, List.drop_zero, List.take_succ_cons, List.take_zero, List.nil_append, List.cons_append, List.set_cons_zero, List.set_cons_succ, Nat.reduceAdd, Nat.reduceLeDiff, Nat.reduceEqDiff, Nat.reduceBEq, beq_iff_eq, reduceCtorEq, ↓reduceIte, Option.map_some, Option.some.injEq, Bool.true_and, Bool.false_and, Bool.and_true, Bool.and_self, Bool.and_false, Bool.or_self, Bool.false_eq_true, b_ff, b_ft, b_tf, b_tt, Bool.not_true, Bool.not_false, BEq.rfl, decide_true, decide_false, Nat.le_refl, callE, zD, snilD, inilD, tasD, fnilD, AcE_tp, AcE_tw, twE, DcE_tp, appD, appSrc, fillD, fillP, D.pcells, cellPure, thenQ_pan, blockQ_pan, loopQ_pan, cntQ_nrm, cntQ_ret, cntQ_ext, cntQ_pan, indQ_nrm, indQ_ret, indQ_ext, indQ_pan, resQ, panQ_pan, rawQ, unD, and_self, and_true, true_and, not_true_eq_false, not_false_eq_true, Int.cast_ofNat_Int, Int.reduceLT, Int.reduceLE, Int.reduceBEq, Int.reduceToNat, Nat.reduceMul, Int.zero_le_ofNat, orcA, AcE_call, DcE_call])
    all_goals first
      | (refine ⟨rfl, ?_⟩; exact ⟨hlt, h.T, by simp [upd, h.h0], by simp [upd, h.h1], by simp [upd, h.ha], by simp [upd], by rw [hzt, h.all, hE]; rfl⟩)
      | (simp only [hzf hE]; exact ⟨rfl, trivial⟩)
  · obtain rfl : i = k1.length := by omega
    have hd : decide ((k1.length : Int) < (k1.length : Int)) = false := by simp
    have hal := h.all
    rw [List.take_length, hl, List.take_length] at hal
    simp only [c44L0, h.h0, h.h1, h.ha, h.hb, hd, hal, DrwE_nil, DrwE_plain, DrwE_guard, GdE_true, GdE_false, DcE_q, DcE_push, DcE_rd, drdE, dcallE, Ex_seq, Ex_reg, Ex_ret, Ex_skip, Ex_exit, Ex_block, Ex_cond', condE_true, condE_false, loopQ_nrm, loopQ_ret, loopQ_ext, blockQ_nrm, blockQ_ret, blockQ_ext, OpsE_plain, OpsE_guard, OpsE_nil, GuE_true, GuE_false, guardD, act, callA, ev, upd, putE, AcE_q, AcE_push, AcE_rd', AcE_wr', rdE, wrE, initE, thenQ_nrm, thenQ_ret, thenQ_ext, retQ, qo_s, convD, D.slc, unBytes_bytesP, bytesP_length, binD, scD, blD, scBin, blBin, strBin, intBin, ressD, mapO, resD, D.frz, frzL, frz_cells, D.closed, closedL, closed_cells, mkV_true, gt0, gtk, st0, stk, List.append_assoc, List.length_append, D.fits, D.cells, partD, mkV_false, setAt, iadD, asI, List.map_cons, List.map_nil, List.getElem?_cons_zero, List.getElem?_cons_succ, List.getElem?_nil, List.length_cons, List.length_nil, List.drop_succ_cons, List.drop_zero, List.take_succ_cons, List.take_zero, List.nil_append, List.cons_append, List.set_cons_zero, List.set_cons_succ, Nat.reduceAdd, Nat.reduceLeDiff, Nat.reduceEqDiff, Nat.reduceBEq, beq_iff_eq, reduceCtorEq, ↓reduceIte, Option.map_some, Option.some.injEq, Bool.true_and, Bool.false_and, Bool.and_true, Bool.and_self, Bool.and_false, Bool.or_self, Bool.false_eq_true, b_ff, b_ft, b_tf, b_tt, Bool.not_true, Bool.not_false, BEq.rfl, decide_true, decide_false, Nat.le_refl, callE, zD, snilD, inilD, tasD, fnilD, AcE_tp, AcE_tw, twE, DcE_tp, appD, appSrc, fillD, fillP, D.pcells, cellPure, thenQ_pan, blockQ_pan, loopQ_pan, cntQ_nrm, cntQ_ret, cntQ_ext, cntQ_pan, indQ_nrm, indQ_ret, indQ_ext, indQ_pan, resQ, panQ_pan, rawQ, unD, and_self, and_true, true_and, not_true_eq_false, not_false_eq_true, Int.cast_ofNat_Int, Int.reduceLT, Int.reduceLE, Int.reduceBEq, Int.reduceToNat, Nat.reduceMul, Int.zero_le_ofNat, orcA]

structure I36 (k1 : List En) (i : Nat) (s : St) : Prop where
  T : s.T = []
  h0 : s.e 0 = .c (.sl k1.length (k1.flatMap En.cells))
  ha : s.e 8 = inD k1.length
  hb : s.e 9 = inD i
set_option maxHeartbeats 4000000 in
theorem run36 (k1 : List En) (hok : ∀ x ∈ k1, x.ok) (hbd : k1.length < 2 ^ 62) : ∃ g, callV orcA F 36 [.c (.sl k1.length (k1.flatMap En.cells))] = some (.ret (boD g)) := by
  obtain ⟨x, ⟨g, rfl⟩, hx⟩ := callV_ex (orc := orcA) (p := fun x => ∃ g, x = boD g) tr36 (args := [.c (.sl k1.length (k1.flatMap En.cells))]) (by
    cases h1 : decide ((k1.length : Int) > 20) <;> simp only [c36, h1, exQ_nrm, exQ_ret, DrwE_nil, DrwE_plain, DrwE_guard, GdE_true, GdE_false, DcE_q, DcE_push, DcE_rd, drdE, dcallE, Ex_seq, Ex_reg, Ex_ret, Ex_skip, Ex_exit, Ex_block, Ex_cond', condE_true, condE_false, loopQ_nrm, loopQ_ret, loopQ_ext, blockQ_nrm, blockQ_ret, blockQ_ext, OpsE_plain, OpsE_guard, OpsE_nil, GuE_true, GuE_false, guardD, act, callA, ev, upd, putE, AcE_q, AcE_push, AcE_rd', AcE_wr', rdE, wrE, initE, thenQ_nrm, thenQ_ret, thenQ_ext, retQ, qo_s, convD, D.slc, unBytes_bytesP, bytesP_length, binD, scD, blD, scBin, blBin, strBin, intBin, ressD, mapO, resD, D.frz, frzL, frz_cells, D.closed, closedL, closed_cells, mkV_true, gt0, gtk, st0, stk, List.append_assoc, List.length_append, D.fits, D.cells, partD, mkV_false, setAt, iadD, asI, List.map_cons, List.map_nil, List.getElem?_cons_zero, List.getElem?_cons_succ, List.getElem?_nil, List.length_cons, List.length_nil, List.drop_succ_cons, List.drop_zero, List.take_succ_cons, List.take_zero, List.nil_append, List.cons_append, List.set_cons_zero, List.set_cons_succ, Nat.reduceAdd, Nat.reduceLeDiff, Nat.reduceEqDiff, Nat.reduceBEq, beq_iff_eq, reduceCtorEq, ↓reduceIte, Option.map_some, Option.some.injEq, Bool.true_and, Bool.false_and, Bool.and_true, Bool.and_self, Bool.and_false, Bool.or_self, Bool.false_eq_true, b_ff, b_ft, b_tf, b_tt, Bool.not_true, Bool.not_false, BEq.rfl, decide_true, decide_false, Nat.le_refl, callE, zD, snilD, inilD, tasD, fnilD, AcE_tp, AcE_tw, twE, DcE_tp, appD, appSrc, fillD, fillP, D.pcells, cellPure, thenQ_pan, blockQ_pan, loopQ_pan, cntQ_nrm, cntQ_ret, cntQ_ext, cntQ_pan, indQ_nrm, indQ_ret, indQ_ext, indQ_pan, resQ, panQ_pan, rawQ, unD, and_self, and_true, true_and, not_true_eq_false, not_false_eq_true, Int.cast_ofNat_Int, Int.reduceLT, Int.reduceLE, Int.reduceBEq, Int.reduceToNat, Nat.reduceMul, Int.zero_le_ofNat, orcA]
    rotate_left
    · exact ⟨_, ⟨true, rfl⟩, rfl⟩
    refine Ex_loop_cnt k1.length (I36 k1) ⟨rfl, rfl, rfl, rfl⟩ fun i s hi h => ?_
    rcases Nat.lt_or_ge i k1.length with hlt | hge
    · have hd : decide ((i : Int) < (k1.length : Int)) = true := by simp; omega
      obtain ⟨x, hx⟩ : ∃ x, k1[i]? = some x := ⟨_, List.getElem?_eq_getElem hlt⟩
      have hr1 : (0 ≤ (i : Int) ∧ (i : Int) < (k1.length : Int)) = True := by simp; omega
      obtain ⟨⟨x1, x2⟩, _, ⟨x5, x6⟩, _⟩ := en_seg hx
      have hokx := hok x (List.mem_of_getElem? hx)
      obtain ⟨g1, h77⟩ := run77 x.s hokx.s 0 (by omega)
      obtain ⟨g2, h17⟩ := run17 x.t hokx.t 0 (by omega)
      have z0 : ((0 : Nat) : Int) = 0 := rfl
      rw [z0] at h77 h17
      have hw : IntKind.i64.wrap ((i : Int) + 1) = ((i + 1 : Nat) : Int) := wrap_i64 (by omega) (by omega)
      cases g1 <;> cases g2 <;>
        simp only [c36L0, h.h0, h.ha, h.hb, hd, hr1, x1, x2, x5, x6, hw, h77, h17, exQ_nrm, exQ_ret, List.length_map, Int.toNat_natCast, DrwE_nil, DrwE_plain, DrwE_guard, GdE_true, GdE_false, DcE_q, DcE_push, DcE_rd, drdE, dcallE, Ex_seq, Ex_reg, Ex_ret, Ex_skip, Ex_exit, Ex_block, Ex_cond', condE_true, condE_false, loopQ_nrm, loopQ_ret, loopQ_ext, blockQ_nrm, blockQ_ret, blockQ_ext, OpsE_plain, OpsE_guard, OpsE_nil, GuE_true, GuE_false, guardD, act, callA, ev, upd, putE, AcE_q, AcE_push, AcE_rd', AcE_wr', rdE, wrE, initE, thenQ_nrm, thenQ_ret, thenQ_ext, retQ, qo_s, convD, D.slc, unBytes_bytesP, bytesP_length, binD, scD, blD, scBin, blBin, strBin, intBin, ressD, mapO, resD, D.frz, frzL, frz_cells, D.closed, closedL, closed_cells, mkV_true, gt0, gtk, st0, stk, List.append_assoc, List.length_append, D.fits, D.cells, partD, mkV_false, setAt, iadD, asI, List.map_cons, List.map_nil, List.getElem?_cons_zero, List.getElem?_cons_succ, List.getElem?_nil, List.length_cons, List.length_nil, List.drop_succ_cons, List.drop_zero, List.take_succ_cons, List.take_zero, List.nil_append, List.cons_append, List.set_cons_zero, List.set_cons_succ, Nat.reduceAdd, Nat.reduceLeDiff, Nat.reduceEqDiff, Nat.reduceBEq, beq_iff_eq, reduceCtorEq, ↓reduceIte, Option.map_some, Option.some.injEq, Bool.true_and, Bool.false_and, Bool.and_true, Bool.and_self, Bool.and_false, Bool.or_self, Bool.false_eq_true, b_ff, b_ft, b_tf, b_tt, Bool.not_true, Bool.not_false, BEq.rfl, decide_true, decide_false, Nat.le_refl, callE, zD, snilD, inilD, tasD, fnilD, AcE_tp, AcE_tw, twE, DcE_tp, appD, appSrc, fillD, fillP, D.pcells, cellPure, thenQ_pan, blockQ_pan, loopQ_pan, cntQ_nrm, cntQ_ret, cntQ_ext, cntQ_pan, indQ_nrm, indQ_ret, indQ_ext, indQ_pan, resQ, panQ_pan, rawQ, unD, and_self, and_true, true_and, not_true_eq_false, not_false_eq_true, Int.cast_ofNat_Int, Int.reduceLT, Int.reduceLE, Int.reduceBEq, Int.reduceToNat, Nat.reduceMul, Int.zero_le_ofNat, orcA, AcE_call]
      all_goals first
        | exact ⟨_, ⟨true, rfl⟩, rfl⟩
        | exact ⟨hlt, h.T, by simp [upd, h.h0], by simp [upd, h.ha], by simp [upd]⟩
    · obtain rfl : i = k1.length := by omega
      have hd : decide ((k1.length : Int) < (k1.length : Int)) = false := by simp
      simp only [c36L0, h.h0, h.ha, h.hb, hd, exQ_nrm, exQ_ret, DrwE_nil, DrwE_plain, DrwE_guard, GdE_true, GdE_false, DcE_q, DcE_push, DcE_rd, drdE, dcallE, Ex_seq, Ex_reg, Ex_ret, Ex_skip, Ex_exit, Ex_block, Ex_cond', condE_true, condE_false, loopQ_nrm, loopQ_ret, loopQ_ext, blockQ_nrm, blockQ_ret, blockQ_ext, OpsE_plain, OpsE_guard, OpsE_nil, GuE_true, GuE_false, guardD, act, callA, ev, upd, putE, AcE_q, AcE_push, AcE_rd', AcE_wr', rdE, wrE, initE, thenQ_nrm, thenQ_ret, thenQ_ext, retQ, qo_s, convD, D.slc, unBytes_bytesP, bytesP_length, binD, scD, blD, scBin, blBin, strBin, intBin, ressD, mapO, resD, D.frz, frzL, frz_cells, D.closed, closedL, closed_cells, mkV_true, gt0, gtk, st0, stk, List.append_assoc, List.length_append, D.fits, D.cells, partD, mkV_false, setAt, iadD, asI, List.map_cons, List.map_nil, List.getElem?_cons_zero, List.getElem?_cons_succ, List.getElem?_nil, List.length_cons, List.length_nil, List.drop_succ_cons, List.drop_zero, List.take_succ_cons, List.take_zero, List.nil_append, List.cons_append, List.set_cons_zero, List.set_cons_succ, Nat.reduceAdd, Nat.reduceLeDiff, Nat.reduceEqDiff, Nat.reduceBEq, beq_iff_eq, reduceCtorEq, ↓reduceIte, Option.map_some, Option.some.injEq, Bool.true_and, Bool.false_and, Bool.and_true, Bool.and_self, Bool.and_false, Bool.or_self, Bool.false_eq_true, b_ff, b_ft, b_tf, b_tt, Bool.not_true, Bool.not_false, BEq.rfl, decide_true, decide_false, Nat.le_refl, callE, zD, snilD, inilD, tasD, fnilD, AcE_tp, AcE_tw, twE, DcE_tp, appD, appSrc, fillD, fillP, D.pcells, cellPure, thenQ_pan, blockQ_pan, loopQ_pan, cntQ_nrm, cntQ_ret, cntQ_ext, cntQ_pan, indQ_nrm, indQ_ret, indQ_ext, indQ_pan, resQ, panQ_pan, rawQ, unD, and_self, and_true, true_and, not_true_eq_false, not_false_eq_true, Int.cast_ofNat_Int, Int.reduceLT, Int.reduceLE, Int.reduceBEq, Int.reduceToNat, Nat.reduceMul, Int.zero_le_ofNat, orcA]
      exact ⟨_, ⟨false, rfl⟩, rfl⟩)
  exact ⟨g, hx⟩

set_option maxHeartbeats 2000000 in
theorem run13 (hawake : callV orcB F 37 [] = some (.ret (boD true))) (a b : List En) (ha : ∀ x ∈ a, x.ok) (hb : ∀ x ∈ b, x.ok) (hla : a.length < 2 ^ 62) (hlb : b.length < 2 ^ 62) :
    callV orcB F 13 [.c (.sl a.length (a.flatMap En.cells)), .c (.sl b.length (b.flatMap En.cells))] = some (.ret (boD true)) := by
  obtain ⟨ga, hga⟩ := run36 a ha hla
  replace hga := callV_table tableB hga
  obtain ⟨gb, hgb⟩ := run36 b hb hlb
  replace hgb := callV_table tableB hgb
  have h1 := callV_table tableB (run45 a b ha hla)
  have h2 := callV_table tableB (run44 a b ha hla)
  have h3 := run45 a a ha hla
  rw [enSame_self a ha] at h3
  replace h3 := callV_table tableB h3
  refine callV_ret tr13 ?_
  cases ga <;> cases gb <;> simp only [c13, hga, hgb, h1, h2, h3, hawake, AcE_call (f := 37) (args := []) rfl, orcB, DrwE_nil, DrwE_plain, DrwE_guard, GdE_true, GdE_false, DcE_q, DcE_push, DcE_rd, drdE, dcallE, Ex_seq, Ex_reg, Ex_ret, Ex_skip, Ex_exit, Ex_block, Ex_cond', condE_true, condE_false, loopQ_nrm, loopQ_ret, loopQ_ext, blockQ_nrm, blockQ_ret, blockQ_ext, OpsE_plain, OpsE_guard, OpsE_nil, GuE_true, GuE_false, guardD, act, callA, ev, upd, putE, AcE_q, AcE_push, AcE_rd', AcE_wr', rdE, wrE, initE, thenQ_nrm, thenQ_ret, thenQ_ext, retQ, qo_s, convD, D.slc, unBytes_bytesP, bytesP_length, binD, scD, blD, scBin, blBin, strBin, intBin, ressD, mapO, resD, D.frz, frzL, frz_cells, D.closed, closedL, closed_cells, mkV_true, gt0, gtk, st0, stk, List.append_assoc, List.length_append, D.fits, D.cells, partD, mkV_false, setAt, iadD, asI, List.map_cons, List.map_nil, List.getElem?_cons_zero, List.getElem?_cons_succ, List.getElem?_nil, List.length_cons, List.length_nil, List.drop_succ_cons, List.drop_zero, List.take_succ_cons, List.take_zero, List.nil_append, List.cons_append, List.set_cons_zero, List.set_cons_succ, Nat.reduceAdd, Nat.reduceLeDiff, Nat.reduceEqDiff, Nat.reduceBEq, beq_iff_eq, reduceCtorEq, ↓reduceIte, Option.map_some, Option.some.injEq, Bool.true_and, Bool.false_and, Bool.and_true, Bool.and_self, Bool.and_false, Bool.or_self, Bool.false_eq_true, b_ff, b_ft, b_tf, b_tt, Bool.not_true, Bool.not_false, BEq.rfl, decide_true, decide_false, Nat.le_refl, callE, zD, snilD, inilD, tasD, fnilD, AcE_tp, AcE_tw, twE, DcE_tp, appD, appSrc, fillD, fillP, D.pcells, cellPure, thenQ_pan, blockQ_pan, loopQ_pan, cntQ_nrm, cntQ_ret, cntQ_ext, cntQ_pan, indQ_nrm, indQ_ret, indQ_ext, indQ_pan, resQ, panQ_pan, rawQ, unD, and_self, and_true, true_and, not_true_eq_false, not_false_eq_true, Int.cast_ofNat_Int, Int.reduceLT, Int.reduceLE, Int.reduceBEq, Int.reduceToNat, Nat.reduceMul, Int.zero_le_ofNat, orcA, AcE_call]
end Go.Proofs.YthglfhnlolefhaaGreatDoor

end
section
/- Own framework, part 31: what the form reads of an argument, as abstract data. -/
set_option linter.unusedVariables false
set_option linter.unusedSimpArgs false
namespace Go.Abs
section
variable {H : Type} {enc : TypeId × Value → H} {P : Program} {w : World}

/-- Memory that was there never turns. -/
def oldI (w : World) : Nat → Nat → Prop := fun b _ => b < w.heap.size

/-- These cells hold these abstract ones. -/
def BrL (w : World) : List Value → List Go.Abs.P → Prop
  | [], [] => True
  | v :: vs, p :: ps => RepP w (oldI w) v p ∧ BrL w vs ps
  | _, _ => False

theorem BrL.len : ∀ {vs : List Value} {ps : List Go.Abs.P}, BrL w vs ps → vs.length = ps.length
  | [], [], _ => rfl
  | v :: vs, p :: ps, h => by simp [BrL.len h.2]
theorem BrL.get : ∀ {vs : List Value} {ps : List Go.Abs.P}, BrL w vs ps → ∀ (i : Nat) (p : Go.Abs.P), ps[i]? = some p → ∃ v, vs[i]? = some v ∧ RepP w (oldI w) v p
  | [], [], _, i, p, hp => by simp at hp
  | v :: vs, q :: ps, h, 0, p, hp => by
    simp only [List.getElem?_cons_zero, Option.some.injEq] at hp
    subst hp
    exact ⟨v, rfl, h.1⟩
  | v :: vs, q :: ps, h, i + 1, p, hp => by
    obtain ⟨u, h1, h2⟩ := BrL.get h.2 i p (by simpa using hp)
    exact ⟨u, by simpa using h1, h2⟩
theorem BrL.rep {g : Gh} {T : List Nat} {vs : List Value} {ps : List Go.Abs.P} (h : BrL w vs ps) (hI : g.I = oldI w) : RepL w g T vs.toArray (ps.map .c) := by
  refine ⟨by simpa using h.len, fun i hi => ?_⟩
  have hi' : i < ps.length := by simpa using hi
  obtain ⟨v, h1, h2⟩ := h.get i ps[i] (List.getElem?_eq_getElem hi')
  rw [List.getElem_map]
  refine .c ?_
  rw [hI]
  simpa [Array.getD_eq_getD_getElem?, h1] using h2

theorem lt_of_cell {a : Addr} {v : Value} (h : w.cell? a = some v) : a.block < w.heap.size := by
  rw [spot_none h] at h
  simp only [World.cell?] at h
  cases hb : w.heap[a.block]? with
  | none => simp [hb] at h
  | some o => exact (Array.getElem?_eq_some_iff.1 hb).1

theorem br_lit {v : Value} (h : scal v = true) : BrL w [v] [.v v] := ⟨.v h, trivial⟩
theorem br_bool {t : TypeId} {n : Nat} {cs : List Value} {x : DataW H × List MemPlace} (ht : P.underlying t = some .bool) (h : DataW.trod enc P w 0 (fun _ => true) true n t cs = some x) :
    ∃ b : Bool, BrL w cs [boP b] ∧ x.1 = .lit (.bool b) := by
  obtain ⟨b, rfl, rfl⟩ := DataW.trod_bool ht h
  exact ⟨b, br_lit rfl, rfl⟩
theorem br_int {t : TypeId} {k : IntKind} {n : Nat} {cs : List Value} {x : DataW H × List MemPlace} (ht : P.underlying t = some (.int k)) (h : DataW.trod enc P w 0 (fun _ => true) true n t cs = some x) :
    ∃ z : Int, BrL w cs [.v (.int k z)] ∧ x.1 = .lit (.int k z) ∧ (Lit.int k z).wf = true := by
  obtain ⟨z, rfl, rfl, hw⟩ := DataW.trod_int ht h
  exact ⟨z, br_lit rfl, rfl, hw⟩
theorem br_u8 {t : TypeId} {n : Nat} {cs : List Value} {x : DataW H × List MemPlace} (ht : P.underlying t = some (.int .u8)) (h : DataW.trod enc P w 0 (fun _ => true) true n t cs = some x) :
    ∃ b : UInt8, BrL w cs [byteP b] ∧ x.1 = .lit (.int .u8 b.toNat) := by
  obtain ⟨z, h1, h2, hw⟩ := br_int ht h
  have hb : 0 ≤ z ∧ z ≤ 255 := by
    simp [Lit.wf, IntKind.min, IntKind.max, IntKind.signed, IntKind.bits] at hw
    omega
  have e : ((UInt8.ofNat z.toNat).toNat : Int) = z := by
    have : z.toNat < 256 := by omega
    simp only [UInt8.toNat_ofNat', Nat.reducePow]
    omega
  exact ⟨UInt8.ofNat z.toNat, by rw [byteP, e]; exact h1, by rw [e]; exact h2⟩
theorem br_str {t : TypeId} {n : Nat} {cs : List Value} {x : DataW H × List MemPlace} (ht : P.underlying t = some .string) (h : DataW.trod enc P w 0 (fun _ => true) true n t cs = some x) :
    ∃ s : ByteArray, BrL w cs [.v (.string s)] ∧ x.1 = .lit (.string s.data.toList) ∧ s.size ≤ maxLen := by
  obtain ⟨s, rfl, rfl, hs⟩ := DataW.trod_string ht h
  exact ⟨s, br_lit rfl, rfl, hs⟩

theorem DataW_add (a : Addr) (i j : Nat) : (a.add i).add j = a.add (i + j) := by
  unfold Addr.add
  by_cases hi : i = 0 <;> by_cases hj : j = 0 <;> simp [hi, hj, Nat.add_assoc]
/-- A slice. -/
theorem br_slice {α : Type} {t e : TypeId} {k : Nat} (ht : P.underlying t = some (.slice e)) (hk : P.cellsOf e = k) {c : α → List Go.Abs.P} (hc : ∀ a, (c a).length = k) {R : α → DataW H → Prop} {n : Nat} {cs : List Value} {x : DataW H × List MemPlace}
    (h : DataW.trod enc P w 0 (fun _ => true) true n t cs = some x)
    (he : ∀ m cs' y, m < n → DataW.trod enc P w 0 (fun _ => true) true m e cs' = some y → ∃ a, BrL w cs' (c a) ∧ R a y.1) :
    ∃ l : List α, BrL w cs [.sl l.length (l.flatMap c)] ∧ l.length ≤ maxLen ∧ ((x.1 = .nil ∧ l = []) ∨ ∃ ds rest, x.1 = .slice ds rest ∧ ds.length = l.length ∧ ∀ (i : Nat) (a : α) (d : DataW H), l[i]? = some a → ds[i]? = some d → R a d) := by
  rcases DataW.trod_slice ht h with ⟨rfl, rfl⟩ | ⟨a, len, cap, elems, rest, m, rfl, rfl, rfl, hb, hl, hm, hlen, hel, _⟩
  · exact ⟨[], ⟨.nil, trivial⟩, Nat.zero_le _, .inl ⟨rfl, rfl⟩⟩
  subst hk
  have key : ∀ j, j ≤ len → ∃ l : List α, l.length = j ∧ ∀ i (b : α), l[i]? = some b → ∃ cs' y, w.cells? 0 (a.add (i * P.cellsOf e)) (P.cellsOf e) = some cs' ∧ elems[i]? = some y ∧ BrL w cs' (c b) ∧ R b y.1 := by
    intro j
    induction j with
    | zero => exact fun _ => ⟨[], rfl, fun i b hb => by simp at hb⟩
    | succ j ih =>
      intro hj
      obtain ⟨l, h1, h2⟩ := ih (by omega)
      have h3 := hel j (by omega)
      obtain ⟨y, hy⟩ : ∃ y, elems[j]? = some y := ⟨_, List.getElem?_eq_getElem (by omega)⟩
      rw [hy] at h3
      obtain ⟨cs', h4, h5⟩ := Option.bind_eq_some_iff.1 h3
      obtain ⟨b, h6, h7⟩ := he m cs' y (Nat.lt_succ_self _) h5
      refine ⟨l ++ [b], by simp [h1], fun i b' hb' => ?_⟩
      by_cases hij : i < l.length
      · rw [List.getElem?_append_left hij] at hb'
        exact h2 i b' hb'
      · have : i = l.length := by
          have := (List.getElem?_eq_some_iff.1 hb').1
          simp at this; omega
        subst this
        simp only [List.getElem?_append_right (Nat.le_refl _), Nat.sub_self, List.getElem?_cons_zero, Option.some.injEq] at hb'
        subst hb'
        rw [h1]
        exact ⟨cs', y, h4, hy, h6, h7⟩
  obtain ⟨l, h1, h2⟩ := key len (Nat.le_refl _)
  have hfl : (l.flatMap c).length = len * P.cellsOf e := by
    rw [← h1]
    clear h1 h2
    induction l with
    | nil => simp
    | cons b l ih => rw [List.flatMap_cons, List.length_append, ih, hc, List.length_cons, Nat.add_mul]; omega
  have cell : ∀ j, j < len * P.cellsOf e → ∃ v p, w.cell? (a.add j) = some v ∧ (l.flatMap c)[j]? = some p ∧ RepP w (oldI w) v p := by
    intro j hj
    have hk : 0 < P.cellsOf e := Nat.pos_of_ne_zero fun h0 => by rw [h0] at hj; omega
    have hi : j / P.cellsOf e < len := (Nat.div_lt_iff_lt_mul hk).2 hj
    obtain ⟨b, hb⟩ : ∃ b, l[j / P.cellsOf e]? = some b := ⟨_, List.getElem?_eq_getElem (by omega)⟩
    obtain ⟨cs', y, h3, h4, h5, h6⟩ := h2 _ b hb
    obtain ⟨_, h7, h8⟩ := World.cells?_some h3
    have hr := Nat.mod_lt j hk
    obtain ⟨s1, s2⟩ := seg_at hc hb
    have hp : (l.flatMap c)[j]? = (c b)[j % P.cellsOf e]? := by
      rw [← s1, List.getElem?_take_of_lt hr, List.getElem?_drop, Nat.mul_comm, Nat.div_add_mod]
    obtain ⟨p, hp2⟩ : ∃ p, (c b)[j % P.cellsOf e]? = some p := ⟨_, List.getElem?_eq_getElem (by rw [hc]; exact hr)⟩
    obtain ⟨v, h9, h10⟩ := h5.get _ p hp2
    refine ⟨v, p, ?_, by rw [hp, hp2], h10⟩
    have := h8 _ hr
    rw [h9] at this
    rw [← this]
    rw [DataW_add, Nat.mul_comm (j / P.cellsOf e), Nat.div_add_mod]
  refine ⟨l, ⟨?_, trivial⟩, by omega, .inr ⟨elems.map (·.1), rest.map (·.1), rfl, by simp [hlen, h1], fun i b d hb hd => ?_⟩⟩
  · rw [h1]
    refine .sl (us := fun j => (w.cell? (a.add j)).getD undef) hl ⟨fun j hj => ?_, fun j hj => ?_⟩ fun j hj => ?_
    · obtain ⟨v, p, h3, _⟩ := cell j (by rw [← hfl]; exact hj)
      rw [h3]; rfl
    · obtain ⟨v, p, h3, _⟩ := cell j (by rw [← hfl]; exact hj)
      exact lt_of_cell h3
    · obtain ⟨v, p, h3, h4, h5⟩ := cell j (by rw [← hfl]; exact hj)
      have : (l.flatMap c)[j] = p := by rw [List.getElem?_eq_getElem hj] at h4; exact Option.some.inj h4
      simp only [h3, Option.getD_some, this]
      exact h5
  · obtain ⟨cs', y, _, h4, _, h6⟩ := h2 i b hb
    rw [List.getElem?_map, h4] at hd
    simp only [Option.map_some, Option.some.injEq] at hd
    subst hd
    exact h6

theorem flat_bytes (l : List UInt8) : (l.flatMap fun b => [byteP b]) = bytesP l := by
  induction l with
  | nil => rfl
  | cons b l ih => rw [List.flatMap_cons, ih]; rfl
/-- A slice of bytes. -/
theorem br_bytes {t e : TypeId} (ht : P.underlying t = some (.slice e)) (he : P.underlying e = some (.int .u8)) (hk : P.cellsOf e = 1) {n : Nat} {cs : List Value} {x : DataW H × List MemPlace} (h : DataW.trod enc P w 0 (fun _ => true) true n t cs = some x) :
    ∃ l : List UInt8, BrL w cs [byP l] ∧ l.length ≤ maxLen ∧ ((x.1 = .nil ∧ l = []) ∨ ∃ ds rest, x.1 = .slice ds rest ∧ ds.length = l.length) := by
  obtain ⟨l, h1, h2, h3⟩ := br_slice (α := UInt8) ht hk (c := fun b => [byteP b]) (fun _ => rfl) (R := fun _ _ => True) h (fun m cs' y _ hy => by
    obtain ⟨b, h4, _⟩ := br_u8 he hy
    exact ⟨b, h4, trivial⟩)
  refine ⟨l, by rw [flat_bytes] at h1; exact h1, h2, h3.imp id fun ⟨ds, rest, h4, h5, _⟩ => ⟨ds, rest, h4, h5⟩⟩
end
end Go.Abs

end
section
/- Own: what the form reads of a tag. -/
set_option maxRecDepth 100000
set_option linter.unusedSimpArgs false
set_option linter.unusedVariables false
namespace Go.Proofs.YthglfhnlolefhaaGreatDoor
open Go.Abs

theorem cells5 : Tryz.prog.cellsOf 5 = 1 := by kernel_rfl
theorem cells4 : Tryz.prog.cellsOf 4 = 1 := by kernel_rfl
theorem cells24 : Tryz.prog.cellsOf 24 = 1 := by kernel_rfl
theorem cells22 : Tryz.prog.cellsOf 22 = 1 := by kernel_rfl
theorem cells30 : Tryz.prog.cellsOf 30 = 3 := by kernel_rfl
theorem cells32 : Tryz.prog.cellsOf 32 = 7 := by kernel_rfl
theorem cells34 : Tryz.prog.cellsOf 34 = 10 := by kernel_rfl

def fld (n : String) (t : TypeId) (o b : Nat) : Field := { name := n, type := t, offset := o, embedded := false, tag := "", pkgPath := "", byteOffset := b }
section
variable {H : Type} {enc : TypeId × Value → H} {w : World}
abbrev Trd (enc : TypeId × Value → H) (w : World) (n : Nat) (t : TypeId) (cs : List Value) (x : DataW H × List MemPlace) : Prop := DataW.trod enc Tryz.prog w 0 (fun _ => true) true n t cs = some x

/-! ### bulk -/
theorem bulk_one (d : DataW H) : 1 ≤ Rows.uptoBulk d := by
  cases d with
  | lit l => cases l <;> simp [Rows.uptoBulk]
  | nil => simp [Rows.uptoBulk]
  | ptr d => simp [Rows.uptoBulk]
  | slice elems spare => simp [Rows.uptoBulk]
  | agg parts => simp [Rows.uptoBulk]
  | iface t d => simp [Rows.uptoBulk]
  | map entries => simp [Rows.uptoBulk]
  | held h => simp [Rows.uptoBulk]
theorem bulk_len (l : List (DataW H)) : l.length ≤ Rows.uptoBulkAll l := by
  induction l with
  | nil => simp [Rows.uptoBulkAll]
  | cons x l ih => have := bulk_one x; simp only [Rows.uptoBulkAll, List.length_cons]; omega
/-- Of elements that are held against their data one by one. -/
theorem bulk_each {α : Type} {f : α → Nat} : ∀ (l : List α) (ds : List (DataW H)), ds.length = l.length → (∀ (i : Nat) (a : α) (d : DataW H), l[i]? = some a → ds[i]? = some d → f a ≤ Rows.uptoBulk d) → (l.map f).sum ≤ Rows.uptoBulkAll ds
  | [], _, _, _ => by simp
  | a :: l, [], h, _ => by simp at h
  | a :: l, d :: ds, h, hk => by
    have h1 := hk 0 a d rfl rfl
    have h2 := bulk_each l ds (by simpa using h) fun i a d hi hd => hk (i + 1) a d (by simpa using hi) (by simpa using hd)
    simp only [List.map_cons, List.sum_cons, Rows.uptoBulkAll]
    omega

theorem read_bytes {n : Nat} {cs : List Value} {x : DataW H × List MemPlace} (h : Trd enc w n 24 cs x) : ∃ l : List UInt8, BrL w cs [byP l] ∧ l.length ≤ maxLen ∧ l.length + 1 ≤ Rows.uptoBulk x.1 := by
  obtain ⟨l, h1, h2, h3⟩ := br_bytes Tryz.underlying24 Tryz.underlying5 cells5 h
  refine ⟨l, h1, h2, ?_⟩
  rcases h3 with ⟨h3, rfl⟩ | ⟨ds, rest, h3, h4⟩
  · rw [h3]; simp [Rows.uptoBulk]
  · rw [h3]
    have := bulk_len ds
    simp only [Rows.uptoBulk]
    omega

/-- A bound's cells. -/
theorem read_bound {n : Nat} {c0 c1 c2 : Value} {x : DataW H × List MemPlace} (h : Trd enc w n 30 [c0, c1, c2] x) : ∃ (i o : Bool) (a : List UInt8), BrL w [c0, c1, c2] [boP i, boP o, byP a] ∧ a.length ≤ maxLen ∧ a.length + 1 ≤ Rows.uptoBulk x.1 := by
  obtain ⟨xs, m, rfl, rfl, hl, hx, hf⟩ := DataW.trod_struct Tryz.underlying30 h
  match xs, hx with
  | [y0, y1, y2], _ =>
    have f0 := hf 0 (fld "Is" 4 0 0) rfl
    have f1 := hf 1 (fld "Open" 4 1 1) rfl
    have f2 := hf 2 (fld "At" 24 2 8) rfl
    simp only [fld, cells4, cells24, List.drop_zero, List.take_succ_cons, List.take_zero, List.drop_succ_cons, List.getElem?_cons_zero, List.getElem?_cons_succ] at f0 f1 f2
    obtain ⟨i, b0, _⟩ := br_bool Tryz.underlying4 f0
    obtain ⟨o, b1, _⟩ := br_bool Tryz.underlying4 f1
    obtain ⟨a, b2, h3, h4⟩ := read_bytes f2
    refine ⟨i, o, a, ⟨b0.1, b1.1, b2.1, trivial⟩, h3, ?_⟩
    simp only [List.map_cons, List.map_nil, Rows.uptoBulk, Rows.uptoBulkAll]
    omega

mutual
/-- How much a tag holds. -/
def Tg.bulk : Tg → Nat
  | .mk kind data kids o i1 o1 a1 i2 o2 a2 => 1 + data.length + a1.length + a2.length + bulkL kids
def bulkL : List Tg → Nat
  | [] => 0
  | t :: r => t.bulk + bulkL r
end
theorem bulkL_sum : ∀ l : List Tg, bulkL l = (l.map Tg.bulk).sum
  | [] => rfl
  | t :: r => by rw [bulkL, bulkL_sum r]; rfl

theorem ok_of_bulk (t : Tg) : t.bulk < 2 ^ 62 → t.ok := by
  induction h : t.bulk using Nat.strongRecOn generalizing t with
  | _ n ih =>
    intro hn
    obtain ⟨kind, data, kids, o, i1, o1, a1, i2, o2, a2⟩ := t
    simp only [Tg.bulk] at h
    have hl : ∀ l : List Tg, l.length ≤ bulkL l := fun l => by
      induction l with
      | nil => simp [bulkL]
      | cons x l ih =>
        obtain ⟨kind, data, kids, o, i1, o1, a1, i2, o2, a2⟩ := x
        simp only [bulkL, Tg.bulk, List.length_cons]; omega
    have hm : ∀ l : List Tg, ∀ x ∈ l, x.bulk ≤ bulkL l := fun l => by
      induction l with
      | nil => intro x hx; simp at hx
      | cons y l ih =>
        intro x hx
        simp only [bulkL]
        rcases List.mem_cons.1 hx with rfl | hx
        · omega
        · have := ih x hx; omega
    refine .mk ?_ fun x hx => ?_
    · have := hl kids; omega
    · have := hm kids x hx
      exact ih x.bulk (by omega) x rfl (by omega)

theorem weigh_mem {e : TypeId} : ∀ {l : List (DataW H)} {d : DataW H}, d ∈ l → ∀ n, n ∈ DataW.weights Tryz.prog e d → n ∈ DataW.weightsAll Tryz.prog e l
  | [], d, h, n, hn => by simp at h
  | x :: l, d, h, n, hn => by
    rw [DataW.weightsAll, List.mem_append]
    rcases List.mem_cons.1 h with rfl | h
    · exact .inl hn
    · exact .inr (weigh_mem h n hn)

/-- A tag; its bulk; it is right where no slice is longer than memory. -/
theorem read_tag : ∀ (n : Nat) {cs : List Value} {x : DataW H × List MemPlace}, Trd enc w n 34 cs x → ∃ t : Tg, BrL w cs t.cells ∧ t.bulk ≤ Rows.uptoBulk x.1 ∧ ((∀ n ∈ DataW.weights Tryz.prog 34 x.1, n ≤ reachBytes) → t.ok) := by
  intro n
  induction n using Nat.strongRecOn with
  | _ n ih =>
    intro cs x h
    obtain ⟨xs, m, rfl, rfl, hl, hx, hf⟩ := DataW.trod_struct Tryz.underlying34 h
    rw [cells34] at hl
    match xs, hx, cs, hl with
    | [y0, y1, y2, y3], _, [c0, c1, c2, c3, c4, c5, c6, c7, c8, c9], _ =>
      have f0 := hf 0 (fld "Kind" 5 0 0) rfl
      have f1 := hf 1 (fld "Data" 24 1 8) rfl
      have f2 := hf 2 (fld "Kids" 22 2 32) rfl
      have f3 := hf 3 (fld "Range" 32 3 56) rfl
      simp only [fld, cells5, cells24, cells22, cells32, List.drop_zero, List.take_succ_cons, List.take_zero, List.drop_succ_cons, List.getElem?_cons_zero, List.getElem?_cons_succ, List.take_nil] at f0 f1 f2 f3
      obtain ⟨kind, b0, _⟩ := br_u8 Tryz.underlying5 f0
      obtain ⟨data, b1, e1, e2⟩ := read_bytes f1
      obtain ⟨kids, b2, k1, k2⟩ := br_slice Tryz.underlying22 cells34 cells_len (R := fun (a : Tg) d => a.bulk ≤ Rows.uptoBulk d ∧ ((∀ n ∈ DataW.weights Tryz.prog 34 d, n ≤ reachBytes) → a.ok)) f2 (fun m' cs' y hm hy => by
        obtain ⟨t, h1, h2, h3⟩ := ih m' (by omega) hy
        exact ⟨t, h1, h2, h3⟩)
      obtain ⟨zs, m2, rfl, rfl, hl2, hz, hg⟩ := DataW.trod_struct Tryz.underlying32 f3
      match zs, hz with
      | [z0, z1, z2], _ =>
        have g0 := hg 0 (fld "Order" 5 0 0) rfl
        have g1 := hg 1 (fld "Lo" 30 1 8) rfl
        have g2 := hg 2 (fld "Hi" 30 4 40) rfl
        simp only [fld, cells5, cells30, List.drop_zero, List.take_succ_cons, List.take_zero, List.drop_succ_cons, List.getElem?_cons_zero, List.getElem?_cons_succ, List.take_nil] at g0 g1 g2
        obtain ⟨ord, r0, _⟩ := br_u8 Tryz.underlying5 g0
        obtain ⟨i1, o1, a1, r1, q1, q2⟩ := read_bound g1
        obtain ⟨i2, o2, a2, r2, q3, q4⟩ := read_bound g2
        refine ⟨.mk kind data kids ord i1 o1 a1 i2 o2 a2, ?_, ?_, fun hw => ?_⟩
        · rw [cells_mk]
          exact ⟨b0.1, b1.1, b2.1, r0.1, r1.1, r1.2.1, r1.2.2.1, r2.1, r2.2.1, r2.2.2.1, trivial⟩
        · have hk : bulkL kids ≤ Rows.uptoBulk y2.1 := by
            rcases k2 with ⟨k2, rfl⟩ | ⟨ds, rest, k2, k3, k4⟩
            · simp [bulkL]
            · rw [k2, bulkL_sum]
              have := bulk_each kids ds k3 fun i a d hi hd => (k4 i a d hi hd).1
              simp only [Rows.uptoBulk]
              omega
          have h5 := bulk_one y0.1
          simp only [Tg.bulk, List.map_cons, List.map_nil, Rows.uptoBulk, Rows.uptoBulkAll]
          omega
        · have hw2 : ∀ n ∈ DataW.weights Tryz.prog 22 y2.1, n ≤ reachBytes := fun n hn => hw n (by
            rw [DataW.weights, Tryz.underlying34]
            show n ∈ DataW.weightsEach Tryz.prog [5, 24, 22, 32] _
            simp only [List.map_cons, DataW.weightsEach, List.mem_append]
            exact .inr (.inr (.inl hn)))
          rcases k2 with ⟨k2, rfl⟩ | ⟨ds, rest, k2, k3, k4⟩
          · exact .mk (by decide) (fun a ha => by simp at ha)
          · rw [k2] at hw2
            have hwe : DataW.weights Tryz.prog 22 (.slice ds rest) = (ds.length + rest.length) * Tryz.prog.bytesOf 34 :: (DataW.weightsAll Tryz.prog 34 ds ++ DataW.weightsAll Tryz.prog 34 rest) := by
              rw [DataW.weights, Tryz.underlying22]
            rw [hwe] at hw2
            have hby : Tryz.prog.bytesOf 34 = 128 := by kernel_rfl
            have h6 := hw2 _ List.mem_cons_self
            rw [hby] at h6
            have h7 : reachBytes < 2 ^ 62 := by decide
            refine .mk (by omega) fun a ha => ?_
            obtain ⟨i, hi⟩ := List.getElem?_of_mem ha
            have hlt := (List.getElem?_eq_some_iff.1 hi).1
            refine (k4 i a ds[i] hi (List.getElem?_eq_getElem (by omega))).2 fun n hn => hw2 n (List.mem_cons_of_mem _ (List.mem_append_left _ (weigh_mem (List.getElem_mem _) n hn)))
end
end Go.Proofs.YthglfhnlolefhaaGreatDoor

end
section
/- Own: what is left behind a call that turns no old memory; the world that lays the listed tables; what all laws of this seat share. -/
set_option maxRecDepth 100000
set_option linter.unusedVariables false
namespace Go.Proofs.YthglfhnlolefhaaGreatDoor
open Go.ChangeShapes Go.WideShapes Go.ChangeAt Go.RowKit Go.Abs

theorem own : ownKnob Tryz.prog.godebug = none := by kernel_rfl
theorem laidOutT : laidOutB Tryz.prog = true := by kernel_rfl

section
variable {H : Type} {enc : TypeId × Value → H}
/-- An argument reads behind the call as it did, whatever is spared. -/
theorem reads_on {t : TypeId} (hr : Tryz.prog.readableRec t = true) (hrow : t < Tryz.prog.types.size) {W W' : World} {v : Value} {d : DataW H} {ps : List MemPlace} (h : DataW.Trod enc Tryz.prog W 0 (fun _ => true) true t v d ps) (hb : Below W.heap.size W W')
    (hlt : ∀ x ∈ ps, x.block < W.heap.size) (sp : Nat → Bool) (hs : ∀ x ∈ ps, sp x.block = true) : DataW.Trod enc Tryz.prog W' 0 sp true t v d ps :=
  WideElems.Trod_stays laidOutT hr hrow h (fun x hx => hb.same (hlt x hx)) hs

/-- A tag as an argument. -/
theorem arg_tag {W : World} {base : Nat} {v : Value} {d : DataW H} {ps : List MemPlace} (hv : Value.okWide Tryz.prog W .any base 34 v) (h : DataW.Trod enc Tryz.prog W 0 (fun _ => true) true 34 v d ps) :
    ∃ t : Tg, RepD W ⟨W.heap.size, [], [], oldI W⟩ [] v (.ag (t.cells.map .c)) ∧ t.bulk ≤ Rows.uptoBulk d ∧ ((∀ n ∈ DataW.weights Tryz.prog 34 d, n ≤ reachBytes) → t.ok) := by
  obtain ⟨n, hn⟩ := h
  obtain ⟨cs, rfl, hcs⟩ := okWide_struct Tryz.underlying34 hv
  obtain ⟨t, h1, h2, h3⟩ := read_tag n hn
  have hr := h1.rep (g := ⟨W.heap.size, [], [], oldI W⟩) (T := []) rfl
  refine ⟨t, .ag (by simpa [Value.cells] using hr.1) (fun i hi => by rw [List.getElem_map]; rfl) (fun i hi => by simpa [Value.cells] using hr.2 i hi), h2, h3⟩
end

/-- What is left behind a call that turns no old memory, where the specification hands the arguments back. -/
theorem post_below {H : Type} {enc : TypeId × Value → H} {f : Func} {s : ChangeSpec} {apart fresh handsOn again : Bool} {W W' : World} {args : Array Value} {v : Value} {ds gs : List (DataW H)} {before : List MemPlace}
    (hW : DataW.Whole enc Tryz.prog f.params.toList s.vars apart W args.toList ds gs before) (hb : Below W.heap.size W W')
    (hres : ∀ (b : Nat) (sp : Nat → Bool) (hd : Bool), DataW.TrodAll enc Tryz.prog W' b sp hd f.resultTypes.toList (v.resultList f.resultTypes.size) (s.fn H (ds ++ gs)).results [])
    (hargs : ∀ sp : Nat → Bool, (∀ p ∈ before, sp p.block = true) → DataW.TrodAll enc Tryz.prog W' 0 sp true f.params.toList args.toList (s.fn H (ds ++ gs)).args before)
    (hvars : s.vars = []) (hvars2 : (s.fn H (ds ++ gs)).vars = [])
    (hok : ∀ (j : Nat) (t : TypeId) (r : Value), f.resultTypes[j]? = some t → (v.resultList f.resultTypes.size)[j]? = some r → Value.okWide Tryz.prog W' .any 0 t r) :
    s.post enc Tryz.prog f apart fresh handsOn again W args v W' := by
  have hlt := hW.lt
  have hold : ∀ p ∈ before, (fun b => decide (b < W.heap.size)) p.block = true := fun p hp => by simpa using hlt p hp
  have hv : ∀ sp, DataW.TrodVars enc Tryz.prog W' sp s.vars (s.fn H (ds ++ gs)).vars [] := fun sp => by rw [hvars, hvars2]; rfl
  refine ⟨ds, gs, before, [], before, [], hW, hres _ _ _, hargs _ hold, hv _, World.keptBut_mono (fun p hp => ⟨hp, .inr (.inl hp)⟩) (hb.frame _), fun _ => ?_⟩
  obtain ⟨_, _, _, _, _, hz, hn⟩ := hW
  refine ⟨hok, _, _, ([] ++ before) ++ [], ⟨[] ++ before, [], trodAll_append (hargs _ (fun _ _ => rfl)) (hres _ _ _), hv _, rfl, ?_, ?_⟩, ?_⟩
  · intro b off hp
    have hp' : MemPlace.cell b off ∈ before := by simpa using hp
    rw [hb.frozen (p := ⟨b, off, none⟩) (show b < W.heap.size from hlt _ hp')]
    exact hz b off hp'
  · intro ha
    simpa using hn ha
  · intro p hp _
    simpa using hp

/-! ### the row -/
/-- A listed table's cells. -/
def flatD : DataW Unit → List Value
  | .lit (.int k n) => [.int k n]
  | .agg ps => flatA ps
  | _ => []
where flatA : List (DataW Unit) → List Value
  | [] => []
  | d :: r => flatD d ++ flatA r
/-- The settled world, with a table laid. -/
noncomputable def lay (w : World) (g : Nat) (d : DataW Unit) : World :=
  { w with heap := w.heap.modify g fun
      | .cells _ t frozen => .cells (flatD d).toArray t frozen
      | o => o }
noncomputable def laidWorld (os : Os) : World :=
  lay (lay (lay (lay (lay (World.holding Tryz.prog os ⟨#[], #[], []⟩) 2 Rows.laid_internal_strconv_uint64pow10) 3 Rows.laid_unicode_utf8_first) 4 Rows.laid_unicode_utf8_acceptRanges) 5 Rows.laid_math_bits_deBruijn32tab) 6 Rows.laid_math_bits_deBruijn64tab
theorem laid_all (os : Os) (args : Array Value) : laidMet Tryz.prog Rows.tagSameRow.laid ((laidWorld os).forCall (fun _ _ => 0) ⟨#[], args, []⟩).memory :=
  laidMet_of_run' 8 (by kernel_rfl) (by kernel_rfl)
end Go.Proofs.YthglfhnlolefhaaGreatDoor

end
section
/- Own: what the form reads of subjects, windows, entries, certificates. -/
set_option maxRecDepth 100000
set_option linter.unusedSimpArgs false
set_option linter.unusedVariables false
namespace Go.Proofs.YthglfhnlolefhaaGreatDoor
open Go.ChangeShapes Go.WideShapes Go.ChangeAt Go.RowKit Go.Abs
theorem cells2 : Tryz.prog.cellsOf 2 = 1 := by kernel_rfl
theorem cells3 : Tryz.prog.cellsOf 3 = 1 := by kernel_rfl
theorem cells50 : Tryz.prog.cellsOf 50 = 2 := by kernel_rfl
theorem cells51 : Tryz.prog.cellsOf 51 = 1 := by kernel_rfl
theorem cells52 : Tryz.prog.cellsOf 52 = 1 := by kernel_rfl
theorem cells54 : Tryz.prog.cellsOf 54 = 6 := by kernel_rfl
theorem cells56 : Tryz.prog.cellsOf 56 = 4 := by kernel_rfl
theorem cells58 : Tryz.prog.cellsOf 58 = 24 := by kernel_rfl
theorem cells66 : Tryz.prog.cellsOf 66 = 21 := by kernel_rfl
section
variable {H : Type} {enc : TypeId × Value → H} {w : World}
theorem brl_append : ∀ {vs us : List Value} {ps qs : List Go.Abs.P}, BrL w vs ps → BrL w us qs → BrL w (vs ++ us) (ps ++ qs)
  | [], us, [], qs, _, h => h
  | v :: vs, us, p :: ps, qs, h, h2 => ⟨h.1, brl_append h.2 h2⟩

theorem weigh_slice {st e : TypeId} (ht : Tryz.prog.underlying st = some (.slice e)) (ds rest : List (DataW H)) :
    DataW.weights Tryz.prog st (.slice ds rest) = (ds.length + rest.length) * Tryz.prog.bytesOf e :: (DataW.weightsAll Tryz.prog e ds ++ DataW.weightsAll Tryz.prog e rest) := by
  rw [DataW.weights, ht]
/-- A list that is read: no longer than memory; each element's weights are the list's. -/
theorem list_ok {α : Type} {st e : TypeId} (ht : Tryz.prog.underlying st = some (.slice e)) (hb : 1 ≤ Tryz.prog.bytesOf e) {l : List α} {d : DataW H} {R : α → DataW H → Prop}
    (k2 : (d = .nil ∧ l = []) ∨ ∃ ds rest, d = .slice ds rest ∧ ds.length = l.length ∧ ∀ (i : Nat) (a : α) (x : DataW H), l[i]? = some a → ds[i]? = some x → R a x)
    (hw : ∀ n ∈ DataW.weights Tryz.prog st d, n ≤ reachBytes) : l.length < 2 ^ 62 ∧ ∀ a ∈ l, ∃ x, R a x ∧ ∀ n ∈ DataW.weights Tryz.prog e x, n ≤ reachBytes := by
  rcases k2 with ⟨rfl, rfl⟩ | ⟨ds, rest, rfl, k3, k4⟩
  · exact ⟨Nat.pow_pos (by omega), fun a ha => by simp at ha⟩
  rw [weigh_slice ht] at hw
  have h6 := hw _ List.mem_cons_self
  have h7 : reachBytes < 2 ^ 62 := by decide
  have h8 := Nat.le_mul_of_pos_right (ds.length + rest.length) hb
  refine ⟨by omega, fun a ha => ?_⟩
  obtain ⟨i, hi⟩ := List.getElem?_of_mem ha
  have hlt := (List.getElem?_eq_some_iff.1 hi).1
  exact ⟨ds[i], k4 i a ds[i] hi (List.getElem?_eq_getElem (by omega)), fun n hn => hw n (List.mem_cons_of_mem _ (List.mem_append_left _ (weigh_mem (List.getElem_mem _) n hn)))⟩

theorem read_key {n : Nat} {c0 c1 : Value} {x : DataW H × List MemPlace} (h : Trd enc w n 50 [c0, c1] x) : ∃ (s : Bool) (d : List UInt8), BrL w [c0, c1] [boP s, byP d] := by
  obtain ⟨xs, m, rfl, rfl, hl, hx, hf⟩ := DataW.trod_struct Tryz.underlying50 h
  match xs, hx with
  | [y0, y1], _ =>
    have f0 := hf 0 (fld "Sum" 4 0 0) rfl
    have f1 := hf 1 (fld "Data" 24 1 8) rfl
    simp only [fld, cells4, cells24, List.drop_zero, List.take_succ_cons, List.take_zero, List.drop_succ_cons, List.getElem?_cons_zero, List.getElem?_cons_succ] at f0 f1
    obtain ⟨i, b0, _⟩ := br_bool Tryz.underlying4 f0
    obtain ⟨a, b1, _, _⟩ := read_bytes f1
    exact ⟨i, a, b0.1, b1.1, trivial⟩
theorem read_wn {n : Nat} {c0 c1 c2 c3 : Value} {x : DataW H × List MemPlace} (h : Trd enc w n 56 [c0, c1, c2, c3] x) : ∃ v : Wn, BrL w [c0, c1, c2, c3] v.cells := by
  obtain ⟨xs, m, rfl, rfl, hl, hx, hf⟩ := DataW.trod_struct Tryz.underlying56 h
  match xs, hx with
  | [y0, y1, y2, y3], _ =>
    have f0 := hf 0 (fld "After" 4 0 0) rfl
    have f1 := hf 1 (fld "From" 2 1 8) rfl
    have f2 := hf 2 (fld "Until" 4 2 16) rfl
    have f3 := hf 3 (fld "To" 2 3 24) rfl
    simp only [fld, cells4, cells2, List.drop_zero, List.take_succ_cons, List.take_zero, List.drop_succ_cons, List.getElem?_cons_zero, List.getElem?_cons_succ] at f0 f1 f2 f3
    obtain ⟨a, b0, _⟩ := br_bool Tryz.underlying4 f0
    obtain ⟨f, b1, _⟩ := br_int Tryz.underlying2 f1
    obtain ⟨u, b2, _⟩ := br_bool Tryz.underlying4 f2
    obtain ⟨t, b3, _⟩ := br_int Tryz.underlying2 f3
    exact ⟨⟨a, f, u, t⟩, b0.1, b1.1, b2.1, b3.1, trivial⟩

/-- A subject; it is right where no slice is longer than memory. -/
theorem read_sj : ∀ (n : Nat) {cs : List Value} {x : DataW H × List MemPlace}, Trd enc w n 54 cs x → ∃ t : Sj, BrL w cs t.cells ∧ ((∀ n ∈ DataW.weights Tryz.prog 54 x.1, n ≤ reachBytes) → t.ok) := by
  intro n
  induction n using Nat.strongRecOn with
  | _ n ih =>
    intro cs x h
    obtain ⟨xs, m, rfl, rfl, hl, hx, hf⟩ := DataW.trod_struct Tryz.underlying54 h
    rw [cells54] at hl
    match xs, hx, cs, hl with
    | [y0, y1, y2, y3, y4], _, [c0, c1, c2, c3, c4, c5], _ =>
      have f0 := hf 0 (fld "Kind" 5 0 0) rfl
      have f1 := hf 1 (fld "Key" 50 1 8) rfl
      have f2 := hf 2 (fld "Names" 51 3 40) rfl
      have f3 := hf 3 (fld "K" 3 4 64) rfl
      have f4 := hf 4 (fld "Kids" 52 5 72) rfl
      simp only [fld, cells5, cells50, cells51, cells3, cells52, List.drop_zero, List.take_succ_cons, List.take_zero, List.drop_succ_cons, List.getElem?_cons_zero, List.getElem?_cons_succ, List.take_nil] at f0 f1 f2 f3 f4
      obtain ⟨kind, b0, _⟩ := br_u8 Tryz.underlying5 f0
      obtain ⟨sum, kd, b1⟩ := read_key f1
      obtain ⟨names, b2, _, n2⟩ := br_slice Tryz.underlying51 cells24 nmC_len (R := fun _ _ => True) f2 (fun m' cs' y hm hy => by
        obtain ⟨l, h1, _⟩ := read_bytes hy
        exact ⟨l, h1, trivial⟩)
      obtain ⟨k, b3, _⟩ := br_int Tryz.underlying3 f3
      obtain ⟨kids, b4, _, k2⟩ := br_slice Tryz.underlying52 cells54 sj_len (R := fun (a : Sj) d => ((∀ n ∈ DataW.weights Tryz.prog 54 d, n ≤ reachBytes) → a.ok)) f4 (fun m' cs' y hm hy => by
        obtain ⟨t, h1, h2⟩ := ih m' (by omega) hy
        exact ⟨t, h1, h2⟩)
      refine ⟨.mk kind sum kd names k kids, ?_, fun hw => ?_⟩
      · rw [sj_mk]
        exact ⟨b0.1, b1.1, b1.2.1, b2.1, b3.1, b4.1, trivial⟩
      · have hw' : ∀ n ∈ DataW.weightsEach Tryz.prog [5, 50, 51, 3, 52] [y0.1, y1.1, y2.1, y3.1, y4.1], n ≤ reachBytes := fun n hn => hw n (by
          rw [DataW.weights, Tryz.underlying54]
          exact hn)
        simp only [DataW.weightsEach, List.mem_append] at hw'
        have b24 : Tryz.prog.bytesOf 24 = 24 := by kernel_rfl
        have b54 : Tryz.prog.bytesOf 54 = 96 := by kernel_rfl
        obtain ⟨l1, _⟩ := list_ok Tryz.underlying51 (by rw [b24]; decide) n2 (fun n hn => hw' n (.inr (.inr (.inl hn))))
        obtain ⟨l2, l3⟩ := list_ok Tryz.underlying52 (by rw [b54]; decide) k2 (fun n hn => hw' n (.inr (.inr (.inr (.inr (.inl hn))))))
        refine .mk l1 l2 fun a ha => ?_
        obtain ⟨d, h1, h2⟩ := l3 a ha
        exact h1 h2

/-- An entry. -/
theorem read_en {n : Nat} {cs : List Value} {x : DataW H × List MemPlace} (h : Trd enc w n 66 cs x) : ∃ t : En, BrL w cs t.cells ∧ ((∀ n ∈ DataW.weights Tryz.prog 66 x.1, n ≤ reachBytes) → t.ok) := by
  obtain ⟨xs, m, rfl, rfl, hl, hx, hf⟩ := DataW.trod_struct Tryz.underlying66 h
  rw [cells66] at hl
  match xs, hx, cs, hl with
  | [y0, y1, y2, y3], _, [c0, c1, c2, c3, c4, c5, c6, c7, c8, c9, c10, c11, c12, c13, c14, c15, c16, c17, c18, c19, c20], _ =>
    have f0 := hf 0 (fld "Subject" 54 0 0) rfl
    have f1 := hf 1 (fld "Delegate" 4 6 96) rfl
    have f2 := hf 2 (fld "Tag" 34 7 104) rfl
    have f3 := hf 3 (fld "Window" 56 17 232) rfl
    simp only [fld, cells54, cells4, cells34, cells56, List.drop_zero, List.take_succ_cons, List.take_zero, List.drop_succ_cons, List.getElem?_cons_zero, List.getElem?_cons_succ, List.take_nil] at f0 f1 f2 f3
    obtain ⟨s, b0, o0⟩ := read_sj _ f0
    obtain ⟨d, b1, _⟩ := br_bool Tryz.underlying4 f1
    obtain ⟨t, b2, _, o2⟩ := read_tag _ f2
    obtain ⟨v, b3⟩ := read_wn f3
    refine ⟨⟨s, d, t, v⟩, brl_append b0 (us := _ :: _) (qs := _ :: _) ⟨b1.1, brl_append b2 b3⟩, fun hw => ?_⟩
    have hw' : ∀ n ∈ DataW.weightsEach Tryz.prog [54, 4, 34, 56] [y0.1, y1.1, y2.1, y3.1], n ≤ reachBytes := fun n hn => hw n (by
      rw [DataW.weights, Tryz.underlying66]
      exact hn)
    simp only [DataW.weightsEach, List.mem_append] at hw'
    exact ⟨o0 fun n hn => hw' n (.inl hn), o2 fun n hn => hw' n (.inr (.inr (.inl hn)))⟩

/-- A list of entries as an argument. -/
theorem arg_acl {W : World} {base : Nat} {v : Value} {d : DataW H} {ps : List MemPlace} (hv : Value.okWide Tryz.prog W .any base 62 v) (h : DataW.Trod enc Tryz.prog W 0 (fun _ => true) true 62 v d ps) :
    ∃ l : List En, RepD W ⟨W.heap.size, [], [], oldI W⟩ [] v (.c (.sl l.length (l.flatMap En.cells))) ∧ ((∀ n ∈ DataW.weights Tryz.prog 62 d, n ≤ reachBytes) → l.length < 2 ^ 62 ∧ ∀ x ∈ l, x.ok) := by
  obtain ⟨n, hn⟩ := h
  obtain ⟨l, h1, _, k2⟩ := br_slice Tryz.underlying62 cells66 en_len (R := fun (a : En) d => ((∀ n ∈ DataW.weights Tryz.prog 66 d, n ≤ reachBytes) → a.ok)) hn (fun m' cs' y hm hy => by
    obtain ⟨t, h1, h2⟩ := read_en hy
    exact ⟨t, h1, h2⟩)
  obtain ⟨a, len, cap, rfl⟩ := okWide_slice Tryz.underlying62 hv
  have hr := h1.rep (g := ⟨W.heap.size, [], [], oldI W⟩) (T := []) rfl
  exact ⟨l, hr.2 0 (by simp), fun hw => by
    obtain ⟨l1, l2⟩ := list_ok Tryz.underlying62 (by rw [show Tryz.prog.bytesOf 66 = 264 by kernel_rfl]; decide) k2 hw
    exact ⟨l1, fun x hx => by obtain ⟨d, h3, h4⟩ := l2 x hx; exact h3 h4⟩⟩
end
end Go.Proofs.YthglfhnlolefhaaGreatDoor

end
section
/- Own: the closed facts that all rows share. -/
set_option maxRecDepth 100000
set_option linter.unusedVariables false
namespace Go.Proofs.YthglfhnlolefhaaGreatDoor
open Go
theorem and_mk {a b : Bool} (ha : a = true) (hb : b = true) : (a && b) = true := by rw [ha, hb]; rfl
theorem fact_1 : (laidOutB Tryz.prog) = true := by kernel_rfl
theorem fact_2 : (mapsRowed Tryz.prog) = true := by kernel_rfl
theorem fact_6 : (Tryz.prog.stops == []) = true := by kernel_rfl
theorem fact_8 : (Tryz.prog.stopKnobs == []) = true := by kernel_rfl
theorem fact_24 : (Tryz.prog.stopsHeard) = true := by kernel_rfl
theorem fact_25 : (Tryz.prog.mayEnter) = true := by kernel_rfl
end Go.Proofs.YthglfhnlolefhaaGreatDoor

end
section
/- Own: the row's closed facts, one by one. -/
set_option maxRecDepth 100000
set_option linter.unusedVariables false
namespace Go.Proofs.YthglfhnlolefhaaGreatDoor
open Go
theorem aclSame_fact0 : (Rows.aclSameRow.wf (OpenSpec.ofChange Rows.aclSameSpec)) = true := by kernel_rfl
theorem aclSame_fact3 : (Tryz.f13.params.all (Tryz.prog.readableRec ·)) = true := by kernel_rfl
theorem aclSame_fact4 : (namedTie Tryz.prog Rows.aclSameRow.named (Rows.aclSameSpec).vars) = true := by kernel_rfl
theorem aclSame_fact5 : (Rows.aclSameRow.stops == []) = true := by kernel_rfl
theorem aclSame_fact7 : (Rows.aclSameRow.knobs == []) = true := by kernel_rfl
theorem aclSame_fact9 : (Rows.aclSameRow.inPlace == Tryz.prog.inPlace 13) = true := by kernel_rfl
theorem aclSame_fact10 : (Rows.aclSameRow.unfollowed == Tryz.prog.unfollowed 13) = true := by kernel_rfl
theorem aclSame_fact11 : (Rows.aclSameRow.recurses == Tryz.prog.recurses 13) = true := by kernel_rfl
theorem aclSame_fact12 : (Rows.aclSameRow.named == Tryz.prog.varsNamed 13) = true := by kernel_rfl
theorem aclSame_fact13 : (Rows.aclSameRow.maps == (Tryz.f13.params.toList ++ (Rows.aclSameSpec).plain.varTypes Tryz.prog).any (Tryz.prog.mapsRec ·)) = true := by kernel_rfl
theorem aclSame_fact14 : (Rows.aclSameRow.ifaces == (Tryz.f13.params.toList ++ (Rows.aclSameSpec).plain.varTypes Tryz.prog).any (Tryz.prog.ifacesRec ·)) = true := by kernel_rfl
theorem aclSame_fact15 : (Rows.aclSameRow.mapsOut == Tryz.prog.mapsAmong Tryz.f13.resultTypes.toList) = true := by kernel_rfl
theorem aclSame_fact16 : (Rows.aclSameRow.loops == (Tryz.f13.params.toList ++ (Rows.aclSameSpec).plain.varTypes Tryz.prog).any (Tryz.prog.loopsFrom ·)) = true := by kernel_rfl
theorem aclSame_fact17 : (Rows.aclSameRow.wideKeys == (Tryz.f13.params.toList ++ (Rows.aclSameSpec).plain.varTypes Tryz.prog ++ Tryz.f13.resultTypes.toList).any (Tryz.prog.wideKeysFrom ·)) = true := by kernel_rfl
theorem aclSame_fact18 : ((Rows.aclSameSpec).vars.all (Tryz.prog.varReadable ·)) = true := by kernel_rfl
theorem aclSame_fact19 : (Tryz.f13.resultTypes.all (fun t => Tryz.prog.readableRec t && decide (t < Tryz.prog.types.size))) = true := by kernel_rfl
theorem aclSame_fact20 : (Rows.aclSameRow.ifacesOut == Tryz.f13.resultTypes.toList.any (Tryz.prog.ifacesRec ·)) = true := by kernel_rfl
theorem aclSame_fact21 : (Rows.aclSameRow.loopsOut == Tryz.f13.resultTypes.toList.any (Tryz.prog.loopsFrom ·)) = true := by kernel_rfl
theorem aclSame_fact22 : (Rows.aclSameRow.plainKeys == Tryz.prog.plainKeys) = true := by kernel_rfl
theorem aclSame_fact23 : (Rows.aclSameRow.shortTexts.isNone) = true := by kernel_rfl
theorem aclSame_fact26 : (Rows.aclSameRow.lifted == Tryz.prog.liftsFinal) = true := by kernel_rfl
theorem aclSame_fact27 : (Tryz.prog.make == some Rows.aclSameRow.make) = true := by kernel_rfl
theorem aclSame_fact28 : (Rows.aclSameRow.kinds == (if Rows.aclSameRow.domain.isEmpty then [] else Tryz.f13.params.toList.map fun t => match Tryz.prog.underlying t with | some (.int k) => some k | _ => none)) = true := by kernel_rfl
theorem aclSame_fact29 : (Rows.aclSameRow.pinned == Rows.aclSameRow.pinnedBy) = true := by kernel_rfl
theorem aclSame_fact30 : (Rows.aclSameRow.veiled == (Tryz.f13.params.toList ++ (Rows.aclSameSpec).plain.varTypes Tryz.prog ++ Tryz.f13.resultTypes.toList).any (Tryz.prog.veiledRec ·)) = true := by kernel_rfl
theorem aclSame_fact31 : (Rows.aclSameRow.veiledFits Tryz.prog Tryz.f13.params.toList (Tryz.f13.params.toList ++ (Rows.aclSameSpec).plain.varTypes Tryz.prog ++ Tryz.f13.resultTypes.toList)) = true := by kernel_rfl
theorem aclSame_facts : joinedFacts Tryz.pinned.checked.prog 13 Tryz.f13 (Rows.aclSameSpec) Rows.aclSameRow = true := by
  unfold joinedFacts
  exact and_mk (and_mk (and_mk (and_mk (and_mk (and_mk (and_mk (and_mk (and_mk (and_mk (and_mk (and_mk (and_mk (and_mk (and_mk (and_mk (and_mk (and_mk (and_mk (and_mk (and_mk (and_mk (and_mk (and_mk (and_mk (and_mk (and_mk (and_mk (and_mk (and_mk (and_mk aclSame_fact0 fact_1) fact_2) aclSame_fact3) aclSame_fact4) aclSame_fact5) fact_6) aclSame_fact7) fact_8) aclSame_fact9) aclSame_fact10) aclSame_fact11) aclSame_fact12) aclSame_fact13) aclSame_fact14) aclSame_fact15) aclSame_fact16) aclSame_fact17) aclSame_fact18) aclSame_fact19) aclSame_fact20) aclSame_fact21) aclSame_fact22) aclSame_fact23) fact_24) fact_25) aclSame_fact26) aclSame_fact27) aclSame_fact28) aclSame_fact29) aclSame_fact30) aclSame_fact31
end Go.Proofs.YthglfhnlolefhaaGreatDoor

end
section
/- greffierlaw20.AclSame holds: whether any two lists of entries are the same is the document's. No condition of our own. -/
set_option maxRecDepth 100000
set_option linter.unusedVariables false
namespace Go.Proofs.YthglfhnlolefhaaGreatDoor
open Go.ChangeShapes Go.WideShapes Go.ChangeAt Go.RowKit Go.Abs

theorem awake20 : callV orcB F 37 [] = some (.ret (boD true)) := callV_table tableB (callV_map (n := 60) (by kernel_rfl))

/-- WHAT THE RUN GIVES, for every argument. -/
theorem aclSame_contract (H : Type) (enc : TypeId × Value → H) (W : World) (base : Nat) (args : Array Value) (ds gs : List (DataW H)) (before : List MemPlace)
    (hval : ∀ (j : Nat) t v, Tryz.f13.params[j]? = some t → args[j]? = some v → Value.okWide Tryz.prog W .any base t v)
    (hW : DataW.Whole enc Tryz.prog Tryz.f13.params.toList Rows.aclSameSpec.vars false W args.toList ds gs before) (hz : ∀ n ∈ DataW.weightsEach Tryz.prog Tryz.f13.params.toList ds, n ≤ reachBytes) :
    Calls Tryz.prog 13 args W fun e W' => ∃ v, e = .returned v ∧ Rows.aclSameSpec.post enc Tryz.prog Tryz.f13 false true false false W args v W' := by
  have hW' := hW
  obtain ⟨p, q, hA0, hV, rfl, hfz, hnd⟩ := hW
  have hA : DataW.TrodAll enc Tryz.prog W 0 (fun _ => true) true Tryz.f13.params.toList args.toList ds p := hA0
  rw [Tryz.params13] at hA hval hz
  obtain ⟨v0, vs0, d0, ds0, p0, q0, hargs, rfl, rfl, h0, r0⟩ := trodAll_cons hA
  obtain ⟨v1, vs1, d1, ds1, p1, q1, hargs1, rfl, rfl, h1, r1⟩ := trodAll_cons r0
  obtain ⟨rfl, rfl, rfl⟩ := trodAll_nil r1
  subst hargs1
  obtain rfl : args = #[v0, v1] := by cases args; simp_all
  obtain ⟨rfl, rfl⟩ := trodVars_none hV
  obtain ⟨a, ra, oa⟩ := arg_acl (hval 0 62 v0 rfl rfl) h0
  obtain ⟨b, rb, ob⟩ := arg_acl (hval 1 62 v1 rfl rfl) h1
  obtain ⟨la, ha⟩ := oa fun n hn => hz n (by show n ∈ DataW.weightsEach _ [62, 62] [d0, d1]; simp only [DataW.weightsEach, List.mem_append]; exact .inl hn)
  obtain ⟨lb, hb⟩ := ob fun n hn => hz n (by show n ∈ DataW.weightsEach _ [62, 62] [d0, d1]; simp only [DataW.weightsEach, List.mem_append]; exact .inr (.inl hn))
  have hrun := law_ok orcB_ok mixed (run13 awake20 a b ha hb la lb) (w := W) (I := oldI W) (fun b o h => h) (cargs := #[v0, v1]) ⟨rfl, fun i hi => by
    match i, hi with
    | 0, _ => exact ra
    | 1, _ => exact rb⟩
  clear hA0
  simp only [List.append_nil] at hW'
  refine hrun.mono fun e W' ⟨he, hbl⟩ => ?_
  subst he
  have hlt := fun p hp => hW'.lt p hp
  exact ⟨_, rfl, post_below hW' hbl (fun _ _ _ => trodAll_cons_mk (shut_bool Tryz.underlying4 _) trodAll_mk0)
    (fun sp hs => trodAll_mk2 (reads_on (by kernel_rfl) (by decide +kernel) h0 hbl (fun x hx => hlt x (by simp [hx])) sp (fun x hx => hs x (by simp [hx]))) (reads_on (by kernel_rfl) (by decide +kernel) h1 hbl (fun x hx => hlt x (by simp [hx])) sp (fun x hx => hs x (by simp [hx]))))
    rfl rfl (ok_one (by kernel_rfl) rfl (okWide_bool_mk Tryz.underlying4 _))⟩

/-! ### the row -/
theorem aclSame_reads (os : Os) {H : Type} (enc : TypeId × Value → H) : ∃ places, DataW.whole enc Tryz.prog ((laidWorld os).forCall (fun _ _ => 0) ⟨#[], #[.slice none 0 0, .slice none 0 0], []⟩).memory Tryz.f13.params.toList Rows.aclSameSpec.vars false (#[.slice none 0 0, .slice none 0 0] : Array Value).toList 8 = some ([.nil, .nil], [], places) :=
  ⟨[], by kernel_rfl⟩

theorem aclSame_lifted (os : Os) (started : os.Started) (H : Type) (enc : TypeId × Value → H) (F : Stop.Interp) :
    ReturnsInHanded {} Tryz.checked os 13 .any ((OpenSpec.ofChange Rows.aclSameSpec).preRow enc Tryz.prog Tryz.f13 Rows.aclSameRow.domain false Rows.aclSameRow.laid) (((OpenSpec.ofChange Rows.aclSameSpec).at F).post enc Tryz.prog Tryz.f13 false true false false) := by
  obtain ⟨places, hx⟩ := aclSame_reads os enc
  refine returnsInHanded_of_row (C := Tryz.checked) (s := OpenSpec.ofChange Rows.aclSameSpec) own started (by kernel_rfl) Tryz.func13
    (witness_row_at (enc := enc) (C := Tryz.checked) false (laidWorld os) #[.slice none 0 0, .slice none 0 0] rfl (by kernel_rfl) (by kernel_rfl) (by kernel_rfl)
      (OpenSpec.preRow_of_cond 8 hx (by kernel_rfl) (fun k hk => by cases hk) (by kernel_rfl) (laid_all os _))) ?_
  intro W base args ds gs before hval hW _ _ hz hL _ _
  refine aclSame_contract H enc W base args ds gs before hval hW fun n hn => ?_
  have hz2 := List.all_eq_true.1 hz n (by
    rw [show gs = [] by obtain ⟨_, _, _, hV, _⟩ := hW; exact (trodVars_none hV).1, List.append_nil]
    exact hn)
  simpa using hz2

theorem aclSame_named : Tryz.pinned.checked.prog.funcNamed Rows.aclSameRow.func = some 13 := by kernel_rfl
theorem aclSame_said : Rows.AclSameSaid :=
  OpenClaim.holds_of_cond 13 Tryz.f13 rfl rfl rfl rfl rfl rfl rfl ⟨rfl, rfl, rfl, rfl, rfl⟩ rfl rfl rfl rfl rfl aclSame_named Tryz.func13 aclSame_facts
    (of_decide_eq_true (by kernel_rfl)) (by unfold Func.isWrapper; first | (rw [if_pos (by decide +kernel)]; kernel_rfl) | (rw [if_neg (by decide +kernel)]; exact ⟨rfl, rfl⟩))
    (fun os started H enc _ F => by rw [OpenClaim.pre_eq_preRow]; exact aclSame_lifted os started H enc F)

theorem aclSame_plain (f : FuncId) (fn : Func) (hf : Tryz.pinned.checked.prog.funcNamed Rows.aclSameRow.func = some f) (hfn : Tryz.pinned.checked.prog.funcs[f]? = some fn) :
    true = Tryz.pinned.checked.prog.looks [] ∧ ∀ (j : Nat) t, fn.params[j]? = some t → Tryz.pinned.checked.prog.wantsStandIn t = false := by
  obtain rfl : f = 13 := Option.some.inj (aclSame_named.symm.trans hf) |>.symm
  obtain rfl : fn = Tryz.f13 := (Option.some.inj (Tryz.func13.symm.trans hfn)).symm
  refine ⟨by kernel_rfl, fun j t ht => ?_⟩
  rw [Tryz.params13] at ht
  obtain rfl : t = 62 := by simpa using Array.mem_of_getElem? ht
  exact (show Tryz.prog.wantsStandIn 62 = false by kernel_rfl)

theorem aclSame_holds : Rows.AclSameCardSaid :=
  Claim7.holds_tied_plain_at .later [] _ _ _ _ aclSame_said (fun _ h => by cases h) (by kernel_rfl) (fun _ h => by cases h) aclSame_row_tie rfl ⟨rfl, rfl⟩ (by kernel_rfl) rfl aclSame_plain (by kernel_rfl)
end Go.Proofs.YthglfhnlolefhaaGreatDoor

end
