/- Own: what is taken from a table: slices.Clone, bytes.Clone, sexp.List. -/
import Derived.Test.YthglfhnlolefhaaGreatDoorAbsRaw
import Derived.Test.YthglfhnlolefhaaGreatDoorAbsLoop
import Derived.Test.YthglfhnlolefhaaGreatDoorCodeOrc
set_option maxRecDepth 100000
set_option linter.unusedSimpArgs false
set_option linter.unusedVariables false
namespace Go.Proofs.YthglfhnlolefhaaGreatDoor
open Go.Abs
open Go.RowKit (Below)
noncomputable abbrev F := trFn Tryz.prog
theorem mixed : Tryz.prog.follows .mixedOrders = true := by kernel_rfl
def orcN : Orc := fun _ => none
theorem orcN_ok : OrcOk Tryz.prog orcN := fun f h hf => by simp [orcN] at hf

/-! ### clones -/
theorem clone104 (n : Nat) (cs : List Go.Abs.P) (hn : n ≠ 0) (hl : cs.length = n * 5) (h1 : n * 80 ≤ room) (h2 : n ≤ room) (V : List VO) (T : List Nat) :
    Ex orcN F c104.body ⟨initE [.c (.sl n cs)], V, T⟩ (rawQ c104.res [.ow T.length 0 n cs] V (T ++ [0])) := by
  simp only [c104, orcN, hn, hl, h1, h2, Nat.zero_add, Nat.zero_mul, DrwE_nil, DrwE_plain, DrwE_guard, GdE_true, GdE_false, DcE_q, DcE_push, DcE_rd, drdE, dcallE, Ex_seq, Ex_reg, Ex_ret, Ex_skip, Ex_exit, Ex_block, Ex_cond', condE_true, condE_false, loopQ_nrm, loopQ_ret, loopQ_ext, blockQ_nrm, blockQ_ret, blockQ_ext, OpsE_plain, OpsE_guard, OpsE_nil, GuE_true, GuE_false, guardD, act, callA, ev, upd, putE, AcE_q, AcE_push, AcE_rd', AcE_wr', rdE, wrE, initE, thenQ_nrm, thenQ_ret, thenQ_ext, retQ, qo_s, convD, D.slc, unBytes_bytesP, bytesP_length, binD, scD, blD, scBin, blBin, strBin, intBin, ressD, mapO, resD, D.frz, frzL, frz_cells, D.closed, closedL, closed_cells, mkV_true, gt0, gtk, st0, stk, List.append_assoc, List.length_append, D.fits, D.cells, partD, mkV_false, setAt, iadD, asI, List.map_cons, List.map_nil, List.getElem?_cons_zero, List.getElem?_cons_succ, List.getElem?_nil, List.length_cons, List.length_nil, List.drop_succ_cons, List.drop_zero, List.take_succ_cons, List.take_zero, List.nil_append, List.cons_append, List.set_cons_zero, List.set_cons_succ, Nat.reduceAdd, Nat.reduceLeDiff, Nat.reduceEqDiff, Nat.reduceBEq, beq_iff_eq, reduceCtorEq, ↓reduceIte, Option.map_some, Option.some.injEq, Bool.true_and, Bool.false_and, Bool.and_true, Bool.and_self, Bool.and_false, Bool.or_self, Bool.false_eq_true, b_ff, b_ft, b_tf, b_tt, Bool.not_true, Bool.not_false, BEq.rfl, decide_true, decide_false, Nat.le_refl, callE, zD, snilD, inilD, tasD, fnilD, AcE_tp, AcE_tw, twE, DcE_tp, appD, appSrc, fillD, fillP, D.pcells, cellPure, thenQ_pan, blockQ_pan, loopQ_pan, cntQ_nrm, cntQ_ret, cntQ_ext, cntQ_pan, indQ_nrm, indQ_ret, indQ_ext, indQ_pan, resQ, panQ_pan, rawQ, unD, and_self, and_true, true_and, not_true_eq_false, not_false_eq_true]
theorem clone116 (n : Nat) (cs : List Go.Abs.P) (hn : n ≠ 0) (hl : cs.length = n) (h2 : n ≤ room) (V : List VO) (T : List Nat) :
    Ex orcN F c116.body ⟨initE [.c (.sl n cs)], V, T⟩ (rawQ c116.res [.ow T.length 0 n cs] V (T ++ [0])) := by
  simp only [c116, orcN, hn, hl, h2, Nat.zero_add, Nat.zero_mul, Nat.mul_one, DrwE_nil, DrwE_plain, DrwE_guard, GdE_true, GdE_false, DcE_q, DcE_push, DcE_rd, drdE, dcallE, Ex_seq, Ex_reg, Ex_ret, Ex_skip, Ex_exit, Ex_block, Ex_cond', condE_true, condE_false, loopQ_nrm, loopQ_ret, loopQ_ext, blockQ_nrm, blockQ_ret, blockQ_ext, OpsE_plain, OpsE_guard, OpsE_nil, GuE_true, GuE_false, guardD, act, callA, ev, upd, putE, AcE_q, AcE_push, AcE_rd', AcE_wr', rdE, wrE, initE, thenQ_nrm, thenQ_ret, thenQ_ext, retQ, qo_s, convD, D.slc, unBytes_bytesP, bytesP_length, binD, scD, blD, scBin, blBin, strBin, intBin, ressD, mapO, resD, D.frz, frzL, frz_cells, D.closed, closedL, closed_cells, mkV_true, gt0, gtk, st0, stk, List.append_assoc, List.length_append, D.fits, D.cells, partD, mkV_false, setAt, iadD, asI, List.map_cons, List.map_nil, List.getElem?_cons_zero, List.getElem?_cons_succ, List.getElem?_nil, List.length_cons, List.length_nil, List.drop_succ_cons, List.drop_zero, List.take_succ_cons, List.take_zero, List.nil_append, List.cons_append, List.set_cons_zero, List.set_cons_succ, Nat.reduceAdd, Nat.reduceLeDiff, Nat.reduceEqDiff, Nat.reduceBEq, beq_iff_eq, reduceCtorEq, ↓reduceIte, Option.map_some, Option.some.injEq, Bool.true_and, Bool.false_and, Bool.and_true, Bool.and_self, Bool.and_false, Bool.or_self, Bool.false_eq_true, b_ff, b_ft, b_tf, b_tt, Bool.not_true, Bool.not_false, BEq.rfl, decide_true, decide_false, Nat.le_refl, callE, zD, snilD, inilD, tasD, fnilD, AcE_tp, AcE_tw, twE, DcE_tp, appD, appSrc, fillD, fillP, D.pcells, cellPure, thenQ_pan, blockQ_pan, loopQ_pan, cntQ_nrm, cntQ_ret, cntQ_ext, cntQ_pan, indQ_nrm, indQ_ret, indQ_ext, indQ_pan, resQ, panQ_pan, rawQ, unD, and_self, and_true, true_and, not_true_eq_false, not_false_eq_true]

section
variable {w w' : World} {g : Gh} {V : List VO} {T : List Nat}
/-- An empty slice's clone: whichever way it goes. -/
theorem cloneE {f : FuncId} {fn : Func} {t t' et : TypeId} {i0 i1 i2 i3 : Nat} {o0 o1 o2 o3 : Oper} {os : Array Oper} {e2 sz by2 : Nat} (hfn : Tryz.prog.funcs[f]? = some fn) (hnt : fn.ntmps = 8) (hres : fn.results = #[.tmp 2])
    (hb : fn.body = some (.seq (.region i0 #[o0] false) (.seq (.seq (.region i1 #[o1, o2] false) (.cond (.tmp 4) (.seq (.region i2 #[o3] false) .ret) .skip)) (.seq (.region i3 os false) .ret))))
    (h0 : trCode Tryz.prog 8 (.region i0 #[o0] false) = some (.reg [⟨some 2, none, .mv (.k (.fs 0 []))⟩])) (h1 : trOper Tryz.prog #[o1, o2] 8 o1 = some ⟨some 3, none, .mv (.t 0)⟩)
    (hop : o2.op = .binOp .eql t (.tmp 3) (.const (.slice none 0 0)) t') (hg : o2.guard = none) (hd : o2.dst = some 4) (ht : Tryz.prog.underlying t = some (.slice et))
    (h3 : trCode Tryz.prog 8 (.seq (.region i2 #[o3] false) .ret) = some (.seq (.reg [⟨some 2, none, .mv (.k (.fs 0 []))⟩]) .ret))
    (h4 : trCode Tryz.prog 8 (.seq (.region i3 os false) .ret) = some (.seq (.reg [⟨some 5, none, .bsl e2 0 [] []⟩, ⟨some 6, none, .mv (.t 0)⟩, ⟨some 7, none, .app e2 sz by2 false (.t 5) (.t 6)⟩, ⟨some 2, none, .mv (.t 7)⟩]) .ret))
    {x : D} {cs : List Go.Abs.P} (hx : x.slc = some (0, cs)) {cargs : Array Value} (hS : Sim w g V T) (hR : RepL w g T cargs [x]) :
    Calls Tryz.prog f cargs w fun e w' => ∃ v, e = .returned v ∧ Got w g T w' v (.fs 0 []) V T := by
  refine calls_of_wp hfn hb ?_
  rw [hnt]
  have hL : Lay [] 8 w g T ⟨initE [x], V, T⟩ { tmps := cargs ++ Array.replicate (8 - cargs.size) undef, defers := [] } w :=
    ⟨g, Ext.refl _ _ _, hS, initE_ok hR _, by simp; omega, rfl, Below.refl _ _⟩
  have ex := fun n => (exec_ok (agOk Tryz.prog) orcN_ok mixed n).1
  have fin : ∀ (s : St) a' w', s.e 2 = .fs 0 [] → s.V = V → s.T = T → Lay [] 8 w g T s a' w' → bodyPost Tryz.prog fn (fun e w' => ∃ v, e = .returned v ∧ Got w g T w' v (.fs 0 []) V T) .ret a' w' := fun s a' w' he hV hT hL' => by
    obtain ⟨k1, v, k2, k3⟩ := ress_raw (fn := fn) (rs := [.t 2]) (l := [.fs 0 []]) (by rw [hres]; rfl) (by simp [mapO, resD, he]) hL'
    rw [hV, hT] at k3
    exact ⟨k1, v, k2, v, rfl, k3⟩
  refine wp_seq (ex 1 _ _ _ _ _ _ _ _ _ _ _ _ h0 hL rfl ?_)
  intro a1 w1 hL1
  refine wp_seq (wp_seq (wp_region ?_))
  simp only [show List.range #[o1, o2].size = [0, 1] from rfl, wpOps_cons]
  refine oper_ok (agOk Tryz.prog) (callN_ok orcN_ok mixed 0) orcN_ok rfl h1 hL1 (fun hb => by simp [guardD] at hb) (by simp [guardD]) (fun _ => ⟨_, _, _, rfl, rfl, ?_⟩)
  intro a2 w2 hL2
  refine oper_snil (ops := #[o1, o2]) (o := o2) (i := 1) (x' := .t 3) (cs := cs) rfl hop hg hd (by omega) ht rfl hL2 (by simpa [ev, putE, upd, initE] using hx) ?_
  intro b a3 w3 hL3
  simp only [wpOps]
  obtain ⟨g3, q1, q2, q3, q4⟩ := id hL3
  have hb4 : a3.eval (.tmp 4) = .bool b := rep_sc (opd_rep (a := a3) (x := .tmp 4) (y := .t 4) q3 rfl)
  refine wp_cond hb4 ?_
  cases b with
  | true =>
    refine ex 1 _ _ _ _ _ _ _ _ _ _ _ _ h3 hL3 rfl ?_
    intro a4 w4 hL4
    exact fin _ a4 w4 rfl rfl rfl hL4
  | false =>
    refine wp_skip ?_
    have hE : ∀ s : St, s.e 0 = x → s.V = V → s.T = T → Ex orcN F (.seq (.reg [⟨some 5, none, .bsl e2 0 [] []⟩, ⟨some 6, none, .mv (.t 0)⟩, ⟨some 7, none, .app e2 sz by2 false (.t 5) (.t 6)⟩, ⟨some 2, none, .mv (.t 7)⟩]) .ret) s (rawQ [.t 2] [.fs 0 []] V T) := fun s h0 hV hT => by
      simp only [Ex_seq, Ex_reg, OpsE_plain, OpsE_nil, act, fillP, ev, putE, upd, AcE_q, Option.map_some, Nat.reduceEqDiff, ↓reduceIte, h0, appD, appSrc, hx, thenQ_nrm, Ex_ret, rawQ, mapO, resD, hV, hT, and_self]
    have key : ∀ s, Lay [] 8 w g T s a3 w3 → s.e 0 = x → s.V = V → s.T = T → Code.wp Tryz.prog (.seq (.region i3 os false) .ret) (bodyPost Tryz.prog fn fun e w' => ∃ v, e = .returned v ∧ Got w g T w' v (.fs 0 []) V T) a3 w3 := fun s hL3 q1 q2 q3 => by
     obtain ⟨n, o, s', k1, k2⟩ := hE s q1 q2 q3
     refine ex n _ _ _ _ _ _ _ _ _ _ _ _ h4 hL3 k1 ?_
     cases o with
     | ret =>
       obtain ⟨m1, m2, m3⟩ := k2
       exact fun a4 w4 hL4 => fin _ a4 w4 (by simpa [mapO, resD] using m1) m2 m3 hL4
     | nrm =>
       obtain ⟨m1, m2, m3⟩ := k2
       exact fun a4 w4 hL4 => fin _ a4 w4 (by simpa [mapO, resD] using m1) m2 m3 hL4
     | ext i => exact k2.elim
     | pan d => exact k2.elim
    exact key _ hL3 (by simp [upd, putE, initE]) rfl rfl
end
end Go.Proofs.YthglfhnlolefhaaGreatDoor
