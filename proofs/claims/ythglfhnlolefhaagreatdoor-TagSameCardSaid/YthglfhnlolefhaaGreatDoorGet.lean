/- Own: tag.Get: what it does, panics caught, out of what tag.get does. -/
import Derived.Test.YthglfhnlolefhaaGreatDoorOrc2
import Derived.Test.YthglfhnlolefhaaGreatDoorCodeGet
import Derived.Recover
set_option maxRecDepth 100000
set_option linter.unusedSimpArgs false
set_option linter.unusedVariables false
namespace Go.Proofs.YthglfhnlolefhaaGreatDoor
open Go.Abs
open Go.RowKit (Below)

/-- The zero Tag's cells. -/
abbrev zTag : List Go.Abs.P := [.v (.int .u8 0), .sl 0 [], .sl 0 [], .v (.int .u8 0), .v (.bool false), .v (.bool false), .sl 0 [], .v (.bool false), .v (.bool false), .sl 0 []]
def l20a : List AOper := [⟨(some 1), none, (.box 27 5 (.t 0))⟩, ⟨(some 2), none, (.alloc 34 zTag)⟩, ⟨(some 3), none, (.alloc 37 [(.v (.int .i64 0))])⟩]
def l20c : List AOper := [⟨(some 5), none, (.load true 5 (.t 1))⟩, ⟨(some 6), none, (.call 61 [(.t 5)])⟩, ⟨(some 7), none, (.call 60 [(.t 6)])⟩]
def l20d : List AOper := [⟨(some 8), none, (.load true 5 (.t 1))⟩, ⟨(some 9), none, (.call 62 [(.t 8)])⟩, ⟨none, none, (.store 10 (.t 2) (.t 9))⟩, ⟨none, none, (.store 1 (.t 3) (.k (.c (.v (.int .i64 0)))))⟩]
def g59b : ACode := (.reg [⟨(some 6), none, (.mv (.t 2))⟩, ⟨(some 7), none, (.inil true (.t 6))⟩])
def g59c : ACode := (.cond (.t 7) (.seq (.seq (.reg [⟨(some 9), none, (.mv (.t 2))⟩, ⟨(some 10), none, (.tas 86 (.t 9))⟩, ⟨(some 8), none, (.mv (.t 10))⟩, ⟨(some 11), none, (.ext (.t 8) 0)⟩, ⟨(some 12), none, (.ext (.t 8) 1)⟩, ⟨(some 3), none, (.alloc 86 [])⟩, ⟨none, none, (.store 0 (.t 3) (.t 11))⟩, ⟨(some 4), none, (.mv (.t 12))⟩]) (.seq (.reg [⟨(some 13), none, (.mv (.t 4))⟩, ⟨(some 14), none, (.un .not (.t 13))⟩]) (.cond (.t 14) (.reg [⟨(some 15), none, (.mv (.t 2))⟩, ⟨none, none, (.panic (.t 15))⟩]) .skip))) (.reg [⟨(some 16), none, (.build zTag [])⟩, ⟨none, none, (.store 10 (.t 0) (.t 16))⟩, ⟨none, none, (.store 1 (.t 1) (.k (.c (.v (.int .i64 13)))))⟩])) .skip)

/-- Behind the closure, where nothing was thrown. -/
theorem run59r (v0 v1 v2 : VO) (e : Env) (h2 : e 2 = .c (.v .nilIface)) : Ex orcA F (.seq g59b g59c) ⟨e, [v0, v1, v2], []⟩ (fun o s => o = .nrm ∧ s.V = [v0, v1, v2] ∧ s.T = []) := by
  simp only [g59b, g59c, h2, DrwE_nil, DrwE_plain, DrwE_guard, GdE_true, GdE_false, DcE_q, DcE_push, DcE_rd, drdE, dcallE, Ex_seq, Ex_reg, Ex_ret, Ex_skip, Ex_exit, Ex_block, Ex_cond', condE_true, condE_false, loopQ_nrm, loopQ_ret, loopQ_ext, blockQ_nrm, blockQ_ret, blockQ_ext, OpsE_plain, OpsE_guard, OpsE_nil, GuE_true, GuE_false, guardD, act, callA, ev, upd, putE, AcE_q, AcE_push, AcE_rd', AcE_wr', rdE, wrE, initE, thenQ_nrm, thenQ_ret, thenQ_ext, retQ, qo_s, convD, D.slc, unBytes_bytesP, bytesP_length, binD, scD, blD, scBin, blBin, strBin, intBin, ressD, mapO, resD, D.frz, frzL, frz_cells, D.closed, closedL, closed_cells, mkV_true, gt0, gtk, st0, stk, List.append_assoc, List.length_append, D.fits, D.cells, partD, mkV_false, setAt, iadD, asI, List.map_cons, List.map_nil, List.getElem?_cons_zero, List.getElem?_cons_succ, List.getElem?_nil, List.length_cons, List.length_nil, List.drop_succ_cons, List.drop_zero, List.take_succ_cons, List.take_zero, List.nil_append, List.cons_append, List.set_cons_zero, List.set_cons_succ, Nat.reduceAdd, Nat.reduceLeDiff, Nat.reduceEqDiff, Nat.reduceBEq, beq_iff_eq, reduceCtorEq, ↓reduceIte, Option.map_some, Option.some.injEq, Bool.true_and, Bool.false_and, Bool.and_true, Bool.and_self, Bool.and_false, Bool.or_self, Bool.false_eq_true, b_ff, b_ft, b_tf, b_tt, Bool.not_true, Bool.not_false, BEq.rfl, decide_true, decide_false, Nat.le_refl, callE, zD, snilD, inilD, tasD, fnilD, AcE_tp, AcE_tw, twE, DcE_tp, appD, appSrc, fillD, fillP, D.pcells, cellPure, thenQ_pan, blockQ_pan, loopQ_pan, cntQ_nrm, cntQ_ret, cntQ_ext, cntQ_pan, indQ_nrm, indQ_ret, indQ_ext, indQ_pan, resQ, panQ_pan, rawQ, unD, and_self, and_true, true_and, not_true_eq_false, not_false_eq_true, Int.cast_ofNat_Int, Int.reduceLT, Int.reduceLE, Int.reduceBEq, Int.reduceToNat, Nat.reduceMul, Int.zero_le_ofNat, orcA]
theorem run59p (v0 : VO) (c1 : List D) (c2 : D) (hc : c1.length = 10) (e : Env) (h0 : e 0 = .mp 1 0) (h1 : e 1 = .mp 2 0) (h2 : e 2 = .ifc 86 (.ag [])) :
    Ex orcA F (.seq g59b g59c) ⟨e, [v0, ⟨34, false, false, c1⟩, ⟨37, false, false, [c2]⟩], []⟩ (fun o s => o = .nrm ∧ s.V = [v0, ⟨34, false, false, zTag.map zD⟩, ⟨37, false, false, [.c (.v (.int .i64 13))]⟩, ⟨86, false, false, []⟩] ∧ s.T = []) := by
  obtain ⟨a0, a1, a2, a3, a4, a5, a6, a7, a8, a9, rfl⟩ : ∃ a0 a1 a2 a3 a4 a5 a6 a7 a8 a9, c1 = [a0, a1, a2, a3, a4, a5, a6, a7, a8, a9] := by
    match c1, hc with
    | [a0, a1, a2, a3, a4, a5, a6, a7, a8, a9], _ => exact ⟨_, _, _, _, _, _, _, _, _, _, rfl⟩
  simp only [g59b, g59c, h0, h1, h2, DrwE_nil, DrwE_plain, DrwE_guard, GdE_true, GdE_false, DcE_q, DcE_push, DcE_rd, drdE, dcallE, Ex_seq, Ex_reg, Ex_ret, Ex_skip, Ex_exit, Ex_block, Ex_cond', condE_true, condE_false, loopQ_nrm, loopQ_ret, loopQ_ext, blockQ_nrm, blockQ_ret, blockQ_ext, OpsE_plain, OpsE_guard, OpsE_nil, GuE_true, GuE_false, guardD, act, callA, ev, upd, putE, AcE_q, AcE_push, AcE_rd', AcE_wr', rdE, wrE, initE, thenQ_nrm, thenQ_ret, thenQ_ext, retQ, qo_s, convD, D.slc, unBytes_bytesP, bytesP_length, binD, scD, blD, scBin, blBin, strBin, intBin, ressD, mapO, resD, D.frz, frzL, frz_cells, D.closed, closedL, closed_cells, mkV_true, gt0, gtk, st0, stk, List.append_assoc, List.length_append, D.fits, D.cells, partD, mkV_false, setAt, iadD, asI, List.map_cons, List.map_nil, List.getElem?_cons_zero, List.getElem?_cons_succ, List.getElem?_nil, List.length_cons, List.length_nil, List.drop_succ_cons, List.drop_zero, List.take_succ_cons, List.take_zero, List.nil_append, List.cons_append, List.set_cons_zero, List.set_cons_succ, Nat.reduceAdd, Nat.reduceLeDiff, Nat.reduceEqDiff, Nat.reduceBEq, beq_iff_eq, reduceCtorEq, ↓reduceIte, Option.map_some, Option.some.injEq, Bool.true_and, Bool.false_and, Bool.and_true, Bool.and_self, Bool.and_false, Bool.or_self, Bool.false_eq_true, b_ff, b_ft, b_tf, b_tt, Bool.not_true, Bool.not_false, BEq.rfl, decide_true, decide_false, Nat.le_refl, callE, zD, snilD, inilD, tasD, fnilD, AcE_tp, AcE_tw, twE, DcE_tp, appD, appSrc, fillD, fillP, D.pcells, cellPure, thenQ_pan, blockQ_pan, loopQ_pan, cntQ_nrm, cntQ_ret, cntQ_ext, cntQ_pan, indQ_nrm, indQ_ret, indQ_ext, indQ_pan, resQ, panQ_pan, rawQ, unD, and_self, and_true, true_and, not_true_eq_false, not_false_eq_true, Int.cast_ofNat_Int, Int.reduceLT, Int.reduceLE, Int.reduceBEq, Int.reduceToNat, Nat.reduceMul, Int.zero_le_ofNat, orcA]

theorem body59 : ∃ c1 c2, Tryz.f59.body = some (.seq (.region 0 #[{ dst := some 5, op := .call { callee := .builtin .recover, args := #[], argTypes := #[] }, type := 20, pos := "tag.go:192", after := #[], guard := none },
    { dst := some 2, op := .assign (.tmp 5), type := 20, pos := "tag.go:192", after := #[{ on := 0, ground := .data }, { on := 0, ground := .chain }, { on := 0, ground := .phase }], guard := none }] false) (.seq c1 c2)) ∧
    trCode Tryz.prog 17 (.seq c1 c2) = some (.seq g59b g59c) := ⟨_, _, rfl, by kernel_rfl⟩

theorem d59 {w : World} {g : Gh} {V V' : List VO} (hS : Sim w g V []) {p2 p3 : Value} (h2 : RepD w g [] p2 (.mp 1 0)) (h3 : RepD w g [] p3 (.mp 2 0)) {u u' : FrameMode} {xv : Value} {xd : D} (hx : RepD w g [] xv xd)
    (hrec : ∀ c₀ cs, c₀.mode = u → (recoverD (c₀ :: cs) = some (xv, { c₀ with mode := u' } :: cs)) ∨ (recoverD (c₀ :: cs) = none ∧ xv = .nilIface ∧ u' = u))
    (hrun : ∀ e : Env, e 0 = .mp 1 0 → e 1 = .mp 2 0 → e 2 = xd → Ex orcA F (.seq g59b g59c) ⟨e, V, []⟩ (fun o s => o = .nrm ∧ s.V = V' ∧ s.T = [])) :
    CallsD Tryz.prog 59 #[p2, p3] u w fun e u'' w' => e = .returned (.tuple #[]) ∧ u'' = u' ∧ ∃ g', Ext w g [] w' g' [] ∧ Sim w' g' V' [] ∧ Below g.B w w' := by
  obtain ⟨c1, c2, hb, ht⟩ := body59
  refine callsD_of_wpS Tryz.func59 hb fun c₀ cs hu => ?_
  refine wpS_seq (wpS_region ?_)
  have hr : List.range (#[({ dst := some 5, op := .call { callee := .builtin .recover, args := #[], argTypes := #[] }, type := 20, pos := "tag.go:192", after := #[], guard := none } : Oper),
    { dst := some 2, op := .assign (.tmp 5), type := 20, pos := "tag.go:192", after := #[{ on := 0, ground := .data }, { on := 0, ground := .chain }, { on := 0, ground := .phase }], guard := none }] : Array Oper).size = [0, 1] := rfl
  rw [hr]
  simp [wpOpsS, go_sem, Exit.thenS, Tryz.ntmps59]
  have key : ∀ (cs' : List Frame), cs' = { c₀ with mode := u' } :: cs → Code.wpS Tryz.prog (c1.seq c2)
      (bodyPostS Tryz.prog Tryz.f59 c₀ cs fun e u'' w' => e = Ending.returned (Value.tuple #[]) ∧ u'' = u' ∧ ∃ g', Ext w g [] w' g' [] ∧ Sim w' g' V' [] ∧ Below g.B w w')
      { tmps := #[p2, p3] ++ ((Array.replicate 15 undef).setIfInBounds 3 xv).setIfInBounds 0 xv, defers := [] } cs' w := by
    rintro cs' rfl
    refine wpS_of_wp ?_
    have hE : EnvOk w g [] (#[p2, p3] ++ ((Array.replicate 15 undef).setIfInBounds 3 xv).setIfInBounds 0 xv) (fun t => if t = 0 then .mp 1 0 else if t = 1 then .mp 2 0 else if t = 2 then xd else if t = 5 then xd else und) := by
      intro t
      rcases (by omega : t = 0 ∨ t = 1 ∨ t = 2 ∨ t = 5 ∨ (2 < t ∧ t ≠ 5)) with rfl | rfl | rfl | rfl | ⟨h4, h5⟩
      · simpa [Array.getD_eq_getD_getElem?] using h2
      · simpa [Array.getD_eq_getD_getElem?] using h3
      · simpa [Array.getD_eq_getD_getElem?, Array.getElem?_append, Array.getElem?_setIfInBounds] using hx
      · simpa [Array.getD_eq_getD_getElem?, Array.getElem?_append, Array.getElem?_setIfInBounds] using hx
      · have e1 : (#[p2, p3] ++ ((Array.replicate 15 undef).setIfInBounds 3 xv).setIfInBounds 0 xv).getD t undef = undef := by
          rw [Array.getD_eq_getD_getElem?, Array.getElem?_append_right (by simp; omega), Array.getElem?_setIfInBounds_ne (by simp; omega), Array.getElem?_setIfInBounds_ne (by simp; omega), Array.getElem?_replicate]
          split <;> rfl
        rw [e1]
        have n0 : t ≠ 0 := by omega
        have n1 : t ≠ 1 := by omega
        have n2 : t ≠ 2 := by omega
        simp only [n0, n1, n2, h5, if_false]
        exact und_rep
    have hL : Lay [] 17 w g [] ⟨fun t => if t = 0 then .mp 1 0 else if t = 1 then .mp 2 0 else if t = 2 then xd else if t = 5 then xd else und, V, []⟩ { tmps := #[p2, p3] ++ ((Array.replicate 15 undef).setIfInBounds 3 xv).setIfInBounds 0 xv, defers := [] } w :=
      ⟨g, Ext.refl _ _ _, hS, hE, by simp, rfl, Below.refl _ _⟩
    obtain ⟨n, o, s', k1, k2, k3, k4⟩ := hrun (fun t => if t = 0 then .mp 1 0 else if t = 1 then .mp 2 0 else if t = 2 then xd else if t = 5 then xd else und) rfl rfl rfl
    subst k2
    refine (exec_ok (agOk Tryz.prog) orcA_ok mixed n).1 [] 17 w g [] _ _ _ _ _ w _ ht hL k1 ?_
    intro a' w' hL'
    obtain ⟨g', m1, m2, m3, m4, m5, m6⟩ := hL'
    rw [k3, k4] at m2
    rw [k4] at m1
    refine ⟨m5, u', rfl, .tuple #[], ?_, rfl, rfl, g', m1, m2, m6⟩
    simp [results, show Tryz.f59.results = #[] from rfl]
  rcases hrec c₀ cs hu with h5 | ⟨h5, rfl, rfl⟩
  · rw [h5]
    exact key _ rfl
  · rw [h5]
    refine key _ ?_
    rw [← hu]

theorem got_trans {w w1 w' : World} {g g1 : Gh} {T T1 T' : List Nat} {V' : List VO} {v : Value} {d : D} (hE : Ext w g T w1 g1 T1) (hB : Below g.B w w1) (h : Got w1 g1 T1 w' v d V' T') : Got w g T w' v d V' T' := by
  obtain ⟨g', k1, k2, k3, k4⟩ := h
  exact ⟨g', hE.trans k1, k2, k3, hB.trans (by rw [← hE.B]; exact k4)⟩

theorem enters59 : Enters Tryz.prog 59 := ⟨Tryz.f59, Tryz.func59, by kernel_rfl, by kernel_rfl⟩
theorem door {w1 wd : World} {g1 gd : Gh} {V V' : List VO} {tmps : Array Value} {e : Env} (hX : Ext w1 g1 [] wd gd []) (hS : Sim wd gd V []) (hE : EnvOk wd gd [] tmps e) (he2 : e 2 = .mp 1 0) (he3 : e 3 = .mp 2 0) {cs : Array Value} (hcs : RepL w1 g1 [] cs [.mp 1 0, .mp 2 0])
    {u u' : FrameMode} {xv : Value} {xd : D} (hx : RepD wd gd [] xv xd)
    (hrec : ∀ c₀ cs, c₀.mode = u → (recoverD (c₀ :: cs) = some (xv, { c₀ with mode := u' } :: cs)) ∨ (recoverD (c₀ :: cs) = none ∧ xv = .nilIface ∧ u' = u))
    (hrun : ∀ e : Env, e 0 = .mp 1 0 → e 1 = .mp 2 0 → e 2 = xd → Ex orcA F (.seq g59b g59c) ⟨e, V, []⟩ (fun o s => o = .nrm ∧ s.V = V' ∧ s.T = []))
    (hu : u ≠ .run) (hset : settle u' = .returning) {c1 : List D} {c2 : D} {o1 o2 : VO} (hV1 : V'[1]? = some o1) (hV2 : V'[2]? = some o2) (hi1 : o1.it = false) (hi2 : o2.it = false) (hc1 : o1.cs = c1) (hl1 : c1.length = 10) (hc2 : o2.cs = [c2]) {R : Ending → World → Prop}
    (hR : ∀ v w', Got wd gd [] w' v (.tu [.ag c1, c2]) V' [] → R (.returned v) w') : Leaves Tryz.prog Tryz.f20 tmps R [{ target := .fn (.func 59) cs, args := #[] }] u wd := by
  obtain ⟨p2, p3, rfl⟩ : ∃ p2 p3, cs = #[p2, p3] := by
    have := hcs.1
    match cs, this with
    | ⟨[a, b]⟩, _ => exact ⟨a, b, rfl⟩
  have h2 : RepD wd gd [] p2 (.mp 1 0) := (hcs.2 0 (by simp)).mono hX
  have h3 : RepD wd gd [] p3 (.mp 2 0) := (hcs.2 1 (by simp)).mono hX
  refine ⟨hu, .func 59, #[p2, p3], 59, #[p2, p3], rfl, by simp [invoke, enters_run enters59], ?_⟩
  intro c₀ cs hc
  obtain ⟨e', u'', w', fr, hP, k1, k2, k3⟩ := d59 hS h2 h3 hx hrec hrun c₀ cs hc
  refine ⟨e', u'', w', fr, ?_, k1, k2, k3⟩
  obtain ⟨rfl, rfl, g', m1, m2, m3⟩ := hP
  show Leaves _ _ _ _ [] (settle _) w'
  rw [hset]
  have hm : mapO (trRes Tryz.prog) Tryz.f20.results.toList = some [.cell true 10 2, .cell false 1 3] := by kernel_rfl
  have hL : Lay [] 0 wd gd [] ⟨e, V', []⟩ { tmps := tmps, defers := [] } w' := ⟨g', m1, m2, hE.mono m1, Nat.zero_le _, rfl, m3⟩
  have hd : mapO (resD ⟨e, V', []⟩) [.cell true 10 2, .cell false 1 3] = some [.ag c1, c2] := by
    have e1 : resD ⟨e, V', []⟩ (.cell true 10 2) = some (.ag c1) := by
      simp only [resD, he2, hV1, hi1, hc1, partD, hl1, List.drop_zero]
      rw [List.take_of_length_le (by omega), mkV_true]
      rfl
    have e2 : resD ⟨e, V', []⟩ (.cell false 1 3) = some c2 := by
      simp only [resD, he3, hV2, hi2, hc2, partD]
      rfl
    simp only [mapO, e1, e2]
  obtain ⟨_, v, h5, h6⟩ := ress_raw hm hd hL
  exact ⟨v, h5, hR v w' h6⟩

theorem body20 : ∃ ops0 ops2 ops3 oA oB, Tryz.f20.body = some (.seq (.region 0 ops0 false) (.seq (.region 1 #[oA, oB] false) (.seq (.region 2 ops2 false) (.seq (.region 3 ops3 false) .ret)))) ∧ mapO (trOper Tryz.prog ops0 10) ops0.toList = some l20a ∧
    trOper Tryz.prog #[oA, oB] 10 oA = some ⟨some 4, none, .mkf 59 [.t 2, .t 3]⟩ ∧ oB.op = .defer { callee := .value (.tmp 4), args := #[], argTypes := #[] } ∧ oB.guard = none ∧ oB.dst = none ∧
    mapO (trOper Tryz.prog ops2 10) ops2.toList = some l20c ∧ mapO (trOper Tryz.prog ops3 10) ops3.toList = some l20d :=
  ⟨_, _, _, _, _, rfl, by kernel_rfl, by kernel_rfl, rfl, rfl, rfl, by kernel_rfl, by kernel_rfl⟩
theorem enters20 : Enters Tryz.prog 20 := ⟨Tryz.f20, Tryz.func20, by kernel_rfl, by kernel_rfl⟩

/-- What tag.Get answers. -/
noncomputable def getR (x : D) : Option D :=
  match callV orcA F 61 [x] with
  | some (.ret (.c (.v (.bool true)))) => match callV orcA F 62 [x] with
    | some (.ret (.ag t)) => if t.length = 10 ∧ closedL t = true then some (.tu [.ag t, .c (.v (.int .i64 0))]) else none
    | some (.pan (.ifc 86 (.ag []))) => some (.tu [.ag (zTag.map .c), .c (.v (.int .i64 13))])
    | _ => none
  | some (.ret (.c (.v (.bool false)))) => some (.tu [.ag (zTag.map .c), .c (.v (.int .i64 13))])
  | _ => none
theorem run60 (b : Bool) : callV orcA F 60 [boD b] = some (if b then .ret (.tu []) else .pan (.ifc 86 (.ag []))) := by
  refine callV_res tr60 ?_
  cases b
  · simp only [c60, Bool.false_eq_true, if_false, DrwE_nil, DrwE_plain, DrwE_guard, GdE_true, GdE_false, DcE_q, DcE_push, DcE_rd, drdE, dcallE, Ex_seq, Ex_reg, Ex_ret, Ex_skip, Ex_exit, Ex_block, Ex_cond', condE_true, condE_false, loopQ_nrm, loopQ_ret, loopQ_ext, blockQ_nrm, blockQ_ret, blockQ_ext, OpsE_plain, OpsE_guard, OpsE_nil, GuE_true, GuE_false, guardD, act, callA, ev, upd, putE, AcE_q, AcE_push, AcE_rd', AcE_wr', rdE, wrE, initE, thenQ_nrm, thenQ_ret, thenQ_ext, retQ, qo_s, convD, D.slc, unBytes_bytesP, bytesP_length, binD, scD, blD, scBin, blBin, strBin, intBin, ressD, mapO, resD, D.frz, frzL, frz_cells, D.closed, closedL, closed_cells, mkV_true, gt0, gtk, st0, stk, List.append_assoc, List.length_append, D.fits, D.cells, partD, mkV_false, setAt, iadD, asI, List.map_cons, List.map_nil, List.getElem?_cons_zero, List.getElem?_cons_succ, List.getElem?_nil, List.length_cons, List.length_nil, List.drop_succ_cons, List.drop_zero, List.take_succ_cons, List.take_zero, List.nil_append, List.cons_append, List.set_cons_zero, List.set_cons_succ, Nat.reduceAdd, Nat.reduceLeDiff, Nat.reduceEqDiff, Nat.reduceBEq, beq_iff_eq, reduceCtorEq, ↓reduceIte, Option.map_some, Option.some.injEq, Bool.true_and, Bool.false_and, Bool.and_true, Bool.and_self, Bool.and_false, Bool.or_self, Bool.false_eq_true, b_ff, b_ft, b_tf, b_tt, Bool.not_true, Bool.not_false, BEq.rfl, decide_true, decide_false, Nat.le_refl, callE, zD, snilD, inilD, tasD, fnilD, AcE_tp, AcE_tw, twE, DcE_tp, appD, appSrc, fillD, fillP, D.pcells, cellPure, thenQ_pan, blockQ_pan, loopQ_pan, cntQ_nrm, cntQ_ret, cntQ_ext, cntQ_pan, indQ_nrm, indQ_ret, indQ_ext, indQ_pan, resQ, panQ_pan, rawQ, unD, and_self, and_true, true_and, not_true_eq_false, not_false_eq_true, Int.cast_ofNat_Int, Int.reduceLT, Int.reduceLE, Int.reduceBEq, Int.reduceToNat, Nat.reduceMul, Int.zero_le_ofNat, orcA]
    rw [AcE_pan rfl]
    simp only [DrwE_nil, DrwE_plain, DrwE_guard, GdE_true, GdE_false, DcE_q, DcE_push, DcE_rd, drdE, dcallE, Ex_seq, Ex_reg, Ex_ret, Ex_skip, Ex_exit, Ex_block, Ex_cond', condE_true, condE_false, loopQ_nrm, loopQ_ret, loopQ_ext, blockQ_nrm, blockQ_ret, blockQ_ext, OpsE_plain, OpsE_guard, OpsE_nil, GuE_true, GuE_false, guardD, act, callA, ev, upd, putE, AcE_q, AcE_push, AcE_rd', AcE_wr', rdE, wrE, initE, thenQ_nrm, thenQ_ret, thenQ_ext, retQ, qo_s, convD, D.slc, unBytes_bytesP, bytesP_length, binD, scD, blD, scBin, blBin, strBin, intBin, ressD, mapO, resD, D.frz, frzL, frz_cells, D.closed, closedL, closed_cells, mkV_true, gt0, gtk, st0, stk, List.append_assoc, List.length_append, D.fits, D.cells, partD, mkV_false, setAt, iadD, asI, List.map_cons, List.map_nil, List.getElem?_cons_zero, List.getElem?_cons_succ, List.getElem?_nil, List.length_cons, List.length_nil, List.drop_succ_cons, List.drop_zero, List.take_succ_cons, List.take_zero, List.nil_append, List.cons_append, List.set_cons_zero, List.set_cons_succ, Nat.reduceAdd, Nat.reduceLeDiff, Nat.reduceEqDiff, Nat.reduceBEq, beq_iff_eq, reduceCtorEq, ↓reduceIte, Option.map_some, Option.some.injEq, Bool.true_and, Bool.false_and, Bool.and_true, Bool.and_self, Bool.and_false, Bool.or_self, Bool.false_eq_true, b_ff, b_ft, b_tf, b_tt, Bool.not_true, Bool.not_false, BEq.rfl, decide_true, decide_false, Nat.le_refl, callE, zD, snilD, inilD, tasD, fnilD, AcE_tp, AcE_tw, twE, DcE_tp, appD, appSrc, fillD, fillP, D.pcells, cellPure, thenQ_pan, blockQ_pan, loopQ_pan, cntQ_nrm, cntQ_ret, cntQ_ext, cntQ_pan, indQ_nrm, indQ_ret, indQ_ext, indQ_pan, resQ, panQ_pan, rawQ, unD, and_self, and_true, true_and, not_true_eq_false, not_false_eq_true, Int.cast_ofNat_Int, Int.reduceLT, Int.reduceLE, Int.reduceBEq, Int.reduceToNat, Nat.reduceMul, Int.zero_le_ofNat, orcA]
  · simp only [c60, if_true, DrwE_nil, DrwE_plain, DrwE_guard, GdE_true, GdE_false, DcE_q, DcE_push, DcE_rd, drdE, dcallE, Ex_seq, Ex_reg, Ex_ret, Ex_skip, Ex_exit, Ex_block, Ex_cond', condE_true, condE_false, loopQ_nrm, loopQ_ret, loopQ_ext, blockQ_nrm, blockQ_ret, blockQ_ext, OpsE_plain, OpsE_guard, OpsE_nil, GuE_true, GuE_false, guardD, act, callA, ev, upd, putE, AcE_q, AcE_push, AcE_rd', AcE_wr', rdE, wrE, initE, thenQ_nrm, thenQ_ret, thenQ_ext, retQ, qo_s, convD, D.slc, unBytes_bytesP, bytesP_length, binD, scD, blD, scBin, blBin, strBin, intBin, ressD, mapO, resD, D.frz, frzL, frz_cells, D.closed, closedL, closed_cells, mkV_true, gt0, gtk, st0, stk, List.append_assoc, List.length_append, D.fits, D.cells, partD, mkV_false, setAt, iadD, asI, List.map_cons, List.map_nil, List.getElem?_cons_zero, List.getElem?_cons_succ, List.getElem?_nil, List.length_cons, List.length_nil, List.drop_succ_cons, List.drop_zero, List.take_succ_cons, List.take_zero, List.nil_append, List.cons_append, List.set_cons_zero, List.set_cons_succ, Nat.reduceAdd, Nat.reduceLeDiff, Nat.reduceEqDiff, Nat.reduceBEq, beq_iff_eq, reduceCtorEq, ↓reduceIte, Option.map_some, Option.some.injEq, Bool.true_and, Bool.false_and, Bool.and_true, Bool.and_self, Bool.and_false, Bool.or_self, Bool.false_eq_true, b_ff, b_ft, b_tf, b_tt, Bool.not_true, Bool.not_false, BEq.rfl, decide_true, decide_false, Nat.le_refl, callE, zD, snilD, inilD, tasD, fnilD, AcE_tp, AcE_tw, twE, DcE_tp, appD, appSrc, fillD, fillP, D.pcells, cellPure, thenQ_pan, blockQ_pan, loopQ_pan, cntQ_nrm, cntQ_ret, cntQ_ext, cntQ_pan, indQ_nrm, indQ_ret, indQ_ext, indQ_pan, resQ, panQ_pan, rawQ, unD, and_self, and_true, true_and, not_true_eq_false, not_false_eq_true, Int.cast_ofNat_Int, Int.reduceLT, Int.reduceLE, Int.reduceBEq, Int.reduceToNat, Nat.reduceMul, Int.zero_le_ofNat, orcA]

theorem getR_closed {x d : D} (h : getR x = some d) : d.closed = true := by
  unfold getR at h
  split at h
  · split at h
    · split at h
      · rename_i hc
        simp only [Option.some.injEq] at h
        subst h
        simp [D.closed, closedL, hc.2]
      · simp at h
    · simp only [Option.some.injEq] at h
      subst h
      rfl
    · simp at h
  · simp only [Option.some.injEq] at h
    subst h
    rfl
  · simp at h

set_option maxHeartbeats 1000000 in
theorem get20 {w : World} {g : Gh} {V : List VO} {T : List Nat} (hS : Sim w g V T) {l : List D} (hl : l.length = 5) (hcl : closedL l = true) (hfl : frzL l = l) {cargs : Array Value} (hR : RepL w (g.clear w) [] cargs [.ag l]) {d : D} (hd : getR (.ag l) = some d) :
    Calls Tryz.prog 20 cargs w fun e w' => ∃ v, e = .returned v ∧ Got w g T w' v d V T := by
  obtain ⟨ops0, ops2, ops3, oA, oB, hb, h0, hA, hB, hBg, hBd, hC, hD⟩ := body20
  have hdc := getR_closed hd
  have hAg := agOk Tryz.prog
  refine calls_of_wp_defers Tryz.func20 hb ?_
  have hn : Tryz.f20.ntmps = 10 := rfl
  rw [hn]
  have hL0 : Lay [] 10 w (g.clear w) [] ⟨initE [.ag l], [], []⟩ { tmps := cargs ++ Array.replicate (10 - cargs.size) undef, defers := [] } w :=
    ⟨g.clear w, Ext.refl _ _ _, hS.clear, initE_ok hR _, by simp; omega, rfl, Below.refl _ _⟩
  have r0 : OpsE orcA F l20a ⟨initE [.ag l], [], []⟩ (fun o s => o = .nrm ∧ s = ⟨upd (upd (upd (initE [.ag l]) 1 (.mp 0 0)) 2 (.mp 1 0)) 3 (.mp 2 0), [⟨27, false, false, l⟩, ⟨34, false, false, zTag.map zD⟩, ⟨37, false, false, [.c (.v (.int .i64 0))]⟩], []⟩) := by
    have hf : ((l.length == 5) = true) = True := by simp [hl]
    simp only [l20a, OpsE_plain, OpsE_nil, act, ev, initE, List.getElem?_cons_zero, List.getElem?_cons_succ, D.fits, D.cells, hf, if_true, AcE_push, putE, List.length_nil, List.nil_append, List.length_cons, List.cons_append, Nat.reduceAdd, true_and]
    rfl
  obtain ⟨n0, o0, s0, k1, rfl, rfl⟩ := r0
  refine wp_seq (reg_okX hAg (callN_ok orcA_ok mixed n0) orcA_ok h0 hL0 k1 ?_)
  intro a1 w1 hL1
  refine wp_seq (wp_region ?_)
  rw [show List.range #[oA, oB].size = [0, 1] from rfl, wpOps_cons]
  refine oper_ok hAg (callN_ok orcA_ok mixed 0) orcA_ok rfl hA hL1 (fun hb => by simp [guardD] at hb) (by simp [guardD]) (fun _ => ⟨_, _, _, rfl, rfl, ?_⟩)
  intro a2 w2 hL2
  obtain ⟨g2, x1, x2, x3, x4, x5, x6⟩ := hL2
  obtain ⟨cs, h5, h6⟩ := rep_fn (show RepD w2 g2 [] (a2.tmps.getD 4 undef) (.fn 59 [.mp 1 0, .mp 2 0]) from x3 4)
  rw [wpOps_cons]
  unfold wpOp
  simp only [show (#[oA, oB] : Array Oper)[1]? = some oB from rfl, Region.wanted, hBg, if_true]
  refine .inl ?_
  unfold Oper.wp
  have hrun : (execOp a2.eval oB).run Tryz.prog w2 = .ok (.defer { target := .fn (.func 59) cs, args := #[] }) w2 := by
    simp [execOp, hB, resolve, Act.eval, h5, Deferred.ofValue]
  rw [hrun]
  simp only [Oper.upon, hBd, Act.put, wpOps]
  -- behind the defer
  have tl : List.take 5 l = l := List.take_of_length_le (by omega)
  have fin : ∀ (wd : World) (gd : Gh) (v : Value) (w' : World) (d' : D) (V' : List VO), d'.frz = d → Ext w2 g2 [] wd gd [] → Below g2.B w2 wd → Got wd gd [] w' v d' V' [] → ∃ v', Ending.returned v = Ending.returned v' ∧ Got w g T w' v' d V T := by
    intro wd gd v w' d' V' hfz hX hB hG
    have h7 := got_trans x1 x6 (got_trans hX hB hG)
    obtain ⟨g', m1, m2, m3, m4⟩ := h7
    exact ⟨v, rfl, got_closed hS ⟨g', m1, m2, by rw [← hfz]; exact frz_rep m3, m4⟩ hdc⟩
  have dpan : ∀ (e : Env) (c1 : List D) (c2 : D) (a : Act) (w' : World) (v : Value), e 2 = .mp 1 0 → e 3 = .mp 2 0 → c1.length = 10 → d = .tu [.ag (zTag.map .c), .c (.v (.int .i64 13))] →
      LayV [{ target := .fn (.func 59) cs, args := #[] }] 10 w2 g2 [] ⟨e, [⟨27, false, false, l⟩, ⟨34, false, false, c1⟩, ⟨37, false, false, [c2]⟩], []⟩ a w' v (.ifc 86 (.ag [])) →
      bodyPostD Tryz.prog Tryz.f20 (fun e w' => ∃ v, e = .returned v ∧ Got w g T w' v d V T) (.panic [{ v, recovered := false }]) a w' := by
    intro e c1 c2 a w' v he2 he3 hc1 hdd ⟨gd, q1, q2, q3, q4, q5, q6, q7⟩
    show Leaves _ _ _ _ a.defers _ _
    rw [q5]
    refine door q1 q2 q3 he2 he3 h6 (u' := .panicking [{ v, recovered := true }]) q7 (fun c₀ cs hc => .inl (by simp [recoverD, hc])) (run59p _ c1 c2 hc1) (by simp) rfl rfl rfl rfl rfl rfl rfl rfl ?_
    intro v' w'' hG
    exact fin w' gd v' w'' _ _ (by rw [hdd]; rfl) q1 q6 hG
  have key : ∀ e : Env, e 1 = .mp 0 0 → e 2 = .mp 1 0 → e 3 = .mp 2 0 → ∀ (a3 : Act), Lay [{ target := .fn (.func 59) cs, args := #[] }] 10 w2 g2 [] ⟨e, [⟨27, false, false, l⟩, ⟨34, false, false, zTag.map zD⟩, ⟨37, false, false, [.c (.v (.int .i64 0))]⟩], []⟩ a3 w2 →
      Code.wp Tryz.prog ((Code.region 2 ops2 false).seq ((Code.region 3 ops3 false).seq Code.ret)) (bodyPostD Tryz.prog Tryz.f20 fun e w' => ∃ v, e = .returned v ∧ Got w g T w' v d V T) a3 w2 := by
    intro e he1 he2 he3 a3 hL3
    have hcl1 : closedL [.ag l] = true := by simp [closedL, D.closed, hcl]
    have hz : frzL [.ag l] = [.ag l] := by simp [frzL, D.frz, hfl]
    let VV : List D → D → List VO := fun c1 c2 => [⟨27, false, false, l⟩, ⟨34, false, false, c1⟩, ⟨37, false, false, [c2]⟩]
    have hm61 : ∀ b, callV orcA F 61 [.ag l] = some (.ret (boD b)) → OpsE orcA F l20c ⟨e, [⟨27, false, false, l⟩, ⟨34, false, false, zTag.map zD⟩, ⟨37, false, false, [.c (.v (.int .i64 0))]⟩], []⟩
        (fun o s => (match o with | .nrm => b = true | .pan d => b = false ∧ d = .ifc 86 (.ag []) | _ => False) ∧ s.e 1 = .mp 0 0 ∧ s.e 2 = .mp 1 0 ∧ s.e 3 = .mp 2 0 ∧ s.V = VV (zTag.map zD) (.c (.v (.int .i64 0))) ∧ s.T = []) := by
      intro b h61
      have h60 := run60 b
      cases b
      · simp only [Bool.false_eq_true, if_false] at h60
        simp only [l20c, VV, he1, he2, he3, tl, hl, hz, hcl, h61, h60, DrwE_nil, DrwE_plain, DrwE_guard, GdE_true, GdE_false, DcE_q, DcE_push, DcE_rd, drdE, dcallE, Ex_seq, Ex_reg, Ex_ret, Ex_skip, Ex_exit, Ex_block, Ex_cond', condE_true, condE_false, loopQ_nrm, loopQ_ret, loopQ_ext, blockQ_nrm, blockQ_ret, blockQ_ext, OpsE_plain, OpsE_guard, OpsE_nil, GuE_true, GuE_false, guardD, act, callA, ev, upd, putE, AcE_q, AcE_push, AcE_rd', AcE_wr', rdE, wrE, initE, thenQ_nrm, thenQ_ret, thenQ_ext, retQ, qo_s, convD, D.slc, unBytes_bytesP, bytesP_length, binD, scD, blD, scBin, blBin, strBin, intBin, ressD, mapO, resD, D.frz, frzL, frz_cells, D.closed, closedL, closed_cells, mkV_true, gt0, gtk, st0, stk, List.append_assoc, List.length_append, D.fits, D.cells, partD, mkV_false, setAt, iadD, asI, List.map_cons, List.map_nil, List.getElem?_cons_zero, List.getElem?_cons_succ, List.getElem?_nil, List.length_cons, List.length_nil, List.drop_succ_cons, List.drop_zero, List.take_succ_cons, List.take_zero, List.nil_append, List.cons_append, List.set_cons_zero, List.set_cons_succ, Nat.reduceAdd, Nat.reduceLeDiff, Nat.reduceEqDiff, Nat.reduceBEq, beq_iff_eq, reduceCtorEq, ↓reduceIte, Option.map_some, Option.some.injEq, Bool.true_and, Bool.false_and, Bool.and_true, Bool.and_self, Bool.and_false, Bool.or_self, Bool.false_eq_true, b_ff, b_ft, b_tf, b_tt, Bool.not_true, Bool.not_false, BEq.rfl, decide_true, decide_false, Nat.le_refl, callE, zD, snilD, inilD, tasD, fnilD, AcE_tp, AcE_tw, twE, DcE_tp, appD, appSrc, fillD, fillP, D.pcells, cellPure, thenQ_pan, blockQ_pan, loopQ_pan, cntQ_nrm, cntQ_ret, cntQ_ext, cntQ_pan, indQ_nrm, indQ_ret, indQ_ext, indQ_pan, resQ, panQ_pan, rawQ, unD, and_self, and_true, true_and, not_true_eq_false, not_false_eq_true, Int.cast_ofNat_Int, Int.reduceLT, Int.reduceLE, Int.reduceBEq, Int.reduceToNat, Nat.reduceMul, Int.zero_le_ofNat, orcA, AcE_call]
      · simp only [if_true] at h60
        simp only [l20c, VV, he1, he2, he3, tl, hl, hz, hcl, h61, h60, DrwE_nil, DrwE_plain, DrwE_guard, GdE_true, GdE_false, DcE_q, DcE_push, DcE_rd, drdE, dcallE, Ex_seq, Ex_reg, Ex_ret, Ex_skip, Ex_exit, Ex_block, Ex_cond', condE_true, condE_false, loopQ_nrm, loopQ_ret, loopQ_ext, blockQ_nrm, blockQ_ret, blockQ_ext, OpsE_plain, OpsE_guard, OpsE_nil, GuE_true, GuE_false, guardD, act, callA, ev, upd, putE, AcE_q, AcE_push, AcE_rd', AcE_wr', rdE, wrE, initE, thenQ_nrm, thenQ_ret, thenQ_ext, retQ, qo_s, convD, D.slc, unBytes_bytesP, bytesP_length, binD, scD, blD, scBin, blBin, strBin, intBin, ressD, mapO, resD, D.frz, frzL, frz_cells, D.closed, closedL, closed_cells, mkV_true, gt0, gtk, st0, stk, List.append_assoc, List.length_append, D.fits, D.cells, partD, mkV_false, setAt, iadD, asI, List.map_cons, List.map_nil, List.getElem?_cons_zero, List.getElem?_cons_succ, List.getElem?_nil, List.length_cons, List.length_nil, List.drop_succ_cons, List.drop_zero, List.take_succ_cons, List.take_zero, List.nil_append, List.cons_append, List.set_cons_zero, List.set_cons_succ, Nat.reduceAdd, Nat.reduceLeDiff, Nat.reduceEqDiff, Nat.reduceBEq, beq_iff_eq, reduceCtorEq, ↓reduceIte, Option.map_some, Option.some.injEq, Bool.true_and, Bool.false_and, Bool.and_true, Bool.and_self, Bool.and_false, Bool.or_self, Bool.false_eq_true, b_ff, b_ft, b_tf, b_tt, Bool.not_true, Bool.not_false, BEq.rfl, decide_true, decide_false, Nat.le_refl, callE, zD, snilD, inilD, tasD, fnilD, AcE_tp, AcE_tw, twE, DcE_tp, appD, appSrc, fillD, fillP, D.pcells, cellPure, thenQ_pan, blockQ_pan, loopQ_pan, cntQ_nrm, cntQ_ret, cntQ_ext, cntQ_pan, indQ_nrm, indQ_ret, indQ_ext, indQ_pan, resQ, panQ_pan, rawQ, unD, and_self, and_true, true_and, not_true_eq_false, not_false_eq_true, Int.cast_ofNat_Int, Int.reduceLT, Int.reduceLE, Int.reduceBEq, Int.reduceToNat, Nat.reduceMul, Int.zero_le_ofNat, orcA, AcE_call]
    have hm62 : ∀ (e' : Env) (t : List D), e' 1 = .mp 0 0 → e' 2 = .mp 1 0 → e' 3 = .mp 2 0 → t.length = 10 → closedL t = true → callV orcA F 62 [.ag l] = some (.ret (.ag t)) → OpsE orcA F l20d ⟨e', VV (zTag.map zD) (.c (.v (.int .i64 0))), []⟩
        (fun o s => o = .nrm ∧ s.e 2 = .mp 1 0 ∧ s.e 3 = .mp 2 0 ∧ s.V = VV t (.c (.v (.int .i64 0))) ∧ s.T = []) := by
      intro e' t he1 he2 he3 ht htc h62
      have hsa : ∀ m : List D, m.length = 10 → setAt m 0 t = t := fun m hm => setAt_all (by omega)
      have hlz : (zTag.map zD).length = 10 := rfl
      generalize zTag.map zD = zz at hlz
      simp only [l20d, VV, he1, he2, he3, tl, hl, hz, hcl, h62, ht, htc, hlz, hsa zz hlz, DrwE_nil, DrwE_plain, DrwE_guard, GdE_true, GdE_false, DcE_q, DcE_push, DcE_rd, drdE, dcallE, Ex_seq, Ex_reg, Ex_ret, Ex_skip, Ex_exit, Ex_block, Ex_cond', condE_true, condE_false, loopQ_nrm, loopQ_ret, loopQ_ext, blockQ_nrm, blockQ_ret, blockQ_ext, OpsE_plain, OpsE_guard, OpsE_nil, GuE_true, GuE_false, guardD, act, callA, ev, upd, putE, AcE_q, AcE_push, AcE_rd', AcE_wr', rdE, wrE, initE, thenQ_nrm, thenQ_ret, thenQ_ext, retQ, qo_s, convD, D.slc, unBytes_bytesP, bytesP_length, binD, scD, blD, scBin, blBin, strBin, intBin, ressD, mapO, resD, D.frz, frzL, frz_cells, D.closed, closedL, closed_cells, mkV_true, gt0, gtk, st0, stk, List.append_assoc, List.length_append, D.fits, D.cells, partD, mkV_false, setAt, iadD, asI, List.map_cons, List.map_nil, List.getElem?_cons_zero, List.getElem?_cons_succ, List.getElem?_nil, List.length_cons, List.length_nil, List.drop_succ_cons, List.drop_zero, List.take_succ_cons, List.take_zero, List.nil_append, List.cons_append, List.set_cons_zero, List.set_cons_succ, Nat.reduceAdd, Nat.reduceLeDiff, Nat.reduceEqDiff, Nat.reduceBEq, beq_iff_eq, reduceCtorEq, ↓reduceIte, Option.map_some, Option.some.injEq, Bool.true_and, Bool.false_and, Bool.and_true, Bool.and_self, Bool.and_false, Bool.or_self, Bool.false_eq_true, b_ff, b_ft, b_tf, b_tt, Bool.not_true, Bool.not_false, BEq.rfl, decide_true, decide_false, Nat.le_refl, callE, zD, snilD, inilD, tasD, fnilD, AcE_tp, AcE_tw, twE, DcE_tp, appD, appSrc, fillD, fillP, D.pcells, cellPure, thenQ_pan, blockQ_pan, loopQ_pan, cntQ_nrm, cntQ_ret, cntQ_ext, cntQ_pan, indQ_nrm, indQ_ret, indQ_ext, indQ_pan, resQ, panQ_pan, rawQ, unD, and_self, and_true, true_and, not_true_eq_false, not_false_eq_true, Int.cast_ofNat_Int, Int.reduceLT, Int.reduceLE, Int.reduceBEq, Int.reduceToNat, Nat.reduceMul, Int.zero_le_ofNat, orcA, AcE_call]
    have hp62 : ∀ (e' : Env), e' 1 = .mp 0 0 → e' 2 = .mp 1 0 → e' 3 = .mp 2 0 → callV orcA F 62 [.ag l] = some (.pan (.ifc 86 (.ag []))) → OpsE orcA F l20d ⟨e', VV (zTag.map zD) (.c (.v (.int .i64 0))), []⟩
        (fun o s => o = .pan (.ifc 86 (.ag [])) ∧ s.e 2 = .mp 1 0 ∧ s.e 3 = .mp 2 0 ∧ s.V = VV (zTag.map zD) (.c (.v (.int .i64 0))) ∧ s.T = []) := by
      intro e' he1 he2 he3 h62
      simp only [l20d, VV, he1, he2, he3, tl, hl, hz, hcl, h62, DrwE_nil, DrwE_plain, DrwE_guard, GdE_true, GdE_false, DcE_q, DcE_push, DcE_rd, drdE, dcallE, Ex_seq, Ex_reg, Ex_ret, Ex_skip, Ex_exit, Ex_block, Ex_cond', condE_true, condE_false, loopQ_nrm, loopQ_ret, loopQ_ext, blockQ_nrm, blockQ_ret, blockQ_ext, OpsE_plain, OpsE_guard, OpsE_nil, GuE_true, GuE_false, guardD, act, callA, ev, upd, putE, AcE_q, AcE_push, AcE_rd', AcE_wr', rdE, wrE, initE, thenQ_nrm, thenQ_ret, thenQ_ext, retQ, qo_s, convD, D.slc, unBytes_bytesP, bytesP_length, binD, scD, blD, scBin, blBin, strBin, intBin, ressD, mapO, resD, D.frz, frzL, frz_cells, D.closed, closedL, closed_cells, mkV_true, gt0, gtk, st0, stk, List.append_assoc, List.length_append, D.fits, D.cells, partD, mkV_false, setAt, iadD, asI, List.map_cons, List.map_nil, List.getElem?_cons_zero, List.getElem?_cons_succ, List.getElem?_nil, List.length_cons, List.length_nil, List.drop_succ_cons, List.drop_zero, List.take_succ_cons, List.take_zero, List.nil_append, List.cons_append, List.set_cons_zero, List.set_cons_succ, Nat.reduceAdd, Nat.reduceLeDiff, Nat.reduceEqDiff, Nat.reduceBEq, beq_iff_eq, reduceCtorEq, ↓reduceIte, Option.map_some, Option.some.injEq, Bool.true_and, Bool.false_and, Bool.and_true, Bool.and_self, Bool.and_false, Bool.or_self, Bool.false_eq_true, b_ff, b_ft, b_tf, b_tt, Bool.not_true, Bool.not_false, BEq.rfl, decide_true, decide_false, Nat.le_refl, callE, zD, snilD, inilD, tasD, fnilD, AcE_tp, AcE_tw, twE, DcE_tp, appD, appSrc, fillD, fillP, D.pcells, cellPure, thenQ_pan, blockQ_pan, loopQ_pan, cntQ_nrm, cntQ_ret, cntQ_ext, cntQ_pan, indQ_nrm, indQ_ret, indQ_ext, indQ_pan, resQ, panQ_pan, rawQ, unD, and_self, and_true, true_and, not_true_eq_false, not_false_eq_true, Int.cast_ofNat_Int, Int.reduceLT, Int.reduceLE, Int.reduceBEq, Int.reduceToNat, Nat.reduceMul, Int.zero_le_ofNat, orcA, AcE_call]
    obtain ⟨b, h61, hdb⟩ : ∃ b, callV orcA F 61 [.ag l] = some (.ret (boD b)) ∧ (if b then (match callV orcA F 62 [.ag l] with
        | some (.ret (.ag t)) => if t.length = 10 ∧ closedL t = true then some (.tu [.ag t, .c (.v (.int .i64 0))]) else none
        | some (.pan (.ifc 86 (.ag []))) => some (.tu [.ag (zTag.map .c), .c (.v (.int .i64 13))])
        | _ => none) = some d else d = .tu [.ag (zTag.map .c), .c (.v (.int .i64 13))]) := by
      unfold getR at hd
      split at hd
      · rename_i h61; exact ⟨true, h61, hd⟩
      · rename_i h61; exact ⟨false, h61, by simpa using hd.symm⟩
      · simp at hd
    obtain ⟨n2, o2, s2, j1, j2, j3, j4, j5, j6, j7⟩ := hm61 b h61
    obtain ⟨e2, V2, T2⟩ := s2
    simp only at j3 j4 j5 j6 j7
    subst j6; subst j7
    refine wp_seq (reg_okX hAg (callN_ok orcA_ok mixed n2) orcA_ok hC hL3 j1 ?_)
    cases o2 with
    | ret => exact j2.elim
    | ext i => exact j2.elim
    | pan dd =>
      obtain ⟨rfl, rfl⟩ := j2
      intro a4 w4 v hLV
      exact dpan e2 (zTag.map zD) _ a4 w4 v j4 j5 rfl (by simpa using hdb) hLV
    | nrm =>
      have j2 : b = true := j2
      subst j2
      simp only [if_true] at hdb
      intro a4 w4 hL4
      refine wp_seq ?_
      split at hdb
      · rename_i t h62
        split at hdb
        · rename_i htc
          simp only [Option.some.injEq] at hdb
          obtain ⟨n3, o3, s3, i1, i2, i3, i4, i5, i6⟩ := hm62 e2 t j3 j4 j5 htc.1 htc.2 h62
          obtain ⟨e3, V3, T3⟩ := s3
          simp only at i3 i4 i5 i6
          subst i2; subst i5; subst i6
          refine reg_okX hAg (callN_ok orcA_ok mixed n3) orcA_ok hD hL4 i1 ?_
          intro a5 w5 hL5
          refine wp_ret ?_
          obtain ⟨gd, q1, q2, q3, q4, q5, q6⟩ := hL5
          show Leaves _ _ _ _ a5.defers _ _
          rw [q5]
          refine door q1 q2 q3 i3 i4 h6 (u' := .returning) (xd := .c (.v .nilIface)) (xv := .nilIface) (sc_rep rfl) (fun c₀ cs hc => .inr (by simp [recoverD, hc])) (fun e h0 h1 h2 => run59r _ _ _ e h2) (by simp) rfl rfl rfl rfl rfl rfl htc.1 rfl ?_
          intro v' w'' hG
          refine fin w5 gd v' w'' _ _ ?_ q1 q6 hG
          have hft := callV_frz h62
          simp only [D.frz, D.ag.injEq] at hft
          rw [← hdb]
          simp only [D.frz, frzL, hft]
        · simp at hdb
      · rename_i h62
        simp only [Option.some.injEq] at hdb
        obtain ⟨n3, o3, s3, i1, i2, i3, i4, i5, i6⟩ := hp62 e2 j3 j4 j5 h62
        obtain ⟨e3, V3, T3⟩ := s3
        simp only at i3 i4 i5 i6
        subst i2; subst i5; subst i6
        refine reg_okX hAg (callN_ok orcA_ok mixed n3) orcA_ok hD hL4 i1 ?_
        intro a5 w5 v hLV
        exact dpan e3 (zTag.map zD) _ a5 w5 v i3 i4 rfl hdb.symm hLV
      · simp at hdb
  exact key _ rfl rfl rfl _ ⟨g2, Ext.refl _ _ _, x2, x3, x4, by rw [x5], Below.refl _ _⟩

noncomputable def getT : List D → Option Ac
  | [.ag l] => if l.length = 5 ∧ closedL l = true then (getR (.ag l)).map .q else none
  | _ => none
/-- The table with tag.Get. -/
noncomputable def orcB : Orc := fun f => if f = 20 then some getT else orcA f
theorem orcB_ok : OrcOk Tryz.prog orcB := by
  intro f h hf args ac hac w g V T cargs call out l hS hR hd
  unfold orcB at hf
  split at hf
  case isFalse => exact orcA_ok f h hf args ac hac w g V T cargs call out l hS hR hd
  rename_i e
  subst e
  simp only [Option.some.injEq] at hf
  subst hf
  unfold getT at hac
  split at hac
  case h_2 => simp at hac
  rename_i t hargs
  split at hac
  case isFalse => simp at hac
  rename_i hc
  obtain ⟨d, hd2, rfl⟩ := Option.map_eq_some_iff.1 hac
  simp only [doAc, Option.some.injEq, Prod.mk.injEq] at hd
  obtain ⟨rfl, _⟩ := hd
  have hR' := frzL_rep hR
  obtain ⟨a, rfl, ha⟩ := frzL_one hargs
  have hft : frzL t = t := by
    have := frz_idem a
    rw [← ha] at this
    simpa [D.frz] using this
  have hR0 : RepL w (g.clear w) [] cargs [.ag t] := by
    rw [hargs] at hR'
    refine ⟨hR'.1, fun i hi => closed_rep (hR'.2 i hi) rfl ?_ (.inr ?_)⟩
    · have : i = 0 := by simpa using hi
      subst this
      simp [D.closed, hc.2]
    · have : i = 0 := by simpa using hi
      subst this
      simp [D.frz, hft]
  exact .inl ⟨enters_run enters20, get20 hS hc.1 hc.2 hft hR0 hd2⟩
theorem tableB : OLe F orcA orcB := fun f => by
  unfold orcB
  split
  · rename_i e
    subst e
    exact .inr ⟨rfl, by kernel_rfl⟩
  · exact .inl rfl
end Go.Proofs.YthglfhnlolefhaaGreatDoor
