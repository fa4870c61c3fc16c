/- Own: the tables. -/
import Derived.Test.YthglfhnlolefhaaGreatDoorOrc
set_option maxRecDepth 100000
set_option linter.unusedSimpArgs false
set_option linter.unusedVariables false
namespace Go.Proofs.YthglfhnlolefhaaGreatDoor
open Go.Abs
open Go.RowKit (Below)

/-- A clone that may be appended to. -/
def cloneT (esz b : Nat) : List D → Option Ac
  | [x] => match x.slc with
    | some (n, cs) => if cs.length = n * esz ∧ n * b ≤ room ∧ n ≤ room then (if n = 0 then some (.q (.fs 0 [])) else some (.tp fun id => .ow id 0 n cs)) else none
    | none => none
  | _ => none
/-- A clone that is only read. -/
def cloneC (esz b : Nat) : List D → Option Ac
  | [x] => match x.slc with
    | some (n, cs) => if cs.length = n * esz ∧ n * b ≤ room ∧ n ≤ room then some (.q (.c (.sl n cs))) else none
    | none => none
  | _ => none
def listT : List D → Option Ac
  | [x] => match x.slc with
    | some (n, cs) => if cs.length = n * 5 ∧ n * 80 ≤ room ∧ n ≤ room then (if n = 0 then some (.q (.ag [boD true, boD false, byD [], byD [], .fs 0 []])) else some (.tp fun id => .ag [boD true, boD false, byD [], byD [], .ow id 0 n cs])) else none
    | none => none
  | _ => none
def orc1 : Orc := fun f => if f = 104 then some (cloneT 5 80) else none
/-- The table of all functions but those that recover. -/
def orcA : Orc := fun f => if f = 51 then some listT else if f = 116 then some (cloneC 1 1) else none

theorem frz_slc {a : D} {n : Nat} {cs : List Go.Abs.P} (h : a.frz.slc = some (n, cs)) : a.frz = .c (.sl n cs) := by
  cases a with
  | c p =>
    cases p with
    | v x => simp [D.frz, D.slc] at h
    | sl m ds => simp only [D.frz, D.slc, Option.some.injEq, Prod.mk.injEq] at h; show D.c (.sl m ds) = _; rw [h.1, h.2]
  | fs m ds => simp only [D.frz, D.slc, Option.some.injEq, Prod.mk.injEq] at h; rw [D.frz, h.1, h.2]
  | ow i v m ds => simp only [D.frz, D.slc, Option.some.injEq, Prod.mk.injEq] at h; rw [D.frz, h.1, h.2]
  | _ => simp [D.frz, D.slc] at h
theorem frzL_one {args : List D} {x : D} (h : frzL args = [x]) : ∃ a, args = [a] ∧ x = a.frz := by
  rw [frzL_map] at h
  obtain ⟨a, rfl, rfl⟩ := List.map_eq_singleton_iff.1 h
  exact ⟨a, rfl, rfl⟩

theorem e104 : ∀ {w : World} {g : Gh} {V : List VO} {T : List Nat} {x : D} {cs : List Go.Abs.P} (_ : x.slc = some (0, cs)) {cargs : Array Value} (_ : Sim w g V T) (_ : RepL w g T cargs [x]),
    Calls Tryz.prog 104 cargs w fun e w' => ∃ v, e = .returned v ∧ Got w g T w' v (.fs 0 []) V T := fun hx _ hS hR =>
  cloneE (et := 27) (e2 := 27) (sz := 5) (by2 := 80) Tryz.func104 rfl rfl rfl (by kernel_rfl) (by kernel_rfl) rfl rfl rfl (by kernel_rfl) (by kernel_rfl) (by kernel_rfl) hx hS hR
theorem e116 : ∀ {w : World} {g : Gh} {V : List VO} {T : List Nat} {x : D} {cs : List Go.Abs.P} (_ : x.slc = some (0, cs)) {cargs : Array Value} (_ : Sim w g V T) (_ : RepL w g T cargs [x]),
    Calls Tryz.prog 116 cargs w fun e w' => ∃ v, e = .returned v ∧ Got w g T w' v (.fs 0 []) V T := fun hx _ hS hR =>
  cloneE (et := 5) (e2 := 5) (sz := 1) (by2 := 1) Tryz.func116 rfl rfl rfl (by kernel_rfl) (by kernel_rfl) rfl rfl rfl (by kernel_rfl) (by kernel_rfl) (by kernel_rfl) hx hS hR
theorem enters_of {P : Program} {f : FuncId} {af : AFn} (h : trFn P f = some af) : Enters P f := by
  obtain ⟨fn, c, h1, h2, h3, h4, h5⟩ := trFn_spec h
  exact ⟨fn, h1, h2, by simp [h3]⟩

theorem orc1_ok : OrcOk Tryz.prog orc1 := by
  intro f h hf args ac hac w g V T cargs call out l hS hR hd
  unfold orc1 at hf
  split at hf
  case isFalse => simp at hf
  rename_i e
  subst e
  simp only [Option.some.injEq] at hf
  subst hf
  have hR' := frzL_rep hR
  unfold cloneT at hac
  split at hac
  case h_2 => simp at hac
  rename_i x hargs
  rw [hargs] at hR'
  obtain ⟨a, rfl, rfl⟩ := frzL_one hargs
  split at hac
  case h_2 => simp at hac
  rename_i n cs hs
  split at hac
  case isFalse => simp at hac
  rename_i hc
  refine .inl ⟨enters_run (enters_of tr104), ?_⟩
  split at hac
  · rename_i h0
    subst h0
    simp only [Option.some.injEq] at hac
    subst hac
    simp only [doAc, Option.some.injEq, Prod.mk.injEq] at hd
    obtain ⟨rfl, _⟩ := hd
    exact e104 hs hS hR'
  · rename_i hn
    simp only [Option.some.injEq] at hac
    subst hac
    simp only [doAc, Option.some.injEq, Prod.mk.injEq] at hd
    obtain ⟨rfl, _⟩ := hd
    rw [frz_slc hs] at hR'
    exact (callee_rawE orcN_ok mixed tr104 (clone104 n cs hn hc.1 hc.2.1 hc.2.2 V T) hS hR').2

theorem ag_weak {w : World} {g : Gh} {T : List Nat} {v : Value} {ds ds' : List D} (h : RepD w g T v (.ag ds)) (hl : ds'.length = ds.length) (hw : ∀ i (h1 : i < ds.length) (h2 : i < ds'.length), ds'[i] = ds[i] ∨ ds'[i] = ds[i].frz) : RepD w g T v (.ag ds') := by
  obtain ⟨cs, rfl, ⟨h1, h2⟩, h3⟩ := rep_ag h
  refine .ag (by rw [h1, hl]) (fun i hi => ?_) fun i hi => ?_
  · rcases hw i (by omega) hi with e | e
    · rw [e]; exact h3 i (by omega)
    · rw [e]; exact frz_one (h3 i (by omega))
  · rcases hw i (by omega) hi with e | e
    · rw [e]; exact h2 i (by omega)
    · rw [e]; exact frz_rep (h2 i (by omega))

theorem list51 (n : Nat) (cs : List Go.Abs.P) (hn : n ≠ 0) (hl : cs.length = n * 5) (h1 : n * 80 ≤ room) (h2 : n ≤ room) (V : List VO) (T : List Nat) :
    Ex orc1 F c51.body ⟨initE [.c (.sl n cs)], V, T⟩ (rawQ c51.res [.ag [boD true, boD false, .fs 0 [], .fs 0 [], .ow T.length 0 n cs]] (V ++ [⟨27, false, false, [boD true, boD false, .fs 0 [], .fs 0 [], .ow T.length 0 n cs]⟩]) (T ++ [0])) := by
  simp only [c51, orc1, cloneT, hn, hl, h1, h2, DrwE_nil, DrwE_plain, DrwE_guard, GdE_true, GdE_false, DcE_q, DcE_push, DcE_rd, drdE, dcallE, Ex_seq, Ex_reg, Ex_ret, Ex_skip, Ex_exit, Ex_block, Ex_cond', condE_true, condE_false, loopQ_nrm, loopQ_ret, loopQ_ext, blockQ_nrm, blockQ_ret, blockQ_ext, OpsE_plain, OpsE_guard, OpsE_nil, GuE_true, GuE_false, guardD, act, callA, ev, upd, putE, AcE_q, AcE_push, AcE_rd', AcE_wr', rdE, wrE, initE, thenQ_nrm, thenQ_ret, thenQ_ext, retQ, qo_s, convD, D.slc, unBytes_bytesP, bytesP_length, binD, scD, blD, scBin, blBin, strBin, intBin, ressD, mapO, resD, D.frz, frzL, frz_cells, D.closed, closedL, closed_cells, mkV_true, gt0, gtk, st0, stk, List.append_assoc, List.length_append, D.fits, D.cells, partD, mkV_false, setAt, iadD, asI, List.map_cons, List.map_nil, List.getElem?_cons_zero, List.getElem?_cons_succ, List.getElem?_nil, List.length_cons, List.length_nil, List.drop_succ_cons, List.drop_zero, List.take_succ_cons, List.take_zero, List.nil_append, List.cons_append, List.set_cons_zero, List.set_cons_succ, Nat.reduceAdd, Nat.reduceLeDiff, Nat.reduceEqDiff, Nat.reduceBEq, beq_iff_eq, reduceCtorEq, ↓reduceIte, Option.map_some, Option.some.injEq, Bool.true_and, Bool.false_and, Bool.and_true, Bool.and_self, Bool.and_false, Bool.or_self, Bool.false_eq_true, b_ff, b_ft, b_tf, b_tt, Bool.not_true, Bool.not_false, BEq.rfl, decide_true, decide_false, Nat.le_refl, callE, zD, snilD, inilD, tasD, fnilD, AcE_tp, AcE_tw, twE, DcE_tp, appD, appSrc, fillD, fillP, D.pcells, cellPure, thenQ_pan, blockQ_pan, loopQ_pan, cntQ_nrm, cntQ_ret, cntQ_ext, cntQ_pan, indQ_nrm, indQ_ret, indQ_ext, indQ_pan, resQ, panQ_pan, rawQ, unD, and_self, and_true, true_and, not_true_eq_false, not_false_eq_true]
theorem list51e (V : List VO) (T : List Nat) :
    Ex orc1 F c51.body ⟨initE [.c (.sl 0 [])], V, T⟩ (rawQ c51.res [.ag [boD true, boD false, .fs 0 [], .fs 0 [], .fs 0 []]] (V ++ [⟨27, false, false, [boD true, boD false, .fs 0 [], .fs 0 [], .fs 0 []]⟩]) T) := by
  simp only [c51, orc1, cloneT, Nat.zero_mul, Nat.zero_le, DrwE_nil, DrwE_plain, DrwE_guard, GdE_true, GdE_false, DcE_q, DcE_push, DcE_rd, drdE, dcallE, Ex_seq, Ex_reg, Ex_ret, Ex_skip, Ex_exit, Ex_block, Ex_cond', condE_true, condE_false, loopQ_nrm, loopQ_ret, loopQ_ext, blockQ_nrm, blockQ_ret, blockQ_ext, OpsE_plain, OpsE_guard, OpsE_nil, GuE_true, GuE_false, guardD, act, callA, ev, upd, putE, AcE_q, AcE_push, AcE_rd', AcE_wr', rdE, wrE, initE, thenQ_nrm, thenQ_ret, thenQ_ext, retQ, qo_s, convD, D.slc, unBytes_bytesP, bytesP_length, binD, scD, blD, scBin, blBin, strBin, intBin, ressD, mapO, resD, D.frz, frzL, frz_cells, D.closed, closedL, closed_cells, mkV_true, gt0, gtk, st0, stk, List.append_assoc, List.length_append, D.fits, D.cells, partD, mkV_false, setAt, iadD, asI, List.map_cons, List.map_nil, List.getElem?_cons_zero, List.getElem?_cons_succ, List.getElem?_nil, List.length_cons, List.length_nil, List.drop_succ_cons, List.drop_zero, List.take_succ_cons, List.take_zero, List.nil_append, List.cons_append, List.set_cons_zero, List.set_cons_succ, Nat.reduceAdd, Nat.reduceLeDiff, Nat.reduceEqDiff, Nat.reduceBEq, beq_iff_eq, reduceCtorEq, ↓reduceIte, Option.map_some, Option.some.injEq, Bool.true_and, Bool.false_and, Bool.and_true, Bool.and_self, Bool.and_false, Bool.or_self, Bool.false_eq_true, b_ff, b_ft, b_tf, b_tt, Bool.not_true, Bool.not_false, BEq.rfl, decide_true, decide_false, Nat.le_refl, callE, zD, snilD, inilD, tasD, fnilD, AcE_tp, AcE_tw, twE, DcE_tp, appD, appSrc, fillD, fillP, D.pcells, cellPure, thenQ_pan, blockQ_pan, loopQ_pan, cntQ_nrm, cntQ_ret, cntQ_ext, cntQ_pan, indQ_nrm, indQ_ret, indQ_ext, indQ_pan, resQ, panQ_pan, rawQ, unD, and_self, and_true, true_and, not_true_eq_false, not_false_eq_true]
theorem clone116c (n : Nat) (cs : List Go.Abs.P) (hn : n ≠ 0) (hl : cs.length = n) (h2 : n ≤ room) : callV orcN F 116 [.c (.sl n cs)] = some (.ret (.c (.sl n cs))) := by
  obtain ⟨m, o, s', h3, h4⟩ := clone116 n cs hn hl h2 [] []
  refine callV_ret tr116 ⟨m, o, s', h3, ?_⟩
  cases o with
  | ret =>
    obtain ⟨k1, _⟩ := h4
    simp only [retQ, ressD]
    rw [k1]
    rfl
  | nrm =>
    obtain ⟨k1, _⟩ := h4
    simp only [retQ, ressD]
    rw [k1]
    rfl
  | ext i => exact h4.elim
  | pan d => exact h4.elim

theorem orcA_ok : OrcOk Tryz.prog orcA := by
  intro f h hf args ac hac w g V T cargs call out l hS hR hd
  unfold orcA at hf
  have hR' := frzL_rep hR
  split at hf
  · rename_i e
    subst e
    simp only [Option.some.injEq] at hf
    subst hf
    unfold listT at hac
    split at hac
    case h_2 => simp at hac
    rename_i x hargs
    rw [hargs] at hR'
    obtain ⟨a, rfl, rfl⟩ := frzL_one hargs
    split at hac
    case h_2 => simp at hac
    rename_i n cs hs
    split at hac
    case isFalse => simp at hac
    rename_i hc
    refine .inl ⟨enters_run (enters_of tr51), ?_⟩
    rw [frz_slc hs] at hR'
    split at hac
    · rename_i h0
      subst h0
      simp only [Option.some.injEq] at hac
      subst hac
      simp only [doAc, Option.some.injEq, Prod.mk.injEq] at hd
      obtain ⟨rfl, _⟩ := hd
      obtain rfl : cs = [] := List.eq_nil_of_length_eq_zero (by simpa using hc.1)
      refine ((callee_rawE orc1_ok mixed tr51 (list51e V T) hS hR').2).mono fun e w' hp => ?_
      obtain ⟨v, rfl, hg⟩ := hp
      obtain ⟨g', k1, k2, k3, k4⟩ := got_dropV hS hg rfl (Nat.le_refl _)
      exact ⟨v, rfl, g', k1, k2, ag_weak k3 rfl (fun i h1 h2 => by
        match i, h1 with
        | 0, _ => exact .inl rfl
        | 1, _ => exact .inl rfl
        | 2, _ => exact .inr rfl
        | 3, _ => exact .inr rfl
        | 4, _ => exact .inl rfl), k4⟩
    · rename_i hn
      simp only [Option.some.injEq] at hac
      subst hac
      simp only [doAc, Option.some.injEq, Prod.mk.injEq] at hd
      obtain ⟨rfl, _⟩ := hd
      refine ((callee_rawE orc1_ok mixed tr51 (list51 n cs hn hc.1 hc.2.1 hc.2.2 V T) hS hR').2).mono fun e w' hp => ?_
      obtain ⟨v, rfl, hg⟩ := hp
      obtain ⟨g', k1, k2, k3, k4⟩ := got_dropV hS hg (by simp [rawD, D.low, lowL]) (by simp)
      exact ⟨v, rfl, g', k1, k2, ag_weak k3 rfl (fun i h1 h2 => by
        match i, h1 with
        | 0, _ => exact .inl rfl
        | 1, _ => exact .inl rfl
        | 2, _ => exact .inr rfl
        | 3, _ => exact .inr rfl
        | 4, _ => exact .inl rfl), k4⟩
  · split at hf
    case isFalse => simp at hf
    rename_i e
    subst e
    simp only [Option.some.injEq] at hf
    subst hf
    unfold cloneC at hac
    split at hac
    case h_2 => simp at hac
    rename_i x hargs
    rw [hargs] at hR'
    obtain ⟨a, rfl, rfl⟩ := frzL_one hargs
    split at hac
    case h_2 => simp at hac
    rename_i n cs hs
    split at hac
    case isFalse => simp at hac
    rename_i hc
    simp only [Option.some.injEq] at hac
    subst hac
    simp only [doAc, Option.some.injEq, Prod.mk.injEq] at hd
    obtain ⟨rfl, _⟩ := hd
    by_cases h0 : n = 0
    · subst h0
      obtain rfl : cs = [] := List.eq_nil_of_length_eq_zero (by simpa using hc.1)
      refine .inl ⟨enters_run (enters_of tr116), (e116 hs hS hR').mono fun e w' hp => ?_⟩
      obtain ⟨v, rfl, g', k1, k2, k3, k4⟩ := hp
      exact ⟨v, rfl, g', k1, k2, frz_rep k3, k4⟩
    · obtain ⟨m, V1, T1, hm⟩ := of_callV (clone116c n cs h0 (by simpa using hc.1) hc.2.2)
      rw [frz_slc hs] at hR'
      exact call_ok (callN_ok orcN_ok mixed m) (f := 116) (ds := [.c (.sl n cs)]) (l := .q) hS hR' (by simp only [doAc, frzL, D.frz, closedL, D.closed, Bool.and_self, if_true, hm])
end Go.Proofs.YthglfhnlolefhaaGreatDoor
