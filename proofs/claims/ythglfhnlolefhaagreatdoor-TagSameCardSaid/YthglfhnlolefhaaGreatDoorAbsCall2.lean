/- Own framework, part 20: one operation's wp, calls and all. -/
import Derived.Test.YthglfhnlolefhaaGreatDoorAbsCall
import Derived.Orders
set_option linter.unusedVariables false
set_option linter.unusedSimpArgs false
namespace Go.Abs
open Go.RowKit (Below)

/-- What a callee ends in. -/
def PostOf (w : World) (g : Gh) (T : List Nat) : Out1 → Ending → World → Prop
  | .ok d V' T', e, w' => ∃ v, e = .returned v ∧ Got w g T w' v d V' T'
  | .pan d V' T', e, w' => ∃ v, e = .panicked [{ v, recovered := false }] ∧ Got w g T w' v d V' T'
def resOut : Res × List VO × List Nat → Out1
  | (.ret d, V, T) => .ok d V T
  | (.pan d, V, T) => .pan d V T
/-- What a function ends in: behind a panic nothing is said of the frame's own variables. -/
def PostC (w : World) (g : Gh) (T : List Nat) : Res × List VO × List Nat → Ending → World → Prop
  | (.ret d, V', T'), e, w' => ∃ v, e = .returned v ∧ Got w g T w' v d V' T'
  | (.pan d, _, _), e, w' => ∃ v, e = .panicked [{ v, recovered := false }] ∧ ∃ V' T', Got w g T w' v d V' T'
def Enters (P : Program) (f : FuncId) : Prop := ∃ fn, P.funcs[f]? = some fn ∧ (fn.name == "runtime.NumGoroutine") = false ∧ fn.body.isNone = false
/-- What is said of the callees. -/
def CallOk (P : Program) (call : CallF) : Prop := ∀ f args V T r, call f args V T = some r →
  Enters P f ∧ ∀ w g cargs, Sim w g V T → RepL w g T cargs args → Calls P f cargs w (PostC w g T r)
def CalleeOk (P : Program) (f : FuncId) (cargs : Array Value) (w : World) (post : Ending → World → Prop) : Prop :=
  ((callFunc f cargs).run P w = .ok (.enter f cargs) w ∧ Calls P f cargs w post) ∨ ∃ v w', (callFunc f cargs).run P w = .ok (.value v) w' ∧ post (.returned v) w'
/-- What is said of the table. -/
def OrcOk (P : Program) (orc : Orc) : Prop := ∀ f h, orc f = some h → ∀ args ac, h (frzL args) = some ac → ∀ w g V T cargs call out l, Sim w g V T → RepL w g T cargs args →
  doAc call V T ac = some (out, l) → CalleeOk P f cargs w (PostOf w g T out)

section
variable {P : Program} {w w' : World} {g : Gh} {V V' : List VO} {T T' : List Nat} {a : Act} {e : Env} {o : Oper} {orc : Orc} {call : CallF} {aop : AOp} {ac : Ac} {d : D} {l : Lab} {out : Out1}

theorem enters_run {f : FuncId} {args : Array Value} (h : Enters P f) : (callFunc f args).run P w = .ok (.enter f args) w := by
  obtain ⟨fn, h1, h2, h3⟩ := h
  have h2' : fn.name ≠ "runtime.NumGoroutine" := by simpa using h2
  have h3' : fn.body ≠ none := fun e => by simp [e] at h3
  simp [callFunc, h1, h2', h3']

theorem call_ok (hC : CallOk P call) {f : FuncId} {cargs : Array Value} {ds : List D} (hS : Sim w g V T) (hr : RepL w g T cargs ds) (hd : doAc call V T (.call f (frzL ds)) = some (out, l)) : CalleeOk P f cargs w (PostOf w g T out) := by
  simp only [doAc] at hd
  split at hd
  · rename_i hcl
    have hr0 : RepL w (g.clear w) [] cargs (frzL ds) := by
      have h1 := frzL_rep hr
      refine ⟨h1.1, fun i hi => closed_rep (h1.2 i hi) rfl ?_ (.inr ?_)⟩
      · rw [closedL_all, List.all_eq_true] at hcl
        exact hcl _ (List.getElem_mem hi)
      · simp only [frzL_map, List.getElem_map]
        exact frz_frz (hr.2 i (by simpa [frzL_map] using hi))
    split at hd
    · rename_i d V1 T1 hc
      obtain ⟨hE, hk⟩ := hC _ _ _ _ _ hc
      refine .inl ⟨enters_run hE, (hk w (g.clear w) cargs hS.clear hr0).mono fun en w' hp => ?_⟩
      obtain ⟨v, rfl, hg⟩ := hp
      split at hd
      · rename_i hcd
        simp only [Option.some.injEq, Prod.mk.injEq] at hd
        obtain ⟨rfl, _⟩ := hd
        exact ⟨v, rfl, got_closed hS hg hcd⟩
      · simp only [Option.some.injEq, Prod.mk.injEq] at hd
        obtain ⟨rfl, _⟩ := hd
        exact ⟨v, rfl, got_import hS hg⟩
    · rename_i d V1 T1 hc
      split at hd
      · rename_i hcd
        simp only [Option.some.injEq, Prod.mk.injEq] at hd
        obtain ⟨rfl, _⟩ := hd
        obtain ⟨hE, hk⟩ := hC _ _ _ _ _ hc
        refine .inl ⟨enters_run hE, (hk w (g.clear w) cargs hS.clear hr0).mono fun en w' hp => ?_⟩
        obtain ⟨v, rfl, V2, T2, hg⟩ := hp
        exact ⟨v, rfl, got_closed hS hg hcd⟩
      · simp at hd
    · simp at hd
  · split at hd
    · rename_i d V1 T1 hc
      split at hd
      · rename_i hcd
        simp only [Bool.and_eq_true, decide_eq_true_eq] at hcd
        obtain ⟨⟨⟨h1, h2⟩, h3⟩, h4⟩ := hcd
        simp only [Option.some.injEq, Prod.mk.injEq] at hd
        obtain ⟨rfl, _⟩ := hd
        obtain ⟨hE, hk⟩ := hC _ _ _ _ _ hc
        refine .inl ⟨enters_run hE, (hk w g cargs hS (frzL_rep hr)).mono fun en w' hp => ?_⟩
        obtain ⟨v, rfl, hg⟩ := hp
        exact ⟨v, rfl, got_take hS hg h1 h2 h3 h4⟩
      · simp at hd
    · simp at hd

theorem callA_ok (hC : CallOk P call) (hO : OrcOk P orc) {f : FuncId} {cargs : Array Value} {ds : List D} (hS : Sim w g V T) (hr : RepL w g T cargs ds) (ha : callA orc f ds = some ac) (hd : doAc call V T ac = some (out, l)) :
    CalleeOk P f cargs w (PostOf w g T out) := by
  unfold callA at ha
  split at ha
  · rename_i h ho
    exact hO f h ho _ ac ha w g V T cargs call out l hS hr hd
  · simp only [Option.some.injEq] at ha
    subst ha
    exact call_ok hC hS hr hd

/-- What stands behind an operation. -/
def Goes (w : World) (g : Gh) (T : List Nat) (a : Act) (o : Oper) (K : Act → World → Prop) (Q : Exit → Act → World → Prop) : Out1 → Prop
  | .ok d V' T' => ∀ v w', Got w g T w' v d V' T' → K (a.put o.dst v) w'
  | .pan d V' T' => ∀ v w', Got w g T w' v d V' T' → Q (.panic [{ v, recovered := false }]) a w'

theorem wp_callee {K : Act → World → Prop} {Q : Exit → Act → World → Prop} {f : FuncId} {cargs : Array Value} (hx : (execOp a.eval o).run P w = (callFunc f cargs).run P w) (hc : CalleeOk P f cargs w (PostOf w g T out))
    (hg : Goes w g T a o K Q out) : o.wp P a w K Q := by
  unfold Oper.wp
  rw [hx]
  rcases hc with ⟨h1, h2⟩ | ⟨v, w', h1, h2⟩
  · rw [h1]
    simp only [Oper.upon]
    refine h2.mono fun en w' hp => ?_
    cases out with
    | ok d V' T' => obtain ⟨v, rfl, h⟩ := hp; exact hg v w' h
    | pan d V' T' => obtain ⟨v, rfl, h⟩ := hp; exact hg v w' h
  · rw [h1]
    simp only [Oper.upon]
    cases out with
    | ok d V' T' => obtain ⟨v', h3, h⟩ := h2; simp only [Ending.returned.injEq] at h3; subst h3; exact hg _ w' h
    | pan d V' T' => obtain ⟨v', h3, h⟩ := h2; simp at h3

theorem wp_stg {K : Act → World → Prop} {Q : Exit → Act → World → Prop} (h : StG P w g T a o d V' T') (hg : ∀ v w', Got w g T w' v d V' T' → K (a.put o.dst v) w') : o.wp P a w K Q := by
  obtain ⟨w', v, h1, h2⟩ := h
  unfold Oper.wp
  rcases h1 with h1 | ⟨h1, rfl⟩
  · rw [h1]; exact hg v w' h2
  · rw [h1]; exact hg undef w' h2

theorem trCall_call {c : Call} {f : FuncId} {xs : List Opd} (hm : trCall P c = some (.call f xs)) : c.callee = .value (.func f) ∧ opds c.args.toList = some xs := by
  unfold trCall at hm
  repeat' split at hm
  all_goals first
    | (rename_i h1; obtain ⟨ys, h2, h3⟩ := Option.map_eq_some_iff.1 hm; simp only [AOp.call.injEq] at h3; obtain ⟨rfl, rfl⟩ := h3; exact ⟨h1, h2⟩)
    | (exfalso; simp [Option.bind_eq_some_iff] at hm; done)
    | (exfalso; obtain ⟨_, _, hm⟩ := Option.bind_eq_some_iff.1 hm; repeat' split at hm
       all_goals (simp [Option.bind_eq_some_iff] at hm; done))
    | (exfalso; obtain ⟨_, _, hm⟩ := Option.bind_eq_some_iff.1 hm; obtain ⟨_, _, hm⟩ := Option.bind_eq_some_iff.1 hm; repeat' split at hm
       all_goals first
        | (simp [Option.bind_eq_some_iff] at hm; done)
        | (obtain ⟨_, _, hm⟩ := Option.bind_eq_some_iff.1 hm; obtain ⟨_, _, hm⟩ := Option.bind_eq_some_iff.1 hm; obtain ⟨_, _, hm⟩ := Option.bind_eq_some_iff.1 hm; repeat' split at hm
           all_goals (simp [Option.bind_eq_some_iff] at hm; done)))

theorem trCall_dyn {c : Call} {y : Opd} {xs : List Opd} (hm : trCall P c = some (.dyn y xs)) : ∃ t, y = .t t ∧ c.callee = .value (.tmp t) ∧ opds c.args.toList = some xs := by
  unfold trCall at hm
  repeat' split at hm
  all_goals first
    | (rename_i h1; obtain ⟨ys, h2, h3⟩ := Option.map_eq_some_iff.1 hm; simp only [AOp.dyn.injEq] at h3; obtain ⟨rfl, rfl⟩ := h3; exact ⟨_, rfl, h1, h2⟩)
    | (exfalso; simp [Option.bind_eq_some_iff] at hm; done)
    | (exfalso; obtain ⟨_, _, hm⟩ := Option.bind_eq_some_iff.1 hm; repeat' split at hm
       all_goals (simp [Option.bind_eq_some_iff] at hm; done))
    | (exfalso; obtain ⟨_, _, hm⟩ := Option.bind_eq_some_iff.1 hm; obtain ⟨_, _, hm⟩ := Option.bind_eq_some_iff.1 hm; repeat' split at hm
       all_goals first
        | (simp [Option.bind_eq_some_iff] at hm; done)
        | (obtain ⟨_, _, hm⟩ := Option.bind_eq_some_iff.1 hm; obtain ⟨_, _, hm⟩ := Option.bind_eq_some_iff.1 hm; obtain ⟨_, _, hm⟩ := Option.bind_eq_some_iff.1 hm; repeat' split at hm
           all_goals (simp [Option.bind_eq_some_iff] at hm; done)))

theorem trOp_call {f : FuncId} {xs : List Opd} (hm : trOp P o = some (.call f xs)) : ∃ c, o.op = .call c ∧ trCall P c = some (.call f xs) := by
  unfold trOp at hm
  split at hm
  all_goals try unfold mksOf at hm
  all_goals first
    | exact ⟨_, by assumption, hm⟩
    | skip
  all_goals exfalso
  all_goals repeat' split at hm
  all_goals first
    | (simp [Option.bind_eq_some_iff] at hm; done)
    | (obtain ⟨_, _, hm⟩ := Option.bind_eq_some_iff.1 hm; repeat' split at hm
       all_goals (simp [Option.bind_eq_some_iff] at hm; done))
    | (obtain ⟨_, _, hm⟩ := Option.bind_eq_some_iff.1 hm; obtain ⟨_, _, hm⟩ := Option.bind_eq_some_iff.1 hm; obtain ⟨_, _, hm⟩ := Option.bind_eq_some_iff.1 hm; repeat' split at hm
       all_goals (simp [Option.bind_eq_some_iff] at hm; done))

theorem trOp_dyn {y : Opd} {xs : List Opd} (hm : trOp P o = some (.dyn y xs)) : ∃ c, o.op = .call c ∧ trCall P c = some (.dyn y xs) := by
  unfold trOp at hm
  split at hm
  all_goals try unfold mksOf at hm
  all_goals first
    | exact ⟨_, by assumption, hm⟩
    | skip
  all_goals exfalso
  all_goals repeat' split at hm
  all_goals first
    | (simp [Option.bind_eq_some_iff] at hm; done)
    | (obtain ⟨_, _, hm⟩ := Option.bind_eq_some_iff.1 hm; repeat' split at hm
       all_goals (simp [Option.bind_eq_some_iff] at hm; done))
    | (obtain ⟨_, _, hm⟩ := Option.bind_eq_some_iff.1 hm; obtain ⟨_, _, hm⟩ := Option.bind_eq_some_iff.1 hm; obtain ⟨_, _, hm⟩ := Option.bind_eq_some_iff.1 hm; repeat' split at hm
       all_goals (simp [Option.bind_eq_some_iff] at hm; done))

theorem op_ok (hAg : AgOk P) (hC : CallOk P call) (hO : OrcOk P orc) (hm : trOp P o = some aop) (he : EnvOk w g T a.tmps e) (hS : Sim w g V T) (ha : act orc e aop = some ac) (hd : doAc call V T ac = some (out, l))
    {K : Act → World → Prop} {Q : Exit → Act → World → Prop} (hg : Goes w g T a o K Q out) : o.wp P a w K Q := by
  cases hpl : aop.plain with
  | true =>
    cases out with
    | ok d V' T' => exact wp_stg (act_ok hAg hm hpl he hS ha hd) hg
    | pan d V' T' =>
      obtain ⟨rfl, rfl, rfl, h1, v, h2, h3⟩ := act_pan hm hpl he ha hd
      unfold Oper.wp
      rw [h2]
      exact hg v w (got_same hS h3)
  | false =>
    cases aop with
    | call f xs =>
      obtain ⟨c, hop, hc⟩ := trOp_call hm
      obtain ⟨h1, h2⟩ := trCall_call hc
      simp only [act] at ha
      have hr := opds_rep he h2
      refine wp_callee (cargs := (c.args.toList.map a.eval).toArray) ?_ (callA_ok hC hO hS hr ha hd) hg
      have hsz : (c.args.map a.eval) = (c.args.toList.map a.eval).toArray := by rw [← Array.toList_map]
      simp [execOp, hop, resolve, h1, Deferred.ofValue, Act.eval, invoke, hsz]
    | dyn y xs =>
      obtain ⟨c, hop, hc⟩ := trOp_dyn hm
      obtain ⟨t, rfl, h1, h2⟩ := trCall_dyn hc
      simp only [act] at ha
      split at ha
      · rename_i f cap hv
        have hr := opds_rep he h2
        have ht := he t
        have hv : e t = .fn f cap := hv
        rw [hv] at ht
        obtain ⟨cs, h3, h4⟩ := rep_fn ht
        have hr2 : RepL w g T ((c.args.toList.map a.eval).toArray ++ cs) (xs.map (ev e) ++ cap) := by
          refine ⟨by rw [Array.size_append, List.length_append, hr.1, h4.1], fun i hi => ?_⟩
          by_cases hlt : i < (xs.map (ev e)).length
          · rw [List.getElem_append_left hlt]
            have := hr.2 i hlt
            rw [Array.getD_eq_getD_getElem?] at this ⊢
            rw [Array.getElem?_append_left (by rw [hr.1]; exact hlt)]
            exact this
          · rw [List.getElem_append_right (by omega)]
            have hlt2 : i - (xs.map (ev e)).length < cap.length := by rw [List.length_append] at hi; omega
            have := h4.2 _ hlt2
            rw [Array.getD_eq_getD_getElem?] at this ⊢
            rw [Array.getElem?_append_right (by rw [hr.1]; omega), hr.1]
            exact this
        refine wp_callee (cargs := (c.args.toList.map a.eval).toArray ++ cs) ?_ (callA_ok hC hO hS hr2 ha hd) hg
        have hsz : (c.args.map a.eval) = (c.args.toList.map a.eval).toArray := by rw [← Array.toList_map]
        simp only [execOp, hop, resolve, h1, Act.eval, h3, Deferred.ofValue, hsz]
        simp [invoke]
      · simp at ha
    | _ => simp [AOp.plain] at hpl
end
end Go.Abs
