/- Own framework, part 18: one theorem on all operations. -/
import Derived.Test.YthglfhnlolefhaaGreatDoorAbsMain3
set_option linter.unusedVariables false
set_option linter.unusedSimpArgs false
namespace Go.Abs
open Go.RowKit (Below)

section
variable {P : Program} {w : World} {g : Gh} {V V' : List VO} {T T' : List Nat} {a : Act} {e : Env} {o : Oper} {orc : Orc} {call : CallF} {aop : AOp} {ac : Ac} {d : D} {l : Lab}

theorem plain_of (hm : trOp P o = some aop) (h : aop.plain = true) : (∀ c, o.op = .call c → ∃ b, c.callee = .builtin b) := by
  intro c hop
  simp only [trOp, hop] at hm
  unfold trCall at hm
  split at hm
  · cases hx : opds c.args.toList with
    | none => simp [hx] at hm
    | some xs => simp only [hx, Option.map_some, Option.some.injEq] at hm; subst hm; simp [AOp.plain] at h
  · cases hx : opds c.args.toList with
    | none => simp [hx] at hm
    | some xs => simp only [hx, Option.map_some, Option.some.injEq] at hm; subst hm; simp [AOp.plain] at h
  · simp at hm
  · simp at hm
  · rename_i b hb; exact ⟨b, hb⟩

theorem act_ok (hAg : AgOk P) (hm : trOp P o = some aop) (hpl : aop.plain = true) (he : EnvOk w g T a.tmps e) (hS : Sim w g V T) (ha : act orc e aop = some ac) (hd : doAc call V T ac = some (.ok d V' T', l)) : StG P w g T a o d V' T' := by
  cases hop : o.op with
  | move x =>
    simp only [trOp, hop] at hm
    cases hx : opd x with
    | none => simp [hx] at hm
    | some x' =>
      simp only [hx, Option.map_some, Option.some.injEq] at hm
      subst hm
      simp only [act, Option.some.injEq] at ha
      subst ha
      obtain ⟨rfl, rfl, rfl⟩ := doAc_q hd
      exact (yl_mv (.inl hop) hx he).stg hS
  | assign x =>
    simp only [trOp, hop] at hm
    cases hx : opd x with
    | none => simp [hx] at hm
    | some x' =>
      simp only [hx, Option.map_some, Option.some.injEq] at hm
      subst hm
      simp only [act, Option.some.injEq] at ha
      subst ha
      obtain ⟨rfl, rfl, rfl⟩ := doAc_q hd
      exact (yl_mv (.inr hop) hx he).stg hS
  | pick c x y =>
    simp only [trOp, hop] at hm
    cases hc : opd c with
    | none => simp [hc] at hm
    | some c' =>
    cases hx : opd x with
    | none => simp [hc, hx] at hm
    | some x' =>
    cases hy : opd y with
    | none => simp [hc, hx, hy] at hm
    | some y' =>
      simp only [hc, hx, hy, Option.bind_eq_bind, Option.bind_some, Option.some.injEq] at hm
      subst hm
      simp only [act] at ha
      split at ha
      · rename_i t hv
        simp only [Option.some.injEq] at ha
        subst ha
        obtain ⟨rfl, rfl, rfl⟩ := doAc_q hd
        exact (yl_pick hop hc hx hy he hv).stg hS
      · simp at ha
  | alloc t =>
    simp only [trOp, hop] at hm
    cases hz : zeroT P t with
    | none => simp [hz] at hm
    | some z =>
      simp only [hz, Option.map_some, Option.some.injEq] at hm
      subst hm
      simp only [act, Option.some.injEq] at ha
      subst ha
      simp only [doAc, Option.some.injEq, Prod.mk.injEq, Out1.ok.injEq] at hd
      obtain ⟨⟨rfl, rfl, rfl⟩, _⟩ := hd
      exact st_alloc hop hz hS
  | box t x =>
    simp only [trOp, hop] at hm
    cases hs : sizeT P t with
    | none => simp [hs] at hm
    | some sz =>
    cases hx : opd x with
    | none => simp [hs, hx] at hm
    | some x' =>
      simp only [hs, hx, Option.bind_eq_bind, Option.bind_some, Option.some.injEq] at hm
      subst hm
      simp only [act] at ha
      split at ha
      · rename_i hf
        simp only [Option.some.injEq] at ha
        subst ha
        simp only [doAc, Option.some.injEq, Prod.mk.injEq, Out1.ok.injEq] at hd
        obtain ⟨⟨rfl, rfl, rfl⟩, _⟩ := hd
        exact st_box hop hx he hf hS
      · simp at ha
  | build t parts => exact ok_build hop hm he hS ha hd
  | buildSlice t n parts => exact ok_bsl hop hm he hS ha hd
  | load t x => exact ok_load hop hm he hS ha hd
  | store t p x => exact ok_store hop hm he hS ha hd
  | nilCheck x =>
    simp only [trOp, hop] at hm
    cases hx : opd x with
    | none => simp [hx] at hm
    | some x' =>
      simp only [hx, Option.map_some, Option.some.injEq] at hm
      subst hm
      simp only [act] at ha
      split at ha
      · rename_i cs hv
        simp only [Option.some.injEq] at ha
        subst ha
        obtain ⟨rfl, rfl, rfl⟩ := doAc_q hd
        exact (yl_nilck_ip hop hx he hv).stg hS
      · rename_i id off hv
        simp only [Option.some.injEq] at ha
        subst ha
        obtain ⟨rfl, rfl, rfl⟩ := doAc_q hd
        exact (yl_nilck_mp hop hx he hv).stg hS
      · simp at ha
  | binOp op t x y t' => exact ok_bin hAg hop hm he hS ha hd
  | unOp op t x =>
    simp only [trOp, hop] at hm
    cases hx : opd x with
    | none => simp [hx] at hm
    | some x' =>
      simp only [hx, Option.map_some, Option.some.injEq] at hm
      subst hm
      simp only [act] at ha
      obtain ⟨d', hq, rfl⟩ := qo_some ha
      obtain ⟨rfl, rfl, rfl⟩ := doAc_q hd
      exact (yl_un hop hx he hq).stg hS
  | convert src dst x => exact ok_conv hop hm he hS ha hd
  | makeInterface t x =>
    simp only [trOp, hop] at hm
    split at hm
    · simp at hm
    · rename_i u hni hu
      cases hx : opd x with
      | none => simp [hx] at hm
      | some x' =>
        simp only [hx, Option.map_some, Option.some.injEq] at hm
        subst hm
        simp only [act, Option.some.injEq] at ha
        subst ha
        obtain ⟨rfl, rfl, rfl⟩ := doAc_q hd
        exact (yl_mki hop hu (fun ms h => hni ms h) hx he).stg hS
    · simp at hm
  | makeFunc fn first caps =>
    cases fn with
    | func f =>
      simp only [trOp, hop] at hm
      split at hm
      · rename_i hf
        have hf' : first = #[] := by simpa using hf
        subst hf'
        cases hx : opds caps.toList with
        | none => simp [hx] at hm
        | some cs =>
          simp only [hx, Option.map_some, Option.some.injEq] at hm
          subst hm
          simp only [act, Option.some.injEq] at ha
          subst ha
          obtain ⟨rfl, rfl, rfl⟩ := doAc_q hd
          exact (yl_mkf hop hx he).stg hS
      · simp at hm
    | _ => simp [trOp, hop] at hm
  | makeSlice t lo hi =>
    simp only [trOp, hop, mksOf] at hm
    split at hm <;> try (simp at hm; done)
    split at hm
    · rename_i n m et hu
      cases hs : sizeT P et with
      | none => simp [hs] at hm
      | some s =>
      cases hb : bytesT P et with
      | none => simp [hs, hb] at hm
      | some b =>
      cases hz : zeroT P et with
      | none => simp [hs, hb, hz] at hm
      | some z =>
        simp only [hs, hb, hz, Option.bind_eq_bind, Option.bind_some] at hm
        split at hm
        · simp at hm
        · rename_i hc
          simp only [Option.some.injEq] at hm
          subst hm
          simp only [act, Option.some.injEq] at ha
          subst ha
          obtain ⟨rfl, rfl, rfl⟩ := doAc_q hd
          simp only [Bool.or_eq_true, bne_iff_ne, ne_eq, decide_eq_true_eq, not_or, Decidable.not_not] at hc
          obtain ⟨⟨⟨⟨⟨h1, h2⟩, h3⟩, h4⟩, h5⟩, h6⟩ := hc
          subst h1
          exact st_mks hop hu hs hb hz (by omega) h3 (by omega) (by omega) h6 hS
    · simp at hm
  | slice t x lo hi mx => exact ok_slice hop hm he hS ha hd
  | fieldAddr t x i =>
    simp only [trOp, hop] at hm
    cases hf : fieldOf P t i with
    | none => simp [hf] at hm
    | some y =>
      obtain ⟨ag, off, sz⟩ := y
      cases hx : opd x with
      | none => simp [hf, hx] at hm
      | some x' =>
        simp only [hf, hx, Option.bind_eq_bind, Option.bind_some, Option.some.injEq] at hm
        subst hm
        simp only [act] at ha
        split at ha
        · rename_i cs hv
          simp only [Option.some.injEq] at ha
          subst ha
          obtain ⟨rfl, rfl, rfl⟩ := doAc_q hd
          exact (yl_fad_ip hop hf hx he hv).stg hS
        · rename_i id p hv
          simp only [Option.some.injEq] at ha
          subst ha
          obtain ⟨rfl, rfl, rfl⟩ := doAc_q hd
          exact (yl_fad_mp hop hf hx he hv).stg hS
        · simp at ha
  | field t x i =>
    simp only [trOp, hop] at hm
    cases hf : fieldOf P t i with
    | none => simp [hf] at hm
    | some y =>
      obtain ⟨ag, off, sz⟩ := y
      cases hx : opd x with
      | none => simp [hf, hx] at hm
      | some x' =>
        simp only [hf, hx, Option.bind_eq_bind, Option.bind_some, Option.some.injEq] at hm
        subst hm
        simp only [act] at ha
        split at ha
        · rename_i cs hv
          obtain ⟨d', hq, rfl⟩ := qo_some ha
          obtain ⟨rfl, rfl, rfl⟩ := doAc_q hd
          exact (yl_fld hop hf hx he hv hq).stg hS
        · simp at ha
  | indexAddr t x i =>
    simp only [trOp, hop] at hm
    cases hk : skOf P t with
    | none => simp [hk] at hm
    | some k =>
    cases hx : opd x with
    | none => simp [hk, hx] at hm
    | some x' =>
    cases hi : opd i with
    | none => simp [hk, hx, hi] at hm
    | some i' =>
      simp only [hk, hx, hi, Option.bind_eq_bind, Option.bind_some, Option.some.injEq] at hm
      subst hm
      simp only [act] at ha
      obtain ⟨d', rfl⟩ : ∃ d', ac = .q d' := by
        unfold iadD at ha
        repeat' split at ha
        all_goals first
          | (simp only [Option.some.injEq] at ha; exact ⟨_, ha.symm⟩)
          | (simp at ha; done)
      obtain ⟨rfl, rfl, rfl⟩ := doAc_q hd
      exact (yl_iad hop hk hx hi he ha).stg hS
  | index t x i =>
    simp only [trOp, hop] at hm
    cases hag : elAg P t with
    | none => simp only [hag, Option.bind_eq_bind, Option.bind_none, reduceCtorEq] at hm
    | some ag =>
    cases hk : skOf P t with
    | none => simp only [hag, hk, Option.bind_eq_bind, Option.bind_some, Option.bind_none, reduceCtorEq] at hm
    | some k =>
    cases hx : opd x with
    | none => simp only [hag, hk, hx, Option.bind_eq_bind, Option.bind_some, Option.bind_none, reduceCtorEq] at hm
    | some x' =>
    cases hi : opd i with
    | none => simp only [hag, hk, hx, hi, Option.bind_eq_bind, Option.bind_some, Option.bind_none, reduceCtorEq] at hm
    | some i' =>
      simp only [hag, hk, hx, hi, Option.bind_eq_bind, Option.bind_some, Option.some.injEq] at hm
      subst hm
      simp only [act] at ha
      obtain ⟨d', hq, rfl⟩ := qo_some ha
      obtain ⟨rfl, rfl, rfl⟩ := doAc_q hd
      exact (yl_idx hop hk (fun n et hu => by simpa only [elAg, hu] using hag) hx hi he hq).stg hS
  | range t x =>
    simp only [trOp, hop] at hm
    split at hm
    · rename_i hu
      cases hx : opd x with
      | none => simp [hx] at hm
      | some x' =>
        simp only [hx, Option.map_some, Option.some.injEq] at hm
        subst hm
        simp only [act] at ha
        split at ha
        · rename_i s hv
          simp only [Option.some.injEq] at ha
          subst ha
          simp only [doAc, Option.some.injEq, Prod.mk.injEq, Out1.ok.injEq] at hd
          obtain ⟨⟨rfl, rfl, rfl⟩, _⟩ := hd
          exact st_rng hop hu hx he hv hS
        · simp at ha
    · simp at hm
  | next x b =>
    cases b with
    | false => simp [trOp, hop] at hm
    | true =>
      simp only [trOp, hop] at hm
      cases hx : opd x with
      | none => simp [hx] at hm
      | some x' =>
        simp only [hx, Option.map_some, Option.some.injEq] at hm
        subst hm
        simp only [act] at ha
        split at ha
        · rename_i id hv
          simp only [Option.some.injEq] at ha
          subst ha
          simp only [doAc] at hd
          cases ho : V[id]? with
          | none => simp [ho] at hd
          | some vo =>
            simp only [ho] at hd
            split at hd
            · rename_i s p hit hcs
              obtain ⟨h1, h2⟩ := st_nxt (P := P) (t := 0) hop hx he hv ho hit hcs hS
              split at hd
              · rename_i hlt
                simp only [Option.some.injEq, Prod.mk.injEq, Out1.ok.injEq] at hd
                obtain ⟨⟨rfl, rfl, rfl⟩, _⟩ := hd
                exact h1 hlt
              · rename_i hlt
                simp only [Option.some.injEq, Prod.mk.injEq, Out1.ok.injEq] at hd
                obtain ⟨⟨rfl, rfl, rfl⟩, _⟩ := hd
                exact h2 hlt
            · simp at hd
        · simp at ha
  | extract x i =>
    simp only [trOp, hop] at hm
    cases hx : opd x with
    | none => simp [hx] at hm
    | some x' =>
      simp only [hx, Option.map_some, Option.some.injEq] at hm
      subst hm
      simp only [act] at ha
      split at ha
      · rename_i vs hv
        split at ha
        · rename_i d' hd'
          simp only [Option.some.injEq] at ha
          subst ha
          obtain ⟨rfl, rfl, rfl⟩ := doAc_q hd
          exact (yl_ext hop hx he hv hd').stg hS
        · simp at ha
      · simp at ha
  | typeAssert x xt t b =>
    cases b with
    | false => simp [trOp, hop] at hm
    | true =>
      simp only [trOp, hop] at hm
      split at hm
      · simp at hm
      · rename_i u hni hu
        cases hx : opd x with
        | none => simp [hx] at hm
        | some x' =>
          simp only [hx, Option.map_some, Option.some.injEq] at hm
          subst hm
          simp only [act] at ha
          obtain ⟨d', hq, rfl⟩ := qo_some ha
          obtain ⟨rfl, rfl, rfl⟩ := doAc_q hd
          exact (yl_tas hop hu (fun ms h => hni ms h) hx he hq).stg hS
      · simp at hm
  | call c =>
    obtain ⟨b, hb⟩ := plain_of hm hpl c hop
    obtain ⟨callee, args, argTypes⟩ := c
    simp only at hb
    subst hb
    simp only [trOp, hop] at hm
    exact ok_builtin hop hm he hS ha hd
  | panic x =>
    simp only [trOp, hop] at hm
    cases hx : opd x with
    | none => simp [hx] at hm
    | some x' =>
      simp only [hx, Option.map_some, Option.some.injEq] at hm
      subst hm
      simp only [act] at ha
      split at ha
      · simp only [Option.some.injEq] at ha
        subst ha
        simp only [doAc] at hd
        split at hd <;> simp at hd
      · simp at ha
  | _ => simp [trOp, hop] at hm

theorem trOp_panic {x' : Opd} (hm : trOp P o = some (.panic x')) : ∃ x, o.op = .panic x ∧ opd x = some x' := by
  unfold trOp at hm
  split at hm
  all_goals try unfold trCall at hm
  all_goals try unfold mksOf at hm
  all_goals repeat' split at hm
  all_goals first
    | (exfalso; simp [Option.bind_eq_some_iff] at hm; done)
    | exact ⟨_, by assumption, by simpa using hm⟩
    | (exfalso; obtain ⟨_, _, hm⟩ := Option.bind_eq_some_iff.1 hm; repeat' split at hm
       all_goals (simp [Option.bind_eq_some_iff] at hm; done))
    | (exfalso; obtain ⟨_, _, hm⟩ := Option.bind_eq_some_iff.1 hm; obtain ⟨_, _, hm⟩ := Option.bind_eq_some_iff.1 hm; repeat' split at hm
       all_goals first
        | (simp [Option.bind_eq_some_iff] at hm; done)
        | (obtain ⟨_, _, hm⟩ := Option.bind_eq_some_iff.1 hm; obtain ⟨_, _, hm⟩ := Option.bind_eq_some_iff.1 hm; obtain ⟨_, _, hm⟩ := Option.bind_eq_some_iff.1 hm; repeat' split at hm
           all_goals (simp [Option.bind_eq_some_iff] at hm; done)))
    | (exfalso; obtain ⟨_, _, hm⟩ := Option.bind_eq_some_iff.1 hm; obtain ⟨_, _, hm⟩ := Option.bind_eq_some_iff.1 hm; obtain ⟨_, _, hm⟩ := Option.bind_eq_some_iff.1 hm; repeat' split at hm
       all_goals (simp [Option.bind_eq_some_iff] at hm; done))

theorem act_pan (hm : trOp P o = some aop) (hpl : aop.plain = true) (he : EnvOk w g T a.tmps e) (ha : act orc e aop = some ac) (hd : doAc call V T ac = some (.pan d V' T', l)) :
    V' = V ∧ T' = T ∧ l = .pan ∧ d.closed = true ∧ ∃ v, (execOp a.eval o).run P w = .halt (.panic v) w ∧ RepD w g T v d := by
  have hac : ∃ x, ac = .pan x ∧ x.closed = true ∧ d = x ∧ V' = V ∧ T' = T ∧ l = .pan := by
    cases ac with
    | pan x =>
      simp only [doAc] at hd
      split at hd
      · rename_i hc
        simp only [Option.some.injEq, Prod.mk.injEq, Out1.pan.injEq] at hd
        exact ⟨x, rfl, hc, hd.1.1.symm, hd.1.2.1.symm, hd.1.2.2.symm, hd.2.symm⟩
      · simp at hd
    | call f args =>
      exfalso
      cases aop with
      | call f args => simp [AOp.plain] at hpl
      | dyn x args => simp [AOp.plain] at hpl
      | _ =>
        simp only [act, qo, slcD, iadD, appD] at ha
        repeat' split at ha
        all_goals simp at ha
    | _ =>
      exfalso
      simp only [doAc] at hd
      repeat' split at hd
      all_goals simp at hd
  obtain ⟨x, rfl, hc, rfl, rfl, rfl, rfl⟩ := hac
  refine ⟨rfl, rfl, rfl, hc, ?_⟩
  cases aop with
  | panic x' =>
    simp only [act] at ha
    split at ha
    · rename_i t y hv
      simp only [Option.some.injEq, Ac.pan.injEq] at ha
      subst ha
      obtain ⟨x, hop, hx⟩ := trOp_panic hm
      have h1 := opd_rep he hx
      rw [hv] at h1
      obtain ⟨z, hz, hr⟩ := rep_ifc h1
      exact ⟨.iface t z, by simp [execOp, hop, hz, Instr.panic], .ifc (frz_rep hr)⟩
    · simp at ha
  | call f args => simp [AOp.plain] at hpl
  | dyn x args => simp [AOp.plain] at hpl
  | _ =>
    exfalso
    simp only [act, qo, slcD, iadD, appD] at ha
    repeat' split at ha
    all_goals simp at ha
end
end Go.Abs
