/- Own framework, part 15: every operation of the machine that was turned into an abstract one does what that one tells. -/
import Derived.Test.YthglfhnlolefhaaGreatDoorAbsStep9
set_option linter.unusedVariables false
set_option linter.unusedSimpArgs false
namespace Go.Abs
open Go.RowKit (Below)

theorem doAc_q {call : CallF} {V V' : List VO} {T T' : List Nat} {x d : D} {l : Lab} (h : doAc call V T (.q x) = some (.ok d V' T', l)) : d = x ∧ V' = V ∧ T' = T := by
  simp only [doAc, Option.some.injEq, Prod.mk.injEq, Out1.ok.injEq] at h
  exact ⟨h.1.1.symm, h.1.2.1.symm, h.1.2.2.symm⟩
theorem qo_some {o : Option D} {ac : Ac} (h : qo o = some ac) : ∃ d, o = some d ∧ ac = .q d := by
  unfold qo at h
  split at h
  · rename_i d; simp only [Option.some.injEq] at h; exact ⟨d, rfl, h.symm⟩
  · simp at h
theorem optOpd {x : Option Operand} {y : Option Opd} (h : optO x = some y) : OptOpd x y := by
  cases x with
  | none => simp only [optO, Option.some.injEq] at h; exact .inl ⟨rfl, h.symm⟩
  | some z =>
    simp only [optO] at h
    cases hz : opd z with
    | none => simp [hz] at h
    | some z' => simp only [hz, Option.map_some, Option.some.injEq] at h; exact .inr ⟨z, z', rfl, h.symm, hz⟩

section
variable {P : Program} {w : World} {g : Gh} {V V' : List VO} {T T' : List Nat} {a : Act} {e : Env} {o : Oper} {orc : Orc} {call : CallF} {aop : AOp} {ac : Ac} {d : D} {l : Lab}

/-- The operation is no call. -/
def AOp.plain : AOp → Bool
  | .call _ _ | .dyn _ _ => false
  | _ => true

theorem ok_bin {op : BinOp} {t t' : TypeId} {x y : Operand} (hAg : AgOk P) (hop : o.op = .binOp op t x y t') (hm : trOp P o = some aop) (he : EnvOk w g T a.tmps e) (hS : Sim w g V T) (ha : act orc e aop = some ac) (hd : doAc call V T ac = some (.ok d V' T', l)) : StG P w g T a o d V' T' := by
  simp only [trOp, hop] at hm
  cases hu : P.underlying t with
  | none => simp [hu] at hm
  | some u =>
    have sc : ∀ (x' y' : Opd), opd x = some x' → opd y = some y' → aop = .bin op .sc x' y' → StG P w g T a o d V' T' := by
      rintro x' y' hx hy rfl
      simp only [act, binD] at ha
      obtain ⟨d', h1, rfl⟩ := qo_some ha
      obtain ⟨rfl, rfl, rfl⟩ := doAc_q hd
      exact (yl_bin_sc hop hx hy he h1).stg hS
    have ag : aggT P t = some true → ∀ (x' y' : Opd) (ks : List EK), opd x = some x' → opd y = some y' → agOf P t = some ks → aop = .bin op (.ag ks) x' y' → StG P w g T a o d V' T' := by
      rintro hagt x' y' ks hx hy hks rfl
      obtain ⟨hgt, hp⟩ : P.eqGuardType P.depth t = false ∧ plainEq P 30 t = some ks := by
        unfold agOf at hks
        split at hks
        · simp at hks
        · rename_i h; exact ⟨by simpa using h, hks⟩
      simp only [act, binD] at ha
      obtain ⟨d', h1, rfl⟩ := qo_some ha
      obtain ⟨rfl, rfl, rfl⟩ := doAc_q hd
      refine Yl.stg ?_ hS
      unfold agD at h1
      split at h1
      · rename_i xs ys hxv hyv
        have r1 := opd_rep he hx
        have r2 := opd_rep he hy
        rw [hxv] at r1
        rw [hyv] at r2
        obtain ⟨cx, e1, l1, _⟩ := rep_ag r1
        obtain ⟨cy, e2, l2, _⟩ := rep_ag r2
        have hgd : (eqGuard op t x y (.agg cx) (.agg cy)).run P w = .ok () w := by
          unfold eqGuard
          cases op <;> simp [hgt]
        split at h1
        · cases hq : eqCells ks xs ys with
          | none => simp [hq] at h1
          | some r =>
            simp only [hq, Option.map_some, Option.some.injEq] at h1
            subst h1
            have hq2 := hAg t cx cy xs ys ks r w g _ hagt hp l1 l2 hq
            refine ⟨.bool r, ?_, sc_rep rfl⟩
            simp only [execOp, hop, e1, e2, Sem.run_bind, hgd, Result.andThen_ok, binOp, hq2, Sem.run_pure]
        · cases hq : eqCells ks xs ys with
          | none => simp [hq] at h1
          | some r =>
            simp only [hq, Option.map_some, Option.some.injEq] at h1
            subst h1
            have hq2 := hAg t cx cy xs ys ks r w g _ hagt hp l1 l2 hq
            refine ⟨.bool (!r), ?_, sc_rep rfl⟩
            simp only [execOp, hop, e1, e2, Sem.run_bind, hgd, Result.andThen_ok, binOp, hq2, Sem.run_pure]
        · simp at h1
      · simp at h1
    cases hx : opd x with
    | none =>
      simp only [hu, hx] at hm
      split at hm <;> (try split at hm) <;> simp at hm
    | some x' =>
      cases hy : opd y with
      | none =>
        simp only [hu, hx, hy] at hm
        split at hm <;> first
          | (simp at hm; done)
          | (split at hm <;> first
              | (simp at hm; done)
              | (rename_i hyy; simp [opd, constD, cellP] at hy)
              | (cases hz : agOf P t <;> simp [hz] at hm))
      | some y' =>
        simp only [hu, hx, hy, Option.bind_eq_bind, Option.bind_some, Option.map_some] at hm
        split at hm
        · -- bool
          rename_i hu'
          simp only [Option.some.injEq] at hu'
          subst hu'
          simp only [Option.some.injEq] at hm
          subst hm
          simp only [act, binD] at ha
          obtain ⟨d', h1, rfl⟩ := qo_some ha
          obtain ⟨rfl, rfl, rfl⟩ := doAc_q hd
          exact (yl_bin_bl hop hu hx hy he h1).stg hS
        · cases hz : agOf P t with
          | none => simp [hz] at hm
          | some sz =>
            simp only [hz, Option.bind_some, Option.some.injEq] at hm
            exact ag (by rename_i hu'; simp only [Option.some.injEq] at hu'; subst hu'; simp [aggT, hu]) x' y' sz hx hy hz hm.symm
        · cases hz : agOf P t with
          | none => simp [hz] at hm
          | some sz =>
            simp only [hz, Option.bind_some, Option.some.injEq] at hm
            exact ag (by rename_i hu'; simp only [Option.some.injEq] at hu'; subst hu'; simp [aggT, hu]) x' y' sz hx hy hz hm.symm
        · rename_i ps rs vr hu'
          simp only [Option.some.injEq] at hu'
          subst hu'
          split at hm
          · simp only [Option.some.injEq] at hm
            subst hm
            simp only [act] at ha
            obtain ⟨d', h1, rfl⟩ := qo_some ha
            obtain ⟨rfl, rfl, rfl⟩ := doAc_q hd
            exact (yl_fnil (neg := false) (by simpa using hop) hu hx he h1).stg hS
          · simp only [Option.some.injEq] at hm
            subst hm
            simp only [act] at ha
            obtain ⟨d', h1, rfl⟩ := qo_some ha
            obtain ⟨rfl, rfl, rfl⟩ := doAc_q hd
            exact (yl_fnil (neg := true) (by simpa using hop) hu hx he h1).stg hS
          · simp at hm
        · rename_i et hu'
          simp only [Option.some.injEq] at hu'
          subst hu'
          split at hm
          · simp only [Option.some.injEq] at hm
            subst hm
            simp only [act] at ha
            obtain ⟨d', h1, rfl⟩ := qo_some ha
            obtain ⟨rfl, rfl, rfl⟩ := doAc_q hd
            exact (yl_snil (neg := false) (by simpa using hop) hu hx he h1).stg hS
          · simp only [Option.some.injEq] at hm
            subst hm
            simp only [act] at ha
            obtain ⟨d', h1, rfl⟩ := qo_some ha
            obtain ⟨rfl, rfl, rfl⟩ := doAc_q hd
            exact (yl_snil (neg := true) (by simpa using hop) hu hx he h1).stg hS
          · simp at hm
        · rename_i ms hu'
          simp only [Option.some.injEq] at hu'
          subst hu'
          split at hm
          · simp only [Option.some.injEq] at hm
            subst hm
            simp only [act] at ha
            obtain ⟨d', h1, rfl⟩ := qo_some ha
            obtain ⟨rfl, rfl, rfl⟩ := doAc_q hd
            exact (yl_inil (neg := false) (by simpa using hop) hu hx he h1).stg hS
          · simp only [Option.some.injEq] at hm
            subst hm
            simp only [act] at ha
            obtain ⟨d', h1, rfl⟩ := qo_some ha
            obtain ⟨rfl, rfl, rfl⟩ := doAc_q hd
            exact (yl_inil (neg := true) (by simpa using hop) hu hx he h1).stg hS
          · simp at hm
        · simp only [Option.some.injEq] at hm
          exact sc x' y' hx hy hm.symm
        · simp only [Option.some.injEq] at hm
          exact sc x' y' hx hy hm.symm
        · simp only [Option.some.injEq] at hm
          exact sc x' y' hx hy hm.symm
        · simp at hm
end
end Go.Abs
