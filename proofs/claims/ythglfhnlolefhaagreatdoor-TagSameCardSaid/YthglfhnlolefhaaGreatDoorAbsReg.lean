/- Own framework, part 21: regions whose order is the text's. -/
import Derived.Test.YthglfhnlolefhaaGreatDoorAbsCall2
set_option linter.unusedVariables false
set_option linter.unusedSimpArgs false
namespace Go.Abs
open Go.RowKit (Below)

/-- A frame's state holds an abstract one; w0, g0, T0: where the call began. -/
def Lay (ds : List Deferred) (nt : Nat) (w0 : World) (g0 : Gh) (T0 : List Nat) (s : St) (a : Act) (w : World) : Prop :=
  ∃ g, Ext w0 g0 T0 w g s.T ∧ Sim w g s.V s.T ∧ EnvOk w g s.T a.tmps s.e ∧ nt ≤ a.tmps.size ∧ a.defers = ds ∧ Below g0.B w0 w
/-- Behind an exit. -/
def QOk (ds : List Deferred) (nt : Nat) (w0 : World) (g0 : Gh) (T0 : List Nat) (Q : Exit → Act → World → Prop) : Out × St → Prop
  | (.nrm, s) => ∀ a w, Lay ds nt w0 g0 T0 s a w → Q .normal a w
  | (.ext id, s) => ∀ a w, Lay ds nt w0 g0 T0 s a w → Q (.exit id) a w
  | (.ret, s) => ∀ a w, Lay ds nt w0 g0 T0 s a w → Q .ret a w
  | (.pan d, _) => ∀ a w v V T, a.defers = ds → Got w0 g0 T0 w v d V T → Q (.panic [{ v, recovered := false }]) a w
/-- The same where it panics: and the value. -/
def LayV (ds : List Deferred) (nt : Nat) (w0 : World) (g0 : Gh) (T0 : List Nat) (s : St) (a : Act) (w : World) (v : Value) (d : D) : Prop :=
  ∃ g, Ext w0 g0 T0 w g s.T ∧ Sim w g s.V s.T ∧ EnvOk w g s.T a.tmps s.e ∧ nt ≤ a.tmps.size ∧ a.defers = ds ∧ Below g0.B w0 w ∧ RepD w g s.T v d
def QOkX (ds : List Deferred) (nt : Nat) (w0 : World) (g0 : Gh) (T0 : List Nat) (Q : Exit → Act → World → Prop) : Out × St → Prop
  | (.nrm, s) => ∀ a w, Lay ds nt w0 g0 T0 s a w → Q .normal a w
  | (.ext id, s) => ∀ a w, Lay ds nt w0 g0 T0 s a w → Q (.exit id) a w
  | (.ret, s) => ∀ a w, Lay ds nt w0 g0 T0 s a w → Q .ret a w
  | (.pan d, s) => ∀ a w v, LayV ds nt w0 g0 T0 s a w v d → Q (.panic [{ v, recovered := false }]) a w
theorem QOk.x {ds : List Deferred} {nt : Nat} {w0 : World} {g0 : Gh} {T0 : List Nat} {Q : Exit → Act → World → Prop} {r : Out × St} (h : QOk ds nt w0 g0 T0 Q r) : QOkX ds nt w0 g0 T0 Q r := by
  obtain ⟨o, s⟩ := r
  cases o with
  | pan d => exact fun a w v ⟨g, h1, h2, h3, h4, h5, h6, h7⟩ => h a w v _ _ h5 ⟨g, h1, h2, h7, h6⟩
  | _ => exact h

section
variable {P : Program} {w w' : World} {g : Gh} {V V' : List VO} {T T' : List Nat} {a : Act} {e : Env} {o : Oper} {orc : Orc} {call : CallF} {ops : Array Oper} {ds : List Deferred} {nt : Nat} {ao : AOper}

theorem trOper_op (hm : trOper P ops nt o = some ao) : trOp P o = some ao.op ∧ ao.d = o.dst ∧ (∀ d, o.dst = some d → d < nt) := by
  unfold trOper at hm
  obtain ⟨op, h1, hm⟩ := Option.bind_eq_some_iff.1 hm
  obtain ⟨gg, h2, hm⟩ := Option.bind_eq_some_iff.1 hm
  split at hm
  · rename_i d hd
    split at hm
    · rename_i hlt
      simp only [Option.some.injEq] at hm
      subst hm
      exact ⟨h1, hd.symm, fun d' h => by rw [hd] at h; simp only [Option.some.injEq] at h; subst h; exact hlt⟩
    · simp at hm
  · rename_i hd
    simp only [Option.some.injEq] at hm
    subst hm
    exact ⟨h1, hd.symm, fun d' h => by rw [hd] at h; simp at h⟩

theorem trOper_guard (hm : trOper P ops nt o = some ao) : (o.guard = none ∧ ao.g = none) ∨ ∃ j want d, o.guard = some (j, want) ∧ ao.g = some (d, want) ∧ (ops[j]?).bind (·.dst) = some d ∧ d < nt := by
  unfold trOper at hm
  obtain ⟨op, h1, hm⟩ := Option.bind_eq_some_iff.1 hm
  obtain ⟨gg, h2, hm⟩ := Option.bind_eq_some_iff.1 hm
  have hg : ao.g = gg := by
    split at hm
    · split at hm
      · simp only [Option.some.injEq] at hm; subst hm; rfl
      · simp at hm
    · simp only [Option.some.injEq] at hm; subst hm; rfl
  subst hg
  unfold trGuard at h2
  split at h2
  · rename_i h3
    simp only [Option.some.injEq] at h2
    exact .inl ⟨h3, h2.symm⟩
  · rename_i j want h3
    obtain ⟨d, h4, h5⟩ := Option.bind_eq_some_iff.1 h2
    split at h5
    · rename_i hlt
      simp only [Option.some.injEq] at h5
      exact .inr ⟨j, want, d, h3, h5.symm, h4, hlt⟩
    · simp at h5

theorem guard_ok (hm : trOper P ops nt o = some ao) (hsz : nt ≤ a.tmps.size) (he : EnvOk w g T a.tmps e) {b : Bool} (hgd : guardD e ao.g = some b) : Region.wanted o (yielded ops a.tmps) = b := by
  rcases trOper_guard hm with ⟨h1, h2⟩ | ⟨j, want, d, h1, h2, h3, h4⟩
  · rw [h2] at hgd
    simp only [guardD, Option.some.injEq] at hgd
    subst hgd
    simp [Region.wanted, h1]
  · rw [h2] at hgd
    have hd := he d
    have hget : a.tmps[d]? = some (a.tmps.getD d undef) := by rw [Array.getD_eq_getD_getElem?, Array.getElem?_eq_getElem (by omega)]; rfl
    simp only [Region.wanted, h1, yielded, h3, Option.bind_some, hget]
    simp only [guardD] at hgd
    split at hgd
    · rename_i b' hb
      rw [hb] at hd
      rw [rep_sc hd]
      simp only [Option.some.injEq] at hgd
      subst hgd
      cases b' <;> cases want <;> rfl
    · rename_i hb
      rw [hb] at hd
      obtain ⟨cs, hcs, _⟩ := rep_tu hd
      rw [hcs]
      simp only [Option.some.injEq] at hgd
      subst hgd
      rfl
    · simp at hgd

variable {w0 : World} {g0 : Gh} {T0 : List Nat}

theorem Lay.put {s : St} (h : Lay ds nt w0 g0 T0 s a w) (hm : trOper P ops nt o = some ao) : Lay ds nt w0 g0 T0 ⟨putE s.e ao.d und, s.V, s.T⟩ (a.put o.dst undef) w := by
  obtain ⟨g, h1, h2, h3, h4, h5, h6⟩ := h
  obtain ⟨k1, k2, k3⟩ := trOper_op hm
  exact ⟨g, h1, h2, by rw [k2]; exact h3.put _ (fun d hd => Nat.lt_of_lt_of_le (k3 d hd) h4) und_rep, by rw [put_size]; exact h4, by cases hd : o.dst <;> simp [Act.put, h5], h6⟩

/-- One operation, wanted or not. -/
theorem oper_ok (hAg : AgOk P) (hC : CallOk P call) (hO : OrcOk P orc) {i : Nat} (hi : ops[i]? = some o) (hm : trOper P ops nt o = some ao) {s : St} (h : Lay ds nt w0 g0 T0 s a w) {K : Act → World → Prop} {Q : Exit → Act → World → Prop}
    (hskip : guardD s.e ao.g = some false → ∀ a w, Lay ds nt w0 g0 T0 ⟨putE s.e ao.d und, s.V, s.T⟩ a w → K a w)
    (hgd : guardD s.e ao.g ≠ none)
    (hdo : guardD s.e ao.g = some true → ∃ ac out l, act orc s.e ao.op = some ac ∧ doAc call s.V s.T ac = some (out, l) ∧ match out with
      | .ok x V' T' => ∀ a w, Lay ds nt w0 g0 T0 ⟨putE s.e ao.d x, V', T'⟩ a w → K a w
      | .pan x V' T' => ∀ a w v, LayV ds nt w0 g0 T0 ⟨s.e, V', T'⟩ a w v x → Q (.panic [{ v, recovered := false }]) a w) : wpOp P ops Q i K a w := by
  unfold wpOp
  simp only [hi]
  have h' := h
  obtain ⟨g, h1, h2, h3, h4, h5, h6⟩ := h
  obtain ⟨k1, k2, k3⟩ := trOper_op hm
  cases hb : guardD s.e ao.g with
  | none => exact absurd hb hgd
  | some b =>
    rw [guard_ok hm h4 h3 hb]
    cases b with
    | false => exact hskip hb _ _ (h'.put hm)
    | true =>
      simp only [if_true]
      obtain ⟨ac, out, l, ha, hd, hk⟩ := hdo hb
      refine .inl (op_ok hAg hC hO k1 h3 h2 ha hd ?_)
      cases out with
      | ok x V' T' =>
        intro v w' hgot
        obtain ⟨g', e1, s1, r1, b1⟩ := hgot
        refine hk _ _ ⟨g', h1.trans e1, s1, ?_, by rw [put_size]; exact h4, by cases hd : o.dst <;> simp [Act.put, h5], h6.trans (by rw [← h1.B]; exact b1)⟩
        show EnvOk w' g' T' (a.put o.dst v).tmps (putE s.e ao.d x)
        rw [k2]
        exact (h3.mono e1).put _ (fun d hd => Nat.lt_of_lt_of_le (k3 d hd) h4) r1
      | pan x V' T' =>
        intro v w' hgot
        obtain ⟨g', e1, s1, r1, b1⟩ := hgot
        exact hk _ _ v ⟨g', h1.trans e1, s1, h3.mono e1, h4, h5, h6.trans (by rw [← h1.B]; exact b1), r1⟩

theorem ops_ok (hAg : AgOk P) (hC : CallOk P call) (hO : OrcOk P orc) {Q : Exit → Act → World → Prop} : ∀ (l : List AOper) (k : Nat) (s : St) (a : Act) (w : World) (r : Out × St),
    (∀ (i : Nat) (ao : AOper), l[i]? = some ao → ∃ o, ops[k + i]? = some o ∧ trOper P ops nt o = some ao) → Lay ds nt w0 g0 T0 s a w → runOps orc call l s = some r → QOkX ds nt w0 g0 T0 Q r → wpOps P ops Q (List.range' k l.length) a w
  | [], k, s, a, w, r, hl, h, hr, hq => by
    simp only [runOps, Option.some.injEq] at hr
    subst hr
    simp only [List.length_nil, List.range'_zero, wpOps]
    exact hq a w h
  | ao :: l, k, s, a, w, r, hl, h, hr, hq => by
    obtain ⟨o, hi, hm⟩ := hl 0 ao rfl
    rw [List.length_cons, List.range'_succ, wpOps_cons]
    have hl' : ∀ (i : Nat) (ao : AOper), l[i]? = some ao → ∃ o, ops[k + 1 + i]? = some o ∧ trOper P ops nt o = some ao := fun i ao' h => by
      obtain ⟨o, h1, h2⟩ := hl (i + 1) ao' (by simpa using h)
      exact ⟨o, by rw [← h1]; congr 1; omega, h2⟩
    simp only [runOps] at hr
    refine oper_ok hAg hC hO (by simpa using hi) hm h (fun hb a' w' hL => ?_) (fun hb => by simp [hb] at hr) (fun hb => ?_)
    · rw [hb] at hr
      exact ops_ok hAg hC hO l (k + 1) _ a' w' r hl' hL hr hq
    · rw [hb] at hr
      simp only at hr
      cases ha : act orc s.e ao.op with
      | none => simp [ha] at hr
      | some ac =>
        simp only [ha] at hr
        cases hd : doAc call s.V s.T ac with
        | none => simp [hd] at hr
        | some y =>
          obtain ⟨out, lb⟩ := y
          simp only [hd] at hr
          refine ⟨ac, out, lb, rfl, hd, ?_⟩
          cases out with
          | ok x V' T' =>
            simp only at hr
            exact fun a' w' hL => ops_ok hAg hC hO l (k + 1) _ a' w' r hl' hL hr hq
          | pan x V' T' =>
            simp only [Option.some.injEq] at hr
            subst hr
            exact fun a' w' v hg => hq a' w' v hg

theorem mapO_ops {l : List AOper} (h : mapO (trOper P ops nt) ops.toList = some l) : l.length = ops.size ∧ ∀ (i : Nat) (ao : AOper), l[i]? = some ao → ∃ o, ops[i]? = some o ∧ trOper P ops nt o = some ao := by
  obtain ⟨h1, h2⟩ := mapO_some h
  refine ⟨by simpa using h1.symm, fun i ao hi => ?_⟩
  obtain ⟨hlt, rfl⟩ := List.getElem?_eq_some_iff.1 hi
  have hlt' : i < ops.toList.length := by omega
  refine ⟨ops.toList[i], by simp [hlt'], h2 i hlt' hlt⟩

theorem reg_okX (hAg : AgOk P) (hC : CallOk P call) (hO : OrcOk P orc) {id : Nat} {l : List AOper} (hm : mapO (trOper P ops nt) ops.toList = some l) {Q : Exit → Act → World → Prop} {s : St} {r : Out × St}
    (h : Lay ds nt w0 g0 T0 s a w) (hr : runOps orc call l s = some r) (hq : QOkX ds nt w0 g0 T0 Q r) : (Code.region id ops false).wp P Q a w := by
  obtain ⟨h1, h2⟩ := mapO_ops hm
  refine wp_region ?_
  rw [List.range_eq_range', ← h1]
  exact ops_ok hAg hC hO l 0 s a w r (fun i ao hi => by rw [Nat.zero_add]; exact h2 i ao hi) h hr hq
theorem reg_ok (hAg : AgOk P) (hC : CallOk P call) (hO : OrcOk P orc) {id : Nat} {l : List AOper} (hm : mapO (trOper P ops nt) ops.toList = some l) {Q : Exit → Act → World → Prop} {s : St} {r : Out × St}
    (h : Lay ds nt w0 g0 T0 s a w) (hr : runOps orc call l s = some r) (hq : QOk ds nt w0 g0 T0 Q r) : (Code.region id ops false).wp P Q a w := reg_okX hAg hC hO hm h hr hq.x
end
end Go.Abs
