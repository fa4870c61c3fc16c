/- Own framework, part 25: code, functions: the whole. -/
import Derived.Test.YthglfhnlolefhaaGreatDoorAbsOrd3
import Derived.Test.YthglfhnlolefhaaGreatDoorAbsRun
import Derived.LoopN
set_option linter.unusedVariables false
set_option linter.unusedSimpArgs false
namespace Go.Abs
open Go.RowKit (Below)

section
variable {P : Program} {orc : Orc} {call : CallF} {ds : List Deferred} {nt : Nat} {w0 : World} {g0 : Gh} {T0 : List Nat}

theorem QOk_then {K : Act → World → Prop} {Q : Exit → Act → World → Prop} {r : Out × St} (h1 : ∀ s, r = (.nrm, s) → ∀ a w, Lay ds nt w0 g0 T0 s a w → K a w) (h2 : (∀ s, r ≠ (.nrm, s)) → QOk ds nt w0 g0 T0 Q r) :
    QOk ds nt w0 g0 T0 (Exit.then K Q) r := by
  obtain ⟨o, s⟩ := r
  cases o with
  | nrm => exact fun a w h => h1 s rfl a w h
  | ext id => exact h2 (fun s e => by simp at e)
  | ret => exact h2 (fun s e => by simp at e)
  | pan d => exact h2 (fun s e => by simp at e)

theorem code_ok (hAg : AgOk P) (hC : CallOk P call) (hO : OrcOk P orc) (hw : P.follows .mixedOrders = true) {lf : ACode → St → Option (Out × St)} {n : Nat}
    (hlf : ∀ (c : Code) (ac : ACode) (s : St) (r : Out × St) (a : Act) (w : World) (Q : Exit → Act → World → Prop), trCode P nt c = some ac → Lay ds nt w0 g0 T0 s a w → lf ac s = some r → QOk ds nt w0 g0 T0 Q r → Code.rounds P c Q n a w) :
    ∀ (c : Code) (ac : ACode) (s : St) (r : Out × St) (a : Act) (w : World) (Q : Exit → Act → World → Prop), trCode P nt c = some ac → Lay ds nt w0 g0 T0 s a w → execC orc call lf ac s = some r → QOk ds nt w0 g0 T0 Q r →
      c.wp P Q a w ∧ (∀ c1, c = .loop c1 → Code.rounds P c1 Q (n + 1) a w) := by
  intro c
  induction c with
  | skip =>
    intro ac s r a w Q hm hL hr hq
    simp only [trCode, Option.some.injEq] at hm
    subst hm
    simp only [execC, Option.some.injEq] at hr
    subst hr
    exact ⟨wp_skip (hq a w hL), fun c1 e => by simp at e⟩
  | region id ops d =>
    intro ac s r a w Q hm hL hr hq
    refine ⟨?_, fun c1 e => by simp at e⟩
    cases d with
    | false =>
      simp only [trCode] at hm
      obtain ⟨l, h1, h2⟩ := Option.map_eq_some_iff.1 hm
      subst h2
      exact reg_ok hAg hC hO h1 hL hr hq
    | true =>
      simp only [trCode] at hm
      obtain ⟨l, h1, h2⟩ := Option.bind_eq_some_iff.1 hm
      split at h2
      · rename_i hck
        simp only [Option.some.injEq] at h2
        subst h2
        rw [Bool.and_eq_true] at hck
        exact execDrw_ok hAg hC hO hw h1 hck.1 hck.2 hL hr hq
      · simp at h2
  | seq x y ihx ihy =>
    intro ac s r a w Q hm hL hr hq
    refine ⟨?_, fun c1 e => by simp at e⟩
    simp only [trCode] at hm
    obtain ⟨ax, h1, hm⟩ := Option.bind_eq_some_iff.1 hm
    obtain ⟨ay, h2, hm⟩ := Option.bind_eq_some_iff.1 hm
    simp only [Option.some.injEq] at hm
    subst hm
    simp only [execC] at hr
    cases hx : execC orc call lf ax s with
    | none => simp [hx] at hr
    | some rx =>
      rw [hx] at hr
      refine wp_seq (ihx ax s rx a w _ h1 hL hx (QOk_then (fun s' e a' w' hL' => ?_) (fun hne => ?_))).1
      · subst e
        exact (ihy ay s' r a' w' Q h2 hL' hr hq).1
      · have : r = rx := by
          obtain ⟨o, s'⟩ := rx
          cases o with
          | nrm => exact absurd rfl (hne s')
          | _ => simpa using hr.symm
        rw [← this]
        exact hq
  | cond c x y ihx ihy =>
    intro ac s r a w Q hm hL hr hq
    refine ⟨?_, fun c1 e => by simp at e⟩
    simp only [trCode] at hm
    obtain ⟨c', h0, hm⟩ := Option.bind_eq_some_iff.1 hm
    obtain ⟨ax, h1, hm⟩ := Option.bind_eq_some_iff.1 hm
    obtain ⟨ay, h2, hm⟩ := Option.bind_eq_some_iff.1 hm
    simp only [Option.some.injEq] at hm
    subst hm
    simp only [execC] at hr
    split at hr
    · rename_i t ht
      obtain ⟨g, k1, k2, k3, k4⟩ := id hL
      have hv := opd_rep k3 h0
      rw [ht] at hv
      refine wp_cond (rep_sc hv) ?_
      cases t with
      | true => exact (ihx ax s r a w Q h1 hL hr hq).1
      | false => exact (ihy ay s r a w Q h2 hL hr hq).1
    · simp at hr
  | block id c ih =>
    intro ac s r a w Q hm hL hr hq
    refine ⟨?_, fun c1 e => by simp at e⟩
    simp only [trCode] at hm
    obtain ⟨c', h0, hm⟩ := Option.bind_eq_some_iff.1 hm
    simp only [Option.some.injEq] at hm
    subst hm
    simp only [execC] at hr
    cases hx : execC orc call lf c' s with
    | none => simp [hx] at hr
    | some rx =>
      rw [hx] at hr
      refine wp_block (ih c' s rx a w _ h0 hL hx ?_).1
      obtain ⟨o, s'⟩ := rx
      cases o with
      | nrm =>
        simp only [Option.some.injEq] at hr
        subst hr
        exact fun a w h => hq a w h
      | ext i =>
        intro a w h
        simp only [Exit.inBlock]
        simp only at hr
        split at hr
        · rename_i e
          simp only [Option.some.injEq] at hr
          subst hr
          rw [if_pos e]
          exact hq a w h
        · rename_i e
          simp only [Option.some.injEq] at hr
          subst hr
          rw [if_neg e]
          exact hq a w h
      | ret =>
        simp only [Option.some.injEq] at hr
        subst hr
        exact fun a w h => hq a w h
      | pan d =>
        simp only [Option.some.injEq] at hr
        subst hr
        exact fun a w v V T hd h => hq a w v V T hd h
  | loop c ih =>
    intro ac s r a w Q hm hL hr hq
    have key : Code.rounds P c Q (n + 1) a w := by
      simp only [trCode] at hm
      obtain ⟨c', h0, hm⟩ := Option.bind_eq_some_iff.1 hm
      simp only [Option.some.injEq] at hm
      subst hm
      simp only [execC] at hr
      cases hx : execC orc call lf c' s with
      | none => simp [hx] at hr
      | some rx =>
        rw [hx] at hr
        rw [rounds_succ]
        refine (ih c' s rx a w _ h0 hL hx (QOk_then (fun s' e a' w' hL' => ?_) (fun hne => ?_))).1
        · subst e
          exact hlf c c' s' r a' w' Q h0 hL' hr hq
        · have : r = rx := by
            obtain ⟨o, s'⟩ := rx
            cases o with
            | nrm => exact absurd rfl (hne s')
            | _ => simpa using hr.symm
          rw [← this]
          exact hq
    exact ⟨wp_loop_rounds (n + 1) key, fun c1 e => by simp only [Code.loop.injEq] at e; subst e; exact key⟩
  | exit id =>
    intro ac s r a w Q hm hL hr hq
    simp only [trCode, Option.some.injEq] at hm
    subst hm
    simp only [execC, Option.some.injEq] at hr
    subst hr
    exact ⟨wp_exit (hq a w hL), fun c1 e => by simp at e⟩
  | ret =>
    intro ac s r a w Q hm hL hr hq
    simp only [trCode, Option.some.injEq] at hm
    subst hm
    simp only [execC, Option.some.injEq] at hr
    subst hr
    exact ⟨wp_ret (hq a w hL), fun c1 e => by simp at e⟩
  | _ => intro ac s r a w Q hm; simp [trCode] at hm
end
end Go.Abs
