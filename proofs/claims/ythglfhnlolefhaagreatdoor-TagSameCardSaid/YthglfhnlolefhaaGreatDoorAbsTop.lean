/- Own framework, part 26: functions; what is computed is what the program does. -/
import Derived.Test.YthglfhnlolefhaaGreatDoorAbsCode
import Derived.Test.YthglfhnlolefhaaGreatDoorAbsEq
import Derived.Test.YthglfhnlolefhaaGreatDoorAbsRun
set_option linter.unusedVariables false
set_option linter.unusedSimpArgs false
namespace Go.Abs
open Go.RowKit (Below)

section
variable {P : Program} {orc : Orc} {call : CallF} {ds : List Deferred} {nt : Nat} {w0 w : World} {g0 g : Gh} {T0 T : List Nat} {V : List VO} {a : Act} {s : St}

theorem mapO_cons {α β : Type} {f : α → Option β} {x : α} {l : List α} {r : List β} (h : mapO f (x :: l) = some r) : ∃ y ys, f x = some y ∧ mapO f l = some ys ∧ r = y :: ys := by
  simp only [mapO] at h
  cases hx : f x with
  | none => simp [hx] at h
  | some y =>
    cases hl : mapO f l with
    | none => simp [hx, hl] at h
    | some ys =>
      simp [hx, hl] at h
      exact ⟨y, ys, rfl, rfl, h.symm⟩

theorem loadVar_mp {t : TypeId} {ag : Bool} {sz id off b : Nat} {vo : VO} {d : D} (ha : aggT P t = some ag) (hsz : sizeT P t = some sz) (hb : g.σ[id]? = some b) (ho : V[id]? = some vo) (hit : vo.it = false)
    (hd : partD ag vo.cs off sz = some d) (hs : Sim w g V T) : ∃ v, (loadVar t ⟨b, off, none⟩).run P w = .ok v w ∧ RepD w g T v d := by
  rcases hs.var id vo b ho hb with ⟨h2, _⟩ | ⟨_, arr, ty, fr, hh, hf, h1c, hr⟩
  · simp [hit] at h2
  unfold partD at hd
  split at hd
  case isFalse => simp at hd
  rename_i hle
  have hcell : ∀ i, i < sz → w.cell? ((⟨b, off, none⟩ : Addr).add i) = some (arr.getD (off + i) undef) := fun i hi => by
    rw [add0, cell_arr hh, getD_some (by rw [hr.1]; omega)]
  have hmk : (ag = true ∧ d = .ag ((vo.cs.drop off).take sz)) ∨ (ag = false ∧ (vo.cs.drop off).take sz = [d]) := by
    unfold mkV at hd
    split at hd
    · rename_i y hy
      cases ag <;> simp_all
    · cases ag <;> simp_all
  rcases hmk with ⟨rfl, rfl⟩ | ⟨rfl, hd1⟩
  · have hrun := loadVar_run (P := P) (w := w) (ag := true) ha hsz hcell (by simp)
    refine ⟨.agg ((List.range sz).map fun i => arr.getD (off + i) undef).toArray, by simpa using hrun, .ag (by simp; omega) ?_ ?_⟩
    · intro i hi
      simp at hi
      simp only [List.getElem_take, List.getElem_drop]
      exact h1c _ (by omega)
    · intro i hi
      simp at hi
      have hlt : i < sz := by omega
      simp only [List.getElem_take, List.getElem_drop]
      have := hr.2 (off + i) (by omega)
      simpa [Array.getD_eq_getD_getElem?, hlt] using this
  · have hsz1 : sz = 1 := by
      have := congrArg List.length hd1
      simp at this; omega
    have hrun := loadVar_run (P := P) (w := w) (ag := false) ha hsz hcell (fun _ => hsz1)
    refine ⟨arr.getD (off + 0) undef, by simpa using hrun, ?_⟩
    have hx2 : vo.cs[off]? = some d := by
      have : ((vo.cs.drop off).take sz)[0]? = some d := by rw [hd1]; rfl
      rw [List.getElem?_take] at this
      split at this
      · simpa using this
      · simp at this
    obtain ⟨y, hy, hry⟩ := hr.at hx2
    simpa [Array.getD_eq_getD_getElem?, hy] using hry

def resM (tmps : Array Value) : ResultVar → Sem Value
  | .tmp t => pure (tmps.getD t undef)
  | .cell c t => do loadVar t (← asAddr (tmps.getD c undef))
theorem res_one (hs : Sim w g s.V s.T) (he : EnvOk w g s.T a.tmps s.e) {r : ResultVar} {ar : ARes} {d : D} (hm : trRes P r = some ar) (hd : resD s ar = some d) :
    ∃ v, (resM a.tmps r).run P w = .ok v w ∧ RepD w g s.T v d := by
  cases r with
  | tmp t =>
    simp only [trRes, Option.some.injEq] at hm
    subst hm
    simp only [resD, Option.some.injEq] at hd
    subst hd
    exact ⟨_, rfl, he t⟩
  | cell c t =>
    simp only [trRes] at hm
    obtain ⟨ag, h1, hm⟩ := Option.bind_eq_some_iff.1 hm
    obtain ⟨sz, h2, hm⟩ := Option.bind_eq_some_iff.1 hm
    simp only [Option.some.injEq] at hm
    subst hm
    simp only [resD] at hd
    split at hd
    · rename_i id off hv
      split at hd
      · rename_i o ho
        split at hd
        · simp at hd
        · rename_i hit
          have hc := he c
          rw [hv] at hc
          obtain ⟨b, h3, h4⟩ := rep_mp hc
          obtain ⟨v, h5, h6⟩ := loadVar_mp h1 h2 h4 ho (by simpa using hit) hd hs
          exact ⟨v, by simp [resM, h3, asAddr, h5], h6⟩
      · simp at hd
    · simp at hd

theorem res_list (hs : Sim w g s.V s.T) (he : EnvOk w g s.T a.tmps s.e) : ∀ {l : List ResultVar} {rs : List ARes} {ds : List D}, mapO (trRes P) l = some rs → mapO (resD s) rs = some ds →
    ∃ vs : List Value, (l.mapM (resM a.tmps)).run P w = .ok vs w ∧ RepL w g s.T vs.toArray ds
  | [], rs, ds, h1, h2 => by
    simp only [mapO, Option.some.injEq] at h1
    subst h1
    simp only [mapO, Option.some.injEq] at h2
    subst h2
    exact ⟨[], rfl, rfl, fun i hi => absurd hi (Nat.not_lt_zero i)⟩
  | r :: l, rs, ds, h1, h2 => by
    obtain ⟨ar, ars, k1, k2, rfl⟩ := mapO_cons h1
    obtain ⟨d, ds', k3, k4, rfl⟩ := mapO_cons h2
    obtain ⟨v, k5, k6⟩ := res_one hs he k1 k3
    obtain ⟨vs, k7, k8, k9⟩ := res_list hs he k2 k4
    refine ⟨v :: vs, ?_, by simpa using k8, fun i hi => ?_⟩
    · rw [List.mapM_cons]
      simp only [Sem.run_bind, k5, Result.andThen_ok, k7, Sem.run_pure]
    · cases i with
      | zero => simpa using k6
      | succ i =>
        have := k9 i (by simpa using hi)
        simpa [Array.getD_eq_getD_getElem?] using this

theorem ress_ok {fn : Func} {rs : List ARes} {d : D} (hm : mapO (trRes P) fn.results.toList = some rs) (hd : ressD s rs = some d) (hL : Lay ds nt w0 g0 T0 s a w) :
    a.defers = ds ∧ ∃ v, (results fn a.tmps).run P w = .ok v w ∧ Got w0 g0 T0 w v d s.V s.T := by
  obtain ⟨g, h1, h2, h3, h4, h5, h6⟩ := hL
  refine ⟨h5, ?_⟩
  unfold ressD at hd
  cases hx : mapO (resD s) rs with
  | none => simp [hx] at hd
  | some ds =>
    obtain ⟨vs, k1, k2⟩ := res_list h2 h3 hm hx
    have hrun : (results fn a.tmps).run P w = .ok (if h : vs.toArray.size = 1 then vs.toArray[0] else .tuple vs.toArray) w := by
      have e : results fn a.tmps = (do
          let vs ← List.toArray <$> fn.results.toList.mapM (resM a.tmps)
          pure (if h : vs.size = 1 then vs[0] else .tuple vs)) := by
        unfold results
        rw [Array.mapM_eq_mapM_toList]
        rfl
      rw [e]
      simp only [Sem.run_bind, Sem.run_map, k1, Result.andThen_ok, Sem.run_pure]
    rw [hx] at hd
    refine ⟨_, hrun, g, h1, h2, ?_, h6⟩
    split at hd
    · rename_i x hxx
      simp only [Option.some.injEq] at hxx hd
      subst hxx
      subst hd
      have hsz : vs.toArray.size = 1 := by rw [k2.1]; rfl
      rw [dif_pos hsz]
      have := k2.2 0 (by simp)
      simp [Array.getD_eq_getD_getElem?, hsz] at this
      exact frz_rep this
    · rename_i xs hne hxx
      simp only [Option.some.injEq] at hxx hd
      subst hxx
      subst hd
      have hsz : vs.toArray.size ≠ 1 := by
        rw [k2.1]
        intro e
        obtain ⟨x, rfl⟩ := List.length_eq_one_iff.1 e
        exact hne x rfl
      rw [dif_neg hsz]
      have h := frzL_rep k2
      exact .tu h.1 h.2
    · rename_i hxx
      simp at hxx

theorem initE_ok {cargs : Array Value} {args : List D} (hr : RepL w g T cargs args) (n : Nat) : EnvOk w g T (cargs ++ Array.replicate n undef) (initE args) := by
  intro t
  unfold initE
  by_cases h : t < args.length
  · rw [List.getElem?_eq_getElem h]
    have := hr.2 t h
    rw [Array.getD_eq_getD_getElem?] at this ⊢
    rw [Array.getElem?_append_left (by rw [hr.1]; exact h)]
    exact this
  · rw [List.getElem?_eq_none (by omega)]
    have : (cargs ++ Array.replicate n undef).getD t undef = undef := by
      rw [Array.getD_eq_getD_getElem?, Array.getElem?_append_right (by rw [hr.1]; omega)]
      cases hx : (Array.replicate n undef)[t - cargs.size]? with
      | none => rfl
      | some y =>
        rw [Array.getElem?_replicate] at hx
        split at hx
        · simp only [Option.some.injEq] at hx; exact hx.symm
        · simp at hx
    rw [this]
    exact und_rep

theorem trFn_spec {f : FuncId} {af : AFn} (h : trFn P f = some af) : ∃ fn c, P.funcs[f]? = some fn ∧ (fn.name == "runtime.NumGoroutine") = false ∧ fn.body = some c ∧ trCode P fn.ntmps c = some af.body ∧ mapO (trRes P) fn.results.toList = some af.res := by
  unfold trFn at h
  obtain ⟨fn, h1, h⟩ := Option.bind_eq_some_iff.1 h
  split at h
  · simp at h
  · rename_i hn
    obtain ⟨b, h2, h⟩ := Option.bind_eq_some_iff.1 h
    obtain ⟨c, h3, h⟩ := Option.bind_eq_some_iff.1 h
    obtain ⟨r, h4, h⟩ := Option.bind_eq_some_iff.1 h
    simp only [Option.some.injEq] at h
    subst h
    exact ⟨fn, b, h1, by simpa using hn, h2, h3, h4⟩

/-- What comes out of a body. -/
def outOf (fn : AFn) : Option (Out × St) → Option (Res × List VO × List Nat)
  | some (.nrm, s') | some (.ret, s') => match ressD s' fn.res with
    | some d => some (.ret d, s'.V, s'.T)
    | none => none
  | some (.pan d, s') => some (.pan d, s'.V, s'.T)
  | _ => none
theorem callN_eq (F : FuncId → Option AFn) (n : Nat) (f : FuncId) (args : List D) (V : List VO) (T : List Nat) :
    callN orc F n f args V T = match F f with | none => none | some fn => outOf fn (execN orc F n fn.body ⟨initE args, V, T⟩) := by
  unfold callN outOf
  rfl

theorem callOk_of {n : Nat} (hx : ∀ (ds : List Deferred) (nt : Nat) (w0 : World) (g0 : Gh) (T0 : List Nat) (c : Code) (ac : ACode) (s : St) (r : Out × St) (a : Act) (w : World) (Q : Exit → Act → World → Prop),
    trCode P nt c = some ac → Lay ds nt w0 g0 T0 s a w → execN orc (trFn P) n ac s = some r → QOk ds nt w0 g0 T0 Q r → c.wp P Q a w) : CallOk P (callN orc (trFn P) n) := by
  intro f args V T r hr
  rw [callN_eq] at hr
  cases hf : trFn P f with
  | none => simp [hf] at hr
  | some af =>
    rw [hf] at hr
    simp only at hr
    obtain ⟨fn, c, h1, h2, h3, h4, h5⟩ := trFn_spec hf
    refine ⟨⟨fn, h1, h2, by simp [h3]⟩, fun w g cargs hS hR => calls_of_wp h1 h3 ?_⟩
    cases hex : execN orc (trFn P) n af.body ⟨initE args, V, T⟩ with
    | none => rw [hex] at hr; simp [outOf] at hr
    | some x =>
      rw [hex] at hr
      have hL : Lay [] fn.ntmps w g T ⟨initE args, V, T⟩ { tmps := cargs ++ Array.replicate (fn.ntmps - cargs.size) undef, defers := [] } w :=
        ⟨g, Ext.refl _ _ _, hS, initE_ok hR _, by simp; omega, rfl, Below.refl _ _⟩
      refine hx [] fn.ntmps w g T c af.body _ x _ w _ h4 hL hex ?_
      obtain ⟨o, s'⟩ := x
      cases o with
      | nrm =>
        intro a' w' hL'
        simp only [outOf] at hr
        cases hd : ressD s' af.res with
        | none => simp [hd] at hr
        | some d =>
          simp only [hd, Option.some.injEq] at hr
          subst hr
          obtain ⟨k1, v, k2, k3⟩ := ress_ok h5 hd hL'
          exact ⟨k1, v, k2, v, rfl, k3⟩
      | ret =>
        intro a' w' hL'
        simp only [outOf] at hr
        cases hd : ressD s' af.res with
        | none => simp [hd] at hr
        | some d =>
          simp only [hd, Option.some.injEq] at hr
          subst hr
          obtain ⟨k1, v, k2, k3⟩ := ress_ok h5 hd hL'
          exact ⟨k1, v, k2, v, rfl, k3⟩
      | pan d =>
        intro a' w' v V2 T2 hd hg
        simp only [outOf, Option.some.injEq] at hr
        subst hr
        exact ⟨hd, v, rfl, V2, T2, hg⟩
      | ext id => simp [outOf] at hr

theorem exec_ok (hAg : AgOk P) (hO : OrcOk P orc) (hw : P.follows .mixedOrders = true) : ∀ (n : Nat),
    (∀ (ds : List Deferred) (nt : Nat) (w0 : World) (g0 : Gh) (T0 : List Nat) (c : Code) (ac : ACode) (s : St) (r : Out × St) (a : Act) (w : World) (Q : Exit → Act → World → Prop),
      trCode P nt c = some ac → Lay ds nt w0 g0 T0 s a w → execN orc (trFn P) n ac s = some r → QOk ds nt w0 g0 T0 Q r → c.wp P Q a w) ∧
    (∀ (ds : List Deferred) (nt : Nat) (w0 : World) (g0 : Gh) (T0 : List Nat) (c : Code) (ac : ACode) (s : St) (r : Out × St) (a : Act) (w : World) (Q : Exit → Act → World → Prop),
      trCode P nt c = some ac → Lay ds nt w0 g0 T0 s a w → execN orc (trFn P) n (.loop ac) s = some r → QOk ds nt w0 g0 T0 Q r → Code.rounds P c Q n a w)
  | 0 => ⟨fun ds nt w0 g0 T0 c ac s r a w Q h1 h2 h3 => by simp [execN] at h3, fun ds nt w0 g0 T0 c ac s r a w Q h1 h2 h3 => by simp [execN] at h3⟩
  | n + 1 => by
    obtain ⟨ih1, ih2⟩ := exec_ok hAg hO hw n
    have hC : CallOk P (callN orc (trFn P) n) := callOk_of ih1
    have key : ∀ (ds : List Deferred) (nt : Nat) (w0 : World) (g0 : Gh) (T0 : List Nat) (c : Code) (ac : ACode) (s : St) (r : Out × St) (a : Act) (w : World) (Q : Exit → Act → World → Prop),
      trCode P nt c = some ac → Lay ds nt w0 g0 T0 s a w → execN orc (trFn P) (n + 1) ac s = some r → QOk ds nt w0 g0 T0 Q r → c.wp P Q a w ∧ (∀ c1, c = .loop c1 → Code.rounds P c1 Q (n + 1) a w) :=
      fun ds nt w0 g0 T0 c ac s r a w Q h1 h2 h3 h4 =>
        code_ok (lf := fun c s => execN orc (trFn P) n (.loop c) s) (n := n) hAg hC hO hw (fun c ac s r a w Q k1 k2 k3 k4 => ih2 ds nt w0 g0 T0 c ac s r a w Q k1 k2 k3 k4) c ac s r a w Q h1 h2 h3 h4
    refine ⟨fun ds nt w0 g0 T0 c ac s r a w Q h1 h2 h3 h4 => (key ds nt w0 g0 T0 c ac s r a w Q h1 h2 h3 h4).1, fun ds nt w0 g0 T0 c ac s r a w Q h1 h2 h3 h4 => ?_⟩
    exact (key ds nt w0 g0 T0 (.loop c) (.loop ac) s r a w Q (by simp [trCode, h1]) h2 h3 h4).2 c rfl

/-- **What is computed is what the program does.** -/
theorem callN_ok (hO : OrcOk P orc) (hw : P.follows .mixedOrders = true) (n : Nat) : CallOk P (callN orc (trFn P) n) := callOk_of (exec_ok (agOk P) hO hw n).1

/-- The law's own call: closed arguments, in a world of its own. -/
theorem law_ok (hO : OrcOk P orc) (hw : P.follows .mixedOrders = true) {f : FuncId} {args : List D} {x : Value} (hv : callV orc (trFn P) f args = some (.ret (.c (.v x)))) {w : World} {I : Nat → Nat → Prop} (hI : ∀ b o, I b o → b < w.heap.size)
    {cargs : Array Value} (hr : RepL w ⟨w.heap.size, [], [], I⟩ [] cargs args) : Calls P f cargs w fun e w' => e = .returned x ∧ Below w.heap.size w w' := by
  obtain ⟨n, V, T, hn⟩ := of_callV hv
  have hS : Sim w ⟨w.heap.size, [], [], I⟩ [] [] := Sim.clear (w := w) (g := ⟨0, [], [], I⟩) (V := []) (T := []) ⟨rfl, rfl, fun id o b ho => by simp at ho, fun id tg ht => by simp at ht, by simp, fun b hb => by simp at hb, Nat.zero_le _, hI, fun b o id vo hi hs => by simp at hs, fun b o id tg hi ht => by simp at ht⟩
  refine ((callN_ok hO hw n _ _ _ _ _ hn).2 w _ cargs hS hr).mono fun e w' hp => ?_
  obtain ⟨v, rfl, g', e1, s1, r1, b1⟩ := hp
  rw [rep_sc r1]
  exact ⟨rfl, b1⟩
end
end Go.Abs
