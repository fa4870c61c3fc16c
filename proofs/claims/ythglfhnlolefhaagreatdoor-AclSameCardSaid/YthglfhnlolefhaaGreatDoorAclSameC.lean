/- Own: texts AbsRaw AbsRun2 AbsLoop CodeOrc Orc Orc2 CodeGet Get Tag1 CodeTag2 Tag2 Tag3 CodeTag4 Tag4 CodeAwake Awake in one, as a program put them together. The last text of the row proves the law; no condition of our own. -/
import Derived.Test.YthglfhnlolefhaaGreatDoorAclSameB
import Derived.Test.YthglfhnlolefhaaGreatDoorProg
import Derived.KernelRfl
import Derived.Recover
section
/- Own framework, part 32: what a call yields ahead of its freezing; a call's own variables forgotten; a slice held against nil. -/
set_option linter.unusedVariables false
set_option linter.unusedSimpArgs false
namespace Go.Abs
open Go.RowKit (Below)

section
variable {P : Program} {orc : Orc} {w w' : World} {g : Gh} {V V2 : List VO} {T T1 : List Nat} {v : Value} {d : D}

theorem rep_low (h : RepD w g T v d) : d.low g.σ.length T.length = true := by
  induction h with
  | c h => rfl
  | @ag cs ds hl h1 hr ih =>
    simp only [D.low, lowL_all, List.all_eq_true]
    intro x hx
    obtain ⟨i, hi, rfl⟩ := List.getElem_of_mem hx
    exact ih i hi
  | @tu cs ds hl hr ih =>
    simp only [D.low, lowL_all, List.all_eq_true]
    intro x hx
    obtain ⟨i, hi, rfl⟩ := List.getElem_of_mem hx
    exact ih i hi
  | fsnil => rfl
  | fs hB hcl hr => rfl
  | ow hn hcl hr ht =>
    obtain ⟨k, h1, _⟩ := ht
    simpa only [D.low, decide_eq_true_eq] using (List.getElem?_eq_some_iff.1 h1).1
  | ip hcl hr => rfl
  | mp h => simpa only [D.low, decide_eq_true_eq] using (List.getElem?_eq_some_iff.1 h).1
  | @fn f cs ds hl hr ih =>
    simp only [D.low, lowL_all, List.all_eq_true]
    intro x hx
    obtain ⟨i, hi, rfl⟩ := List.getElem_of_mem hx
    exact ih i hi
  | ifc h ih => simpa only [D.low] using ih
mutual
theorem low_mono {nv nt nv' nt' : Nat} (hv : nv ≤ nv') (ht : nt ≤ nt') : ∀ (d : D), d.low nv nt = true → d.low nv' nt' = true
  | .c p, _ => rfl
  | .ag cs, h => by
    simp only [D.low] at h ⊢
    exact lowL_mono hv ht cs h
  | .tu cs, h => by
    simp only [D.low] at h ⊢
    exact lowL_mono hv ht cs h
  | .fs n cs, _ => rfl
  | .ow id ver n cs, h => by simp only [D.low, decide_eq_true_eq] at h ⊢; omega
  | .ip cs, _ => rfl
  | .mp id off, h => by simp only [D.low, decide_eq_true_eq] at h ⊢; omega
  | .fn f cs, h => by
    simp only [D.low] at h ⊢
    exact lowL_mono hv ht cs h
  | .ifc t x, h => by
    simp only [D.low] at h ⊢
    exact low_mono hv ht x h
theorem lowL_mono {nv nt nv' nt' : Nat} (hv : nv ≤ nv') (ht : nt ≤ nt') : ∀ (l : List D), lowL nv nt l = true → lowL nv' nt' l = true
  | [], _ => rfl
  | x :: r, h => by
    rw [lowL, Bool.and_eq_true] at h ⊢
    exact ⟨low_mono hv ht x h.1, lowL_mono hv ht r h.2⟩
end

/-- The variables that the call made are not named any more. -/
theorem got_dropV (hS : Sim w g V T) (h : Got w g T w' v d (V ++ V2) T1) (hlow : d.low V.length T1.length = true) (hT : T.length ≤ T1.length) : Got w g T w' v d V T1 := by
  obtain ⟨g1, e1, s1, r1, b1⟩ := h
  have hlt1 : g1.τ.length = T1.length := s1.lt
  have hσ : ∀ {id b : Nat}, (g1.σ.take V.length)[id]? = some b → id < V.length ∧ g1.σ[id]? = some b := fun {id b} h => by
    have h1 := (List.getElem?_eq_some_iff.1 h).1
    have h2 : id < V.length := by simp at h1; omega
    exact ⟨h2, by rw [List.getElem?_take_of_lt h2] at h; exact h⟩
  have hmem : ∀ b, b ∈ g1.σ.take V.length ++ g1.τ.map (·.blk) → b ∈ g1.σ ++ g1.τ.map (·.blk) := fun b hb => by
    rcases List.mem_append.1 hb with hb | hb
    · exact List.mem_append.2 (.inl (List.mem_of_mem_take hb))
    · exact List.mem_append.2 (.inr hb)
  have hlowV : ∀ (id : Nat) (o : VO), V[id]? = some o → o.it = false → ∀ x ∈ o.cs, x.low V.length T1.length = true := fun id o ho hit x hx => by
    obtain ⟨b, hb⟩ : ∃ b, g.σ[id]? = some b := ⟨_, List.getElem?_eq_getElem (by rw [hS.lv]; exact (List.getElem?_eq_some_iff.1 ho).1)⟩
    rcases hS.var id o b ho hb with ⟨k1, _⟩ | ⟨_, arr, t, fr, _, _, _, k5⟩
    · rw [k1] at hit; simp at hit
    · obtain ⟨i, hi, rfl⟩ := List.getElem_of_mem hx
      have := rep_low (k5.2 i hi)
      rw [hS.lv] at this
      exact low_mono (Nat.le_refl _) hT _ this
  refine ⟨{ g1 with σ := g1.σ.take V.length }, ⟨e1.B, e1.imm, fun id b hb => ?_, e1.τ, e1.inew⟩, ?_, ?_, b1⟩
  · have := (List.getElem?_eq_some_iff.1 hb).1
    show (g1.σ.take V.length)[id]? = some b
    rw [List.getElem?_take_of_lt (by rw [← hS.lv]; exact this)]
    exact e1.σ id b hb
  · exact {
      lv := by have := s1.lv; simp at this ⊢; omega
      lt := s1.lt
      var := fun id o b ho hs => by
        obtain ⟨h1, h2⟩ := hσ hs
        have ho' : (V ++ V2)[id]? = some o := by rw [List.getElem?_append_left h1]; exact ho
        rcases s1.var id o b ho' h2 with ⟨k1, k2, s, p, k3, k4⟩ | ⟨k1, arr, t, fr, k2, k3, k4, k5⟩
        · exact .inl ⟨k1, k2, s, p, k3, k4⟩
        · refine .inr ⟨k1, arr, t, fr, k2, k3, k4, k5.1, fun i hi => ?_⟩
          have := low_rep (g' := { g1 with σ := g1.σ.take V.length }) (nt := T1.length) (k5.2 i hi) rfl rfl rfl (by rw [← hlt1, List.take_length]) (hlowV id o ho k1 _ (List.getElem_mem hi))
          rwa [List.take_length] at this
      tok := s1.tok
      nd := by
        show (g1.σ.take V.length ++ g1.τ.map (·.blk)).Nodup
        exact s1.nd.sublist (List.Sublist.append (List.take_sublist _ _) (List.Sublist.refl _))
      base := fun b hb => s1.base b (hmem b hb)
      hB := s1.hB
      ilt := s1.ilt
      iv := fun b o id vo hi hs hv => by
        obtain ⟨h1, h2⟩ := hσ hs
        exact s1.iv b o id vo hi h2 (by rw [List.getElem?_append_left h1]; exact hv)
      it := s1.it }
  · have := low_rep (g' := { g1 with σ := g1.σ.take V.length }) (nt := T1.length) r1 rfl rfl rfl (by rw [← hlt1, List.take_length]) hlow
    rwa [List.take_length] at this

/-- A result, not frozen. -/
def rawD (l : List D) : D := match l with
  | [x] => x
  | xs => .tu xs
theorem ress_raw {fn : Func} {a : Act} {ds : List Deferred} {nt : Nat} {w0 : World} {g0 : Gh} {T0 : List Nat} {s : St} {rs : List ARes} {l : List D} (hm : mapO (trRes P) fn.results.toList = some rs) (hd : mapO (resD s) rs = some l) (hL : Lay ds nt w0 g0 T0 s a w) :
    a.defers = ds ∧ ∃ v, (results fn a.tmps).run P w = .ok v w ∧ Got w0 g0 T0 w v (rawD l) s.V s.T := by
  obtain ⟨g, h1, h2, h3, h4, h5, h6⟩ := hL
  refine ⟨h5, ?_⟩
  obtain ⟨vs, k1, k2⟩ := res_list h2 h3 hm hd
  have hrun : (results fn a.tmps).run P w = .ok (if h : vs.toArray.size = 1 then vs.toArray[0] else .tuple vs.toArray) w := by
    have e : results fn a.tmps = (do
        let vs ← List.toArray <$> fn.results.toList.mapM (resM a.tmps)
        pure (if h : vs.size = 1 then vs[0] else .tuple vs)) := by
      unfold results
      rw [Array.mapM_eq_mapM_toList]
      rfl
    rw [e]
    simp only [Sem.run_bind, Sem.run_map, k1, Result.andThen_ok, Sem.run_pure]
  refine ⟨_, hrun, g, h1, h2, ?_, h6⟩
  match l, k2 with
  | [x], k2 =>
    have hsz : vs.toArray.size = 1 := by rw [k2.1]; rfl
    rw [dif_pos hsz]
    have := k2.2 0 (by simp)
    simpa [rawD, Array.getD_eq_getD_getElem?, hsz] using this
  | [], k2 =>
    rw [dif_neg (by rw [k2.1]; simp)]
    exact .tu k2.1 k2.2
  | x :: y :: r, k2 =>
    rw [dif_neg (by rw [k2.1]; simp)]
    exact .tu k2.1 k2.2

/-- What a call yields, not frozen. -/
theorem callee_raw (hO : OrcOk P orc) (hw : P.follows .mixedOrders = true) {f : FuncId} {af : AFn} (hf : trFn P f = some af) {args : List D} {n : Nat} {o : Out} {s' : St} (hex : execN orc (trFn P) n af.body ⟨initE args, V, T⟩ = some (o, s'))
    (ho : (match o with | .nrm | .ret => True | _ => False)) {l : List D} (hres : mapO (resD s') af.res = some l) {cargs : Array Value} (hS : Sim w g V T) (hR : RepL w g T cargs args) :
    Enters P f ∧ Calls P f cargs w fun e w' => ∃ v, e = .returned v ∧ Got w g T w' v (rawD l) s'.V s'.T := by
  obtain ⟨fn, c, h1, h2, h3, h4, h5⟩ := trFn_spec hf
  refine ⟨⟨fn, h1, h2, by simp [h3]⟩, calls_of_wp h1 h3 ?_⟩
  have hL : Lay [] fn.ntmps w g T ⟨initE args, V, T⟩ { tmps := cargs ++ Array.replicate (fn.ntmps - cargs.size) undef, defers := [] } w :=
    ⟨g, Ext.refl _ _ _, hS, initE_ok hR _, by simp; omega, rfl, Below.refl _ _⟩
  refine (exec_ok (agOk P) hO hw n).1 [] fn.ntmps w g T c af.body _ _ _ w _ h4 hL hex ?_
  cases o with
  | nrm =>
    intro a' w' hL'
    obtain ⟨k1, v, k2, k3⟩ := ress_raw h5 hres hL'
    exact ⟨k1, v, k2, v, rfl, k3⟩
  | ret =>
    intro a' w' hL'
    obtain ⟨k1, v, k2, k3⟩ := ress_raw h5 hres hL'
    exact ⟨k1, v, k2, v, rfl, k3⟩
  | ext i => exact ho.elim
  | pan d => exact ho.elim

def rawQ (res : List ARes) (l : List D) (V : List VO) (T : List Nat) : Out → St → Prop
  | .nrm, s | .ret, s => mapO (resD s) res = some l ∧ s.V = V ∧ s.T = T
  | _, _ => False
theorem callee_rawE (hO : OrcOk P orc) (hw : P.follows .mixedOrders = true) {f : FuncId} {af : AFn} (hf : trFn P f = some af) {args : List D} {l : List D} {V1 : List VO} {T1 : List Nat} (hex : Ex orc (trFn P) af.body ⟨initE args, V, T⟩ (rawQ af.res l V1 T1))
    {cargs : Array Value} (hS : Sim w g V T) (hR : RepL w g T cargs args) : Enters P f ∧ Calls P f cargs w fun e w' => ∃ v, e = .returned v ∧ Got w g T w' v (rawD l) V1 T1 := by
  obtain ⟨n, o, s', h1, h2⟩ := hex
  cases o with
  | nrm => obtain ⟨k1, k2, k3⟩ := h2; subst k2; subst k3; exact callee_raw hO hw hf h1 trivial k1 hS hR
  | ret => obtain ⟨k1, k2, k3⟩ := h2; subst k2; subst k3; exact callee_raw hO hw hf h1 trivial k1 hS hR
  | ext i => exact h2.elim
  | pan d => exact h2.elim

/-- An empty slice held against nil: the answer is not known. -/
theorem oper_snil {ops : Array Oper} {o : Oper} {i d t t' et : Nat} {x : Operand} {x' : Opd} {ds : List Deferred} {nt : Nat} {w0 : World} {g0 : Gh} {T0 : List Nat} {s : St} {a : Act} {K : Act → World → Prop} {Q : Exit → Act → World → Prop}
    (hi : ops[i]? = some o) (hop : o.op = .binOp .eql t x (.const (.slice none 0 0)) t') (hg : o.guard = none) (hd : o.dst = some d) (hdn : d < nt) (ht : P.underlying t = some (.slice et)) (hx : opd x = some x') (hL : Lay ds nt w0 g0 T0 s a w) {cs : List Go.Abs.P}
    (hs : (ev s.e x').slc = some (0, cs)) (hk : ∀ (b : Bool) a w, Lay ds nt w0 g0 T0 ⟨upd s.e d (boD b), s.V, s.T⟩ a w → K a w) : wpOp P ops Q i K a w := by
  unfold wpOp
  simp only [hi]
  obtain ⟨g, h1, h2, h3, h4, h5, h6⟩ := hL
  have hwt : Region.wanted o (yielded ops a.tmps) = true := by simp [Region.wanted, hg]
  rw [hwt]
  simp only [if_true]
  refine .inl ?_
  have hv := slc_rep (opd_rep h3 hx) hs
  obtain ⟨ad, cap, hv2⟩ : ∃ ad cap, a.eval x = .slice ad 0 cap := by
    rcases hv with ⟨hv, _⟩ | ⟨ad, cap, us, hv, _⟩
    · exact ⟨none, 0, hv⟩
    · exact ⟨_, _, hv⟩
  have hk0 : a.eval (.const (.slice none 0 0)) = .slice none 0 0 := rfl
  unfold Oper.wp
  have hrun : (execOp a.eval o).run P w = .ok (.value (.bool ad.isNone)) w := by
    simp only [execOp, hop, hv2, hk0, Sem.run_bind, eqGuard_sc (P := P) (w := w) (u := .slice ad 0 cap) (fun cs => by simp) (by simp), Result.andThen_ok, Sem.run_pure, binOp, equal_slnil ht]
  rw [hrun]
  simp only [Oper.upon]
  refine hk ad.isNone _ _ ⟨g, h1, h2, ?_, by rw [put_size]; exact h4, by simp [Act.put, hd, h5], h6⟩
  have := h3.put (dst := o.dst) (x := .bool ad.isNone) (y := boD ad.isNone) (fun d' hd' => by rw [hd] at hd'; simp only [Option.some.injEq] at hd'; subst hd'; exact Nat.lt_of_lt_of_le hdn h4) (sc_rep rfl)
  rw [hd] at this ⊢
  exact this
mutual
theorem frz_idem : ∀ d : D, d.frz.frz = d.frz
  | .c p => rfl
  | .ag cs => by simp only [D.frz, frzL_idem cs]
  | .tu cs => by simp only [D.frz, frzL_idem cs]
  | .fs n cs => rfl
  | .ow id ver n cs => rfl
  | .ip cs => rfl
  | .mp id off => rfl
  | .fn f cs => by simp only [D.frz, frzL_idem cs]
  | .ifc t x => by simp only [D.frz, frz_idem x]
theorem frzL_idem : ∀ l : List D, frzL (frzL l) = frzL l
  | [] => rfl
  | x :: r => by simp only [frzL, frz_idem x, frzL_idem r]
end
theorem ressD_frz {s : St} {l : List ARes} {d : D} (h : ressD s l = some d) : d.frz = d := by
  unfold ressD at h
  split at h
  · simp only [Option.some.injEq] at h
    rw [← h, frz_idem]
  · simp only [Option.some.injEq] at h
    rw [← h]
    simp only [D.frz, frzL_idem]
  · simp at h
theorem callV_frz {orc : Orc} {F : FuncId → Option AFn} {f : FuncId} {args : List D} {d : D} (h : callV orc F f args = some (.ret d)) : d.frz = d := by
  obtain ⟨n, V, T, hr⟩ := of_callV h
  unfold callN at hr
  cases hf : F f with
  | none => rw [hf] at hr; simp at hr
  | some fn =>
    rw [hf] at hr
    simp only [] at hr
    split at hr
    · split at hr
      · rename_i hd
        simp only [Option.some.injEq, Prod.mk.injEq, Res.ret.injEq] at hr
        rw [← hr.1]
        exact ressD_frz hd
      · simp at hr
    · split at hr
      · rename_i hd
        simp only [Option.some.injEq, Prod.mk.injEq, Res.ret.injEq] at hr
        rw [← hr.1]
        exact ressD_frz hd
      · simp at hr
    · simp at hr
    · simp at hr
end
end Go.Abs

end
section
/- Own framework, part 29: symbolic runs through regions whose order is open. -/
set_option linter.unusedVariables false
set_option linter.unusedSimpArgs false
namespace Go.Abs
section
variable (orc : Orc) (F : FuncId → Option AFn) (ps : List (Nat × Nat))
def DrwE (acc : List Lab) (l : List AOper) (s : St) (Q : St → Prop) : Prop := ∃ n ls s', runDrw orc (callN orc F n) l s = some (ls, s') ∧ confAll (acc ++ ls) ps = true ∧ Q s'
def dacRun (call : CallF) (a : Option Ac) (d : Option Nat) (l : List AOper) (s : St) : Option (List Lab × St) :=
  match a with
  | none => none
  | some a => match doAc call s.V s.T a with
    | some (.ok x V T, lb) => match runDrw orc call l ⟨putE s.e d x, V, T⟩ with
      | none => none
      | some (ls, s2) => some (lb :: ls, s2)
    | _ => none
def DcE (acc : List Lab) (a : Option Ac) (d : Option Nat) (l : List AOper) (s : St) (Q : St → Prop) : Prop :=
  ∃ n ls s', dacRun orc (callN orc F n) a d l s = some (ls, s') ∧ confAll (acc ++ ls) ps = true ∧ Q s'
def GdE (acc : List Lab) (g : Option Bool) (op : AOp) (d : Option Nat) (l : List AOper) (s : St) (Q : St → Prop) : Prop :=
  match g with
  | none => False
  | some false => DrwE orc F ps (acc ++ [.q]) l ⟨putE s.e d und, s.V, s.T⟩ Q
  | some true => DcE orc F ps acc (act orc s.e op) d l s Q
end
section
variable {orc : Orc} {F : FuncId → Option AFn} {ps : List (Nat × Nat)} {acc : List Lab} {l : List AOper} {s : St} {d : Option Nat}
theorem Ex_drw' {Q : Out → St → Prop} (h : DrwE orc F ps [] l s (Q .nrm)) : Ex orc F (.drw l ps) s Q := by
  obtain ⟨n, ls, s', h, hc, q⟩ := h
  have hc' : confAll ls ps = true := hc
  exact ⟨n + 1, .nrm, s', by rw [execN_succ]; simp only [execC, execDrw, h, hc', if_true], q⟩
/-- No panic: else the goal is none of this. -/
theorem Ex_drw {Q : Out → St → Prop} : Ex orc F (.drw l ps) s Q ↔ (DrwE orc F ps [] l s (Q .nrm) ∨ ∃ n d, runPan orc (callN orc F n) ps l s = some d ∧ Q (.pan d) s) := by
  constructor
  · rintro ⟨n, o, s', h, q⟩
    cases n with
    | zero => simp [execN] at h
    | succ n =>
      rw [execN_succ] at h
      simp only [execC, execDrw] at h
      cases hd : runDrw orc (callN orc F n) l s with
      | none =>
        rw [hd] at h
        simp only [] at h
        cases hp : runPan orc (callN orc F n) ps l s with
        | none => rw [hp] at h; simp at h
        | some d =>
          rw [hp] at h
          simp only [Option.some.injEq, Prod.mk.injEq] at h
          obtain ⟨rfl, rfl⟩ := h
          exact .inr ⟨n, d, hp, q⟩
      | some x =>
        obtain ⟨ls, s2⟩ := x
        rw [hd] at h
        simp only at h
        split at h
        · rename_i hc
          simp only [Option.some.injEq, Prod.mk.injEq] at h
          obtain ⟨rfl, rfl⟩ := h
          exact .inl ⟨n, ls, s2, hd, hc, q⟩
        · simp at h
  · rintro (h | ⟨n, d, hp, q⟩)
    · exact Ex_drw' h
    · exact ⟨n + 1, .pan d, s, by rw [execN_succ]; simp only [execC, execDrw, runPan_not hp, hp], q⟩
variable {Q : St → Prop}
theorem DrwE_nil : DrwE orc F ps acc [] s Q ↔ confAll acc ps = true ∧ Q s := by
  constructor
  · rintro ⟨n, ls, s', h, hc, q⟩
    simp only [runDrw, Option.some.injEq, Prod.mk.injEq] at h
    obtain ⟨rfl, rfl⟩ := h
    exact ⟨by simpa using hc, q⟩
  · rintro ⟨hc, q⟩
    exact ⟨0, [], s, rfl, by simpa using hc, q⟩
theorem DrwE_plain {op : AOp} : DrwE orc F ps acc (⟨d, none, op⟩ :: l) s Q ↔ DcE orc F ps acc (act orc s.e op) d l s Q := by
  unfold DrwE DcE
  have : ∀ n, runDrw orc (callN orc F n) (⟨d, none, op⟩ :: l) s = dacRun orc (callN orc F n) (act orc s.e op) d l s := fun n => by
    simp only [runDrw, stepO, guardD, dacRun]
    cases ha : act orc s.e op with
    | none => rfl
    | some a =>
      simp only
      cases hd : doAc (callN orc F n) s.V s.T a with
      | none => rfl
      | some x =>
        obtain ⟨o, lb⟩ := x
        cases o <;> rfl
  simp only [this]
theorem DrwE_skip : (∃ n ls s', (match runDrw orc (callN orc F n) l s with | none => none | some (ls, s2) => some (Lab.q :: ls, s2)) = some (ls, s') ∧ confAll (acc ++ ls) ps = true ∧ Q s') ↔ DrwE orc F ps (acc ++ [.q]) l s Q := by
  constructor
  · rintro ⟨n, ls, s', h, hc, q⟩
    cases hd : runDrw orc (callN orc F n) l s with
    | none => rw [hd] at h; simp at h
    | some x =>
      obtain ⟨l2, s2⟩ := x
      rw [hd] at h
      simp only [Option.some.injEq, Prod.mk.injEq] at h
      obtain ⟨rfl, rfl⟩ := h
      exact ⟨n, l2, s2, hd, by simpa using hc, q⟩
  · rintro ⟨n, ls, s', h, hc, q⟩
    exact ⟨n, .q :: ls, s', by rw [h], by simpa using hc, q⟩
theorem DrwE_lab {lb : Lab} : (∃ n ls s', (match runDrw orc (callN orc F n) l s with | none => none | some (ls, s2) => some (lb :: ls, s2)) = some (ls, s') ∧ confAll (acc ++ ls) ps = true ∧ Q s') ↔ DrwE orc F ps (acc ++ [lb]) l s Q := by
  constructor
  · rintro ⟨n, ls, s', h, hc, q⟩
    cases hd : runDrw orc (callN orc F n) l s with
    | none => rw [hd] at h; simp at h
    | some x =>
      obtain ⟨l2, s2⟩ := x
      rw [hd] at h
      simp only [Option.some.injEq, Prod.mk.injEq] at h
      obtain ⟨rfl, rfl⟩ := h
      exact ⟨n, l2, s2, hd, by simpa using hc, q⟩
  · rintro ⟨n, ls, s', h, hc, q⟩
    exact ⟨n, lb :: ls, s', by rw [h], by simpa using hc, q⟩
theorem DrwE_guard {op : AOp} {t : Nat} {w : Bool} : DrwE orc F ps acc (⟨d, some (t, w), op⟩ :: l) s Q ↔ GdE orc F ps acc (guardD s.e (some (t, w))) op d l s Q := by
  cases hg : guardD s.e (some (t, w)) with
  | none =>
    simp only [GdE, iff_false]
    rintro ⟨n, ls, s', h, hc, q⟩
    simp [runDrw, stepO, hg] at h
  | some b =>
    cases b with
    | false =>
      simp only [GdE]
      rw [← DrwE_lab (lb := .q)]
      unfold DrwE
      simp only [runDrw, stepO, hg]
      exact Iff.rfl
    | true =>
      simp only [GdE]
      rw [← DrwE_plain]
      have : ∀ n, runDrw orc (callN orc F n) (⟨d, some (t, w), op⟩ :: l) s = runDrw orc (callN orc F n) (⟨d, none, op⟩ :: l) s := fun n => by
        have hn : guardD s.e none = some true := rfl
        simp only [runDrw, stepO, hg, hn]
      unfold DrwE
      simp only [this]
theorem GdE_false {op : AOp} : GdE orc F ps acc (some false) op d l s Q ↔ DrwE orc F ps (acc ++ [.q]) l ⟨putE s.e d und, s.V, s.T⟩ Q := Iff.rfl
theorem GdE_true {op : AOp} : GdE orc F ps acc (some true) op d l s Q ↔ DcE orc F ps acc (act orc s.e op) d l s Q := Iff.rfl
theorem DcE_q {x : D} : DcE orc F ps acc (some (.q x)) d l s Q ↔ DrwE orc F ps (acc ++ [.q]) l ⟨putE s.e d x, s.V, s.T⟩ Q := by
  rw [← DrwE_lab (lb := .q)]; rfl
theorem DcE_push {t : TypeId} {it : Bool} {cs : List D} : DcE orc F ps acc (some (.push t it cs)) d l s Q ↔ DrwE orc F ps (acc ++ [.ps s.V.length]) l ⟨putE s.e d (.mp s.V.length 0), s.V ++ [⟨t, it, false, cs⟩], s.T⟩ Q := by
  rw [← DrwE_lab]; rfl
theorem DcE_tp {mk : Nat → D} : DcE orc F ps acc (some (.tp mk)) d l s Q ↔ DrwE orc F ps (acc ++ [.tp s.T.length]) l ⟨putE s.e d (mk s.T.length), s.V, s.T ++ [0]⟩ Q := by
  rw [← DrwE_lab]; rfl
def drdE (orc : Orc) (F : FuncId → Option AFn) (ps : List (Nat × Nat)) (acc : List Lab) (id : Nat) (o : Option VO) (f : List D → Option D) (d : Option Nat) (l : List AOper) (s : St) (Q : St → Prop) : Prop :=
  match o with
  | some o => if o.it then False else match f o.cs with
    | some x => DrwE orc F ps (acc ++ [.rd id]) l ⟨putE s.e d x, s.V, s.T⟩ Q
    | none => False
  | none => False
theorem DcE_rd {id : Nat} {f : List D → Option D} : DcE orc F ps acc (some (.rd id f)) d l s Q ↔ drdE orc F ps acc id s.V[id]? f d l s Q := by
  unfold drdE
  cases ho : s.V[id]? with
  | none => simp [DcE, dacRun, doAc, ho]
  | some o =>
    simp only
    by_cases hi : o.it = true
    · simp [DcE, dacRun, doAc, ho, hi]
    · rw [if_neg hi]
      cases hf : f o.cs with
      | none => simp [DcE, dacRun, doAc, ho, hi, hf]
      | some x =>
        simp only
        rw [← DrwE_lab]
        unfold DcE dacRun
        simp only [doAc, ho, if_neg hi, hf]
def dcallE (orc : Orc) (F : FuncId → Option AFn) (ps : List (Nat × Nat)) (acc : List Lab) (r : Option Res) (f : FuncId) (args : List D) (d : Option Nat) (l : List AOper) (s : St) (Q : St → Prop) : Prop :=
  match r with
  | some (.ret x) => if x.closed = true then DrwE orc F ps (acc ++ [.q]) l ⟨putE s.e d x, s.V, s.T⟩ Q else DcE orc F ps acc (some (.call f args)) d l s Q
  | _ => DcE orc F ps acc (some (.call f args)) d l s Q
theorem DcE_call {f : FuncId} {args : List D} (hc : closedL args = true) : DcE orc F ps acc (some (.call f args)) d l s Q ↔ dcallE orc F ps acc (callV orc F f args) f args d l s Q := by
  cases hv : callV orc F f args with
  | none => exact Iff.rfl
  | some r =>
    obtain ⟨k, V, T, hk⟩ := of_callV hv
    cases r with
    | pan x => exact Iff.rfl
    | ret x =>
      simp only [dcallE]
      by_cases hx : x.closed = true
      · rw [if_pos hx]
        constructor
        · rintro ⟨n, ls, s', h, hcf, q⟩
          simp only [dacRun, doAc, hc, if_true] at h
          cases hn : callN orc F n f args [] [] with
          | none => rw [hn] at h; simp at h
          | some y =>
            obtain ⟨r', V', T'⟩ := y
            obtain rfl : (.ret x : Res) = r' := Cl_det ⟨k, V, T, hk⟩ ⟨n, V', T', hn⟩
            rw [hn] at h
            simp only [hx, if_true] at h
            exact DrwE_lab.1 ⟨n, ls, s', h, hcf, q⟩
        · intro h
          obtain ⟨n, ls, s', h, hcf, q⟩ := DrwE_lab.2 h
          refine ⟨max k n, ls, s', ?_, hcf, q⟩
          simp only [dacRun, doAc, hc, if_true]
          rw [callN_mono (Nat.le_max_left k n) _ _ _ _ _ hk]
          simp only [hx, if_true]
          cases hd : runDrw orc (callN orc F n) l ⟨putE s.e d x, s.V, s.T⟩ with
          | none => rw [hd] at h; simp at h
          | some y =>
            rw [hd] at h
            rw [runDrw_le (callN_mono (Nat.le_max_right k n)).s _ _ _ hd]
            exact h
      · rw [if_neg hx]
end
end Go.Abs

end
section
/- Own framework, part 30: loops, by what holds at each round. -/
set_option linter.unusedVariables false
set_option linter.unusedSimpArgs false
namespace Go.Abs
section
variable {orc : Orc} {F : FuncId → Option AFn}
/-- Behind one round: the next one's state, smaller; or out. -/
def indQ {α : Type} (m : α → Nat) (I : α → St → Prop) (x : α) (Q : Out → St → Prop) : Out → St → Prop
  | .nrm, s => ∃ y, m y < m x ∧ I y s
  | o, s => Q o s
section
variable {α : Type} {m : α → Nat} {I : α → St → Prop} {x : α} {Q : Out → St → Prop} {s : St}
theorem indQ_nrm : indQ m I x Q .nrm s = ∃ y, m y < m x ∧ I y s := rfl
theorem indQ_ret : indQ m I x Q .ret s = Q .ret s := rfl
theorem indQ_ext {i : Nat} : indQ m I x Q (.ext i) s = Q (.ext i) s := rfl
theorem indQ_pan {d : D} : indQ m I x Q (.pan d) s = Q (.pan d) s := rfl
end
theorem Ex_loop_meas {α : Type} (m : α → Nat) (I : α → St → Prop) {c : ACode} {Q : Out → St → Prop} (h : ∀ x s, I x s → Ex orc F c s (indQ m I x Q)) : ∀ (n : Nat) (x : α) (s : St), m x ≤ n → I x s → Ex orc F (.loop c) s Q
  | n, x, s, hn, hi => by
    rw [Ex_loop]
    refine Ex_mono (h x s hi) fun o s' hq => ?_
    cases o with
    | nrm =>
      obtain ⟨y, h1, h2⟩ := hq
      match n, hn with
      | 0, hn => omega
      | n + 1, hn => exact Ex_loop_meas m I h n y s' (by omega) h2
    | ret => exact hq
    | ext i => exact hq
    | pan d => exact hq
theorem Ex_loop_of {α : Type} (m : α → Nat) (I : α → St → Prop) {c : ACode} {Q : Out → St → Prop} (x : α) {s : St} (hi : I x s) (h : ∀ x s, I x s → Ex orc F c s (indQ m I x Q)) : Ex orc F (.loop c) s Q :=
  Ex_loop_meas m I h (m x) x s (Nat.le_refl _) hi
/-- Rounds that are counted. -/
def cntQ (N : Nat) (I : Nat → St → Prop) (i : Nat) (Q : Out → St → Prop) : Out → St → Prop
  | .nrm, s => i < N ∧ I (i + 1) s
  | o, s => Q o s
section
variable {N : Nat} {I : Nat → St → Prop} {i : Nat} {Q : Out → St → Prop} {s : St}
theorem cntQ_nrm : cntQ N I i Q .nrm s = (i < N ∧ I (i + 1) s) := rfl
theorem cntQ_ret : cntQ N I i Q .ret s = Q .ret s := rfl
theorem cntQ_ext {k : Nat} : cntQ N I i Q (.ext k) s = Q (.ext k) s := rfl
theorem cntQ_pan {d : D} : cntQ N I i Q (.pan d) s = Q (.pan d) s := rfl
end
theorem Ex_loop_cnt (N : Nat) (I : Nat → St → Prop) {c : ACode} {Q : Out → St → Prop} {s : St} (hi : I 0 s) (h : ∀ i s, i ≤ N → I i s → Ex orc F c s (cntQ N I i Q)) : Ex orc F (.loop c) s Q :=
  Ex_loop_of (fun i => N - i) (fun i s => i ≤ N ∧ I i s) 0 ⟨Nat.zero_le _, hi⟩ fun i s ⟨h1, h2⟩ => Ex_mono (h i s h1 h2) fun o s' hq => by
    cases o with
    | nrm =>
      have h3 : i < N := hq.1
      exact ⟨i + 1, by show N - (i + 1) < N - i; omega, by omega, hq.2⟩
    | ret => exact hq
    | ext i => exact hq
    | pan d => exact hq
/-- The run ends in a panic with this value. -/
def panQ (x : D) : Out → St → Prop
  | .pan d, _ => d = x
  | _, _ => False
theorem panQ_pan {x d : D} {s : St} : panQ x (.pan d) s = (d = x) := rfl
theorem callV_pan {f : FuncId} {fn : AFn} {args : List D} {x : D} (hf : F f = some fn) (h : Ex orc F fn.body ⟨initE args, [], []⟩ (panQ x)) : callV orc F f args = some (.pan x) := by
  obtain ⟨n, o, s, hn, hq⟩ := h
  refine callV_of ⟨n, s.V, s.T, ?_⟩
  unfold callN
  simp only [hf, hn]
  cases o with
  | pan d => have : d = x := hq; rw [this]
  | nrm => exact hq.elim
  | ret => exact hq.elim
  | ext i => exact hq.elim
/-- One of the two. -/
def resQ (res : List ARes) (r : Res) : Out → St → Prop := match r with
  | .ret x => retQ res x
  | .pan x => panQ x
theorem callV_res {f : FuncId} {fn : AFn} {args : List D} {r : Res} (hf : F f = some fn) (h : Ex orc F fn.body ⟨initE args, [], []⟩ (resQ fn.res r)) : callV orc F f args = some r := by
  cases r with
  | ret x => exact callV_ret hf h
  | pan x => exact callV_pan hf h
end
end Go.Abs

end
section
/- The compiled code of functions 51 52 104 116, printed by a program; each is what the compiler 'trFn' gives. -/
set_option maxRecDepth 100000
namespace Go.Proofs.YthglfhnlolefhaaGreatDoor
open Go.Abs
def c51 : AFn := ⟨6, [(.cell true 5 2)], (.seq (.reg [⟨(some 2), none, (.alloc 27 [(.v (.bool false)), (.v (.bool false)), (.sl 0 []), (.sl 0 []), (.sl 0 [])])⟩]) (.seq (.reg [⟨(some 3), none, (.mv (.t 0))⟩, ⟨(some 4), none, (.call 104 [(.t 3)])⟩, ⟨(some 5), none, (.build [(.v (.bool false)), (.v (.bool false)), (.sl 0 []), (.sl 0 []), (.sl 0 [])] [⟨0, 1, (.k (.c (.v (.bool true))))⟩, ⟨4, 1, (.t 4)⟩])⟩, ⟨none, none, (.store 5 (.t 2) (.t 5))⟩]) .ret))⟩
theorem tr51 : trFn Tryz.prog 51 = some c51 := by kernel_rfl
def c52 : AFn := ⟨6, [(.cell true 5 2)], (.seq (.reg [⟨(some 2), none, (.alloc 27 [(.v (.bool false)), (.v (.bool false)), (.sl 0 []), (.sl 0 []), (.sl 0 [])])⟩]) (.seq (.reg [⟨(some 3), none, (.mv (.t 0))⟩, ⟨(some 4), none, (.conv (.s2b 5) (.t 3))⟩, ⟨(some 5), none, (.build [(.v (.bool false)), (.v (.bool false)), (.sl 0 []), (.sl 0 []), (.sl 0 [])] [⟨3, 1, (.t 4)⟩])⟩, ⟨none, none, (.store 5 (.t 2) (.t 5))⟩]) .ret))⟩
theorem tr52 : trFn Tryz.prog 52 = some c52 := by kernel_rfl
def c104 : AFn := ⟨8, [(.t 2)], (.seq (.reg [⟨(some 2), none, (.mv (.k (.fs 0 [])))⟩]) (.seq (.seq (.reg [⟨(some 3), none, (.mv (.t 0))⟩, ⟨(some 4), none, (.snil false (.t 3))⟩]) (.cond (.t 4) (.seq (.reg [⟨(some 2), none, (.mv (.k (.fs 0 [])))⟩]) .ret) .skip)) (.seq (.reg [⟨(some 5), none, (.bsl 27 0 [] [])⟩, ⟨(some 6), none, (.mv (.t 0))⟩, ⟨(some 7), none, (.app 27 5 80 false (.t 5) (.t 6))⟩, ⟨(some 2), none, (.mv (.t 7))⟩]) .ret)))⟩
theorem tr104 : trFn Tryz.prog 104 = some c104 := by kernel_rfl
def c116 : AFn := ⟨8, [(.t 2)], (.seq (.reg [⟨(some 2), none, (.mv (.k (.fs 0 [])))⟩]) (.seq (.seq (.reg [⟨(some 3), none, (.mv (.t 0))⟩, ⟨(some 4), none, (.snil false (.t 3))⟩]) (.cond (.t 4) (.seq (.reg [⟨(some 2), none, (.mv (.k (.fs 0 [])))⟩]) .ret) .skip)) (.seq (.reg [⟨(some 5), none, (.bsl 5 0 [] [])⟩, ⟨(some 6), none, (.mv (.t 0))⟩, ⟨(some 7), none, (.app 5 1 1 false (.t 5) (.t 6))⟩, ⟨(some 2), none, (.mv (.t 7))⟩]) .ret)))⟩
theorem tr116 : trFn Tryz.prog 116 = some c116 := by kernel_rfl
end Go.Proofs.YthglfhnlolefhaaGreatDoor

end
section
/- Own: what is taken from a table: slices.Clone, bytes.Clone, sexp.List. -/
set_option maxRecDepth 100000
set_option linter.unusedSimpArgs false
set_option linter.unusedVariables false
namespace Go.Proofs.YthglfhnlolefhaaGreatDoor
open Go.Abs
open Go.RowKit (Below)
noncomputable abbrev F := trFn Tryz.prog
theorem mixed : Tryz.prog.follows .mixedOrders = true := by kernel_rfl
def orcN : Orc := fun _ => none
theorem orcN_ok : OrcOk Tryz.prog orcN := fun f h hf => by simp [orcN] at hf

/-! ### clones -/
theorem clone104 (n : Nat) (cs : List Go.Abs.P) (hn : n ≠ 0) (hl : cs.length = n * 5) (h1 : n * 80 ≤ room) (h2 : n ≤ room) (V : List VO) (T : List Nat) :
    Ex orcN F c104.body ⟨initE [.c (.sl n cs)], V, T⟩ (rawQ c104.res [.ow T.length 0 n cs] V (T ++ [0])) := by
  simp only [c104, orcN, hn, hl, h1, h2, Nat.zero_add, Nat.zero_mul, DrwE_nil, DrwE_plain, DrwE_guard, GdE_true, GdE_false, DcE_q, DcE_push, DcE_rd, drdE, dcallE, Ex_seq, Ex_reg, Ex_ret, Ex_skip, Ex_exit, Ex_block, Ex_cond', condE_true, condE_false, loopQ_nrm, loopQ_ret, loopQ_ext, blockQ_nrm, blockQ_ret, blockQ_ext, OpsE_plain, OpsE_guard, OpsE_nil, GuE_true, GuE_false, guardD, act, callA, ev, upd, putE, AcE_q, AcE_push, AcE_rd', AcE_wr', rdE, wrE, initE, thenQ_nrm, thenQ_ret, thenQ_ext, retQ, qo_s, convD, D.slc, unBytes_bytesP, bytesP_length, binD, scD, blD, scBin, blBin, strBin, intBin, ressD, mapO, resD, D.frz, frzL, frz_cells, D.closed, closedL, closed_cells, mkV_true, gt0, gtk, st0, stk, List.append_assoc, List.length_append, D.fits, D.cells, partD, mkV_false, setAt, iadD, asI, List.map_cons, List.map_nil, List.getElem?_cons_zero, List.getElem?_cons_succ, List.getElem?_nil, List.length_cons, List.length_nil, List.drop_succ_cons, List.drop_zero, List.take_succ_cons, List.take_zero, List.nil_append, List.cons_append, List.set_cons_zero, List.set_cons_succ, Nat.reduceAdd, Nat.reduceLeDiff, Nat.reduceEqDiff, Nat.reduceBEq, beq_iff_eq, reduceCtorEq, ↓reduceIte, Option.map_some, Option.some.injEq, Bool.true_and, Bool.false_and, Bool.and_true, Bool.and_self, Bool.and_false, Bool.or_self, Bool.false_eq_true, b_ff, b_ft, b_tf, b_tt, Bool.not_true, Bool.not_false, BEq.rfl, decide_true, decide_false, Nat.le_refl, callE, zD, snilD, inilD, tasD, fnilD, AcE_tp, AcE_tw, twE, DcE_tp, appD, appSrc, fillD, fillP, D.pcells, cellPure, thenQ_pan, blockQ_pan, loopQ_pan, cntQ_nrm, cntQ_ret, cntQ_ext, cntQ_pan, indQ_nrm, indQ_ret, indQ_ext, indQ_pan, resQ, panQ_pan, rawQ, unD, and_self, and_true, true_and, not_true_eq_false, not_false_eq_true]
theorem clone116 (n : Nat) (cs : List Go.Abs.P) (hn : n ≠ 0) (hl : cs.length = n) (h2 : n ≤ room) (V : List VO) (T : List Nat) :
    Ex orcN F c116.body ⟨initE [.c (.sl n cs)], V, T⟩ (rawQ c116.res [.ow T.length 0 n cs] V (T ++ [0])) := by
  simp only [c116, orcN, hn, hl, h2, Nat.zero_add, Nat.zero_mul, Nat.mul_one, DrwE_nil, DrwE_plain, DrwE_guard, GdE_true, GdE_false, DcE_q, DcE_push, DcE_rd, drdE, dcallE, Ex_seq, Ex_reg, Ex_ret, Ex_skip, Ex_exit, Ex_block, Ex_cond', condE_true, condE_false, loopQ_nrm, loopQ_ret, loopQ_ext, blockQ_nrm, blockQ_ret, blockQ_ext, OpsE_plain, OpsE_guard, OpsE_nil, GuE_true, GuE_false, guardD, act, callA, ev, upd, putE, AcE_q, AcE_push, AcE_rd', AcE_wr', rdE, wrE, initE, thenQ_nrm, thenQ_ret, thenQ_ext, retQ, qo_s, convD, D.slc, unBytes_bytesP, bytesP_length, binD, scD, blD, scBin, blBin, strBin, intBin, ressD, mapO, resD, D.frz, frzL, frz_cells, D.closed, closedL, closed_cells, mkV_true, gt0, gtk, st0, stk, List.append_assoc, List.length_append, D.fits, D.cells, partD, mkV_false, setAt, iadD, asI, List.map_cons, List.map_nil, List.getElem?_cons_zero, List.getElem?_cons_succ, List.getElem?_nil, List.length_cons, List.length_nil, List.drop_succ_cons, List.drop_zero, List.take_succ_cons, List.take_zero, List.nil_append, List.cons_append, List.set_cons_zero, List.set_cons_succ, Nat.reduceAdd, Nat.reduceLeDiff, Nat.reduceEqDiff, Nat.reduceBEq, beq_iff_eq, reduceCtorEq, ↓reduceIte, Option.map_some, Option.some.injEq, Bool.true_and, Bool.false_and, Bool.and_true, Bool.and_self, Bool.and_false, Bool.or_self, Bool.false_eq_true, b_ff, b_ft, b_tf, b_tt, Bool.not_true, Bool.not_false, BEq.rfl, decide_true, decide_false, Nat.le_refl, callE, zD, snilD, inilD, tasD, fnilD, AcE_tp, AcE_tw, twE, DcE_tp, appD, appSrc, fillD, fillP, D.pcells, cellPure, thenQ_pan, blockQ_pan, loopQ_pan, cntQ_nrm, cntQ_ret, cntQ_ext, cntQ_pan, indQ_nrm, indQ_ret, indQ_ext, indQ_pan, resQ, panQ_pan, rawQ, unD, and_self, and_true, true_and, not_true_eq_false, not_false_eq_true]

section
variable {w w' : World} {g : Gh} {V : List VO} {T : List Nat}
/-- An empty slice's clone: whichever way it goes. -/
theorem cloneE {f : FuncId} {fn : Func} {t t' et : TypeId} {i0 i1 i2 i3 : Nat} {o0 o1 o2 o3 : Oper} {os : Array Oper} {e2 sz by2 : Nat} (hfn : Tryz.prog.funcs[f]? = some fn) (hnt : fn.ntmps = 8) (hres : fn.results = #[.tmp 2])
    (hb : fn.body = some (.seq (.region i0 #[o0] false) (.seq (.seq (.region i1 #[o1, o2] false) (.cond (.tmp 4) (.seq (.region i2 #[o3] false) .ret) .skip)) (.seq (.region i3 os false) .ret))))
    (h0 : trCode Tryz.prog 8 (.region i0 #[o0] false) = some (.reg [⟨some 2, none, .mv (.k (.fs 0 []))⟩])) (h1 : trOper Tryz.prog #[o1, o2] 8 o1 = some ⟨some 3, none, .mv (.t 0)⟩)
    (hop : o2.op = .binOp .eql t (.tmp 3) (.const (.slice none 0 0)) t') (hg : o2.guard = none) (hd : o2.dst = some 4) (ht : Tryz.prog.underlying t = some (.slice et))
    (h3 : trCode Tryz.prog 8 (.seq (.region i2 #[o3] false) .ret) = some (.seq (.reg [⟨some 2, none, .mv (.k (.fs 0 []))⟩]) .ret))
    (h4 : trCode Tryz.prog 8 (.seq (.region i3 os false) .ret) = some (.seq (.reg [⟨some 5, none, .bsl e2 0 [] []⟩, ⟨some 6, none, .mv (.t 0)⟩, ⟨some 7, none, .app e2 sz by2 false (.t 5) (.t 6)⟩, ⟨some 2, none, .mv (.t 7)⟩]) .ret))
    {x : D} {cs : List Go.Abs.P} (hx : x.slc = some (0, cs)) {cargs : Array Value} (hS : Sim w g V T) (hR : RepL w g T cargs [x]) :
    Calls Tryz.prog f cargs w fun e w' => ∃ v, e = .returned v ∧ Got w g T w' v (.fs 0 []) V T := by
  refine calls_of_wp hfn hb ?_
  rw [hnt]
  have hL : Lay [] 8 w g T ⟨initE [x], V, T⟩ { tmps := cargs ++ Array.replicate (8 - cargs.size) undef, defers := [] } w :=
    ⟨g, Ext.refl _ _ _, hS, initE_ok hR _, by simp; omega, rfl, Below.refl _ _⟩
  have ex := fun n => (exec_ok (agOk Tryz.prog) orcN_ok mixed n).1
  have fin : ∀ (s : St) a' w', s.e 2 = .fs 0 [] → s.V = V → s.T = T → Lay [] 8 w g T s a' w' → bodyPost Tryz.prog fn (fun e w' => ∃ v, e = .returned v ∧ Got w g T w' v (.fs 0 []) V T) .ret a' w' := fun s a' w' he hV hT hL' => by
    obtain ⟨k1, v, k2, k3⟩ := ress_raw (fn := fn) (rs := [.t 2]) (l := [.fs 0 []]) (by rw [hres]; rfl) (by simp [mapO, resD, he]) hL'
    rw [hV, hT] at k3
    exact ⟨k1, v, k2, v, rfl, k3⟩
  refine wp_seq (ex 1 _ _ _ _ _ _ _ _ _ _ _ _ h0 hL rfl ?_)
  intro a1 w1 hL1
  refine wp_seq (wp_seq (wp_region ?_))
  simp only [show List.range #[o1, o2].size = [0, 1] from rfl, wpOps_cons]
  refine oper_ok (agOk Tryz.prog) (callN_ok orcN_ok mixed 0) orcN_ok rfl h1 hL1 (fun hb => by simp [guardD] at hb) (by simp [guardD]) (fun _ => ⟨_, _, _, rfl, rfl, ?_⟩)
  intro a2 w2 hL2
  refine oper_snil (ops := #[o1, o2]) (o := o2) (i := 1) (x' := .t 3) (cs := cs) rfl hop hg hd (by omega) ht rfl hL2 (by simpa [ev, putE, upd, initE] using hx) ?_
  intro b a3 w3 hL3
  simp only [wpOps]
  obtain ⟨g3, q1, q2, q3, q4⟩ := id hL3
  have hb4 : a3.eval (.tmp 4) = .bool b := rep_sc (opd_rep (a := a3) (x := .tmp 4) (y := .t 4) q3 rfl)
  refine wp_cond hb4 ?_
  cases b with
  | true =>
    refine ex 1 _ _ _ _ _ _ _ _ _ _ _ _ h3 hL3 rfl ?_
    intro a4 w4 hL4
    exact fin _ a4 w4 rfl rfl rfl hL4
  | false =>
    refine wp_skip ?_
    have hE : ∀ s : St, s.e 0 = x → s.V = V → s.T = T → Ex orcN F (.seq (.reg [⟨some 5, none, .bsl e2 0 [] []⟩, ⟨some 6, none, .mv (.t 0)⟩, ⟨some 7, none, .app e2 sz by2 false (.t 5) (.t 6)⟩, ⟨some 2, none, .mv (.t 7)⟩]) .ret) s (rawQ [.t 2] [.fs 0 []] V T) := fun s h0 hV hT => by
      simp only [Ex_seq, Ex_reg, OpsE_plain, OpsE_nil, act, fillP, ev, putE, upd, AcE_q, Option.map_some, Nat.reduceEqDiff, ↓reduceIte, h0, appD, appSrc, hx, thenQ_nrm, Ex_ret, rawQ, mapO, resD, hV, hT, and_self]
    have key : ∀ s, Lay [] 8 w g T s a3 w3 → s.e 0 = x → s.V = V → s.T = T → Code.wp Tryz.prog (.seq (.region i3 os false) .ret) (bodyPost Tryz.prog fn fun e w' => ∃ v, e = .returned v ∧ Got w g T w' v (.fs 0 []) V T) a3 w3 := fun s hL3 q1 q2 q3 => by
     obtain ⟨n, o, s', k1, k2⟩ := hE s q1 q2 q3
     refine ex n _ _ _ _ _ _ _ _ _ _ _ _ h4 hL3 k1 ?_
     cases o with
     | ret =>
       obtain ⟨m1, m2, m3⟩ := k2
       exact fun a4 w4 hL4 => fin _ a4 w4 (by simpa [mapO, resD] using m1) m2 m3 hL4
     | nrm =>
       obtain ⟨m1, m2, m3⟩ := k2
       exact fun a4 w4 hL4 => fin _ a4 w4 (by simpa [mapO, resD] using m1) m2 m3 hL4
     | ext i => exact k2.elim
     | pan d => exact k2.elim
    exact key _ hL3 (by simp [upd, putE, initE]) rfl rfl
end
end Go.Proofs.YthglfhnlolefhaaGreatDoor

end
section
/- Own: the tables. -/
set_option maxRecDepth 100000
set_option linter.unusedSimpArgs false
set_option linter.unusedVariables false
namespace Go.Proofs.YthglfhnlolefhaaGreatDoor
open Go.Abs
open Go.RowKit (Below)

/-- A clone that may be appended to. -/
def cloneT (esz b : Nat) : List D → Option Ac
  | [x] => match x.slc with
    | some (n, cs) => if cs.length = n * esz ∧ n * b ≤ room ∧ n ≤ room then (if n = 0 then some (.q (.fs 0 [])) else some (.tp fun id => .ow id 0 n cs)) else none
    | none => none
  | _ => none
/-- A clone that is only read. -/
def cloneC (esz b : Nat) : List D → Option Ac
  | [x] => match x.slc with
    | some (n, cs) => if cs.length = n * esz ∧ n * b ≤ room ∧ n ≤ room then some (.q (.c (.sl n cs))) else none
    | none => none
  | _ => none
def listT : List D → Option Ac
  | [x] => match x.slc with
    | some (n, cs) => if cs.length = n * 5 ∧ n * 80 ≤ room ∧ n ≤ room then (if n = 0 then some (.q (.ag [boD true, boD false, byD [], byD [], .fs 0 []])) else some (.tp fun id => .ag [boD true, boD false, byD [], byD [], .ow id 0 n cs])) else none
    | none => none
  | _ => none
def orc1 : Orc := fun f => if f = 104 then some (cloneT 5 80) else none
/-- The table of all functions but those that recover. -/
def orcA : Orc := fun f => if f = 51 then some listT else if f = 116 then some (cloneC 1 1) else none

theorem frz_slc {a : D} {n : Nat} {cs : List Go.Abs.P} (h : a.frz.slc = some (n, cs)) : a.frz = .c (.sl n cs) := by
  cases a with
  | c p =>
    cases p with
    | v x => simp [D.frz, D.slc] at h
    | sl m ds => simp only [D.frz, D.slc, Option.some.injEq, Prod.mk.injEq] at h; show D.c (.sl m ds) = _; rw [h.1, h.2]
  | fs m ds => simp only [D.frz, D.slc, Option.some.injEq, Prod.mk.injEq] at h; rw [D.frz, h.1, h.2]
  | ow i v m ds => simp only [D.frz, D.slc, Option.some.injEq, Prod.mk.injEq] at h; rw [D.frz, h.1, h.2]
  | _ => simp [D.frz, D.slc] at h
theorem frzL_one {args : List D} {x : D} (h : frzL args = [x]) : ∃ a, args = [a] ∧ x = a.frz := by
  rw [frzL_map] at h
  obtain ⟨a, rfl, rfl⟩ := List.map_eq_singleton_iff.1 h
  exact ⟨a, rfl, rfl⟩

theorem e104 : ∀ {w : World} {g : Gh} {V : List VO} {T : List Nat} {x : D} {cs : List Go.Abs.P} (_ : x.slc = some (0, cs)) {cargs : Array Value} (_ : Sim w g V T) (_ : RepL w g T cargs [x]),
    Calls Tryz.prog 104 cargs w fun e w' => ∃ v, e = .returned v ∧ Got w g T w' v (.fs 0 []) V T := fun hx _ hS hR =>
  cloneE (et := 27) (e2 := 27) (sz := 5) (by2 := 80) Tryz.func104 rfl rfl rfl (by kernel_rfl) (by kernel_rfl) rfl rfl rfl (by kernel_rfl) (by kernel_rfl) (by kernel_rfl) hx hS hR
theorem e116 : ∀ {w : World} {g : Gh} {V : List VO} {T : List Nat} {x : D} {cs : List Go.Abs.P} (_ : x.slc = some (0, cs)) {cargs : Array Value} (_ : Sim w g V T) (_ : RepL w g T cargs [x]),
    Calls Tryz.prog 116 cargs w fun e w' => ∃ v, e = .returned v ∧ Got w g T w' v (.fs 0 []) V T := fun hx _ hS hR =>
  cloneE (et := 5) (e2 := 5) (sz := 1) (by2 := 1) Tryz.func116 rfl rfl rfl (by kernel_rfl) (by kernel_rfl) rfl rfl rfl (by kernel_rfl) (by kernel_rfl) (by kernel_rfl) hx hS hR
theorem enters_of {P : Program} {f : FuncId} {af : AFn} (h : trFn P f = some af) : Enters P f := by
  obtain ⟨fn, c, h1, h2, h3, h4, h5⟩ := trFn_spec h
  exact ⟨fn, h1, h2, by simp [h3]⟩

theorem orc1_ok : OrcOk Tryz.prog orc1 := by
  intro f h hf args ac hac w g V T cargs call out l hS hR hd
  unfold orc1 at hf
  split at hf
  case isFalse => simp at hf
  rename_i e
  subst e
  simp only [Option.some.injEq] at hf
  subst hf
  have hR' := frzL_rep hR
  unfold cloneT at hac
  split at hac
  case h_2 => simp at hac
  rename_i x hargs
  rw [hargs] at hR'
  obtain ⟨a, rfl, rfl⟩ := frzL_one hargs
  split at hac
  case h_2 => simp at hac
  rename_i n cs hs
  split at hac
  case isFalse => simp at hac
  rename_i hc
  refine .inl ⟨enters_run (enters_of tr104), ?_⟩
  split at hac
  · rename_i h0
    subst h0
    simp only [Option.some.injEq] at hac
    subst hac
    simp only [doAc, Option.some.injEq, Prod.mk.injEq] at hd
    obtain ⟨rfl, _⟩ := hd
    exact e104 hs hS hR'
  · rename_i hn
    simp only [Option.some.injEq] at hac
    subst hac
    simp only [doAc, Option.some.injEq, Prod.mk.injEq] at hd
    obtain ⟨rfl, _⟩ := hd
    rw [frz_slc hs] at hR'
    exact (callee_rawE orcN_ok mixed tr104 (clone104 n cs hn hc.1 hc.2.1 hc.2.2 V T) hS hR').2

theorem ag_weak {w : World} {g : Gh} {T : List Nat} {v : Value} {ds ds' : List D} (h : RepD w g T v (.ag ds)) (hl : ds'.length = ds.length) (hw : ∀ i (h1 : i < ds.length) (h2 : i < ds'.length), ds'[i] = ds[i] ∨ ds'[i] = ds[i].frz) : RepD w g T v (.ag ds') := by
  obtain ⟨cs, rfl, ⟨h1, h2⟩, h3⟩ := rep_ag h
  refine .ag (by rw [h1, hl]) (fun i hi => ?_) fun i hi => ?_
  · rcases hw i (by omega) hi with e | e
    · rw [e]; exact h3 i (by omega)
    · rw [e]; exact frz_one (h3 i (by omega))
  · rcases hw i (by omega) hi with e | e
    · rw [e]; exact h2 i (by omega)
    · rw [e]; exact frz_rep (h2 i (by omega))

theorem list51 (n : Nat) (cs : List Go.Abs.P) (hn : n ≠ 0) (hl : cs.length = n * 5) (h1 : n * 80 ≤ room) (h2 : n ≤ room) (V : List VO) (T : List Nat) :
    Ex orc1 F c51.body ⟨initE [.c (.sl n cs)], V, T⟩ (rawQ c51.res [.ag [boD true, boD false, .fs 0 [], .fs 0 [], .ow T.length 0 n cs]] (V ++ [⟨27, false, false, [boD true, boD false, .fs 0 [], .fs 0 [], .ow T.length 0 n cs]⟩]) (T ++ [0])) := by
  simp only [c51, orc1, cloneT, hn, hl, h1, h2, DrwE_nil, DrwE_plain, DrwE_guard, GdE_true, GdE_false, DcE_q, DcE_push, DcE_rd, drdE, dcallE, Ex_seq, Ex_reg, Ex_ret, Ex_skip, Ex_exit, Ex_block, Ex_cond', condE_true, condE_false, loopQ_nrm, loopQ_ret, loopQ_ext, blockQ_nrm, blockQ_ret, blockQ_ext, OpsE_plain, OpsE_guard, OpsE_nil, GuE_true, GuE_false, guardD, act, callA, ev, upd, putE, AcE_q, AcE_push, AcE_rd', AcE_wr', rdE, wrE, initE, thenQ_nrm, thenQ_ret, thenQ_ext, retQ, qo_s, convD, D.slc, unBytes_bytesP, bytesP_length, binD, scD, blD, scBin, blBin, strBin, intBin, ressD, mapO, resD, D.frz, frzL, frz_cells, D.closed, closedL, closed_cells, mkV_true, gt0, gtk, st0, stk, List.append_assoc, List.length_append, D.fits, D.cells, partD, mkV_false, setAt, iadD, asI, List.map_cons, List.map_nil, List.getElem?_cons_zero, List.getElem?_cons_succ, List.getElem?_nil, List.length_cons, List.length_nil, List.drop_succ_cons, List.drop_zero, List.take_succ_cons, List.take_zero, List.nil_append, List.cons_append, List.set_cons_zero, List.set_cons_succ, Nat.reduceAdd, Nat.reduceLeDiff, Nat.reduceEqDiff, Nat.reduceBEq, beq_iff_eq, reduceCtorEq, ↓reduceIte, Option.map_some, Option.some.injEq, Bool.true_and, Bool.false_and, Bool.and_true, Bool.and_self, Bool.and_false, Bool.or_self, Bool.false_eq_true, b_ff, b_ft, b_tf, b_tt, Bool.not_true, Bool.not_false, BEq.rfl, decide_true, decide_false, Nat.le_refl, callE, zD, snilD, inilD, tasD, fnilD, AcE_tp, AcE_tw, twE, DcE_tp, appD, appSrc, fillD, fillP, D.pcells, cellPure, thenQ_pan, blockQ_pan, loopQ_pan, cntQ_nrm, cntQ_ret, cntQ_ext, cntQ_pan, indQ_nrm, indQ_ret, indQ_ext, indQ_pan, resQ, panQ_pan, rawQ, unD, and_self, and_true, true_and, not_true_eq_false, not_false_eq_true]
theorem list51e (V : List VO) (T : List Nat) :
    Ex orc1 F c51.body ⟨initE [.c (.sl 0 [])], V, T⟩ (rawQ c51.res [.ag [boD true, boD false, .fs 0 [], .fs 0 [], .fs 0 []]] (V ++ [⟨27, false, false, [boD true, boD false, .fs 0 [], .fs 0 [], .fs 0 []]⟩]) T) := by
  simp only [c51, orc1, cloneT, Nat.zero_mul, Nat.zero_le, DrwE_nil, DrwE_plain, DrwE_guard, GdE_true, GdE_false, DcE_q, DcE_push, DcE_rd, drdE, dcallE, Ex_seq, Ex_reg, Ex_ret, Ex_skip, Ex_exit, Ex_block, Ex_cond', condE_true, condE_false, loopQ_nrm, loopQ_ret, loopQ_ext, blockQ_nrm, blockQ_ret, blockQ_ext, OpsE_plain, OpsE_guard, OpsE_nil, GuE_true, GuE_false, guardD, act, callA, ev, upd, putE, AcE_q, AcE_push, AcE_rd', AcE_wr', rdE, wrE, initE, thenQ_nrm, thenQ_ret, thenQ_ext, retQ, qo_s, convD, D.slc, unBytes_bytesP, bytesP_length, binD, scD, blD, scBin, blBin, strBin, intBin, ressD, mapO, resD, D.frz, frzL, frz_cells, D.closed, closedL, closed_cells, mkV_true, gt0, gtk, st0, stk, List.append_assoc, List.length_append, D.fits, D.cells, partD, mkV_false, setAt, iadD, asI, List.map_cons, List.map_nil, List.getElem?_cons_zero, List.getElem?_cons_succ, List.getElem?_nil, List.length_cons, List.length_nil, List.drop_succ_cons, List.drop_zero, List.take_succ_cons, List.take_zero, List.nil_append, List.cons_append, List.set_cons_zero, List.set_cons_succ, Nat.reduceAdd, Nat.reduceLeDiff, Nat.reduceEqDiff, Nat.reduceBEq, beq_iff_eq, reduceCtorEq, ↓reduceIte, Option.map_some, Option.some.injEq, Bool.true_and, Bool.false_and, Bool.and_true, Bool.and_self, Bool.and_false, Bool.or_self, Bool.false_eq_true, b_ff, b_ft, b_tf, b_tt, Bool.not_true, Bool.not_false, BEq.rfl, decide_true, decide_false, Nat.le_refl, callE, zD, snilD, inilD, tasD, fnilD, AcE_tp, AcE_tw, twE, DcE_tp, appD, appSrc, fillD, fillP, D.pcells, cellPure, thenQ_pan, blockQ_pan, loopQ_pan, cntQ_nrm, cntQ_ret, cntQ_ext, cntQ_pan, indQ_nrm, indQ_ret, indQ_ext, indQ_pan, resQ, panQ_pan, rawQ, unD, and_self, and_true, true_and, not_true_eq_false, not_false_eq_true]
theorem clone116c (n : Nat) (cs : List Go.Abs.P) (hn : n ≠ 0) (hl : cs.length = n) (h2 : n ≤ room) : callV orcN F 116 [.c (.sl n cs)] = some (.ret (.c (.sl n cs))) := by
  obtain ⟨m, o, s', h3, h4⟩ := clone116 n cs hn hl h2 [] []
  refine callV_ret tr116 ⟨m, o, s', h3, ?_⟩
  cases o with
  | ret =>
    obtain ⟨k1, _⟩ := h4
    simp only [retQ, ressD]
    rw [k1]
    rfl
  | nrm =>
    obtain ⟨k1, _⟩ := h4
    simp only [retQ, ressD]
    rw [k1]
    rfl
  | ext i => exact h4.elim
  | pan d => exact h4.elim

theorem orcA_ok : OrcOk Tryz.prog orcA := by
  intro f h hf args ac hac w g V T cargs call out l hS hR hd
  unfold orcA at hf
  have hR' := frzL_rep hR
  split at hf
  · rename_i e
    subst e
    simp only [Option.some.injEq] at hf
    subst hf
    unfold listT at hac
    split at hac
    case h_2 => simp at hac
    rename_i x hargs
    rw [hargs] at hR'
    obtain ⟨a, rfl, rfl⟩ := frzL_one hargs
    split at hac
    case h_2 => simp at hac
    rename_i n cs hs
    split at hac
    case isFalse => simp at hac
    rename_i hc
    refine .inl ⟨enters_run (enters_of tr51), ?_⟩
    rw [frz_slc hs] at hR'
    split at hac
    · rename_i h0
      subst h0
      simp only [Option.some.injEq] at hac
      subst hac
      simp only [doAc, Option.some.injEq, Prod.mk.injEq] at hd
      obtain ⟨rfl, _⟩ := hd
      obtain rfl : cs = [] := List.eq_nil_of_length_eq_zero (by simpa using hc.1)
      refine ((callee_rawE orc1_ok mixed tr51 (list51e V T) hS hR').2).mono fun e w' hp => ?_
      obtain ⟨v, rfl, hg⟩ := hp
      obtain ⟨g', k1, k2, k3, k4⟩ := got_dropV hS hg rfl (Nat.le_refl _)
      exact ⟨v, rfl, g', k1, k2, ag_weak k3 rfl (fun i h1 h2 => by
        match i, h1 with
        | 0, _ => exact .inl rfl
        | 1, _ => exact .inl rfl
        | 2, _ => exact .inr rfl
        | 3, _ => exact .inr rfl
        | 4, _ => exact .inl rfl), k4⟩
    · rename_i hn
      simp only [Option.some.injEq] at hac
      subst hac
      simp only [doAc, Option.some.injEq, Prod.mk.injEq] at hd
      obtain ⟨rfl, _⟩ := hd
      refine ((callee_rawE orc1_ok mixed tr51 (list51 n cs hn hc.1 hc.2.1 hc.2.2 V T) hS hR').2).mono fun e w' hp => ?_
      obtain ⟨v, rfl, hg⟩ := hp
      obtain ⟨g', k1, k2, k3, k4⟩ := got_dropV hS hg (by simp [rawD, D.low, lowL]) (by simp)
      exact ⟨v, rfl, g', k1, k2, ag_weak k3 rfl (fun i h1 h2 => by
        match i, h1 with
        | 0, _ => exact .inl rfl
        | 1, _ => exact .inl rfl
        | 2, _ => exact .inr rfl
        | 3, _ => exact .inr rfl
        | 4, _ => exact .inl rfl), k4⟩
  · split at hf
    case isFalse => simp at hf
    rename_i e
    subst e
    simp only [Option.some.injEq] at hf
    subst hf
    unfold cloneC at hac
    split at hac
    case h_2 => simp at hac
    rename_i x hargs
    rw [hargs] at hR'
    obtain ⟨a, rfl, rfl⟩ := frzL_one hargs
    split at hac
    case h_2 => simp at hac
    rename_i n cs hs
    split at hac
    case isFalse => simp at hac
    rename_i hc
    simp only [Option.some.injEq] at hac
    subst hac
    simp only [doAc, Option.some.injEq, Prod.mk.injEq] at hd
    obtain ⟨rfl, _⟩ := hd
    by_cases h0 : n = 0
    · subst h0
      obtain rfl : cs = [] := List.eq_nil_of_length_eq_zero (by simpa using hc.1)
      refine .inl ⟨enters_run (enters_of tr116), (e116 hs hS hR').mono fun e w' hp => ?_⟩
      obtain ⟨v, rfl, g', k1, k2, k3, k4⟩ := hp
      exact ⟨v, rfl, g', k1, k2, frz_rep k3, k4⟩
    · obtain ⟨m, V1, T1, hm⟩ := of_callV (clone116c n cs h0 (by simpa using hc.1) hc.2.2)
      rw [frz_slc hs] at hR'
      exact call_ok (callN_ok orcN_ok mixed m) (f := 116) (ds := [.c (.sl n cs)]) (l := .q) hS hR' (by simp only [doAc, frzL, D.frz, closedL, D.closed, Bool.and_self, if_true, hm])
end Go.Proofs.YthglfhnlolefhaaGreatDoor

end
section
/- The compiled code of functions 60 61 62 106 143 159 180 199, printed by a program; each is what the compiler 'trFn' gives. -/
set_option maxRecDepth 100000
namespace Go.Proofs.YthglfhnlolefhaaGreatDoor
open Go.Abs
def c60 : AFn := ⟨6, [], (.seq (.reg [⟨(some 2), none, (.mv (.t 0))⟩, ⟨(some 3), none, (.un .not (.t 2))⟩]) (.cond (.t 3) (.reg [⟨(some 4), none, (.build [] [])⟩, ⟨(some 5), none, (.mki 86 (.t 4))⟩, ⟨none, none, (.panic (.t 5))⟩]) .skip))⟩
theorem tr60 : trFn Tryz.prog 60 = some c60 := by kernel_rfl
def c61 : AFn := ⟨16, [(.t 2)], (.seq (.reg [⟨(some 1), none, (.box 27 5 (.t 0))⟩, ⟨(some 2), none, (.mv (.k (.c (.v (.bool false)))))⟩]) (.seq (.reg [⟨(some 4), none, (.build [(.v (.int .i64 0)), (.v (.int .i64 0))] [])⟩, ⟨(some 5), none, (.box 128 2 (.t 4))⟩, ⟨(some 3), none, (.mv (.t 5))⟩]) (.seq (.reg [⟨(some 6), none, (.mv (.t 3))⟩, ⟨(some 7), none, (.load true 5 (.t 1))⟩, ⟨(some 8), none, (.call 106 [(.t 6), (.t 7), (.k (.c (.v (.int .i64 1))))])⟩, ⟨(some 9), none, (.mv (.t 8))⟩, ⟨(some 10), (some (9, true)), (.mv (.t 3))⟩, ⟨(some 11), (some (9, true)), (.nilck (.t 10))⟩, ⟨(some 12), (some (9, true)), (.fad 1 (.t 11))⟩, ⟨(some 13), (some (9, true)), (.load false 1 (.t 12))⟩, ⟨(some 14), (some (9, true)), (.bin .leq .sc (.t 13) (.k (.c (.v (.int .i64 4096)))))⟩, ⟨(some 15), none, (.pick (.t 9) (.t 14) (.k (.c (.v (.bool false)))))⟩, ⟨(some 2), none, (.mv (.t 15))⟩]) .ret)))⟩
theorem tr61 : trFn Tryz.prog 61 = some c61 := by kernel_rfl
def c62 : AFn := ⟨20, [(.cell true 10 2)], (.seq (.reg [⟨(some 1), none, (.box 27 5 (.t 0))⟩, ⟨(some 2), none, (.alloc 34 [(.v (.int .u8 0)), (.sl 0 []), (.sl 0 []), (.v (.int .u8 0)), (.v (.bool false)), (.v (.bool false)), (.sl 0 []), (.v (.bool false)), (.v (.bool false)), (.sl 0 [])])⟩]) (.seq (.block 0 (.seq (.reg [⟨(some 4), none, (.load true 5 (.t 1))⟩, ⟨(some 5), none, (.call 107 [(.t 4)])⟩, ⟨(some 3), none, (.mv (.t 5))⟩]) (.cond (.t 3) (.seq (.reg [⟨(some 6), none, (.fad 4 (.t 1))⟩, ⟨(some 7), none, (.load false 1 (.t 6))⟩, ⟨(some 8), none, (.slc (.sl 5) (.t 7) (some (.k (.c (.v (.int .i64 1))))) none none)⟩, ⟨(some 9), none, (.call 108 [(.t 8)])⟩, ⟨none, none, (.store 10 (.t 2) (.t 9))⟩]) .ret) (.seq (.reg [⟨(some 11), none, (.fad 0 (.t 1))⟩, ⟨(some 12), none, (.load false 1 (.t 11))⟩, ⟨(some 10), none, (.mv (.t 12))⟩]) (.cond (.t 10) (.seq (.reg [⟨(some 13), none, (.fad 4 (.t 1))⟩, ⟨(some 14), none, (.load false 1 (.t 13))⟩, ⟨(some 15), none, (.call 109 [(.t 14)])⟩, ⟨(some 16), none, (.build [(.v (.int .u8 0)), (.sl 0 []), (.sl 0 []), (.v (.int .u8 0)), (.v (.bool false)), (.v (.bool false)), (.sl 0 []), (.v (.bool false)), (.v (.bool false)), (.sl 0 [])] [⟨0, 1, (.k (.c (.v (.int .u8 3))))⟩, ⟨2, 1, (.t 15)⟩])⟩, ⟨none, none, (.store 10 (.t 2) (.t 16))⟩]) .ret) .skip))))) (.seq (.reg [⟨(some 17), none, (.load true 5 (.t 1))⟩, ⟨(some 18), none, (.call 110 [(.t 17)])⟩, ⟨(some 19), none, (.build [(.v (.int .u8 0)), (.sl 0 []), (.sl 0 []), (.v (.int .u8 0)), (.v (.bool false)), (.v (.bool false)), (.sl 0 []), (.v (.bool false)), (.v (.bool false)), (.sl 0 [])] [⟨0, 1, (.k (.c (.v (.int .u8 2))))⟩, ⟨1, 1, (.t 18)⟩])⟩, ⟨none, none, (.store 10 (.t 2) (.t 19))⟩]) .ret)))⟩
theorem tr62 : trFn Tryz.prog 62 = some c62 := by kernel_rfl
def c106L0 : ACode := (.seq (.reg [⟨(some 82), none, (.bin .lss .sc (.t 81) (.t 80))⟩]) (.seq (.cond (.t 82) .skip (.exit 0)) (.seq (.block 1 (.seq (.reg [⟨(some 83), none, (.iad (.sl 5) (.t 79) (.t 81))⟩, ⟨(some 84), none, (.load true 5 (.t 83))⟩, ⟨(some 8), none, (.alloc 27 [(.v (.bool false)), (.v (.bool false)), (.sl 0 []), (.sl 0 []), (.sl 0 [])])⟩, ⟨none, none, (.store 5 (.t 8) (.t 84))⟩]) (.seq (.reg [⟨(some 85), none, (.mv (.t 0))⟩, ⟨(some 86), none, (.load true 5 (.t 8))⟩, ⟨(some 87), none, (.mv (.t 2))⟩, ⟨(some 88), none, (.bin .add .sc (.t 87) (.k (.c (.v (.int .i64 1)))))⟩, ⟨(some 89), none, (.call 106 [(.t 85), (.t 86), (.t 88)])⟩, ⟨(some 90), none, (.un .not (.t 89))⟩]) (.cond (.t 90) (.seq (.reg [⟨(some 6), none, (.mv (.k (.c (.v (.bool false)))))⟩]) .ret) .skip)))) (.reg [⟨(some 91), none, (.bin .add .sc (.t 81) (.k (.c (.v (.int .i64 1)))))⟩, ⟨(some 81), none, (.mv (.t 91))⟩]))))
def c106 : AFn := ⟨92, [(.t 6)], (.seq (.reg [⟨(some 4), none, (.box 27 5 (.t 1))⟩, ⟨(some 6), none, (.mv (.k (.c (.v (.bool false)))))⟩]) (.seq (.seq (.reg [⟨(some 9), none, (.mv (.t 0))⟩, ⟨(some 10), none, (.nilck (.t 9))⟩, ⟨(some 11), none, (.fad 0 (.t 10))⟩, ⟨(some 12), none, (.load false 1 (.t 11))⟩, ⟨(some 13), none, (.bin .add .sc (.t 12) (.k (.c (.v (.int .i64 1)))))⟩, ⟨(some 14), none, (.nilck (.t 9))⟩, ⟨(some 15), none, (.fad 0 (.t 14))⟩, ⟨none, none, (.store 1 (.t 15) (.t 13))⟩]) (.seq (.reg [⟨(some 16), none, (.mv (.t 0))⟩, ⟨(some 17), none, (.nilck (.t 16))⟩, ⟨(some 18), none, (.fad 0 (.t 17))⟩, ⟨(some 19), none, (.load false 1 (.t 18))⟩, ⟨(some 20), none, (.bin .gtr .sc (.t 19) (.k (.c (.v (.int .i64 512)))))⟩]) (.cond (.t 20) (.seq (.reg [⟨(some 6), none, (.mv (.k (.c (.v (.bool false)))))⟩]) .ret) .skip))) (.seq (.seq (.reg [⟨(some 21), none, (.fad 0 (.t 4))⟩, ⟨(some 22), none, (.load false 1 (.t 21))⟩, ⟨(some 23), none, (.un .not (.t 22))⟩]) (.cond (.t 23) (.seq (.seq (.reg [⟨(some 24), none, (.fad 1 (.t 4))⟩, ⟨(some 25), none, (.load false 1 (.t 24))⟩]) (.cond (.t 25) (.seq (.reg [⟨(some 26), none, (.mv (.t 0))⟩, ⟨(some 27), none, (.nilck (.t 26))⟩, ⟨(some 28), none, (.fad 1 (.t 27))⟩, ⟨(some 29), none, (.load false 1 (.t 28))⟩, ⟨(some 30), none, (.bin .add .sc (.t 29) (.k (.c (.v (.int .i64 2)))))⟩, ⟨(some 31), none, (.nilck (.t 26))⟩, ⟨(some 32), none, (.fad 1 (.t 31))⟩, ⟨none, none, (.store 1 (.t 32) (.t 30))⟩]) (.reg [⟨(some 33), none, (.mv (.t 0))⟩, ⟨(some 34), none, (.fad 2 (.t 4))⟩, ⟨(some 35), none, (.load false 1 (.t 34))⟩, ⟨(some 36), none, (.call 143 [(.t 33), (.t 35)])⟩])) .skip)) (.seq (.reg [⟨(some 37), none, (.mv (.t 0))⟩, ⟨(some 38), none, (.fad 3 (.t 4))⟩, ⟨(some 39), none, (.load false 1 (.t 38))⟩, ⟨(some 40), none, (.call 143 [(.t 37), (.t 39)])⟩]) (.seq (.reg [⟨(some 41), none, (.fad 4 (.t 4))⟩, ⟨(some 42), none, (.load false 1 (.t 41))⟩, ⟨(some 43), none, (.len .sl (.t 42))⟩, ⟨(some 44), none, (.bin .eql .sc (.t 43) (.k (.c (.v (.int .i64 0)))))⟩, ⟨(some 45), none, (.mv (.t 44))⟩, ⟨(some 46), (some (45, true)), (.fad 1 (.t 4))⟩, ⟨(some 47), (some (45, true)), (.load false 1 (.t 46))⟩, ⟨(some 48), (some (45, true)), (.mv (.t 47))⟩, ⟨(some 49), (some (48, false)), (.fad 2 (.t 4))⟩, ⟨(some 50), (some (48, false)), (.load false 1 (.t 49))⟩, ⟨(some 51), (some (48, false)), (.len .sl (.t 50))⟩, ⟨(some 52), (some (48, false)), (.bin .eql .sc (.t 51) (.k (.c (.v (.int .i64 0)))))⟩, ⟨(some 53), (some (45, true)), (.pick (.t 48) (.k (.c (.v (.bool true)))) (.t 52))⟩, ⟨(some 54), none, (.pick (.t 45) (.t 53) (.k (.c (.v (.bool false)))))⟩, ⟨(some 6), none, (.mv (.t 54))⟩]) .ret))) .skip)) (.seq (.seq (.reg [⟨(some 55), none, (.mv (.t 2))⟩, ⟨(some 56), none, (.bin .gtr .sc (.t 55) (.k (.c (.v (.int .i64 16)))))⟩, ⟨(some 57), none, (.mv (.t 56))⟩, ⟨(some 58), (some (57, false)), (.fad 1 (.t 4))⟩, ⟨(some 59), (some (57, false)), (.load false 1 (.t 58))⟩, ⟨(some 60), none, (.pick (.t 57) (.k (.c (.v (.bool true)))) (.t 59))⟩, ⟨(some 61), none, (.mv (.t 60))⟩, ⟨(some 62), (some (61, false)), (.fad 2 (.t 4))⟩, ⟨(some 63), (some (61, false)), (.load false 1 (.t 62))⟩, ⟨(some 64), (some (61, false)), (.len .sl (.t 63))⟩, ⟨(some 65), (some (61, false)), (.fad 3 (.t 4))⟩, ⟨(some 66), (some (61, false)), (.load false 1 (.t 65))⟩, ⟨(some 67), (some (61, false)), (.len .sl (.t 66))⟩, ⟨(some 68), (some (61, false)), (.bin .add .sc (.t 64) (.t 67))⟩, ⟨(some 69), (some (61, false)), (.bin .gtr .sc (.t 68) (.k (.c (.v (.int .i64 0)))))⟩, ⟨(some 70), none, (.pick (.t 61) (.k (.c (.v (.bool true)))) (.t 69))⟩]) (.cond (.t 70) (.seq (.reg [⟨(some 6), none, (.mv (.k (.c (.v (.bool false)))))⟩]) .ret) .skip)) (.seq (.reg [⟨(some 71), none, (.mv (.t 0))⟩, ⟨(some 72), none, (.nilck (.t 71))⟩, ⟨(some 73), none, (.fad 1 (.t 72))⟩, ⟨(some 74), none, (.load false 1 (.t 73))⟩, ⟨(some 75), none, (.bin .add .sc (.t 74) (.k (.c (.v (.int .i64 2)))))⟩, ⟨(some 76), none, (.nilck (.t 71))⟩, ⟨(some 77), none, (.fad 1 (.t 76))⟩, ⟨none, none, (.store 1 (.t 77) (.t 75))⟩]) (.seq (.seq (.reg [⟨(some 78), none, (.fad 4 (.t 4))⟩, ⟨(some 79), none, (.load false 1 (.t 78))⟩, ⟨(some 80), none, (.len .sl (.t 79))⟩, ⟨(some 81), none, (.mv (.k (.c (.v (.int .i64 0)))))⟩]) (.block 0 (.loop c106L0))) (.seq (.reg [⟨(some 6), none, (.mv (.k (.c (.v (.bool true)))))⟩]) .ret)))))))⟩
theorem tr106 : trFn Tryz.prog 106 = some c106 := by kernel_rfl
def c143 : AFn := ⟨19, [], (.drw [⟨(some 4), none, (.mv (.t 0))⟩, ⟨(some 5), none, (.nilck (.t 4))⟩, ⟨(some 6), none, (.fad 1 (.t 5))⟩, ⟨(some 7), none, (.load false 1 (.t 6))⟩, ⟨(some 8), none, (.mv (.t 1))⟩, ⟨(some 9), none, (.len .sl (.t 8))⟩, ⟨(some 10), none, (.call 159 [(.t 9)])⟩, ⟨(some 11), none, (.len .str (.t 10))⟩, ⟨(some 12), none, (.bin .add .sc (.t 11) (.k (.c (.v (.int .i64 1)))))⟩, ⟨(some 13), none, (.mv (.t 1))⟩, ⟨(some 14), none, (.len .sl (.t 13))⟩, ⟨(some 15), none, (.bin .add .sc (.t 12) (.t 14))⟩, ⟨(some 16), none, (.bin .add .sc (.t 7) (.t 15))⟩, ⟨(some 17), none, (.nilck (.t 4))⟩, ⟨(some 18), none, (.fad 1 (.t 17))⟩, ⟨none, none, (.store 1 (.t 18) (.t 16))⟩] [(0, 2), (0, 3), (1, 3), (0, 4), (1, 4), (2, 4), (3, 4), (0, 5), (1, 5), (2, 5), (3, 5), (0, 6), (1, 6), (2, 6), (3, 6), (4, 6), (0, 7), (1, 7), (2, 7), (3, 7), (4, 7), (5, 7), (0, 8), (1, 8), (2, 8), (3, 8), (4, 8), (5, 8), (6, 8), (0, 9), (1, 9), (2, 9), (3, 9), (4, 9), (5, 9), (6, 9), (7, 9), (8, 9), (0, 10), (1, 10), (2, 10), (3, 10), (4, 10), (5, 10), (6, 10), (7, 10), (8, 10), (0, 11), (1, 11), (2, 11), (3, 11), (4, 11), (5, 11), (6, 11), (7, 11), (9, 11), (0, 12), (1, 12), (2, 12), (4, 12), (5, 12), (6, 12), (7, 12), (8, 12), (9, 12), (10, 12), (13, 15)])⟩
theorem tr143 : trFn Tryz.prog 143 = some c143 := by kernel_rfl
def c159 : AFn := ⟨6, [(.t 2)], (.seq (.reg [⟨(some 2), none, (.mv (.k (.c (.v (.string ⟨#[]⟩)))))⟩]) (.seq (.reg [⟨(some 3), none, (.mv (.t 0))⟩, ⟨(some 4), none, (.mx [(.t 3), (.k (.c (.v (.int .i64 0))))])⟩, ⟨(some 5), none, (.call 180 [(.t 4)])⟩, ⟨(some 2), none, (.mv (.t 5))⟩]) .ret))⟩
theorem tr159 : trFn Tryz.prog 159 = some c159 := by kernel_rfl
def c180 : AFn := ⟨5, [(.t 2)], (.seq (.reg [⟨(some 2), none, (.mv (.k (.c (.v (.string ⟨#[]⟩)))))⟩]) (.seq (.reg [⟨(some 3), none, (.mv (.t 0))⟩, ⟨(some 4), none, (.call 199 [(.t 3)])⟩, ⟨(some 2), none, (.mv (.t 4))⟩]) .ret))⟩
theorem tr180 : trFn Tryz.prog 180 = some c180 := by kernel_rfl
def c199 : AFn := ⟨5, [(.t 2)], (.seq (.reg [⟨(some 2), none, (.mv (.k (.c (.v (.string ⟨#[]⟩)))))⟩]) (.seq (.reg [⟨(some 3), none, (.mv (.t 0))⟩, ⟨(some 4), none, (.call 219 [(.t 3), (.k (.c (.v (.int .i64 10))))])⟩, ⟨(some 2), none, (.mv (.t 4))⟩]) .ret))⟩
theorem tr199 : trFn Tryz.prog 199 = some c199 := by kernel_rfl
end Go.Proofs.YthglfhnlolefhaaGreatDoor

end
section
/- Own: tag.Get: what it does, panics caught, out of what tag.get does. -/
set_option maxRecDepth 100000
set_option linter.unusedSimpArgs false
set_option linter.unusedVariables false
namespace Go.Proofs.YthglfhnlolefhaaGreatDoor
open Go.Abs
open Go.RowKit (Below)

/-- The zero Tag's cells. -/
abbrev zTag : List Go.Abs.P := [.v (.int .u8 0), .sl 0 [], .sl 0 [], .v (.int .u8 0), .v (.bool false), .v (.bool false), .sl 0 [], .v (.bool false), .v (.bool false), .sl 0 []]
def l20a : List AOper := [⟨(some 1), none, (.box 27 5 (.t 0))⟩, ⟨(some 2), none, (.alloc 34 zTag)⟩, ⟨(some 3), none, (.alloc 37 [(.v (.int .i64 0))])⟩]
def l20c : List AOper := [⟨(some 5), none, (.load true 5 (.t 1))⟩, ⟨(some 6), none, (.call 61 [(.t 5)])⟩, ⟨(some 7), none, (.call 60 [(.t 6)])⟩]
def l20d : List AOper := [⟨(some 8), none, (.load true 5 (.t 1))⟩, ⟨(some 9), none, (.call 62 [(.t 8)])⟩, ⟨none, none, (.store 10 (.t 2) (.t 9))⟩, ⟨none, none, (.store 1 (.t 3) (.k (.c (.v (.int .i64 0)))))⟩]
def g59b : ACode := (.reg [⟨(some 6), none, (.mv (.t 2))⟩, ⟨(some 7), none, (.inil true (.t 6))⟩])
def g59c : ACode := (.cond (.t 7) (.seq (.seq (.reg [⟨(some 9), none, (.mv (.t 2))⟩, ⟨(some 10), none, (.tas 86 (.t 9))⟩, ⟨(some 8), none, (.mv (.t 10))⟩, ⟨(some 11), none, (.ext (.t 8) 0)⟩, ⟨(some 12), none, (.ext (.t 8) 1)⟩, ⟨(some 3), none, (.alloc 86 [])⟩, ⟨none, none, (.store 0 (.t 3) (.t 11))⟩, ⟨(some 4), none, (.mv (.t 12))⟩]) (.seq (.reg [⟨(some 13), none, (.mv (.t 4))⟩, ⟨(some 14), none, (.un .not (.t 13))⟩]) (.cond (.t 14) (.reg [⟨(some 15), none, (.mv (.t 2))⟩, ⟨none, none, (.panic (.t 15))⟩]) .skip))) (.reg [⟨(some 16), none, (.build zTag [])⟩, ⟨none, none, (.store 10 (.t 0) (.t 16))⟩, ⟨none, none, (.store 1 (.t 1) (.k (.c (.v (.int .i64 13)))))⟩])) .skip)

/-- Behind the closure, where nothing was thrown. -/
theorem run59r (v0 v1 v2 : VO) (e : Env) (h2 : e 2 = .c (.v .nilIface)) : Ex orcA F (.seq g59b g59c) ⟨e, [v0, v1, v2], []⟩ (fun o s => o = .nrm ∧ s.V = [v0, v1, v2] ∧ s.T = []) := by
  simp only [g59b, g59c, h2, DrwE_nil, DrwE_plain, DrwE_guard, GdE_true, GdE_false, DcE_q, DcE_push, DcE_rd, drdE, dcallE, Ex_seq, Ex_reg, Ex_ret, Ex_skip, Ex_exit, Ex_block, Ex_cond', condE_true, condE_false, loopQ_nrm, loopQ_ret, loopQ_ext, blockQ_nrm, blockQ_ret, blockQ_ext, OpsE_plain, OpsE_guard, OpsE_nil, GuE_true, GuE_false, guardD, act, callA, ev, upd, putE, AcE_q, AcE_push, AcE_rd', AcE_wr', rdE, wrE, initE, thenQ_nrm, thenQ_ret, thenQ_ext, retQ, qo_s, convD, D.slc, unBytes_bytesP, bytesP_length, binD, scD, blD, scBin, blBin, strBin, intBin, ressD, mapO, resD, D.frz, frzL, frz_cells, D.closed, closedL, closed_cells, mkV_true, gt0, gtk, st0, stk, List.append_assoc, List.length_append, D.fits, D.cells, partD, mkV_false, setAt, iadD, asI, List.map_cons, List.map_nil, List.getElem?_cons_zero, List.getElem?_cons_succ, List.getElem?_nil, List.length_cons, List.length_nil, List.drop_succ_cons, List.drop_zero, List.take_succ_cons, List.take_zero, List.nil_append, List.cons_append, List.set_cons_zero, List.set_cons_succ, Nat.reduceAdd, Nat.reduceLeDiff, Nat.reduceEqDiff, Nat.reduceBEq, beq_iff_eq, reduceCtorEq, ↓reduceIte, Option.map_some, Option.some.injEq, Bool.true_and, Bool.false_and, Bool.and_true, Bool.and_self, Bool.and_false, Bool.or_self, Bool.false_eq_true, b_ff, b_ft, b_tf, b_tt, Bool.not_true, Bool.not_false, BEq.rfl, decide_true, decide_false, Nat.le_refl, callE, zD, snilD, inilD, tasD, fnilD, AcE_tp, AcE_tw, twE, DcE_tp, appD, appSrc, fillD, fillP, D.pcells, cellPure, thenQ_pan, blockQ_pan, loopQ_pan, cntQ_nrm, cntQ_ret, cntQ_ext, cntQ_pan, indQ_nrm, indQ_ret, indQ_ext, indQ_pan, resQ, panQ_pan, rawQ, unD, and_self, and_true, true_and, not_true_eq_false, not_false_eq_true, Int.cast_ofNat_Int, Int.reduceLT, Int.reduceLE, Int.reduceBEq, Int.reduceToNat, Nat.reduceMul, Int.zero_le_ofNat, orcA]
theorem run59p (v0 : VO) (c1 : List D) (c2 : D) (hc : c1.length = 10) (e : Env) (h0 : e 0 = .mp 1 0) (h1 : e 1 = .mp 2 0) (h2 : e 2 = .ifc 86 (.ag [])) :
    Ex orcA F (.seq g59b g59c) ⟨e, [v0, ⟨34, false, false, c1⟩, ⟨37, false, false, [c2]⟩], []⟩ (fun o s => o = .nrm ∧ s.V = [v0, ⟨34, false, false, zTag.map zD⟩, ⟨37, false, false, [.c (.v (.int .i64 13))]⟩, ⟨86, false, false, []⟩] ∧ s.T = []) := by
  obtain ⟨a0, a1, a2, a3, a4, a5, a6, a7, a8, a9, rfl⟩ : ∃ a0 a1 a2 a3 a4 a5 a6 a7 a8 a9, c1 = [a0, a1, a2, a3, a4, a5, a6, a7, a8, a9] := by
    match c1, hc with
    | [a0, a1, a2, a3, a4, a5, a6, a7, a8, a9], _ => exact ⟨_, _, _, _, _, _, _, _, _, _, rfl⟩
  simp only [g59b, g59c, h0, h1, h2, DrwE_nil, DrwE_plain, DrwE_guard, GdE_true, GdE_false, DcE_q, DcE_push, DcE_rd, drdE, dcallE, Ex_seq, Ex_reg, Ex_ret, Ex_skip, Ex_exit, Ex_block, Ex_cond', condE_true, condE_false, loopQ_nrm, loopQ_ret, loopQ_ext, blockQ_nrm, blockQ_ret, blockQ_ext, OpsE_plain, OpsE_guard, OpsE_nil, GuE_true, GuE_false, guardD, act, callA, ev, upd, putE, AcE_q, AcE_push, AcE_rd', AcE_wr', rdE, wrE, initE, thenQ_nrm, thenQ_ret, thenQ_ext, retQ, qo_s, convD, D.slc, unBytes_bytesP, bytesP_length, binD, scD, blD, scBin, blBin, strBin, intBin, ressD, mapO, resD, D.frz, frzL, frz_cells, D.closed, closedL, closed_cells, mkV_true, gt0, gtk, st0, stk, List.append_assoc, List.length_append, D.fits, D.cells, partD, mkV_false, setAt, iadD, asI, List.map_cons, List.map_nil, List.getElem?_cons_zero, List.getElem?_cons_succ, List.getElem?_nil, List.length_cons, List.length_nil, List.drop_succ_cons, List.drop_zero, List.take_succ_cons, List.take_zero, List.nil_append, List.cons_append, List.set_cons_zero, List.set_cons_succ, Nat.reduceAdd, Nat.reduceLeDiff, Nat.reduceEqDiff, Nat.reduceBEq, beq_iff_eq, reduceCtorEq, ↓reduceIte, Option.map_some, Option.some.injEq, Bool.true_and, Bool.false_and, Bool.and_true, Bool.and_self, Bool.and_false, Bool.or_self, Bool.false_eq_true, b_ff, b_ft, b_tf, b_tt, Bool.not_true, Bool.not_false, BEq.rfl, decide_true, decide_false, Nat.le_refl, callE, zD, snilD, inilD, tasD, fnilD, AcE_tp, AcE_tw, twE, DcE_tp, appD, appSrc, fillD, fillP, D.pcells, cellPure, thenQ_pan, blockQ_pan, loopQ_pan, cntQ_nrm, cntQ_ret, cntQ_ext, cntQ_pan, indQ_nrm, indQ_ret, indQ_ext, indQ_pan, resQ, panQ_pan, rawQ, unD, and_self, and_true, true_and, not_true_eq_false, not_false_eq_true, Int.cast_ofNat_Int, Int.reduceLT, Int.reduceLE, Int.reduceBEq, Int.reduceToNat, Nat.reduceMul, Int.zero_le_ofNat, orcA]

theorem body59 : ∃ c1 c2, Tryz.f59.body = some (.seq (.region 0 #[{ dst := some 5, op := .call { callee := .builtin .recover, args := #[], argTypes := #[] }, type := 20, pos := "tag.go:192", after := #[], guard := none },
    { dst := some 2, op := .assign (.tmp 5), type := 20, pos := "tag.go:192", after := #[{ on := 0, ground := .data }, { on := 0, ground := .chain }, { on := 0, ground := .phase }], guard := none }] false) (.seq c1 c2)) ∧
    trCode Tryz.prog 17 (.seq c1 c2) = some (.seq g59b g59c) := ⟨_, _, rfl, by kernel_rfl⟩

theorem d59 {w : World} {g : Gh} {V V' : List VO} (hS : Sim w g V []) {p2 p3 : Value} (h2 : RepD w g [] p2 (.mp 1 0)) (h3 : RepD w g [] p3 (.mp 2 0)) {u u' : FrameMode} {xv : Value} {xd : D} (hx : RepD w g [] xv xd)
    (hrec : ∀ c₀ cs, c₀.mode = u → (recoverD (c₀ :: cs) = some (xv, { c₀ with mode := u' } :: cs)) ∨ (recoverD (c₀ :: cs) = none ∧ xv = .nilIface ∧ u' = u))
    (hrun : ∀ e : Env, e 0 = .mp 1 0 → e 1 = .mp 2 0 → e 2 = xd → Ex orcA F (.seq g59b g59c) ⟨e, V, []⟩ (fun o s => o = .nrm ∧ s.V = V' ∧ s.T = [])) :
    CallsD Tryz.prog 59 #[p2, p3] u w fun e u'' w' => e = .returned (.tuple #[]) ∧ u'' = u' ∧ ∃ g', Ext w g [] w' g' [] ∧ Sim w' g' V' [] ∧ Below g.B w w' := by
  obtain ⟨c1, c2, hb, ht⟩ := body59
  refine callsD_of_wpS Tryz.func59 hb fun c₀ cs hu => ?_
  refine wpS_seq (wpS_region ?_)
  have hr : List.range (#[({ dst := some 5, op := .call { callee := .builtin .recover, args := #[], argTypes := #[] }, type := 20, pos := "tag.go:192", after := #[], guard := none } : Oper),
    { dst := some 2, op := .assign (.tmp 5), type := 20, pos := "tag.go:192", after := #[{ on := 0, ground := .data }, { on := 0, ground := .chain }, { on := 0, ground := .phase }], guard := none }] : Array Oper).size = [0, 1] := rfl
  rw [hr]
  simp [wpOpsS, go_sem, Exit.thenS, Tryz.ntmps59]
  have key : ∀ (cs' : List Frame), cs' = { c₀ with mode := u' } :: cs → Code.wpS Tryz.prog (c1.seq c2)
      (bodyPostS Tryz.prog Tryz.f59 c₀ cs fun e u'' w' => e = Ending.returned (Value.tuple #[]) ∧ u'' = u' ∧ ∃ g', Ext w g [] w' g' [] ∧ Sim w' g' V' [] ∧ Below g.B w w')
      { tmps := #[p2, p3] ++ ((Array.replicate 15 undef).setIfInBounds 3 xv).setIfInBounds 0 xv, defers := [] } cs' w := by
    rintro cs' rfl
    refine wpS_of_wp ?_
    have hE : EnvOk w g [] (#[p2, p3] ++ ((Array.replicate 15 undef).setIfInBounds 3 xv).setIfInBounds 0 xv) (fun t => if t = 0 then .mp 1 0 else if t = 1 then .mp 2 0 else if t = 2 then xd else if t = 5 then xd else und) := by
      intro t
      rcases (by omega : t = 0 ∨ t = 1 ∨ t = 2 ∨ t = 5 ∨ (2 < t ∧ t ≠ 5)) with rfl | rfl | rfl | rfl | ⟨h4, h5⟩
      · simpa [Array.getD_eq_getD_getElem?] using h2
      · simpa [Array.getD_eq_getD_getElem?] using h3
      · simpa [Array.getD_eq_getD_getElem?, Array.getElem?_append, Array.getElem?_setIfInBounds] using hx
      · simpa [Array.getD_eq_getD_getElem?, Array.getElem?_append, Array.getElem?_setIfInBounds] using hx
      · have e1 : (#[p2, p3] ++ ((Array.replicate 15 undef).setIfInBounds 3 xv).setIfInBounds 0 xv).getD t undef = undef := by
          rw [Array.getD_eq_getD_getElem?, Array.getElem?_append_right (by simp; omega), Array.getElem?_setIfInBounds_ne (by simp; omega), Array.getElem?_setIfInBounds_ne (by simp; omega), Array.getElem?_replicate]
          split <;> rfl
        rw [e1]
        have n0 : t ≠ 0 := by omega
        have n1 : t ≠ 1 := by omega
        have n2 : t ≠ 2 := by omega
        simp only [n0, n1, n2, h5, if_false]
        exact und_rep
    have hL : Lay [] 17 w g [] ⟨fun t => if t = 0 then .mp 1 0 else if t = 1 then .mp 2 0 else if t = 2 then xd else if t = 5 then xd else und, V, []⟩ { tmps := #[p2, p3] ++ ((Array.replicate 15 undef).setIfInBounds 3 xv).setIfInBounds 0 xv, defers := [] } w :=
      ⟨g, Ext.refl _ _ _, hS, hE, by simp, rfl, Below.refl _ _⟩
    obtain ⟨n, o, s', k1, k2, k3, k4⟩ := hrun (fun t => if t = 0 then .mp 1 0 else if t = 1 then .mp 2 0 else if t = 2 then xd else if t = 5 then xd else und) rfl rfl rfl
    subst k2
    refine (exec_ok (agOk Tryz.prog) orcA_ok mixed n).1 [] 17 w g [] _ _ _ _ _ w _ ht hL k1 ?_
    intro a' w' hL'
    obtain ⟨g', m1, m2, m3, m4, m5, m6⟩ := hL'
    rw [k3, k4] at m2
    rw [k4] at m1
    refine ⟨m5, u', rfl, .tuple #[], ?_, rfl, rfl, g', m1, m2, m6⟩
    simp [results, show Tryz.f59.results = #[] from rfl]
  rcases hrec c₀ cs hu with h5 | ⟨h5, rfl, rfl⟩
  · rw [h5]
    exact key _ rfl
  · rw [h5]
    refine key _ ?_
    rw [← hu]

theorem got_trans {w w1 w' : World} {g g1 : Gh} {T T1 T' : List Nat} {V' : List VO} {v : Value} {d : D} (hE : Ext w g T w1 g1 T1) (hB : Below g.B w w1) (h : Got w1 g1 T1 w' v d V' T') : Got w g T w' v d V' T' := by
  obtain ⟨g', k1, k2, k3, k4⟩ := h
  exact ⟨g', hE.trans k1, k2, k3, hB.trans (by rw [← hE.B]; exact k4)⟩

theorem enters59 : Enters Tryz.prog 59 := ⟨Tryz.f59, Tryz.func59, by kernel_rfl, by kernel_rfl⟩
theorem door {w1 wd : World} {g1 gd : Gh} {V V' : List VO} {tmps : Array Value} {e : Env} (hX : Ext w1 g1 [] wd gd []) (hS : Sim wd gd V []) (hE : EnvOk wd gd [] tmps e) (he2 : e 2 = .mp 1 0) (he3 : e 3 = .mp 2 0) {cs : Array Value} (hcs : RepL w1 g1 [] cs [.mp 1 0, .mp 2 0])
    {u u' : FrameMode} {xv : Value} {xd : D} (hx : RepD wd gd [] xv xd)
    (hrec : ∀ c₀ cs, c₀.mode = u → (recoverD (c₀ :: cs) = some (xv, { c₀ with mode := u' } :: cs)) ∨ (recoverD (c₀ :: cs) = none ∧ xv = .nilIface ∧ u' = u))
    (hrun : ∀ e : Env, e 0 = .mp 1 0 → e 1 = .mp 2 0 → e 2 = xd → Ex orcA F (.seq g59b g59c) ⟨e, V, []⟩ (fun o s => o = .nrm ∧ s.V = V' ∧ s.T = []))
    (hu : u ≠ .run) (hset : settle u' = .returning) {c1 : List D} {c2 : D} {o1 o2 : VO} (hV1 : V'[1]? = some o1) (hV2 : V'[2]? = some o2) (hi1 : o1.it = false) (hi2 : o2.it = false) (hc1 : o1.cs = c1) (hl1 : c1.length = 10) (hc2 : o2.cs = [c2]) {R : Ending → World → Prop}
    (hR : ∀ v w', Got wd gd [] w' v (.tu [.ag c1, c2]) V' [] → R (.returned v) w') : Leaves Tryz.prog Tryz.f20 tmps R [{ target := .fn (.func 59) cs, args := #[] }] u wd := by
  obtain ⟨p2, p3, rfl⟩ : ∃ p2 p3, cs = #[p2, p3] := by
    have := hcs.1
    match cs, this with
    | ⟨[a, b]⟩, _ => exact ⟨a, b, rfl⟩
  have h2 : RepD wd gd [] p2 (.mp 1 0) := (hcs.2 0 (by simp)).mono hX
  have h3 : RepD wd gd [] p3 (.mp 2 0) := (hcs.2 1 (by simp)).mono hX
  refine ⟨hu, .func 59, #[p2, p3], 59, #[p2, p3], rfl, by simp [invoke, enters_run enters59], ?_⟩
  intro c₀ cs hc
  obtain ⟨e', u'', w', fr, hP, k1, k2, k3⟩ := d59 hS h2 h3 hx hrec hrun c₀ cs hc
  refine ⟨e', u'', w', fr, ?_, k1, k2, k3⟩
  obtain ⟨rfl, rfl, g', m1, m2, m3⟩ := hP
  show Leaves _ _ _ _ [] (settle _) w'
  rw [hset]
  have hm : mapO (trRes Tryz.prog) Tryz.f20.results.toList = some [.cell true 10 2, .cell false 1 3] := by kernel_rfl
  have hL : Lay [] 0 wd gd [] ⟨e, V', []⟩ { tmps := tmps, defers := [] } w' := ⟨g', m1, m2, hE.mono m1, Nat.zero_le _, rfl, m3⟩
  have hd : mapO (resD ⟨e, V', []⟩) [.cell true 10 2, .cell false 1 3] = some [.ag c1, c2] := by
    have e1 : resD ⟨e, V', []⟩ (.cell true 10 2) = some (.ag c1) := by
      simp only [resD, he2, hV1, hi1, hc1, partD, hl1, List.drop_zero]
      rw [List.take_of_length_le (by omega), mkV_true]
      rfl
    have e2 : resD ⟨e, V', []⟩ (.cell false 1 3) = some c2 := by
      simp only [resD, he3, hV2, hi2, hc2, partD]
      rfl
    simp only [mapO, e1, e2]
  obtain ⟨_, v, h5, h6⟩ := ress_raw hm hd hL
  exact ⟨v, h5, hR v w' h6⟩

theorem body20 : ∃ ops0 ops2 ops3 oA oB, Tryz.f20.body = some (.seq (.region 0 ops0 false) (.seq (.region 1 #[oA, oB] false) (.seq (.region 2 ops2 false) (.seq (.region 3 ops3 false) .ret)))) ∧ mapO (trOper Tryz.prog ops0 10) ops0.toList = some l20a ∧
    trOper Tryz.prog #[oA, oB] 10 oA = some ⟨some 4, none, .mkf 59 [.t 2, .t 3]⟩ ∧ oB.op = .defer { callee := .value (.tmp 4), args := #[], argTypes := #[] } ∧ oB.guard = none ∧ oB.dst = none ∧
    mapO (trOper Tryz.prog ops2 10) ops2.toList = some l20c ∧ mapO (trOper Tryz.prog ops3 10) ops3.toList = some l20d :=
  ⟨_, _, _, _, _, rfl, by kernel_rfl, by kernel_rfl, rfl, rfl, rfl, by kernel_rfl, by kernel_rfl⟩
theorem enters20 : Enters Tryz.prog 20 := ⟨Tryz.f20, Tryz.func20, by kernel_rfl, by kernel_rfl⟩

/-- What tag.Get answers. -/
noncomputable def getR (x : D) : Option D :=
  match callV orcA F 61 [x] with
  | some (.ret (.c (.v (.bool true)))) => match callV orcA F 62 [x] with
    | some (.ret (.ag t)) => if t.length = 10 ∧ closedL t = true then some (.tu [.ag t, .c (.v (.int .i64 0))]) else none
    | some (.pan (.ifc 86 (.ag []))) => some (.tu [.ag (zTag.map .c), .c (.v (.int .i64 13))])
    | _ => none
  | some (.ret (.c (.v (.bool false)))) => some (.tu [.ag (zTag.map .c), .c (.v (.int .i64 13))])
  | _ => none
theorem run60 (b : Bool) : callV orcA F 60 [boD b] = some (if b then .ret (.tu []) else .pan (.ifc 86 (.ag []))) := by
  refine callV_res tr60 ?_
  cases b
  · simp only [c60, Bool.false_eq_true, if_false, DrwE_nil, DrwE_plain, DrwE_guard, GdE_true, GdE_false, DcE_q, DcE_push, DcE_rd, drdE, dcallE, Ex_seq, Ex_reg, Ex_ret, Ex_skip, Ex_exit, Ex_block, Ex_cond', condE_true, condE_false, loopQ_nrm, loopQ_ret, loopQ_ext, blockQ_nrm, blockQ_ret, blockQ_ext, OpsE_plain, OpsE_guard, OpsE_nil, GuE_true, GuE_false, guardD, act, callA, ev, upd, putE, AcE_q, AcE_push, AcE_rd', AcE_wr', rdE, wrE, initE, thenQ_nrm, thenQ_ret, thenQ_ext, retQ, qo_s, convD, D.slc, unBytes_bytesP, bytesP_length, binD, scD, blD, scBin, blBin, strBin, intBin, ressD, mapO, resD, D.frz, frzL, frz_cells, D.closed, closedL, closed_cells, mkV_true, gt0, gtk, st0, stk, List.append_assoc, List.length_append, D.fits, D.cells, partD, mkV_false, setAt, iadD, asI, List.map_cons, List.map_nil, List.getElem?_cons_zero, List.getElem?_cons_succ, List.getElem?_nil, List.length_cons, List.length_nil, List.drop_succ_cons, List.drop_zero, List.take_succ_cons, List.take_zero, List.nil_append, List.cons_append, List.set_cons_zero, List.set_cons_succ, Nat.reduceAdd, Nat.reduceLeDiff, Nat.reduceEqDiff, Nat.reduceBEq, beq_iff_eq, reduceCtorEq, ↓reduceIte, Option.map_some, Option.some.injEq, Bool.true_and, Bool.false_and, Bool.and_true, Bool.and_self, Bool.and_false, Bool.or_self, Bool.false_eq_true, b_ff, b_ft, b_tf, b_tt, Bool.not_true, Bool.not_false, BEq.rfl, decide_true, decide_false, Nat.le_refl, callE, zD, snilD, inilD, tasD, fnilD, AcE_tp, AcE_tw, twE, DcE_tp, appD, appSrc, fillD, fillP, D.pcells, cellPure, thenQ_pan, blockQ_pan, loopQ_pan, cntQ_nrm, cntQ_ret, cntQ_ext, cntQ_pan, indQ_nrm, indQ_ret, indQ_ext, indQ_pan, resQ, panQ_pan, rawQ, unD, and_self, and_true, true_and, not_true_eq_false, not_false_eq_true, Int.cast_ofNat_Int, Int.reduceLT, Int.reduceLE, Int.reduceBEq, Int.reduceToNat, Nat.reduceMul, Int.zero_le_ofNat, orcA]
    rw [AcE_pan rfl]
    simp only [DrwE_nil, DrwE_plain, DrwE_guard, GdE_true, GdE_false, DcE_q, DcE_push, DcE_rd, drdE, dcallE, Ex_seq, Ex_reg, Ex_ret, Ex_skip, Ex_exit, Ex_block, Ex_cond', condE_true, condE_false, loopQ_nrm, loopQ_ret, loopQ_ext, blockQ_nrm, blockQ_ret, blockQ_ext, OpsE_plain, OpsE_guard, OpsE_nil, GuE_true, GuE_false, guardD, act, callA, ev, upd, putE, AcE_q, AcE_push, AcE_rd', AcE_wr', rdE, wrE, initE, thenQ_nrm, thenQ_ret, thenQ_ext, retQ, qo_s, convD, D.slc, unBytes_bytesP, bytesP_length, binD, scD, blD, scBin, blBin, strBin, intBin, ressD, mapO, resD, D.frz, frzL, frz_cells, D.closed, closedL, closed_cells, mkV_true, gt0, gtk, st0, stk, List.append_assoc, List.length_append, D.fits, D.cells, partD, mkV_false, setAt, iadD, asI, List.map_cons, List.map_nil, List.getElem?_cons_zero, List.getElem?_cons_succ, List.getElem?_nil, List.length_cons, List.length_nil, List.drop_succ_cons, List.drop_zero, List.take_succ_cons, List.take_zero, List.nil_append, List.cons_append, List.set_cons_zero, List.set_cons_succ, Nat.reduceAdd, Nat.reduceLeDiff, Nat.reduceEqDiff, Nat.reduceBEq, beq_iff_eq, reduceCtorEq, ↓reduceIte, Option.map_some, Option.some.injEq, Bool.true_and, Bool.false_and, Bool.and_true, Bool.and_self, Bool.and_false, Bool.or_self, Bool.false_eq_true, b_ff, b_ft, b_tf, b_tt, Bool.not_true, Bool.not_false, BEq.rfl, decide_true, decide_false, Nat.le_refl, callE, zD, snilD, inilD, tasD, fnilD, AcE_tp, AcE_tw, twE, DcE_tp, appD, appSrc, fillD, fillP, D.pcells, cellPure, thenQ_pan, blockQ_pan, loopQ_pan, cntQ_nrm, cntQ_ret, cntQ_ext, cntQ_pan, indQ_nrm, indQ_ret, indQ_ext, indQ_pan, resQ, panQ_pan, rawQ, unD, and_self, and_true, true_and, not_true_eq_false, not_false_eq_true, Int.cast_ofNat_Int, Int.reduceLT, Int.reduceLE, Int.reduceBEq, Int.reduceToNat, Nat.reduceMul, Int.zero_le_ofNat, orcA]
  · simp only [c60, if_true, DrwE_nil, DrwE_plain, DrwE_guard, GdE_true, GdE_false, DcE_q, DcE_push, DcE_rd, drdE, dcallE, Ex_seq, Ex_reg, Ex_ret, Ex_skip, Ex_exit, Ex_block, Ex_cond', condE_true, condE_false, loopQ_nrm, loopQ_ret, loopQ_ext, blockQ_nrm, blockQ_ret, blockQ_ext, OpsE_plain, OpsE_guard, OpsE_nil, GuE_true, GuE_false, guardD, act, callA, ev, upd, putE, AcE_q, AcE_push, AcE_rd', AcE_wr', rdE, wrE, initE, thenQ_nrm, thenQ_ret, thenQ_ext, retQ, qo_s, convD, D.slc, unBytes_bytesP, bytesP_length, binD, scD, blD, scBin, blBin, strBin, intBin, ressD, mapO, resD, D.frz, frzL, frz_cells, D.closed, closedL, closed_cells, mkV_true, gt0, gtk, st0, stk, List.append_assoc, List.length_append, D.fits, D.cells, partD, mkV_false, setAt, iadD, asI, List.map_cons, List.map_nil, List.getElem?_cons_zero, List.getElem?_cons_succ, List.getElem?_nil, List.length_cons, List.length_nil, List.drop_succ_cons, List.drop_zero, List.take_succ_cons, List.take_zero, List.nil_append, List.cons_append, List.set_cons_zero, List.set_cons_succ, Nat.reduceAdd, Nat.reduceLeDiff, Nat.reduceEqDiff, Nat.reduceBEq, beq_iff_eq, reduceCtorEq, ↓reduceIte, Option.map_some, Option.some.injEq, Bool.true_and, Bool.false_and, Bool.and_true, Bool.and_self, Bool.and_false, Bool.or_self, Bool.false_eq_true, b_ff, b_ft, b_tf, b_tt, Bool.not_true, Bool.not_false, BEq.rfl, decide_true, decide_false, Nat.le_refl, callE, zD, snilD, inilD, tasD, fnilD, AcE_tp, AcE_tw, twE, DcE_tp, appD, appSrc, fillD, fillP, D.pcells, cellPure, thenQ_pan, blockQ_pan, loopQ_pan, cntQ_nrm, cntQ_ret, cntQ_ext, cntQ_pan, indQ_nrm, indQ_ret, indQ_ext, indQ_pan, resQ, panQ_pan, rawQ, unD, and_self, and_true, true_and, not_true_eq_false, not_false_eq_true, Int.cast_ofNat_Int, Int.reduceLT, Int.reduceLE, Int.reduceBEq, Int.reduceToNat, Nat.reduceMul, Int.zero_le_ofNat, orcA]

theorem getR_closed {x d : D} (h : getR x = some d) : d.closed = true := by
  unfold getR at h
  split at h
  · split at h
    · split at h
      · rename_i hc
        simp only [Option.some.injEq] at h
        subst h
        simp [D.closed, closedL, hc.2]
      · simp at h
    · simp only [Option.some.injEq] at h
      subst h
      rfl
    · simp at h
  · simp only [Option.some.injEq] at h
    subst h
    rfl
  · simp at h

set_option maxHeartbeats 1000000 in
theorem get20 {w : World} {g : Gh} {V : List VO} {T : List Nat} (hS : Sim w g V T) {l : List D} (hl : l.length = 5) (hcl : closedL l = true) (hfl : frzL l = l) {cargs : Array Value} (hR : RepL w (g.clear w) [] cargs [.ag l]) {d : D} (hd : getR (.ag l) = some d) :
    Calls Tryz.prog 20 cargs w fun e w' => ∃ v, e = .returned v ∧ Got w g T w' v d V T := by
  obtain ⟨ops0, ops2, ops3, oA, oB, hb, h0, hA, hB, hBg, hBd, hC, hD⟩ := body20
  have hdc := getR_closed hd
  have hAg := agOk Tryz.prog
  refine calls_of_wp_defers Tryz.func20 hb ?_
  have hn : Tryz.f20.ntmps = 10 := rfl
  rw [hn]
  have hL0 : Lay [] 10 w (g.clear w) [] ⟨initE [.ag l], [], []⟩ { tmps := cargs ++ Array.replicate (10 - cargs.size) undef, defers := [] } w :=
    ⟨g.clear w, Ext.refl _ _ _, hS.clear, initE_ok hR _, by simp; omega, rfl, Below.refl _ _⟩
  have r0 : OpsE orcA F l20a ⟨initE [.ag l], [], []⟩ (fun o s => o = .nrm ∧ s = ⟨upd (upd (upd (initE [.ag l]) 1 (.mp 0 0)) 2 (.mp 1 0)) 3 (.mp 2 0), [⟨27, false, false, l⟩, ⟨34, false, false, zTag.map zD⟩, ⟨37, false, false, [.c (.v (.int .i64 0))]⟩], []⟩) := by
    have hf : ((l.length == 5) = true) = True := by simp [hl]
    simp only [l20a, OpsE_plain, OpsE_nil, act, ev, initE, List.getElem?_cons_zero, List.getElem?_cons_succ, D.fits, D.cells, hf, if_true, AcE_push, putE, List.length_nil, List.nil_append, List.length_cons, List.cons_append, Nat.reduceAdd, true_and]
    rfl
  obtain ⟨n0, o0, s0, k1, rfl, rfl⟩ := r0
  refine wp_seq (reg_okX hAg (callN_ok orcA_ok mixed n0) orcA_ok h0 hL0 k1 ?_)
  intro a1 w1 hL1
  refine wp_seq (wp_region ?_)
  rw [show List.range #[oA, oB].size = [0, 1] from rfl, wpOps_cons]
  refine oper_ok hAg (callN_ok orcA_ok mixed 0) orcA_ok rfl hA hL1 (fun hb => by simp [guardD] at hb) (by simp [guardD]) (fun _ => ⟨_, _, _, rfl, rfl, ?_⟩)
  intro a2 w2 hL2
  obtain ⟨g2, x1, x2, x3, x4, x5, x6⟩ := hL2
  obtain ⟨cs, h5, h6⟩ := rep_fn (show RepD w2 g2 [] (a2.tmps.getD 4 undef) (.fn 59 [.mp 1 0, .mp 2 0]) from x3 4)
  rw [wpOps_cons]
  unfold wpOp
  simp only [show (#[oA, oB] : Array Oper)[1]? = some oB from rfl, Region.wanted, hBg, if_true]
  refine .inl ?_
  unfold Oper.wp
  have hrun : (execOp a2.eval oB).run Tryz.prog w2 = .ok (.defer { target := .fn (.func 59) cs, args := #[] }) w2 := by
    simp [execOp, hB, resolve, Act.eval, h5, Deferred.ofValue]
  rw [hrun]
  simp only [Oper.upon, hBd, Act.put, wpOps]
  -- behind the defer
  have tl : List.take 5 l = l := List.take_of_length_le (by omega)
  have fin : ∀ (wd : World) (gd : Gh) (v : Value) (w' : World) (d' : D) (V' : List VO), d'.frz = d → Ext w2 g2 [] wd gd [] → Below g2.B w2 wd → Got wd gd [] w' v d' V' [] → ∃ v', Ending.returned v = Ending.returned v' ∧ Got w g T w' v' d V T := by
    intro wd gd v w' d' V' hfz hX hB hG
    have h7 := got_trans x1 x6 (got_trans hX hB hG)
    obtain ⟨g', m1, m2, m3, m4⟩ := h7
    exact ⟨v, rfl, got_closed hS ⟨g', m1, m2, by rw [← hfz]; exact frz_rep m3, m4⟩ hdc⟩
  have dpan : ∀ (e : Env) (c1 : List D) (c2 : D) (a : Act) (w' : World) (v : Value), e 2 = .mp 1 0 → e 3 = .mp 2 0 → c1.length = 10 → d = .tu [.ag (zTag.map .c), .c (.v (.int .i64 13))] →
      LayV [{ target := .fn (.func 59) cs, args := #[] }] 10 w2 g2 [] ⟨e, [⟨27, false, false, l⟩, ⟨34, false, false, c1⟩, ⟨37, false, false, [c2]⟩], []⟩ a w' v (.ifc 86 (.ag [])) →
      bodyPostD Tryz.prog Tryz.f20 (fun e w' => ∃ v, e = .returned v ∧ Got w g T w' v d V T) (.panic [{ v, recovered := false }]) a w' := by
    intro e c1 c2 a w' v he2 he3 hc1 hdd ⟨gd, q1, q2, q3, q4, q5, q6, q7⟩
    show Leaves _ _ _ _ a.defers _ _
    rw [q5]
    refine door q1 q2 q3 he2 he3 h6 (u' := .panicking [{ v, recovered := true }]) q7 (fun c₀ cs hc => .inl (by simp [recoverD, hc])) (run59p _ c1 c2 hc1) (by simp) rfl rfl rfl rfl rfl rfl rfl rfl ?_
    intro v' w'' hG
    exact fin w' gd v' w'' _ _ (by rw [hdd]; rfl) q1 q6 hG
  have key : ∀ e : Env, e 1 = .mp 0 0 → e 2 = .mp 1 0 → e 3 = .mp 2 0 → ∀ (a3 : Act), Lay [{ target := .fn (.func 59) cs, args := #[] }] 10 w2 g2 [] ⟨e, [⟨27, false, false, l⟩, ⟨34, false, false, zTag.map zD⟩, ⟨37, false, false, [.c (.v (.int .i64 0))]⟩], []⟩ a3 w2 →
      Code.wp Tryz.prog ((Code.region 2 ops2 false).seq ((Code.region 3 ops3 false).seq Code.ret)) (bodyPostD Tryz.prog Tryz.f20 fun e w' => ∃ v, e = .returned v ∧ Got w g T w' v d V T) a3 w2 := by
    intro e he1 he2 he3 a3 hL3
    have hcl1 : closedL [.ag l] = true := by simp [closedL, D.closed, hcl]
    have hz : frzL [.ag l] = [.ag l] := by simp [frzL, D.frz, hfl]
    let VV : List D → D → List VO := fun c1 c2 => [⟨27, false, false, l⟩, ⟨34, false, false, c1⟩, ⟨37, false, false, [c2]⟩]
    have hm61 : ∀ b, callV orcA F 61 [.ag l] = some (.ret (boD b)) → OpsE orcA F l20c ⟨e, [⟨27, false, false, l⟩, ⟨34, false, false, zTag.map zD⟩, ⟨37, false, false, [.c (.v (.int .i64 0))]⟩], []⟩
        (fun o s => (match o with | .nrm => b = true | .pan d => b = false ∧ d = .ifc 86 (.ag []) | _ => False) ∧ s.e 1 = .mp 0 0 ∧ s.e 2 = .mp 1 0 ∧ s.e 3 = .mp 2 0 ∧ s.V = VV (zTag.map zD) (.c (.v (.int .i64 0))) ∧ s.T = []) := by
      intro b h61
      have h60 := run60 b
      cases b
      · simp only [Bool.false_eq_true, if_false] at h60
        simp only [l20c, VV, he1, he2, he3, tl, hl, hz, hcl, h61, h60, DrwE_nil, DrwE_plain, DrwE_guard, GdE_true, GdE_false, DcE_q, DcE_push, DcE_rd, drdE, dcallE, Ex_seq, Ex_reg, Ex_ret, Ex_skip, Ex_exit, Ex_block, Ex_cond', condE_true, condE_false, loopQ_nrm, loopQ_ret, loopQ_ext, blockQ_nrm, blockQ_ret, blockQ_ext, OpsE_plain, OpsE_guard, OpsE_nil, GuE_true, GuE_false, guardD, act, callA, ev, upd, putE, AcE_q, AcE_push, AcE_rd', AcE_wr', rdE, wrE, initE, thenQ_nrm, thenQ_ret, thenQ_ext, retQ, qo_s, convD, D.slc, unBytes_bytesP, bytesP_length, binD, scD, blD, scBin, blBin, strBin, intBin, ressD, mapO, resD, D.frz, frzL, frz_cells, D.closed, closedL, closed_cells, mkV_true, gt0, gtk, st0, stk, List.append_assoc, List.length_append, D.fits, D.cells, partD, mkV_false, setAt, iadD, asI, List.map_cons, List.map_nil, List.getElem?_cons_zero, List.getElem?_cons_succ, List.getElem?_nil, List.length_cons, List.length_nil, List.drop_succ_cons, List.drop_zero, List.take_succ_cons, List.take_zero, List.nil_append, List.cons_append, List.set_cons_zero, List.set_cons_succ, Nat.reduceAdd, Nat.reduceLeDiff, Nat.reduceEqDiff, Nat.reduceBEq, beq_iff_eq, reduceCtorEq, ↓reduceIte, Option.map_some, Option.some.injEq, Bool.true_and, Bool.false_and, Bool.and_true, Bool.and_self, Bool.and_false, Bool.or_self, Bool.false_eq_true, b_ff, b_ft, b_tf, b_tt, Bool.not_true, Bool.not_false, BEq.rfl, decide_true, decide_false, Nat.le_refl, callE, zD, snilD, inilD, tasD, fnilD, AcE_tp, AcE_tw, twE, DcE_tp, appD, appSrc, fillD, fillP, D.pcells, cellPure, thenQ_pan, blockQ_pan, loopQ_pan, cntQ_nrm, cntQ_ret, cntQ_ext, cntQ_pan, indQ_nrm, indQ_ret, indQ_ext, indQ_pan, resQ, panQ_pan, rawQ, unD, and_self, and_true, true_and, not_true_eq_false, not_false_eq_true, Int.cast_ofNat_Int, Int.reduceLT, Int.reduceLE, Int.reduceBEq, Int.reduceToNat, Nat.reduceMul, Int.zero_le_ofNat, orcA, AcE_call]
      · simp only [if_true] at h60
        simp only [l20c, VV, he1, he2, he3, tl, hl, hz, hcl, h61, h60, DrwE_nil, DrwE_plain, DrwE_guard, GdE_true, GdE_false, DcE_q, DcE_push, DcE_rd, drdE, dcallE, Ex_seq, Ex_reg, Ex_ret, Ex_skip, Ex_exit, Ex_block, Ex_cond', condE_true, condE_false, loopQ_nrm, loopQ_ret, loopQ_ext, blockQ_nrm, blockQ_ret, blockQ_ext, OpsE_plain, OpsE_guard, OpsE_nil, GuE_true, GuE_false, guardD, act, callA, ev, upd, putE, AcE_q, AcE_push, AcE_rd', AcE_wr', rdE, wrE, initE, thenQ_nrm, thenQ_ret, thenQ_ext, retQ, qo_s, convD, D.slc, unBytes_bytesP, bytesP_length, binD, scD, blD, scBin, blBin, strBin, intBin, ressD, mapO, resD, D.frz, frzL, frz_cells, D.closed, closedL, closed_cells, mkV_true, gt0, gtk, st0, stk, List.append_assoc, List.length_append, D.fits, D.cells, partD, mkV_false, setAt, iadD, asI, List.map_cons, List.map_nil, List.getElem?_cons_zero, List.getElem?_cons_succ, List.getElem?_nil, List.length_cons, List.length_nil, List.drop_succ_cons, List.drop_zero, List.take_succ_cons, List.take_zero, List.nil_append, List.cons_append, List.set_cons_zero, List.set_cons_succ, Nat.reduceAdd, Nat.reduceLeDiff, Nat.reduceEqDiff, Nat.reduceBEq, beq_iff_eq, reduceCtorEq, ↓reduceIte, Option.map_some, Option.some.injEq, Bool.true_and, Bool.false_and, Bool.and_true, Bool.and_self, Bool.and_false, Bool.or_self, Bool.false_eq_true, b_ff, b_ft, b_tf, b_tt, Bool.not_true, Bool.not_false, BEq.rfl, decide_true, decide_false, Nat.le_refl, callE, zD, snilD, inilD, tasD, fnilD, AcE_tp, AcE_tw, twE, DcE_tp, appD, appSrc, fillD, fillP, D.pcells, cellPure, thenQ_pan, blockQ_pan, loopQ_pan, cntQ_nrm, cntQ_ret, cntQ_ext, cntQ_pan, indQ_nrm, indQ_ret, indQ_ext, indQ_pan, resQ, panQ_pan, rawQ, unD, and_self, and_true, true_and, not_true_eq_false, not_false_eq_true, Int.cast_ofNat_Int, Int.reduceLT, Int.reduceLE, Int.reduceBEq, Int.reduceToNat, Nat.reduceMul, Int.zero_le_ofNat, orcA, AcE_call]
    have hm62 : ∀ (e' : Env) (t : List D), e' 1 = .mp 0 0 → e' 2 = .mp 1 0 → e' 3 = .mp 2 0 → t.length = 10 → closedL t = true → callV orcA F 62 [.ag l] = some (.ret (.ag t)) → OpsE orcA F l20d ⟨e', VV (zTag.map zD) (.c (.v (.int .i64 0))), []⟩
        (fun o s => o = .nrm ∧ s.e 2 = .mp 1 0 ∧ s.e 3 = .mp 2 0 ∧ s.V = VV t (.c (.v (.int .i64 0))) ∧ s.T = []) := by
      intro e' t he1 he2 he3 ht htc h62
      have hsa : ∀ m : List D, m.length = 10 → setAt m 0 t = t := fun m hm => setAt_all (by omega)
      have hlz : (zTag.map zD).length = 10 := rfl
      generalize zTag.map zD = zz at hlz
      simp only [l20d, VV, he1, he2, he3, tl, hl, hz, hcl, h62, ht, htc, hlz, hsa zz hlz, DrwE_nil, DrwE_plain, DrwE_guard, GdE_true, GdE_false, DcE_q, DcE_push, DcE_rd, drdE, dcallE, Ex_seq, Ex_reg, Ex_ret, Ex_skip, Ex_exit, Ex_block, Ex_cond', condE_true, condE_false, loopQ_nrm, loopQ_ret, loopQ_ext, blockQ_nrm, blockQ_ret, blockQ_ext, OpsE_plain, OpsE_guard, OpsE_nil, GuE_true, GuE_false, guardD, act, callA, ev, upd, putE, AcE_q, AcE_push, AcE_rd', AcE_wr', rdE, wrE, initE, thenQ_nrm, thenQ_ret, thenQ_ext, retQ, qo_s, convD, D.slc, unBytes_bytesP, bytesP_length, binD, scD, blD, scBin, blBin, strBin, intBin, ressD, mapO, resD, D.frz, frzL, frz_cells, D.closed, closedL, closed_cells, mkV_true, gt0, gtk, st0, stk, List.append_assoc, List.length_append, D.fits, D.cells, partD, mkV_false, setAt, iadD, asI, List.map_cons, List.map_nil, List.getElem?_cons_zero, List.getElem?_cons_succ, List.getElem?_nil, List.length_cons, List.length_nil, List.drop_succ_cons, List.drop_zero, List.take_succ_cons, List.take_zero, List.nil_append, List.cons_append, List.set_cons_zero, List.set_cons_succ, Nat.reduceAdd, Nat.reduceLeDiff, Nat.reduceEqDiff, Nat.reduceBEq, beq_iff_eq, reduceCtorEq, ↓reduceIte, Option.map_some, Option.some.injEq, Bool.true_and, Bool.false_and, Bool.and_true, Bool.and_self, Bool.and_false, Bool.or_self, Bool.false_eq_true, b_ff, b_ft, b_tf, b_tt, Bool.not_true, Bool.not_false, BEq.rfl, decide_true, decide_false, Nat.le_refl, callE, zD, snilD, inilD, tasD, fnilD, AcE_tp, AcE_tw, twE, DcE_tp, appD, appSrc, fillD, fillP, D.pcells, cellPure, thenQ_pan, blockQ_pan, loopQ_pan, cntQ_nrm, cntQ_ret, cntQ_ext, cntQ_pan, indQ_nrm, indQ_ret, indQ_ext, indQ_pan, resQ, panQ_pan, rawQ, unD, and_self, and_true, true_and, not_true_eq_false, not_false_eq_true, Int.cast_ofNat_Int, Int.reduceLT, Int.reduceLE, Int.reduceBEq, Int.reduceToNat, Nat.reduceMul, Int.zero_le_ofNat, orcA, AcE_call]
    have hp62 : ∀ (e' : Env), e' 1 = .mp 0 0 → e' 2 = .mp 1 0 → e' 3 = .mp 2 0 → callV orcA F 62 [.ag l] = some (.pan (.ifc 86 (.ag []))) → OpsE orcA F l20d ⟨e', VV (zTag.map zD) (.c (.v (.int .i64 0))), []⟩
        (fun o s => o = .pan (.ifc 86 (.ag [])) ∧ s.e 2 = .mp 1 0 ∧ s.e 3 = .mp 2 0 ∧ s.V = VV (zTag.map zD) (.c (.v (.int .i64 0))) ∧ s.T = []) := by
      intro e' he1 he2 he3 h62
      simp only [l20d, VV, he1, he2, he3, tl, hl, hz, hcl, h62, DrwE_nil, DrwE_plain, DrwE_guard, GdE_true, GdE_false, DcE_q, DcE_push, DcE_rd, drdE, dcallE, Ex_seq, Ex_reg, Ex_ret, Ex_skip, Ex_exit, Ex_block, Ex_cond', condE_true, condE_false, loopQ_nrm, loopQ_ret, loopQ_ext, blockQ_nrm, blockQ_ret, blockQ_ext, OpsE_plain, OpsE_guard, OpsE_nil, GuE_true, GuE_false, guardD, act, callA, ev, upd, putE, AcE_q, AcE_push, AcE_rd', AcE_wr', rdE, wrE, initE, thenQ_nrm, thenQ_ret, thenQ_ext, retQ, qo_s, convD, D.slc, unBytes_bytesP, bytesP_length, binD, scD, blD, scBin, blBin, strBin, intBin, ressD, mapO, resD, D.frz, frzL, frz_cells, D.closed, closedL, closed_cells, mkV_true, gt0, gtk, st0, stk, List.append_assoc, List.length_append, D.fits, D.cells, partD, mkV_false, setAt, iadD, asI, List.map_cons, List.map_nil, List.getElem?_cons_zero, List.getElem?_cons_succ, List.getElem?_nil, List.length_cons, List.length_nil, List.drop_succ_cons, List.drop_zero, List.take_succ_cons, List.take_zero, List.nil_append, List.cons_append, List.set_cons_zero, List.set_cons_succ, Nat.reduceAdd, Nat.reduceLeDiff, Nat.reduceEqDiff, Nat.reduceBEq, beq_iff_eq, reduceCtorEq, ↓reduceIte, Option.map_some, Option.some.injEq, Bool.true_and, Bool.false_and, Bool.and_true, Bool.and_self, Bool.and_false, Bool.or_self, Bool.false_eq_true, b_ff, b_ft, b_tf, b_tt, Bool.not_true, Bool.not_false, BEq.rfl, decide_true, decide_false, Nat.le_refl, callE, zD, snilD, inilD, tasD, fnilD, AcE_tp, AcE_tw, twE, DcE_tp, appD, appSrc, fillD, fillP, D.pcells, cellPure, thenQ_pan, blockQ_pan, loopQ_pan, cntQ_nrm, cntQ_ret, cntQ_ext, cntQ_pan, indQ_nrm, indQ_ret, indQ_ext, indQ_pan, resQ, panQ_pan, rawQ, unD, and_self, and_true, true_and, not_true_eq_false, not_false_eq_true, Int.cast_ofNat_Int, Int.reduceLT, Int.reduceLE, Int.reduceBEq, Int.reduceToNat, Nat.reduceMul, Int.zero_le_ofNat, orcA, AcE_call]
    obtain ⟨b, h61, hdb⟩ : ∃ b, callV orcA F 61 [.ag l] = some (.ret (boD b)) ∧ (if b then (match callV orcA F 62 [.ag l] with
        | some (.ret (.ag t)) => if t.length = 10 ∧ closedL t = true then some (.tu [.ag t, .c (.v (.int .i64 0))]) else none
        | some (.pan (.ifc 86 (.ag []))) => some (.tu [.ag (zTag.map .c), .c (.v (.int .i64 13))])
        | _ => none) = some d else d = .tu [.ag (zTag.map .c), .c (.v (.int .i64 13))]) := by
      unfold getR at hd
      split at hd
      · rename_i h61; exact ⟨true, h61, hd⟩
      · rename_i h61; exact ⟨false, h61, by simpa using hd.symm⟩
      · simp at hd
    obtain ⟨n2, o2, s2, j1, j2, j3, j4, j5, j6, j7⟩ := hm61 b h61
    obtain ⟨e2, V2, T2⟩ := s2
    simp only at j3 j4 j5 j6 j7
    subst j6; subst j7
    refine wp_seq (reg_okX hAg (callN_ok orcA_ok mixed n2) orcA_ok hC hL3 j1 ?_)
    cases o2 with
    | ret => exact j2.elim
    | ext i => exact j2.elim
    | pan dd =>
      obtain ⟨rfl, rfl⟩ := j2
      intro a4 w4 v hLV
      exact dpan e2 (zTag.map zD) _ a4 w4 v j4 j5 rfl (by simpa using hdb) hLV
    | nrm =>
      have j2 : b = true := j2
      subst j2
      simp only [if_true] at hdb
      intro a4 w4 hL4
      refine wp_seq ?_
      split at hdb
      · rename_i t h62
        split at hdb
        · rename_i htc
          simp only [Option.some.injEq] at hdb
          obtain ⟨n3, o3, s3, i1, i2, i3, i4, i5, i6⟩ := hm62 e2 t j3 j4 j5 htc.1 htc.2 h62
          obtain ⟨e3, V3, T3⟩ := s3
          simp only at i3 i4 i5 i6
          subst i2; subst i5; subst i6
          refine reg_okX hAg (callN_ok orcA_ok mixed n3) orcA_ok hD hL4 i1 ?_
          intro a5 w5 hL5
          refine wp_ret ?_
          obtain ⟨gd, q1, q2, q3, q4, q5, q6⟩ := hL5
          show Leaves _ _ _ _ a5.defers _ _
          rw [q5]
          refine door q1 q2 q3 i3 i4 h6 (u' := .returning) (xd := .c (.v .nilIface)) (xv := .nilIface) (sc_rep rfl) (fun c₀ cs hc => .inr (by simp [recoverD, hc])) (fun e h0 h1 h2 => run59r _ _ _ e h2) (by simp) rfl rfl rfl rfl rfl rfl htc.1 rfl ?_
          intro v' w'' hG
          refine fin w5 gd v' w'' _ _ ?_ q1 q6 hG
          have hft := callV_frz h62
          simp only [D.frz, D.ag.injEq] at hft
          rw [← hdb]
          simp only [D.frz, frzL, hft]
        · simp at hdb
      · rename_i h62
        simp only [Option.some.injEq] at hdb
        obtain ⟨n3, o3, s3, i1, i2, i3, i4, i5, i6⟩ := hp62 e2 j3 j4 j5 h62
        obtain ⟨e3, V3, T3⟩ := s3
        simp only at i3 i4 i5 i6
        subst i2; subst i5; subst i6
        refine reg_okX hAg (callN_ok orcA_ok mixed n3) orcA_ok hD hL4 i1 ?_
        intro a5 w5 v hLV
        exact dpan e3 (zTag.map zD) _ a5 w5 v i3 i4 rfl hdb.symm hLV
      · simp at hdb
  exact key _ rfl rfl rfl _ ⟨g2, Ext.refl _ _ _, x2, x3, x4, by rw [x5], Below.refl _ _⟩

noncomputable def getT : List D → Option Ac
  | [.ag l] => if l.length = 5 ∧ closedL l = true then (getR (.ag l)).map .q else none
  | _ => none
/-- The table with tag.Get. -/
noncomputable def orcB : Orc := fun f => if f = 20 then some getT else orcA f
theorem orcB_ok : OrcOk Tryz.prog orcB := by
  intro f h hf args ac hac w g V T cargs call out l hS hR hd
  unfold orcB at hf
  split at hf
  case isFalse => exact orcA_ok f h hf args ac hac w g V T cargs call out l hS hR hd
  rename_i e
  subst e
  simp only [Option.some.injEq] at hf
  subst hf
  unfold getT at hac
  split at hac
  case h_2 => simp at hac
  rename_i t hargs
  split at hac
  case isFalse => simp at hac
  rename_i hc
  obtain ⟨d, hd2, rfl⟩ := Option.map_eq_some_iff.1 hac
  simp only [doAc, Option.some.injEq, Prod.mk.injEq] at hd
  obtain ⟨rfl, _⟩ := hd
  have hR' := frzL_rep hR
  obtain ⟨a, rfl, ha⟩ := frzL_one hargs
  have hft : frzL t = t := by
    have := frz_idem a
    rw [← ha] at this
    simpa [D.frz] using this
  have hR0 : RepL w (g.clear w) [] cargs [.ag t] := by
    rw [hargs] at hR'
    refine ⟨hR'.1, fun i hi => closed_rep (hR'.2 i hi) rfl ?_ (.inr ?_)⟩
    · have : i = 0 := by simpa using hi
      subst this
      simp [D.closed, hc.2]
    · have : i = 0 := by simpa using hi
      subst this
      simp [D.frz, hft]
  exact .inl ⟨enters_run enters20, get20 hS hc.1 hc.2 hft hR0 hd2⟩
theorem tableB : OLe F orcA orcB := fun f => by
  unfold orcB
  split
  · rename_i e
    subst e
    exact .inr ⟨rfl, by kernel_rfl⟩
  · exact .inl rfl
end Go.Proofs.YthglfhnlolefhaaGreatDoor

end
section
/- Own: tag.Same, on pure data (prototype). -/
set_option linter.unusedSimpArgs false
set_option linter.unusedVariables false
namespace Go.Proofs.YthglfhnlolefhaaGreatDoor
open Go.Abs

set_option maxHeartbeats 1000000 in
theorem run68 (a b : List UInt8) : callV orcA F 68 [byD a, byD b] = some (.ret (boD (a == b))) := by
  refine callV_ret tr68 ?_
  simp only [c68, toList_mk, DrwE_nil, DrwE_plain, DrwE_guard, GdE_true, GdE_false, DcE_q, DcE_push, DcE_rd, drdE, dcallE, Ex_seq, Ex_reg, Ex_ret, Ex_skip, Ex_exit, Ex_block, Ex_cond', condE_true, condE_false, loopQ_nrm, loopQ_ret, loopQ_ext, blockQ_nrm, blockQ_ret, blockQ_ext, OpsE_plain, OpsE_guard, OpsE_nil, GuE_true, GuE_false, guardD, act, callA, ev, upd, putE, AcE_q, AcE_push, AcE_rd', AcE_wr', rdE, wrE, initE, thenQ_nrm, thenQ_ret, thenQ_ext, retQ, qo_s, convD, D.slc, unBytes_bytesP, bytesP_length, binD, scD, blD, scBin, blBin, strBin, intBin, ressD, mapO, resD, D.frz, frzL, frz_cells, D.closed, closedL, closed_cells, mkV_true, gt0, gtk, st0, stk, List.append_assoc, List.length_append, D.fits, D.cells, partD, mkV_false, setAt, iadD, asI, List.map_cons, List.map_nil, List.getElem?_cons_zero, List.getElem?_cons_succ, List.getElem?_nil, List.length_cons, List.length_nil, List.drop_succ_cons, List.drop_zero, List.take_succ_cons, List.take_zero, List.nil_append, List.cons_append, List.set_cons_zero, List.set_cons_succ, Nat.reduceAdd, Nat.reduceLeDiff, Nat.reduceEqDiff, Nat.reduceBEq, beq_iff_eq, reduceCtorEq, ↓reduceIte, Option.map_some, Option.some.injEq, Bool.true_and, Bool.false_and, Bool.and_true, Bool.and_self, Bool.and_false, Bool.or_self, Bool.false_eq_true, b_ff, b_ft, b_tf, b_tt, Bool.not_true, Bool.not_false, BEq.rfl, decide_true, decide_false, Nat.le_refl, callE, zD, snilD, inilD, tasD, fnilD, AcE_tp, AcE_tw, twE, DcE_tp, appD, appSrc, fillD, fillP, D.pcells, cellPure, thenQ_pan, blockQ_pan, loopQ_pan, cntQ_nrm, cntQ_ret, cntQ_ext, cntQ_pan, indQ_nrm, indQ_ret, indQ_ext, indQ_pan, resQ, panQ_pan, rawQ, unD, and_self, and_true, true_and, not_true_eq_false, not_false_eq_true, orcA]
set_option maxHeartbeats 1000000 in
theorem run113 (i1 i2 o1 o2 : Bool) (a1 a2 : List UInt8) : callV orcA F 113 [.ag [boD i1, boD o1, byD a1], .ag [boD i2, boD o2, byD a2]] = some (.ret (boD (i1 == i2 && o1 == o2 && a1 == a2))) := by
  refine callV_ret tr113 ?_
  cases hi : (i1 == i2) <;> cases ho : (o1 == o2) <;> simp only [c113, hi, ho, DrwE_nil, DrwE_plain, DrwE_guard, GdE_true, GdE_false, DcE_q, DcE_push, DcE_rd, drdE, dcallE, Ex_seq, Ex_reg, Ex_ret, Ex_skip, Ex_exit, Ex_block, Ex_cond', condE_true, condE_false, loopQ_nrm, loopQ_ret, loopQ_ext, blockQ_nrm, blockQ_ret, blockQ_ext, OpsE_plain, OpsE_guard, OpsE_nil, GuE_true, GuE_false, guardD, act, callA, ev, upd, putE, AcE_q, AcE_push, AcE_rd', AcE_wr', rdE, wrE, initE, thenQ_nrm, thenQ_ret, thenQ_ext, retQ, qo_s, convD, D.slc, unBytes_bytesP, bytesP_length, binD, scD, blD, scBin, blBin, strBin, intBin, ressD, mapO, resD, D.frz, frzL, frz_cells, D.closed, closedL, closed_cells, mkV_true, gt0, gtk, st0, stk, List.append_assoc, List.length_append, D.fits, D.cells, partD, mkV_false, setAt, iadD, asI, List.map_cons, List.map_nil, List.getElem?_cons_zero, List.getElem?_cons_succ, List.getElem?_nil, List.length_cons, List.length_nil, List.drop_succ_cons, List.drop_zero, List.take_succ_cons, List.take_zero, List.nil_append, List.cons_append, List.set_cons_zero, List.set_cons_succ, Nat.reduceAdd, Nat.reduceLeDiff, Nat.reduceEqDiff, Nat.reduceBEq, beq_iff_eq, reduceCtorEq, ↓reduceIte, Option.map_some, Option.some.injEq, Bool.true_and, Bool.false_and, Bool.and_true, Bool.and_self, Bool.and_false, Bool.or_self, Bool.false_eq_true, b_ff, b_ft, b_tf, b_tt, Bool.not_true, Bool.not_false, BEq.rfl, decide_true, decide_false, Nat.le_refl, callE, zD, snilD, inilD, tasD, fnilD, AcE_tp, AcE_tw, twE, DcE_tp, appD, appSrc, fillD, fillP, D.pcells, cellPure, thenQ_pan, blockQ_pan, loopQ_pan, cntQ_nrm, cntQ_ret, cntQ_ext, cntQ_pan, indQ_nrm, indQ_ret, indQ_ext, indQ_pan, resQ, panQ_pan, rawQ, unD, and_self, and_true, true_and, not_true_eq_false, not_false_eq_true, orcA, AcE_call, run68]
abbrev u8D (n : Int) : D := .c (.v (.int .u8 n))
abbrev inD (n : Int) : D := .c (.v (.int .i64 n))
set_option maxHeartbeats 1000000 in
theorem run69 (m1 m2 : Int) (i1 i2 o1 o2 j1 j2 p1 p2 : Bool) (a1 a2 b1 b2 : List UInt8) :
    callV orcA F 69 [.ag [u8D m1, boD i1, boD o1, byD a1, boD j1, boD p1, byD b1], .ag [u8D m2, boD i2, boD o2, byD a2, boD j2, boD p2, byD b2]] =
      some (.ret (boD (m1 == m2 && (i1 == i2 && o1 == o2 && a1 == a2) && (j1 == j2 && p1 == p2 && b1 == b2)))) := by
  refine callV_ret tr69 ?_
  cases hm : (m1 == m2) <;> cases hb : (i1 == i2 && o1 == o2 && a1 == a2) <;> simp only [c69, hm, hb, DrwE_nil, DrwE_plain, DrwE_guard, GdE_true, GdE_false, DcE_q, DcE_push, DcE_rd, drdE, dcallE, Ex_seq, Ex_reg, Ex_ret, Ex_skip, Ex_exit, Ex_block, Ex_cond', condE_true, condE_false, loopQ_nrm, loopQ_ret, loopQ_ext, blockQ_nrm, blockQ_ret, blockQ_ext, OpsE_plain, OpsE_guard, OpsE_nil, GuE_true, GuE_false, guardD, act, callA, ev, upd, putE, AcE_q, AcE_push, AcE_rd', AcE_wr', rdE, wrE, initE, thenQ_nrm, thenQ_ret, thenQ_ext, retQ, qo_s, convD, D.slc, unBytes_bytesP, bytesP_length, binD, scD, blD, scBin, blBin, strBin, intBin, ressD, mapO, resD, D.frz, frzL, frz_cells, D.closed, closedL, closed_cells, mkV_true, gt0, gtk, st0, stk, List.append_assoc, List.length_append, D.fits, D.cells, partD, mkV_false, setAt, iadD, asI, List.map_cons, List.map_nil, List.getElem?_cons_zero, List.getElem?_cons_succ, List.getElem?_nil, List.length_cons, List.length_nil, List.drop_succ_cons, List.drop_zero, List.take_succ_cons, List.take_zero, List.nil_append, List.cons_append, List.set_cons_zero, List.set_cons_succ, Nat.reduceAdd, Nat.reduceLeDiff, Nat.reduceEqDiff, Nat.reduceBEq, beq_iff_eq, reduceCtorEq, ↓reduceIte, Option.map_some, Option.some.injEq, Bool.true_and, Bool.false_and, Bool.and_true, Bool.and_self, Bool.and_false, Bool.or_self, Bool.false_eq_true, b_ff, b_ft, b_tf, b_tt, Bool.not_true, Bool.not_false, BEq.rfl, decide_true, decide_false, Nat.le_refl, callE, zD, snilD, inilD, tasD, fnilD, AcE_tp, AcE_tw, twE, DcE_tp, appD, appSrc, fillD, fillP, D.pcells, cellPure, thenQ_pan, blockQ_pan, loopQ_pan, cntQ_nrm, cntQ_ret, cntQ_ext, cntQ_pan, indQ_nrm, indQ_ret, indQ_ext, indQ_pan, resQ, panQ_pan, rawQ, unD, and_self, and_true, true_and, not_true_eq_false, not_false_eq_true, orcA, AcE_call, run113]

theorem loop70 {α : Type} (c : α → List Go.Abs.P) (hc : ∀ x, (c x).length = 10) (f : FuncId) (hf1 : f ≠ 51) (hf2 : f ≠ 116) (eq : α → α → Bool) (k1 k2 : List α) (hlen : k1.length = k2.length) (hbd : k1.length < 2 ^ 62)
    (hf : ∀ x ∈ k1, ∀ y, callV orcA F f [.ag ((c x).map .c), .ag ((c y).map .c)] = some (.ret (boD (eq x y)))) (Q : Out → St → Prop) : ∀ (m i : Nat) (s : St), i + m = k1.length → s.T = [] →
    s.e 1 = .c (.sl k2.length (k2.flatMap c)) → s.e 2 = .fn f [] → s.e 15 = .c (.sl k1.length (k1.flatMap c)) → s.e 16 = inD k1.length → s.e 17 = inD i →
    (((k1.drop i).zip (k2.drop i)).all (fun p => eq p.1 p.2) = true → ∀ s', Q (.ext 0) s') → (((k1.drop i).zip (k2.drop i)).all (fun p => eq p.1 p.2) = false → ∀ s', s'.e 6 = boD false → Q .ret s') →
    Ex orcA F (.loop c70L0) s Q
  | 0, i, s, hi, hT, h1, h2, h15, h16, h17, hq1, hq2 => by
    have hd : decide ((i : Int) < (k1.length : Int)) = false := by simp; omega
    rw [Ex_loop]
    simp only [c70L0, hf1, hf2, h1, h2, h15, h16, h17, hd, DrwE_nil, DrwE_plain, DrwE_guard, GdE_true, GdE_false, DcE_q, DcE_push, DcE_rd, drdE, dcallE, Ex_seq, Ex_reg, Ex_ret, Ex_skip, Ex_exit, Ex_block, Ex_cond', condE_true, condE_false, loopQ_nrm, loopQ_ret, loopQ_ext, blockQ_nrm, blockQ_ret, blockQ_ext, OpsE_plain, OpsE_guard, OpsE_nil, GuE_true, GuE_false, guardD, act, callA, ev, upd, putE, AcE_q, AcE_push, AcE_rd', AcE_wr', rdE, wrE, initE, thenQ_nrm, thenQ_ret, thenQ_ext, retQ, qo_s, convD, D.slc, unBytes_bytesP, bytesP_length, binD, scD, blD, scBin, blBin, strBin, intBin, ressD, mapO, resD, D.frz, frzL, frz_cells, D.closed, closedL, closed_cells, mkV_true, gt0, gtk, st0, stk, List.append_assoc, List.length_append, D.fits, D.cells, partD, mkV_false, setAt, iadD, asI, List.map_cons, List.map_nil, List.getElem?_cons_zero, List.getElem?_cons_succ, List.getElem?_nil, List.length_cons, List.length_nil, List.drop_succ_cons, List.drop_zero, List.take_succ_cons, List.take_zero, List.nil_append, List.cons_append, List.set_cons_zero, List.set_cons_succ, Nat.reduceAdd, Nat.reduceLeDiff, Nat.reduceEqDiff, Nat.reduceBEq, beq_iff_eq, reduceCtorEq, ↓reduceIte, Option.map_some, Option.some.injEq, Bool.true_and, Bool.false_and, Bool.and_true, Bool.and_self, Bool.and_false, Bool.or_self, Bool.false_eq_true, b_ff, b_ft, b_tf, b_tt, Bool.not_true, Bool.not_false, BEq.rfl, decide_true, decide_false, Nat.le_refl, callE, zD, snilD, inilD, tasD, fnilD, AcE_tp, AcE_tw, twE, DcE_tp, appD, appSrc, fillD, fillP, D.pcells, cellPure, thenQ_pan, blockQ_pan, loopQ_pan, cntQ_nrm, cntQ_ret, cntQ_ext, cntQ_pan, indQ_nrm, indQ_ret, indQ_ext, indQ_pan, resQ, panQ_pan, rawQ, unD, and_self, and_true, true_and, not_true_eq_false, not_false_eq_true, orcA]
    refine hq1 ?_ _
    rw [List.drop_eq_nil_of_le (by omega)]
    rfl
  | m + 1, i, s, hi, hT, h1, h2, h15, h16, h17, hq1, hq2 => by
    have hlt : i < k1.length := by omega
    have hd : decide ((i : Int) < (k1.length : Int)) = true := by simp; omega
    obtain ⟨x, hx⟩ : ∃ x, k1[i]? = some x := ⟨_, List.getElem?_eq_getElem hlt⟩
    obtain ⟨y, hy⟩ : ∃ y, k2[i]? = some y := ⟨_, List.getElem?_eq_getElem (by omega)⟩
    have hr1 : (0 ≤ (i : Int) ∧ (i : Int) < (k1.length : Int)) = True := by simp; omega
    have hr2 : (0 ≤ (i : Int) ∧ (i : Int) < (k2.length : Int)) = True := by simp; omega
    obtain ⟨x1, x2⟩ := seg_at hc hx
    obtain ⟨y1, y2⟩ := seg_at hc hy
    have x3 : List.take 10 (List.map D.c (c x)) = List.map D.c (c x) := List.take_of_length_le (by simp [hc])
    have y3 : List.take 10 (List.map D.c (c y)) = List.map D.c (c y) := List.take_of_length_le (by simp [hc])
    have hfx := hf x (List.mem_of_getElem? hx) y
    have hzip : ((k1.drop i).zip (k2.drop i)).all (fun p => eq p.1 p.2) = (eq x y && ((k1.drop (i + 1)).zip (k2.drop (i + 1))).all (fun p => eq p.1 p.2)) := by
      obtain ⟨g1, rfl⟩ := List.getElem?_eq_some_iff.1 hx
      obtain ⟨g2, rfl⟩ := List.getElem?_eq_some_iff.1 hy
      rw [List.drop_eq_getElem_cons g1, List.drop_eq_getElem_cons g2]
      rfl
    rw [Ex_loop]
    generalize hQ : loopQ orcA F c70L0 Q = Q'
    cases hE : eq x y with
    | true =>
      simp only [c70L0, hf1, hf2, h1, h2, h15, h16, h17, hd, hr1, hr2, x1, x2, y1, y2, x3, y3, hc, hfx, hE, setAt_all, List.length_map, Int.toNat_natCast, unD, DrwE_nil, DrwE_plain, DrwE_guard, GdE_true, GdE_false, DcE_q, DcE_push, DcE_rd, drdE, dcallE, Ex_seq, Ex_reg, Ex_ret, Ex_skip, Ex_exit, Ex_block, Ex_cond', condE_true, condE_false, loopQ_nrm, loopQ_ret, loopQ_ext, blockQ_nrm, blockQ_ret, blockQ_ext, OpsE_plain, OpsE_guard, OpsE_nil, GuE_true, GuE_false, guardD, act, callA, ev, upd, putE, AcE_q, AcE_push, AcE_rd', AcE_wr', rdE, wrE, initE, thenQ_nrm, thenQ_ret, thenQ_ext, retQ, qo_s, convD, D.slc, unBytes_bytesP, bytesP_length, binD, scD, blD, scBin, blBin, strBin, intBin, ressD, mapO, resD, D.frz, frzL, frz_cells, D.closed, closedL, closed_cells, mkV_true, gt0, gtk, st0, stk, List.append_assoc, List.length_append, D.fits, D.cells, partD, mkV_false, setAt, iadD, asI, List.map_cons, List.map_nil, List.getElem?_cons_zero, List.getElem?_cons_succ, List.getElem?_nil, List.length_cons, List.length_nil, List.drop_succ_cons, List.drop_zero, List.take_succ_cons, List.take_zero, List.nil_append, List.cons_append, List.set_cons_zero, List.set_cons_succ, Nat.reduceAdd, Nat.reduceLeDiff, Nat.reduceEqDiff, Nat.reduceBEq, beq_iff_eq, reduceCtorEq, ↓reduceIte, Option.map_some, Option.some.injEq, Bool.true_and, Bool.false_and, Bool.and_true, Bool.and_self, Bool.and_false, Bool.or_self, Bool.false_eq_true, b_ff, b_ft, b_tf, b_tt, Bool.not_true, Bool.not_false, BEq.rfl, decide_true, decide_false, Nat.le_refl, callE, zD, snilD, inilD, tasD, fnilD, AcE_tp, AcE_tw, twE, DcE_tp, appD, appSrc, fillD, fillP, D.pcells, cellPure, thenQ_pan, blockQ_pan, loopQ_pan, cntQ_nrm, cntQ_ret, cntQ_ext, cntQ_pan, indQ_nrm, indQ_ret, indQ_ext, indQ_pan, resQ, panQ_pan, rawQ, unD, and_self, and_true, true_and, not_true_eq_false, not_false_eq_true, orcA, AcE_call]
      rw [← hQ, loopQ_nrm]
      have hw : IntKind.i64.wrap ((i : Int) + 1) = ((i + 1 : Nat) : Int) := wrap_i64 (by omega) (by omega)
      refine loop70 c hc f hf1 hf2 eq k1 k2 hlen hbd hf Q m (i + 1) _ (by omega) hT (by simp [upd, h1]) (by simp [upd, h2]) (by simp [upd, h15]) (by simp [upd, h16]) (by simp [upd, hw]) (fun h => hq1 ?_) (fun h => hq2 ?_)
      · rw [hzip, hE, h]; rfl
      · rw [hzip, hE, h]; rfl
    | false =>
      simp only [c70L0, hf1, hf2, h1, h2, h15, h16, h17, hd, hr1, hr2, x1, x2, y1, y2, x3, y3, hc, hfx, hE, setAt_all, List.length_map, Int.toNat_natCast, unD, DrwE_nil, DrwE_plain, DrwE_guard, GdE_true, GdE_false, DcE_q, DcE_push, DcE_rd, drdE, dcallE, Ex_seq, Ex_reg, Ex_ret, Ex_skip, Ex_exit, Ex_block, Ex_cond', condE_true, condE_false, loopQ_nrm, loopQ_ret, loopQ_ext, blockQ_nrm, blockQ_ret, blockQ_ext, OpsE_plain, OpsE_guard, OpsE_nil, GuE_true, GuE_false, guardD, act, callA, ev, upd, putE, AcE_q, AcE_push, AcE_rd', AcE_wr', rdE, wrE, initE, thenQ_nrm, thenQ_ret, thenQ_ext, retQ, qo_s, convD, D.slc, unBytes_bytesP, bytesP_length, binD, scD, blD, scBin, blBin, strBin, intBin, ressD, mapO, resD, D.frz, frzL, frz_cells, D.closed, closedL, closed_cells, mkV_true, gt0, gtk, st0, stk, List.append_assoc, List.length_append, D.fits, D.cells, partD, mkV_false, setAt, iadD, asI, List.map_cons, List.map_nil, List.getElem?_cons_zero, List.getElem?_cons_succ, List.getElem?_nil, List.length_cons, List.length_nil, List.drop_succ_cons, List.drop_zero, List.take_succ_cons, List.take_zero, List.nil_append, List.cons_append, List.set_cons_zero, List.set_cons_succ, Nat.reduceAdd, Nat.reduceLeDiff, Nat.reduceEqDiff, Nat.reduceBEq, beq_iff_eq, reduceCtorEq, ↓reduceIte, Option.map_some, Option.some.injEq, Bool.true_and, Bool.false_and, Bool.and_true, Bool.and_self, Bool.and_false, Bool.or_self, Bool.false_eq_true, b_ff, b_ft, b_tf, b_tt, Bool.not_true, Bool.not_false, BEq.rfl, decide_true, decide_false, Nat.le_refl, callE, zD, snilD, inilD, tasD, fnilD, AcE_tp, AcE_tw, twE, DcE_tp, appD, appSrc, fillD, fillP, D.pcells, cellPure, thenQ_pan, blockQ_pan, loopQ_pan, cntQ_nrm, cntQ_ret, cntQ_ext, cntQ_pan, indQ_nrm, indQ_ret, indQ_ext, indQ_pan, resQ, panQ_pan, rawQ, unD, and_self, and_true, true_and, not_true_eq_false, not_false_eq_true, orcA, AcE_call]
      rw [← hQ, loopQ_ret]
      refine hq2 ?_ _ rfl
      rw [hzip, hE]; rfl

set_option maxHeartbeats 1000000 in
theorem run70 {α : Type} (c : α → List Go.Abs.P) (hc : ∀ x, (c x).length = 10) (f : FuncId) (hf1 : f ≠ 51) (hf2 : f ≠ 116) (eq : α → α → Bool) (k1 k2 : List α) (hbd : k1.length < 2 ^ 62)
    (hf : ∀ x ∈ k1, ∀ y, callV orcA F f [.ag ((c x).map .c), .ag ((c y).map .c)] = some (.ret (boD (eq x y)))) :
    callV orcA F 70 [.c (.sl k1.length (k1.flatMap c)), .c (.sl k2.length (k2.flatMap c)), .fn f []] = some (.ret (boD (k1.length == k2.length && (k1.zip k2).all fun p => eq p.1 p.2))) := by
  refine callV_ret tr70 ?_
  by_cases hl : k1.length = k2.length
  · have hd : ((k1.length : Int) != (k2.length : Int)) = false := by simp [hl]
    have hl' : (k1.length == k2.length) = true := by simp [hl]
    simp only [c70, hd, hl', DrwE_nil, DrwE_plain, DrwE_guard, GdE_true, GdE_false, DcE_q, DcE_push, DcE_rd, drdE, dcallE, Ex_seq, Ex_reg, Ex_ret, Ex_skip, Ex_exit, Ex_block, Ex_cond', condE_true, condE_false, loopQ_nrm, loopQ_ret, loopQ_ext, blockQ_nrm, blockQ_ret, blockQ_ext, OpsE_plain, OpsE_guard, OpsE_nil, GuE_true, GuE_false, guardD, act, callA, ev, upd, putE, AcE_q, AcE_push, AcE_rd', AcE_wr', rdE, wrE, initE, thenQ_nrm, thenQ_ret, thenQ_ext, retQ, qo_s, convD, D.slc, unBytes_bytesP, bytesP_length, binD, scD, blD, scBin, blBin, strBin, intBin, ressD, mapO, resD, D.frz, frzL, frz_cells, D.closed, closedL, closed_cells, mkV_true, gt0, gtk, st0, stk, List.append_assoc, List.length_append, D.fits, D.cells, partD, mkV_false, setAt, iadD, asI, List.map_cons, List.map_nil, List.getElem?_cons_zero, List.getElem?_cons_succ, List.getElem?_nil, List.length_cons, List.length_nil, List.drop_succ_cons, List.drop_zero, List.take_succ_cons, List.take_zero, List.nil_append, List.cons_append, List.set_cons_zero, List.set_cons_succ, Nat.reduceAdd, Nat.reduceLeDiff, Nat.reduceEqDiff, Nat.reduceBEq, beq_iff_eq, reduceCtorEq, ↓reduceIte, Option.map_some, Option.some.injEq, Bool.true_and, Bool.false_and, Bool.and_true, Bool.and_self, Bool.and_false, Bool.or_self, Bool.false_eq_true, b_ff, b_ft, b_tf, b_tt, Bool.not_true, Bool.not_false, BEq.rfl, decide_true, decide_false, Nat.le_refl, callE, zD, snilD, inilD, tasD, fnilD, AcE_tp, AcE_tw, twE, DcE_tp, appD, appSrc, fillD, fillP, D.pcells, cellPure, thenQ_pan, blockQ_pan, loopQ_pan, cntQ_nrm, cntQ_ret, cntQ_ext, cntQ_pan, indQ_nrm, indQ_ret, indQ_ext, indQ_pan, resQ, panQ_pan, rawQ, unD, and_self, and_true, true_and, not_true_eq_false, not_false_eq_true, orcA]
    refine loop70 c hc f hf1 hf2 eq k1 k2 hl hbd hf _ k1.length 0 _ (by omega) rfl rfl rfl rfl rfl rfl (fun h s' => ?_) (fun h s' h6 => ?_)
    · rw [List.drop_zero, List.drop_zero] at h
      simp only [h, DrwE_nil, DrwE_plain, DrwE_guard, GdE_true, GdE_false, DcE_q, DcE_push, DcE_rd, drdE, dcallE, Ex_seq, Ex_reg, Ex_ret, Ex_skip, Ex_exit, Ex_block, Ex_cond', condE_true, condE_false, loopQ_nrm, loopQ_ret, loopQ_ext, blockQ_nrm, blockQ_ret, blockQ_ext, OpsE_plain, OpsE_guard, OpsE_nil, GuE_true, GuE_false, guardD, act, callA, ev, upd, putE, AcE_q, AcE_push, AcE_rd', AcE_wr', rdE, wrE, initE, thenQ_nrm, thenQ_ret, thenQ_ext, retQ, qo_s, convD, D.slc, unBytes_bytesP, bytesP_length, binD, scD, blD, scBin, blBin, strBin, intBin, ressD, mapO, resD, D.frz, frzL, frz_cells, D.closed, closedL, closed_cells, mkV_true, gt0, gtk, st0, stk, List.append_assoc, List.length_append, D.fits, D.cells, partD, mkV_false, setAt, iadD, asI, List.map_cons, List.map_nil, List.getElem?_cons_zero, List.getElem?_cons_succ, List.getElem?_nil, List.length_cons, List.length_nil, List.drop_succ_cons, List.drop_zero, List.take_succ_cons, List.take_zero, List.nil_append, List.cons_append, List.set_cons_zero, List.set_cons_succ, Nat.reduceAdd, Nat.reduceLeDiff, Nat.reduceEqDiff, Nat.reduceBEq, beq_iff_eq, reduceCtorEq, ↓reduceIte, Option.map_some, Option.some.injEq, Bool.true_and, Bool.false_and, Bool.and_true, Bool.and_self, Bool.and_false, Bool.or_self, Bool.false_eq_true, b_ff, b_ft, b_tf, b_tt, Bool.not_true, Bool.not_false, BEq.rfl, decide_true, decide_false, Nat.le_refl, callE, zD, snilD, inilD, tasD, fnilD, AcE_tp, AcE_tw, twE, DcE_tp, appD, appSrc, fillD, fillP, D.pcells, cellPure, thenQ_pan, blockQ_pan, loopQ_pan, cntQ_nrm, cntQ_ret, cntQ_ext, cntQ_pan, indQ_nrm, indQ_ret, indQ_ext, indQ_pan, resQ, panQ_pan, rawQ, unD, and_self, and_true, true_and, not_true_eq_false, not_false_eq_true, orcA]
    · rw [List.drop_zero, List.drop_zero] at h
      simp only [h, h6, DrwE_nil, DrwE_plain, DrwE_guard, GdE_true, GdE_false, DcE_q, DcE_push, DcE_rd, drdE, dcallE, Ex_seq, Ex_reg, Ex_ret, Ex_skip, Ex_exit, Ex_block, Ex_cond', condE_true, condE_false, loopQ_nrm, loopQ_ret, loopQ_ext, blockQ_nrm, blockQ_ret, blockQ_ext, OpsE_plain, OpsE_guard, OpsE_nil, GuE_true, GuE_false, guardD, act, callA, ev, upd, putE, AcE_q, AcE_push, AcE_rd', AcE_wr', rdE, wrE, initE, thenQ_nrm, thenQ_ret, thenQ_ext, retQ, qo_s, convD, D.slc, unBytes_bytesP, bytesP_length, binD, scD, blD, scBin, blBin, strBin, intBin, ressD, mapO, resD, D.frz, frzL, frz_cells, D.closed, closedL, closed_cells, mkV_true, gt0, gtk, st0, stk, List.append_assoc, List.length_append, D.fits, D.cells, partD, mkV_false, setAt, iadD, asI, List.map_cons, List.map_nil, List.getElem?_cons_zero, List.getElem?_cons_succ, List.getElem?_nil, List.length_cons, List.length_nil, List.drop_succ_cons, List.drop_zero, List.take_succ_cons, List.take_zero, List.nil_append, List.cons_append, List.set_cons_zero, List.set_cons_succ, Nat.reduceAdd, Nat.reduceLeDiff, Nat.reduceEqDiff, Nat.reduceBEq, beq_iff_eq, reduceCtorEq, ↓reduceIte, Option.map_some, Option.some.injEq, Bool.true_and, Bool.false_and, Bool.and_true, Bool.and_self, Bool.and_false, Bool.or_self, Bool.false_eq_true, b_ff, b_ft, b_tf, b_tt, Bool.not_true, Bool.not_false, BEq.rfl, decide_true, decide_false, Nat.le_refl, callE, zD, snilD, inilD, tasD, fnilD, AcE_tp, AcE_tw, twE, DcE_tp, appD, appSrc, fillD, fillP, D.pcells, cellPure, thenQ_pan, blockQ_pan, loopQ_pan, cntQ_nrm, cntQ_ret, cntQ_ext, cntQ_pan, indQ_nrm, indQ_ret, indQ_ext, indQ_pan, resQ, panQ_pan, rawQ, unD, and_self, and_true, true_and, not_true_eq_false, not_false_eq_true, orcA]
  · have hd : ((k1.length : Int) != (k2.length : Int)) = true := by simp; omega
    have hl' : (k1.length == k2.length) = false := by simp [hl]
    simp only [c70, hd, hl', DrwE_nil, DrwE_plain, DrwE_guard, GdE_true, GdE_false, DcE_q, DcE_push, DcE_rd, drdE, dcallE, Ex_seq, Ex_reg, Ex_ret, Ex_skip, Ex_exit, Ex_block, Ex_cond', condE_true, condE_false, loopQ_nrm, loopQ_ret, loopQ_ext, blockQ_nrm, blockQ_ret, blockQ_ext, OpsE_plain, OpsE_guard, OpsE_nil, GuE_true, GuE_false, guardD, act, callA, ev, upd, putE, AcE_q, AcE_push, AcE_rd', AcE_wr', rdE, wrE, initE, thenQ_nrm, thenQ_ret, thenQ_ext, retQ, qo_s, convD, D.slc, unBytes_bytesP, bytesP_length, binD, scD, blD, scBin, blBin, strBin, intBin, ressD, mapO, resD, D.frz, frzL, frz_cells, D.closed, closedL, closed_cells, mkV_true, gt0, gtk, st0, stk, List.append_assoc, List.length_append, D.fits, D.cells, partD, mkV_false, setAt, iadD, asI, List.map_cons, List.map_nil, List.getElem?_cons_zero, List.getElem?_cons_succ, List.getElem?_nil, List.length_cons, List.length_nil, List.drop_succ_cons, List.drop_zero, List.take_succ_cons, List.take_zero, List.nil_append, List.cons_append, List.set_cons_zero, List.set_cons_succ, Nat.reduceAdd, Nat.reduceLeDiff, Nat.reduceEqDiff, Nat.reduceBEq, beq_iff_eq, reduceCtorEq, ↓reduceIte, Option.map_some, Option.some.injEq, Bool.true_and, Bool.false_and, Bool.and_true, Bool.and_self, Bool.and_false, Bool.or_self, Bool.false_eq_true, b_ff, b_ft, b_tf, b_tt, Bool.not_true, Bool.not_false, BEq.rfl, decide_true, decide_false, Nat.le_refl, callE, zD, snilD, inilD, tasD, fnilD, AcE_tp, AcE_tw, twE, DcE_tp, appD, appSrc, fillD, fillP, D.pcells, cellPure, thenQ_pan, blockQ_pan, loopQ_pan, cntQ_nrm, cntQ_ret, cntQ_ext, cntQ_pan, indQ_nrm, indQ_ret, indQ_ext, indQ_pan, resQ, panQ_pan, rawQ, unD, and_self, and_true, true_and, not_true_eq_false, not_false_eq_true, orcA]

/-- Tags. -/
inductive Tg where
  | mk (kind : UInt8) (data : List UInt8) (kids : List Tg) (o : UInt8) (i1 o1 : Bool) (a1 : List UInt8) (i2 o2 : Bool) (a2 : List UInt8)
mutual
def Tg.cells : Tg → List Go.Abs.P
  | .mk kind data kids o i1 o1 a1 i2 o2 a2 => [byteP kind, byP data, .sl kids.length (kidsC kids), byteP o, boP i1, boP o1, byP a1, boP i2, boP o2, byP a2]
def kidsC : List Tg → List Go.Abs.P
  | [] => []
  | t :: r => t.cells ++ kidsC r
end
mutual
def Tg.same : Tg → Tg → Bool
  | .mk kind data kids o i1 o1 a1 i2 o2 a2, .mk kind' data' kids' o' i1' o1' a1' i2' o2' a2' =>
    kind == kind' && data == data' && (o == o' && (i1 == i1' && o1 == o1' && a1 == a1') && (i2 == i2' && o2 == o2' && a2 == a2')) && sameL kids kids'
def sameL : List Tg → List Tg → Bool
  | [], [] => true
  | x :: xs, y :: ys => x.same y && sameL xs ys
  | _, _ => false
end
theorem kidsC_eq : ∀ l : List Tg, kidsC l = l.flatMap Tg.cells
  | [] => rfl
  | t :: r => by rw [kidsC, kidsC_eq r]; rfl
theorem cells_len (t : Tg) : t.cells.length = 10 := by cases t; rfl
theorem sameL_eq : ∀ l r : List Tg, sameL l r = (l.length == r.length && (l.zip r).all fun p => p.1.same p.2)
  | [], [] => rfl
  | [], y :: r => by simp [sameL]
  | x :: l, [] => by simp [sameL]
  | x :: l, y :: r => by
    rw [sameL, sameL_eq l r]
    simp only [List.length_cons, List.zip_cons_cons, List.all_cons]
    cases x.same y <;> cases h : (l.length == r.length) <;> simp_all

theorem cells_mk (kind : UInt8) (data : List UInt8) (kids : List Tg) (o : UInt8) (i1 o1 : Bool) (a1 : List UInt8) (i2 o2 : Bool) (a2 : List UInt8) :
    (Tg.mk kind data kids o i1 o1 a1 i2 o2 a2).cells = [byteP kind, byP data, .sl kids.length (kids.flatMap Tg.cells), byteP o, boP i1, boP o1, byP a1, boP i2, boP o2, byP a2] := by
  rw [← kidsC_eq]; rfl
theorem same_mk (kind kind' : UInt8) (data data' : List UInt8) (kids kids' : List Tg) (o o' : UInt8) (i1 o1 i1' o1' : Bool) (a1 a1' : List UInt8) (i2 o2 i2' o2' : Bool) (a2 a2' : List UInt8) :
    (Tg.mk kind data kids o i1 o1 a1 i2 o2 a2).same (Tg.mk kind' data' kids' o' i1' o1' a1' i2' o2' a2') =
      (kind == kind' && data == data' && (o == o' && (i1 == i1' && o1 == o1' && a1 == a1') && (i2 == i2' && o2 == o2' && a2 == a2')) && (kids.length == kids'.length && (kids.zip kids').all fun p => p.1.same p.2)) := by
  rw [← sameL_eq]; rfl
theorem u8_eq (a b : UInt8) : ((a.toNat : Int) == (b.toNat : Int)) = (a == b) := by
  by_cases h : a = b
  · subst h; simp
  · have : ¬ a.toNat = b.toNat := fun e => h (UInt8.toNat_inj.1 e)
    rw [beq_eq_false_iff_ne.2 h, beq_eq_false_iff_ne]; omega
inductive Tg.ok : Tg → Prop
  | mk {kind data kids o i1 o1 a1 i2 o2 a2} (h : kids.length < 2 ^ 62) (hk : ∀ x ∈ kids, x.ok) : Tg.ok (.mk kind data kids o i1 o1 a1 i2 o2 a2)
set_option maxHeartbeats 2000000 in
theorem run23 (a b : Tg) (ha : a.ok) : callV orcA F 23 [.ag (a.cells.map .c), .ag (b.cells.map .c)] = some (.ret (boD (a.same b))) := by
  induction ha generalizing b with
  | @mk kind data kids o i1 o1 a1 i2 o2 a2 h hk ih =>
    obtain ⟨kind', data', kids', o', i1', o1', a1', i2', o2', a2'⟩ := b
    have hkids := run70 Tg.cells cells_len 23 (by decide) (by decide) Tg.same kids kids' h (fun x hx y => ih x hx y)
    rw [cells_mk, cells_mk, same_mk]
    refine callV_ret tr23 ?_
    cases h1 : (kind == kind') <;> cases h2 : (data == data') <;> cases h3 : (o == o' && (i1 == i1' && o1 == o1' && a1 == a1') && (i2 == i2' && o2 == o2' && a2 == a2')) <;>
      simp only [c23, byteP, h1, h2, h3, u8_eq, DrwE_nil, DrwE_plain, DrwE_guard, GdE_true, GdE_false, DcE_q, DcE_push, DcE_rd, drdE, dcallE, Ex_seq, Ex_reg, Ex_ret, Ex_skip, Ex_exit, Ex_block, Ex_cond', condE_true, condE_false, loopQ_nrm, loopQ_ret, loopQ_ext, blockQ_nrm, blockQ_ret, blockQ_ext, OpsE_plain, OpsE_guard, OpsE_nil, GuE_true, GuE_false, guardD, act, callA, ev, upd, putE, AcE_q, AcE_push, AcE_rd', AcE_wr', rdE, wrE, initE, thenQ_nrm, thenQ_ret, thenQ_ext, retQ, qo_s, convD, D.slc, unBytes_bytesP, bytesP_length, binD, scD, blD, scBin, blBin, strBin, intBin, ressD, mapO, resD, D.frz, frzL, frz_cells, D.closed, closedL, closed_cells, mkV_true, gt0, gtk, st0, stk, List.append_assoc, List.length_append, D.fits, D.cells, partD, mkV_false, setAt, iadD, asI, List.map_cons, List.map_nil, List.getElem?_cons_zero, List.getElem?_cons_succ, List.getElem?_nil, List.length_cons, List.length_nil, List.drop_succ_cons, List.drop_zero, List.take_succ_cons, List.take_zero, List.nil_append, List.cons_append, List.set_cons_zero, List.set_cons_succ, Nat.reduceAdd, Nat.reduceLeDiff, Nat.reduceEqDiff, Nat.reduceBEq, beq_iff_eq, reduceCtorEq, ↓reduceIte, Option.map_some, Option.some.injEq, Bool.true_and, Bool.false_and, Bool.and_true, Bool.and_self, Bool.and_false, Bool.or_self, Bool.false_eq_true, b_ff, b_ft, b_tf, b_tt, Bool.not_true, Bool.not_false, BEq.rfl, decide_true, decide_false, Nat.le_refl, callE, zD, snilD, inilD, tasD, fnilD, AcE_tp, AcE_tw, twE, DcE_tp, appD, appSrc, fillD, fillP, D.pcells, cellPure, thenQ_pan, blockQ_pan, loopQ_pan, cntQ_nrm, cntQ_ret, cntQ_ext, cntQ_pan, indQ_nrm, indQ_ret, indQ_ext, indQ_pan, resQ, panQ_pan, rawQ, unD, and_self, and_true, true_and, not_true_eq_false, not_false_eq_true, orcA, AcE_call, run68, run69, hkids]
end Go.Proofs.YthglfhnlolefhaaGreatDoor

end
section
/- The compiled code of functions 22 67 112 17 53 54, printed by a program; each is what the compiler 'trFn' gives. -/
set_option maxRecDepth 100000
namespace Go.Proofs.YthglfhnlolefhaaGreatDoor
open Go.Abs
def c22L0 : ACode := (.seq (.reg [⟨(some 41), none, (.bin .lss .sc (.t 40) (.t 39))⟩]) (.seq (.cond (.t 41) .skip (.exit 0)) (.seq (.block 1 (.seq (.reg [⟨(some 42), none, (.mv (.t 40))⟩, ⟨(some 5), none, (.mv (.t 42))⟩]) (.seq (.drw [⟨(some 43), none, (.fad 2 (.t 2))⟩, ⟨(some 44), none, (.load false 1 (.t 43))⟩, ⟨(some 45), none, (.mv (.t 5))⟩, ⟨(some 46), none, (.iad (.sl 10) (.t 44) (.t 45))⟩, ⟨(some 47), none, (.load true 10 (.t 46))⟩, ⟨(some 48), none, (.fad 2 (.t 3))⟩, ⟨(some 49), none, (.load false 1 (.t 48))⟩, ⟨(some 50), none, (.mv (.t 5))⟩, ⟨(some 51), none, (.iad (.sl 10) (.t 49) (.t 50))⟩, ⟨(some 52), none, (.load true 10 (.t 51))⟩, ⟨(some 53), none, (.call 22 [(.t 47), (.t 52)])⟩, ⟨(some 54), none, (.un .not (.t 53))⟩] [(0, 2), (1, 2), (0, 3), (0, 4), (1, 4), (2, 4), (0, 5), (1, 5), (2, 5), (3, 5), (4, 5), (0, 6), (1, 6), (2, 6), (3, 6), (4, 6), (0, 7), (1, 7), (2, 7), (3, 7), (4, 7), (5, 7), (6, 7), (0, 8), (1, 8), (2, 8), (3, 8), (4, 8), (5, 8), (0, 9), (1, 9), (2, 9), (3, 9), (4, 9), (5, 9), (6, 9), (7, 9), (0, 10), (1, 10), (2, 10), (3, 10), (5, 10), (6, 10), (7, 10), (8, 10), (0, 11), (1, 11), (2, 11), (3, 11), (4, 11), (5, 11), (6, 11), (7, 11), (8, 11), (9, 11)]) (.cond (.t 54) (.seq (.reg [⟨(some 4), none, (.mv (.k (.c (.v (.bool false)))))⟩]) .ret) .skip)))) (.reg [⟨(some 55), none, (.bin .add .sc (.t 40) (.k (.c (.v (.int .i64 1)))))⟩, ⟨(some 40), none, (.mv (.t 55))⟩]))))
def c22 : AFn := ⟨56, [(.t 4)], (.seq (.reg [⟨(some 2), none, (.box 34 10 (.t 0))⟩, ⟨(some 3), none, (.box 34 10 (.t 1))⟩, ⟨(some 4), none, (.mv (.k (.c (.v (.bool false)))))⟩]) (.seq (.seq (.reg [⟨(some 6), none, (.fad 0 (.t 2))⟩, ⟨(some 7), none, (.load false 1 (.t 6))⟩, ⟨(some 8), none, (.fad 0 (.t 3))⟩, ⟨(some 9), none, (.load false 1 (.t 8))⟩, ⟨(some 10), none, (.bin .neq .sc (.t 7) (.t 9))⟩, ⟨(some 11), none, (.mv (.t 10))⟩, ⟨(some 12), (some (11, false)), (.fad 1 (.t 2))⟩, ⟨(some 13), (some (11, false)), (.load false 1 (.t 12))⟩, ⟨(some 14), (some (11, false)), (.conv .b2s (.t 13))⟩, ⟨(some 15), (some (11, false)), (.fad 1 (.t 3))⟩, ⟨(some 16), (some (11, false)), (.load false 1 (.t 15))⟩, ⟨(some 17), (some (11, false)), (.conv .b2s (.t 16))⟩, ⟨(some 18), (some (11, false)), (.bin .neq .sc (.t 14) (.t 17))⟩, ⟨(some 19), none, (.pick (.t 11) (.k (.c (.v (.bool true)))) (.t 18))⟩, ⟨(some 20), none, (.mv (.t 19))⟩, ⟨(some 21), (some (20, false)), (.fad 3 (.t 2))⟩, ⟨(some 22), (some (20, false)), (.load true 7 (.t 21))⟩, ⟨(some 23), (some (20, false)), (.fad 3 (.t 3))⟩, ⟨(some 24), (some (20, false)), (.load true 7 (.t 23))⟩, ⟨(some 25), (some (20, false)), (.call 67 [(.t 22), (.t 24)])⟩, ⟨(some 26), (some (20, false)), (.un .not (.t 25))⟩, ⟨(some 27), none, (.pick (.t 20) (.k (.c (.v (.bool true)))) (.t 26))⟩, ⟨(some 28), none, (.mv (.t 27))⟩, ⟨(some 29), (some (28, false)), (.fad 2 (.t 2))⟩, ⟨(some 30), (some (28, false)), (.load false 1 (.t 29))⟩, ⟨(some 31), (some (28, false)), (.len .sl (.t 30))⟩, ⟨(some 32), (some (28, false)), (.fad 2 (.t 3))⟩, ⟨(some 33), (some (28, false)), (.load false 1 (.t 32))⟩, ⟨(some 34), (some (28, false)), (.len .sl (.t 33))⟩, ⟨(some 35), (some (28, false)), (.bin .neq .sc (.t 31) (.t 34))⟩, ⟨(some 36), none, (.pick (.t 28) (.k (.c (.v (.bool true)))) (.t 35))⟩]) (.cond (.t 36) (.seq (.reg [⟨(some 4), none, (.mv (.k (.c (.v (.bool false)))))⟩]) .ret) .skip)) (.seq (.seq (.reg [⟨(some 37), none, (.fad 2 (.t 2))⟩, ⟨(some 38), none, (.load false 1 (.t 37))⟩, ⟨(some 39), none, (.len .sl (.t 38))⟩, ⟨(some 40), none, (.mv (.k (.c (.v (.int .i64 0)))))⟩]) (.block 0 (.loop c22L0))) (.seq (.reg [⟨(some 4), none, (.mv (.k (.c (.v (.bool true)))))⟩]) .ret))))⟩
theorem tr22 : trFn Tryz.prog 22 = some c22 := by kernel_rfl
def c67 : AFn := ⟨24, [(.t 4)], (.seq (.reg [⟨(some 2), none, (.box 32 7 (.t 0))⟩, ⟨(some 3), none, (.box 32 7 (.t 1))⟩, ⟨(some 4), none, (.mv (.k (.c (.v (.bool false)))))⟩]) (.seq (.reg [⟨(some 5), none, (.fad 0 (.t 2))⟩, ⟨(some 6), none, (.load false 1 (.t 5))⟩, ⟨(some 7), none, (.fad 0 (.t 3))⟩, ⟨(some 8), none, (.load false 1 (.t 7))⟩, ⟨(some 9), none, (.bin .eql .sc (.t 6) (.t 8))⟩, ⟨(some 10), none, (.mv (.t 9))⟩, ⟨(some 11), (some (10, true)), (.fad 1 (.t 2))⟩, ⟨(some 12), (some (10, true)), (.load true 3 (.t 11))⟩, ⟨(some 13), (some (10, true)), (.fad 1 (.t 3))⟩, ⟨(some 14), (some (10, true)), (.load true 3 (.t 13))⟩, ⟨(some 15), (some (10, true)), (.call 112 [(.t 12), (.t 14)])⟩, ⟨(some 16), none, (.pick (.t 10) (.t 15) (.k (.c (.v (.bool false)))))⟩, ⟨(some 17), none, (.mv (.t 16))⟩, ⟨(some 18), (some (17, true)), (.fad 4 (.t 2))⟩, ⟨(some 19), (some (17, true)), (.load true 3 (.t 18))⟩, ⟨(some 20), (some (17, true)), (.fad 4 (.t 3))⟩, ⟨(some 21), (some (17, true)), (.load true 3 (.t 20))⟩, ⟨(some 22), (some (17, true)), (.call 112 [(.t 19), (.t 21)])⟩, ⟨(some 23), none, (.pick (.t 17) (.t 22) (.k (.c (.v (.bool false)))))⟩, ⟨(some 4), none, (.mv (.t 23))⟩]) .ret))⟩
theorem tr67 : trFn Tryz.prog 67 = some c67 := by kernel_rfl
def c112 : AFn := ⟨26, [(.t 4)], (.seq (.reg [⟨(some 2), none, (.box 30 3 (.t 0))⟩, ⟨(some 3), none, (.box 30 3 (.t 1))⟩, ⟨(some 4), none, (.mv (.k (.c (.v (.bool false)))))⟩]) (.seq (.reg [⟨(some 5), none, (.fad 0 (.t 2))⟩, ⟨(some 6), none, (.load false 1 (.t 5))⟩, ⟨(some 7), none, (.fad 0 (.t 3))⟩, ⟨(some 8), none, (.load false 1 (.t 7))⟩, ⟨(some 9), none, (.bin .eql .bl (.t 6) (.t 8))⟩, ⟨(some 10), none, (.mv (.t 9))⟩, ⟨(some 11), (some (10, true)), (.fad 1 (.t 2))⟩, ⟨(some 12), (some (10, true)), (.load false 1 (.t 11))⟩, ⟨(some 13), (some (10, true)), (.fad 1 (.t 3))⟩, ⟨(some 14), (some (10, true)), (.load false 1 (.t 13))⟩, ⟨(some 15), (some (10, true)), (.bin .eql .bl (.t 12) (.t 14))⟩, ⟨(some 16), none, (.pick (.t 10) (.t 15) (.k (.c (.v (.bool false)))))⟩, ⟨(some 17), none, (.mv (.t 16))⟩, ⟨(some 18), (some (17, true)), (.fad 2 (.t 2))⟩, ⟨(some 19), (some (17, true)), (.load false 1 (.t 18))⟩, ⟨(some 20), (some (17, true)), (.conv .b2s (.t 19))⟩, ⟨(some 21), (some (17, true)), (.fad 2 (.t 3))⟩, ⟨(some 22), (some (17, true)), (.load false 1 (.t 21))⟩, ⟨(some 23), (some (17, true)), (.conv .b2s (.t 22))⟩, ⟨(some 24), (some (17, true)), (.bin .eql .sc (.t 20) (.t 23))⟩, ⟨(some 25), none, (.pick (.t 17) (.t 24) (.k (.c (.v (.bool false)))))⟩, ⟨(some 4), none, (.mv (.t 25))⟩]) .ret))⟩
theorem tr112 : trFn Tryz.prog 112 = some c112 := by kernel_rfl
def c17L0 : ACode := (.seq (.reg [⟨(some 29), none, (.bin .lss .sc (.t 28) (.t 27))⟩]) (.seq (.cond (.t 29) .skip (.exit 0)) (.seq (.block 1 (.seq (.reg [⟨(some 30), none, (.mv (.t 28))⟩, ⟨(some 5), none, (.mv (.t 30))⟩]) (.seq (.reg [⟨(some 31), none, (.fad 2 (.t 2))⟩, ⟨(some 32), none, (.load false 1 (.t 31))⟩, ⟨(some 33), none, (.mv (.t 5))⟩, ⟨(some 34), none, (.iad (.sl 10) (.t 32) (.t 33))⟩, ⟨(some 35), none, (.load true 10 (.t 34))⟩, ⟨(some 36), none, (.mv (.t 1))⟩, ⟨(some 37), none, (.bin .add .sc (.t 36) (.k (.c (.v (.int .i64 1)))))⟩, ⟨(some 38), none, (.call 17 [(.t 35), (.t 37)])⟩]) (.cond (.t 38) (.seq (.reg [⟨(some 4), none, (.mv (.k (.c (.v (.bool true)))))⟩]) .ret) .skip)))) (.reg [⟨(some 39), none, (.bin .add .sc (.t 28) (.k (.c (.v (.int .i64 1)))))⟩, ⟨(some 28), none, (.mv (.t 39))⟩]))))
def c17 : AFn := ⟨47, [(.t 4)], (.seq (.reg [⟨(some 2), none, (.box 34 10 (.t 0))⟩, ⟨(some 4), none, (.mv (.k (.c (.v (.bool false)))))⟩]) (.seq (.seq (.reg [⟨(some 6), none, (.mv (.t 1))⟩, ⟨(some 7), none, (.bin .gtr .sc (.t 6) (.k (.c (.v (.int .i64 60)))))⟩, ⟨(some 8), none, (.mv (.t 7))⟩, ⟨(some 9), (some (8, false)), (.fad 2 (.t 2))⟩, ⟨(some 10), (some (8, false)), (.load false 1 (.t 9))⟩, ⟨(some 11), (some (8, false)), (.len .sl (.t 10))⟩, ⟨(some 12), (some (8, false)), (.bin .gtr .sc (.t 11) (.k (.c (.v (.int .i64 700)))))⟩, ⟨(some 13), none, (.pick (.t 8) (.k (.c (.v (.bool true)))) (.t 12))⟩, ⟨(some 14), none, (.mv (.t 13))⟩, ⟨(some 15), (some (14, false)), (.fad 1 (.t 2))⟩, ⟨(some 16), (some (14, false)), (.load false 1 (.t 15))⟩, ⟨(some 17), (some (14, false)), (.len .sl (.t 16))⟩, ⟨(some 18), (some (14, false)), (.bin .gtr .sc (.t 17) (.k (.c (.v (.int .i64 5000)))))⟩, ⟨(some 19), none, (.pick (.t 14) (.k (.c (.v (.bool true)))) (.t 18))⟩, ⟨(some 20), none, (.mv (.t 19))⟩, ⟨(some 21), (some (20, false)), (.fad 3 (.t 2))⟩, ⟨(some 22), (some (20, false)), (.load true 7 (.t 21))⟩, ⟨(some 23), (some (20, false)), (.call 53 [(.t 22)])⟩, ⟨(some 24), none, (.pick (.t 20) (.k (.c (.v (.bool true)))) (.t 23))⟩]) (.cond (.t 24) (.seq (.reg [⟨(some 4), none, (.mv (.k (.c (.v (.bool true)))))⟩]) .ret) .skip)) (.seq (.seq (.reg [⟨(some 25), none, (.fad 2 (.t 2))⟩, ⟨(some 26), none, (.load false 1 (.t 25))⟩, ⟨(some 27), none, (.len .sl (.t 26))⟩, ⟨(some 28), none, (.mv (.k (.c (.v (.int .i64 0)))))⟩]) (.block 0 (.loop c17L0))) (.seq (.reg [⟨(some 40), none, (.mv (.t 1))⟩, ⟨(some 41), none, (.bin .eql .sc (.t 40) (.k (.c (.v (.int .i64 0)))))⟩, ⟨(some 42), none, (.mv (.t 41))⟩, ⟨(some 43), (some (42, true)), (.load true 10 (.t 2))⟩, ⟨(some 44), (some (42, true)), (.call 54 [(.t 43)])⟩, ⟨(some 45), (some (42, true)), (.bin .gtr .sc (.t 44) (.k (.c (.v (.int .i64 1000)))))⟩, ⟨(some 46), none, (.pick (.t 42) (.t 45) (.k (.c (.v (.bool false)))))⟩, ⟨(some 4), none, (.mv (.t 46))⟩]) .ret))))⟩
theorem tr17 : trFn Tryz.prog 17 = some c17 := by kernel_rfl
def c53 : AFn := ⟨15, [(.t 2)], (.seq (.reg [⟨(some 1), none, (.box 32 7 (.t 0))⟩, ⟨(some 2), none, (.mv (.k (.c (.v (.bool false)))))⟩]) (.seq (.reg [⟨(some 3), none, (.fad 1 (.t 1))⟩, ⟨(some 4), none, (.fad 2 (.t 3))⟩, ⟨(some 5), none, (.load false 1 (.t 4))⟩, ⟨(some 6), none, (.len .sl (.t 5))⟩, ⟨(some 7), none, (.bin .gtr .sc (.t 6) (.k (.c (.v (.int .i64 200)))))⟩, ⟨(some 8), none, (.mv (.t 7))⟩, ⟨(some 9), (some (8, false)), (.fad 4 (.t 1))⟩, ⟨(some 10), (some (8, false)), (.fad 2 (.t 9))⟩, ⟨(some 11), (some (8, false)), (.load false 1 (.t 10))⟩, ⟨(some 12), (some (8, false)), (.len .sl (.t 11))⟩, ⟨(some 13), (some (8, false)), (.bin .gtr .sc (.t 12) (.k (.c (.v (.int .i64 200)))))⟩, ⟨(some 14), none, (.pick (.t 8) (.k (.c (.v (.bool true)))) (.t 13))⟩, ⟨(some 2), none, (.mv (.t 14))⟩]) .ret))⟩
theorem tr53 : trFn Tryz.prog 53 = some c53 := by kernel_rfl
def c54L0 : ACode := (.seq (.reg [⟨(some 9), none, (.bin .lss .sc (.t 8) (.t 7))⟩]) (.seq (.cond (.t 9) .skip (.exit 0)) (.seq (.block 1 (.seq (.reg [⟨(some 10), none, (.mv (.t 8))⟩, ⟨(some 4), none, (.mv (.t 10))⟩]) (.reg [⟨(some 11), none, (.mv (.t 3))⟩, ⟨(some 12), none, (.fad 2 (.t 1))⟩, ⟨(some 13), none, (.load false 1 (.t 12))⟩, ⟨(some 14), none, (.mv (.t 4))⟩, ⟨(some 15), none, (.iad (.sl 10) (.t 13) (.t 14))⟩, ⟨(some 16), none, (.load true 10 (.t 15))⟩, ⟨(some 17), none, (.call 54 [(.t 16)])⟩, ⟨(some 18), none, (.bin .add .sc (.t 11) (.t 17))⟩, ⟨(some 3), none, (.mv (.t 18))⟩]))) (.reg [⟨(some 19), none, (.bin .add .sc (.t 8) (.k (.c (.v (.int .i64 1)))))⟩, ⟨(some 8), none, (.mv (.t 19))⟩]))))
def c54 : AFn := ⟨21, [(.t 2)], (.seq (.reg [⟨(some 1), none, (.box 34 10 (.t 0))⟩, ⟨(some 2), none, (.mv (.k (.c (.v (.int .i64 0)))))⟩]) (.seq (.reg [⟨(some 3), none, (.mv (.k (.c (.v (.int .i64 1)))))⟩]) (.seq (.seq (.reg [⟨(some 5), none, (.fad 2 (.t 1))⟩, ⟨(some 6), none, (.load false 1 (.t 5))⟩, ⟨(some 7), none, (.len .sl (.t 6))⟩, ⟨(some 8), none, (.mv (.k (.c (.v (.int .i64 0)))))⟩]) (.block 0 (.loop c54L0))) (.seq (.reg [⟨(some 20), none, (.mv (.t 3))⟩, ⟨(some 2), none, (.mv (.t 20))⟩]) .ret))))⟩
theorem tr54 : trFn Tryz.prog 54 = some c54 := by kernel_rfl
end Go.Proofs.YthglfhnlolefhaaGreatDoor

end
section
/- Own: greffierref12.Same, on pure data. -/
set_option linter.unusedSimpArgs false
set_option linter.unusedVariables false
namespace Go.Proofs.YthglfhnlolefhaaGreatDoor
open Go.Abs
set_option maxHeartbeats 1000000 in
theorem run112 (i1 i2 o1 o2 : Bool) (a1 a2 : List UInt8) : callV orcA F 112 [.ag [boD i1, boD o1, byD a1], .ag [boD i2, boD o2, byD a2]] = some (.ret (boD (i1 == i2 && o1 == o2 && a1 == a2))) := by
  refine callV_ret tr112 ?_
  cases hi : (i1 == i2) <;> cases ho : (o1 == o2) <;> simp only [c112, hi, ho, toList_mk, DrwE_nil, DrwE_plain, DrwE_guard, GdE_true, GdE_false, DcE_q, DcE_push, DcE_rd, drdE, dcallE, Ex_seq, Ex_reg, Ex_ret, Ex_skip, Ex_exit, Ex_block, Ex_cond', condE_true, condE_false, loopQ_nrm, loopQ_ret, loopQ_ext, blockQ_nrm, blockQ_ret, blockQ_ext, OpsE_plain, OpsE_guard, OpsE_nil, GuE_true, GuE_false, guardD, act, callA, ev, upd, putE, AcE_q, AcE_push, AcE_rd', AcE_wr', rdE, wrE, initE, thenQ_nrm, thenQ_ret, thenQ_ext, retQ, qo_s, convD, D.slc, unBytes_bytesP, bytesP_length, binD, scD, blD, scBin, blBin, strBin, intBin, ressD, mapO, resD, D.frz, frzL, frz_cells, D.closed, closedL, closed_cells, mkV_true, gt0, gtk, st0, stk, List.append_assoc, List.length_append, D.fits, D.cells, partD, mkV_false, setAt, iadD, asI, List.map_cons, List.map_nil, List.getElem?_cons_zero, List.getElem?_cons_succ, List.getElem?_nil, List.length_cons, List.length_nil, List.drop_succ_cons, List.drop_zero, List.take_succ_cons, List.take_zero, List.nil_append, List.cons_append, List.set_cons_zero, List.set_cons_succ, Nat.reduceAdd, Nat.reduceLeDiff, Nat.reduceEqDiff, Nat.reduceBEq, beq_iff_eq, reduceCtorEq, ↓reduceIte, Option.map_some, Option.some.injEq, Bool.true_and, Bool.false_and, Bool.and_true, Bool.and_self, Bool.and_false, Bool.or_self, Bool.false_eq_true, b_ff, b_ft, b_tf, b_tt, Bool.not_true, Bool.not_false, BEq.rfl, decide_true, decide_false, Nat.le_refl, callE, zD, snilD, inilD, tasD, fnilD, AcE_tp, AcE_tw, twE, DcE_tp, appD, appSrc, fillD, fillP, D.pcells, cellPure, thenQ_pan, blockQ_pan, loopQ_pan, cntQ_nrm, cntQ_ret, cntQ_ext, cntQ_pan, indQ_nrm, indQ_ret, indQ_ext, indQ_pan, resQ, panQ_pan, rawQ, unD, and_self, and_true, true_and, not_true_eq_false, not_false_eq_true, orcA, AcE_call, run68]
set_option maxHeartbeats 1000000 in
theorem run67 (m1 m2 : Int) (i1 i2 o1 o2 j1 j2 p1 p2 : Bool) (a1 a2 b1 b2 : List UInt8) :
    callV orcA F 67 [.ag [u8D m1, boD i1, boD o1, byD a1, boD j1, boD p1, byD b1], .ag [u8D m2, boD i2, boD o2, byD a2, boD j2, boD p2, byD b2]] =
      some (.ret (boD (m1 == m2 && (i1 == i2 && o1 == o2 && a1 == a2) && (j1 == j2 && p1 == p2 && b1 == b2)))) := by
  refine callV_ret tr67 ?_
  cases hm : (m1 == m2) <;> cases hb : (i1 == i2 && o1 == o2 && a1 == a2) <;> simp only [c67, hm, hb, DrwE_nil, DrwE_plain, DrwE_guard, GdE_true, GdE_false, DcE_q, DcE_push, DcE_rd, drdE, dcallE, Ex_seq, Ex_reg, Ex_ret, Ex_skip, Ex_exit, Ex_block, Ex_cond', condE_true, condE_false, loopQ_nrm, loopQ_ret, loopQ_ext, blockQ_nrm, blockQ_ret, blockQ_ext, OpsE_plain, OpsE_guard, OpsE_nil, GuE_true, GuE_false, guardD, act, callA, ev, upd, putE, AcE_q, AcE_push, AcE_rd', AcE_wr', rdE, wrE, initE, thenQ_nrm, thenQ_ret, thenQ_ext, retQ, qo_s, convD, D.slc, unBytes_bytesP, bytesP_length, binD, scD, blD, scBin, blBin, strBin, intBin, ressD, mapO, resD, D.frz, frzL, frz_cells, D.closed, closedL, closed_cells, mkV_true, gt0, gtk, st0, stk, List.append_assoc, List.length_append, D.fits, D.cells, partD, mkV_false, setAt, iadD, asI, List.map_cons, List.map_nil, List.getElem?_cons_zero, List.getElem?_cons_succ, List.getElem?_nil, List.length_cons, List.length_nil, List.drop_succ_cons, List.drop_zero, List.take_succ_cons, List.take_zero, List.nil_append, List.cons_append, List.set_cons_zero, List.set_cons_succ, Nat.reduceAdd, Nat.reduceLeDiff, Nat.reduceEqDiff, Nat.reduceBEq, beq_iff_eq, reduceCtorEq, ↓reduceIte, Option.map_some, Option.some.injEq, Bool.true_and, Bool.false_and, Bool.and_true, Bool.and_self, Bool.and_false, Bool.or_self, Bool.false_eq_true, b_ff, b_ft, b_tf, b_tt, Bool.not_true, Bool.not_false, BEq.rfl, decide_true, decide_false, Nat.le_refl, callE, zD, snilD, inilD, tasD, fnilD, AcE_tp, AcE_tw, twE, DcE_tp, appD, appSrc, fillD, fillP, D.pcells, cellPure, thenQ_pan, blockQ_pan, loopQ_pan, cntQ_nrm, cntQ_ret, cntQ_ext, cntQ_pan, indQ_nrm, indQ_ret, indQ_ext, indQ_pan, resQ, panQ_pan, rawQ, unD, and_self, and_true, true_and, not_true_eq_false, not_false_eq_true, orcA, AcE_call, run112]

theorem loop22 (k1 k2 : List Tg) (hlen : k1.length = k2.length) (hbd : k1.length < 2 ^ 62) (r1 r2 : List D) (d1 d2 e1 e2 : D)
    (hf : ∀ x ∈ k1, ∀ y, callV orcA F 22 [.ag (x.cells.map .c), .ag (y.cells.map .c)] = some (.ret (boD (x.same y)))) (Q : Out → St → Prop) : ∀ (m i : Nat) (s : St), i + m = k1.length → s.T = [] →
    s.V = [⟨34, false, false, d1 :: e1 :: .c (.sl k1.length (k1.flatMap Tg.cells)) :: r1⟩, ⟨34, false, false, d2 :: e2 :: .c (.sl k2.length (k2.flatMap Tg.cells)) :: r2⟩] →
    s.e 2 = .mp 0 0 → s.e 3 = .mp 1 0 → s.e 39 = inD k1.length → s.e 40 = inD i →
    (((k1.drop i).zip (k2.drop i)).all (fun p => p.1.same p.2) = true → ∀ s', Q (.ext 0) s') → (((k1.drop i).zip (k2.drop i)).all (fun p => p.1.same p.2) = false → ∀ s', s'.e 4 = boD false → Q .ret s') →
    Ex orcA F (.loop c22L0) s Q
  | 0, i, s, hi, hT, hV, h2, h3, h39, h40, hq1, hq2 => by
    have hd : decide ((i : Int) < (k1.length : Int)) = false := by simp; omega
    rw [Ex_loop]
    simp only [c22L0, h2, h3, h39, h40, hd, DrwE_nil, DrwE_plain, DrwE_guard, GdE_true, GdE_false, DcE_q, DcE_push, DcE_rd, drdE, dcallE, Ex_seq, Ex_reg, Ex_ret, Ex_skip, Ex_exit, Ex_block, Ex_cond', condE_true, condE_false, loopQ_nrm, loopQ_ret, loopQ_ext, blockQ_nrm, blockQ_ret, blockQ_ext, OpsE_plain, OpsE_guard, OpsE_nil, GuE_true, GuE_false, guardD, act, callA, ev, upd, putE, AcE_q, AcE_push, AcE_rd', AcE_wr', rdE, wrE, initE, thenQ_nrm, thenQ_ret, thenQ_ext, retQ, qo_s, convD, D.slc, unBytes_bytesP, bytesP_length, binD, scD, blD, scBin, blBin, strBin, intBin, ressD, mapO, resD, D.frz, frzL, frz_cells, D.closed, closedL, closed_cells, mkV_true, gt0, gtk, st0, stk, List.append_assoc, List.length_append, D.fits, D.cells, partD, mkV_false, setAt, iadD, asI, List.map_cons, List.map_nil, List.getElem?_cons_zero, List.getElem?_cons_succ, List.getElem?_nil, List.length_cons, List.length_nil, List.drop_succ_cons, List.drop_zero, List.take_succ_cons, List.take_zero, List.nil_append, List.cons_append, List.set_cons_zero, List.set_cons_succ, Nat.reduceAdd, Nat.reduceLeDiff, Nat.reduceEqDiff, Nat.reduceBEq, beq_iff_eq, reduceCtorEq, ↓reduceIte, Option.map_some, Option.some.injEq, Bool.true_and, Bool.false_and, Bool.and_true, Bool.and_self, Bool.and_false, Bool.or_self, Bool.false_eq_true, b_ff, b_ft, b_tf, b_tt, Bool.not_true, Bool.not_false, BEq.rfl, decide_true, decide_false, Nat.le_refl, callE, zD, snilD, inilD, tasD, fnilD, AcE_tp, AcE_tw, twE, DcE_tp, appD, appSrc, fillD, fillP, D.pcells, cellPure, thenQ_pan, blockQ_pan, loopQ_pan, cntQ_nrm, cntQ_ret, cntQ_ext, cntQ_pan, indQ_nrm, indQ_ret, indQ_ext, indQ_pan, resQ, panQ_pan, rawQ, unD, and_self, and_true, true_and, not_true_eq_false, not_false_eq_true, orcA]
    refine hq1 ?_ _
    rw [List.drop_eq_nil_of_le (by omega)]
    rfl
  | m + 1, i, s, hi, hT, hV, h2, h3, h39, h40, hq1, hq2 => by
    have hlt : i < k1.length := by omega
    have hd : decide ((i : Int) < (k1.length : Int)) = true := by simp; omega
    obtain ⟨x, hx⟩ : ∃ x, k1[i]? = some x := ⟨_, List.getElem?_eq_getElem hlt⟩
    obtain ⟨y, hy⟩ : ∃ y, k2[i]? = some y := ⟨_, List.getElem?_eq_getElem (by omega)⟩
    have hr1 : (0 ≤ (i : Int) ∧ (i : Int) < (k1.length : Int)) = True := by simp; omega
    have hr2 : (0 ≤ (i : Int) ∧ (i : Int) < (k2.length : Int)) = True := by simp; omega
    obtain ⟨x1, x2⟩ := seg_at cells_len hx
    obtain ⟨y1, y2⟩ := seg_at cells_len hy
    have hfx := hf x (List.mem_of_getElem? hx) y
    have hzip : ((k1.drop i).zip (k2.drop i)).all (fun p => p.1.same p.2) = (x.same y && ((k1.drop (i + 1)).zip (k2.drop (i + 1))).all (fun p => p.1.same p.2)) := by
      obtain ⟨g1, rfl⟩ := List.getElem?_eq_some_iff.1 hx
      obtain ⟨g2, rfl⟩ := List.getElem?_eq_some_iff.1 hy
      rw [List.drop_eq_getElem_cons g1, List.drop_eq_getElem_cons g2]
      rfl
    have hw : IntKind.i64.wrap ((i : Int) + 1) = ((i + 1 : Nat) : Int) := wrap_i64 (by omega) (by omega)
    rw [Ex_loop]
    generalize hQ : loopQ orcA F c22L0 Q = Q'
    cases hE : x.same y with
    | true =>
      simp only [c22L0, hV, h2, h3, h39, h40, hd, hr1, hr2, x1, x2, y1, y2, hfx, hE, List.length_map, Int.toNat_natCast, unD, DrwE_nil, DrwE_plain, DrwE_guard, GdE_true, GdE_false, DcE_q, DcE_push, DcE_rd, drdE, dcallE, Ex_seq, Ex_reg, Ex_ret, Ex_skip, Ex_exit, Ex_block, Ex_cond', condE_true, condE_false, loopQ_nrm, loopQ_ret, loopQ_ext, blockQ_nrm, blockQ_ret, blockQ_ext, OpsE_plain, OpsE_guard, OpsE_nil, GuE_true, GuE_false, guardD, act, callA, ev, upd, putE, AcE_q, AcE_push, AcE_rd', AcE_wr', rdE, wrE, initE, thenQ_nrm, thenQ_ret, thenQ_ext, retQ, qo_s, convD, D.slc, unBytes_bytesP, bytesP_length, binD, scD, blD, scBin, blBin, strBin, intBin, ressD, mapO, resD, D.frz, frzL, frz_cells, D.closed, closedL, closed_cells, mkV_true, gt0, gtk, st0, stk, List.append_assoc, List.length_append, D.fits, D.cells, partD, mkV_false, setAt, iadD, asI, List.map_cons, List.map_nil, List.getElem?_cons_zero, List.getElem?_cons_succ, List.getElem?_nil, List.length_cons, List.length_nil, List.drop_succ_cons, List.drop_zero, List.take_succ_cons, List.take_zero, List.nil_append, List.cons_append, List.set_cons_zero, List.set_cons_succ, Nat.reduceAdd, Nat.reduceLeDiff, Nat.reduceEqDiff, Nat.reduceBEq, beq_iff_eq, reduceCtorEq, ↓reduceIte, Option.map_some, Option.some.injEq, Bool.true_and, Bool.false_and, Bool.and_true, Bool.and_self, Bool.and_false, Bool.or_self, Bool.false_eq_true, b_ff, b_ft, b_tf, b_tt, Bool.not_true, Bool.not_false, BEq.rfl, decide_true, decide_false, Nat.le_refl, callE, zD, snilD, inilD, tasD, fnilD, AcE_tp, AcE_tw, twE, DcE_tp, appD, appSrc, fillD, fillP, D.pcells, cellPure, thenQ_pan, blockQ_pan, loopQ_pan, cntQ_nrm, cntQ_ret, cntQ_ext, cntQ_pan, indQ_nrm, indQ_ret, indQ_ext, indQ_pan, resQ, panQ_pan, rawQ, unD, and_self, and_true, true_and, not_true_eq_false, not_false_eq_true, orcA, AcE_call, DcE_call]
      refine Ex_drw' ?_
      simp only [c22L0, hV, h2, h3, h39, h40, hd, hr1, hr2, x1, x2, y1, y2, hfx, hE, List.length_map, Int.toNat_natCast, unD, DrwE_nil, DrwE_plain, DrwE_guard, GdE_true, GdE_false, DcE_q, DcE_push, DcE_rd, drdE, dcallE, Ex_seq, Ex_reg, Ex_ret, Ex_skip, Ex_exit, Ex_block, Ex_cond', condE_true, condE_false, loopQ_nrm, loopQ_ret, loopQ_ext, blockQ_nrm, blockQ_ret, blockQ_ext, OpsE_plain, OpsE_guard, OpsE_nil, GuE_true, GuE_false, guardD, act, callA, ev, upd, putE, AcE_q, AcE_push, AcE_rd', AcE_wr', rdE, wrE, initE, thenQ_nrm, thenQ_ret, thenQ_ext, retQ, qo_s, convD, D.slc, unBytes_bytesP, bytesP_length, binD, scD, blD, scBin, blBin, strBin, intBin, ressD, mapO, resD, D.frz, frzL, frz_cells, D.closed, closedL, closed_cells, mkV_true, gt0, gtk, st0, stk, List.append_assoc, List.length_append, D.fits, D.cells, partD, mkV_false, setAt, iadD, asI, List.map_cons, List.map_nil, List.getElem?_cons_zero, List.getElem?_cons_succ, List.getElem?_nil, List.length_cons, List.length_nil, List.drop_succ_cons, List.drop_zero, List.take_succ_cons, List.take_zero, List.nil_append, List.cons_append, List.set_cons_zero, List.set_cons_succ, Nat.reduceAdd, Nat.reduceLeDiff, Nat.reduceEqDiff, Nat.reduceBEq, beq_iff_eq, reduceCtorEq, ↓reduceIte, Option.map_some, Option.some.injEq, Bool.true_and, Bool.false_and, Bool.and_true, Bool.and_self, Bool.and_false, Bool.or_self, Bool.false_eq_true, b_ff, b_ft, b_tf, b_tt, Bool.not_true, Bool.not_false, BEq.rfl, decide_true, decide_false, Nat.le_refl, callE, zD, snilD, inilD, tasD, fnilD, AcE_tp, AcE_tw, twE, DcE_tp, appD, appSrc, fillD, fillP, D.pcells, cellPure, thenQ_pan, blockQ_pan, loopQ_pan, cntQ_nrm, cntQ_ret, cntQ_ext, cntQ_pan, indQ_nrm, indQ_ret, indQ_ext, indQ_pan, resQ, panQ_pan, rawQ, unD, and_self, and_true, true_and, not_true_eq_false, not_false_eq_true, orcA, AcE_call, DcE_call]
      refine ⟨rfl, ?_⟩
      rw [← hQ, loopQ_nrm]
      refine loop22 k1 k2 hlen hbd r1 r2 d1 d2 e1 e2 hf Q m (i + 1) _ (by omega) hT (by simp [hV]) (by simp [upd, h2]) (by simp [upd, h3]) (by simp [upd, h39]) (by simp [upd, hw]) (fun h => hq1 ?_) (fun h => hq2 ?_)
      · rw [hzip, hE, h]; rfl
      · rw [hzip, hE, h]; rfl
    | false =>
      simp only [c22L0, hV, h2, h3, h39, h40, hd, hr1, hr2, x1, x2, y1, y2, hfx, hE, List.length_map, Int.toNat_natCast, unD, DrwE_nil, DrwE_plain, DrwE_guard, GdE_true, GdE_false, DcE_q, DcE_push, DcE_rd, drdE, dcallE, Ex_seq, Ex_reg, Ex_ret, Ex_skip, Ex_exit, Ex_block, Ex_cond', condE_true, condE_false, loopQ_nrm, loopQ_ret, loopQ_ext, blockQ_nrm, blockQ_ret, blockQ_ext, OpsE_plain, OpsE_guard, OpsE_nil, GuE_true, GuE_false, guardD, act, callA, ev, upd, putE, AcE_q, AcE_push, AcE_rd', AcE_wr', rdE, wrE, initE, thenQ_nrm, thenQ_ret, thenQ_ext, retQ, qo_s, convD, D.slc, unBytes_bytesP, bytesP_length, binD, scD, blD, scBin, blBin, strBin, intBin, ressD, mapO, resD, D.frz, frzL, frz_cells, D.closed, closedL, closed_cells, mkV_true, gt0, gtk, st0, stk, List.append_assoc, List.length_append, D.fits, D.cells, partD, mkV_false, setAt, iadD, asI, List.map_cons, List.map_nil, List.getElem?_cons_zero, List.getElem?_cons_succ, List.getElem?_nil, List.length_cons, List.length_nil, List.drop_succ_cons, List.drop_zero, List.take_succ_cons, List.take_zero, List.nil_append, List.cons_append, List.set_cons_zero, List.set_cons_succ, Nat.reduceAdd, Nat.reduceLeDiff, Nat.reduceEqDiff, Nat.reduceBEq, beq_iff_eq, reduceCtorEq, ↓reduceIte, Option.map_some, Option.some.injEq, Bool.true_and, Bool.false_and, Bool.and_true, Bool.and_self, Bool.and_false, Bool.or_self, Bool.false_eq_true, b_ff, b_ft, b_tf, b_tt, Bool.not_true, Bool.not_false, BEq.rfl, decide_true, decide_false, Nat.le_refl, callE, zD, snilD, inilD, tasD, fnilD, AcE_tp, AcE_tw, twE, DcE_tp, appD, appSrc, fillD, fillP, D.pcells, cellPure, thenQ_pan, blockQ_pan, loopQ_pan, cntQ_nrm, cntQ_ret, cntQ_ext, cntQ_pan, indQ_nrm, indQ_ret, indQ_ext, indQ_pan, resQ, panQ_pan, rawQ, unD, and_self, and_true, true_and, not_true_eq_false, not_false_eq_true, orcA, AcE_call, DcE_call]
      refine Ex_drw' ?_
      simp only [c22L0, hV, h2, h3, h39, h40, hd, hr1, hr2, x1, x2, y1, y2, hfx, hE, List.length_map, Int.toNat_natCast, unD, DrwE_nil, DrwE_plain, DrwE_guard, GdE_true, GdE_false, DcE_q, DcE_push, DcE_rd, drdE, dcallE, Ex_seq, Ex_reg, Ex_ret, Ex_skip, Ex_exit, Ex_block, Ex_cond', condE_true, condE_false, loopQ_nrm, loopQ_ret, loopQ_ext, blockQ_nrm, blockQ_ret, blockQ_ext, OpsE_plain, OpsE_guard, OpsE_nil, GuE_true, GuE_false, guardD, act, callA, ev, upd, putE, AcE_q, AcE_push, AcE_rd', AcE_wr', rdE, wrE, initE, thenQ_nrm, thenQ_ret, thenQ_ext, retQ, qo_s, convD, D.slc, unBytes_bytesP, bytesP_length, binD, scD, blD, scBin, blBin, strBin, intBin, ressD, mapO, resD, D.frz, frzL, frz_cells, D.closed, closedL, closed_cells, mkV_true, gt0, gtk, st0, stk, List.append_assoc, List.length_append, D.fits, D.cells, partD, mkV_false, setAt, iadD, asI, List.map_cons, List.map_nil, List.getElem?_cons_zero, List.getElem?_cons_succ, List.getElem?_nil, List.length_cons, List.length_nil, List.drop_succ_cons, List.drop_zero, List.take_succ_cons, List.take_zero, List.nil_append, List.cons_append, List.set_cons_zero, List.set_cons_succ, Nat.reduceAdd, Nat.reduceLeDiff, Nat.reduceEqDiff, Nat.reduceBEq, beq_iff_eq, reduceCtorEq, ↓reduceIte, Option.map_some, Option.some.injEq, Bool.true_and, Bool.false_and, Bool.and_true, Bool.and_self, Bool.and_false, Bool.or_self, Bool.false_eq_true, b_ff, b_ft, b_tf, b_tt, Bool.not_true, Bool.not_false, BEq.rfl, decide_true, decide_false, Nat.le_refl, callE, zD, snilD, inilD, tasD, fnilD, AcE_tp, AcE_tw, twE, DcE_tp, appD, appSrc, fillD, fillP, D.pcells, cellPure, thenQ_pan, blockQ_pan, loopQ_pan, cntQ_nrm, cntQ_ret, cntQ_ext, cntQ_pan, indQ_nrm, indQ_ret, indQ_ext, indQ_pan, resQ, panQ_pan, rawQ, unD, and_self, and_true, true_and, not_true_eq_false, not_false_eq_true, orcA, AcE_call, DcE_call]
      refine ⟨rfl, ?_⟩
      rw [← hQ, loopQ_ret]
      refine hq2 ?_ _ rfl
      rw [hzip, hE]; rfl
set_option maxHeartbeats 4000000 in
theorem run22 (a b : Tg) (ha : a.ok) : callV orcA F 22 [.ag (a.cells.map .c), .ag (b.cells.map .c)] = some (.ret (boD (a.same b))) := by
  induction ha generalizing b with
  | @mk kind data kids o i1 o1 a1 i2 o2 a2 h hk ih =>
    obtain ⟨kind', data', kids', o', i1', o1', a1', i2', o2', a2'⟩ := b
    rw [cells_mk, cells_mk, same_mk]
    refine callV_ret tr22 ?_
    have hl : ((kids.length : Int) == (kids'.length : Int)) = (kids.length == kids'.length) := by
      by_cases e : kids.length = kids'.length
      · rw [e, BEq.rfl, BEq.rfl]
      · rw [beq_eq_false_iff_ne.2 e, beq_eq_false_iff_ne]; omega
    cases h1 : (kind == kind') <;> cases h2 : (data == data') <;> cases h3 : (o == o' && (i1 == i1' && o1 == o1' && a1 == a1') && (i2 == i2' && o2 == o2' && a2 == a2')) <;> cases h4 : (kids.length == kids'.length) <;>
      simp only [c22, byteP, h1, h2, h3, h4, hl, bne, toList_mk, unD, u8_eq, DrwE_nil, DrwE_plain, DrwE_guard, GdE_true, GdE_false, DcE_q, DcE_push, DcE_rd, drdE, dcallE, Ex_seq, Ex_reg, Ex_ret, Ex_skip, Ex_exit, Ex_block, Ex_cond', condE_true, condE_false, loopQ_nrm, loopQ_ret, loopQ_ext, blockQ_nrm, blockQ_ret, blockQ_ext, OpsE_plain, OpsE_guard, OpsE_nil, GuE_true, GuE_false, guardD, act, callA, ev, upd, putE, AcE_q, AcE_push, AcE_rd', AcE_wr', rdE, wrE, initE, thenQ_nrm, thenQ_ret, thenQ_ext, retQ, qo_s, convD, D.slc, unBytes_bytesP, bytesP_length, binD, scD, blD, scBin, blBin, strBin, intBin, ressD, mapO, resD, D.frz, frzL, frz_cells, D.closed, closedL, closed_cells, mkV_true, gt0, gtk, st0, stk, List.append_assoc, List.length_append, D.fits, D.cells, partD, mkV_false, setAt, iadD, asI, List.map_cons, List.map_nil, List.getElem?_cons_zero, List.getElem?_cons_succ, List.getElem?_nil, List.length_cons, List.length_nil, List.drop_succ_cons, List.drop_zero, List.take_succ_cons, List.take_zero, List.nil_append, List.cons_append, List.set_cons_zero, List.set_cons_succ, Nat.reduceAdd, Nat.reduceLeDiff, Nat.reduceEqDiff, Nat.reduceBEq, beq_iff_eq, reduceCtorEq, ↓reduceIte, Option.map_some, Option.some.injEq, Bool.true_and, Bool.false_and, Bool.and_true, Bool.and_self, Bool.and_false, Bool.or_self, Bool.false_eq_true, b_ff, b_ft, b_tf, b_tt, Bool.not_true, Bool.not_false, BEq.rfl, decide_true, decide_false, Nat.le_refl, callE, zD, snilD, inilD, tasD, fnilD, AcE_tp, AcE_tw, twE, DcE_tp, appD, appSrc, fillD, fillP, D.pcells, cellPure, thenQ_pan, blockQ_pan, loopQ_pan, cntQ_nrm, cntQ_ret, cntQ_ext, cntQ_pan, indQ_nrm, indQ_ret, indQ_ext, indQ_pan, resQ, panQ_pan, rawQ, unD, and_self, and_true, true_and, not_true_eq_false, not_false_eq_true, orcA, AcE_call, run67]
    refine loop22 kids kids' (by simpa using h4) h _ _ _ _ _ _ (fun x hx y => ih x hx y) _ kids.length 0 _ (by omega) rfl rfl rfl rfl rfl rfl (fun h s' => ?_) (fun h s' h6 => ?_)
    · rw [List.drop_zero, List.drop_zero] at h
      simp only [h, DrwE_nil, DrwE_plain, DrwE_guard, GdE_true, GdE_false, DcE_q, DcE_push, DcE_rd, drdE, dcallE, Ex_seq, Ex_reg, Ex_ret, Ex_skip, Ex_exit, Ex_block, Ex_cond', condE_true, condE_false, loopQ_nrm, loopQ_ret, loopQ_ext, blockQ_nrm, blockQ_ret, blockQ_ext, OpsE_plain, OpsE_guard, OpsE_nil, GuE_true, GuE_false, guardD, act, callA, ev, upd, putE, AcE_q, AcE_push, AcE_rd', AcE_wr', rdE, wrE, initE, thenQ_nrm, thenQ_ret, thenQ_ext, retQ, qo_s, convD, D.slc, unBytes_bytesP, bytesP_length, binD, scD, blD, scBin, blBin, strBin, intBin, ressD, mapO, resD, D.frz, frzL, frz_cells, D.closed, closedL, closed_cells, mkV_true, gt0, gtk, st0, stk, List.append_assoc, List.length_append, D.fits, D.cells, partD, mkV_false, setAt, iadD, asI, List.map_cons, List.map_nil, List.getElem?_cons_zero, List.getElem?_cons_succ, List.getElem?_nil, List.length_cons, List.length_nil, List.drop_succ_cons, List.drop_zero, List.take_succ_cons, List.take_zero, List.nil_append, List.cons_append, List.set_cons_zero, List.set_cons_succ, Nat.reduceAdd, Nat.reduceLeDiff, Nat.reduceEqDiff, Nat.reduceBEq, beq_iff_eq, reduceCtorEq, ↓reduceIte, Option.map_some, Option.some.injEq, Bool.true_and, Bool.false_and, Bool.and_true, Bool.and_self, Bool.and_false, Bool.or_self, Bool.false_eq_true, b_ff, b_ft, b_tf, b_tt, Bool.not_true, Bool.not_false, BEq.rfl, decide_true, decide_false, Nat.le_refl, callE, zD, snilD, inilD, tasD, fnilD, AcE_tp, AcE_tw, twE, DcE_tp, appD, appSrc, fillD, fillP, D.pcells, cellPure, thenQ_pan, blockQ_pan, loopQ_pan, cntQ_nrm, cntQ_ret, cntQ_ext, cntQ_pan, indQ_nrm, indQ_ret, indQ_ext, indQ_pan, resQ, panQ_pan, rawQ, unD, and_self, and_true, true_and, not_true_eq_false, not_false_eq_true, orcA]
    · rw [List.drop_zero, List.drop_zero] at h
      simp only [h, h6, DrwE_nil, DrwE_plain, DrwE_guard, GdE_true, GdE_false, DcE_q, DcE_push, DcE_rd, drdE, dcallE, Ex_seq, Ex_reg, Ex_ret, Ex_skip, Ex_exit, Ex_block, Ex_cond', condE_true, condE_false, loopQ_nrm, loopQ_ret, loopQ_ext, blockQ_nrm, blockQ_ret, blockQ_ext, OpsE_plain, OpsE_guard, OpsE_nil, GuE_true, GuE_false, guardD, act, callA, ev, upd, putE, AcE_q, AcE_push, AcE_rd', AcE_wr', rdE, wrE, initE, thenQ_nrm, thenQ_ret, thenQ_ext, retQ, qo_s, convD, D.slc, unBytes_bytesP, bytesP_length, binD, scD, blD, scBin, blBin, strBin, intBin, ressD, mapO, resD, D.frz, frzL, frz_cells, D.closed, closedL, closed_cells, mkV_true, gt0, gtk, st0, stk, List.append_assoc, List.length_append, D.fits, D.cells, partD, mkV_false, setAt, iadD, asI, List.map_cons, List.map_nil, List.getElem?_cons_zero, List.getElem?_cons_succ, List.getElem?_nil, List.length_cons, List.length_nil, List.drop_succ_cons, List.drop_zero, List.take_succ_cons, List.take_zero, List.nil_append, List.cons_append, List.set_cons_zero, List.set_cons_succ, Nat.reduceAdd, Nat.reduceLeDiff, Nat.reduceEqDiff, Nat.reduceBEq, beq_iff_eq, reduceCtorEq, ↓reduceIte, Option.map_some, Option.some.injEq, Bool.true_and, Bool.false_and, Bool.and_true, Bool.and_self, Bool.and_false, Bool.or_self, Bool.false_eq_true, b_ff, b_ft, b_tf, b_tt, Bool.not_true, Bool.not_false, BEq.rfl, decide_true, decide_false, Nat.le_refl, callE, zD, snilD, inilD, tasD, fnilD, AcE_tp, AcE_tw, twE, DcE_tp, appD, appSrc, fillD, fillP, D.pcells, cellPure, thenQ_pan, blockQ_pan, loopQ_pan, cntQ_nrm, cntQ_ret, cntQ_ext, cntQ_pan, indQ_nrm, indQ_ret, indQ_ext, indQ_pan, resQ, panQ_pan, rawQ, unD, and_self, and_true, true_and, not_true_eq_false, not_false_eq_true, orcA]
end Go.Proofs.YthglfhnlolefhaaGreatDoor

end
section
/- Own: greffierref12.Great, count: that they answer. -/
set_option linter.unusedSimpArgs false
set_option linter.unusedVariables false
namespace Go.Proofs.YthglfhnlolefhaaGreatDoor
open Go.Abs
def exQ (res : List ARes) (p : D → Prop) : Out → St → Prop
  | .nrm, s | .ret, s => ∃ x, p x ∧ ressD s res = some x
  | _, _ => False
theorem exQ_nrm {res : List ARes} {p : D → Prop} {s : St} : exQ res p .nrm s = ∃ x, p x ∧ ressD s res = some x := rfl
theorem exQ_ret {res : List ARes} {p : D → Prop} {s : St} : exQ res p .ret s = ∃ x, p x ∧ ressD s res = some x := rfl
theorem callV_ex {orc : Orc} {F : FuncId → Option AFn} {f : FuncId} {fn : AFn} {args : List D} {p : D → Prop} (hf : F f = some fn) (h : Ex orc F fn.body ⟨initE args, [], []⟩ (exQ fn.res p)) : ∃ x, p x ∧ callV orc F f args = some (.ret x) := by
  obtain ⟨n, o, s, hn, hq⟩ := h
  cases o with
  | nrm => obtain ⟨x, hp, hr⟩ := hq; exact ⟨x, hp, of_Ex hf ⟨n, _, s, hn, trivial, hr⟩⟩
  | ret => obtain ⟨x, hp, hr⟩ := hq; exact ⟨x, hp, of_Ex hf ⟨n, _, s, hn, trivial, hr⟩⟩
  | ext i => exact hq.elim
  | pan d => exact hq.elim
theorem loop54 (k1 : List Tg) (hbd : k1.length < 2 ^ 62) (r1 : List D) (d1 e1 : D)
    (hf : ∀ x ∈ k1, ∃ n, callV orcA F 54 [.ag (x.cells.map .c)] = some (.ret (inD n))) (Q : Out → St → Prop) : ∀ (m i : Nat) (n : Int) (s : St), i + m = k1.length → s.T = [] →
    s.V = [⟨34, false, false, d1 :: e1 :: .c (.sl k1.length (k1.flatMap Tg.cells)) :: r1⟩] →
    s.e 1 = .mp 0 0 → s.e 3 = inD n → s.e 7 = inD k1.length → s.e 8 = inD i → (∀ s' n', s'.e 3 = inD n' → Q (.ext 0) s') →
    Ex orcA F (.loop c54L0) s Q
  | 0, i, n, s, hi, hT, hV, h1, h3, h7, h8, hq => by
    have hd : decide ((i : Int) < (k1.length : Int)) = false := by simp; omega
    rw [Ex_loop]
    simp only [c54L0, h1, h3, h7, h8, hd, DrwE_nil, DrwE_plain, DrwE_guard, GdE_true, GdE_false, DcE_q, DcE_push, DcE_rd, drdE, dcallE, Ex_seq, Ex_reg, Ex_ret, Ex_skip, Ex_exit, Ex_block, Ex_cond', condE_true, condE_false, loopQ_nrm, loopQ_ret, loopQ_ext, blockQ_nrm, blockQ_ret, blockQ_ext, OpsE_plain, OpsE_guard, OpsE_nil, GuE_true, GuE_false, guardD, act, callA, ev, upd, putE, AcE_q, AcE_push, AcE_rd', AcE_wr', rdE, wrE, initE, thenQ_nrm, thenQ_ret, thenQ_ext, retQ, qo_s, convD, D.slc, unBytes_bytesP, bytesP_length, binD, scD, blD, scBin, blBin, strBin, intBin, ressD, mapO, resD, D.frz, frzL, frz_cells, D.closed, closedL, closed_cells, mkV_true, gt0, gtk, st0, stk, List.append_assoc, List.length_append, D.fits, D.cells, partD, mkV_false, setAt, iadD, asI, List.map_cons, List.map_nil, List.getElem?_cons_zero, List.getElem?_cons_succ, List.getElem?_nil, List.length_cons, List.length_nil, List.drop_succ_cons, List.drop_zero, List.take_succ_cons, List.take_zero, List.nil_append, List.cons_append, List.set_cons_zero, List.set_cons_succ, Nat.reduceAdd, Nat.reduceLeDiff, Nat.reduceEqDiff, Nat.reduceBEq, beq_iff_eq, reduceCtorEq, ↓reduceIte, Option.map_some, Option.some.injEq, Bool.true_and, Bool.false_and, Bool.and_true, Bool.and_self, Bool.and_false, Bool.or_self, Bool.false_eq_true, b_ff, b_ft, b_tf, b_tt, Bool.not_true, Bool.not_false, BEq.rfl, decide_true, decide_false, Nat.le_refl, callE, zD, snilD, inilD, tasD, fnilD, AcE_tp, AcE_tw, twE, DcE_tp, appD, appSrc, fillD, fillP, D.pcells, cellPure, thenQ_pan, blockQ_pan, loopQ_pan, cntQ_nrm, cntQ_ret, cntQ_ext, cntQ_pan, indQ_nrm, indQ_ret, indQ_ext, indQ_pan, resQ, panQ_pan, rawQ, unD, and_self, and_true, true_and, not_true_eq_false, not_false_eq_true, orcA]
    exact hq _ n (by simp [upd, h3])
  | m + 1, i, n, s, hi, hT, hV, h1, h3, h7, h8, hq => by
    have hlt : i < k1.length := by omega
    have hd : decide ((i : Int) < (k1.length : Int)) = true := by simp; omega
    obtain ⟨x, hx⟩ : ∃ x, k1[i]? = some x := ⟨_, List.getElem?_eq_getElem hlt⟩
    have hr1 : (0 ≤ (i : Int) ∧ (i : Int) < (k1.length : Int)) = True := by simp; omega
    obtain ⟨x1, x2⟩ := seg_at cells_len hx
    obtain ⟨n', hfx⟩ := hf x (List.mem_of_getElem? hx)
    have hw : IntKind.i64.wrap ((i : Int) + 1) = ((i + 1 : Nat) : Int) := wrap_i64 (by omega) (by omega)
    rw [Ex_loop]
    generalize hQ : loopQ orcA F c54L0 Q = Q'
    simp only [c54L0, hV, h1, h3, h7, h8, hd, hr1, x1, x2, hfx, List.length_map, Int.toNat_natCast, unD, DrwE_nil, DrwE_plain, DrwE_guard, GdE_true, GdE_false, DcE_q, DcE_push, DcE_rd, drdE, dcallE, Ex_seq, Ex_reg, Ex_ret, Ex_skip, Ex_exit, Ex_block, Ex_cond', condE_true, condE_false, loopQ_nrm, loopQ_ret, loopQ_ext, blockQ_nrm, blockQ_ret, blockQ_ext, OpsE_plain, OpsE_guard, OpsE_nil, GuE_true, GuE_false, guardD, act, callA, ev, upd, putE, AcE_q, AcE_push, AcE_rd', AcE_wr', rdE, wrE, initE, thenQ_nrm, thenQ_ret, thenQ_ext, retQ, qo_s, convD, D.slc, unBytes_bytesP, bytesP_length, binD, scD, blD, scBin, blBin, strBin, intBin, ressD, mapO, resD, D.frz, frzL, frz_cells, D.closed, closedL, closed_cells, mkV_true, gt0, gtk, st0, stk, List.append_assoc, List.length_append, D.fits, D.cells, partD, mkV_false, setAt, iadD, asI, List.map_cons, List.map_nil, List.getElem?_cons_zero, List.getElem?_cons_succ, List.getElem?_nil, List.length_cons, List.length_nil, List.drop_succ_cons, List.drop_zero, List.take_succ_cons, List.take_zero, List.nil_append, List.cons_append, List.set_cons_zero, List.set_cons_succ, Nat.reduceAdd, Nat.reduceLeDiff, Nat.reduceEqDiff, Nat.reduceBEq, beq_iff_eq, reduceCtorEq, ↓reduceIte, Option.map_some, Option.some.injEq, Bool.true_and, Bool.false_and, Bool.and_true, Bool.and_self, Bool.and_false, Bool.or_self, Bool.false_eq_true, b_ff, b_ft, b_tf, b_tt, Bool.not_true, Bool.not_false, BEq.rfl, decide_true, decide_false, Nat.le_refl, callE, zD, snilD, inilD, tasD, fnilD, AcE_tp, AcE_tw, twE, DcE_tp, appD, appSrc, fillD, fillP, D.pcells, cellPure, thenQ_pan, blockQ_pan, loopQ_pan, cntQ_nrm, cntQ_ret, cntQ_ext, cntQ_pan, indQ_nrm, indQ_ret, indQ_ext, indQ_pan, resQ, panQ_pan, rawQ, unD, and_self, and_true, true_and, not_true_eq_false, not_false_eq_true, orcA, AcE_call]
    rw [← hQ, loopQ_nrm]
    exact loop54 k1 hbd r1 d1 e1 hf Q m (i + 1) (IntKind.i64.wrap (n + n')) _ (by omega) hT (by simp [hV]) (by simp [upd, h1]) (by simp [upd]) (by simp [upd, h7]) (by simp [upd, hw]) hq
theorem run54 (a : Tg) (ha : a.ok) : ∃ n, callV orcA F 54 [.ag (a.cells.map .c)] = some (.ret (inD n)) := by
  induction ha with
  | @mk kind data kids o i1 o1 a1 i2 o2 a2 h hk ih =>
    rw [cells_mk]
    obtain ⟨x, ⟨n, rfl⟩, hx⟩ := callV_ex (orc := orcA) (p := fun x => ∃ n, x = inD n) tr54 (args := [.ag ([byteP kind, byP data, .sl kids.length (kids.flatMap Tg.cells), byteP o, boP i1, boP o1, byP a1, boP i2, boP o2, byP a2].map .c)]) (by
      simp only [c54, byteP, DrwE_nil, DrwE_plain, DrwE_guard, GdE_true, GdE_false, DcE_q, DcE_push, DcE_rd, drdE, dcallE, Ex_seq, Ex_reg, Ex_ret, Ex_skip, Ex_exit, Ex_block, Ex_cond', condE_true, condE_false, loopQ_nrm, loopQ_ret, loopQ_ext, blockQ_nrm, blockQ_ret, blockQ_ext, OpsE_plain, OpsE_guard, OpsE_nil, GuE_true, GuE_false, guardD, act, callA, ev, upd, putE, AcE_q, AcE_push, AcE_rd', AcE_wr', rdE, wrE, initE, thenQ_nrm, thenQ_ret, thenQ_ext, retQ, qo_s, convD, D.slc, unBytes_bytesP, bytesP_length, binD, scD, blD, scBin, blBin, strBin, intBin, ressD, mapO, resD, D.frz, frzL, frz_cells, D.closed, closedL, closed_cells, mkV_true, gt0, gtk, st0, stk, List.append_assoc, List.length_append, D.fits, D.cells, partD, mkV_false, setAt, iadD, asI, List.map_cons, List.map_nil, List.getElem?_cons_zero, List.getElem?_cons_succ, List.getElem?_nil, List.length_cons, List.length_nil, List.drop_succ_cons, List.drop_zero, List.take_succ_cons, List.take_zero, List.nil_append, List.cons_append, List.set_cons_zero, List.set_cons_succ, Nat.reduceAdd, Nat.reduceLeDiff, Nat.reduceEqDiff, Nat.reduceBEq, beq_iff_eq, reduceCtorEq, ↓reduceIte, Option.map_some, Option.some.injEq, Bool.true_and, Bool.false_and, Bool.and_true, Bool.and_self, Bool.and_false, Bool.or_self, Bool.false_eq_true, b_ff, b_ft, b_tf, b_tt, Bool.not_true, Bool.not_false, BEq.rfl, decide_true, decide_false, Nat.le_refl, callE, zD, snilD, inilD, tasD, fnilD, AcE_tp, AcE_tw, twE, DcE_tp, appD, appSrc, fillD, fillP, D.pcells, cellPure, thenQ_pan, blockQ_pan, loopQ_pan, cntQ_nrm, cntQ_ret, cntQ_ext, cntQ_pan, indQ_nrm, indQ_ret, indQ_ext, indQ_pan, resQ, panQ_pan, rawQ, unD, and_self, and_true, true_and, not_true_eq_false, not_false_eq_true, orcA]
      refine loop54 kids h _ _ _ ih _ kids.length 0 1 _ (by omega) rfl rfl rfl rfl rfl rfl (fun s' n' h3 => ?_)
      simp only [h3, exQ_nrm, exQ_ret, DrwE_nil, DrwE_plain, DrwE_guard, GdE_true, GdE_false, DcE_q, DcE_push, DcE_rd, drdE, dcallE, Ex_seq, Ex_reg, Ex_ret, Ex_skip, Ex_exit, Ex_block, Ex_cond', condE_true, condE_false, loopQ_nrm, loopQ_ret, loopQ_ext, blockQ_nrm, blockQ_ret, blockQ_ext, OpsE_plain, OpsE_guard, OpsE_nil, GuE_true, GuE_false, guardD, act, callA, ev, upd, putE, AcE_q, AcE_push, AcE_rd', AcE_wr', rdE, wrE, initE, thenQ_nrm, thenQ_ret, thenQ_ext, retQ, qo_s, convD, D.slc, unBytes_bytesP, bytesP_length, binD, scD, blD, scBin, blBin, strBin, intBin, ressD, mapO, resD, D.frz, frzL, frz_cells, D.closed, closedL, closed_cells, mkV_true, gt0, gtk, st0, stk, List.append_assoc, List.length_append, D.fits, D.cells, partD, mkV_false, setAt, iadD, asI, List.map_cons, List.map_nil, List.getElem?_cons_zero, List.getElem?_cons_succ, List.getElem?_nil, List.length_cons, List.length_nil, List.drop_succ_cons, List.drop_zero, List.take_succ_cons, List.take_zero, List.nil_append, List.cons_append, List.set_cons_zero, List.set_cons_succ, Nat.reduceAdd, Nat.reduceLeDiff, Nat.reduceEqDiff, Nat.reduceBEq, beq_iff_eq, reduceCtorEq, ↓reduceIte, Option.map_some, Option.some.injEq, Bool.true_and, Bool.false_and, Bool.and_true, Bool.and_self, Bool.and_false, Bool.or_self, Bool.false_eq_true, b_ff, b_ft, b_tf, b_tt, Bool.not_true, Bool.not_false, BEq.rfl, decide_true, decide_false, Nat.le_refl, callE, zD, snilD, inilD, tasD, fnilD, AcE_tp, AcE_tw, twE, DcE_tp, appD, appSrc, fillD, fillP, D.pcells, cellPure, thenQ_pan, blockQ_pan, loopQ_pan, cntQ_nrm, cntQ_ret, cntQ_ext, cntQ_pan, indQ_nrm, indQ_ret, indQ_ext, indQ_pan, resQ, panQ_pan, rawQ, unD, and_self, and_true, true_and, not_true_eq_false, not_false_eq_true, orcA]
      exact ⟨_, ⟨n', rfl⟩, rfl⟩)
    exact ⟨n, hx⟩

set_option maxHeartbeats 1000000 in
theorem run53 (m1 : Int) (i1 o1 j1 p1 : Bool) (a1 b1 : List UInt8) :
    callV orcA F 53 [.ag [u8D m1, boD i1, boD o1, byD a1, boD j1, boD p1, byD b1]] = some (.ret (boD (decide ((a1.length : Int) > 200) || decide ((b1.length : Int) > 200)))) := by
  refine callV_ret tr53 ?_
  cases h : decide ((a1.length : Int) > 200) <;> simp only [c53, h, Bool.false_or, Bool.true_or, DrwE_nil, DrwE_plain, DrwE_guard, GdE_true, GdE_false, DcE_q, DcE_push, DcE_rd, drdE, dcallE, Ex_seq, Ex_reg, Ex_ret, Ex_skip, Ex_exit, Ex_block, Ex_cond', condE_true, condE_false, loopQ_nrm, loopQ_ret, loopQ_ext, blockQ_nrm, blockQ_ret, blockQ_ext, OpsE_plain, OpsE_guard, OpsE_nil, GuE_true, GuE_false, guardD, act, callA, ev, upd, putE, AcE_q, AcE_push, AcE_rd', AcE_wr', rdE, wrE, initE, thenQ_nrm, thenQ_ret, thenQ_ext, retQ, qo_s, convD, D.slc, unBytes_bytesP, bytesP_length, binD, scD, blD, scBin, blBin, strBin, intBin, ressD, mapO, resD, D.frz, frzL, frz_cells, D.closed, closedL, closed_cells, mkV_true, gt0, gtk, st0, stk, List.append_assoc, List.length_append, D.fits, D.cells, partD, mkV_false, setAt, iadD, asI, List.map_cons, List.map_nil, List.getElem?_cons_zero, List.getElem?_cons_succ, List.getElem?_nil, List.length_cons, List.length_nil, List.drop_succ_cons, List.drop_zero, List.take_succ_cons, List.take_zero, List.nil_append, List.cons_append, List.set_cons_zero, List.set_cons_succ, Nat.reduceAdd, Nat.reduceLeDiff, Nat.reduceEqDiff, Nat.reduceBEq, beq_iff_eq, reduceCtorEq, ↓reduceIte, Option.map_some, Option.some.injEq, Bool.true_and, Bool.false_and, Bool.and_true, Bool.and_self, Bool.and_false, Bool.or_self, Bool.false_eq_true, b_ff, b_ft, b_tf, b_tt, Bool.not_true, Bool.not_false, BEq.rfl, decide_true, decide_false, Nat.le_refl, callE, zD, snilD, inilD, tasD, fnilD, AcE_tp, AcE_tw, twE, DcE_tp, appD, appSrc, fillD, fillP, D.pcells, cellPure, thenQ_pan, blockQ_pan, loopQ_pan, cntQ_nrm, cntQ_ret, cntQ_ext, cntQ_pan, indQ_nrm, indQ_ret, indQ_ext, indQ_pan, resQ, panQ_pan, rawQ, unD, and_self, and_true, true_and, not_true_eq_false, not_false_eq_true, orcA]
theorem loop17 (k1 : List Tg) (hbd : k1.length < 2 ^ 62) (r1 : List D) (d1 e1 : D) (k : Nat) (hk : k ≤ 60)
    (hf : ∀ x ∈ k1, ∃ g, callV orcA F 17 [.ag (x.cells.map .c), inD ((k + 1 : Nat) : Int)] = some (.ret (boD g))) (Q : Out → St → Prop) : ∀ (m i : Nat) (s : St), i + m = k1.length → s.T = [] →
    s.V = [⟨34, false, false, d1 :: e1 :: .c (.sl k1.length (k1.flatMap Tg.cells)) :: r1⟩] →
    s.e 2 = .mp 0 0 → s.e 1 = inD k → s.e 27 = inD k1.length → s.e 28 = inD i →
    (∀ s', s'.V = [⟨34, false, false, d1 :: e1 :: .c (.sl k1.length (k1.flatMap Tg.cells)) :: r1⟩] → s'.e 2 = .mp 0 0 → s'.e 1 = inD k → Q (.ext 0) s') → (∀ s', s'.e 4 = boD true → Q .ret s') →
    Ex orcA F (.loop c17L0) s Q
  | 0, i, s, hi, hT, hV, h2, h1, h27, h28, hq1, hq2 => by
    have hd : decide ((i : Int) < (k1.length : Int)) = false := by simp; omega
    rw [Ex_loop]
    simp only [c17L0, h1, h2, h27, h28, hd, DrwE_nil, DrwE_plain, DrwE_guard, GdE_true, GdE_false, DcE_q, DcE_push, DcE_rd, drdE, dcallE, Ex_seq, Ex_reg, Ex_ret, Ex_skip, Ex_exit, Ex_block, Ex_cond', condE_true, condE_false, loopQ_nrm, loopQ_ret, loopQ_ext, blockQ_nrm, blockQ_ret, blockQ_ext, OpsE_plain, OpsE_guard, OpsE_nil, GuE_true, GuE_false, guardD, act, callA, ev, upd, putE, AcE_q, AcE_push, AcE_rd', AcE_wr', rdE, wrE, initE, thenQ_nrm, thenQ_ret, thenQ_ext, retQ, qo_s, convD, D.slc, unBytes_bytesP, bytesP_length, binD, scD, blD, scBin, blBin, strBin, intBin, ressD, mapO, resD, D.frz, frzL, frz_cells, D.closed, closedL, closed_cells, mkV_true, gt0, gtk, st0, stk, List.append_assoc, List.length_append, D.fits, D.cells, partD, mkV_false, setAt, iadD, asI, List.map_cons, List.map_nil, List.getElem?_cons_zero, List.getElem?_cons_succ, List.getElem?_nil, List.length_cons, List.length_nil, List.drop_succ_cons, List.drop_zero, List.take_succ_cons, List.take_zero, List.nil_append, List.cons_append, List.set_cons_zero, List.set_cons_succ, Nat.reduceAdd, Nat.reduceLeDiff, Nat.reduceEqDiff, Nat.reduceBEq, beq_iff_eq, reduceCtorEq, ↓reduceIte, Option.map_some, Option.some.injEq, Bool.true_and, Bool.false_and, Bool.and_true, Bool.and_self, Bool.and_false, Bool.or_self, Bool.false_eq_true, b_ff, b_ft, b_tf, b_tt, Bool.not_true, Bool.not_false, BEq.rfl, decide_true, decide_false, Nat.le_refl, callE, zD, snilD, inilD, tasD, fnilD, AcE_tp, AcE_tw, twE, DcE_tp, appD, appSrc, fillD, fillP, D.pcells, cellPure, thenQ_pan, blockQ_pan, loopQ_pan, cntQ_nrm, cntQ_ret, cntQ_ext, cntQ_pan, indQ_nrm, indQ_ret, indQ_ext, indQ_pan, resQ, panQ_pan, rawQ, unD, and_self, and_true, true_and, not_true_eq_false, not_false_eq_true, orcA]
    exact hq1 _ hV (by simp [upd, h2]) (by simp [upd, h1])
  | m + 1, i, s, hi, hT, hV, h2, h1, h27, h28, hq1, hq2 => by
    have hlt : i < k1.length := by omega
    have hd : decide ((i : Int) < (k1.length : Int)) = true := by simp; omega
    obtain ⟨x, hx⟩ : ∃ x, k1[i]? = some x := ⟨_, List.getElem?_eq_getElem hlt⟩
    have hr1 : (0 ≤ (i : Int) ∧ (i : Int) < (k1.length : Int)) = True := by simp; omega
    obtain ⟨x1, x2⟩ := seg_at cells_len hx
    obtain ⟨g, hfx⟩ := hf x (List.mem_of_getElem? hx)
    have hw : IntKind.i64.wrap ((i : Int) + 1) = ((i + 1 : Nat) : Int) := wrap_i64 (by omega) (by omega)
    have hw2 : IntKind.i64.wrap ((k : Int) + 1) = ((k + 1 : Nat) : Int) := wrap_i64 (by omega) (by omega)
    rw [Ex_loop]
    generalize hQ : loopQ orcA F c17L0 Q = Q'
    cases g with
    | true =>
      simp only [c17L0, hV, h1, h2, h27, h28, hd, hr1, x1, x2, hw2, hfx, List.length_map, Int.toNat_natCast, unD, DrwE_nil, DrwE_plain, DrwE_guard, GdE_true, GdE_false, DcE_q, DcE_push, DcE_rd, drdE, dcallE, Ex_seq, Ex_reg, Ex_ret, Ex_skip, Ex_exit, Ex_block, Ex_cond', condE_true, condE_false, loopQ_nrm, loopQ_ret, loopQ_ext, blockQ_nrm, blockQ_ret, blockQ_ext, OpsE_plain, OpsE_guard, OpsE_nil, GuE_true, GuE_false, guardD, act, callA, ev, upd, putE, AcE_q, AcE_push, AcE_rd', AcE_wr', rdE, wrE, initE, thenQ_nrm, thenQ_ret, thenQ_ext, retQ, qo_s, convD, D.slc, unBytes_bytesP, bytesP_length, binD, scD, blD, scBin, blBin, strBin, intBin, ressD, mapO, resD, D.frz, frzL, frz_cells, D.closed, closedL, closed_cells, mkV_true, gt0, gtk, st0, stk, List.append_assoc, List.length_append, D.fits, D.cells, partD, mkV_false, setAt, iadD, asI, List.map_cons, List.map_nil, List.getElem?_cons_zero, List.getElem?_cons_succ, List.getElem?_nil, List.length_cons, List.length_nil, List.drop_succ_cons, List.drop_zero, List.take_succ_cons, List.take_zero, List.nil_append, List.cons_append, List.set_cons_zero, List.set_cons_succ, Nat.reduceAdd, Nat.reduceLeDiff, Nat.reduceEqDiff, Nat.reduceBEq, beq_iff_eq, reduceCtorEq, ↓reduceIte, Option.map_some, Option.some.injEq, Bool.true_and, Bool.false_and, Bool.and_true, Bool.and_self, Bool.and_false, Bool.or_self, Bool.false_eq_true, b_ff, b_ft, b_tf, b_tt, Bool.not_true, Bool.not_false, BEq.rfl, decide_true, decide_false, Nat.le_refl, callE, zD, snilD, inilD, tasD, fnilD, AcE_tp, AcE_tw, twE, DcE_tp, appD, appSrc, fillD, fillP, D.pcells, cellPure, thenQ_pan, blockQ_pan, loopQ_pan, cntQ_nrm, cntQ_ret, cntQ_ext, cntQ_pan, indQ_nrm, indQ_ret, indQ_ext, indQ_pan, resQ, panQ_pan, rawQ, unD, and_self, and_true, true_and, not_true_eq_false, not_false_eq_true, orcA, AcE_call]
      rw [← hQ, loopQ_ret]
      exact hq2 _ rfl
    | false =>
      simp only [c17L0, hV, h1, h2, h27, h28, hd, hr1, x1, x2, hw2, hfx, List.length_map, Int.toNat_natCast, unD, DrwE_nil, DrwE_plain, DrwE_guard, GdE_true, GdE_false, DcE_q, DcE_push, DcE_rd, drdE, dcallE, Ex_seq, Ex_reg, Ex_ret, Ex_skip, Ex_exit, Ex_block, Ex_cond', condE_true, condE_false, loopQ_nrm, loopQ_ret, loopQ_ext, blockQ_nrm, blockQ_ret, blockQ_ext, OpsE_plain, OpsE_guard, OpsE_nil, GuE_true, GuE_false, guardD, act, callA, ev, upd, putE, AcE_q, AcE_push, AcE_rd', AcE_wr', rdE, wrE, initE, thenQ_nrm, thenQ_ret, thenQ_ext, retQ, qo_s, convD, D.slc, unBytes_bytesP, bytesP_length, binD, scD, blD, scBin, blBin, strBin, intBin, ressD, mapO, resD, D.frz, frzL, frz_cells, D.closed, closedL, closed_cells, mkV_true, gt0, gtk, st0, stk, List.append_assoc, List.length_append, D.fits, D.cells, partD, mkV_false, setAt, iadD, asI, List.map_cons, List.map_nil, List.getElem?_cons_zero, List.getElem?_cons_succ, List.getElem?_nil, List.length_cons, List.length_nil, List.drop_succ_cons, List.drop_zero, List.take_succ_cons, List.take_zero, List.nil_append, List.cons_append, List.set_cons_zero, List.set_cons_succ, Nat.reduceAdd, Nat.reduceLeDiff, Nat.reduceEqDiff, Nat.reduceBEq, beq_iff_eq, reduceCtorEq, ↓reduceIte, Option.map_some, Option.some.injEq, Bool.true_and, Bool.false_and, Bool.and_true, Bool.and_self, Bool.and_false, Bool.or_self, Bool.false_eq_true, b_ff, b_ft, b_tf, b_tt, Bool.not_true, Bool.not_false, BEq.rfl, decide_true, decide_false, Nat.le_refl, callE, zD, snilD, inilD, tasD, fnilD, AcE_tp, AcE_tw, twE, DcE_tp, appD, appSrc, fillD, fillP, D.pcells, cellPure, thenQ_pan, blockQ_pan, loopQ_pan, cntQ_nrm, cntQ_ret, cntQ_ext, cntQ_pan, indQ_nrm, indQ_ret, indQ_ext, indQ_pan, resQ, panQ_pan, rawQ, unD, and_self, and_true, true_and, not_true_eq_false, not_false_eq_true, orcA, AcE_call]
      rw [← hQ, loopQ_nrm]
      exact loop17 k1 hbd r1 d1 e1 k hk hf Q m (i + 1) _ (by omega) hT (by simp [hV]) (by simp [upd, h2]) (by simp [upd, h1]) (by simp [upd, h27]) (by simp [upd, hw]) hq1 hq2

set_option maxRecDepth 20000 in
set_option maxHeartbeats 2000000 in
theorem run17 (a : Tg) (ha : a.ok) : ∀ k : Nat, k ≤ 61 → ∃ g, callV orcA F 17 [.ag (a.cells.map .c), inD k] = some (.ret (boD g)) := by
  induction ha with
  | @mk kind data kids o i1 o1 a1 i2 o2 a2 h hk ih =>
    intro k hk61
    obtain ⟨n, hn⟩ := run54 _ (Tg.ok.mk (kind := kind) (data := data) (o := o) (i1 := i1) (o1 := o1) (a1 := a1) (i2 := i2) (o2 := o2) (a2 := a2) h hk)
    rw [cells_mk] at hn ⊢
    obtain ⟨x, ⟨g, rfl⟩, hx⟩ := callV_ex (orc := orcA) (p := fun x => ∃ g, x = boD g) tr17 (args := [.ag ([byteP kind, byP data, .sl kids.length (kids.flatMap Tg.cells), byteP o, boP i1, boP o1, byP a1, boP i2, boP o2, byP a2].map .c), inD k]) (by
      cases hb : (decide ((a1.length : Int) > 200) || decide ((a2.length : Int) > 200)) with
      | true =>
        cases h1 : decide ((k : Int) > 60) <;> cases h2 : decide ((kids.length : Int) > 700) <;> cases h3 : decide ((data.length : Int) > 5000) <;>
          simp only [c17, byteP, h1, h2, h3, hb, exQ_nrm, exQ_ret, DrwE_nil, DrwE_plain, DrwE_guard, GdE_true, GdE_false, DcE_q, DcE_push, DcE_rd, drdE, dcallE, Ex_seq, Ex_reg, Ex_ret, Ex_skip, Ex_exit, Ex_block, Ex_cond', condE_true, condE_false, loopQ_nrm, loopQ_ret, loopQ_ext, blockQ_nrm, blockQ_ret, blockQ_ext, OpsE_plain, OpsE_guard, OpsE_nil, GuE_true, GuE_false, guardD, act, callA, ev, upd, putE, AcE_q, AcE_push, AcE_rd', AcE_wr', rdE, wrE, initE, thenQ_nrm, thenQ_ret, thenQ_ext, retQ, qo_s, convD, D.slc, unBytes_bytesP, bytesP_length, binD, scD, blD, scBin, blBin, strBin, intBin, ressD, mapO, resD, D.frz, frzL, frz_cells, D.closed, closedL, closed_cells, mkV_true, gt0, gtk, st0, stk, List.append_assoc, List.length_append, D.fits, D.cells, partD, mkV_false, setAt, iadD, asI, List.map_cons, List.map_nil, List.getElem?_cons_zero, List.getElem?_cons_succ, List.getElem?_nil, List.length_cons, List.length_nil, List.drop_succ_cons, List.drop_zero, List.take_succ_cons, List.take_zero, List.nil_append, List.cons_append, List.set_cons_zero, List.set_cons_succ, Nat.reduceAdd, Nat.reduceLeDiff, Nat.reduceEqDiff, Nat.reduceBEq, beq_iff_eq, reduceCtorEq, ↓reduceIte, Option.map_some, Option.some.injEq, Bool.true_and, Bool.false_and, Bool.and_true, Bool.and_self, Bool.and_false, Bool.or_self, Bool.false_eq_true, b_ff, b_ft, b_tf, b_tt, Bool.not_true, Bool.not_false, BEq.rfl, decide_true, decide_false, Nat.le_refl, callE, zD, snilD, inilD, tasD, fnilD, AcE_tp, AcE_tw, twE, DcE_tp, appD, appSrc, fillD, fillP, D.pcells, cellPure, thenQ_pan, blockQ_pan, loopQ_pan, cntQ_nrm, cntQ_ret, cntQ_ext, cntQ_pan, indQ_nrm, indQ_ret, indQ_ext, indQ_pan, resQ, panQ_pan, rawQ, unD, and_self, and_true, true_and, not_true_eq_false, not_false_eq_true, orcA, AcE_call, run53] <;> exact ⟨_, ⟨true, rfl⟩, rfl⟩
      | false =>
        cases h1 : decide ((k : Int) > 60) <;> cases h2 : decide ((kids.length : Int) > 700) <;> cases h3 : decide ((data.length : Int) > 5000) <;>
          simp only [c17, byteP, h1, h2, h3, hb, exQ_nrm, exQ_ret, DrwE_nil, DrwE_plain, DrwE_guard, GdE_true, GdE_false, DcE_q, DcE_push, DcE_rd, drdE, dcallE, Ex_seq, Ex_reg, Ex_ret, Ex_skip, Ex_exit, Ex_block, Ex_cond', condE_true, condE_false, loopQ_nrm, loopQ_ret, loopQ_ext, blockQ_nrm, blockQ_ret, blockQ_ext, OpsE_plain, OpsE_guard, OpsE_nil, GuE_true, GuE_false, guardD, act, callA, ev, upd, putE, AcE_q, AcE_push, AcE_rd', AcE_wr', rdE, wrE, initE, thenQ_nrm, thenQ_ret, thenQ_ext, retQ, qo_s, convD, D.slc, unBytes_bytesP, bytesP_length, binD, scD, blD, scBin, blBin, strBin, intBin, ressD, mapO, resD, D.frz, frzL, frz_cells, D.closed, closedL, closed_cells, mkV_true, gt0, gtk, st0, stk, List.append_assoc, List.length_append, D.fits, D.cells, partD, mkV_false, setAt, iadD, asI, List.map_cons, List.map_nil, List.getElem?_cons_zero, List.getElem?_cons_succ, List.getElem?_nil, List.length_cons, List.length_nil, List.drop_succ_cons, List.drop_zero, List.take_succ_cons, List.take_zero, List.nil_append, List.cons_append, List.set_cons_zero, List.set_cons_succ, Nat.reduceAdd, Nat.reduceLeDiff, Nat.reduceEqDiff, Nat.reduceBEq, beq_iff_eq, reduceCtorEq, ↓reduceIte, Option.map_some, Option.some.injEq, Bool.true_and, Bool.false_and, Bool.and_true, Bool.and_self, Bool.and_false, Bool.or_self, Bool.false_eq_true, b_ff, b_ft, b_tf, b_tt, Bool.not_true, Bool.not_false, BEq.rfl, decide_true, decide_false, Nat.le_refl, callE, zD, snilD, inilD, tasD, fnilD, AcE_tp, AcE_tw, twE, DcE_tp, appD, appSrc, fillD, fillP, D.pcells, cellPure, thenQ_pan, blockQ_pan, loopQ_pan, cntQ_nrm, cntQ_ret, cntQ_ext, cntQ_pan, indQ_nrm, indQ_ret, indQ_ext, indQ_pan, resQ, panQ_pan, rawQ, unD, and_self, and_true, true_and, not_true_eq_false, not_false_eq_true, orcA, AcE_call, run53]
        all_goals first
          | exact ⟨_, ⟨true, rfl⟩, rfl⟩
          | skip
        have hk60 : k ≤ 60 := by simp at h1; omega
        refine loop17 kids h _ _ _ k hk60 (fun x hx => ih x hx (k + 1) (by omega)) _ kids.length 0 _ (by omega) rfl rfl rfl rfl rfl rfl (fun s' hV h2 h1 => ?_) (fun s' h4 => ?_)
        · simp only [byteP] at hn
          simp only [List.map_cons, List.map_nil] at hn
          obtain ⟨e', V', T'⟩ := s'
          simp only at hV h2 h1
          subst hV
          cases h5 : ((k : Int) == 0)
          · simp only [h1, h2, h5, exQ_nrm, exQ_ret, DrwE_nil, DrwE_plain, DrwE_guard, GdE_true, GdE_false, DcE_q, DcE_push, DcE_rd, drdE, dcallE, Ex_seq, Ex_reg, Ex_ret, Ex_skip, Ex_exit, Ex_block, Ex_cond', condE_true, condE_false, loopQ_nrm, loopQ_ret, loopQ_ext, blockQ_nrm, blockQ_ret, blockQ_ext, OpsE_plain, OpsE_guard, OpsE_nil, GuE_true, GuE_false, guardD, act, callA, ev, upd, putE, AcE_q, AcE_push, AcE_rd', AcE_wr', rdE, wrE, initE, thenQ_nrm, thenQ_ret, thenQ_ext, retQ, qo_s, convD, D.slc, unBytes_bytesP, bytesP_length, binD, scD, blD, scBin, blBin, strBin, intBin, ressD, mapO, resD, D.frz, frzL, frz_cells, D.closed, closedL, closed_cells, mkV_true, gt0, gtk, st0, stk, List.append_assoc, List.length_append, D.fits, D.cells, partD, mkV_false, setAt, iadD, asI, List.map_cons, List.map_nil, List.getElem?_cons_zero, List.getElem?_cons_succ, List.getElem?_nil, List.length_cons, List.length_nil, List.drop_succ_cons, List.drop_zero, List.take_succ_cons, List.take_zero, List.nil_append, List.cons_append, List.set_cons_zero, List.set_cons_succ, Nat.reduceAdd, Nat.reduceLeDiff, Nat.reduceEqDiff, Nat.reduceBEq, beq_iff_eq, reduceCtorEq, ↓reduceIte, Option.map_some, Option.some.injEq, Bool.true_and, Bool.false_and, Bool.and_true, Bool.and_self, Bool.and_false, Bool.or_self, Bool.false_eq_true, b_ff, b_ft, b_tf, b_tt, Bool.not_true, Bool.not_false, BEq.rfl, decide_true, decide_false, Nat.le_refl, callE, zD, snilD, inilD, tasD, fnilD, AcE_tp, AcE_tw, twE, DcE_tp, appD, appSrc, fillD, fillP, D.pcells, cellPure, thenQ_pan, blockQ_pan, loopQ_pan, cntQ_nrm, cntQ_ret, cntQ_ext, cntQ_pan, indQ_nrm, indQ_ret, indQ_ext, indQ_pan, resQ, panQ_pan, rawQ, unD, and_self, and_true, true_and, not_true_eq_false, not_false_eq_true, orcA]
            exact ⟨_, ⟨_, rfl⟩, rfl⟩
          · simp only [h1, h2, h5, hn, exQ_nrm, exQ_ret, DrwE_nil, DrwE_plain, DrwE_guard, GdE_true, GdE_false, DcE_q, DcE_push, DcE_rd, drdE, dcallE, Ex_seq, Ex_reg, Ex_ret, Ex_skip, Ex_exit, Ex_block, Ex_cond', condE_true, condE_false, loopQ_nrm, loopQ_ret, loopQ_ext, blockQ_nrm, blockQ_ret, blockQ_ext, OpsE_plain, OpsE_guard, OpsE_nil, GuE_true, GuE_false, guardD, act, callA, ev, upd, putE, AcE_q, AcE_push, AcE_rd', AcE_wr', rdE, wrE, initE, thenQ_nrm, thenQ_ret, thenQ_ext, retQ, qo_s, convD, D.slc, unBytes_bytesP, bytesP_length, binD, scD, blD, scBin, blBin, strBin, intBin, ressD, mapO, resD, D.frz, frzL, frz_cells, D.closed, closedL, closed_cells, mkV_true, gt0, gtk, st0, stk, List.append_assoc, List.length_append, D.fits, D.cells, partD, mkV_false, setAt, iadD, asI, List.map_cons, List.map_nil, List.getElem?_cons_zero, List.getElem?_cons_succ, List.getElem?_nil, List.length_cons, List.length_nil, List.drop_succ_cons, List.drop_zero, List.take_succ_cons, List.take_zero, List.nil_append, List.cons_append, List.set_cons_zero, List.set_cons_succ, Nat.reduceAdd, Nat.reduceLeDiff, Nat.reduceEqDiff, Nat.reduceBEq, beq_iff_eq, reduceCtorEq, ↓reduceIte, Option.map_some, Option.some.injEq, Bool.true_and, Bool.false_and, Bool.and_true, Bool.and_self, Bool.and_false, Bool.or_self, Bool.false_eq_true, b_ff, b_ft, b_tf, b_tt, Bool.not_true, Bool.not_false, BEq.rfl, decide_true, decide_false, Nat.le_refl, callE, zD, snilD, inilD, tasD, fnilD, AcE_tp, AcE_tw, twE, DcE_tp, appD, appSrc, fillD, fillP, D.pcells, cellPure, thenQ_pan, blockQ_pan, loopQ_pan, cntQ_nrm, cntQ_ret, cntQ_ext, cntQ_pan, indQ_nrm, indQ_ret, indQ_ext, indQ_pan, resQ, panQ_pan, rawQ, unD, and_self, and_true, true_and, not_true_eq_false, not_false_eq_true, orcA, AcE_call]
            exact ⟨_, ⟨_, rfl⟩, rfl⟩
        · simp only [h4, exQ_nrm, exQ_ret, DrwE_nil, DrwE_plain, DrwE_guard, GdE_true, GdE_false, DcE_q, DcE_push, DcE_rd, drdE, dcallE, Ex_seq, Ex_reg, Ex_ret, Ex_skip, Ex_exit, Ex_block, Ex_cond', condE_true, condE_false, loopQ_nrm, loopQ_ret, loopQ_ext, blockQ_nrm, blockQ_ret, blockQ_ext, OpsE_plain, OpsE_guard, OpsE_nil, GuE_true, GuE_false, guardD, act, callA, ev, upd, putE, AcE_q, AcE_push, AcE_rd', AcE_wr', rdE, wrE, initE, thenQ_nrm, thenQ_ret, thenQ_ext, retQ, qo_s, convD, D.slc, unBytes_bytesP, bytesP_length, binD, scD, blD, scBin, blBin, strBin, intBin, ressD, mapO, resD, D.frz, frzL, frz_cells, D.closed, closedL, closed_cells, mkV_true, gt0, gtk, st0, stk, List.append_assoc, List.length_append, D.fits, D.cells, partD, mkV_false, setAt, iadD, asI, List.map_cons, List.map_nil, List.getElem?_cons_zero, List.getElem?_cons_succ, List.getElem?_nil, List.length_cons, List.length_nil, List.drop_succ_cons, List.drop_zero, List.take_succ_cons, List.take_zero, List.nil_append, List.cons_append, List.set_cons_zero, List.set_cons_succ, Nat.reduceAdd, Nat.reduceLeDiff, Nat.reduceEqDiff, Nat.reduceBEq, beq_iff_eq, reduceCtorEq, ↓reduceIte, Option.map_some, Option.some.injEq, Bool.true_and, Bool.false_and, Bool.and_true, Bool.and_self, Bool.and_false, Bool.or_self, Bool.false_eq_true, b_ff, b_ft, b_tf, b_tt, Bool.not_true, Bool.not_false, BEq.rfl, decide_true, decide_false, Nat.le_refl, callE, zD, snilD, inilD, tasD, fnilD, AcE_tp, AcE_tw, twE, DcE_tp, appD, appSrc, fillD, fillP, D.pcells, cellPure, thenQ_pan, blockQ_pan, loopQ_pan, cntQ_nrm, cntQ_ret, cntQ_ext, cntQ_pan, indQ_nrm, indQ_ret, indQ_ext, indQ_pan, resQ, panQ_pan, rawQ, unD, and_self, and_true, true_and, not_true_eq_false, not_false_eq_true, orcA]
          exact ⟨_, ⟨_, rfl⟩, rfl⟩)
    exact ⟨g, hx⟩
end Go.Proofs.YthglfhnlolefhaaGreatDoor

end
section
/- The compiled code of functions 4, printed by a program; each is what the compiler 'trFn' gives. -/
set_option maxRecDepth 100000
namespace Go.Proofs.YthglfhnlolefhaaGreatDoor
open Go.Abs
def c4 : AFn := ⟨27, [(.t 4)], (.seq (.reg [⟨(some 2), none, (.box 34 10 (.t 0))⟩, ⟨(some 3), none, (.box 34 10 (.t 1))⟩, ⟨(some 4), none, (.mv (.k (.c (.v (.bool false)))))⟩]) (.seq (.seq (.reg [⟨(some 5), none, (.load true 10 (.t 2))⟩, ⟨(some 6), none, (.call 17 [(.t 5), (.k (.c (.v (.int .i64 0))))])⟩, ⟨(some 7), none, (.mv (.t 6))⟩, ⟨(some 8), (some (7, false)), (.load true 10 (.t 3))⟩, ⟨(some 9), (some (7, false)), (.call 17 [(.t 8), (.k (.c (.v (.int .i64 0))))])⟩, ⟨(some 10), none, (.pick (.t 7) (.k (.c (.v (.bool true)))) (.t 9))⟩]) (.cond (.t 10) (.seq (.reg [⟨(some 11), none, (.call 16 [])⟩, ⟨(some 4), none, (.mv (.t 11))⟩]) .ret) .skip)) (.seq (.drw [⟨(some 12), none, (.load true 10 (.t 2))⟩, ⟨(some 13), none, (.load true 10 (.t 3))⟩, ⟨(some 14), none, (.call 23 [(.t 12), (.t 13)])⟩, ⟨(some 15), none, (.load true 10 (.t 2))⟩, ⟨(some 16), none, (.load true 10 (.t 3))⟩, ⟨(some 17), none, (.call 22 [(.t 15), (.t 16)])⟩, ⟨(some 18), none, (.bin .eql .bl (.t 14) (.t 17))⟩, ⟨(some 19), none, (.mv (.t 18))⟩, ⟨(some 20), (some (19, true)), (.load true 10 (.t 2))⟩, ⟨(some 21), (some (19, true)), (.load true 10 (.t 2))⟩, ⟨(some 22), (some (19, true)), (.call 23 [(.t 20), (.t 21)])⟩, ⟨(some 23), none, (.pick (.t 19) (.t 22) (.k (.c (.v (.bool false)))))⟩, ⟨(some 24), none, (.mv (.t 23))⟩, ⟨(some 25), (some (24, true)), (.call 16 [])⟩, ⟨(some 26), none, (.pick (.t 24) (.t 25) (.k (.c (.v (.bool false)))))⟩, ⟨(some 4), none, (.mv (.t 26))⟩] [(0, 1), (0, 3), (1, 3), (2, 3), (0, 4), (1, 4), (2, 4), (3, 4), (0, 5), (1, 5), (0, 6), (1, 6), (3, 6), (4, 6), (0, 7), (1, 7), (2, 7), (3, 7), (4, 7), (0, 8), (1, 8), (2, 8), (3, 8), (4, 8), (5, 8), (6, 8), (0, 9), (1, 9), (2, 9), (3, 9), (4, 9), (5, 9), (6, 9), (8, 9), (0, 10), (1, 10), (2, 10), (3, 10), (4, 10), (5, 10), (6, 10), (0, 11), (1, 11), (2, 11), (3, 11), (4, 11), (5, 11), (6, 11), (8, 11), (9, 11), (0, 12), (1, 12), (2, 12), (3, 12), (4, 12), (5, 12), (6, 12), (7, 12), (8, 12), (9, 12), (0, 13), (1, 13), (2, 13), (3, 13), (4, 13), (5, 13), (6, 13), (7, 13), (8, 13), (9, 13), (10, 13), (11, 13), (0, 14), (1, 14), (2, 14), (3, 14), (4, 14), (5, 14), (6, 14), (7, 14), (8, 14), (9, 14), (10, 14), (11, 14)]) .ret)))⟩
theorem tr4 : trFn Tryz.prog 4 = some c4 := by kernel_rfl
end Go.Proofs.YthglfhnlolefhaaGreatDoor

end
section
/- Own: TagSame's body. -/
set_option linter.unusedSimpArgs false
set_option linter.unusedVariables false
namespace Go.Proofs.YthglfhnlolefhaaGreatDoor
open Go.Abs
theorem same_self (a : Tg) (ha : a.ok) : a.same a = true := by
  induction ha with
  | @mk kind data kids o i1 o1 a1 i2 o2 a2 h hk ih =>
    rw [same_mk]
    simp only [BEq.rfl, Bool.true_and, Bool.and_true, Bool.and_self]
    rw [List.all_eq_true]
    intro p hp
    have hz : ∀ (l : List Tg) (p : Tg × Tg), p ∈ l.zip l → p.1 = p.2 ∧ p.1 ∈ l := fun l => by
      induction l with
      | nil => intro p hp; simp at hp
      | cons x l ih =>
        intro p hp
        rw [List.zip_cons_cons, List.mem_cons] at hp
        rcases hp with rfl | hp
        · simp
        · have := ih p hp
          exact ⟨this.1, List.mem_cons_of_mem _ this.2⟩
    obtain ⟨e, hm⟩ := hz kids p hp
    rw [← e]
    exact ih _ hm
set_option maxRecDepth 20000 in
set_option maxHeartbeats 2000000 in
theorem run4 (hawake : callV orcB F 16 [] = some (.ret (boD true))) (a b : Tg) (ha : a.ok) (hb : b.ok) : callV orcB F 4 [.ag (a.cells.map .c), .ag (b.cells.map .c)] = some (.ret (boD true)) := by
  obtain ⟨ga, hga⟩ := run17 a ha 0 (by omega)
  replace hga := callV_table tableB hga
  obtain ⟨gb, hgb⟩ := run17 b hb 0 (by omega)
  replace hgb := callV_table tableB hgb
  have h1 := callV_table tableB (run23 a b ha)
  have h2 := callV_table tableB (run22 a b ha)
  have h3 := run23 a a ha
  rw [same_self a ha] at h3
  replace h3 := callV_table tableB h3
  have la := cells_len a
  have lb := cells_len b
  have xa : List.take 10 (List.map D.c a.cells) = List.map D.c a.cells := List.take_of_length_le (by simp [la])
  have xb : List.take 10 (List.map D.c b.cells) = List.map D.c b.cells := List.take_of_length_le (by simp [lb])
  have hc0 : closedL [] = true := rfl
  have z0 : ((0 : Nat) : Int) = 0 := rfl
  rw [z0] at hga hgb
  refine callV_ret tr4 ?_
  cases ga <;> cases gb <;> simp only [c4, la, lb, xa, xb, hga, hgb, h1, h2, h3, hawake, hc0, AcE_call (f := 16) (args := []) rfl, DcE_call (f := 16) (args := []) rfl, List.length_map, orcB, DrwE_nil, DrwE_plain, DrwE_guard, GdE_true, GdE_false, DcE_q, DcE_push, DcE_rd, drdE, dcallE, Ex_seq, Ex_reg, Ex_ret, Ex_skip, Ex_exit, Ex_block, Ex_cond', condE_true, condE_false, loopQ_nrm, loopQ_ret, loopQ_ext, blockQ_nrm, blockQ_ret, blockQ_ext, OpsE_plain, OpsE_guard, OpsE_nil, GuE_true, GuE_false, guardD, act, callA, ev, upd, putE, AcE_q, AcE_push, AcE_rd', AcE_wr', rdE, wrE, initE, thenQ_nrm, thenQ_ret, thenQ_ext, retQ, qo_s, convD, D.slc, unBytes_bytesP, bytesP_length, binD, scD, blD, scBin, blBin, strBin, intBin, ressD, mapO, resD, D.frz, frzL, frz_cells, D.closed, closedL, closed_cells, mkV_true, gt0, gtk, st0, stk, List.append_assoc, List.length_append, D.fits, D.cells, partD, mkV_false, setAt, iadD, asI, List.map_cons, List.map_nil, List.getElem?_cons_zero, List.getElem?_cons_succ, List.getElem?_nil, List.length_cons, List.length_nil, List.drop_succ_cons, List.drop_zero, List.take_succ_cons, List.take_zero, List.nil_append, List.cons_append, List.set_cons_zero, List.set_cons_succ, Nat.reduceAdd, Nat.reduceLeDiff, Nat.reduceEqDiff, Nat.reduceBEq, beq_iff_eq, reduceCtorEq, ↓reduceIte, Option.map_some, Option.some.injEq, Bool.true_and, Bool.false_and, Bool.and_true, Bool.and_self, Bool.and_false, Bool.or_self, Bool.false_eq_true, b_ff, b_ft, b_tf, b_tt, Bool.not_true, Bool.not_false, BEq.rfl, decide_true, decide_false, Nat.le_refl, callE, zD, snilD, inilD, tasD, fnilD, AcE_tp, AcE_tw, twE, DcE_tp, appD, appSrc, fillD, fillP, D.pcells, cellPure, thenQ_pan, blockQ_pan, loopQ_pan, cntQ_nrm, cntQ_ret, cntQ_ext, cntQ_pan, indQ_nrm, indQ_ret, indQ_ext, indQ_pan, resQ, panQ_pan, rawQ, unD, and_self, and_true, true_and, not_true_eq_false, not_false_eq_true, orcA, AcE_call, DcE_call]
  refine Ex_drw' ?_
  simp only [c4, la, lb, xa, xb, hga, hgb, h1, h2, h3, hawake, hc0, AcE_call (f := 16) (args := []) rfl, DcE_call (f := 16) (args := []) rfl, List.length_map, orcB, DrwE_nil, DrwE_plain, DrwE_guard, GdE_true, GdE_false, DcE_q, DcE_push, DcE_rd, drdE, dcallE, Ex_seq, Ex_reg, Ex_ret, Ex_skip, Ex_exit, Ex_block, Ex_cond', condE_true, condE_false, loopQ_nrm, loopQ_ret, loopQ_ext, blockQ_nrm, blockQ_ret, blockQ_ext, OpsE_plain, OpsE_guard, OpsE_nil, GuE_true, GuE_false, guardD, act, callA, ev, upd, putE, AcE_q, AcE_push, AcE_rd', AcE_wr', rdE, wrE, initE, thenQ_nrm, thenQ_ret, thenQ_ext, retQ, qo_s, convD, D.slc, unBytes_bytesP, bytesP_length, binD, scD, blD, scBin, blBin, strBin, intBin, ressD, mapO, resD, D.frz, frzL, frz_cells, D.closed, closedL, closed_cells, mkV_true, gt0, gtk, st0, stk, List.append_assoc, List.length_append, D.fits, D.cells, partD, mkV_false, setAt, iadD, asI, List.map_cons, List.map_nil, List.getElem?_cons_zero, List.getElem?_cons_succ, List.getElem?_nil, List.length_cons, List.length_nil, List.drop_succ_cons, List.drop_zero, List.take_succ_cons, List.take_zero, List.nil_append, List.cons_append, List.set_cons_zero, List.set_cons_succ, Nat.reduceAdd, Nat.reduceLeDiff, Nat.reduceEqDiff, Nat.reduceBEq, beq_iff_eq, reduceCtorEq, ↓reduceIte, Option.map_some, Option.some.injEq, Bool.true_and, Bool.false_and, Bool.and_true, Bool.and_self, Bool.and_false, Bool.or_self, Bool.false_eq_true, b_ff, b_ft, b_tf, b_tt, Bool.not_true, Bool.not_false, BEq.rfl, decide_true, decide_false, Nat.le_refl, callE, zD, snilD, inilD, tasD, fnilD, AcE_tp, AcE_tw, twE, DcE_tp, appD, appSrc, fillD, fillP, D.pcells, cellPure, thenQ_pan, blockQ_pan, loopQ_pan, cntQ_nrm, cntQ_ret, cntQ_ext, cntQ_pan, indQ_nrm, indQ_ret, indQ_ext, indQ_pan, resQ, panQ_pan, rawQ, unD, and_self, and_true, true_and, not_true_eq_false, not_false_eq_true, orcA, AcE_call, DcE_call]
  rfl
end Go.Proofs.YthglfhnlolefhaaGreatDoor

end
section
/- The compiled code of functions 16, printed by a program; each is what the compiler 'trFn' gives. -/
set_option maxRecDepth 100000
namespace Go.Proofs.YthglfhnlolefhaaGreatDoor
open Go.Abs
def c16 : AFn := ⟨45, [(.t 0)], (.seq (.reg [⟨(some 0), none, (.mv (.k (.c (.v (.bool false)))))⟩]) (.seq (.reg [⟨(some 4), none, (.call 52 [(.k (.c (.v (.string ⟨#[102, 116, 112]⟩))))])⟩, ⟨(some 5), none, (.call 52 [(.k (.c (.v (.string ⟨#[42]⟩))))])⟩, ⟨(some 6), none, (.call 52 [(.k (.c (.v (.string ⟨#[112, 114, 101, 102, 105, 120]⟩))))])⟩, ⟨(some 7), none, (.call 52 [(.k (.c (.v (.string ⟨#[47, 112, 117, 98, 47]⟩))))])⟩, ⟨(some 8), none, (.bsl 27 3 [(.v (.bool false)), (.v (.bool false)), (.sl 0 []), (.sl 0 []), (.sl 0 []), (.v (.bool false)), (.v (.bool false)), (.sl 0 []), (.sl 0 []), (.sl 0 []), (.v (.bool false)), (.v (.bool false)), (.sl 0 []), (.sl 0 []), (.sl 0 [])] [⟨0, 5, (.t 5)⟩, ⟨5, 5, (.t 6)⟩, ⟨10, 5, (.t 7)⟩])⟩, ⟨(some 9), none, (.call 51 [(.t 8)])⟩, ⟨(some 10), none, (.bsl 27 2 [(.v (.bool false)), (.v (.bool false)), (.sl 0 []), (.sl 0 []), (.sl 0 []), (.v (.bool false)), (.v (.bool false)), (.sl 0 []), (.sl 0 []), (.sl 0 [])] [⟨0, 5, (.t 4)⟩, ⟨5, 5, (.t 9)⟩])⟩, ⟨(some 11), none, (.call 51 [(.t 10)])⟩, ⟨(some 12), none, (.call 20 [(.t 11)])⟩, ⟨(some 3), none, (.mv (.t 12))⟩, ⟨(some 13), none, (.ext (.t 3) 0)⟩, ⟨(some 14), none, (.ext (.t 3) 1)⟩, ⟨(some 1), none, (.alloc 34 [(.v (.int .u8 0)), (.sl 0 []), (.sl 0 []), (.v (.int .u8 0)), (.v (.bool false)), (.v (.bool false)), (.sl 0 []), (.v (.bool false)), (.v (.bool false)), (.sl 0 [])])⟩, ⟨none, none, (.store 10 (.t 1) (.t 13))⟩, ⟨(some 2), none, (.mv (.t 14))⟩]) (.seq (.reg [⟨(some 15), none, (.mv (.t 2))⟩, ⟨(some 16), none, (.bin .eql .sc (.t 15) (.k (.c (.v (.int .i64 0)))))⟩, ⟨(some 17), none, (.mv (.t 16))⟩, ⟨(some 18), (some (17, true)), (.fad 0 (.t 1))⟩, ⟨(some 19), (some (17, true)), (.load false 1 (.t 18))⟩, ⟨(some 20), (some (17, true)), (.bin .eql .sc (.t 19) (.k (.c (.v (.int .u8 3)))))⟩, ⟨(some 21), none, (.pick (.t 17) (.t 20) (.k (.c (.v (.bool false)))))⟩, ⟨(some 22), none, (.mv (.t 21))⟩, ⟨(some 23), (some (22, true)), (.fad 2 (.t 1))⟩, ⟨(some 24), (some (22, true)), (.load false 1 (.t 23))⟩, ⟨(some 25), (some (22, true)), (.len .sl (.t 24))⟩, ⟨(some 26), (some (22, true)), (.bin .eql .sc (.t 25) (.k (.c (.v (.int .i64 2)))))⟩, ⟨(some 27), none, (.pick (.t 22) (.t 26) (.k (.c (.v (.bool false)))))⟩, ⟨(some 28), none, (.mv (.t 27))⟩, ⟨(some 29), (some (28, true)), (.fad 2 (.t 1))⟩, ⟨(some 30), (some (28, true)), (.load false 1 (.t 29))⟩, ⟨(some 31), (some (28, true)), (.iad (.sl 10) (.t 30) (.k (.c (.v (.int .i64 1)))))⟩, ⟨(some 32), (some (28, true)), (.fad 0 (.t 31))⟩, ⟨(some 33), (some (28, true)), (.load false 1 (.t 32))⟩, ⟨(some 34), (some (28, true)), (.bin .eql .sc (.t 33) (.k (.c (.v (.int .u8 5)))))⟩, ⟨(some 35), none, (.pick (.t 28) (.t 34) (.k (.c (.v (.bool false)))))⟩, ⟨(some 36), none, (.mv (.t 35))⟩, ⟨(some 37), (some (36, true)), (.fad 2 (.t 1))⟩, ⟨(some 38), (some (36, true)), (.load false 1 (.t 37))⟩, ⟨(some 39), (some (36, true)), (.iad (.sl 10) (.t 38) (.k (.c (.v (.int .i64 1)))))⟩, ⟨(some 40), (some (36, true)), (.fad 1 (.t 39))⟩, ⟨(some 41), (some (36, true)), (.load false 1 (.t 40))⟩, ⟨(some 42), (some (36, true)), (.conv .b2s (.t 41))⟩, ⟨(some 43), (some (36, true)), (.bin .eql .sc (.t 42) (.k (.c (.v (.string ⟨#[47, 112, 117, 98, 47]⟩)))))⟩, ⟨(some 44), none, (.pick (.t 36) (.t 43) (.k (.c (.v (.bool false)))))⟩, ⟨(some 0), none, (.mv (.t 44))⟩]) .ret)))⟩
theorem tr16 : trFn Tryz.prog 16 = some c16 := by kernel_rfl
end Go.Proofs.YthglfhnlolefhaaGreatDoor

end
section
/- Own: greffierlaw12.awake. -/
set_option maxRecDepth 100000
set_option linter.unusedSimpArgs false
set_option linter.unusedVariables false
namespace Go.Proofs.YthglfhnlolefhaaGreatDoor
open Go.Abs
theorem callV_map {orc : Orc} {F : FuncId → Option AFn} {n : Nat} {f : FuncId} {args : List D} {r : Res} (h : (callN orc F n f args [] []).map (·.1) = some r) : callV orc F f args = some r := by
  obtain ⟨⟨r', V, T⟩, h1, rfl⟩ := Option.map_eq_some_iff.1 h
  exact callV_of ⟨n, V, T, h1⟩
abbrev atomP (s : List UInt8) : List Go.Abs.P := [boP false, boP false, byP [], byP s, .sl 0 []]
abbrev listP (n : Nat) (cs : List Go.Abs.P) : List Go.Abs.P := [boP true, boP false, byP [], byP [], .sl n cs]
/-- ftp, a list of a star, prefix, /pub/ -/
def ftpV : List Go.Abs.P := listP 2 (atomP [102, 116, 112] ++ listP 3 (atomP [42] ++ (atomP [112, 114, 101, 102, 105, 120] ++ atomP [47, 112, 117, 98, 47])))
theorem aw61 : callV orcA F 61 [.ag (ftpV.map .c)] = some (.ret (boD true)) := callV_map (n := 60) (by kernel_rfl)
def ftpT : List Go.Abs.P := [.v (.int .u8 3), byP [], .sl 2 ([.v (.int .u8 2), byP [102, 116, 112], .sl 0 [], .v (.int .u8 0), boP false, boP false, byP [], boP false, boP false, byP []] ++ [.v (.int .u8 5), byP [47, 112, 117, 98, 47], .sl 0 [], .v (.int .u8 0), boP false, boP false, byP [], boP false, boP false, byP []]), .v (.int .u8 0), boP false, boP false, byP [], boP false, boP false, byP []]
theorem aw62 : callV orcA F 62 [.ag (ftpV.map .c)] = some (.ret (.ag (ftpT.map .c))) := callV_map (n := 60) (by kernel_rfl)
theorem aw20 : getR (.ag (ftpV.map .c)) = some (.tu [.ag (ftpT.map .c), .c (.v (.int .i64 0))]) := by
  unfold getR
  rw [aw61, aw62]
  rfl
theorem run52 (b : ByteArray) : callV orcA F 52 [.c (.v (.string b))] = some (.ret (.ag ((atomP b.data.toList).map .c))) := by
  refine callV_ret tr52 ?_
  simp only [c52, DrwE_nil, DrwE_plain, DrwE_guard, GdE_true, GdE_false, DcE_q, DcE_push, DcE_rd, drdE, dcallE, Ex_seq, Ex_reg, Ex_ret, Ex_skip, Ex_exit, Ex_block, Ex_cond', condE_true, condE_false, loopQ_nrm, loopQ_ret, loopQ_ext, blockQ_nrm, blockQ_ret, blockQ_ext, OpsE_plain, OpsE_guard, OpsE_nil, GuE_true, GuE_false, guardD, act, callA, ev, upd, putE, AcE_q, AcE_push, AcE_rd', AcE_wr', rdE, wrE, initE, thenQ_nrm, thenQ_ret, thenQ_ext, retQ, qo_s, convD, D.slc, unBytes_bytesP, bytesP_length, binD, scD, blD, scBin, blBin, strBin, intBin, ressD, mapO, resD, D.frz, frzL, frz_cells, D.closed, closedL, closed_cells, mkV_true, gt0, gtk, st0, stk, List.append_assoc, List.length_append, D.fits, D.cells, partD, mkV_false, setAt, iadD, asI, List.map_cons, List.map_nil, List.getElem?_cons_zero, List.getElem?_cons_succ, List.getElem?_nil, List.length_cons, List.length_nil, List.drop_succ_cons, List.drop_zero, List.take_succ_cons, List.take_zero, List.nil_append, List.cons_append, List.set_cons_zero, List.set_cons_succ, Nat.reduceAdd, Nat.reduceLeDiff, Nat.reduceEqDiff, Nat.reduceBEq, beq_iff_eq, reduceCtorEq, ↓reduceIte, Option.map_some, Option.some.injEq, Bool.true_and, Bool.false_and, Bool.and_true, Bool.and_self, Bool.and_false, Bool.or_self, Bool.false_eq_true, b_ff, b_ft, b_tf, b_tt, Bool.not_true, Bool.not_false, BEq.rfl, decide_true, decide_false, Nat.le_refl, callE, zD, snilD, inilD, tasD, fnilD, AcE_tp, AcE_tw, twE, DcE_tp, appD, appSrc, fillD, fillP, D.pcells, cellPure, thenQ_pan, blockQ_pan, loopQ_pan, cntQ_nrm, cntQ_ret, cntQ_ext, cntQ_pan, indQ_nrm, indQ_ret, indQ_ext, indQ_pan, resQ, panQ_pan, rawQ, unD, and_self, and_true, true_and, not_true_eq_false, not_false_eq_true, Int.cast_ofNat_Int, Int.reduceLT, Int.reduceLE, Int.reduceBEq, Int.reduceToNat, Nat.reduceMul, Int.zero_le_ofNat, orcA]
  rfl
set_option maxHeartbeats 1000000 in
theorem awake12 : callV orcB F 16 [] = some (.ret (boD true)) := by
  refine callV_ret tr16 ?_
  have h1 := fun b => callV_table tableB (run52 b)
  have h2 : getR (.ag [boD true, boD false, byD [], byD [], .c (.sl 2 [boP false, boP false, byP [], byP [102, 116, 112], .sl 0 [], boP true, boP false, byP [], byP [], .sl 3 [boP false, boP false, byP [], byP [42], .sl 0 [], boP false, boP false, byP [], byP [112, 114, 101, 102, 105, 120], .sl 0 [], boP false, boP false, byP [], byP [47, 112, 117, 98, 47], .sl 0 []]])]) = _ := aw20
  simp only [c16, h1, h2, orcB, getT, listT, ftpT, room, Nat.reducePow, Nat.reduceMul, DrwE_nil, DrwE_plain, DrwE_guard, GdE_true, GdE_false, DcE_q, DcE_push, DcE_rd, drdE, dcallE, Ex_seq, Ex_reg, Ex_ret, Ex_skip, Ex_exit, Ex_block, Ex_cond', condE_true, condE_false, loopQ_nrm, loopQ_ret, loopQ_ext, blockQ_nrm, blockQ_ret, blockQ_ext, OpsE_plain, OpsE_guard, OpsE_nil, GuE_true, GuE_false, guardD, act, callA, ev, upd, putE, AcE_q, AcE_push, AcE_rd', AcE_wr', rdE, wrE, initE, thenQ_nrm, thenQ_ret, thenQ_ext, retQ, qo_s, convD, D.slc, unBytes_bytesP, bytesP_length, binD, scD, blD, scBin, blBin, strBin, intBin, ressD, mapO, resD, D.frz, frzL, frz_cells, D.closed, closedL, closed_cells, mkV_true, gt0, gtk, st0, stk, List.append_assoc, List.length_append, D.fits, D.cells, partD, mkV_false, setAt, iadD, asI, List.map_cons, List.map_nil, List.getElem?_cons_zero, List.getElem?_cons_succ, List.getElem?_nil, List.length_cons, List.length_nil, List.drop_succ_cons, List.drop_zero, List.take_succ_cons, List.take_zero, List.nil_append, List.cons_append, List.set_cons_zero, List.set_cons_succ, Nat.reduceAdd, Nat.reduceLeDiff, Nat.reduceEqDiff, Nat.reduceBEq, beq_iff_eq, reduceCtorEq, ↓reduceIte, Option.map_some, Option.some.injEq, Bool.true_and, Bool.false_and, Bool.and_true, Bool.and_self, Bool.and_false, Bool.or_self, Bool.false_eq_true, b_ff, b_ft, b_tf, b_tt, Bool.not_true, Bool.not_false, BEq.rfl, decide_true, decide_false, Nat.le_refl, callE, zD, snilD, inilD, tasD, fnilD, AcE_tp, AcE_tw, twE, DcE_tp, appD, appSrc, fillD, fillP, D.pcells, cellPure, thenQ_pan, blockQ_pan, loopQ_pan, cntQ_nrm, cntQ_ret, cntQ_ext, cntQ_pan, indQ_nrm, indQ_ret, indQ_ext, indQ_pan, resQ, panQ_pan, rawQ, unD, and_self, and_true, true_and, not_true_eq_false, not_false_eq_true, Int.cast_ofNat_Int, Int.reduceLT, Int.reduceLE, Int.reduceBEq, Int.reduceToNat, Nat.reduceMul, Int.zero_le_ofNat, orcA, AcE_call]
end Go.Proofs.YthglfhnlolefhaaGreatDoor

end
