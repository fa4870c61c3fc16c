/- Own framework, part 32: what a call yields ahead of its freezing; a call's own variables forgotten; a slice held against nil. -/
import Derived.Test.YthglfhnlolefhaaGreatDoorAbsKit
set_option linter.unusedVariables false
set_option linter.unusedSimpArgs false
namespace Go.Abs
open Go.RowKit (Below)

section
variable {P : Program} {orc : Orc} {w w' : World} {g : Gh} {V V2 : List VO} {T T1 : List Nat} {v : Value} {d : D}

theorem rep_low (h : RepD w g T v d) : d.low g.σ.length T.length = true := by
  induction h with
  | c h => rfl
  | @ag cs ds hl h1 hr ih =>
    simp only [D.low, lowL_all, List.all_eq_true]
    intro x hx
    obtain ⟨i, hi, rfl⟩ := List.getElem_of_mem hx
    exact ih i hi
  | @tu cs ds hl hr ih =>
    simp only [D.low, lowL_all, List.all_eq_true]
    intro x hx
    obtain ⟨i, hi, rfl⟩ := List.getElem_of_mem hx
    exact ih i hi
  | fsnil => rfl
  | fs hB hcl hr => rfl
  | ow hn hcl hr ht =>
    obtain ⟨k, h1, _⟩ := ht
    simpa only [D.low, decide_eq_true_eq] using (List.getElem?_eq_some_iff.1 h1).1
  | ip hcl hr => rfl
  | mp h => simpa only [D.low, decide_eq_true_eq] using (List.getElem?_eq_some_iff.1 h).1
  | @fn f cs ds hl hr ih =>
    simp only [D.low, lowL_all, List.all_eq_true]
    intro x hx
    obtain ⟨i, hi, rfl⟩ := List.getElem_of_mem hx
    exact ih i hi
  | ifc h ih => simpa only [D.low] using ih
mutual
theorem low_mono {nv nt nv' nt' : Nat} (hv : nv ≤ nv') (ht : nt ≤ nt') : ∀ (d : D), d.low nv nt = true → d.low nv' nt' = true
  | .c p, _ => rfl
  | .ag cs, h => by
    simp only [D.low] at h ⊢
    exact lowL_mono hv ht cs h
  | .tu cs, h => by
    simp only [D.low] at h ⊢
    exact lowL_mono hv ht cs h
  | .fs n cs, _ => rfl
  | .ow id ver n cs, h => by simp only [D.low, decide_eq_true_eq] at h ⊢; omega
  | .ip cs, _ => rfl
  | .mp id off, h => by simp only [D.low, decide_eq_true_eq] at h ⊢; omega
  | .fn f cs, h => by
    simp only [D.low] at h ⊢
    exact lowL_mono hv ht cs h
  | .ifc t x, h => by
    simp only [D.low] at h ⊢
    exact low_mono hv ht x h
theorem lowL_mono {nv nt nv' nt' : Nat} (hv : nv ≤ nv') (ht : nt ≤ nt') : ∀ (l : List D), lowL nv nt l = true → lowL nv' nt' l = true
  | [], _ => rfl
  | x :: r, h => by
    rw [lowL, Bool.and_eq_true] at h ⊢
    exact ⟨low_mono hv ht x h.1, lowL_mono hv ht r h.2⟩
end

/-- The variables that the call made are not named any more. -/
theorem got_dropV (hS : Sim w g V T) (h : Got w g T w' v d (V ++ V2) T1) (hlow : d.low V.length T1.length = true) (hT : T.length ≤ T1.length) : Got w g T w' v d V T1 := by
  obtain ⟨g1, e1, s1, r1, b1⟩ := h
  have hlt1 : g1.τ.length = T1.length := s1.lt
  have hσ : ∀ {id b : Nat}, (g1.σ.take V.length)[id]? = some b → id < V.length ∧ g1.σ[id]? = some b := fun {id b} h => by
    have h1 := (List.getElem?_eq_some_iff.1 h).1
    have h2 : id < V.length := by simp at h1; omega
    exact ⟨h2, by rw [List.getElem?_take_of_lt h2] at h; exact h⟩
  have hmem : ∀ b, b ∈ g1.σ.take V.length ++ g1.τ.map (·.blk) → b ∈ g1.σ ++ g1.τ.map (·.blk) := fun b hb => by
    rcases List.mem_append.1 hb with hb | hb
    · exact List.mem_append.2 (.inl (List.mem_of_mem_take hb))
    · exact List.mem_append.2 (.inr hb)
  have hlowV : ∀ (id : Nat) (o : VO), V[id]? = some o → o.it = false → ∀ x ∈ o.cs, x.low V.length T1.length = true := fun id o ho hit x hx => by
    obtain ⟨b, hb⟩ : ∃ b, g.σ[id]? = some b := ⟨_, List.getElem?_eq_getElem (by rw [hS.lv]; exact (List.getElem?_eq_some_iff.1 ho).1)⟩
    rcases hS.var id o b ho hb with ⟨k1, _⟩ | ⟨_, arr, t, fr, _, _, _, k5⟩
    · rw [k1] at hit; simp at hit
    · obtain ⟨i, hi, rfl⟩ := List.getElem_of_mem hx
      have := rep_low (k5.2 i hi)
      rw [hS.lv] at this
      exact low_mono (Nat.le_refl _) hT _ this
  refine ⟨{ g1 with σ := g1.σ.take V.length }, ⟨e1.B, e1.imm, fun id b hb => ?_, e1.τ, e1.inew⟩, ?_, ?_, b1⟩
  · have := (List.getElem?_eq_some_iff.1 hb).1
    show (g1.σ.take V.length)[id]? = some b
    rw [List.getElem?_take_of_lt (by rw [← hS.lv]; exact this)]
    exact e1.σ id b hb
  · exact {
      lv := by have := s1.lv; simp at this ⊢; omega
      lt := s1.lt
      var := fun id o b ho hs => by
        obtain ⟨h1, h2⟩ := hσ hs
        have ho' : (V ++ V2)[id]? = some o := by rw [List.getElem?_append_left h1]; exact ho
        rcases s1.var id o b ho' h2 with ⟨k1, k2, s, p, k3, k4⟩ | ⟨k1, arr, t, fr, k2, k3, k4, k5⟩
        · exact .inl ⟨k1, k2, s, p, k3, k4⟩
        · refine .inr ⟨k1, arr, t, fr, k2, k3, k4, k5.1, fun i hi => ?_⟩
          have := low_rep (g' := { g1 with σ := g1.σ.take V.length }) (nt := T1.length) (k5.2 i hi) rfl rfl rfl (by rw [← hlt1, List.take_length]) (hlowV id o ho k1 _ (List.getElem_mem hi))
          rwa [List.take_length] at this
      tok := s1.tok
      nd := by
        show (g1.σ.take V.length ++ g1.τ.map (·.blk)).Nodup
        exact s1.nd.sublist (List.Sublist.append (List.take_sublist _ _) (List.Sublist.refl _))
      base := fun b hb => s1.base b (hmem b hb)
      hB := s1.hB
      ilt := s1.ilt
      iv := fun b o id vo hi hs hv => by
        obtain ⟨h1, h2⟩ := hσ hs
        exact s1.iv b o id vo hi h2 (by rw [List.getElem?_append_left h1]; exact hv)
      it := s1.it }
  · have := low_rep (g' := { g1 with σ := g1.σ.take V.length }) (nt := T1.length) r1 rfl rfl rfl (by rw [← hlt1, List.take_length]) hlow
    rwa [List.take_length] at this

/-- A result, not frozen. -/
def rawD (l : List D) : D := match l with
  | [x] => x
  | xs => .tu xs
theorem ress_raw {fn : Func} {a : Act} {ds : List Deferred} {nt : Nat} {w0 : World} {g0 : Gh} {T0 : List Nat} {s : St} {rs : List ARes} {l : List D} (hm : mapO (trRes P) fn.results.toList = some rs) (hd : mapO (resD s) rs = some l) (hL : Lay ds nt w0 g0 T0 s a w) :
    a.defers = ds ∧ ∃ v, (results fn a.tmps).run P w = .ok v w ∧ Got w0 g0 T0 w v (rawD l) s.V s.T := by
  obtain ⟨g, h1, h2, h3, h4, h5, h6⟩ := hL
  refine ⟨h5, ?_⟩
  obtain ⟨vs, k1, k2⟩ := res_list h2 h3 hm hd
  have hrun : (results fn a.tmps).run P w = .ok (if h : vs.toArray.size = 1 then vs.toArray[0] else .tuple vs.toArray) w := by
    have e : results fn a.tmps = (do
        let vs ← List.toArray <$> fn.results.toList.mapM (resM a.tmps)
        pure (if h : vs.size = 1 then vs[0] else .tuple vs)) := by
      unfold results
      rw [Array.mapM_eq_mapM_toList]
      rfl
    rw [e]
    simp only [Sem.run_bind, Sem.run_map, k1, Result.andThen_ok, Sem.run_pure]
  refine ⟨_, hrun, g, h1, h2, ?_, h6⟩
  match l, k2 with
  | [x], k2 =>
    have hsz : vs.toArray.size = 1 := by rw [k2.1]; rfl
    rw [dif_pos hsz]
    have := k2.2 0 (by simp)
    simpa [rawD, Array.getD_eq_getD_getElem?, hsz] using this
  | [], k2 =>
    rw [dif_neg (by rw [k2.1]; simp)]
    exact .tu k2.1 k2.2
  | x :: y :: r, k2 =>
    rw [dif_neg (by rw [k2.1]; simp)]
    exact .tu k2.1 k2.2

/-- What a call yields, not frozen. -/
theorem callee_raw (hO : OrcOk P orc) (hw : P.follows .mixedOrders = true) {f : FuncId} {af : AFn} (hf : trFn P f = some af) {args : List D} {n : Nat} {o : Out} {s' : St} (hex : execN orc (trFn P) n af.body ⟨initE args, V, T⟩ = some (o, s'))
    (ho : (match o with | .nrm | .ret => True | _ => False)) {l : List D} (hres : mapO (resD s') af.res = some l) {cargs : Array Value} (hS : Sim w g V T) (hR : RepL w g T cargs args) :
    Enters P f ∧ Calls P f cargs w fun e w' => ∃ v, e = .returned v ∧ Got w g T w' v (rawD l) s'.V s'.T := by
  obtain ⟨fn, c, h1, h2, h3, h4, h5⟩ := trFn_spec hf
  refine ⟨⟨fn, h1, h2, by simp [h3]⟩, calls_of_wp h1 h3 ?_⟩
  have hL : Lay [] fn.ntmps w g T ⟨initE args, V, T⟩ { tmps := cargs ++ Array.replicate (fn.ntmps - cargs.size) undef, defers := [] } w :=
    ⟨g, Ext.refl _ _ _, hS, initE_ok hR _, by simp; omega, rfl, Below.refl _ _⟩
  refine (exec_ok (agOk P) hO hw n).1 [] fn.ntmps w g T c af.body _ _ _ w _ h4 hL hex ?_
  cases o with
  | nrm =>
    intro a' w' hL'
    obtain ⟨k1, v, k2, k3⟩ := ress_raw h5 hres hL'
    exact ⟨k1, v, k2, v, rfl, k3⟩
  | ret =>
    intro a' w' hL'
    obtain ⟨k1, v, k2, k3⟩ := ress_raw h5 hres hL'
    exact ⟨k1, v, k2, v, rfl, k3⟩
  | ext i => exact ho.elim
  | pan d => exact ho.elim

def rawQ (res : List ARes) (l : List D) (V : List VO) (T : List Nat) : Out → St → Prop
  | .nrm, s | .ret, s => mapO (resD s) res = some l ∧ s.V = V ∧ s.T = T
  | _, _ => False
theorem callee_rawE (hO : OrcOk P orc) (hw : P.follows .mixedOrders = true) {f : FuncId} {af : AFn} (hf : trFn P f = some af) {args : List D} {l : List D} {V1 : List VO} {T1 : List Nat} (hex : Ex orc (trFn P) af.body ⟨initE args, V, T⟩ (rawQ af.res l V1 T1))
    {cargs : Array Value} (hS : Sim w g V T) (hR : RepL w g T cargs args) : Enters P f ∧ Calls P f cargs w fun e w' => ∃ v, e = .returned v ∧ Got w g T w' v (rawD l) V1 T1 := by
  obtain ⟨n, o, s', h1, h2⟩ := hex
  cases o with
  | nrm => obtain ⟨k1, k2, k3⟩ := h2; subst k2; subst k3; exact callee_raw hO hw hf h1 trivial k1 hS hR
  | ret => obtain ⟨k1, k2, k3⟩ := h2; subst k2; subst k3; exact callee_raw hO hw hf h1 trivial k1 hS hR
  | ext i => exact h2.elim
  | pan d => exact h2.elim

/-- An empty slice held against nil: the answer is not known. -/
theorem oper_snil {ops : Array Oper} {o : Oper} {i d t t' et : Nat} {x : Operand} {x' : Opd} {ds : List Deferred} {nt : Nat} {w0 : World} {g0 : Gh} {T0 : List Nat} {s : St} {a : Act} {K : Act → World → Prop} {Q : Exit → Act → World → Prop}
    (hi : ops[i]? = some o) (hop : o.op = .binOp .eql t x (.const (.slice none 0 0)) t') (hg : o.guard = none) (hd : o.dst = some d) (hdn : d < nt) (ht : P.underlying t = some (.slice et)) (hx : opd x = some x') (hL : Lay ds nt w0 g0 T0 s a w) {cs : List Go.Abs.P}
    (hs : (ev s.e x').slc = some (0, cs)) (hk : ∀ (b : Bool) a w, Lay ds nt w0 g0 T0 ⟨upd s.e d (boD b), s.V, s.T⟩ a w → K a w) : wpOp P ops Q i K a w := by
  unfold wpOp
  simp only [hi]
  obtain ⟨g, h1, h2, h3, h4, h5, h6⟩ := hL
  have hwt : Region.wanted o (yielded ops a.tmps) = true := by simp [Region.wanted, hg]
  rw [hwt]
  simp only [if_true]
  refine .inl ?_
  have hv := slc_rep (opd_rep h3 hx) hs
  obtain ⟨ad, cap, hv2⟩ : ∃ ad cap, a.eval x = .slice ad 0 cap := by
    rcases hv with ⟨hv, _⟩ | ⟨ad, cap, us, hv, _⟩
    · exact ⟨none, 0, hv⟩
    · exact ⟨_, _, hv⟩
  have hk0 : a.eval (.const (.slice none 0 0)) = .slice none 0 0 := rfl
  unfold Oper.wp
  have hrun : (execOp a.eval o).run P w = .ok (.value (.bool ad.isNone)) w := by
    simp only [execOp, hop, hv2, hk0, Sem.run_bind, eqGuard_sc (P := P) (w := w) (u := .slice ad 0 cap) (fun cs => by simp) (by simp), Result.andThen_ok, Sem.run_pure, binOp, equal_slnil ht]
  rw [hrun]
  simp only [Oper.upon]
  refine hk ad.isNone _ _ ⟨g, h1, h2, ?_, by rw [put_size]; exact h4, by simp [Act.put, hd, h5], h6⟩
  have := h3.put (dst := o.dst) (x := .bool ad.isNone) (y := boD ad.isNone) (fun d' hd' => by rw [hd] at hd'; simp only [Option.some.injEq] at hd'; subst hd'; exact Nat.lt_of_lt_of_le hdn h4) (sc_rep rfl)
  rw [hd] at this ⊢
  exact this
mutual
theorem frz_idem : ∀ d : D, d.frz.frz = d.frz
  | .c p => rfl
  | .ag cs => by simp only [D.frz, frzL_idem cs]
  | .tu cs => by simp only [D.frz, frzL_idem cs]
  | .fs n cs => rfl
  | .ow id ver n cs => rfl
  | .ip cs => rfl
  | .mp id off => rfl
  | .fn f cs => by simp only [D.frz, frzL_idem cs]
  | .ifc t x => by simp only [D.frz, frz_idem x]
theorem frzL_idem : ∀ l : List D, frzL (frzL l) = frzL l
  | [] => rfl
  | x :: r => by simp only [frzL, frz_idem x, frzL_idem r]
end
theorem ressD_frz {s : St} {l : List ARes} {d : D} (h : ressD s l = some d) : d.frz = d := by
  unfold ressD at h
  split at h
  · simp only [Option.some.injEq] at h
    rw [← h, frz_idem]
  · simp only [Option.some.injEq] at h
    rw [← h]
    simp only [D.frz, frzL_idem]
  · simp at h
theorem callV_frz {orc : Orc} {F : FuncId → Option AFn} {f : FuncId} {args : List D} {d : D} (h : callV orc F f args = some (.ret d)) : d.frz = d := by
  obtain ⟨n, V, T, hr⟩ := of_callV h
  unfold callN at hr
  cases hf : F f with
  | none => rw [hf] at hr; simp at hr
  | some fn =>
    rw [hf] at hr
    simp only [] at hr
    split at hr
    · split at hr
      · rename_i hd
        simp only [Option.some.injEq, Prod.mk.injEq, Res.ret.injEq] at hr
        rw [← hr.1]
        exact ressD_frz hd
      · simp at hr
    · split at hr
      · rename_i hd
        simp only [Option.some.injEq, Prod.mk.injEq, Res.ret.injEq] at hr
        rw [← hr.1]
        exact ressD_frz hd
      · simp at hr
    · simp at hr
    · simp at hr
end
end Go.Abs
