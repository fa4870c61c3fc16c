/- Own framework, part 2: what the abstract interpreter comes to, whatever the number of rounds; rules for simp. -/
import Derived.Test.YthglfhnlolefhaaGreatDoorAbsDefs
set_option linter.unusedVariables false
set_option linter.unusedSimpArgs false
namespace Go.Abs

/-! ### more rounds give the same answer -/
def LeC (c c' : CallF) : Prop := ∀ f a V T r, c f a V T = some r → c' f a V T = some r
def LeL (l l' : ACode → St → Option (Out × St)) : Prop := ∀ c s r, l c s = some r → l' c s = some r

section
variable {call call' : CallF} (h : LeC call call')
include h
theorem doAc_le {V : List VO} {T : List Nat} {a : Ac} {r : Out1 × Lab} (hr : doAc call V T a = some r) : doAc call' V T a = some r := by
  cases a with
  | call f args =>
    simp only [doAc] at hr ⊢
    split at hr <;> rename_i hc
    · rw [if_pos hc]
      cases e : call f args [] [] with
      | none => rw [e] at hr; simp at hr
      | some x => rw [h _ _ _ _ _ e]; rw [e] at hr; exact hr
    · rw [if_neg hc]
      cases e : call f args V T with
      | none => rw [e] at hr; simp at hr
      | some x => rw [h _ _ _ _ _ e]; rw [e] at hr; exact hr
  | _ => exact hr

end
/-- What is done is done there too: by another table, by other callees. -/
def SLe (orc : Orc) (call : CallF) (orc' : Orc) (call' : CallF) : Prop := ∀ e op V T a r, act orc e op = some a → doAc call V T a = some r → ∃ a', act orc' e op = some a' ∧ doAc call' V T a' = some r
theorem LeC.s {orc : Orc} {call call' : CallF} (h : LeC call call') : SLe orc call orc call' := fun e op V T a r ha hd => ⟨a, ha, doAc_le h hd⟩
section
variable {orc orc' : Orc} {call call' : CallF} (h : SLe orc call orc' call')
include h
theorem runOps_le : ∀ (l : List AOper) (s : St) (r : Out × St), runOps orc call l s = some r → runOps orc' call' l s = some r
  | [], s, r, hr => hr
  | o :: l, s, r, hr => by
    unfold runOps at hr ⊢
    cases hg : guardD s.e o.g with
    | none => rw [hg] at hr; simp at hr
    | some b =>
      rw [hg] at hr
      cases b with
      | false => exact runOps_le l _ _ hr
      | true =>
        simp only [] at hr ⊢
        cases ha : act orc s.e o.op with
        | none => rw [ha] at hr; simp at hr
        | some a =>
          rw [ha] at hr
          simp only [] at hr
          cases hd : doAc call s.V s.T a with
          | none => rw [hd] at hr; simp at hr
          | some x =>
            obtain ⟨a', ha', hd'⟩ := h _ _ _ _ _ _ ha hd
            rw [ha']
            simp only []
            rw [hd']
            rw [hd] at hr
            obtain ⟨o1, l1⟩ := x
            cases o1 with
            | ok d V T => exact runOps_le l _ _ hr
            | pan d V T => exact hr

theorem stepO_le {o : AOper} {s : St} {r : Lab × St} (hr : stepO orc call o s = some r) : stepO orc' call' o s = some r := by
  unfold stepO at hr ⊢
  cases hg : guardD s.e o.g with
  | none => rw [hg] at hr; simp at hr
  | some b =>
    rw [hg] at hr
    cases b with
    | false => exact hr
    | true =>
      simp only [] at hr ⊢
      cases ha : act orc s.e o.op with
      | none => rw [ha] at hr; simp at hr
      | some a =>
        rw [ha] at hr
        simp only [] at hr
        cases hd : doAc call s.V s.T a with
        | none => rw [hd] at hr; simp at hr
        | some x =>
          obtain ⟨a', ha', hd'⟩ := h _ _ _ _ _ _ ha hd
          rw [ha']
          simp only []
          rw [hd']
          rw [hd] at hr
          exact hr

theorem runDrw_le : ∀ (l : List AOper) (s : St) (r : List Lab × St), runDrw orc call l s = some r → runDrw orc' call' l s = some r
  | [], s, r, hr => hr
  | o :: l, s, r, hr => by
    unfold runDrw at hr ⊢
    cases hs : stepO orc call o s with
    | none => rw [hs] at hr; simp at hr
    | some x =>
      rw [stepO_le h hs]
      rw [hs] at hr
      obtain ⟨l1, s1⟩ := x
      simp only [] at hr ⊢
      cases hd : runDrw orc call l s1 with
      | none => rw [hd] at hr; simp at hr
      | some y => rw [runDrw_le l _ _ hd]; rw [hd] at hr; exact hr

theorem panO_le {o : AOper} {s : St} {d : D} (hr : panO orc call o s = some d) : panO orc' call' o s = some d := by
  unfold panO at hr ⊢
  split at hr
  · rename_i hg
    cases ha : act orc s.e o.op with
    | none => rw [ha] at hr; simp at hr
    | some a =>
      rw [ha] at hr
      simp only [] at hr
      cases hd : doAc call s.V s.T a with
      | none => rw [hd] at hr; simp at hr
      | some x =>
        obtain ⟨a', ha', hd'⟩ := h _ _ _ _ _ _ ha hd
        rw [ha']
        simp only []
        rw [hd']
        rw [hd] at hr
        exact hr
  · simp at hr
omit h in
theorem panO_not {o : AOper} {s : St} {d : D} (hr : panO orc call o s = some d) : stepO orc call o s = none := by
  unfold panO at hr
  unfold stepO
  split at hr
  · rename_i hg
    simp only [hg]
    cases ha : act orc s.e o.op with
    | none => rfl
    | some a =>
      rw [ha] at hr
      simp only [] at hr ⊢
      split at hr
      · rename_i hd; rw [hd]
      · simp at hr
  · simp at hr
theorem runPanW_le {ps : List (Nat × Nat)} {j0 : Nat} : ∀ (l : List AOper) (i : Nat) (bl : List Nat) (s : St) (r : List (Option Lab) × St), runPanW orc call ps j0 i l bl s = some r → runPanW orc' call' ps j0 i l bl s = some r
  | [], i, bl, s, r, hr => hr
  | o :: l, i, bl, s, r, hr => by
    unfold runPanW at hr ⊢
    split at hr
    · rename_i hc
      rw [if_pos hc]
      cases hw : runPanW orc call ps j0 (i + 1) l (i :: bl) s with
      | none => rw [hw] at hr; simp at hr
      | some x => rw [runPanW_le l _ _ _ _ hw]; rw [hw] at hr; exact hr
    · rename_i hc
      rw [if_neg hc]
      cases hs : stepO orc call o s with
      | none => rw [hs] at hr; simp at hr
      | some y =>
        rw [stepO_le h hs]
        rw [hs] at hr
        simp only [] at hr ⊢
        cases hw : runPanW orc call ps j0 (i + 1) l bl y.2 with
        | none => rw [hw] at hr; simp at hr
        | some x => rw [runPanW_le l _ _ _ _ hw]; rw [hw] at hr; exact hr
theorem panAt_le : ∀ (l : List AOper) (s : St) (j : Nat), panAt orc call l s = some j → panAt orc' call' l s = some j
  | [], s, j, hr => by simp [panAt] at hr
  | o :: l, s, j, hr => by
    unfold panAt at hr ⊢
    cases hp : panO orc call o s with
    | some d => rw [panO_le h hp]; rw [hp] at hr; exact hr
    | none =>
      rw [hp] at hr
      simp only [] at hr
      cases hs : stepO orc call o s with
      | none => rw [hs] at hr; simp at hr
      | some y =>
        obtain ⟨lb, s1⟩ := y
        rw [hs] at hr
        simp only [] at hr
        have hs' := stepO_le h hs
        have hp' : panO orc' call' o s = none := by
          cases hx : panO orc' call' o s with
          | none => rfl
          | some d => rw [panO_not hx] at hs'; simp at hs'
        rw [hp', hs']
        simp only []
        cases ha : panAt orc call l s1 with
        | none => rw [ha] at hr; simp at hr
        | some j' => rw [panAt_le l _ _ ha]; rw [ha] at hr; exact hr
omit h in
theorem panAt_not : ∀ (l : List AOper) (s : St) (j : Nat), panAt orc call l s = some j → runDrw orc call l s = none
  | [], s, j, hr => by simp [panAt] at hr
  | o :: l, s, j, hr => by
    unfold panAt at hr
    unfold runDrw
    cases hp : panO orc call o s with
    | some d => rw [panO_not hp]
    | none =>
      rw [hp] at hr
      simp only [] at hr
      cases hs : stepO orc call o s with
      | none => rfl
      | some y =>
        obtain ⟨lb, s1⟩ := y
        rw [hs] at hr
        simp only [] at hr ⊢
        cases ha : panAt orc call l s1 with
        | none => rw [ha] at hr; simp at hr
        | some j' => rw [panAt_not l _ _ ha]
omit h in
theorem runPan_not {ps : List (Nat × Nat)} {l : List AOper} {s : St} {d : D} (hr : runPan orc call ps l s = some d) : runDrw orc call l s = none := by
  unfold runPan at hr
  cases ha : panAt orc call l s with
  | none => rw [ha] at hr; simp at hr
  | some j => exact panAt_not _ _ _ ha
theorem runPan_le {ps : List (Nat × Nat)} {l : List AOper} {s : St} {d : D} (hr : runPan orc call ps l s = some d) : runPan orc' call' ps l s = some d := by
  unfold runPan at hr ⊢
  cases ha : panAt orc call l s with
  | none => rw [ha] at hr; simp at hr
  | some j =>
    rw [ha] at hr
    rw [panAt_le h _ _ _ ha]
    simp only [] at hr ⊢
    cases ho : l[j]? with
    | none => rw [ho] at hr; simp at hr
    | some o =>
      rw [ho] at hr
      simp only [] at hr ⊢
      cases hw : runPanW orc call ps j 0 l [] s with
      | none => rw [hw] at hr; simp at hr
      | some x =>
        rw [hw] at hr
        rw [runPanW_le h _ _ _ _ _ hw]
        obtain ⟨ls, s2⟩ := x
        simp only [] at hr ⊢
        split at hr
        · rename_i hc; rw [if_pos hc]; exact panO_le h hr
        · simp at hr
theorem execDrw_le {ps : List (Nat × Nat)} {l : List AOper} {s : St} {r : Out × St} (hr : execDrw orc call l ps s = some r) : execDrw orc' call' l ps s = some r := by
  unfold execDrw at hr ⊢
  cases hd : runDrw orc call l s with
  | some x => rw [runDrw_le h _ _ _ hd]; rw [hd] at hr; exact hr
  | none =>
    rw [hd] at hr
    simp only [] at hr
    cases hp : runPan orc call ps l s with
    | none => rw [hp] at hr; simp at hr
    | some d =>
      have hp' := runPan_le h hp
      rw [runPan_not hp', hp']
      rw [hp] at hr
      exact hr
theorem execC_le {lf lf' : ACode → St → Option (Out × St)} (hl : LeL lf lf') : ∀ (c : ACode) (s : St) (r : Out × St), execC orc call lf c s = some r → execC orc' call' lf' c s = some r := by
  intro c
  induction c with
  | skip => intro s r hr; exact hr
  | reg ops => intro s r hr; exact runOps_le h ops s r hr
  | drw ops ps =>
    intro s r hr
    exact execDrw_le h hr
  | seq a b iha ihb =>
    intro s r hr
    simp only [execC] at hr ⊢
    cases hd : execC orc call lf a s with
    | none => rw [hd] at hr; simp at hr
    | some x =>
      rw [iha _ _ hd]
      rw [hd] at hr
      obtain ⟨o1, s1⟩ := x
      cases o1 with
      | nrm => exact ihb _ _ hr
      | _ => exact hr
  | cond c a b iha ihb =>
    intro s r hr
    simp only [execC] at hr ⊢
    split at hr
    · rename_i t ht
      cases t with
      | true => exact iha _ _ hr
      | false => exact ihb _ _ hr
    · simp at hr
  | block id c ih =>
    intro s r hr
    simp only [execC] at hr ⊢
    cases hd : execC orc call lf c s with
    | none => rw [hd] at hr; simp at hr
    | some x => rw [ih _ _ hd]; rw [hd] at hr; exact hr
  | loop c ih =>
    intro s r hr
    simp only [execC] at hr ⊢
    cases hd : execC orc call lf c s with
    | none => rw [hd] at hr; simp at hr
    | some x =>
      rw [ih _ _ hd]
      rw [hd] at hr
      obtain ⟨o1, s1⟩ := x
      cases o1 with
      | nrm => exact hl _ _ _ hr
      | _ => exact hr
  | exit id => intro s r hr; exact hr
  | ret => intro s r hr; exact hr
end

section
variable (orc : Orc) (F : FuncId → Option AFn)
theorem execN_succ (n : Nat) (c : ACode) (s : St) : execN orc F (n + 1) c s = execC orc (callN orc F n) (fun c s => execN orc F n (.loop c) s) c s := rfl
variable {orc F}
theorem callN_le {n m : Nat} (h : ∀ c s r, execN orc F n c s = some r → execN orc F m c s = some r) : LeC (callN orc F n) (callN orc F m) := by
  intro f a V T r hr
  unfold callN at hr ⊢
  cases hf : F f with
  | none => rw [hf] at hr; simp at hr
  | some fn =>
    rw [hf] at hr
    simp only [] at hr ⊢
    cases he : execN orc F n fn.body ⟨initE a, V, T⟩ with
    | none => rw [he] at hr; simp at hr
    | some x => rw [h _ _ _ he]; rw [he] at hr; exact hr
theorem execN_step : ∀ n c s r, execN orc F n c s = some r → execN orc F (n + 1) c s = some r := by
  intro n
  induction n with
  | zero => intro c s r h; simp [execN] at h
  | succ n ih =>
    intro c s r h
    rw [execN_succ] at h ⊢
    exact execC_le (callN_le ih).s (fun c s r hr => ih _ _ _ hr) c s r h
theorem execN_le {n m : Nat} (h : n ≤ m) {c : ACode} {s : St} {r : Out × St} (hr : execN orc F n c s = some r) : execN orc F m c s = some r := by
  induction h with
  | refl => exact hr
  | step _ ih => exact execN_step _ _ _ _ ih
theorem callN_mono {n m : Nat} (h : n ≤ m) : LeC (callN orc F n) (callN orc F m) := callN_le fun _ _ _ hr => execN_le h hr
end

/-- The second table has what the first one has; what it has beside has no code. -/
def OLe (F : FuncId → Option AFn) (o o' : Orc) : Prop := ∀ f, o' f = o f ∨ (o f = none ∧ F f = none)
theorem OLe.s {F : FuncId → Option AFn} {o o' : Orc} (h : OLe F o o') {n : Nat} {call' : CallF} (hc : LeC (callN o F n) call') : SLe o (callN o F n) o' call' := by
  intro e op V T a r ha hd
  have key : ∀ f args, callA o f args = some a → callA o' f args = some a ∨ doAc (callN o F n) V T a = none := by
    intro f args hx
    rcases h f with h1 | ⟨h1, h2⟩
    · left; unfold callA at hx ⊢; rw [h1]; exact hx
    · right
      unfold callA at hx
      rw [h1] at hx
      simp only [Option.some.injEq] at hx
      subst hx
      have hn : ∀ V T, callN o F n f (frzL args) V T = none := fun V T => by unfold callN; rw [h2]
      simp only [doAc, hn]
      split <;> rfl
  have same : (∀ f xs, op ≠ .call f xs) → (∀ x xs, op ≠ .dyn x xs) → act o' e op = act o e op := fun h1 h2 => by
    cases op with
    | call f xs => exact absurd rfl (h1 f xs)
    | dyn x xs => exact absurd rfl (h2 x xs)
    | _ => rfl
  refine ⟨a, ?_, doAc_le hc hd⟩
  cases op with
  | call f xs =>
    simp only [act] at ha ⊢
    rcases key f _ ha with h1 | h1
    · exact h1
    · rw [h1] at hd; simp at hd
  | dyn x xs =>
    simp only [act] at ha ⊢
    split at ha
    · rcases key _ _ ha with h1 | h1
      · exact h1
      · rw [h1] at hd; simp at hd
    · simp at ha
  | _ => rw [same (fun _ _ => by simp) (fun _ _ => by simp)]; exact ha
theorem execN_table {F : FuncId → Option AFn} {o o' : Orc} (h : OLe F o o') : ∀ n c s r, execN o F n c s = some r → execN o' F n c s = some r := by
  intro n
  induction n with
  | zero => intro c s r hr; simp [execN] at hr
  | succ n ih =>
    intro c s r hr
    rw [execN_succ] at hr ⊢
    refine execC_le (OLe.s h ?_) (fun c s r hr => ih _ _ _ hr) c s r hr
    intro f a V T r hr
    unfold callN at hr ⊢
    cases hf : F f with
    | none => rw [hf] at hr; simp at hr
    | some fn =>
      rw [hf] at hr
      simp only [] at hr ⊢
      cases he : execN o F n fn.body ⟨initE a, V, T⟩ with
      | none => rw [he] at hr; simp at hr
      | some x => rw [ih _ _ _ he]; rw [he] at hr; exact hr

/-! ### what it comes to -/
section
variable (orc : Orc) (F : FuncId → Option AFn)
def Ex (c : ACode) (s : St) (Q : Out → St → Prop) : Prop := ∃ n o s', execN orc F n c s = some (o, s') ∧ Q o s'
def OpsE (l : List AOper) (s : St) (Q : Out → St → Prop) : Prop := ∃ n o s', runOps orc (callN orc F n) l s = some (o, s') ∧ Q o s'
def thenQ (b : ACode) (Q : Out → St → Prop) : Out → St → Prop
  | .nrm, s => Ex orc F b s Q
  | o, s => Q o s
def blockQ (id : Nat) (Q : Out → St → Prop) : Out → St → Prop
  | .ext i, s => if i = id then Q .nrm s else Q (.ext i) s
  | o, s => Q o s
def loopQ (c : ACode) (Q : Out → St → Prop) : Out → St → Prop
  | .nrm, s => Ex orc F (.loop c) s Q
  | o, s => Q o s
/-- What a call with these values comes to, in a frame of its own. -/
def Cl (f : FuncId) (args : List D) (r : Res) : Prop := ∃ n V T, callN orc F n f args [] [] = some (r, V, T)
noncomputable def callV (f : FuncId) (args : List D) : Option Res :=
  open Classical in if h : ∃ r, Cl orc F f args r then some h.choose else none
noncomputable def callO (f : FuncId) (args : List D) (V : List VO) (T : List Nat) : Option (Res × List VO × List Nat) :=
  open Classical in if h : ∃ r, ∃ n, callN orc F n f args V T = some r then some h.choose else none
def acRun (call : CallF) (a : Option Ac) (d : Option Nat) (l : List AOper) (s : St) : Option (Out × St) :=
  match a with
  | none => none
  | some a => match doAc call s.V s.T a with
    | none => none
    | some (.ok x V T, _) => runOps orc call l ⟨putE s.e d x, V, T⟩
    | some (.pan x V T, _) => some (.pan x, ⟨s.e, V, T⟩)
def AcE (a : Option Ac) (d : Option Nat) (l : List AOper) (s : St) (Q : Out → St → Prop) : Prop :=
  ∃ n o s', acRun orc (callN orc F n) a d l s = some (o, s') ∧ Q o s'
def GuE (g : Option Bool) (op : AOp) (d : Option Nat) (l : List AOper) (s : St) (Q : Out → St → Prop) : Prop :=
  match g with
  | none => False
  | some false => OpsE orc F l ⟨putE s.e d und, s.V, s.T⟩ Q
  | some true => AcE orc F (act orc s.e op) d l s Q
end

section
variable {orc : Orc} {F : FuncId → Option AFn} {Q : Out → St → Prop} {s : St}
theorem Cl_det {f : FuncId} {args : List D} {r r' : Res} (h : Cl orc F f args r) (h' : Cl orc F f args r') : r = r' := by
  obtain ⟨n, V, T, h⟩ := h
  obtain ⟨m, V', T', h'⟩ := h'
  have h1 := callN_mono (orc := orc) (F := F) (Nat.le_max_left n m) _ _ _ _ _ h
  have h2 := callN_mono (orc := orc) (F := F) (Nat.le_max_right n m) _ _ _ _ _ h'
  rw [h1] at h2
  simp only [Option.some.injEq, Prod.mk.injEq] at h2
  exact h2.1
theorem callV_of {f : FuncId} {args : List D} {r : Res} (h : Cl orc F f args r) : callV orc F f args = some r := by
  have hx : ∃ r, Cl orc F f args r := ⟨r, h⟩
  unfold callV
  rw [dif_pos hx]
  exact congrArg some (Cl_det hx.choose_spec h)
theorem Cl_table {o o' : Orc} (h : OLe F o o') {f : FuncId} {args : List D} {r : Res} (hc : Cl o F f args r) : Cl o' F f args r := by
  obtain ⟨n, V, T, hr⟩ := hc
  refine ⟨n, V, T, ?_⟩
  unfold callN at hr ⊢
  cases hf : F f with
  | none => rw [hf] at hr; simp at hr
  | some fn =>
    rw [hf] at hr
    simp only [] at hr ⊢
    cases he : execN o F n fn.body ⟨initE args, [], []⟩ with
    | none => rw [he] at hr; simp at hr
    | some x => rw [execN_table h _ _ _ _ he]; rw [he] at hr; exact hr
theorem of_callV {f : FuncId} {args : List D} {r : Res} (h : callV orc F f args = some r) : Cl orc F f args r := by
  unfold callV at h
  split at h
  · rename_i hx
    have := hx.choose_spec
    rwa [Option.some.inj h] at this
  · simp at h
theorem callV_table {o o' : Orc} (h : OLe F o o') {f : FuncId} {args : List D} {r : Res} (hc : callV o F f args = some r) : callV o' F f args = some r := callV_of (Cl_table h (of_callV hc))
theorem callO_of {f : FuncId} {args : List D} {V : List VO} {T : List Nat} {r : Res × List VO × List Nat} {n : Nat} (h : callN orc F n f args V T = some r) : callO orc F f args V T = some r := by
  have hx : ∃ r, ∃ n, callN orc F n f args V T = some r := ⟨r, n, h⟩
  unfold callO
  rw [dif_pos hx]
  obtain ⟨m, hm⟩ := hx.choose_spec
  have h1 := callN_mono (orc := orc) (F := F) (Nat.le_max_left n m) _ _ _ _ _ h
  have h2 := callN_mono (orc := orc) (F := F) (Nat.le_max_right n m) _ _ _ _ _ hm
  rw [h1] at h2
  exact h2.symm
theorem of_callO {f : FuncId} {args : List D} {V : List VO} {T : List Nat} {r : Res × List VO × List Nat} (h : callO orc F f args V T = some r) : ∃ n, callN orc F n f args V T = some r := by
  unfold callO at h
  split at h
  · rename_i hx
    have := hx.choose_spec
    rwa [Option.some.inj h] at this
  · simp at h

theorem Ex_mono {c : ACode} {Q' : Out → St → Prop} (h : Ex orc F c s Q) (hq : ∀ o s, Q o s → Q' o s) : Ex orc F c s Q' :=
  let ⟨n, o, s', h1, h2⟩ := h; ⟨n, o, s', h1, hq _ _ h2⟩
theorem Ex_succ {c : ACode} : Ex orc F c s Q ↔ ∃ n o s', execN orc F (n + 1) c s = some (o, s') ∧ Q o s' :=
  ⟨fun ⟨n, o, s', h, q⟩ => ⟨n, o, s', execN_step _ _ _ _ h, q⟩, fun ⟨n, o, s', h, q⟩ => ⟨n + 1, o, s', h, q⟩⟩
theorem Ex_skip : Ex orc F .skip s Q ↔ Q .nrm s :=
  ⟨fun ⟨n, o, s', h, q⟩ => by
    cases n with
    | zero => simp [execN] at h
    | succ n => rw [execN_succ] at h; simp only [execC, Option.some.injEq, Prod.mk.injEq] at h; rwa [← h.1, ← h.2] at q, fun h => ⟨1, _, _, rfl, h⟩⟩
theorem Ex_ret : Ex orc F .ret s Q ↔ Q .ret s :=
  ⟨fun ⟨n, o, s', h, q⟩ => by
    cases n with
    | zero => simp [execN] at h
    | succ n => rw [execN_succ] at h; simp only [execC, Option.some.injEq, Prod.mk.injEq] at h; rwa [← h.1, ← h.2] at q, fun h => ⟨1, _, _, rfl, h⟩⟩
theorem Ex_exit {id : Nat} : Ex orc F (.exit id) s Q ↔ Q (.ext id) s :=
  ⟨fun ⟨n, o, s', h, q⟩ => by
    cases n with
    | zero => simp [execN] at h
    | succ n => rw [execN_succ] at h; simp only [execC, Option.some.injEq, Prod.mk.injEq] at h; rwa [← h.1, ← h.2] at q, fun h => ⟨1, _, _, rfl, h⟩⟩
theorem Ex_reg {l : List AOper} : Ex orc F (.reg l) s Q ↔ OpsE orc F l s Q :=
  ⟨fun ⟨n, o, s', h, q⟩ => by
    cases n with
    | zero => simp [execN] at h
    | succ n => rw [execN_succ] at h; exact ⟨n, o, s', h, q⟩, fun ⟨n, o, s', h, q⟩ => ⟨n + 1, o, s', h, q⟩⟩
theorem Ex_seq {a b : ACode} : Ex orc F (.seq a b) s Q ↔ Ex orc F a s (thenQ orc F b Q) := by
  constructor
  · rintro ⟨n, o, s', h, q⟩
    cases n with
    | zero => simp [execN] at h
    | succ n =>
      rw [execN_succ] at h
      simp only [execC] at h
      cases ha : execC orc (callN orc F n) (fun c s => execN orc F n (.loop c) s) a s with
      | none => rw [ha] at h; simp at h
      | some x =>
        obtain ⟨o1, s1⟩ := x
        rw [ha] at h
        refine ⟨n + 1, o1, s1, ha, ?_⟩
        cases o1 with
        | nrm => exact ⟨n + 1, o, s', h, q⟩
        | _ =>
          simp only [Option.some.injEq, Prod.mk.injEq] at h
          obtain ⟨rfl, rfl⟩ := h
          exact q
  · rintro ⟨n, o1, s1, h, q⟩
    cases n with
    | zero => simp [execN] at h
    | succ n =>
      rw [execN_succ] at h
      cases o1 with
      | nrm =>
        obtain ⟨m, o, s', h2, q2⟩ := q
        have h1 : execN orc F (n + 1) a s = some (.nrm, s1) := h
        have h1' := execN_le (Nat.le_trans (Nat.le_max_left (n + 1) m) (Nat.le_succ _)) h1
        have h2' := execN_le (Nat.le_trans (Nat.le_max_right (n + 1) m) (Nat.le_succ _)) h2
        refine ⟨max (n + 1) m + 1, o, s', ?_, q2⟩
        rw [execN_succ] at h1' h2' ⊢
        simp only [execC, h1']
        exact h2'
      | ext i => exact ⟨n + 1, _, s1, by rw [execN_succ]; simp only [execC, h], q⟩
      | ret => exact ⟨n + 1, _, s1, by rw [execN_succ]; simp only [execC, h], q⟩
      | pan d => exact ⟨n + 1, _, s1, by rw [execN_succ]; simp only [execC, h], q⟩
theorem Ex_cond {c : Opd} {a b : ACode} {t : Bool} (h : ev s.e c = .c (.v (.bool t))) : Ex orc F (.cond c a b) s Q ↔ if t = true then Ex orc F a s Q else Ex orc F b s Q := by
  constructor
  · rintro ⟨n, o, s', hn, q⟩
    cases n with
    | zero => simp [execN] at hn
    | succ n =>
      rw [execN_succ] at hn
      simp only [execC, h] at hn
      cases t with
      | true => exact ⟨n + 1, o, s', hn, q⟩
      | false => exact ⟨n + 1, o, s', hn, q⟩
  · intro hx
    cases t with
    | true =>
      obtain ⟨n, o, s', hn, q⟩ := Ex_succ.1 hx
      exact ⟨n + 1, o, s', by rw [execN_succ] at hn ⊢; simp only [execC, h]; exact hn, q⟩
    | false =>
      obtain ⟨n, o, s', hn, q⟩ := Ex_succ.1 (by simpa using hx)
      exact ⟨n + 1, o, s', by rw [execN_succ] at hn ⊢; simp only [execC, h]; exact hn, q⟩
theorem Ex_block {id : Nat} {c : ACode} : Ex orc F (.block id c) s Q ↔ Ex orc F c s (blockQ id Q) := by
  constructor
  · rintro ⟨n, o, s', h, q⟩
    cases n with
    | zero => simp [execN] at h
    | succ n =>
      rw [execN_succ] at h
      simp only [execC] at h
      cases ha : execC orc (callN orc F n) (fun c s => execN orc F n (.loop c) s) c s with
      | none => rw [ha] at h; simp at h
      | some x =>
        obtain ⟨o1, s1⟩ := x
        rw [ha] at h
        refine ⟨n + 1, o1, s1, ha, ?_⟩
        cases o1 with
        | ext i =>
          simp only [] at h
          simp only [blockQ]
          split at h <;> rename_i hi
          · rw [if_pos hi]; simp only [Option.some.injEq, Prod.mk.injEq] at h; rwa [← h.1, ← h.2] at q
          · rw [if_neg hi]; simp only [Option.some.injEq, Prod.mk.injEq] at h; rwa [← h.1, ← h.2] at q
        | _ =>
          simp only [Option.some.injEq, Prod.mk.injEq] at h
          simp only [blockQ]
          rwa [← h.1, ← h.2] at q
  · rintro ⟨n, o1, s1, h, q⟩
    obtain ⟨m, hm⟩ : ∃ m, execN orc F (m + 1) c s = some (o1, s1) := ⟨n, execN_step _ _ _ _ h⟩
    rw [execN_succ] at hm
    cases o1 with
    | ext i =>
      simp only [blockQ] at q
      split at q <;> rename_i hi
      · exact ⟨m + 1, _, s1, by rw [execN_succ]; simp only [execC, hm]; rw [if_pos hi], q⟩
      · exact ⟨m + 1, _, s1, by rw [execN_succ]; simp only [execC, hm]; rw [if_neg hi], q⟩
    | nrm => exact ⟨m + 1, _, s1, by rw [execN_succ]; simp only [execC, hm], q⟩
    | ret => exact ⟨m + 1, _, s1, by rw [execN_succ]; simp only [execC, hm], q⟩
    | pan d => exact ⟨m + 1, _, s1, by rw [execN_succ]; simp only [execC, hm], q⟩
/-- One round. -/
theorem Ex_loop {c : ACode} : Ex orc F (.loop c) s Q ↔ Ex orc F c s (loopQ orc F c Q) := by
  constructor
  · rintro ⟨n, o, s', h, q⟩
    cases n with
    | zero => simp [execN] at h
    | succ n =>
      rw [execN_succ] at h
      simp only [execC] at h
      cases ha : execC orc (callN orc F n) (fun c s => execN orc F n (.loop c) s) c s with
      | none => rw [ha] at h; simp at h
      | some x =>
        obtain ⟨o1, s1⟩ := x
        rw [ha] at h
        refine ⟨n + 1, o1, s1, ha, ?_⟩
        cases o1 with
        | nrm => exact ⟨n, o, s', h, q⟩
        | _ =>
          simp only [Option.some.injEq, Prod.mk.injEq] at h
          simp only [loopQ]
          rwa [← h.1, ← h.2] at q
  · rintro ⟨n, o1, s1, h, q⟩
    obtain ⟨m, hm⟩ : ∃ m, execN orc F (m + 1) c s = some (o1, s1) := ⟨n, execN_step _ _ _ _ h⟩
    cases o1 with
    | nrm =>
      obtain ⟨k, o, s', h2, q2⟩ := q
      have h1' := execN_le (Nat.succ_le_succ (Nat.le_max_left m k)) hm
      have h2' := execN_le (Nat.le_max_right m k) h2
      refine ⟨max m k + 1, o, s', ?_, q2⟩
      rw [execN_succ] at h1' ⊢
      simp only [execC, h1']
      exact h2'
    | ext i => rw [execN_succ] at hm; exact ⟨m + 1, _, s1, by rw [execN_succ]; simp only [execC, hm], q⟩
    | ret => rw [execN_succ] at hm; exact ⟨m + 1, _, s1, by rw [execN_succ]; simp only [execC, hm], q⟩
    | pan d => rw [execN_succ] at hm; exact ⟨m + 1, _, s1, by rw [execN_succ]; simp only [execC, hm], q⟩

theorem thenQ_nrm {b : ACode} : thenQ orc F b Q .nrm s = Ex orc F b s Q := rfl
theorem thenQ_ret {b : ACode} : thenQ orc F b Q .ret s = Q .ret s := rfl
theorem thenQ_ext {b : ACode} {i : Nat} : thenQ orc F b Q (.ext i) s = Q (.ext i) s := rfl
theorem thenQ_pan {b : ACode} {d : D} : thenQ orc F b Q (.pan d) s = Q (.pan d) s := rfl
theorem loopQ_nrm {b : ACode} : loopQ orc F b Q .nrm s = Ex orc F (.loop b) s Q := rfl
theorem loopQ_ret {b : ACode} : loopQ orc F b Q .ret s = Q .ret s := rfl
theorem loopQ_ext {b : ACode} {i : Nat} : loopQ orc F b Q (.ext i) s = Q (.ext i) s := rfl
theorem loopQ_pan {b : ACode} {d : D} : loopQ orc F b Q (.pan d) s = Q (.pan d) s := rfl
theorem blockQ_nrm {id : Nat} : blockQ id Q .nrm s = Q .nrm s := rfl
theorem blockQ_ret {id : Nat} : blockQ id Q .ret s = Q .ret s := rfl
theorem blockQ_ext {id i : Nat} : blockQ id Q (.ext i) s = if i = id then Q .nrm s else Q (.ext i) s := rfl
theorem blockQ_pan {id : Nat} {d : D} : blockQ id Q (.pan d) s = Q (.pan d) s := rfl

/-! ### operations -/
theorem OpsE_nil : OpsE orc F [] s Q ↔ Q .nrm s :=
  ⟨fun ⟨n, o, s', h, q⟩ => by simp only [runOps, Option.some.injEq, Prod.mk.injEq] at h; rwa [← h.1, ← h.2] at q, fun h => ⟨0, _, _, rfl, h⟩⟩
theorem OpsE_plain {d : Option Nat} {op : AOp} {l : List AOper} : OpsE orc F (⟨d, none, op⟩ :: l) s Q ↔ AcE orc F (act orc s.e op) d l s Q := by
  exact Iff.rfl
theorem OpsE_guard {d : Option Nat} {t : Nat} {w : Bool} {op : AOp} {l : List AOper} :
    OpsE orc F (⟨d, some (t, w), op⟩ :: l) s Q ↔ GuE orc F (guardD s.e (some (t, w))) op d l s Q := by
  unfold OpsE
  simp only [runOps]
  cases hg : guardD s.e (some (t, w)) with
  | none => simp [GuE]
  | some b =>
    cases b with
    | false => simp only [GuE]; exact Iff.rfl
    | true => simp only [GuE]; exact Iff.rfl
theorem GuE_false {op : AOp} {d : Option Nat} {l : List AOper} : GuE orc F (some false) op d l s Q ↔ OpsE orc F l ⟨putE s.e d und, s.V, s.T⟩ Q := Iff.rfl
theorem GuE_true {op : AOp} {d : Option Nat} {l : List AOper} : GuE orc F (some true) op d l s Q ↔ AcE orc F (act orc s.e op) d l s Q := Iff.rfl
theorem GuE_if {b : Bool} {op : AOp} {d : Option Nat} {l : List AOper} :
    GuE orc F (some b) op d l s Q ↔ if b = true then AcE orc F (act orc s.e op) d l s Q else OpsE orc F l ⟨putE s.e d und, s.V, s.T⟩ Q := by
  cases b <;> simp [GuE]
section
variable {d : Option Nat} {l : List AOper}
theorem AcE_q {x : D} : AcE orc F (some (.q x)) d l s Q ↔ OpsE orc F l ⟨putE s.e d x, s.V, s.T⟩ Q := Iff.rfl
theorem AcE_rd {id : Nat} {f : List D → Option D} {o : VO} {x : D} (h : s.V[id]? = some o) (hi : o.it = false) (hx : f o.cs = some x) :
    AcE orc F (some (.rd id f)) d l s Q ↔ OpsE orc F l ⟨putE s.e d x, s.V, s.T⟩ Q := by
  unfold AcE OpsE
  simp only [acRun, doAc, h, hi, hx, Bool.false_eq_true, if_false]
def rdE (orc : Orc) (F : FuncId → Option AFn) (o : Option VO) (f : List D → Option D) (d : Option Nat) (l : List AOper) (s : St) (Q : Out → St → Prop) : Prop :=
  match o with
  | some o => if o.it then False else match f o.cs with
    | some x => OpsE orc F l ⟨putE s.e d x, s.V, s.T⟩ Q
    | none => False
  | none => False
theorem AcE_rd' {id : Nat} {f : List D → Option D} : AcE orc F (some (.rd id f)) d l s Q ↔ rdE orc F s.V[id]? f d l s Q := by
  unfold AcE rdE
  simp only [acRun, doAc]
  cases s.V[id]? with
  | none => simp
  | some o =>
    simp only []
    by_cases hi : o.it = true
    · simp [hi]
    · simp only [hi, if_false, Bool.false_eq_true]
      cases f o.cs with
      | none => simp
      | some x => exact Iff.rfl
def wrE (orc : Orc) (F : FuncId → Option AFn) (id : Nat) (o : Option VO) (f : List D → Option (List D)) (d : Option Nat) (l : List AOper) (s : St) (Q : Out → St → Prop) : Prop :=
  match o with
  | some o => if o.fz || o.it then False else match f o.cs with
    | some cs => OpsE orc F l ⟨putE s.e d und, s.V.set id ⟨o.t, false, false, cs⟩, s.T⟩ Q
    | none => False
  | none => False
theorem AcE_wr' {id : Nat} {f : List D → Option (List D)} : AcE orc F (some (.wr id f)) d l s Q ↔ wrE orc F id s.V[id]? f d l s Q := by
  unfold AcE wrE
  simp only [acRun, doAc]
  cases s.V[id]? with
  | none => simp
  | some o =>
    simp only []
    by_cases hi : (o.fz || o.it) = true
    · simp [hi]
    · simp only [hi, if_false, Bool.false_eq_true]
      cases f o.cs with
      | none => simp
      | some x => exact Iff.rfl
theorem AcE_push {t : TypeId} {it : Bool} {cs : List D} :
    AcE orc F (some (.push t it cs)) d l s Q ↔ OpsE orc F l ⟨putE s.e d (.mp s.V.length 0), s.V ++ [⟨t, it, false, cs⟩], s.T⟩ Q := Iff.rfl
theorem AcE_tp {mk : Nat → D} : AcE orc F (some (.tp mk)) d l s Q ↔ OpsE orc F l ⟨putE s.e d (mk s.T.length), s.V, s.T ++ [0]⟩ Q := Iff.rfl
def twE (orc : Orc) (F : FuncId → Option AFn) (id ver : Nat) (k : Option Nat) (x : D) (d : Option Nat) (l : List AOper) (s : St) (Q : Out → St → Prop) : Prop :=
  match k with
  | some k => if k = ver then OpsE orc F l ⟨putE s.e d x, s.V, s.T.set id (ver + 1)⟩ Q else False
  | none => False
theorem AcE_tw {id ver : Nat} {x : D} : AcE orc F (some (.tw id ver x)) d l s Q ↔ twE orc F id ver s.T[id]? x d l s Q := by
  unfold AcE twE
  simp only [acRun, doAc]
  cases s.T[id]? with
  | none => simp
  | some k =>
    simp only []
    by_cases hk : k = ver
    · simp only [hk, if_true]; exact Iff.rfl
    · simp [hk]
theorem AcE_pan {x : D} (hx : x.closed = true) : AcE orc F (some (.pan x)) d l s Q ↔ Q (.pan x) s := by
  unfold AcE
  simp only [acRun, doAc, hx, if_true]
  exact ⟨fun ⟨n, o, s', h, q⟩ => by simp only [Option.some.injEq, Prod.mk.injEq] at h; rwa [← h.1, ← h.2] at q, fun h => ⟨0, _, _, rfl, h⟩⟩
/-- A call whose values hold no address of a variable and no token. -/
def callE (orc : Orc) (F : FuncId → Option AFn) (r : Option Res) (f : FuncId) (args : List D) (d : Option Nat) (l : List AOper) (s : St) (Q : Out → St → Prop) : Prop :=
  match r with
  | some (.ret x) => if x.closed = true then OpsE orc F l ⟨putE s.e d x, s.V, s.T⟩ Q else AcE orc F (some (.call f args)) d l s Q
  | some (.pan x) => if x.closed = true then Q (.pan x) s else False
  | none => AcE orc F (some (.call f args)) d l s Q
theorem AcE_call {f : FuncId} {args : List D} (hc : closedL args = true) :
    AcE orc F (some (.call f args)) d l s Q ↔ callE orc F (callV orc F f args) f args d l s Q := by
  cases hv : callV orc F f args with
  | none => exact Iff.rfl
  | some r =>
    obtain ⟨k, V, T, hk⟩ := of_callV hv
    cases r with
    | ret x =>
      simp only [callE]
      by_cases hx : x.closed = true
      · rw [if_pos hx]
        unfold AcE OpsE
        constructor
        · rintro ⟨n, o, s', h, q⟩
          simp only [acRun, doAc, hc, if_true] at h
          cases hn : callN orc F n f args [] [] with
          | none => rw [hn] at h; simp at h
          | some y =>
            obtain ⟨r', V', T'⟩ := y
            obtain rfl : (.ret x : Res) = r' := Cl_det ⟨k, V, T, hk⟩ ⟨n, V', T', hn⟩
            rw [hn] at h
            simp only [hx, if_true] at h
            exact ⟨n, o, s', h, q⟩
        · rintro ⟨n, o, s', h, q⟩
          refine ⟨max k n, o, s', ?_, q⟩
          simp only [acRun, doAc, hc, if_true]
          rw [callN_mono (Nat.le_max_left k n) _ _ _ _ _ hk]
          simp only [hx, if_true]
          exact runOps_le (callN_mono (Nat.le_max_right k n)).s _ _ _ h
      · rw [if_neg hx]
    | pan x =>
      simp only [callE]
      unfold AcE
      constructor
      · rintro ⟨n, o, s', h, q⟩
        simp only [acRun, doAc, hc, if_true] at h
        cases hn : callN orc F n f args [] [] with
        | none => rw [hn] at h; simp at h
        | some y =>
          obtain ⟨r', V', T'⟩ := y
          obtain rfl : (.pan x : Res) = r' := Cl_det ⟨k, V, T, hk⟩ ⟨n, V', T', hn⟩
          rw [hn] at h
          by_cases hx : x.closed = true
          · simp only [hx, if_true, Option.some.injEq, Prod.mk.injEq] at h
            rw [if_pos hx]
            rwa [← h.1, ← h.2] at q
          · simp [hx] at h
      · intro h
        by_cases hx : x.closed = true
        · rw [if_pos hx] at h
          exact ⟨k, _, _, by simp only [acRun, doAc, hc, if_true, hk, hx], h⟩
        · rw [if_neg hx] at h; exact h.elim
end
theorem of_Ex {f : FuncId} {fn : AFn} {args : List D} {x : D} (hf : F f = some fn)
    (h : Ex orc F fn.body ⟨initE args, [], []⟩ fun o s => (match o with | .nrm | .ret => True | _ => False) ∧ ressD s fn.res = some x) : callV orc F f args = some (.ret x) := by
  obtain ⟨n, o, s, hn, ho, hr⟩ := h
  refine callV_of ⟨n, s.V, s.T, ?_⟩
  unfold callN
  simp only [hf, hn]
  cases o with
  | nrm => simp only [hr]
  | ret => simp only [hr]
  | ext i => exact ho.elim
  | pan d => exact ho.elim
def retQ (res : List ARes) (x : D) : Out → St → Prop
  | .nrm, s | .ret, s => ressD s res = some x
  | _, _ => False
theorem callV_ret {f : FuncId} {fn : AFn} {args : List D} {x : D} (hf : F f = some fn)
    (h : Ex orc F fn.body ⟨initE args, [], []⟩ (retQ fn.res x)) : callV orc F f args = some (.ret x) :=
  of_Ex hf (Ex_mono h fun o s hq => by cases o <;> simp_all [retQ])
end
end Go.Abs
