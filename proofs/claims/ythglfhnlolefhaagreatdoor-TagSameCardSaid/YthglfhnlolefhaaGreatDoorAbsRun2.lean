/- Own framework, part 29: symbolic runs through regions whose order is open. -/
import Derived.Test.YthglfhnlolefhaaGreatDoorAbsKit
set_option linter.unusedVariables false
set_option linter.unusedSimpArgs false
namespace Go.Abs
section
variable (orc : Orc) (F : FuncId → Option AFn) (ps : List (Nat × Nat))
def DrwE (acc : List Lab) (l : List AOper) (s : St) (Q : St → Prop) : Prop := ∃ n ls s', runDrw orc (callN orc F n) l s = some (ls, s') ∧ confAll (acc ++ ls) ps = true ∧ Q s'
def dacRun (call : CallF) (a : Option Ac) (d : Option Nat) (l : List AOper) (s : St) : Option (List Lab × St) :=
  match a with
  | none => none
  | some a => match doAc call s.V s.T a with
    | some (.ok x V T, lb) => match runDrw orc call l ⟨putE s.e d x, V, T⟩ with
      | none => none
      | some (ls, s2) => some (lb :: ls, s2)
    | _ => none
def DcE (acc : List Lab) (a : Option Ac) (d : Option Nat) (l : List AOper) (s : St) (Q : St → Prop) : Prop :=
  ∃ n ls s', dacRun orc (callN orc F n) a d l s = some (ls, s') ∧ confAll (acc ++ ls) ps = true ∧ Q s'
def GdE (acc : List Lab) (g : Option Bool) (op : AOp) (d : Option Nat) (l : List AOper) (s : St) (Q : St → Prop) : Prop :=
  match g with
  | none => False
  | some false => DrwE orc F ps (acc ++ [.q]) l ⟨putE s.e d und, s.V, s.T⟩ Q
  | some true => DcE orc F ps acc (act orc s.e op) d l s Q
end
section
variable {orc : Orc} {F : FuncId → Option AFn} {ps : List (Nat × Nat)} {acc : List Lab} {l : List AOper} {s : St} {d : Option Nat}
theorem Ex_drw' {Q : Out → St → Prop} (h : DrwE orc F ps [] l s (Q .nrm)) : Ex orc F (.drw l ps) s Q := by
  obtain ⟨n, ls, s', h, hc, q⟩ := h
  have hc' : confAll ls ps = true := hc
  exact ⟨n + 1, .nrm, s', by rw [execN_succ]; simp only [execC, execDrw, h, hc', if_true], q⟩
/-- No panic: else the goal is none of this. -/
theorem Ex_drw {Q : Out → St → Prop} : Ex orc F (.drw l ps) s Q ↔ (DrwE orc F ps [] l s (Q .nrm) ∨ ∃ n d, runPan orc (callN orc F n) ps l s = some d ∧ Q (.pan d) s) := by
  constructor
  · rintro ⟨n, o, s', h, q⟩
    cases n with
    | zero => simp [execN] at h
    | succ n =>
      rw [execN_succ] at h
      simp only [execC, execDrw] at h
      cases hd : runDrw orc (callN orc F n) l s with
      | none =>
        rw [hd] at h
        simp only [] at h
        cases hp : runPan orc (callN orc F n) ps l s with
        | none => rw [hp] at h; simp at h
        | some d =>
          rw [hp] at h
          simp only [Option.some.injEq, Prod.mk.injEq] at h
          obtain ⟨rfl, rfl⟩ := h
          exact .inr ⟨n, d, hp, q⟩
      | some x =>
        obtain ⟨ls, s2⟩ := x
        rw [hd] at h
        simp only at h
        split at h
        · rename_i hc
          simp only [Option.some.injEq, Prod.mk.injEq] at h
          obtain ⟨rfl, rfl⟩ := h
          exact .inl ⟨n, ls, s2, hd, hc, q⟩
        · simp at h
  · rintro (h | ⟨n, d, hp, q⟩)
    · exact Ex_drw' h
    · exact ⟨n + 1, .pan d, s, by rw [execN_succ]; simp only [execC, execDrw, runPan_not hp, hp], q⟩
variable {Q : St → Prop}
theorem DrwE_nil : DrwE orc F ps acc [] s Q ↔ confAll acc ps = true ∧ Q s := by
  constructor
  · rintro ⟨n, ls, s', h, hc, q⟩
    simp only [runDrw, Option.some.injEq, Prod.mk.injEq] at h
    obtain ⟨rfl, rfl⟩ := h
    exact ⟨by simpa using hc, q⟩
  · rintro ⟨hc, q⟩
    exact ⟨0, [], s, rfl, by simpa using hc, q⟩
theorem DrwE_plain {op : AOp} : DrwE orc F ps acc (⟨d, none, op⟩ :: l) s Q ↔ DcE orc F ps acc (act orc s.e op) d l s Q := by
  unfold DrwE DcE
  have : ∀ n, runDrw orc (callN orc F n) (⟨d, none, op⟩ :: l) s = dacRun orc (callN orc F n) (act orc s.e op) d l s := fun n => by
    simp only [runDrw, stepO, guardD, dacRun]
    cases ha : act orc s.e op with
    | none => rfl
    | some a =>
      simp only
      cases hd : doAc (callN orc F n) s.V s.T a with
      | none => rfl
      | some x =>
        obtain ⟨o, lb⟩ := x
        cases o <;> rfl
  simp only [this]
theorem DrwE_skip : (∃ n ls s', (match runDrw orc (callN orc F n) l s with | none => none | some (ls, s2) => some (Lab.q :: ls, s2)) = some (ls, s') ∧ confAll (acc ++ ls) ps = true ∧ Q s') ↔ DrwE orc F ps (acc ++ [.q]) l s Q := by
  constructor
  · rintro ⟨n, ls, s', h, hc, q⟩
    cases hd : runDrw orc (callN orc F n) l s with
    | none => rw [hd] at h; simp at h
    | some x =>
      obtain ⟨l2, s2⟩ := x
      rw [hd] at h
      simp only [Option.some.injEq, Prod.mk.injEq] at h
      obtain ⟨rfl, rfl⟩ := h
      exact ⟨n, l2, s2, hd, by simpa using hc, q⟩
  · rintro ⟨n, ls, s', h, hc, q⟩
    exact ⟨n, .q :: ls, s', by rw [h], by simpa using hc, q⟩
theorem DrwE_lab {lb : Lab} : (∃ n ls s', (match runDrw orc (callN orc F n) l s with | none => none | some (ls, s2) => some (lb :: ls, s2)) = some (ls, s') ∧ confAll (acc ++ ls) ps = true ∧ Q s') ↔ DrwE orc F ps (acc ++ [lb]) l s Q := by
  constructor
  · rintro ⟨n, ls, s', h, hc, q⟩
    cases hd : runDrw orc (callN orc F n) l s with
    | none => rw [hd] at h; simp at h
    | some x =>
      obtain ⟨l2, s2⟩ := x
      rw [hd] at h
      simp only [Option.some.injEq, Prod.mk.injEq] at h
      obtain ⟨rfl, rfl⟩ := h
      exact ⟨n, l2, s2, hd, by simpa using hc, q⟩
  · rintro ⟨n, ls, s', h, hc, q⟩
    exact ⟨n, lb :: ls, s', by rw [h], by simpa using hc, q⟩
theorem DrwE_guard {op : AOp} {t : Nat} {w : Bool} : DrwE orc F ps acc (⟨d, some (t, w), op⟩ :: l) s Q ↔ GdE orc F ps acc (guardD s.e (some (t, w))) op d l s Q := by
  cases hg : guardD s.e (some (t, w)) with
  | none =>
    simp only [GdE, iff_false]
    rintro ⟨n, ls, s', h, hc, q⟩
    simp [runDrw, stepO, hg] at h
  | some b =>
    cases b with
    | false =>
      simp only [GdE]
      rw [← DrwE_lab (lb := .q)]
      unfold DrwE
      simp only [runDrw, stepO, hg]
      exact Iff.rfl
    | true =>
      simp only [GdE]
      rw [← DrwE_plain]
      have : ∀ n, runDrw orc (callN orc F n) (⟨d, some (t, w), op⟩ :: l) s = runDrw orc (callN orc F n) (⟨d, none, op⟩ :: l) s := fun n => by
        have hn : guardD s.e none = some true := rfl
        simp only [runDrw, stepO, hg, hn]
      unfold DrwE
      simp only [this]
theorem GdE_false {op : AOp} : GdE orc F ps acc (some false) op d l s Q ↔ DrwE orc F ps (acc ++ [.q]) l ⟨putE s.e d und, s.V, s.T⟩ Q := Iff.rfl
theorem GdE_true {op : AOp} : GdE orc F ps acc (some true) op d l s Q ↔ DcE orc F ps acc (act orc s.e op) d l s Q := Iff.rfl
theorem DcE_q {x : D} : DcE orc F ps acc (some (.q x)) d l s Q ↔ DrwE orc F ps (acc ++ [.q]) l ⟨putE s.e d x, s.V, s.T⟩ Q := by
  rw [← DrwE_lab (lb := .q)]; rfl
theorem DcE_push {t : TypeId} {it : Bool} {cs : List D} : DcE orc F ps acc (some (.push t it cs)) d l s Q ↔ DrwE orc F ps (acc ++ [.ps s.V.length]) l ⟨putE s.e d (.mp s.V.length 0), s.V ++ [⟨t, it, false, cs⟩], s.T⟩ Q := by
  rw [← DrwE_lab]; rfl
theorem DcE_tp {mk : Nat → D} : DcE orc F ps acc (some (.tp mk)) d l s Q ↔ DrwE orc F ps (acc ++ [.tp s.T.length]) l ⟨putE s.e d (mk s.T.length), s.V, s.T ++ [0]⟩ Q := by
  rw [← DrwE_lab]; rfl
def drdE (orc : Orc) (F : FuncId → Option AFn) (ps : List (Nat × Nat)) (acc : List Lab) (id : Nat) (o : Option VO) (f : List D → Option D) (d : Option Nat) (l : List AOper) (s : St) (Q : St → Prop) : Prop :=
  match o with
  | some o => if o.it then False else match f o.cs with
    | some x => DrwE orc F ps (acc ++ [.rd id]) l ⟨putE s.e d x, s.V, s.T⟩ Q
    | none => False
  | none => False
theorem DcE_rd {id : Nat} {f : List D → Option D} : DcE orc F ps acc (some (.rd id f)) d l s Q ↔ drdE orc F ps acc id s.V[id]? f d l s Q := by
  unfold drdE
  cases ho : s.V[id]? with
  | none => simp [DcE, dacRun, doAc, ho]
  | some o =>
    simp only
    by_cases hi : o.it = true
    · simp [DcE, dacRun, doAc, ho, hi]
    · rw [if_neg hi]
      cases hf : f o.cs with
      | none => simp [DcE, dacRun, doAc, ho, hi, hf]
      | some x =>
        simp only
        rw [← DrwE_lab]
        unfold DcE dacRun
        simp only [doAc, ho, if_neg hi, hf]
def dcallE (orc : Orc) (F : FuncId → Option AFn) (ps : List (Nat × Nat)) (acc : List Lab) (r : Option Res) (f : FuncId) (args : List D) (d : Option Nat) (l : List AOper) (s : St) (Q : St → Prop) : Prop :=
  match r with
  | some (.ret x) => if x.closed = true then DrwE orc F ps (acc ++ [.q]) l ⟨putE s.e d x, s.V, s.T⟩ Q else DcE orc F ps acc (some (.call f args)) d l s Q
  | _ => DcE orc F ps acc (some (.call f args)) d l s Q
theorem DcE_call {f : FuncId} {args : List D} (hc : closedL args = true) : DcE orc F ps acc (some (.call f args)) d l s Q ↔ dcallE orc F ps acc (callV orc F f args) f args d l s Q := by
  cases hv : callV orc F f args with
  | none => exact Iff.rfl
  | some r =>
    obtain ⟨k, V, T, hk⟩ := of_callV hv
    cases r with
    | pan x => exact Iff.rfl
    | ret x =>
      simp only [dcallE]
      by_cases hx : x.closed = true
      · rw [if_pos hx]
        constructor
        · rintro ⟨n, ls, s', h, hcf, q⟩
          simp only [dacRun, doAc, hc, if_true] at h
          cases hn : callN orc F n f args [] [] with
          | none => rw [hn] at h; simp at h
          | some y =>
            obtain ⟨r', V', T'⟩ := y
            obtain rfl : (.ret x : Res) = r' := Cl_det ⟨k, V, T, hk⟩ ⟨n, V', T', hn⟩
            rw [hn] at h
            simp only [hx, if_true] at h
            exact DrwE_lab.1 ⟨n, ls, s', h, hcf, q⟩
        · intro h
          obtain ⟨n, ls, s', h, hcf, q⟩ := DrwE_lab.2 h
          refine ⟨max k n, ls, s', ?_, hcf, q⟩
          simp only [dacRun, doAc, hc, if_true]
          rw [callN_mono (Nat.le_max_left k n) _ _ _ _ _ hk]
          simp only [hx, if_true]
          cases hd : runDrw orc (callN orc F n) l ⟨putE s.e d x, s.V, s.T⟩ with
          | none => rw [hd] at h; simp at h
          | some y =>
            rw [hd] at h
            rw [runDrw_le (callN_mono (Nat.le_max_right k n)).s _ _ _ hd]
            exact h
      · rw [if_neg hx]
end
end Go.Abs
