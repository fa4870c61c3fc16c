/- Own framework, part 30: loops, by what holds at each round. -/
import Derived.Test.YthglfhnlolefhaaGreatDoorAbsRun2
set_option linter.unusedVariables false
set_option linter.unusedSimpArgs false
namespace Go.Abs
section
variable {orc : Orc} {F : FuncId → Option AFn}
/-- Behind one round: the next one's state, smaller; or out. -/
def indQ {α : Type} (m : α → Nat) (I : α → St → Prop) (x : α) (Q : Out → St → Prop) : Out → St → Prop
  | .nrm, s => ∃ y, m y < m x ∧ I y s
  | o, s => Q o s
section
variable {α : Type} {m : α → Nat} {I : α → St → Prop} {x : α} {Q : Out → St → Prop} {s : St}
theorem indQ_nrm : indQ m I x Q .nrm s = ∃ y, m y < m x ∧ I y s := rfl
theorem indQ_ret : indQ m I x Q .ret s = Q .ret s := rfl
theorem indQ_ext {i : Nat} : indQ m I x Q (.ext i) s = Q (.ext i) s := rfl
theorem indQ_pan {d : D} : indQ m I x Q (.pan d) s = Q (.pan d) s := rfl
end
theorem Ex_loop_meas {α : Type} (m : α → Nat) (I : α → St → Prop) {c : ACode} {Q : Out → St → Prop} (h : ∀ x s, I x s → Ex orc F c s (indQ m I x Q)) : ∀ (n : Nat) (x : α) (s : St), m x ≤ n → I x s → Ex orc F (.loop c) s Q
  | n, x, s, hn, hi => by
    rw [Ex_loop]
    refine Ex_mono (h x s hi) fun o s' hq => ?_
    cases o with
    | nrm =>
      obtain ⟨y, h1, h2⟩ := hq
      match n, hn with
      | 0, hn => omega
      | n + 1, hn => exact Ex_loop_meas m I h n y s' (by omega) h2
    | ret => exact hq
    | ext i => exact hq
    | pan d => exact hq
theorem Ex_loop_of {α : Type} (m : α → Nat) (I : α → St → Prop) {c : ACode} {Q : Out → St → Prop} (x : α) {s : St} (hi : I x s) (h : ∀ x s, I x s → Ex orc F c s (indQ m I x Q)) : Ex orc F (.loop c) s Q :=
  Ex_loop_meas m I h (m x) x s (Nat.le_refl _) hi
/-- Rounds that are counted. -/
def cntQ (N : Nat) (I : Nat → St → Prop) (i : Nat) (Q : Out → St → Prop) : Out → St → Prop
  | .nrm, s => i < N ∧ I (i + 1) s
  | o, s => Q o s
section
variable {N : Nat} {I : Nat → St → Prop} {i : Nat} {Q : Out → St → Prop} {s : St}
theorem cntQ_nrm : cntQ N I i Q .nrm s = (i < N ∧ I (i + 1) s) := rfl
theorem cntQ_ret : cntQ N I i Q .ret s = Q .ret s := rfl
theorem cntQ_ext {k : Nat} : cntQ N I i Q (.ext k) s = Q (.ext k) s := rfl
theorem cntQ_pan {d : D} : cntQ N I i Q (.pan d) s = Q (.pan d) s := rfl
end
theorem Ex_loop_cnt (N : Nat) (I : Nat → St → Prop) {c : ACode} {Q : Out → St → Prop} {s : St} (hi : I 0 s) (h : ∀ i s, i ≤ N → I i s → Ex orc F c s (cntQ N I i Q)) : Ex orc F (.loop c) s Q :=
  Ex_loop_of (fun i => N - i) (fun i s => i ≤ N ∧ I i s) 0 ⟨Nat.zero_le _, hi⟩ fun i s ⟨h1, h2⟩ => Ex_mono (h i s h1 h2) fun o s' hq => by
    cases o with
    | nrm =>
      have h3 : i < N := hq.1
      exact ⟨i + 1, by show N - (i + 1) < N - i; omega, by omega, hq.2⟩
    | ret => exact hq
    | ext i => exact hq
    | pan d => exact hq
/-- The run ends in a panic with this value. -/
def panQ (x : D) : Out → St → Prop
  | .pan d, _ => d = x
  | _, _ => False
theorem panQ_pan {x d : D} {s : St} : panQ x (.pan d) s = (d = x) := rfl
theorem callV_pan {f : FuncId} {fn : AFn} {args : List D} {x : D} (hf : F f = some fn) (h : Ex orc F fn.body ⟨initE args, [], []⟩ (panQ x)) : callV orc F f args = some (.pan x) := by
  obtain ⟨n, o, s, hn, hq⟩ := h
  refine callV_of ⟨n, s.V, s.T, ?_⟩
  unfold callN
  simp only [hf, hn]
  cases o with
  | pan d => have : d = x := hq; rw [this]
  | nrm => exact hq.elim
  | ret => exact hq.elim
  | ext i => exact hq.elim
/-- One of the two. -/
def resQ (res : List ARes) (r : Res) : Out → St → Prop := match r with
  | .ret x => retQ res x
  | .pan x => panQ x
theorem callV_res {f : FuncId} {fn : AFn} {args : List D} {r : Res} (hf : F f = some fn) (h : Ex orc F fn.body ⟨initE args, [], []⟩ (resQ fn.res r)) : callV orc F f args = some r := by
  cases r with
  | ret x => exact callV_ret hf h
  | pan x => exact callV_pan hf h
end
end Go.Abs
