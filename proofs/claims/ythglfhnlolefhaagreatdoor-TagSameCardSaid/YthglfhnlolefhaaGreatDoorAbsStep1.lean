/- Own framework, part 5: the machine's operations that only compute, against the abstract ones. -/
import Derived.Test.YthglfhnlolefhaaGreatDoorAbsRep
set_option linter.unusedVariables false
set_option linter.unusedSimpArgs false
namespace Go.Abs
open Go.RowKit (Below)

section
variable {P : Program} {w : World} {g : Gh} {V : List VO} {T : List Nat} {a : Act} {e : Env} {o : Oper}

/-- The operation yields a value for d, and nothing turns. -/
def Yl (P : Program) (w : World) (g : Gh) (T : List Nat) (a : Act) (o : Oper) (d : D) : Prop := ∃ v, (execOp a.eval o).run P w = .ok (.value v) w ∧ RepD w g T v d

theorem opds_rep {l : List Operand} {ys : List Opd} (he : EnvOk w g T a.tmps e) (h : opds l = some ys) : RepL w g T (l.map a.eval).toArray (ys.map (ev e)) := by
  obtain ⟨h1, h2⟩ := mapO_some h
  refine ⟨by simpa using h1, fun i hi => ?_⟩
  have hi1 : i < l.length := by simp at hi; omega
  have hi2 : i < ys.length := by simpa using hi
  have := opd_rep he (h2 i hi1 hi2)
  simpa [Array.getD_eq_getD_getElem?, hi1] using this
theorem sizeT_run {t s : Nat} (h : sizeT P t = some s) : (sizeOf t).run P w = .ok s w := by
  unfold sizeT at h
  cases hi : P.info? t with
  | none => rw [hi] at h; simp at h
  | some i => rw [hi] at h; simp only [Option.map_some, Option.some.injEq] at h; simp [sizeOf, typeInfo, hi, h]
theorem underlying_run {t : Nat} {u : TypeDesc} (h : P.underlying t = some u) : (underlying t).run P w = .ok u w := by simp [underlying, h]
theorem aggT_run {t : Nat} {b : Bool} (h : aggT P t = some b) : (isAgg t).run P w = .ok b w := by
  unfold aggT at h
  unfold isAgg
  cases hu : P.underlying t with
  | none => rw [hu] at h; simp at h
  | some u =>
    rw [hu] at h
    simp only [Sem.run_bind, underlying_run hu, Result.andThen_ok]
    cases u <;> simp at h <;> subst h <;> rfl
theorem zeroT_run {t : Nat} {z : List Go.Abs.P} (h : zeroT P t = some z) : ∃ zv, (zeroValue t).run P w = .ok zv w ∧ sizeT P t = some zv.cells.size ∧ mapO cellP zv.cells.toList = some z := by
  unfold zeroT at h
  cases hi : P.info? t with
  | none => rw [hi] at h; simp at h
  | some i =>
    rw [hi] at h
    cases hz : i.zero with
    | none => simp [hz] at h
    | some zv =>
      simp only [Option.bind_eq_bind, Option.bind_some, hz] at h
      split at h
      · rename_i hs
        exact ⟨zv, by simp [zeroValue, typeInfo, hi, hz], by simp [sizeT, hi, hs], h⟩
      · simp at h

theorem yl_mv {x : Operand} {y : Opd} (hop : o.op = .move x ∨ o.op = .assign x) (hx : opd x = some y) (he : EnvOk w g T a.tmps e) : Yl P w g T a o (ev e y) :=
  ⟨a.eval x, by rcases hop with hop | hop <;> simp [execOp, hop], opd_rep he hx⟩
theorem yl_pick {c x y : Operand} {c' x' y' : Opd} {t : Bool} (hop : o.op = .pick c x y) (hc : opd c = some c') (hx : opd x = some x') (hy : opd y = some y') (he : EnvOk w g T a.tmps e)
    (ht : ev e c' = .c (.v (.bool t))) : Yl P w g T a o (if t then ev e x' else ev e y') := by
  have h1 := opd_rep he hc
  rw [ht] at h1
  refine ⟨if t then a.eval x else a.eval y, by simp [execOp, hop, rep_sc h1, asBool], ?_⟩
  cases t
  · exact opd_rep he hy
  · exact opd_rep he hx
theorem yl_un {op : UnOp} {t : TypeId} {x : Operand} {x' : Opd} {d : D} (hop : o.op = .unOp op t x) (hx : opd x = some x') (he : EnvOk w g T a.tmps e) (hd : unD op (ev e x') = some d) : Yl P w g T a o d := by
  have h1 := opd_rep he hx
  unfold unD at hd
  split at hd <;> simp only [Option.some.injEq, reduceCtorEq] at hd
  all_goals (rename_i h; rw [h] at h1; have h2 := rep_sc h1; subst hd)
  · exact ⟨_, by simp [execOp, hop, h2, Go.Op.unary], sc_rep rfl⟩
  · exact ⟨_, by simp [execOp, hop, h2, Go.Op.unary, Go.Op.intArith], sc_rep rfl⟩
  · exact ⟨_, by simp [execOp, hop, h2, Go.Op.unary], sc_rep rfl⟩
theorem yl_mki {t : TypeId} {x : Operand} {x' : Opd} {u : TypeDesc} (hop : o.op = .makeInterface t x) (hu : P.underlying t = some u) (hn : ∀ ms, u ≠ .interface ms) (hx : opd x = some x') (he : EnvOk w g T a.tmps e) :
    Yl P w g T a o (.ifc t (ev e x')) := by
  refine ⟨.iface t (a.eval x), ?_, .ifc (opd_rep he hx)⟩
  simp only [execOp, hop, Instr.makeInterface, Sem.run_bind, underlying_run hu, Result.andThen_ok]
  cases u with
  | interface ms => exact absurd rfl (hn _)
  | _ => rfl
theorem yl_mkf {f : FuncId} {caps : Array Operand} {cs : List Opd} (hop : o.op = .makeFunc (.func f) #[] caps) (hc : opds caps.toList = some cs) (he : EnvOk w g T a.tmps e) :
    Yl P w g T a o (.fn f (cs.map (ev e))) := by
  have h1 := opds_rep he hc
  have e1 : (caps.toList.map a.eval).toArray = caps.map a.eval := by apply Array.ext'; simp
  rw [e1] at h1
  refine ⟨.func (.func f) #[] (caps.map a.eval), by simp [execOp, hop, Instr.makeFunc], ?_⟩
  exact .fn h1.1 h1.2
theorem yl_ext {x : Operand} {x' : Opd} {i : Nat} {vs : List D} {d : D} (hop : o.op = .extract x i) (hx : opd x = some x') (he : EnvOk w g T a.tmps e) (hv : ev e x' = .tu vs) (hd : vs[i]? = some d) : Yl P w g T a o d := by
  have h1 := opd_rep he hx
  rw [hv] at h1
  obtain ⟨cs, hxe, hl⟩ := rep_tu h1
  obtain ⟨y, hy, hr⟩ := hl.at hd
  exact ⟨y, by simp [execOp, hop, hxe, Instr.extract, hy], hr⟩
theorem yl_tas {x : Operand} {x' : Opd} {xt t : TypeId} {u : TypeDesc} {d : D} (hop : o.op = .typeAssert x xt t true) (hu : P.underlying t = some u) (hi : ∀ ms, u ≠ .interface ms) (hx : opd x = some x') (he : EnvOk w g T a.tmps e) (hd : tasD t (ev e x') = some d) : Yl P w g T a o d := by
  have h1 := opd_rep he hx
  unfold tasD at hd
  split at hd
  · rename_i t' y hv
    rw [hv] at h1
    obtain ⟨z, hxe, hr⟩ := rep_ifc h1
    split at hd
    · rename_i e
      subst e
      simp only [Option.some.injEq] at hd
      subst hd
      refine ⟨.tuple #[z, .bool true], ?_, .tu rfl fun i hi => ?_⟩
      · simp only [execOp, hop, hxe, Instr.typeAssert, Sem.run_bind, underlying_run hu, Result.andThen_ok]
        cases u <;> first
          | exact absurd rfl (hi _)
          | simp
      · match i, hi with
        | 0, _ => exact hr
        | 1, _ => exact sc_rep rfl
    · simp at hd
  · simp at hd
end
end Go.Abs
