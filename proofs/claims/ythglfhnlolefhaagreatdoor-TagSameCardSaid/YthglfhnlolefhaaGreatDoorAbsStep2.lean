/- Own framework, part 6: the machine's operations that only compute, against the abstract ones (operators, conversions, parts). -/
import Derived.Test.YthglfhnlolefhaaGreatDoorAbsStep1
set_option linter.unusedVariables false
set_option linter.unusedSimpArgs false
namespace Go.Abs
open Go.RowKit (Below)

section
variable {P : Program} {w : World} {g : Gh} {V : List VO} {T : List Nat} {a : Act} {e : Env} {o : Oper}

theorem eqGuard_sc {op : BinOp} {t : TypeId} {x y : Operand} {u v : Value} (h : ∀ cs, u ≠ .agg cs) (h' : u ≠ .nilIface) : (eqGuard op t x y u v).run P w = .ok () w := by
  cases u with
  | nilIface => exact absurd rfl h'
  | agg cs => exact absurd rfl (h cs)
  | _ => unfold eqGuard; split <;> rfl
theorem scBin_run {op : BinOp} {t : TypeId} {u v r : Value} (h : scBin op u v = some r) : (binOp op t u v).run P w = .ok r w ∧ (∀ cs, u ≠ .agg cs) ∧ u ≠ .nilIface ∧ scal r = true := by
  unfold scBin at h
  split at h
  · rename_i k x k' y
    refine ⟨?_, fun cs => by simp, by simp, ?_⟩
    · cases op <;> simp only [intBin, reduceCtorEq] at h <;> (try split at h) <;> (try split at h) <;> first
        | (simp at h; done)
        | (simp only [Option.some.injEq] at h; subst h; simp_all [binOp, Op.shift, Op.intArith, Op.intDiv, Op.intBits, Op.intCmp]; done)
        | (simp only [Option.some.injEq] at h; subst h; rename_i h1; simp only [binOp, Op.shift, if_neg h1]; rfl)
    · cases op <;> simp only [intBin, reduceCtorEq] at h <;> (try split at h) <;> (try split at h) <;> first
        | (simp at h; done)
        | (simp only [Option.some.injEq] at h; subst h; rfl)
  · refine ⟨?_, fun cs => by simp, by simp, ?_⟩
    · cases op <;> simp only [strBin, reduceCtorEq] at h <;> (try split at h) <;> first
        | (simp at h; done)
        | (simp only [Option.some.injEq] at h; subst h; simp_all [binOp, Op.stringOp]; done)
    · cases op <;> simp only [strBin, reduceCtorEq] at h <;> (try split at h) <;> first
        | (simp at h; done)
        | (simp only [Option.some.injEq] at h; subst h; rfl)
  · rename_i k x k' y
    split at h
    · rename_i hk
      subst hk
      refine ⟨?_, fun cs => by simp, by simp, ?_⟩
      · cases op <;> simp only [fltBin, reduceCtorEq] at h <;> first
          | (simp only [Option.some.injEq] at h; subst h; simp [binOp, Op.floatCmp]; done)
          | (cases hm : k.format.mul x y with
             | none => rw [hm] at h; simp at h
             | some m => rw [hm] at h; simp only [Option.map_some, Option.some.injEq] at h; subst h; simp [binOp, Op.floatArith, hm]; done)
          | (cases hm : k.format.div x y with
             | none => rw [hm] at h; simp at h
             | some m => rw [hm] at h; simp only [Option.map_some, Option.some.injEq] at h; subst h; simp [binOp, Op.floatArith, hm]; done)
      · cases op <;> simp only [fltBin, reduceCtorEq] at h <;> first
          | (simp only [Option.some.injEq] at h; subst h; rfl)
          | (cases hm : k.format.mul x y with
             | none => rw [hm] at h; simp at h
             | some m => rw [hm] at h; simp only [Option.map_some, Option.some.injEq] at h; subst h; rfl)
          | (cases hm : k.format.div x y with
             | none => rw [hm] at h; simp at h
             | some m => rw [hm] at h; simp only [Option.map_some, Option.some.injEq] at h; subst h; rfl)
    · simp at h
  · simp at h
theorem equal_bool {t : TypeId} (hu : P.underlying t = some .bool) (x y : Bool) : (Op.equal t (.bool x) (.bool y)).run P w = .ok (x == y) w := by
  show (Op.equalIn (9999 + 1) t _ _).run P w = _
  unfold Op.equalIn
  simp only [Sem.run_bind, underlying_run hu, Result.andThen_ok]
  rfl
theorem equal_nilfunc {t : TypeId} {ps rs : Array TypeId} {vr : Bool} (hu : P.underlying t = some (.func ps rs vr)) (f : Fn) (x y : Array Value) : (Op.equal t (.func f x y) .nilFunc).run P w = .ok false w := by
  show (Op.equalIn (9999 + 1) t _ _).run P w = _
  unfold Op.equalIn
  simp only [Sem.run_bind, underlying_run hu, Result.andThen_ok]
  rfl
theorem equal_nilnil {t : TypeId} {ps rs : Array TypeId} {vr : Bool} (hu : P.underlying t = some (.func ps rs vr)) : (Op.equal t .nilFunc .nilFunc).run P w = .ok true w := by
  show (Op.equalIn (9999 + 1) t _ _).run P w = _
  unfold Op.equalIn
  simp only [Sem.run_bind, underlying_run hu, Result.andThen_ok]
  rfl
theorem blBin_run {op : BinOp} {t : TypeId} {u v r : Value} (hu : P.underlying t = some .bool) (h : blBin op u v = some r) : (binOp op t u v).run P w = .ok r w ∧ (∀ cs, u ≠ .agg cs) ∧ u ≠ .nilIface ∧ scal r = true := by
  unfold blBin at h
  split at h
  · refine ⟨?_, fun cs => by simp, by simp, ?_⟩
    · cases op <;> simp only [reduceCtorEq] at h <;> first
        | (simp at h; done)
        | (simp only [Option.some.injEq] at h; subst h; simp only [binOp, Sem.run_bind, equal_bool hu, Result.andThen_ok, Sem.run_pure]; done)
    · cases op <;> simp only [reduceCtorEq] at h <;> first
        | (simp at h; done)
        | (simp only [Option.some.injEq] at h; subst h; rfl)
  · simp at h
theorem yl_bin_sc {op : BinOp} {t t' : TypeId} {x y : Operand} {x' y' : Opd} {d : D} (hop : o.op = .binOp op t x y t') (hx : opd x = some x') (hy : opd y = some y') (he : EnvOk w g T a.tmps e)
    (hd : scD op (ev e x') (ev e y') = some d) : Yl P w g T a o d := by
  unfold scD at hd
  split at hd
  · rename_i u v hu hv
    have h1 := opd_rep he hx
    have h2 := opd_rep he hy
    rw [hu] at h1
    rw [hv] at h2
    cases hr : scBin op u v with
    | none => rw [hr] at hd; simp at hd
    | some r =>
      rw [hr] at hd
      simp only [Option.map_some, Option.some.injEq] at hd
      subst hd
      obtain ⟨h3, h4, h5, h6⟩ := scBin_run (P := P) (w := w) (t := t) hr
      refine ⟨r, ?_, sc_rep h6⟩
      simp only [execOp, hop, rep_sc h1, rep_sc h2, Sem.run_bind, eqGuard_sc h4 h5, Result.andThen_ok, h3, Sem.run_pure]
  · simp at hd
theorem yl_bin_bl {op : BinOp} {t t' : TypeId} {x y : Operand} {x' y' : Opd} {d : D} (hop : o.op = .binOp op t x y t') (ht : P.underlying t = some .bool) (hx : opd x = some x') (hy : opd y = some y') (he : EnvOk w g T a.tmps e)
    (hd : blD op (ev e x') (ev e y') = some d) : Yl P w g T a o d := by
  unfold blD at hd
  split at hd
  · rename_i u v hu hv
    have h1 := opd_rep he hx
    have h2 := opd_rep he hy
    rw [hu] at h1
    rw [hv] at h2
    cases hr : blBin op u v with
    | none => rw [hr] at hd; simp at hd
    | some r =>
      rw [hr] at hd
      simp only [Option.map_some, Option.some.injEq] at hd
      subst hd
      obtain ⟨h3, h4, h5, h6⟩ := blBin_run (P := P) (w := w) (t := t) ht hr
      refine ⟨r, ?_, sc_rep h6⟩
      simp only [execOp, hop, rep_sc h1, rep_sc h2, Sem.run_bind, eqGuard_sc h4 h5, Result.andThen_ok, h3, Sem.run_pure]
  · simp at hd
theorem yl_fnil {neg : Bool} {t t' : TypeId} {x : Operand} {x' : Opd} {d : D} {ps rs : Array TypeId} {vr : Bool} (hop : o.op = .binOp (if neg then .neq else .eql) t x (.const .nilFunc) t') (ht : P.underlying t = some (.func ps rs vr)) (hx : opd x = some x')
    (he : EnvOk w g T a.tmps e) (hd : fnilD neg (ev e x') = some d) : Yl P w g T a o d := by
  have h1 := opd_rep he hx
  have hk : a.eval (.const .nilFunc) = .nilFunc := rfl
  unfold fnilD at hd
  split at hd
  · rename_i f cs hf
    rw [hf] at h1
    obtain ⟨cs', hv, _⟩ := rep_fn h1
    simp only [Option.some.injEq] at hd
    subst hd
    refine ⟨.bool neg, ?_, sc_rep rfl⟩
    simp only [execOp, hop, hv, hk, Sem.run_bind, eqGuard_sc (P := P) (w := w) (u := .func (.func f) #[] cs') (fun cs => by simp) (by simp), Result.andThen_ok, Sem.run_pure]
    cases neg
    · simp only [binOp, Bool.false_eq_true, if_false, Sem.run_bind, equal_nilfunc ht, Result.andThen_ok, Sem.run_pure]
    · simp only [binOp, if_true, Sem.run_bind, equal_nilfunc ht, Result.andThen_ok, Sem.run_pure, Bool.not_false]
  · rename_i hf
    rw [hf] at h1
    have hv := rep_sc h1
    simp only [Option.some.injEq] at hd
    subst hd
    refine ⟨.bool (!neg), ?_, sc_rep rfl⟩
    simp only [execOp, hop, hv, hk, Sem.run_bind, eqGuard_sc (P := P) (w := w) (u := .nilFunc) (fun cs => by simp) (by simp), Result.andThen_ok, Sem.run_pure]
    cases neg
    · simp only [binOp, Bool.false_eq_true, if_false, Sem.run_bind, equal_nilnil ht, Result.andThen_ok, Sem.run_pure, Bool.not_false]
    · simp only [binOp, if_true, Sem.run_bind, equal_nilnil ht, Result.andThen_ok, Sem.run_pure, Bool.not_true]
  · simp at hd
theorem equal_slnil {t et : TypeId} {ad : Option Addr} {n c : Nat} (ht : P.underlying t = some (.slice et)) : (Op.equal t (.slice ad n c) (.slice none 0 0)).run P w = .ok ad.isNone w := by
  show (Op.equalIn (9999 + 1) t _ _).run P w = _
  unfold Op.equalIn
  simp only [Sem.run_bind, underlying_run ht, Result.andThen_ok]
  cases ad <;> rfl
theorem yl_snil {neg : Bool} {t t' et : TypeId} {x : Operand} {x' : Opd} {d : D} (hop : o.op = .binOp (if neg then .neq else .eql) t x (.const (.slice none 0 0)) t') (ht : P.underlying t = some (.slice et)) (hx : opd x = some x')
    (he : EnvOk w g T a.tmps e) (hd : snilD neg (ev e x') = some d) : Yl P w g T a o d := by
  have h1 := opd_rep he hx
  have hk : a.eval (.const (.slice none 0 0)) = .slice none 0 0 := rfl
  unfold snilD at hd
  split at hd
  · rename_i n cs hs
    split at hd
    · simp at hd
    · rename_i hn
      simp only [Option.some.injEq] at hd
      subst hd
      rcases slc_rep h1 hs with ⟨_, rfl, _⟩ | ⟨ad, cap, us, hv, _⟩
      · exact absurd rfl hn
      · refine ⟨.bool neg, ?_, sc_rep rfl⟩
        simp only [execOp, hop, hv, hk, Sem.run_bind, eqGuard_sc (P := P) (w := w) (u := .slice (some ad) n cap) (fun cs => by simp) (by simp), Result.andThen_ok, Sem.run_pure]
        cases neg
        · simp only [binOp, Bool.false_eq_true, if_false, Sem.run_bind, equal_slnil ht, Result.andThen_ok, Sem.run_pure]; rfl
        · simp only [binOp, if_true, Sem.run_bind, equal_slnil ht, Result.andThen_ok, Sem.run_pure]; rfl
  · simp at hd
theorem equal_ifnil {t : TypeId} {ms : Array (String × TypeId)} (ht : P.underlying t = some (.interface ms)) (u : TypeId) (v : Value) : (Op.equal t (.iface u v) .nilIface).run P w = .ok false w := by
  show (Op.equalIn (9999 + 1) t _ _).run P w = _
  unfold Op.equalIn
  simp only [Sem.run_bind, underlying_run ht, Result.andThen_ok]
  rfl
theorem equal_nilif {t : TypeId} {ms : Array (String × TypeId)} (ht : P.underlying t = some (.interface ms)) : (Op.equal t .nilIface .nilIface).run P w = .ok true w := by
  show (Op.equalIn (9999 + 1) t _ _).run P w = _
  unfold Op.equalIn
  simp only [Sem.run_bind, underlying_run ht, Result.andThen_ok]
  rfl
theorem yl_inil {neg : Bool} {t t' : TypeId} {ms : Array (String × TypeId)} {x : Operand} {x' : Opd} {d : D} (hop : o.op = .binOp (if neg then .neq else .eql) t x (.const .nilIface) t') (ht : P.underlying t = some (.interface ms)) (hx : opd x = some x')
    (he : EnvOk w g T a.tmps e) (hd : inilD neg (ev e x') = some d) : Yl P w g T a o d := by
  have h1 := opd_rep he hx
  have hk : a.eval (.const .nilIface) = .nilIface := rfl
  unfold inilD at hd
  split at hd
  · rename_i u dd hf
    rw [hf] at h1
    obtain ⟨v, hv, _⟩ := rep_ifc h1
    simp only [Option.some.injEq] at hd
    subst hd
    refine ⟨.bool neg, ?_, sc_rep rfl⟩
    simp only [execOp, hop, hv, hk, Sem.run_bind, eqGuard_sc (P := P) (w := w) (u := .iface u v) (fun cs => by simp) (by simp), Result.andThen_ok, Sem.run_pure]
    cases neg
    · simp only [binOp, Bool.false_eq_true, if_false, Sem.run_bind, equal_ifnil ht, Result.andThen_ok, Sem.run_pure]
    · simp only [binOp, if_true, Sem.run_bind, equal_ifnil ht, Result.andThen_ok, Sem.run_pure, Bool.not_false]
  · rename_i hf
    rw [hf] at h1
    have hv := rep_sc h1
    simp only [Option.some.injEq] at hd
    subst hd
    have hg : ∀ op, (eqGuard op t x (.const .nilIface) .nilIface .nilIface).run P w = .ok () w := fun op => by
      unfold eqGuard
      cases op <;> simp
    refine ⟨.bool (!neg), ?_, sc_rep rfl⟩
    simp only [execOp, hop, hv, hk, Sem.run_bind, hg, Result.andThen_ok, Sem.run_pure]
    cases neg
    · simp only [binOp, Bool.false_eq_true, if_false, Sem.run_bind, equal_nilif ht, Result.andThen_ok, Sem.run_pure]; rfl
    · simp only [binOp, if_true, Sem.run_bind, equal_nilif ht, Result.andThen_ok, Sem.run_pure, Bool.not_true]
  · simp at hd
end
end Go.Abs
