/- Own framework, part 7: lengths, parts, addresses, slices of what never turns. -/
import Derived.Test.YthglfhnlolefhaaGreatDoorAbsStep2
set_option linter.unusedVariables false
set_option linter.unusedSimpArgs false
namespace Go.Abs
open Go.RowKit (Below)

section
variable {P : Program} {w : World} {g : Gh} {V : List VO} {T : List Nat} {a : Act} {e : Env} {o : Oper}

theorem add_add' (a : Addr) (i j : Nat) : (a.add i).add j = a.add (i + j) := by
  obtain ⟨b, o, s⟩ := a
  unfold Addr.add
  by_cases hi : i = 0
  · simp [hi]
  · by_cases hj : j = 0
    · simp [hi, hj]
    · simp [hi, hj, Nat.add_assoc]
/-- From the n-th cell on. -/
theorem Cel.drop {I : Nat → Nat → Prop} {a : Addr} {cs : List Go.Abs.P} {us : Nat → Value} (h : Cel w I a cs.length us) (n : Nat) : Cel w I (a.add n) (cs.drop n).length (fun i => us (n + i)) :=
  ⟨fun i hi => by rw [add_add']; exact h.cell (n + i) (by simp at hi; omega), fun i hi => by rw [add_add']; exact h.imm (n + i) (by simp at hi; omega)⟩
theorem Cel.take {I : Nat → Nat → Prop} {a : Addr} {cs : List Go.Abs.P} {us : Nat → Value} (h : Cel w I a cs.length us) (n : Nat) : Cel w I a (cs.take n).length us :=
  ⟨fun i hi => h.cell i (by simp at hi; omega), fun i hi => h.imm i (by simp at hi; omega)⟩
theorem rep_drop {I : Nat → Nat → Prop} {cs : List Go.Abs.P} {us : Nat → Value} (h : ∀ i (hi : i < cs.length), RepP w I (us i) cs[i]) (n : Nat) : ∀ i (hi : i < (cs.drop n).length), RepP w I (us (n + i)) (cs.drop n)[i] := by
  intro i hi
  rw [List.getElem_drop]
  exact h (n + i) (by simp at hi; omega)
theorem rep_take {I : Nat → Nat → Prop} {cs : List Go.Abs.P} {us : Nat → Value} (h : ∀ i (hi : i < cs.length), RepP w I (us i) cs[i]) (n : Nat) : ∀ i (hi : i < (cs.take n).length), RepP w I (us i) (cs.take n)[i] := by
  intro i hi
  rw [List.getElem_take]
  exact h i (by simp at hi; omega)

/-! ### len -/
theorem yl_len_arr {n : Nat} {t et : TypeId} {x : Operand} (hop : o.op = .call { callee := .builtin .len, args := #[x], argTypes := #[t] }) (ht : P.underlying t = some (.array n et)) :
    Yl P w g T a o (.c (.v (.int .i64 n))) := by
  refine ⟨goInt n, ?_, sc_rep rfl⟩
  simp [execOp, hop, resolve, invoke, builtin, Builtin.len_, underlying_run ht]
theorem yl_len_str {t : TypeId} {x : Operand} {x' : Opd} {s : ByteArray} (hop : o.op = .call { callee := .builtin .len, args := #[x], argTypes := #[t] }) (ht : P.underlying t = some .string) (hx : opd x = some x') (he : EnvOk w g T a.tmps e)
    (hv : ev e x' = .c (.v (.string s))) : Yl P w g T a o (.c (.v (.int .i64 s.size))) := by
  have h1 := opd_rep he hx
  rw [hv] at h1
  refine ⟨goInt s.size, ?_, sc_rep rfl⟩
  simp [execOp, hop, resolve, invoke, builtin, Builtin.len_, underlying_run ht, rep_sc h1]
theorem yl_len_sl {t et : TypeId} {x : Operand} {x' : Opd} {n : Nat} {cs : List Go.Abs.P} (hop : o.op = .call { callee := .builtin .len, args := #[x], argTypes := #[t] }) (ht : P.underlying t = some (.slice et)) (hx : opd x = some x') (he : EnvOk w g T a.tmps e)
    (hv : (ev e x').slc = some (n, cs)) : Yl P w g T a o (.c (.v (.int .i64 n))) := by
  have h1 := slc_rep (opd_rep he hx) hv
  refine ⟨goInt n, ?_, sc_rep rfl⟩
  rcases h1 with ⟨h1, rfl, rfl⟩ | ⟨ad, cap, us, h1, _⟩ <;> simp [execOp, hop, resolve, invoke, builtin, Builtin.len_, underlying_run ht, h1]
/-! ### parts of structs and arrays -/
theorem part_run {t : TypeId} {ag : Bool} {sz off : Nat} {cs : Array Value} {ds : List D} {d : D} (ha : aggT P t = some ag) (hs : sizeT P t = some sz) (hr : RepL w g T cs ds) (h1 : ∀ i (h : i < ds.length), (ds[i]).one = true) (hd : partD ag ds off sz = some d) :
    ∃ v, (part t cs off).run P w = .ok v w ∧ RepD w g T v d := by
  unfold partD at hd
  split at hd
  case isFalse => simp at hd
  rename_i hle
  unfold part
  simp only [Sem.run_bind, aggT_run ha, Result.andThen_ok]
  cases ag with
  | true =>
    have hd' : d = .ag ((ds.drop off).take sz) := by
      unfold mkV at hd
      split at hd <;> simp_all
    subst hd'
    refine ⟨.agg (cs.extract off (off + sz)), by simp [sizeT_run hs], .ag ?_ ?_ ?_⟩
    · have := hr.1; simp; omega
    · intro i hi
      simp at hi
      simp only [List.getElem_take, List.getElem_drop]
      exact h1 _ (by omega)
    · intro i hi
      simp at hi
      simp only [List.getElem_take, List.getElem_drop]
      have := hr.2 (off + i) (by omega)
      have hlt : off + i < cs.size := by rw [hr.1]; omega
      have hi2 : i < (cs.extract off (off + sz)).size := by simp; omega
      simp only [Array.getD_eq_getD_getElem?, Array.getElem?_eq_getElem hi2, Option.getD_some]
      simpa [Array.getD_eq_getD_getElem?, Array.getElem?_eq_getElem hlt] using this
  | false =>
    obtain ⟨hd1, hd2⟩ : ∃ x, (ds.drop off).take sz = [x] ∧ d = x := by
      unfold mkV at hd
      split at hd
      · rename_i x hx; exact ⟨x, hx, by simpa using hd.symm⟩
      · simp at hd
    obtain ⟨hd2, rfl⟩ := hd2
    have hlt : off < ds.length := by
      rcases Nat.lt_or_ge off ds.length with h | h
      · exact h
      · rw [List.drop_eq_nil_of_le h] at hd2; simp at hd2
    have hx : ds[off]? = some d := by
      have : ((ds.drop off).take sz)[0]? = some d := by rw [hd2]; rfl
      rw [List.getElem?_take] at this
      split at this
      · simpa using this
      · simp at this
    obtain ⟨y, hy, hry⟩ := hr.at hx
    exact ⟨y, by simp [hy], hry⟩
theorem yl_fld {t : TypeId} {i : Nat} {x : Operand} {x' : Opd} {ag : Bool} {off sz : Nat} {cs : List D} {d : D} (hop : o.op = .field t x i) (hf : fieldOf P t i = some (ag, off, sz)) (hx : opd x = some x') (he : EnvOk w g T a.tmps e)
    (hv : ev e x' = .ag cs) (hd : partD ag cs off sz = some d) : Yl P w g T a o d := by
  have h1 := opd_rep he hx
  rw [hv] at h1
  obtain ⟨vs, hxe, hl, h2⟩ := rep_ag h1
  unfold fieldOf at hf
  split at hf
  · rename_i fs hu
    cases hfi : fs[i]? with
    | none => simp [hfi] at hf
    | some f =>
      cases ha : aggT P f.type with
      | none => simp [hfi, ha] at hf
      | some ag' =>
        cases hs : sizeT P f.type with
        | none => simp [hfi, ha, hs] at hf
        | some s' =>
          simp only [hfi, ha, hs, Option.bind_eq_bind, Option.bind_some] at hf
          split at hf
          · simp at hf
          · simp only [Option.some.injEq, Prod.mk.injEq] at hf
            obtain ⟨rfl, rfl, rfl⟩ := hf
            obtain ⟨v, hrun, hrep⟩ := part_run (P := P) ha hs hl h2 hd
            refine ⟨v, ?_, hrep⟩
            simp [execOp, hop, Instr.field, underlying_run hu, hfi, hxe, asAgg, hrun]
  · simp at hf
theorem field_facts {t : TypeId} {i : Nat} {ag : Bool} {off sz : Nat} (hf : fieldOf P t i = some (ag, off, sz)) : ∃ fs f, P.underlying t = some (.struct fs) ∧ fs[i]? = some f ∧ sizeT P f.type = some sz ∧ f.offset = off ∧ sz ≠ 0 := by
  unfold fieldOf at hf
  split at hf
  · rename_i fs hu
    cases hfi : fs[i]? with
    | none => simp [hfi] at hf
    | some f =>
      cases ha : aggT P f.type with
      | none => simp [hfi, ha] at hf
      | some ag' =>
        cases hs : sizeT P f.type with
        | none => simp [hfi, ha, hs] at hf
        | some s' =>
          simp only [hfi, ha, hs, Option.bind_eq_bind, Option.bind_some] at hf
          split at hf
          · simp at hf
          · rename_i hz
            simp only [Option.some.injEq, Prod.mk.injEq] at hf
            obtain ⟨rfl, rfl, rfl⟩ := hf
            exact ⟨fs, f, hu, hfi, hs, rfl, hz⟩
  · simp at hf
theorem fieldAt_run {t : TypeId} {i : Nat} {ag : Bool} {off sz : Nat} {ad : Addr} (hf : fieldOf P t i = some (ag, off, sz)) : (Instr.fieldAt t (.pointer (some ad)) i).run P w = .ok (.pointer (some (ad.add off))) w := by
  obtain ⟨fs, f, hu, hfi, hs, rfl, hz⟩ := field_facts hf
  simp [Instr.fieldAt, underlying_run hu, hfi, Instr.sureAddr, fieldPlace, sizeT_run hs, hz]
theorem yl_fad_ip {t : TypeId} {i : Nat} {x : Operand} {x' : Opd} {ag : Bool} {off sz : Nat} {cs : List Go.Abs.P} (hop : o.op = .fieldAddr t x i) (hf : fieldOf P t i = some (ag, off, sz)) (hx : opd x = some x') (he : EnvOk w g T a.tmps e)
    (hv : ev e x' = .ip cs) : Yl P w g T a o (.ip (cs.drop off)) := by
  have h1 := opd_rep he hx
  rw [hv] at h1
  obtain ⟨ad, us, hxe, hc, hr⟩ := rep_ip h1
  exact ⟨_, by simp [execOp, hop, hxe, fieldAt_run hf], .ip (hc.drop off) (rep_drop hr off)⟩
theorem yl_fad_mp {t : TypeId} {i : Nat} {x : Operand} {x' : Opd} {ag : Bool} {off sz id p : Nat} (hop : o.op = .fieldAddr t x i) (hf : fieldOf P t i = some (ag, off, sz)) (hx : opd x = some x') (he : EnvOk w g T a.tmps e)
    (hv : ev e x' = .mp id p) : Yl P w g T a o (.mp id (p + off)) := by
  have h1 := opd_rep he hx
  rw [hv] at h1
  obtain ⟨b, hxe, hb⟩ := rep_mp h1
  exact ⟨.pointer (some ((⟨b, p, none⟩ : Addr).add off)), by simp [execOp, hop, hxe, fieldAt_run hf], by rw [Addr.add_lit]; exact .mp hb⟩
theorem yl_nilck_ip {x : Operand} {x' : Opd} {cs : List Go.Abs.P} (hop : o.op = .nilCheck x) (hx : opd x = some x') (he : EnvOk w g T a.tmps e) (hv : ev e x' = .ip cs) : Yl P w g T a o (.ip cs) := by
  have h1 := opd_rep he hx
  rw [hv] at h1
  obtain ⟨ad, us, hxe, hc, hr⟩ := rep_ip h1
  exact ⟨_, by simp [execOp, hop, hxe], .ip hc hr⟩
theorem yl_nilck_mp {x : Operand} {x' : Opd} {id p : Nat} (hop : o.op = .nilCheck x) (hx : opd x = some x') (he : EnvOk w g T a.tmps e) (hv : ev e x' = .mp id p) : Yl P w g T a o (.mp id p) := by
  have h1 := opd_rep he hx
  rw [hv] at h1
  obtain ⟨b, hxe, hb⟩ := rep_mp h1
  exact ⟨_, by simp [execOp, hop, hxe], .mp hb⟩
/-! ### indexes -/
theorem asI_rep {v : Value} {d : D} {n : Int} (h : RepD w g T v d) (hd : asI d = some n) : ∃ k, v = .int k n := by
  unfold asI at hd
  split at hd
  · simp only [Option.some.injEq] at hd
    subst hd
    exact ⟨_, rep_sc h⟩
  · simp at hd
theorem sk_sl {t s : Nat} (h : skOf P t = some (.sl s)) : ∃ e, P.underlying t = some (.slice e) ∧ sizeT P e = some s ∧ s ≠ 0 := by
  unfold skOf at h
  split at h
  · simp at h
  · rename_i e hu
    cases hs : sizeT P e with
    | none => simp [hs] at h
    | some s' =>
      simp only [hs, Option.bind_some] at h
      split at h
      · simp at h
      · rename_i hz; simp only [Option.some.injEq, SK.sl.injEq] at h; subst h; exact ⟨e, hu, hs, hz⟩
  · rename_i n e hu
    cases hs : sizeT P e with
    | none => simp [hs] at h
    | some s' => simp only [hs, Option.bind_some] at h; split at h <;> simp at h
  · simp at h
theorem sk_arr {t n s : Nat} (h : skOf P t = some (.arr n s)) : ∃ e, P.underlying t = some (.array n e) ∧ sizeT P e = some s ∧ s ≠ 0 := by
  unfold skOf at h
  split at h
  · simp at h
  · rename_i e hu
    cases hs : sizeT P e with
    | none => simp [hs] at h
    | some s' => simp only [hs, Option.bind_some] at h; split at h <;> simp at h
  · rename_i n' e hu
    cases hs : sizeT P e with
    | none => simp [hs] at h
    | some s' =>
      simp only [hs, Option.bind_some] at h
      split at h
      · simp at h
      · rename_i hz; simp only [Option.some.injEq, SK.arr.injEq] at h; obtain ⟨rfl, rfl⟩ := h; exact ⟨e, hu, hs, hz⟩
  · simp at h
theorem sk_str {t : Nat} (h : skOf P t = some .str) : P.underlying t = some .string := by
  unfold skOf at h
  split at h
  · assumption
  · rename_i e hu
    cases hs : sizeT P e with
    | none => simp [hs] at h
    | some s' => simp only [hs, Option.bind_some] at h; split at h <;> simp at h
  · rename_i n e hu
    cases hs : sizeT P e with
    | none => simp [hs] at h
    | some s' => simp only [hs, Option.bind_some] at h; split at h <;> simp at h
  · simp at h
theorem yl_iad {t : TypeId} {k : SK} {x i : Operand} {x' i' : Opd} {d : D} (hop : o.op = .indexAddr t x i) (hk : skOf P t = some k) (hx : opd x = some x') (hi : opd i = some i') (he : EnvOk w g T a.tmps e)
    (hd : iadD k (ev e x') (ev e i') = some (.q d)) : Yl P w g T a o d := by
  have h1 := opd_rep he hx
  have h2 := opd_rep he hi
  unfold iadD at hd
  cases hn : asI (ev e i') with
  | none => simp [hn] at hd
  | some n =>
    obtain ⟨ik, h3⟩ := asI_rep h2 hn
    simp only [hn] at hd
    cases k with
    | str => simp at hd
    | sl esz =>
      obtain ⟨et, hu, hs, hz⟩ := sk_sl hk
      simp only [] at hd
      cases hsl : (ev e x').slc with
      | none => simp [hsl] at hd
      | some y =>
        obtain ⟨m, cs⟩ := y
        simp only [hsl] at hd
        split at hd
        · rename_i hb
          simp only [Option.some.injEq, Ac.q.injEq] at hd
          subst hd
          rcases slc_rep h1 hsl with ⟨h4, rfl, rfl⟩ | ⟨ad, cap, us, h4, hle, hc, hr⟩
          · exact absurd hb.2 (by omega)
          · refine ⟨.pointer (some (ad.add (n.toNat * esz))), ?_, .ip (hc.drop _) (rep_drop hr _)⟩
            simp [execOp, hop, Instr.indexAt, h3, asIntOf, h4, underlying_run hu, hb, sizeT_run hs]
        · simp at hd
    | arr m esz =>
      obtain ⟨et, hu, hs, hz⟩ := sk_arr hk
      simp only [] at hd
      split at hd
      · rename_i id off hv
        split at hd
        · rename_i hb
          simp only [Option.some.injEq, Ac.q.injEq] at hd
          subst hd
          rw [hv] at h1
          obtain ⟨b, hxe, hb'⟩ := rep_mp h1
          refine ⟨.pointer (some ((⟨b, off, none⟩ : Addr).add (n.toNat * esz))), ?_, by rw [Addr.add_lit]; exact .mp hb'⟩
          simp [execOp, hop, Instr.indexAt, h3, asIntOf, hxe, underlying_run hu, hb, sizeT_run hs, Instr.sureAddr]
        · simp at hd
      · rename_i cs hv
        split at hd
        · rename_i hb
          simp only [Option.some.injEq, Ac.q.injEq] at hd
          subst hd
          rw [hv] at h1
          obtain ⟨ad, us, hxe, hc, hr⟩ := rep_ip h1
          refine ⟨.pointer (some (ad.add (n.toNat * esz))), ?_, .ip (hc.drop _) (rep_drop hr _)⟩
          simp [execOp, hop, Instr.indexAt, h3, asIntOf, hxe, underlying_run hu, hb, sizeT_run hs, Instr.sureAddr]
        · simp at hd
      · simp at hd
end
end Go.Abs
