/- Own framework, part 16: every operation of the machine that was turned into an abstract one does what that one tells (the whole). -/
import Derived.Test.YthglfhnlolefhaaGreatDoorAbsMain
set_option linter.unusedVariables false
set_option linter.unusedSimpArgs false
namespace Go.Abs
open Go.RowKit (Below)

theorem arr1 {α : Type} {a : Array α} {x : α} (h : a.toList = [x]) : a = #[x] := by apply Array.ext'; simpa using h
theorem arr2 {α : Type} {a : Array α} {x y : α} (h : a.toList = [x, y]) : a = #[x, y] := by apply Array.ext'; simpa using h

section
variable {P : Program} {w : World} {g : Gh} {V V' : List VO} {T T' : List Nat} {a : Act} {e : Env} {o : Oper} {orc : Orc} {call : CallF} {aop : AOp} {ac : Ac} {d : D} {l : Lab}

theorem ok_load {t : TypeId} {x : Operand} (hop : o.op = .load t x) (hm : trOp P o = some aop) (he : EnvOk w g T a.tmps e) (hS : Sim w g V T) (ha : act orc e aop = some ac) (hd : doAc call V T ac = some (.ok d V' T', l)) : StG P w g T a o d V' T' := by
  simp only [trOp, hop] at hm
  cases hag : aggT P t with
  | none => simp [hag] at hm
  | some ag =>
    cases hsz : sizeT P t with
    | none => simp [hag, hsz] at hm
    | some sz =>
      cases hx : opd x with
      | none => simp [hag, hsz, hx] at hm
      | some x' =>
        simp only [hag, hsz, hx, Option.bind_eq_bind, Option.bind_some, Option.some.injEq] at hm
        subst hm
        simp only [act] at ha
        split at ha
        · rename_i cs hv
          split at ha
          · rename_i hle
            obtain ⟨d', h1, rfl⟩ := qo_some ha
            obtain ⟨rfl, rfl, rfl⟩ := doAc_q hd
            exact (yl_load_ip hop hag hsz hx he hv hle h1).stg hS
          · simp at ha
        · rename_i id off hv
          simp only [Option.some.injEq] at ha
          subst ha
          simp only [doAc] at hd
          cases ho : V[id]? with
          | none => simp [ho] at hd
          | some vo =>
            simp only [ho] at hd
            split at hd
            · simp at hd
            · rename_i hit
              cases hf : partD ag vo.cs off sz with
              | none => simp [hf] at hd
              | some d' =>
                simp only [hf, Option.some.injEq, Prod.mk.injEq, Out1.ok.injEq] at hd
                obtain ⟨⟨rfl, rfl, rfl⟩, _⟩ := hd
                exact st_load_mp hop hag hsz hx he hv ho (by simpa using hit) hf hS
        · simp at ha
theorem ok_store {t : TypeId} {p x : Operand} (hop : o.op = .store t p x) (hm : trOp P o = some aop) (he : EnvOk w g T a.tmps e) (hS : Sim w g V T) (ha : act orc e aop = some ac) (hd : doAc call V T ac = some (.ok d V' T', l)) : StG P w g T a o d V' T' := by
  simp only [trOp, hop] at hm
  cases hsz : sizeT P t with
  | none => simp [hsz] at hm
  | some sz =>
    cases hp : opd p with
    | none => simp [hsz, hp] at hm
    | some p' =>
      cases hx : opd x with
      | none => simp [hsz, hx, hp] at hm
      | some x' =>
        simp only [hp, hsz, hx, Option.bind_eq_bind, Option.bind_some, Option.some.injEq] at hm
        subst hm
        simp only [act] at ha
        split at ha
        · rename_i id off hv
          split at ha
          · rename_i hf
            simp only [Option.some.injEq] at ha
            subst ha
            simp only [doAc] at hd
            cases ho : V[id]? with
            | none => simp [ho] at hd
            | some vo =>
              simp only [ho] at hd
              split at hd
              · simp at hd
              · rename_i hfi
                simp only [Bool.or_eq_true, not_or, Bool.not_eq_true] at hfi
                split at hd
                · rename_i cs hcs
                  split at hcs
                  · rename_i hle
                    simp only [Option.some.injEq] at hcs
                    subst hcs
                    simp only [Option.some.injEq, Prod.mk.injEq, Out1.ok.injEq] at hd
                    obtain ⟨⟨rfl, rfl, rfl⟩, _⟩ := hd
                    exact st_store hop hsz hp hx he hv hf ho hfi.2 hfi.1 hle hS
                  · simp at hcs
                · simp at hd
          · simp at ha
        · simp at ha
theorem ok_build {t : TypeId} {parts : Array (Nat × Operand)} (hop : o.op = .build t parts) (hm : trOp P o = some aop) (he : EnvOk w g T a.tmps e) (hS : Sim w g V T) (ha : act orc e aop = some ac) (hd : doAc call V T ac = some (.ok d V' T', l)) : StG P w g T a o d V' T' := by
  simp only [trOp, hop] at hm
  split at hm
  · rename_i fs hu
    cases hz : zeroT P t with
    | none => simp [hz] at hm
    | some z =>
      cases hpl : mapO (fun f : Field => (sizeT P f.type).map fun s => (f.offset, s)) fs.toList with
      | none => simp [hz, hpl] at hm
      | some places =>
        cases hps : partsOf (places[·]?) parts.toList with
        | none => simp [hz, hpl, hps] at hm
        | some ps =>
          simp only [hz, hpl, hps, Option.bind_eq_bind, Option.bind_some, Option.some.injEq] at hm
          subst hm
          simp only [act] at ha
          cases hf : fillD e (z.map zD) ps with
          | none => simp [hf] at ha
          | some cs =>
            simp only [hf, Option.map_some, Option.some.injEq] at ha
            subst ha
            obtain ⟨rfl, rfl, rfl⟩ := doAc_q hd
            exact (yl_build_struct hop hu hz hpl hps he hf).stg hS
  · rename_i n et hu
    cases hz : zeroT P t with
    | none => simp [hz] at hm
    | some z =>
      cases hs : sizeT P et with
      | none => simp [hz, hs] at hm
      | some s =>
        cases hps : partsOf (fun i => some (i * s, s)) parts.toList with
        | none => simp [hz, hs, hps] at hm
        | some ps =>
          simp only [hz, hs, hps, Option.bind_eq_bind, Option.bind_some, Option.some.injEq] at hm
          subst hm
          simp only [act] at ha
          cases hf : fillD e (z.map zD) ps with
          | none => simp [hf] at ha
          | some cs =>
            simp only [hf, Option.map_some, Option.some.injEq] at ha
            subst ha
            obtain ⟨rfl, rfl, rfl⟩ := doAc_q hd
            exact (yl_build_array hop hu hz hs hps he hf).stg hS
  · simp at hm
theorem ok_bsl {t : TypeId} {n : Nat} {parts : Array (Nat × Operand)} (hop : o.op = .buildSlice t n parts) (hm : trOp P o = some aop) (he : EnvOk w g T a.tmps e) (hS : Sim w g V T) (ha : act orc e aop = some ac) (hd : doAc call V T ac = some (.ok d V' T', l)) : StG P w g T a o d V' T' := by
  simp only [trOp, hop] at hm
  split at hm
  · rename_i et hu
    cases hs : sizeT P et with
    | none => simp [hs] at hm
    | some s =>
      cases hz : zeroT P et with
      | none => simp [hz, hs] at hm
      | some z =>
        simp only [hs, hz, Option.bind_eq_bind, Option.bind_some] at hm
        split at hm
        · simp at hm
        · rename_i hc
          cases hps : partsOf (fun i => some (i * s, s)) parts.toList with
          | none => simp [hps] at hm
          | some ps =>
            simp only [hps, Option.bind_some, Option.some.injEq] at hm
            subst hm
            simp only [act] at ha
            cases hf : fillP e (List.replicate n z).flatten ps with
            | none => simp [hf] at ha
            | some cs =>
              simp only [hf, Option.map_some, Option.some.injEq] at ha
              subst ha
              obtain ⟨rfl, rfl, rfl⟩ := doAc_q hd
              simp only [Bool.or_eq_true, decide_eq_true_eq, bne_iff_ne, ne_eq, not_or, Decidable.not_not] at hc
              exact st_bsl hop hu hs hz hc.1.1 hc.1.2 hc.2 hps he hf hS
  · simp at hm
theorem conv_cases {src dst : TypeId} {k : CK} (h : convOf P src dst = some k) : (∃ k1 k2, P.underlying src = some (.int k1) ∧ P.underlying dst = some (.int k2) ∧ k = .int k2) ∨ (∃ k1 k2, P.underlying src = some (.int k1) ∧ P.underlying dst = some (.float k2) ∧ k = .flt k2) ∨
    (P.underlying src = some .string ∧ P.underlying dst = some .string ∧ k = .id) ∨ (∃ e, P.underlying src = some .string ∧ P.underlying dst = some (.slice e) ∧ P.underlying e = some (.int .u8) ∧ k = .s2b e) ∨
    (∃ e, src = dst ∧ P.underlying src = some (.slice e) ∧ P.underlying e = some (.int .u8) ∧ k = .ss) ∨ (∃ e, P.underlying src = some (.slice e) ∧ P.underlying e = some (.int .u8) ∧ P.underlying dst = some .string ∧ k = .b2s) := by
  unfold convOf at h
  have hu8 : ∀ {u : Option TypeDesc}, isU8 u = true → u = some (.int .u8) := fun {u} hh => by
    unfold isU8 at hh
    split at hh
    · rfl
    · simp at hh
  split at h
  · rename_i h1 h2; simp only [Option.some.injEq] at h; exact .inl ⟨_, _, h1, h2, h.symm⟩
  · rename_i h1 h2; simp only [Option.some.injEq] at h; exact .inr (.inl ⟨_, _, h1, h2, h.symm⟩)
  · rename_i h1 h2; simp only [Option.some.injEq] at h; exact .inr (.inr (.inl ⟨h1, h2, h.symm⟩))
  · rename_i e h1 h2
    split at h
    · rename_i hm
      simp only [Option.some.injEq] at h
      exact .inr (.inr (.inr (.inl ⟨e, h1, h2, hu8 hm.1, h.symm⟩)))
    · simp at h
  · rename_i e e' h1 h2
    split at h
    · rename_i hm
      simp only [Option.some.injEq] at h
      exact .inr (.inr (.inr (.inr (.inl ⟨e, hm.1, h1, hu8 hm.2, h.symm⟩))))
    · simp at h
  · rename_i e h1 h2
    split at h
    · rename_i hm
      simp only [Option.some.injEq] at h
      exact .inr (.inr (.inr (.inr (.inr ⟨e, h1, hu8 hm, h2, h.symm⟩))))
    · simp at h
  · simp at h
theorem ok_conv {src dst : TypeId} {x : Operand} (hop : o.op = .convert src dst x) (hm : trOp P o = some aop) (he : EnvOk w g T a.tmps e) (hS : Sim w g V T) (ha : act orc e aop = some ac) (hd : doAc call V T ac = some (.ok d V' T', l)) : StG P w g T a o d V' T' := by
  simp only [trOp, hop] at hm
  cases hk : convOf P src dst with
  | none => simp [hk] at hm
  | some k =>
    cases hx : opd x with
    | none => simp [hk, hx] at hm
    | some x' =>
      simp only [hk, hx, Option.bind_eq_bind, Option.bind_some, Option.some.injEq] at hm
      subst hm
      rcases conv_cases hk with ⟨k1, k2, h1, h2, rfl⟩ | ⟨k1, k2, h1, h2, rfl⟩ | ⟨h1, h2, rfl⟩ | ⟨et, h1, h2, h3, rfl⟩ | ⟨et, rfl, h1, h2, rfl⟩ | ⟨et, h1, h2, h3, rfl⟩
      · simp only [act] at ha
        obtain ⟨d', hq, rfl⟩ := qo_some ha
        obtain ⟨rfl, rfl, rfl⟩ := doAc_q hd
        simp only [convD] at hq
        split at hq
        · rename_i hv
          simp only [Option.some.injEq] at hq
          subst hq
          exact (yl_conv_int hop h1 h2 hx he hv).stg hS
        · simp at hq
      · simp only [act] at ha
        obtain ⟨d', hq, rfl⟩ := qo_some ha
        obtain ⟨rfl, rfl, rfl⟩ := doAc_q hd
        simp only [convD] at hq
        split at hq
        · rename_i hv
          simp only [Option.some.injEq] at hq
          subst hq
          exact (yl_conv_flt hop h1 h2 hx he hv).stg hS
        · simp at hq
      · simp only [act] at ha
        obtain ⟨d', hq, rfl⟩ := qo_some ha
        obtain ⟨rfl, rfl, rfl⟩ := doAc_q hd
        simp only [convD] at hq
        split at hq
        · rename_i hv
          simp only [Option.some.injEq] at hq
          subst hq
          exact (yl_conv_id hop h1 h2 hx he hv).stg hS
        · simp at hq
      · simp only [act] at ha
        split at ha
        · rename_i s hv
          simp only [Option.some.injEq] at ha
          subst ha
          simp only [doAc, Option.some.injEq, Prod.mk.injEq, Out1.ok.injEq] at hd
          obtain ⟨⟨rfl, rfl, rfl⟩, _⟩ := hd
          exact st_s2b hop h1 h2 h3 hx he hv hS
        · simp at ha
      · simp only [act] at ha
        obtain ⟨d', hq, rfl⟩ := qo_some ha
        obtain ⟨rfl, rfl, rfl⟩ := doAc_q hd
        simp only [convD] at hq
        split at hq
        · rename_i hv
          split at hq
          · simp at hq
          · rename_i hn
            simp only [Option.some.injEq] at hq
            subst hq
            exact st_ss hop h1 h2 hx he hv hn hS
        · simp at hq
      · simp only [act] at ha
        obtain ⟨d', hq, rfl⟩ := qo_some ha
        obtain ⟨rfl, rfl, rfl⟩ := doAc_q hd
        simp only [convD] at hq
        split at hq
        · rename_i n cs hv
          split at hq
          · rename_i hl
            cases hb : unBytes cs with
            | none => simp [hb] at hq
            | some lb =>
              simp only [hb, Option.map_some, Option.some.injEq] at hq
              subst hq
              exact (yl_conv_b2s hop h1 h2 h3 hx he hv hl hb).stg hS
          · simp at hq
        · simp at hq
end
end Go.Abs
