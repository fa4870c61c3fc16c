/- Own: texts AbsMain2 AbsMain3 AbsMain4 AbsCall AbsCall2 AbsReg AbsOrd AbsOrd2 AbsOrd3 AbsRun AbsCode AbsEq AbsTop CodeTag AbsKit in one, as a program put them together. The last text of the row proves the law; no condition of our own. -/
import Derived.Test.YthglfhnlolefhaaGreatDoorAclSameA
import Derived.Orders
import Derived.LoopN
import Derived.Laws.StructEq
import Derived.Test.YthglfhnlolefhaaGreatDoorProg
import Derived.KernelRfl
import Derived.Laws.BitsLemmas
section
/- Own framework, part 16: every operation of the machine that was turned into an abstract one does what that one tells (the whole). -/
set_option linter.unusedVariables false
set_option linter.unusedSimpArgs false
namespace Go.Abs
open Go.RowKit (Below)

theorem arr1 {α : Type} {a : Array α} {x : α} (h : a.toList = [x]) : a = #[x] := by apply Array.ext'; simpa using h
theorem arr2 {α : Type} {a : Array α} {x y : α} (h : a.toList = [x, y]) : a = #[x, y] := by apply Array.ext'; simpa using h

section
variable {P : Program} {w : World} {g : Gh} {V V' : List VO} {T T' : List Nat} {a : Act} {e : Env} {o : Oper} {orc : Orc} {call : CallF} {aop : AOp} {ac : Ac} {d : D} {l : Lab}

theorem ok_load {t : TypeId} {x : Operand} (hop : o.op = .load t x) (hm : trOp P o = some aop) (he : EnvOk w g T a.tmps e) (hS : Sim w g V T) (ha : act orc e aop = some ac) (hd : doAc call V T ac = some (.ok d V' T', l)) : StG P w g T a o d V' T' := by
  simp only [trOp, hop] at hm
  cases hag : aggT P t with
  | none => simp [hag] at hm
  | some ag =>
    cases hsz : sizeT P t with
    | none => simp [hag, hsz] at hm
    | some sz =>
      cases hx : opd x with
      | none => simp [hag, hsz, hx] at hm
      | some x' =>
        simp only [hag, hsz, hx, Option.bind_eq_bind, Option.bind_some, Option.some.injEq] at hm
        subst hm
        simp only [act] at ha
        split at ha
        · rename_i cs hv
          split at ha
          · rename_i hle
            obtain ⟨d', h1, rfl⟩ := qo_some ha
            obtain ⟨rfl, rfl, rfl⟩ := doAc_q hd
            exact (yl_load_ip hop hag hsz hx he hv hle h1).stg hS
          · simp at ha
        · rename_i id off hv
          simp only [Option.some.injEq] at ha
          subst ha
          simp only [doAc] at hd
          cases ho : V[id]? with
          | none => simp [ho] at hd
          | some vo =>
            simp only [ho] at hd
            split at hd
            · simp at hd
            · rename_i hit
              cases hf : partD ag vo.cs off sz with
              | none => simp [hf] at hd
              | some d' =>
                simp only [hf, Option.some.injEq, Prod.mk.injEq, Out1.ok.injEq] at hd
                obtain ⟨⟨rfl, rfl, rfl⟩, _⟩ := hd
                exact st_load_mp hop hag hsz hx he hv ho (by simpa using hit) hf hS
        · simp at ha
theorem ok_store {t : TypeId} {p x : Operand} (hop : o.op = .store t p x) (hm : trOp P o = some aop) (he : EnvOk w g T a.tmps e) (hS : Sim w g V T) (ha : act orc e aop = some ac) (hd : doAc call V T ac = some (.ok d V' T', l)) : StG P w g T a o d V' T' := by
  simp only [trOp, hop] at hm
  cases hsz : sizeT P t with
  | none => simp [hsz] at hm
  | some sz =>
    cases hp : opd p with
    | none => simp [hsz, hp] at hm
    | some p' =>
      cases hx : opd x with
      | none => simp [hsz, hx, hp] at hm
      | some x' =>
        simp only [hp, hsz, hx, Option.bind_eq_bind, Option.bind_some, Option.some.injEq] at hm
        subst hm
        simp only [act] at ha
        split at ha
        · rename_i id off hv
          split at ha
          · rename_i hf
            simp only [Option.some.injEq] at ha
            subst ha
            simp only [doAc] at hd
            cases ho : V[id]? with
            | none => simp [ho] at hd
            | some vo =>
              simp only [ho] at hd
              split at hd
              · simp at hd
              · rename_i hfi
                simp only [Bool.or_eq_true, not_or, Bool.not_eq_true] at hfi
                split at hd
                · rename_i cs hcs
                  split at hcs
                  · rename_i hle
                    simp only [Option.some.injEq] at hcs
                    subst hcs
                    simp only [Option.some.injEq, Prod.mk.injEq, Out1.ok.injEq] at hd
                    obtain ⟨⟨rfl, rfl, rfl⟩, _⟩ := hd
                    exact st_store hop hsz hp hx he hv hf ho hfi.2 hfi.1 hle hS
                  · simp at hcs
                · simp at hd
          · simp at ha
        · simp at ha
theorem ok_build {t : TypeId} {parts : Array (Nat × Operand)} (hop : o.op = .build t parts) (hm : trOp P o = some aop) (he : EnvOk w g T a.tmps e) (hS : Sim w g V T) (ha : act orc e aop = some ac) (hd : doAc call V T ac = some (.ok d V' T', l)) : StG P w g T a o d V' T' := by
  simp only [trOp, hop] at hm
  split at hm
  · rename_i fs hu
    cases hz : zeroT P t with
    | none => simp [hz] at hm
    | some z =>
      cases hpl : mapO (fun f : Field => (sizeT P f.type).map fun s => (f.offset, s)) fs.toList with
      | none => simp [hz, hpl] at hm
      | some places =>
        cases hps : partsOf (places[·]?) parts.toList with
        | none => simp [hz, hpl, hps] at hm
        | some ps =>
          simp only [hz, hpl, hps, Option.bind_eq_bind, Option.bind_some, Option.some.injEq] at hm
          subst hm
          simp only [act] at ha
          cases hf : fillD e (z.map zD) ps with
          | none => simp [hf] at ha
          | some cs =>
            simp only [hf, Option.map_some, Option.some.injEq] at ha
            subst ha
            obtain ⟨rfl, rfl, rfl⟩ := doAc_q hd
            exact (yl_build_struct hop hu hz hpl hps he hf).stg hS
  · rename_i n et hu
    cases hz : zeroT P t with
    | none => simp [hz] at hm
    | some z =>
      cases hs : sizeT P et with
      | none => simp [hz, hs] at hm
      | some s =>
        cases hps : partsOf (fun i => some (i * s, s)) parts.toList with
        | none => simp [hz, hs, hps] at hm
        | some ps =>
          simp only [hz, hs, hps, Option.bind_eq_bind, Option.bind_some, Option.some.injEq] at hm
          subst hm
          simp only [act] at ha
          cases hf : fillD e (z.map zD) ps with
          | none => simp [hf] at ha
          | some cs =>
            simp only [hf, Option.map_some, Option.some.injEq] at ha
            subst ha
            obtain ⟨rfl, rfl, rfl⟩ := doAc_q hd
            exact (yl_build_array hop hu hz hs hps he hf).stg hS
  · simp at hm
theorem ok_bsl {t : TypeId} {n : Nat} {parts : Array (Nat × Operand)} (hop : o.op = .buildSlice t n parts) (hm : trOp P o = some aop) (he : EnvOk w g T a.tmps e) (hS : Sim w g V T) (ha : act orc e aop = some ac) (hd : doAc call V T ac = some (.ok d V' T', l)) : StG P w g T a o d V' T' := by
  simp only [trOp, hop] at hm
  split at hm
  · rename_i et hu
    cases hs : sizeT P et with
    | none => simp [hs] at hm
    | some s =>
      cases hz : zeroT P et with
      | none => simp [hz, hs] at hm
      | some z =>
        simp only [hs, hz, Option.bind_eq_bind, Option.bind_some] at hm
        split at hm
        · simp at hm
        · rename_i hc
          cases hps : partsOf (fun i => some (i * s, s)) parts.toList with
          | none => simp [hps] at hm
          | some ps =>
            simp only [hps, Option.bind_some, Option.some.injEq] at hm
            subst hm
            simp only [act] at ha
            cases hf : fillP e (List.replicate n z).flatten ps with
            | none => simp [hf] at ha
            | some cs =>
              simp only [hf, Option.map_some, Option.some.injEq] at ha
              subst ha
              obtain ⟨rfl, rfl, rfl⟩ := doAc_q hd
              simp only [Bool.or_eq_true, decide_eq_true_eq, bne_iff_ne, ne_eq, not_or, Decidable.not_not] at hc
              exact st_bsl hop hu hs hz hc.1.1 hc.1.2 hc.2 hps he hf hS
  · simp at hm
theorem conv_cases {src dst : TypeId} {k : CK} (h : convOf P src dst = some k) : (∃ k1 k2, P.underlying src = some (.int k1) ∧ P.underlying dst = some (.int k2) ∧ k = .int k2) ∨ (∃ k1 k2, P.underlying src = some (.int k1) ∧ P.underlying dst = some (.float k2) ∧ k = .flt k2) ∨
    (P.underlying src = some .string ∧ P.underlying dst = some .string ∧ k = .id) ∨ (∃ e, P.underlying src = some .string ∧ P.underlying dst = some (.slice e) ∧ P.underlying e = some (.int .u8) ∧ k = .s2b e) ∨
    (∃ e, src = dst ∧ P.underlying src = some (.slice e) ∧ P.underlying e = some (.int .u8) ∧ k = .ss) ∨ (∃ e, P.underlying src = some (.slice e) ∧ P.underlying e = some (.int .u8) ∧ P.underlying dst = some .string ∧ k = .b2s) := by
  unfold convOf at h
  have hu8 : ∀ {u : Option TypeDesc}, isU8 u = true → u = some (.int .u8) := fun {u} hh => by
    unfold isU8 at hh
    split at hh
    · rfl
    · simp at hh
  split at h
  · rename_i h1 h2; simp only [Option.some.injEq] at h; exact .inl ⟨_, _, h1, h2, h.symm⟩
  · rename_i h1 h2; simp only [Option.some.injEq] at h; exact .inr (.inl ⟨_, _, h1, h2, h.symm⟩)
  · rename_i h1 h2; simp only [Option.some.injEq] at h; exact .inr (.inr (.inl ⟨h1, h2, h.symm⟩))
  · rename_i e h1 h2
    split at h
    · rename_i hm
      simp only [Option.some.injEq] at h
      exact .inr (.inr (.inr (.inl ⟨e, h1, h2, hu8 hm.1, h.symm⟩)))
    · simp at h
  · rename_i e e' h1 h2
    split at h
    · rename_i hm
      simp only [Option.some.injEq] at h
      exact .inr (.inr (.inr (.inr (.inl ⟨e, hm.1, h1, hu8 hm.2, h.symm⟩))))
    · simp at h
  · rename_i e h1 h2
    split at h
    · rename_i hm
      simp only [Option.some.injEq] at h
      exact .inr (.inr (.inr (.inr (.inr ⟨e, h1, hu8 hm, h2, h.symm⟩))))
    · simp at h
  · simp at h
theorem ok_conv {src dst : TypeId} {x : Operand} (hop : o.op = .convert src dst x) (hm : trOp P o = some aop) (he : EnvOk w g T a.tmps e) (hS : Sim w g V T) (ha : act orc e aop = some ac) (hd : doAc call V T ac = some (.ok d V' T', l)) : StG P w g T a o d V' T' := by
  simp only [trOp, hop] at hm
  cases hk : convOf P src dst with
  | none => simp [hk] at hm
  | some k =>
    cases hx : opd x with
    | none => simp [hk, hx] at hm
    | some x' =>
      simp only [hk, hx, Option.bind_eq_bind, Option.bind_some, Option.some.injEq] at hm
      subst hm
      rcases conv_cases hk with ⟨k1, k2, h1, h2, rfl⟩ | ⟨k1, k2, h1, h2, rfl⟩ | ⟨h1, h2, rfl⟩ | ⟨et, h1, h2, h3, rfl⟩ | ⟨et, rfl, h1, h2, rfl⟩ | ⟨et, h1, h2, h3, rfl⟩
      · simp only [act] at ha
        obtain ⟨d', hq, rfl⟩ := qo_some ha
        obtain ⟨rfl, rfl, rfl⟩ := doAc_q hd
        simp only [convD] at hq
        split at hq
        · rename_i hv
          simp only [Option.some.injEq] at hq
          subst hq
          exact (yl_conv_int hop h1 h2 hx he hv).stg hS
        · simp at hq
      · simp only [act] at ha
        obtain ⟨d', hq, rfl⟩ := qo_some ha
        obtain ⟨rfl, rfl, rfl⟩ := doAc_q hd
        simp only [convD] at hq
        split at hq
        · rename_i hv
          simp only [Option.some.injEq] at hq
          subst hq
          exact (yl_conv_flt hop h1 h2 hx he hv).stg hS
        · simp at hq
      · simp only [act] at ha
        obtain ⟨d', hq, rfl⟩ := qo_some ha
        obtain ⟨rfl, rfl, rfl⟩ := doAc_q hd
        simp only [convD] at hq
        split at hq
        · rename_i hv
          simp only [Option.some.injEq] at hq
          subst hq
          exact (yl_conv_id hop h1 h2 hx he hv).stg hS
        · simp at hq
      · simp only [act] at ha
        split at ha
        · rename_i s hv
          simp only [Option.some.injEq] at ha
          subst ha
          simp only [doAc, Option.some.injEq, Prod.mk.injEq, Out1.ok.injEq] at hd
          obtain ⟨⟨rfl, rfl, rfl⟩, _⟩ := hd
          exact st_s2b hop h1 h2 h3 hx he hv hS
        · simp at ha
      · simp only [act] at ha
        obtain ⟨d', hq, rfl⟩ := qo_some ha
        obtain ⟨rfl, rfl, rfl⟩ := doAc_q hd
        simp only [convD] at hq
        split at hq
        · rename_i hv
          split at hq
          · simp at hq
          · rename_i hn
            simp only [Option.some.injEq] at hq
            subst hq
            exact st_ss hop h1 h2 hx he hv hn hS
        · simp at hq
      · simp only [act] at ha
        obtain ⟨d', hq, rfl⟩ := qo_some ha
        obtain ⟨rfl, rfl, rfl⟩ := doAc_q hd
        simp only [convD] at hq
        split at hq
        · rename_i n cs hv
          split at hq
          · rename_i hl
            cases hb : unBytes cs with
            | none => simp [hb] at hq
            | some lb =>
              simp only [hb, Option.map_some, Option.some.injEq] at hq
              subst hq
              exact (yl_conv_b2s hop h1 h2 h3 hx he hv hl hb).stg hS
          · simp at hq
        · simp at hq
end
end Go.Abs

end
section
/- Own framework, part 17: every operation of the machine that was turned into an abstract one does what that one tells (slices, builtins; the sum). -/
set_option linter.unusedVariables false
set_option linter.unusedSimpArgs false
namespace Go.Abs
open Go.RowKit (Below)

section
variable {P : Program} {w : World} {g : Gh} {V V' : List VO} {T T' : List Nat} {a : Act} {e : Env} {o : Oper} {orc : Orc} {call : CallF} {aop : AOp} {ac : Ac} {d : D} {l : Lab}

theorem ok_slice {t : TypeId} {x : Operand} {lo hi mx : Option Operand} (hop : o.op = .slice t x lo hi mx) (hm : trOp P o = some aop) (he : EnvOk w g T a.tmps e) (hS : Sim w g V T) (ha : act orc e aop = some ac) (hd : doAc call V T ac = some (.ok d V' T', l)) : StG P w g T a o d V' T' := by
  simp only [trOp, hop] at hm
  cases hk : skOf P t with
  | none => simp [hk] at hm
  | some k =>
    cases hx : opd x with
    | none => simp [hk, hx] at hm
    | some x' =>
      cases hlo : optO lo with
      | none => simp [hk, hx, hlo] at hm
      | some lo' =>
      cases hhi : optO hi with
      | none => simp [hk, hx, hlo, hhi] at hm
      | some hi' =>
      cases hmx : optO mx with
      | none => simp [hk, hx, hlo, hhi, hmx] at hm
      | some mx' =>
      simp only [hk, hx, hlo, hhi, hmx, Option.bind_eq_bind, Option.bind_some, Option.some.injEq] at hm
      subst hm
      have olo := optOpd hlo
      have ohi := optOpd hhi
      have hmn : mx' = none → mx = none := fun h => by
        rcases optOpd hmx with ⟨h1, _⟩ | ⟨p, q, _, h2, _⟩
        · exact h1
        · rw [h] at h2; cases h2
      simp only [act, slcD] at ha
      split at ha
      · -- string
        split at ha
        · rename_i s hv
          split at ha
          · rename_i h h1
            split at ha
            · rename_i l' h2
              simp only [Option.some.injEq] at ha
              subst ha
              obtain ⟨rfl, rfl, rfl⟩ := doAc_q hd
              have := hmn rfl
              subst this
              exact (yl_slc_str hop hk hx olo ohi he hv h1 h2).stg hS
            · simp at ha
          · simp at ha
        · simp at ha
      · rename_i esz
        split at ha
        · rename_i n cs hv
          split at ha
          · split at ha
            · rename_i h h1
              split at ha
              · rename_i l' h2
                simp only [Option.some.injEq] at ha
                subst ha
                obtain ⟨rfl, rfl, rfl⟩ := doAc_q hd
                have := hmn rfl
                subst this
                exact (yl_slc_sl hop hk hx olo ohi he hv h1 h2).stg hS
              · simp at ha
            · simp at ha
          · split at ha
            · rename_i hz
              simp only [Bool.and_eq_true] at hz
              simp only [Option.some.injEq] at ha
              subst ha
              obtain ⟨rfl, rfl, rfl⟩ := doAc_q hd
              exact (yl_slc_cap hop hk hx olo ohi (optOpd hmx) he hv hz.1 hz.2.1 hz.2.2).stg hS
            · simp at ha
        · simp at ha
      · rename_i n esz
        split at ha
        · rename_i id off hv
          split at ha
          · rename_i h h1
            split at ha
            · rename_i l' h2
              simp only [Option.some.injEq] at ha
              subst ha
              simp only [doAc] at hd
              cases ho : V[id]? with
              | none => simp [ho] at hd
              | some vo =>
                simp only [ho] at hd
                split at hd
                · simp at hd
                · rename_i hit
                  cases hp : pureL vo.cs with
                  | none => simp [hp] at hd
                  | some ps =>
                    simp only [hp] at hd
                    split at hd
                    · rename_i d' hd'
                      split at hd'
                      · rename_i hle
                        simp only [Option.some.injEq] at hd'
                        subst hd'
                        simp only [Option.some.injEq, Prod.mk.injEq, Out1.ok.injEq] at hd
                        obtain ⟨⟨rfl, rfl, rfl⟩, _⟩ := hd
                        have := hmn rfl
                        subst this
                        exact st_slc_arr hop hk hx olo ohi he hv h1 h2 ho (by simpa using hit) hp hle hS
                      · simp at hd'
                    · simp at hd
            · simp at ha
          · simp at ha
        · simp at ha

theorem ok_builtin {b : Builtin} {args : Array Operand} {argTypes : Array TypeId} (hop : o.op = .call ⟨.builtin b, args, argTypes⟩) (hm : trCall P ⟨.builtin b, args, argTypes⟩ = some aop) (he : EnvOk w g T a.tmps e) (hS : Sim w g V T) (ha : act orc e aop = some ac) (hd : doAc call V T ac = some (.ok d V' T', l)) : StG P w g T a o d V' T' := by
  simp only [trCall] at hm
  split at hm
  · -- len
    rename_i x t ha1 ht1
    have e1 := arr1 ha1
    have e2 := arr1 ht1
    subst e1 e2
    cases hx : opd x with
    | none => simp [hx] at hm
    | some x' =>
      simp only [hx, Option.bind_eq_bind, Option.bind_some] at hm
      split at hm
      · rename_i n et hu
        simp only [Option.some.injEq] at hm
        subst hm
        simp only [act, Option.some.injEq] at ha
        subst ha
        obtain ⟨rfl, rfl, rfl⟩ := doAc_q hd
        exact (yl_len_arr hop hu).stg hS
      · rename_i hu
        simp only [Option.some.injEq] at hm
        subst hm
        simp only [act] at ha
        split at ha
        · rename_i s hv
          simp only [Option.some.injEq] at ha
          subst ha
          obtain ⟨rfl, rfl, rfl⟩ := doAc_q hd
          exact (yl_len_str hop hu hx he hv).stg hS
        · simp at ha
      · rename_i et hu
        simp only [Option.some.injEq] at hm
        subst hm
        simp only [act] at ha
        split at ha
        · rename_i n cs hv
          simp only [Option.some.injEq] at ha
          subst ha
          obtain ⟨rfl, rfl, rfl⟩ := doAc_q hd
          exact (yl_len_sl hop hu hx he hv).stg hS
        · simp at ha
      · simp at hm
  · -- append
    rename_i x y t u ha1 ht1
    have e1 := arr2 ha1
    have e2 := arr2 ht1
    subst e1 e2
    cases hx : opd x with
    | none => simp [hx] at hm
    | some x' =>
      cases hy : opd y with
      | none => simp [hx, hy] at hm
      | some y' =>
        simp only [hx, hy, Option.bind_eq_bind, Option.bind_some] at hm
        have main : ∀ (et : TypeId) (s b : Nat) (z : List Go.Abs.P) (str : Bool), P.underlying t = some (.slice et) → sizeT P et = some s → bytesT P et = some b → zeroT P et = some z → 0 < s → aop = .app et s b str x' y' →
            (∀ m ys, appSrc str (ev e y') = some (m, ys) → (m ≠ 0 → ys.length = m * s) → ∃ news, Src P w g.I u s (a.eval y) m ys news) → StG P w g T a o d V' T' := by
          rintro et s b z str ht hs hb hz hs0 rfl hsrc
          simp only [act, appD] at ha
          cases hq : appSrc str (ev e y') with
          | none => simp [hq] at ha
          | some my =>
            obtain ⟨m, ys⟩ := my
            simp only [hq] at ha
            split at ha
            · rename_i n cs hv
              split at ha
              · rename_i hm0
                simp only [Option.some.injEq] at ha
                subst ha
                obtain ⟨rfl, rfl, rfl⟩ := doAc_q hd
                obtain ⟨news, hn⟩ := hsrc m ys hq (fun h => absurd hm0 h)
                exact st_app_none (V := V') hop ht hs hb hz hx he hn hS hm0 (n := n) (cs := cs) (by rw [hv]; rfl)
              · rename_i hm0
                split at ha
                · rename_i hc
                  simp only [Option.some.injEq] at ha
                  subst ha
                  simp only [doAc, Option.some.injEq, Prod.mk.injEq, Out1.ok.injEq] at hd
                  obtain ⟨⟨rfl, rfl, rfl⟩, _⟩ := hd
                  obtain ⟨news, hn⟩ := hsrc m ys hq (fun _ => hc.2.2.2)
                  exact st_app_tp hop ht hs hb hz hx he hn hS hs0 hm0 hv hc.1 hc.2.1 hc.2.2.1 hc.2.2.2
                · simp at ha
            · rename_i n cs hv
              split at ha
              · rename_i hm0
                simp only [Option.some.injEq] at ha
                subst ha
                obtain ⟨rfl, rfl, rfl⟩ := doAc_q hd
                obtain ⟨news, hn⟩ := hsrc m ys hq (fun h => absurd hm0 h)
                exact st_app_none (V := V') hop ht hs hb hz hx he hn hS hm0 (n := n) (cs := cs) (by rw [hv]; rfl)
              · split at ha <;> simp at ha
            · rename_i id ver n cs hv
              split at ha
              · rename_i hc
                simp only [Option.some.injEq] at ha
                subst ha
                simp only [doAc] at hd
                cases hk : T[id]? with
                | none => simp [hk] at hd
                | some k =>
                  simp only [hk] at hd
                  split at hd
                  · rename_i hkv
                    subst hkv
                    simp only [Option.some.injEq, Prod.mk.injEq, Out1.ok.injEq] at hd
                    obtain ⟨⟨rfl, rfl, rfl⟩, _⟩ := hd
                    obtain ⟨news, hn⟩ := hsrc m ys hq (fun _ => hc.2.2.2.2)
                    exact st_app_tw hop ht hs hb hz hx he hn hS hs0 hv hk hc.1 hc.2.1 hc.2.2.1 hc.2.2.2.1 hc.2.2.2.2
                  · simp at hd
              · simp at ha
            · simp at ha
        split at hm
        · rename_i et et' ht hu
          cases hs : sizeT P et with
          | none => simp [hs] at hm
          | some s =>
            cases hb : bytesT P et with
            | none => simp [hs, hb] at hm
            | some b =>
              cases hz : zeroT P et with
              | none => simp [hs, hb, hz] at hm
              | some z =>
                simp only [hs, hb, hz, Option.bind_eq_bind, Option.bind_some] at hm
                split at hm
                · simp at hm
                · rename_i hc
                  split at hm
                  · simp only [Option.some.injEq] at hm
                    simp only [Bool.or_eq_true, decide_eq_true_eq, not_or] at hc
                    exact main et s b z false ht hs hb hz (by omega) hm.symm (fun m ys hq hl => src_sl hu hy he hq hl)
                  · simp at hm
        · rename_i et ht hu
          cases hs : sizeT P et with
          | none => simp [hs] at hm
          | some s =>
            cases hb : bytesT P et with
            | none => simp [hs, hb] at hm
            | some b =>
              cases hz : zeroT P et with
              | none => simp [hs, hb, hz] at hm
              | some z =>
                simp only [hs, hb, hz, Option.bind_eq_bind, Option.bind_some] at hm
                split at hm
                · simp at hm
                · rename_i hc
                  simp only [Option.some.injEq] at hm
                  simp only [Bool.or_eq_true, bne_iff_ne, ne_eq, not_or, Decidable.not_not] at hc
                  have hs1 : s = 1 := hc.1
                  subst hs1
                  refine main et 1 b z true ht hs hb hz (by omega) hm.symm (fun m ys hq hl => ?_)
                  simp only [appSrc] at hq
                  split at hq
                  · rename_i sb hv
                    simp only [Option.some.injEq, Prod.mk.injEq] at hq
                    obtain ⟨rfl, rfl⟩ := hq
                    exact src_str hu hy he hv
                  · simp at hq
        · simp at hm
  · cases hx : opds args.toList with
    | none => simp [hx] at hm
    | some xs =>
      simp only [hx, Option.map_some, Option.some.injEq] at hm
      subst hm
      simp only [act] at ha
      split at ha
      · simp at ha
      · obtain ⟨d', hq, rfl⟩ := qo_some ha
        obtain ⟨rfl, rfl, rfl⟩ := doAc_q hd
        exact (yl_mx hop hx he hq).stg hS
  · cases hx : opds args.toList with
    | none => simp [hx] at hm
    | some xs =>
      simp only [hx, Option.map_some, Option.some.injEq] at hm
      subst hm
      simp only [act] at ha
      split at ha
      · simp at ha
      · obtain ⟨d', hq, rfl⟩ := qo_some ha
        obtain ⟨rfl, rfl, rfl⟩ := doAc_q hd
        exact (yl_mn hop hx he hq).stg hS
  · simp at hm
end
end Go.Abs

end
section
/- Own framework, part 18: one theorem on all operations. -/
set_option linter.unusedVariables false
set_option linter.unusedSimpArgs false
namespace Go.Abs
open Go.RowKit (Below)

section
variable {P : Program} {w : World} {g : Gh} {V V' : List VO} {T T' : List Nat} {a : Act} {e : Env} {o : Oper} {orc : Orc} {call : CallF} {aop : AOp} {ac : Ac} {d : D} {l : Lab}

theorem plain_of (hm : trOp P o = some aop) (h : aop.plain = true) : (∀ c, o.op = .call c → ∃ b, c.callee = .builtin b) := by
  intro c hop
  simp only [trOp, hop] at hm
  unfold trCall at hm
  split at hm
  · cases hx : opds c.args.toList with
    | none => simp [hx] at hm
    | some xs => simp only [hx, Option.map_some, Option.some.injEq] at hm; subst hm; simp [AOp.plain] at h
  · cases hx : opds c.args.toList with
    | none => simp [hx] at hm
    | some xs => simp only [hx, Option.map_some, Option.some.injEq] at hm; subst hm; simp [AOp.plain] at h
  · simp at hm
  · simp at hm
  · rename_i b hb; exact ⟨b, hb⟩

theorem act_ok (hAg : AgOk P) (hm : trOp P o = some aop) (hpl : aop.plain = true) (he : EnvOk w g T a.tmps e) (hS : Sim w g V T) (ha : act orc e aop = some ac) (hd : doAc call V T ac = some (.ok d V' T', l)) : StG P w g T a o d V' T' := by
  cases hop : o.op with
  | move x =>
    simp only [trOp, hop] at hm
    cases hx : opd x with
    | none => simp [hx] at hm
    | some x' =>
      simp only [hx, Option.map_some, Option.some.injEq] at hm
      subst hm
      simp only [act, Option.some.injEq] at ha
      subst ha
      obtain ⟨rfl, rfl, rfl⟩ := doAc_q hd
      exact (yl_mv (.inl hop) hx he).stg hS
  | assign x =>
    simp only [trOp, hop] at hm
    cases hx : opd x with
    | none => simp [hx] at hm
    | some x' =>
      simp only [hx, Option.map_some, Option.some.injEq] at hm
      subst hm
      simp only [act, Option.some.injEq] at ha
      subst ha
      obtain ⟨rfl, rfl, rfl⟩ := doAc_q hd
      exact (yl_mv (.inr hop) hx he).stg hS
  | pick c x y =>
    simp only [trOp, hop] at hm
    cases hc : opd c with
    | none => simp [hc] at hm
    | some c' =>
    cases hx : opd x with
    | none => simp [hc, hx] at hm
    | some x' =>
    cases hy : opd y with
    | none => simp [hc, hx, hy] at hm
    | some y' =>
      simp only [hc, hx, hy, Option.bind_eq_bind, Option.bind_some, Option.some.injEq] at hm
      subst hm
      simp only [act] at ha
      split at ha
      · rename_i t hv
        simp only [Option.some.injEq] at ha
        subst ha
        obtain ⟨rfl, rfl, rfl⟩ := doAc_q hd
        exact (yl_pick hop hc hx hy he hv).stg hS
      · simp at ha
  | alloc t =>
    simp only [trOp, hop] at hm
    cases hz : zeroT P t with
    | none => simp [hz] at hm
    | some z =>
      simp only [hz, Option.map_some, Option.some.injEq] at hm
      subst hm
      simp only [act, Option.some.injEq] at ha
      subst ha
      simp only [doAc, Option.some.injEq, Prod.mk.injEq, Out1.ok.injEq] at hd
      obtain ⟨⟨rfl, rfl, rfl⟩, _⟩ := hd
      exact st_alloc hop hz hS
  | box t x =>
    simp only [trOp, hop] at hm
    cases hs : sizeT P t with
    | none => simp [hs] at hm
    | some sz =>
    cases hx : opd x with
    | none => simp [hs, hx] at hm
    | some x' =>
      simp only [hs, hx, Option.bind_eq_bind, Option.bind_some, Option.some.injEq] at hm
      subst hm
      simp only [act] at ha
      split at ha
      · rename_i hf
        simp only [Option.some.injEq] at ha
        subst ha
        simp only [doAc, Option.some.injEq, Prod.mk.injEq, Out1.ok.injEq] at hd
        obtain ⟨⟨rfl, rfl, rfl⟩, _⟩ := hd
        exact st_box hop hx he hf hS
      · simp at ha
  | build t parts => exact ok_build hop hm he hS ha hd
  | buildSlice t n parts => exact ok_bsl hop hm he hS ha hd
  | load t x => exact ok_load hop hm he hS ha hd
  | store t p x => exact ok_store hop hm he hS ha hd
  | nilCheck x =>
    simp only [trOp, hop] at hm
    cases hx : opd x with
    | none => simp [hx] at hm
    | some x' =>
      simp only [hx, Option.map_some, Option.some.injEq] at hm
      subst hm
      simp only [act] at ha
      split at ha
      · rename_i cs hv
        simp only [Option.some.injEq] at ha
        subst ha
        obtain ⟨rfl, rfl, rfl⟩ := doAc_q hd
        exact (yl_nilck_ip hop hx he hv).stg hS
      · rename_i id off hv
        simp only [Option.some.injEq] at ha
        subst ha
        obtain ⟨rfl, rfl, rfl⟩ := doAc_q hd
        exact (yl_nilck_mp hop hx he hv).stg hS
      · simp at ha
  | binOp op t x y t' => exact ok_bin hAg hop hm he hS ha hd
  | unOp op t x =>
    simp only [trOp, hop] at hm
    cases hx : opd x with
    | none => simp [hx] at hm
    | some x' =>
      simp only [hx, Option.map_some, Option.some.injEq] at hm
      subst hm
      simp only [act] at ha
      obtain ⟨d', hq, rfl⟩ := qo_some ha
      obtain ⟨rfl, rfl, rfl⟩ := doAc_q hd
      exact (yl_un hop hx he hq).stg hS
  | convert src dst x => exact ok_conv hop hm he hS ha hd
  | makeInterface t x =>
    simp only [trOp, hop] at hm
    split at hm
    · simp at hm
    · rename_i u hni hu
      cases hx : opd x with
      | none => simp [hx] at hm
      | some x' =>
        simp only [hx, Option.map_some, Option.some.injEq] at hm
        subst hm
        simp only [act, Option.some.injEq] at ha
        subst ha
        obtain ⟨rfl, rfl, rfl⟩ := doAc_q hd
        exact (yl_mki hop hu (fun ms h => hni ms h) hx he).stg hS
    · simp at hm
  | makeFunc fn first caps =>
    cases fn with
    | func f =>
      simp only [trOp, hop] at hm
      split at hm
      · rename_i hf
        have hf' : first = #[] := by simpa using hf
        subst hf'
        cases hx : opds caps.toList with
        | none => simp [hx] at hm
        | some cs =>
          simp only [hx, Option.map_some, Option.some.injEq] at hm
          subst hm
          simp only [act, Option.some.injEq] at ha
          subst ha
          obtain ⟨rfl, rfl, rfl⟩ := doAc_q hd
          exact (yl_mkf hop hx he).stg hS
      · simp at hm
    | _ => simp [trOp, hop] at hm
  | makeSlice t lo hi =>
    simp only [trOp, hop, mksOf] at hm
    split at hm <;> try (simp at hm; done)
    split at hm
    · rename_i n m et hu
      cases hs : sizeT P et with
      | none => simp [hs] at hm
      | some s =>
      cases hb : bytesT P et with
      | none => simp [hs, hb] at hm
      | some b =>
      cases hz : zeroT P et with
      | none => simp [hs, hb, hz] at hm
      | some z =>
        simp only [hs, hb, hz, Option.bind_eq_bind, Option.bind_some] at hm
        split at hm
        · simp at hm
        · rename_i hc
          simp only [Option.some.injEq] at hm
          subst hm
          simp only [act, Option.some.injEq] at ha
          subst ha
          obtain ⟨rfl, rfl, rfl⟩ := doAc_q hd
          simp only [Bool.or_eq_true, bne_iff_ne, ne_eq, decide_eq_true_eq, not_or, Decidable.not_not] at hc
          obtain ⟨⟨⟨⟨⟨h1, h2⟩, h3⟩, h4⟩, h5⟩, h6⟩ := hc
          subst h1
          exact st_mks hop hu hs hb hz (by omega) h3 (by omega) (by omega) h6 hS
    · simp at hm
  | slice t x lo hi mx => exact ok_slice hop hm he hS ha hd
  | fieldAddr t x i =>
    simp only [trOp, hop] at hm
    cases hf : fieldOf P t i with
    | none => simp [hf] at hm
    | some y =>
      obtain ⟨ag, off, sz⟩ := y
      cases hx : opd x with
      | none => simp [hf, hx] at hm
      | some x' =>
        simp only [hf, hx, Option.bind_eq_bind, Option.bind_some, Option.some.injEq] at hm
        subst hm
        simp only [act] at ha
        split at ha
        · rename_i cs hv
          simp only [Option.some.injEq] at ha
          subst ha
          obtain ⟨rfl, rfl, rfl⟩ := doAc_q hd
          exact (yl_fad_ip hop hf hx he hv).stg hS
        · rename_i id p hv
          simp only [Option.some.injEq] at ha
          subst ha
          obtain ⟨rfl, rfl, rfl⟩ := doAc_q hd
          exact (yl_fad_mp hop hf hx he hv).stg hS
        · simp at ha
  | field t x i =>
    simp only [trOp, hop] at hm
    cases hf : fieldOf P t i with
    | none => simp [hf] at hm
    | some y =>
      obtain ⟨ag, off, sz⟩ := y
      cases hx : opd x with
      | none => simp [hf, hx] at hm
      | some x' =>
        simp only [hf, hx, Option.bind_eq_bind, Option.bind_some, Option.some.injEq] at hm
        subst hm
        simp only [act] at ha
        split at ha
        · rename_i cs hv
          obtain ⟨d', hq, rfl⟩ := qo_some ha
          obtain ⟨rfl, rfl, rfl⟩ := doAc_q hd
          exact (yl_fld hop hf hx he hv hq).stg hS
        · simp at ha
  | indexAddr t x i =>
    simp only [trOp, hop] at hm
    cases hk : skOf P t with
    | none => simp [hk] at hm
    | some k =>
    cases hx : opd x with
    | none => simp [hk, hx] at hm
    | some x' =>
    cases hi : opd i with
    | none => simp [hk, hx, hi] at hm
    | some i' =>
      simp only [hk, hx, hi, Option.bind_eq_bind, Option.bind_some, Option.some.injEq] at hm
      subst hm
      simp only [act] at ha
      obtain ⟨d', rfl⟩ : ∃ d', ac = .q d' := by
        unfold iadD at ha
        repeat' split at ha
        all_goals first
          | (simp only [Option.some.injEq] at ha; exact ⟨_, ha.symm⟩)
          | (simp at ha; done)
      obtain ⟨rfl, rfl, rfl⟩ := doAc_q hd
      exact (yl_iad hop hk hx hi he ha).stg hS
  | index t x i =>
    simp only [trOp, hop] at hm
    cases hag : elAg P t with
    | none => simp only [hag, Option.bind_eq_bind, Option.bind_none, reduceCtorEq] at hm
    | some ag =>
    cases hk : skOf P t with
    | none => simp only [hag, hk, Option.bind_eq_bind, Option.bind_some, Option.bind_none, reduceCtorEq] at hm
    | some k =>
    cases hx : opd x with
    | none => simp only [hag, hk, hx, Option.bind_eq_bind, Option.bind_some, Option.bind_none, reduceCtorEq] at hm
    | some x' =>
    cases hi : opd i with
    | none => simp only [hag, hk, hx, hi, Option.bind_eq_bind, Option.bind_some, Option.bind_none, reduceCtorEq] at hm
    | some i' =>
      simp only [hag, hk, hx, hi, Option.bind_eq_bind, Option.bind_some, Option.some.injEq] at hm
      subst hm
      simp only [act] at ha
      obtain ⟨d', hq, rfl⟩ := qo_some ha
      obtain ⟨rfl, rfl, rfl⟩ := doAc_q hd
      exact (yl_idx hop hk (fun n et hu => by simpa only [elAg, hu] using hag) hx hi he hq).stg hS
  | range t x =>
    simp only [trOp, hop] at hm
    split at hm
    · rename_i hu
      cases hx : opd x with
      | none => simp [hx] at hm
      | some x' =>
        simp only [hx, Option.map_some, Option.some.injEq] at hm
        subst hm
        simp only [act] at ha
        split at ha
        · rename_i s hv
          simp only [Option.some.injEq] at ha
          subst ha
          simp only [doAc, Option.some.injEq, Prod.mk.injEq, Out1.ok.injEq] at hd
          obtain ⟨⟨rfl, rfl, rfl⟩, _⟩ := hd
          exact st_rng hop hu hx he hv hS
        · simp at ha
    · simp at hm
  | next x b =>
    cases b with
    | false => simp [trOp, hop] at hm
    | true =>
      simp only [trOp, hop] at hm
      cases hx : opd x with
      | none => simp [hx] at hm
      | some x' =>
        simp only [hx, Option.map_some, Option.some.injEq] at hm
        subst hm
        simp only [act] at ha
        split at ha
        · rename_i id hv
          simp only [Option.some.injEq] at ha
          subst ha
          simp only [doAc] at hd
          cases ho : V[id]? with
          | none => simp [ho] at hd
          | some vo =>
            simp only [ho] at hd
            split at hd
            · rename_i s p hit hcs
              obtain ⟨h1, h2⟩ := st_nxt (P := P) (t := 0) hop hx he hv ho hit hcs hS
              split at hd
              · rename_i hlt
                simp only [Option.some.injEq, Prod.mk.injEq, Out1.ok.injEq] at hd
                obtain ⟨⟨rfl, rfl, rfl⟩, _⟩ := hd
                exact h1 hlt
              · rename_i hlt
                simp only [Option.some.injEq, Prod.mk.injEq, Out1.ok.injEq] at hd
                obtain ⟨⟨rfl, rfl, rfl⟩, _⟩ := hd
                exact h2 hlt
            · simp at hd
        · simp at ha
  | extract x i =>
    simp only [trOp, hop] at hm
    cases hx : opd x with
    | none => simp [hx] at hm
    | some x' =>
      simp only [hx, Option.map_some, Option.some.injEq] at hm
      subst hm
      simp only [act] at ha
      split at ha
      · rename_i vs hv
        split at ha
        · rename_i d' hd'
          simp only [Option.some.injEq] at ha
          subst ha
          obtain ⟨rfl, rfl, rfl⟩ := doAc_q hd
          exact (yl_ext hop hx he hv hd').stg hS
        · simp at ha
      · simp at ha
  | typeAssert x xt t b =>
    cases b with
    | false => simp [trOp, hop] at hm
    | true =>
      simp only [trOp, hop] at hm
      split at hm
      · simp at hm
      · rename_i u hni hu
        cases hx : opd x with
        | none => simp [hx] at hm
        | some x' =>
          simp only [hx, Option.map_some, Option.some.injEq] at hm
          subst hm
          simp only [act] at ha
          obtain ⟨d', hq, rfl⟩ := qo_some ha
          obtain ⟨rfl, rfl, rfl⟩ := doAc_q hd
          exact (yl_tas hop hu (fun ms h => hni ms h) hx he hq).stg hS
      · simp at hm
  | call c =>
    obtain ⟨b, hb⟩ := plain_of hm hpl c hop
    obtain ⟨callee, args, argTypes⟩ := c
    simp only at hb
    subst hb
    simp only [trOp, hop] at hm
    exact ok_builtin hop hm he hS ha hd
  | panic x =>
    simp only [trOp, hop] at hm
    cases hx : opd x with
    | none => simp [hx] at hm
    | some x' =>
      simp only [hx, Option.map_some, Option.some.injEq] at hm
      subst hm
      simp only [act] at ha
      split at ha
      · simp only [Option.some.injEq] at ha
        subst ha
        simp only [doAc] at hd
        split at hd <;> simp at hd
      · simp at ha
  | _ => simp [trOp, hop] at hm

theorem trOp_panic {x' : Opd} (hm : trOp P o = some (.panic x')) : ∃ x, o.op = .panic x ∧ opd x = some x' := by
  unfold trOp at hm
  split at hm
  all_goals try unfold trCall at hm
  all_goals try unfold mksOf at hm
  all_goals repeat' split at hm
  all_goals first
    | (exfalso; simp [Option.bind_eq_some_iff] at hm; done)
    | exact ⟨_, by assumption, by simpa using hm⟩
    | (exfalso; obtain ⟨_, _, hm⟩ := Option.bind_eq_some_iff.1 hm; repeat' split at hm
       all_goals (simp [Option.bind_eq_some_iff] at hm; done))
    | (exfalso; obtain ⟨_, _, hm⟩ := Option.bind_eq_some_iff.1 hm; obtain ⟨_, _, hm⟩ := Option.bind_eq_some_iff.1 hm; repeat' split at hm
       all_goals first
        | (simp [Option.bind_eq_some_iff] at hm; done)
        | (obtain ⟨_, _, hm⟩ := Option.bind_eq_some_iff.1 hm; obtain ⟨_, _, hm⟩ := Option.bind_eq_some_iff.1 hm; obtain ⟨_, _, hm⟩ := Option.bind_eq_some_iff.1 hm; repeat' split at hm
           all_goals (simp [Option.bind_eq_some_iff] at hm; done)))
    | (exfalso; obtain ⟨_, _, hm⟩ := Option.bind_eq_some_iff.1 hm; obtain ⟨_, _, hm⟩ := Option.bind_eq_some_iff.1 hm; obtain ⟨_, _, hm⟩ := Option.bind_eq_some_iff.1 hm; repeat' split at hm
       all_goals (simp [Option.bind_eq_some_iff] at hm; done))

theorem act_pan (hm : trOp P o = some aop) (hpl : aop.plain = true) (he : EnvOk w g T a.tmps e) (ha : act orc e aop = some ac) (hd : doAc call V T ac = some (.pan d V' T', l)) :
    V' = V ∧ T' = T ∧ l = .pan ∧ d.closed = true ∧ ∃ v, (execOp a.eval o).run P w = .halt (.panic v) w ∧ RepD w g T v d := by
  have hac : ∃ x, ac = .pan x ∧ x.closed = true ∧ d = x ∧ V' = V ∧ T' = T ∧ l = .pan := by
    cases ac with
    | pan x =>
      simp only [doAc] at hd
      split at hd
      · rename_i hc
        simp only [Option.some.injEq, Prod.mk.injEq, Out1.pan.injEq] at hd
        exact ⟨x, rfl, hc, hd.1.1.symm, hd.1.2.1.symm, hd.1.2.2.symm, hd.2.symm⟩
      · simp at hd
    | call f args =>
      exfalso
      cases aop with
      | call f args => simp [AOp.plain] at hpl
      | dyn x args => simp [AOp.plain] at hpl
      | _ =>
        simp only [act, qo, slcD, iadD, appD] at ha
        repeat' split at ha
        all_goals simp at ha
    | _ =>
      exfalso
      simp only [doAc] at hd
      repeat' split at hd
      all_goals simp at hd
  obtain ⟨x, rfl, hc, rfl, rfl, rfl, rfl⟩ := hac
  refine ⟨rfl, rfl, rfl, hc, ?_⟩
  cases aop with
  | panic x' =>
    simp only [act] at ha
    split at ha
    · rename_i t y hv
      simp only [Option.some.injEq, Ac.pan.injEq] at ha
      subst ha
      obtain ⟨x, hop, hx⟩ := trOp_panic hm
      have h1 := opd_rep he hx
      rw [hv] at h1
      obtain ⟨z, hz, hr⟩ := rep_ifc h1
      exact ⟨.iface t z, by simp [execOp, hop, hz, Instr.panic], .ifc (frz_rep hr)⟩
    · simp at ha
  | call f args => simp [AOp.plain] at hpl
  | dyn x args => simp [AOp.plain] at hpl
  | _ =>
    exfalso
    simp only [act, qo, slcD, iadD, appD] at ha
    repeat' split at ha
    all_goals simp at ha
end
end Go.Abs

end
section
/- Own framework, part 19: calls. -/
set_option linter.unusedVariables false
set_option linter.unusedSimpArgs false
namespace Go.Abs
open Go.RowKit (Below)

section
variable {P : Program} {w w' : World} {g g1 : Gh} {V V1 : List VO} {T T1 : List Nat} {v : Value} {d : D}

theorem closed_rep {g' : Gh} {T' : List Nat} (h : RepD w g T v d) (hI : g'.I = g.I) : d.closed = true → (g'.B ≤ g.B ∨ d.frz = d) → RepD w g' T' v d := by
  induction h with
  | c h => intro _ _; exact .c (by rw [hI]; exact h)
  | @ag cs ds hl h1 hr ih =>
    intro hc hf
    simp only [D.closed, closedL_all, List.all_eq_true] at hc
    refine .ag hl h1 fun i hi => ih i hi (hc _ (List.getElem_mem hi)) (hf.imp id fun e => ?_)
    simp only [D.frz, frzL_map, D.ag.injEq] at e
    have := congrArg (·[i]?) e
    simpa [hi] using this
  | @tu cs ds hl hr ih =>
    intro hc hf
    simp only [D.closed, closedL_all, List.all_eq_true] at hc
    refine .tu hl fun i hi => ih i hi (hc _ (List.getElem_mem hi)) (hf.imp id fun e => ?_)
    simp only [D.frz, frzL_map, D.tu.injEq] at e
    have := congrArg (·[i]?) e
    simpa [hi] using this
  | fsnil => intro _ _; exact .fsnil
  | fs hB hcl hr =>
    intro _ hf
    rcases hf with hf | hf
    · exact .fs (fun h => Nat.le_trans hf (hB h)) (by rw [hI]; exact hcl) (by rw [hI]; exact hr)
    · simp [D.frz] at hf
  | ow hn hcl hr ht => intro hc; simp [D.closed] at hc
  | ip hcl hr => intro _ _; exact .ip (by rw [hI]; exact hcl) (by rw [hI]; exact hr)
  | mp h => intro hc; simp [D.closed] at hc
  | @fn f cs ds hl hr ih =>
    intro hc hf
    simp only [D.closed, closedL_all, List.all_eq_true] at hc
    refine .fn hl fun i hi => ih i hi (hc _ (List.getElem_mem hi)) (hf.imp id fun e => ?_)
    simp only [D.frz, frzL_map, D.fn.injEq, true_and] at e
    have := congrArg (·[i]?) e
    simpa [hi] using this
  | ifc h ih =>
    intro hc hf
    simp only [D.closed] at hc
    refine .ifc (ih hc (hf.imp id fun e => ?_))
    simpa [D.frz] using e

theorem frz_frz (h : RepD w g T v d) : d.frz.frz = d.frz := by
  induction h with
  | ag hl h1 hr ih =>
    simp only [D.frz, frzL_map, List.map_map, D.ag.injEq]
    refine List.map_congr_left fun x hx => ?_
    obtain ⟨i, hi, rfl⟩ := List.getElem_of_mem hx
    exact ih i hi
  | tu hl hr ih =>
    simp only [D.frz, frzL_map, List.map_map, D.tu.injEq]
    refine List.map_congr_left fun x hx => ?_
    obtain ⟨i, hi, rfl⟩ := List.getElem_of_mem hx
    exact ih i hi
  | fn hl hr ih =>
    simp only [D.frz, frzL_map, List.map_map, D.fn.injEq, true_and]
    refine List.map_congr_left fun x hx => ?_
    obtain ⟨i, hi, rfl⟩ := List.getElem_of_mem hx
    exact ih i hi
  | ifc h ih => simp only [D.frz, ih]
  | _ => rfl

theorem low_rep {g' : Gh} {nv nt : Nat} (h : RepD w g T v d) (hB : g'.B = g.B) (hI : g'.I = g.I) (hσ : g'.σ = g.σ.take nv) (hτ : g'.τ = g.τ.take nt) : d.low nv nt = true → RepD w g' (T.take nt) v d := by
  induction h with
  | c h => intro _; exact .c (by rw [hI]; exact h)
  | @ag cs ds hl h1 hr ih =>
    intro hc
    simp only [D.low, lowL_all, List.all_eq_true] at hc
    exact .ag hl h1 fun i hi => ih i hi (hc _ (List.getElem_mem hi))
  | @tu cs ds hl hr ih =>
    intro hc
    simp only [D.low, lowL_all, List.all_eq_true] at hc
    exact .tu hl fun i hi => ih i hi (hc _ (List.getElem_mem hi))
  | fsnil => intro _; exact .fsnil
  | fs hB' hcl hr => intro _; exact .fs (by rw [hB]; exact hB') (by rw [hI]; exact hcl) (by rw [hI]; exact hr)
  | @ow a n cap us cs id ver hn hcl hr ht =>
    intro hc
    have hc : id < nt := by simpa only [D.low, decide_eq_true_eq] using hc
    refine .ow hn (by rw [hI]; exact hcl) (by rw [hI]; exact hr) ?_
    rw [hτ, List.getElem?_take_of_lt hc, List.getElem?_take_of_lt hc]
    exact ht
  | ip hcl hr => intro _; exact .ip (by rw [hI]; exact hcl) (by rw [hI]; exact hr)
  | @mp id off b h =>
    intro hc
    have hc : id < nv := by simpa only [D.low, decide_eq_true_eq] using hc
    exact .mp (by rw [hσ, List.getElem?_take_of_lt hc]; exact h)
  | @fn f cs ds hl hr ih =>
    intro hc
    simp only [D.low, lowL_all, List.all_eq_true] at hc
    exact .fn hl fun i hi => ih i hi (hc _ (List.getElem_mem hi))
  | ifc h ih => intro hc; exact .ifc (ih (by simpa only [D.low] using hc))

theorem shift_one {nv nt : Nat} (h : d.one = true) : (d.shift nv nt).one = true := by cases d <;> first | rfl | simp [D.one] at h

theorem shift_rep {g' : Gh} {σ0 : List Nat} {τ0 : List TG} {T0 : List Nat} (h : RepD w g T v d) (hB : g'.B ≤ g.B) (hI : g'.I = g.I) (hσ : g'.σ = σ0 ++ g.σ) (hτ : g'.τ = τ0 ++ g.τ) (hT : τ0.length = T0.length) :
    RepD w g' (T0 ++ T) v (d.shift σ0.length T0.length) := by
  induction h with
  | c h => exact .c (by rw [hI]; exact h)
  | @ag cs ds hl h1 hr ih =>
    simp only [D.shift, shiftL_map]
    refine .ag (by simpa using hl) (fun i hi => ?_) fun i hi => ?_
    · rw [List.getElem_map]; exact shift_one (h1 i (by simpa using hi))
    · rw [List.getElem_map]; exact ih i (by simpa using hi)
  | @tu cs ds hl hr ih =>
    simp only [D.shift, shiftL_map]
    refine .tu (by simpa using hl) fun i hi => ?_
    rw [List.getElem_map]; exact ih i (by simpa using hi)
  | fsnil => exact .fsnil
  | fs hB' hcl hr => exact .fs (fun h => Nat.le_trans hB (hB' h)) (by rw [hI]; exact hcl) (by rw [hI]; exact hr)
  | @ow a n cap us cs id ver hn hcl hr ht =>
    refine .ow hn (by rw [hI]; exact hcl) (by rw [hI]; exact hr) ?_
    rw [hτ, List.getElem?_append_right (by omega), List.getElem?_append_right (by omega), hT, Nat.add_sub_cancel]
    exact ht
  | ip hcl hr => exact .ip (by rw [hI]; exact hcl) (by rw [hI]; exact hr)
  | @mp id off b h =>
    refine .mp ?_
    rw [hσ, List.getElem?_append_right (by omega), Nat.add_sub_cancel]
    exact h
  | @fn f cs ds hl hr ih =>
    simp only [D.shift, shiftL_map]
    refine .fn (by simpa using hl) fun i hi => ?_
    rw [List.getElem_map]; exact ih i (by simpa using hi)
  | ifc h ih => exact .ifc ih

/-- The callee of a call all of whose arguments are closed: it has no variables and no tokens as yet. -/
def Gh.clear (g : Gh) (w : World) : Gh := ⟨w.heap.size, [], [], g.I⟩
theorem Sim.clear (h : Sim w g V T) : Sim w (g.clear w) [] [] where
  lv := rfl
  lt := rfl
  var id o b ho := by simp at ho
  tok id tg ht := by simp [Gh.clear] at ht
  nd := by simp [Gh.clear]
  base b hb := by simp [Gh.clear] at hb
  hB := Nat.le_refl _
  ilt := h.ilt
  iv b o id vo hi hs := by simp [Gh.clear] at hs
  it b o id tg hi ht := by simp [Gh.clear] at ht

theorem got_closed (hS : Sim w g V T) (h : Got w (g.clear w) [] w' v d V1 T1) (hc : d.closed = true) : Got w g T w' v d V T := by
  obtain ⟨g1, e1, s1, r1, b1⟩ := h
  have b1 : Below w.heap.size w w' := b1
  have eB : g1.B = w.heap.size := e1.B
  have he : Ext w g T w' { g with I := g1.I } T := ⟨rfl, fun b o hi => e1.imm b o hi, fun _ _ h => h, fun _ k h => ⟨k, h, Nat.le_refl _, fun _ => rfl⟩, fun b o hi =>
    (e1.inew b o hi).elim .inl fun hb => .inr (Nat.le_trans hS.hB hb)⟩
  refine ⟨{ g with I := g1.I }, he, ?_, closed_rep r1 rfl hc (.inl (by show g.B ≤ g1.B; rw [eB]; exact hS.hB)), hS.below b1⟩
  exact {
    lv := hS.lv
    lt := hS.lt
    var := fun id o b ho hs => (hS.var id o b ho hs).mono_at he (b1.block b (hS.σlt hs))
    tok := fun id tg ht => (hS.tok id tg ht).mono_at (b1.block _ (hS.τlt ht))
    nd := hS.nd
    base := hS.base
    hB := Nat.le_trans hS.hB b1.size
    ilt := s1.ilt
    iv := fun b o id vo hi hs hv => by
      rcases e1.inew b o hi with h2 | h2
      · exact hS.iv b o id vo h2 hs hv
      · have h3 := hS.σlt hs
        have h4 : w.heap.size ≤ b := h2
        omega
    it := fun b o id tg hi ht hb => by
      rcases e1.inew b o hi with h2 | h2
      · exact hS.it b o id tg h2 ht hb
      · have h3 := hS.τlt ht
        have h4 : w.heap.size ≤ b := h2
        omega }

theorem got_take (hS : Sim w g V T) (h : Got w g T w' v d V1 T1) (hc : d.closed = true) (hlow : (V1.take V.length).all (fun o => lowL V.length T.length o.cs) = true) (hv : V.length ≤ V1.length) (ht : T.length ≤ T1.length) :
    Got w g T w' v d (V1.take V.length) (T1.take T.length) := by
  obtain ⟨g1, e1, s1, r1, b1⟩ := h
  have hmem : ∀ b, b ∈ g1.σ.take V.length ++ (g1.τ.take T.length).map (·.blk) → b ∈ g1.σ ++ g1.τ.map (·.blk) := fun b hb => by
    rcases List.mem_append.1 hb with hb | hb
    · exact List.mem_append.2 (.inl (List.mem_of_mem_take hb))
    · rw [List.map_take] at hb
      exact List.mem_append.2 (.inr (List.mem_of_mem_take hb))
  have hσ : ∀ {id b : Nat}, (g1.σ.take V.length)[id]? = some b → id < V.length ∧ g1.σ[id]? = some b := fun {id b} h => by
    have h1 := (List.getElem?_eq_some_iff.1 h).1
    have h2 : id < V.length := by simp at h1; omega
    exact ⟨h2, by rw [List.getElem?_take_of_lt h2] at h; exact h⟩
  have hτ : ∀ {id : Nat} {tg : TG}, (g1.τ.take T.length)[id]? = some tg → id < T.length ∧ g1.τ[id]? = some tg := fun {id tg} h => by
    have h1 := (List.getElem?_eq_some_iff.1 h).1
    have h2 : id < T.length := by simp at h1; omega
    exact ⟨h2, by rw [List.getElem?_take_of_lt h2] at h; exact h⟩
  refine ⟨{ g1 with σ := g1.σ.take V.length, τ := g1.τ.take T.length }, ⟨e1.B, e1.imm, fun id b hb => ?_, fun id k hk => ?_, e1.inew⟩, ?_, closed_rep r1 rfl hc (.inl (Nat.le_refl _)), b1⟩
  · have := (List.getElem?_eq_some_iff.1 hb).1
    show (g1.σ.take V.length)[id]? = some b
    rw [List.getElem?_take_of_lt (by rw [← hS.lv]; exact this)]
    exact e1.σ id b hb
  · have := (List.getElem?_eq_some_iff.1 hk).1
    obtain ⟨k', h1, h2, h3⟩ := e1.τ id k hk
    exact ⟨k', by rw [List.getElem?_take_of_lt this]; exact h1, h2, fun e => by
      show (g1.τ.take T.length)[id]? = _
      rw [List.getElem?_take_of_lt this]; exact h3 e⟩
  · exact {
      lv := by simp [s1.lv]
      lt := by simp [s1.lt]
      var := fun id o b ho hs => by
        obtain ⟨h1, h2⟩ := hσ hs
        have ho' := ho
        rw [List.getElem?_take_of_lt h1] at ho
        have h3 := List.all_eq_true.1 hlow o (List.mem_of_getElem? ho')
        rw [lowL_all, List.all_eq_true] at h3
        rcases s1.var id o b ho h2 with ⟨k1, k2, s, p, k3, k4⟩ | ⟨k1, arr, t, fr, k2, k3, k4, k5⟩
        · exact .inl ⟨k1, k2, s, p, k3, k4⟩
        · exact .inr ⟨k1, arr, t, fr, k2, k3, k4, k5.1, fun i hi => low_rep (k5.2 i hi) rfl rfl rfl rfl (h3 _ (List.getElem_mem hi))⟩
      tok := fun id tg h => s1.tok id tg (hτ h).2
      nd := by
        show (g1.σ.take V.length ++ (g1.τ.take T.length).map (·.blk)).Nodup
        rw [List.map_take]
        exact s1.nd.sublist (List.Sublist.append (List.take_sublist _ _) (List.take_sublist _ _))
      base := fun b hb => s1.base b (hmem b hb)
      hB := s1.hB
      ilt := s1.ilt
      iv := fun b o id vo hi hs hv => by
        obtain ⟨h1, h2⟩ := hσ hs
        rw [List.getElem?_take_of_lt h1] at hv
        exact s1.iv b o id vo hi h2 hv
      it := fun b o id tg hi h hb => s1.it b o id tg hi (hτ h).2 hb }

theorem nodup_swap {α : Type} {a b c e : List α} (h1 : (a ++ b).Nodup) (h2 : (c ++ e).Nodup) (h : ∀ x, x ∈ a ++ b → x ∈ c ++ e → False) : (a ++ c ++ (b ++ e)).Nodup := by
  have hp : List.Perm (a ++ c ++ (b ++ e)) ((a ++ b) ++ (c ++ e)) := by
    rw [List.append_assoc, List.append_assoc]
    refine List.Perm.append_left a ?_
    rw [← List.append_assoc, ← List.append_assoc]
    exact List.Perm.append_right e List.perm_append_comm
  rw [hp.nodup_iff, List.nodup_append]
  exact ⟨h1, h2, fun x hx y hy e => h x hx (e ▸ hy)⟩

theorem got_import (hS : Sim w g V T) (h : Got w (g.clear w) [] w' v d V1 T1) :
    Got w g T w' v (d.shift V.length T.length) (V ++ V1.map fun o => ⟨o.t, o.it, o.fz, shiftL V.length T.length o.cs⟩) (T ++ T1) := by
  obtain ⟨g1, e1, s1, r1, b1⟩ := h
  have b1 : Below w.heap.size w w' := b1
  have eB : g1.B = w.heap.size := e1.B
  let g' : Gh := ⟨g.B, g.σ ++ g1.σ, g.τ ++ g1.τ, g1.I⟩
  have hBB : g'.B ≤ g1.B := by show g.B ≤ g1.B; rw [eB]; exact hS.hB
  have hsh : ∀ {v : Value} {d : D}, RepD w' g1 T1 v d → RepD w' g' (T ++ T1) v (d.shift V.length T.length) := fun {v d} h => by
    have := shift_rep (g' := g') (σ0 := g.σ) (τ0 := g.τ) (T0 := T) h hBB rfl rfl rfl hS.lt
    rwa [hS.lv] at this
  have he : Ext w g T w' g' (T ++ T1) := ⟨rfl, fun b o hi => e1.imm b o hi, fun id b hb => by
      have := (List.getElem?_eq_some_iff.1 hb).1
      show (g.σ ++ g1.σ)[id]? = some b
      rw [List.getElem?_append_left this]; exact hb, fun id k hk => by
      have := (List.getElem?_eq_some_iff.1 hk).1
      refine ⟨k, by rw [List.getElem?_append_left this]; exact hk, Nat.le_refl _, fun _ => ?_⟩
      show (g.τ ++ g1.τ)[id]? = _
      rw [List.getElem?_append_left (by rw [hS.lt]; exact this)], fun b o hi =>
    (e1.inew b o hi).elim .inl fun hb => .inr (Nat.le_trans hS.hB hb)⟩
  have hσ : ∀ {id b : Nat}, (g.σ ++ g1.σ)[id]? = some b → (id < V.length ∧ g.σ[id]? = some b) ∨ (V.length ≤ id ∧ g1.σ[id - V.length]? = some b) := fun {id b} h => by
    by_cases hid : id < V.length
    · rw [List.getElem?_append_left (by rw [hS.lv]; exact hid)] at h; exact .inl ⟨hid, h⟩
    · rw [List.getElem?_append_right (by rw [hS.lv]; omega), hS.lv] at h; exact .inr ⟨by omega, h⟩
  have hτ : ∀ {id : Nat} {tg : TG}, (g.τ ++ g1.τ)[id]? = some tg → (g.τ[id]? = some tg) ∨ (g1.τ[id - T.length]? = some tg) := fun {id tg} h => by
    by_cases hid : id < T.length
    · rw [List.getElem?_append_left (by rw [hS.lt]; exact hid)] at h; exact .inl h
    · rw [List.getElem?_append_right (by rw [hS.lt]; omega), hS.lt] at h; exact .inr h
  have hge : ∀ {b : Nat}, b ∈ g1.σ ++ g1.τ.map (·.blk) → w.heap.size ≤ b := fun hb => by rw [← eB]; exact s1.base _ hb
  refine ⟨g', he, ?_, hsh r1, hS.below b1⟩
  exact {
    lv := by simp [g', hS.lv, s1.lv]
    lt := by simp [g', hS.lt, s1.lt]
    var := fun id o b ho hs => by
      rcases hσ hs with ⟨h1, h2⟩ | ⟨h1, h2⟩
      · rw [List.getElem?_append_left h1] at ho
        exact (hS.var id o b ho h2).mono_at he (b1.block b (hS.σlt h2))
      · rw [List.getElem?_append_right h1, List.getElem?_map] at ho
        cases hv1 : V1[id - V.length]? with
        | none => simp [hv1] at ho
        | some o1 =>
          simp only [hv1, Option.map_some, Option.some.injEq] at ho
          subst ho
          rcases s1.var _ o1 b hv1 h2 with ⟨k1, k2, s, p, k3, k4⟩ | ⟨k1, arr, t, fr, k2, k3, k4, k5⟩
          · exact .inl ⟨k1, k2, s, p, by simp [k3, shiftL, D.shift], k4⟩
          · refine .inr ⟨k1, arr, t, fr, k2, k3, fun i hi => ?_, by simpa [shiftL_map] using k5.1, fun i hi => ?_⟩
            · simp only [shiftL_map, List.getElem_map]
              exact shift_one (k4 i (by simpa [shiftL_map] using hi))
            · simp only [shiftL_map, List.getElem_map]
              exact hsh (k5.2 i (by simpa [shiftL_map] using hi))
    tok := fun id tg ht => by
      rcases hτ ht with h | h
      · exact (hS.tok id tg h).mono_at (b1.block _ (hS.τlt h))
      · exact s1.tok _ tg h
    nd := by
      show (g.σ ++ g1.σ ++ (g.τ ++ g1.τ).map (·.blk)).Nodup
      rw [List.map_append]
      exact nodup_swap hS.nd s1.nd fun x hx hy => by
        have h1 := hS.memlt hx
        have h2 := hge hy
        omega
    base := fun b hb => by
      have hb : b ∈ g.σ ++ g1.σ ++ (g.τ ++ g1.τ).map (·.blk) := hb
      simp only [List.map_append, List.mem_append] at hb
      have hh := hS.hB
      rcases hb with (hb | hb) | hb | hb
      · exact hS.base b (List.mem_append.2 (.inl hb))
      · exact Nat.le_trans hh (hge (List.mem_append.2 (.inl hb)))
      · exact hS.base b (List.mem_append.2 (.inr hb))
      · exact Nat.le_trans hh (hge (List.mem_append.2 (.inr hb)))
    hB := Nat.le_trans hS.hB b1.size
    ilt := s1.ilt
    iv := fun b o id vo hi hs hv => by
      rcases hσ hs with ⟨h1, h2⟩ | ⟨h1, h2⟩
      · rw [List.getElem?_append_left h1] at hv
        rcases e1.inew b o hi with h3 | h3
        · exact hS.iv b o id vo h3 h2 hv
        · have h4 := hS.σlt h2
          have h5 : w.heap.size ≤ b := h3
          omega
      · rw [List.getElem?_append_right h1, List.getElem?_map] at hv
        cases hv1 : V1[id - V.length]? with
        | none => simp [hv1] at hv
        | some o1 =>
          simp only [hv1, Option.map_some, Option.some.injEq] at hv
          subst hv
          exact s1.iv b o _ o1 hi h2 hv1
    it := fun b o id tg hi ht hb => by
      rcases hτ ht with h | h
      · rcases e1.inew b o hi with h3 | h3
        · exact hS.it b o id tg h3 h hb
        · have h4 := hS.τlt h
          have h5 : w.heap.size ≤ b := h3
          omega
      · exact s1.it b o _ tg hi h hb }
end
end Go.Abs

end
section
/- Own framework, part 20: one operation's wp, calls and all. -/
set_option linter.unusedVariables false
set_option linter.unusedSimpArgs false
namespace Go.Abs
open Go.RowKit (Below)

/-- What a callee ends in. -/
def PostOf (w : World) (g : Gh) (T : List Nat) : Out1 → Ending → World → Prop
  | .ok d V' T', e, w' => ∃ v, e = .returned v ∧ Got w g T w' v d V' T'
  | .pan d V' T', e, w' => ∃ v, e = .panicked [{ v, recovered := false }] ∧ Got w g T w' v d V' T'
def resOut : Res × List VO × List Nat → Out1
  | (.ret d, V, T) => .ok d V T
  | (.pan d, V, T) => .pan d V T
/-- What a function ends in: behind a panic nothing is said of the frame's own variables. -/
def PostC (w : World) (g : Gh) (T : List Nat) : Res × List VO × List Nat → Ending → World → Prop
  | (.ret d, V', T'), e, w' => ∃ v, e = .returned v ∧ Got w g T w' v d V' T'
  | (.pan d, _, _), e, w' => ∃ v, e = .panicked [{ v, recovered := false }] ∧ ∃ V' T', Got w g T w' v d V' T'
def Enters (P : Program) (f : FuncId) : Prop := ∃ fn, P.funcs[f]? = some fn ∧ (fn.name == "runtime.NumGoroutine") = false ∧ fn.body.isNone = false
/-- What is said of the callees. -/
def CallOk (P : Program) (call : CallF) : Prop := ∀ f args V T r, call f args V T = some r →
  Enters P f ∧ ∀ w g cargs, Sim w g V T → RepL w g T cargs args → Calls P f cargs w (PostC w g T r)
def CalleeOk (P : Program) (f : FuncId) (cargs : Array Value) (w : World) (post : Ending → World → Prop) : Prop :=
  ((callFunc f cargs).run P w = .ok (.enter f cargs) w ∧ Calls P f cargs w post) ∨ ∃ v w', (callFunc f cargs).run P w = .ok (.value v) w' ∧ post (.returned v) w'
/-- What is said of the table. -/
def OrcOk (P : Program) (orc : Orc) : Prop := ∀ f h, orc f = some h → ∀ args ac, h (frzL args) = some ac → ∀ w g V T cargs call out l, Sim w g V T → RepL w g T cargs args →
  doAc call V T ac = some (out, l) → CalleeOk P f cargs w (PostOf w g T out)

section
variable {P : Program} {w w' : World} {g : Gh} {V V' : List VO} {T T' : List Nat} {a : Act} {e : Env} {o : Oper} {orc : Orc} {call : CallF} {aop : AOp} {ac : Ac} {d : D} {l : Lab} {out : Out1}

theorem enters_run {f : FuncId} {args : Array Value} (h : Enters P f) : (callFunc f args).run P w = .ok (.enter f args) w := by
  obtain ⟨fn, h1, h2, h3⟩ := h
  have h2' : fn.name ≠ "runtime.NumGoroutine" := by simpa using h2
  have h3' : fn.body ≠ none := fun e => by simp [e] at h3
  simp [callFunc, h1, h2', h3']

theorem call_ok (hC : CallOk P call) {f : FuncId} {cargs : Array Value} {ds : List D} (hS : Sim w g V T) (hr : RepL w g T cargs ds) (hd : doAc call V T (.call f (frzL ds)) = some (out, l)) : CalleeOk P f cargs w (PostOf w g T out) := by
  simp only [doAc] at hd
  split at hd
  · rename_i hcl
    have hr0 : RepL w (g.clear w) [] cargs (frzL ds) := by
      have h1 := frzL_rep hr
      refine ⟨h1.1, fun i hi => closed_rep (h1.2 i hi) rfl ?_ (.inr ?_)⟩
      · rw [closedL_all, List.all_eq_true] at hcl
        exact hcl _ (List.getElem_mem hi)
      · simp only [frzL_map, List.getElem_map]
        exact frz_frz (hr.2 i (by simpa [frzL_map] using hi))
    split at hd
    · rename_i d V1 T1 hc
      obtain ⟨hE, hk⟩ := hC _ _ _ _ _ hc
      refine .inl ⟨enters_run hE, (hk w (g.clear w) cargs hS.clear hr0).mono fun en w' hp => ?_⟩
      obtain ⟨v, rfl, hg⟩ := hp
      split at hd
      · rename_i hcd
        simp only [Option.some.injEq, Prod.mk.injEq] at hd
        obtain ⟨rfl, _⟩ := hd
        exact ⟨v, rfl, got_closed hS hg hcd⟩
      · simp only [Option.some.injEq, Prod.mk.injEq] at hd
        obtain ⟨rfl, _⟩ := hd
        exact ⟨v, rfl, got_import hS hg⟩
    · rename_i d V1 T1 hc
      split at hd
      · rename_i hcd
        simp only [Option.some.injEq, Prod.mk.injEq] at hd
        obtain ⟨rfl, _⟩ := hd
        obtain ⟨hE, hk⟩ := hC _ _ _ _ _ hc
        refine .inl ⟨enters_run hE, (hk w (g.clear w) cargs hS.clear hr0).mono fun en w' hp => ?_⟩
        obtain ⟨v, rfl, V2, T2, hg⟩ := hp
        exact ⟨v, rfl, got_closed hS hg hcd⟩
      · simp at hd
    · simp at hd
  · split at hd
    · rename_i d V1 T1 hc
      split at hd
      · rename_i hcd
        simp only [Bool.and_eq_true, decide_eq_true_eq] at hcd
        obtain ⟨⟨⟨h1, h2⟩, h3⟩, h4⟩ := hcd
        simp only [Option.some.injEq, Prod.mk.injEq] at hd
        obtain ⟨rfl, _⟩ := hd
        obtain ⟨hE, hk⟩ := hC _ _ _ _ _ hc
        refine .inl ⟨enters_run hE, (hk w g cargs hS (frzL_rep hr)).mono fun en w' hp => ?_⟩
        obtain ⟨v, rfl, hg⟩ := hp
        exact ⟨v, rfl, got_take hS hg h1 h2 h3 h4⟩
      · simp at hd
    · simp at hd

theorem callA_ok (hC : CallOk P call) (hO : OrcOk P orc) {f : FuncId} {cargs : Array Value} {ds : List D} (hS : Sim w g V T) (hr : RepL w g T cargs ds) (ha : callA orc f ds = some ac) (hd : doAc call V T ac = some (out, l)) :
    CalleeOk P f cargs w (PostOf w g T out) := by
  unfold callA at ha
  split at ha
  · rename_i h ho
    exact hO f h ho _ ac ha w g V T cargs call out l hS hr hd
  · simp only [Option.some.injEq] at ha
    subst ha
    exact call_ok hC hS hr hd

/-- What stands behind an operation. -/
def Goes (w : World) (g : Gh) (T : List Nat) (a : Act) (o : Oper) (K : Act → World → Prop) (Q : Exit → Act → World → Prop) : Out1 → Prop
  | .ok d V' T' => ∀ v w', Got w g T w' v d V' T' → K (a.put o.dst v) w'
  | .pan d V' T' => ∀ v w', Got w g T w' v d V' T' → Q (.panic [{ v, recovered := false }]) a w'

theorem wp_callee {K : Act → World → Prop} {Q : Exit → Act → World → Prop} {f : FuncId} {cargs : Array Value} (hx : (execOp a.eval o).run P w = (callFunc f cargs).run P w) (hc : CalleeOk P f cargs w (PostOf w g T out))
    (hg : Goes w g T a o K Q out) : o.wp P a w K Q := by
  unfold Oper.wp
  rw [hx]
  rcases hc with ⟨h1, h2⟩ | ⟨v, w', h1, h2⟩
  · rw [h1]
    simp only [Oper.upon]
    refine h2.mono fun en w' hp => ?_
    cases out with
    | ok d V' T' => obtain ⟨v, rfl, h⟩ := hp; exact hg v w' h
    | pan d V' T' => obtain ⟨v, rfl, h⟩ := hp; exact hg v w' h
  · rw [h1]
    simp only [Oper.upon]
    cases out with
    | ok d V' T' => obtain ⟨v', h3, h⟩ := h2; simp only [Ending.returned.injEq] at h3; subst h3; exact hg _ w' h
    | pan d V' T' => obtain ⟨v', h3, h⟩ := h2; simp at h3

theorem wp_stg {K : Act → World → Prop} {Q : Exit → Act → World → Prop} (h : StG P w g T a o d V' T') (hg : ∀ v w', Got w g T w' v d V' T' → K (a.put o.dst v) w') : o.wp P a w K Q := by
  obtain ⟨w', v, h1, h2⟩ := h
  unfold Oper.wp
  rcases h1 with h1 | ⟨h1, rfl⟩
  · rw [h1]; exact hg v w' h2
  · rw [h1]; exact hg undef w' h2

theorem trCall_call {c : Call} {f : FuncId} {xs : List Opd} (hm : trCall P c = some (.call f xs)) : c.callee = .value (.func f) ∧ opds c.args.toList = some xs := by
  unfold trCall at hm
  repeat' split at hm
  all_goals first
    | (rename_i h1; obtain ⟨ys, h2, h3⟩ := Option.map_eq_some_iff.1 hm; simp only [AOp.call.injEq] at h3; obtain ⟨rfl, rfl⟩ := h3; exact ⟨h1, h2⟩)
    | (exfalso; simp [Option.bind_eq_some_iff] at hm; done)
    | (exfalso; obtain ⟨_, _, hm⟩ := Option.bind_eq_some_iff.1 hm; repeat' split at hm
       all_goals (simp [Option.bind_eq_some_iff] at hm; done))
    | (exfalso; obtain ⟨_, _, hm⟩ := Option.bind_eq_some_iff.1 hm; obtain ⟨_, _, hm⟩ := Option.bind_eq_some_iff.1 hm; repeat' split at hm
       all_goals first
        | (simp [Option.bind_eq_some_iff] at hm; done)
        | (obtain ⟨_, _, hm⟩ := Option.bind_eq_some_iff.1 hm; obtain ⟨_, _, hm⟩ := Option.bind_eq_some_iff.1 hm; obtain ⟨_, _, hm⟩ := Option.bind_eq_some_iff.1 hm; repeat' split at hm
           all_goals (simp [Option.bind_eq_some_iff] at hm; done)))

theorem trCall_dyn {c : Call} {y : Opd} {xs : List Opd} (hm : trCall P c = some (.dyn y xs)) : ∃ t, y = .t t ∧ c.callee = .value (.tmp t) ∧ opds c.args.toList = some xs := by
  unfold trCall at hm
  repeat' split at hm
  all_goals first
    | (rename_i h1; obtain ⟨ys, h2, h3⟩ := Option.map_eq_some_iff.1 hm; simp only [AOp.dyn.injEq] at h3; obtain ⟨rfl, rfl⟩ := h3; exact ⟨_, rfl, h1, h2⟩)
    | (exfalso; simp [Option.bind_eq_some_iff] at hm; done)
    | (exfalso; obtain ⟨_, _, hm⟩ := Option.bind_eq_some_iff.1 hm; repeat' split at hm
       all_goals (simp [Option.bind_eq_some_iff] at hm; done))
    | (exfalso; obtain ⟨_, _, hm⟩ := Option.bind_eq_some_iff.1 hm; obtain ⟨_, _, hm⟩ := Option.bind_eq_some_iff.1 hm; repeat' split at hm
       all_goals first
        | (simp [Option.bind_eq_some_iff] at hm; done)
        | (obtain ⟨_, _, hm⟩ := Option.bind_eq_some_iff.1 hm; obtain ⟨_, _, hm⟩ := Option.bind_eq_some_iff.1 hm; obtain ⟨_, _, hm⟩ := Option.bind_eq_some_iff.1 hm; repeat' split at hm
           all_goals (simp [Option.bind_eq_some_iff] at hm; done)))

theorem trOp_call {f : FuncId} {xs : List Opd} (hm : trOp P o = some (.call f xs)) : ∃ c, o.op = .call c ∧ trCall P c = some (.call f xs) := by
  unfold trOp at hm
  split at hm
  all_goals try unfold mksOf at hm
  all_goals first
    | exact ⟨_, by assumption, hm⟩
    | skip
  all_goals exfalso
  all_goals repeat' split at hm
  all_goals first
    | (simp [Option.bind_eq_some_iff] at hm; done)
    | (obtain ⟨_, _, hm⟩ := Option.bind_eq_some_iff.1 hm; repeat' split at hm
       all_goals (simp [Option.bind_eq_some_iff] at hm; done))
    | (obtain ⟨_, _, hm⟩ := Option.bind_eq_some_iff.1 hm; obtain ⟨_, _, hm⟩ := Option.bind_eq_some_iff.1 hm; obtain ⟨_, _, hm⟩ := Option.bind_eq_some_iff.1 hm; repeat' split at hm
       all_goals (simp [Option.bind_eq_some_iff] at hm; done))

theorem trOp_dyn {y : Opd} {xs : List Opd} (hm : trOp P o = some (.dyn y xs)) : ∃ c, o.op = .call c ∧ trCall P c = some (.dyn y xs) := by
  unfold trOp at hm
  split at hm
  all_goals try unfold mksOf at hm
  all_goals first
    | exact ⟨_, by assumption, hm⟩
    | skip
  all_goals exfalso
  all_goals repeat' split at hm
  all_goals first
    | (simp [Option.bind_eq_some_iff] at hm; done)
    | (obtain ⟨_, _, hm⟩ := Option.bind_eq_some_iff.1 hm; repeat' split at hm
       all_goals (simp [Option.bind_eq_some_iff] at hm; done))
    | (obtain ⟨_, _, hm⟩ := Option.bind_eq_some_iff.1 hm; obtain ⟨_, _, hm⟩ := Option.bind_eq_some_iff.1 hm; obtain ⟨_, _, hm⟩ := Option.bind_eq_some_iff.1 hm; repeat' split at hm
       all_goals (simp [Option.bind_eq_some_iff] at hm; done))

theorem op_ok (hAg : AgOk P) (hC : CallOk P call) (hO : OrcOk P orc) (hm : trOp P o = some aop) (he : EnvOk w g T a.tmps e) (hS : Sim w g V T) (ha : act orc e aop = some ac) (hd : doAc call V T ac = some (out, l))
    {K : Act → World → Prop} {Q : Exit → Act → World → Prop} (hg : Goes w g T a o K Q out) : o.wp P a w K Q := by
  cases hpl : aop.plain with
  | true =>
    cases out with
    | ok d V' T' => exact wp_stg (act_ok hAg hm hpl he hS ha hd) hg
    | pan d V' T' =>
      obtain ⟨rfl, rfl, rfl, h1, v, h2, h3⟩ := act_pan hm hpl he ha hd
      unfold Oper.wp
      rw [h2]
      exact hg v w (got_same hS h3)
  | false =>
    cases aop with
    | call f xs =>
      obtain ⟨c, hop, hc⟩ := trOp_call hm
      obtain ⟨h1, h2⟩ := trCall_call hc
      simp only [act] at ha
      have hr := opds_rep he h2
      refine wp_callee (cargs := (c.args.toList.map a.eval).toArray) ?_ (callA_ok hC hO hS hr ha hd) hg
      have hsz : (c.args.map a.eval) = (c.args.toList.map a.eval).toArray := by rw [← Array.toList_map]
      simp [execOp, hop, resolve, h1, Deferred.ofValue, Act.eval, invoke, hsz]
    | dyn y xs =>
      obtain ⟨c, hop, hc⟩ := trOp_dyn hm
      obtain ⟨t, rfl, h1, h2⟩ := trCall_dyn hc
      simp only [act] at ha
      split at ha
      · rename_i f cap hv
        have hr := opds_rep he h2
        have ht := he t
        have hv : e t = .fn f cap := hv
        rw [hv] at ht
        obtain ⟨cs, h3, h4⟩ := rep_fn ht
        have hr2 : RepL w g T ((c.args.toList.map a.eval).toArray ++ cs) (xs.map (ev e) ++ cap) := by
          refine ⟨by rw [Array.size_append, List.length_append, hr.1, h4.1], fun i hi => ?_⟩
          by_cases hlt : i < (xs.map (ev e)).length
          · rw [List.getElem_append_left hlt]
            have := hr.2 i hlt
            rw [Array.getD_eq_getD_getElem?] at this ⊢
            rw [Array.getElem?_append_left (by rw [hr.1]; exact hlt)]
            exact this
          · rw [List.getElem_append_right (by omega)]
            have hlt2 : i - (xs.map (ev e)).length < cap.length := by rw [List.length_append] at hi; omega
            have := h4.2 _ hlt2
            rw [Array.getD_eq_getD_getElem?] at this ⊢
            rw [Array.getElem?_append_right (by rw [hr.1]; omega), hr.1]
            exact this
        refine wp_callee (cargs := (c.args.toList.map a.eval).toArray ++ cs) ?_ (callA_ok hC hO hS hr2 ha hd) hg
        have hsz : (c.args.map a.eval) = (c.args.toList.map a.eval).toArray := by rw [← Array.toList_map]
        simp only [execOp, hop, resolve, h1, Act.eval, h3, Deferred.ofValue, hsz]
        simp [invoke]
      · simp at ha
    | _ => simp [AOp.plain] at hpl
end
end Go.Abs

end
section
/- Own framework, part 21: regions whose order is the text's. -/
set_option linter.unusedVariables false
set_option linter.unusedSimpArgs false
namespace Go.Abs
open Go.RowKit (Below)

/-- A frame's state holds an abstract one; w0, g0, T0: where the call began. -/
def Lay (ds : List Deferred) (nt : Nat) (w0 : World) (g0 : Gh) (T0 : List Nat) (s : St) (a : Act) (w : World) : Prop :=
  ∃ g, Ext w0 g0 T0 w g s.T ∧ Sim w g s.V s.T ∧ EnvOk w g s.T a.tmps s.e ∧ nt ≤ a.tmps.size ∧ a.defers = ds ∧ Below g0.B w0 w
/-- Behind an exit. -/
def QOk (ds : List Deferred) (nt : Nat) (w0 : World) (g0 : Gh) (T0 : List Nat) (Q : Exit → Act → World → Prop) : Out × St → Prop
  | (.nrm, s) => ∀ a w, Lay ds nt w0 g0 T0 s a w → Q .normal a w
  | (.ext id, s) => ∀ a w, Lay ds nt w0 g0 T0 s a w → Q (.exit id) a w
  | (.ret, s) => ∀ a w, Lay ds nt w0 g0 T0 s a w → Q .ret a w
  | (.pan d, _) => ∀ a w v V T, a.defers = ds → Got w0 g0 T0 w v d V T → Q (.panic [{ v, recovered := false }]) a w
/-- The same where it panics: and the value. -/
def LayV (ds : List Deferred) (nt : Nat) (w0 : World) (g0 : Gh) (T0 : List Nat) (s : St) (a : Act) (w : World) (v : Value) (d : D) : Prop :=
  ∃ g, Ext w0 g0 T0 w g s.T ∧ Sim w g s.V s.T ∧ EnvOk w g s.T a.tmps s.e ∧ nt ≤ a.tmps.size ∧ a.defers = ds ∧ Below g0.B w0 w ∧ RepD w g s.T v d
def QOkX (ds : List Deferred) (nt : Nat) (w0 : World) (g0 : Gh) (T0 : List Nat) (Q : Exit → Act → World → Prop) : Out × St → Prop
  | (.nrm, s) => ∀ a w, Lay ds nt w0 g0 T0 s a w → Q .normal a w
  | (.ext id, s) => ∀ a w, Lay ds nt w0 g0 T0 s a w → Q (.exit id) a w
  | (.ret, s) => ∀ a w, Lay ds nt w0 g0 T0 s a w → Q .ret a w
  | (.pan d, s) => ∀ a w v, LayV ds nt w0 g0 T0 s a w v d → Q (.panic [{ v, recovered := false }]) a w
theorem QOk.x {ds : List Deferred} {nt : Nat} {w0 : World} {g0 : Gh} {T0 : List Nat} {Q : Exit → Act → World → Prop} {r : Out × St} (h : QOk ds nt w0 g0 T0 Q r) : QOkX ds nt w0 g0 T0 Q r := by
  obtain ⟨o, s⟩ := r
  cases o with
  | pan d => exact fun a w v ⟨g, h1, h2, h3, h4, h5, h6, h7⟩ => h a w v _ _ h5 ⟨g, h1, h2, h7, h6⟩
  | _ => exact h

section
variable {P : Program} {w w' : World} {g : Gh} {V V' : List VO} {T T' : List Nat} {a : Act} {e : Env} {o : Oper} {orc : Orc} {call : CallF} {ops : Array Oper} {ds : List Deferred} {nt : Nat} {ao : AOper}

theorem trOper_op (hm : trOper P ops nt o = some ao) : trOp P o = some ao.op ∧ ao.d = o.dst ∧ (∀ d, o.dst = some d → d < nt) := by
  unfold trOper at hm
  obtain ⟨op, h1, hm⟩ := Option.bind_eq_some_iff.1 hm
  obtain ⟨gg, h2, hm⟩ := Option.bind_eq_some_iff.1 hm
  split at hm
  · rename_i d hd
    split at hm
    · rename_i hlt
      simp only [Option.some.injEq] at hm
      subst hm
      exact ⟨h1, hd.symm, fun d' h => by rw [hd] at h; simp only [Option.some.injEq] at h; subst h; exact hlt⟩
    · simp at hm
  · rename_i hd
    simp only [Option.some.injEq] at hm
    subst hm
    exact ⟨h1, hd.symm, fun d' h => by rw [hd] at h; simp at h⟩

theorem trOper_guard (hm : trOper P ops nt o = some ao) : (o.guard = none ∧ ao.g = none) ∨ ∃ j want d, o.guard = some (j, want) ∧ ao.g = some (d, want) ∧ (ops[j]?).bind (·.dst) = some d ∧ d < nt := by
  unfold trOper at hm
  obtain ⟨op, h1, hm⟩ := Option.bind_eq_some_iff.1 hm
  obtain ⟨gg, h2, hm⟩ := Option.bind_eq_some_iff.1 hm
  have hg : ao.g = gg := by
    split at hm
    · split at hm
      · simp only [Option.some.injEq] at hm; subst hm; rfl
      · simp at hm
    · simp only [Option.some.injEq] at hm; subst hm; rfl
  subst hg
  unfold trGuard at h2
  split at h2
  · rename_i h3
    simp only [Option.some.injEq] at h2
    exact .inl ⟨h3, h2.symm⟩
  · rename_i j want h3
    obtain ⟨d, h4, h5⟩ := Option.bind_eq_some_iff.1 h2
    split at h5
    · rename_i hlt
      simp only [Option.some.injEq] at h5
      exact .inr ⟨j, want, d, h3, h5.symm, h4, hlt⟩
    · simp at h5

theorem guard_ok (hm : trOper P ops nt o = some ao) (hsz : nt ≤ a.tmps.size) (he : EnvOk w g T a.tmps e) {b : Bool} (hgd : guardD e ao.g = some b) : Region.wanted o (yielded ops a.tmps) = b := by
  rcases trOper_guard hm with ⟨h1, h2⟩ | ⟨j, want, d, h1, h2, h3, h4⟩
  · rw [h2] at hgd
    simp only [guardD, Option.some.injEq] at hgd
    subst hgd
    simp [Region.wanted, h1]
  · rw [h2] at hgd
    have hd := he d
    have hget : a.tmps[d]? = some (a.tmps.getD d undef) := by rw [Array.getD_eq_getD_getElem?, Array.getElem?_eq_getElem (by omega)]; rfl
    simp only [Region.wanted, h1, yielded, h3, Option.bind_some, hget]
    simp only [guardD] at hgd
    split at hgd
    · rename_i b' hb
      rw [hb] at hd
      rw [rep_sc hd]
      simp only [Option.some.injEq] at hgd
      subst hgd
      cases b' <;> cases want <;> rfl
    · rename_i hb
      rw [hb] at hd
      obtain ⟨cs, hcs, _⟩ := rep_tu hd
      rw [hcs]
      simp only [Option.some.injEq] at hgd
      subst hgd
      rfl
    · simp at hgd

variable {w0 : World} {g0 : Gh} {T0 : List Nat}

theorem Lay.put {s : St} (h : Lay ds nt w0 g0 T0 s a w) (hm : trOper P ops nt o = some ao) : Lay ds nt w0 g0 T0 ⟨putE s.e ao.d und, s.V, s.T⟩ (a.put o.dst undef) w := by
  obtain ⟨g, h1, h2, h3, h4, h5, h6⟩ := h
  obtain ⟨k1, k2, k3⟩ := trOper_op hm
  exact ⟨g, h1, h2, by rw [k2]; exact h3.put _ (fun d hd => Nat.lt_of_lt_of_le (k3 d hd) h4) und_rep, by rw [put_size]; exact h4, by cases hd : o.dst <;> simp [Act.put, h5], h6⟩

/-- One operation, wanted or not. -/
theorem oper_ok (hAg : AgOk P) (hC : CallOk P call) (hO : OrcOk P orc) {i : Nat} (hi : ops[i]? = some o) (hm : trOper P ops nt o = some ao) {s : St} (h : Lay ds nt w0 g0 T0 s a w) {K : Act → World → Prop} {Q : Exit → Act → World → Prop}
    (hskip : guardD s.e ao.g = some false → ∀ a w, Lay ds nt w0 g0 T0 ⟨putE s.e ao.d und, s.V, s.T⟩ a w → K a w)
    (hgd : guardD s.e ao.g ≠ none)
    (hdo : guardD s.e ao.g = some true → ∃ ac out l, act orc s.e ao.op = some ac ∧ doAc call s.V s.T ac = some (out, l) ∧ match out with
      | .ok x V' T' => ∀ a w, Lay ds nt w0 g0 T0 ⟨putE s.e ao.d x, V', T'⟩ a w → K a w
      | .pan x V' T' => ∀ a w v, LayV ds nt w0 g0 T0 ⟨s.e, V', T'⟩ a w v x → Q (.panic [{ v, recovered := false }]) a w) : wpOp P ops Q i K a w := by
  unfold wpOp
  simp only [hi]
  have h' := h
  obtain ⟨g, h1, h2, h3, h4, h5, h6⟩ := h
  obtain ⟨k1, k2, k3⟩ := trOper_op hm
  cases hb : guardD s.e ao.g with
  | none => exact absurd hb hgd
  | some b =>
    rw [guard_ok hm h4 h3 hb]
    cases b with
    | false => exact hskip hb _ _ (h'.put hm)
    | true =>
      simp only [if_true]
      obtain ⟨ac, out, l, ha, hd, hk⟩ := hdo hb
      refine .inl (op_ok hAg hC hO k1 h3 h2 ha hd ?_)
      cases out with
      | ok x V' T' =>
        intro v w' hgot
        obtain ⟨g', e1, s1, r1, b1⟩ := hgot
        refine hk _ _ ⟨g', h1.trans e1, s1, ?_, by rw [put_size]; exact h4, by cases hd : o.dst <;> simp [Act.put, h5], h6.trans (by rw [← h1.B]; exact b1)⟩
        show EnvOk w' g' T' (a.put o.dst v).tmps (putE s.e ao.d x)
        rw [k2]
        exact (h3.mono e1).put _ (fun d hd => Nat.lt_of_lt_of_le (k3 d hd) h4) r1
      | pan x V' T' =>
        intro v w' hgot
        obtain ⟨g', e1, s1, r1, b1⟩ := hgot
        exact hk _ _ v ⟨g', h1.trans e1, s1, h3.mono e1, h4, h5, h6.trans (by rw [← h1.B]; exact b1), r1⟩

theorem ops_ok (hAg : AgOk P) (hC : CallOk P call) (hO : OrcOk P orc) {Q : Exit → Act → World → Prop} : ∀ (l : List AOper) (k : Nat) (s : St) (a : Act) (w : World) (r : Out × St),
    (∀ (i : Nat) (ao : AOper), l[i]? = some ao → ∃ o, ops[k + i]? = some o ∧ trOper P ops nt o = some ao) → Lay ds nt w0 g0 T0 s a w → runOps orc call l s = some r → QOkX ds nt w0 g0 T0 Q r → wpOps P ops Q (List.range' k l.length) a w
  | [], k, s, a, w, r, hl, h, hr, hq => by
    simp only [runOps, Option.some.injEq] at hr
    subst hr
    simp only [List.length_nil, List.range'_zero, wpOps]
    exact hq a w h
  | ao :: l, k, s, a, w, r, hl, h, hr, hq => by
    obtain ⟨o, hi, hm⟩ := hl 0 ao rfl
    rw [List.length_cons, List.range'_succ, wpOps_cons]
    have hl' : ∀ (i : Nat) (ao : AOper), l[i]? = some ao → ∃ o, ops[k + 1 + i]? = some o ∧ trOper P ops nt o = some ao := fun i ao' h => by
      obtain ⟨o, h1, h2⟩ := hl (i + 1) ao' (by simpa using h)
      exact ⟨o, by rw [← h1]; congr 1; omega, h2⟩
    simp only [runOps] at hr
    refine oper_ok hAg hC hO (by simpa using hi) hm h (fun hb a' w' hL => ?_) (fun hb => by simp [hb] at hr) (fun hb => ?_)
    · rw [hb] at hr
      exact ops_ok hAg hC hO l (k + 1) _ a' w' r hl' hL hr hq
    · rw [hb] at hr
      simp only at hr
      cases ha : act orc s.e ao.op with
      | none => simp [ha] at hr
      | some ac =>
        simp only [ha] at hr
        cases hd : doAc call s.V s.T ac with
        | none => simp [hd] at hr
        | some y =>
          obtain ⟨out, lb⟩ := y
          simp only [hd] at hr
          refine ⟨ac, out, lb, rfl, hd, ?_⟩
          cases out with
          | ok x V' T' =>
            simp only at hr
            exact fun a' w' hL => ops_ok hAg hC hO l (k + 1) _ a' w' r hl' hL hr hq
          | pan x V' T' =>
            simp only [Option.some.injEq] at hr
            subst hr
            exact fun a' w' v hg => hq a' w' v hg

theorem mapO_ops {l : List AOper} (h : mapO (trOper P ops nt) ops.toList = some l) : l.length = ops.size ∧ ∀ (i : Nat) (ao : AOper), l[i]? = some ao → ∃ o, ops[i]? = some o ∧ trOper P ops nt o = some ao := by
  obtain ⟨h1, h2⟩ := mapO_some h
  refine ⟨by simpa using h1.symm, fun i ao hi => ?_⟩
  obtain ⟨hlt, rfl⟩ := List.getElem?_eq_some_iff.1 hi
  have hlt' : i < ops.toList.length := by omega
  refine ⟨ops.toList[i], by simp [hlt'], h2 i hlt' hlt⟩

theorem reg_okX (hAg : AgOk P) (hC : CallOk P call) (hO : OrcOk P orc) {id : Nat} {l : List AOper} (hm : mapO (trOper P ops nt) ops.toList = some l) {Q : Exit → Act → World → Prop} {s : St} {r : Out × St}
    (h : Lay ds nt w0 g0 T0 s a w) (hr : runOps orc call l s = some r) (hq : QOkX ds nt w0 g0 T0 Q r) : (Code.region id ops false).wp P Q a w := by
  obtain ⟨h1, h2⟩ := mapO_ops hm
  refine wp_region ?_
  rw [List.range_eq_range', ← h1]
  exact ops_ok hAg hC hO l 0 s a w r (fun i ao hi => by rw [Nat.zero_add]; exact h2 i ao hi) h hr hq
theorem reg_ok (hAg : AgOk P) (hC : CallOk P call) (hO : OrcOk P orc) {id : Nat} {l : List AOper} (hm : mapO (trOper P ops nt) ops.toList = some l) {Q : Exit → Act → World → Prop} {s : St} {r : Out × St}
    (h : Lay ds nt w0 g0 T0 s a w) (hr : runOps orc call l s = some r) (hq : QOk ds nt w0 g0 T0 Q r) : (Code.region id ops false).wp P Q a w := reg_okX hAg hC hO hm h hr hq.x
end
end Go.Abs

end
section
/- Own framework, part 22: regions whose order is open; no program in sight. -/
set_option linter.unusedVariables false
set_option linter.unusedSimpArgs false
namespace Go.Abs

section
variable {orc : Orc} {call : CallF}

def Agree (e e' : Env) (rs : List Nat) : Prop := ∀ t, t ∈ rs → e t = e' t
theorem Agree.left {e e' : Env} {l r : List Nat} (h : Agree e e' (l ++ r)) : Agree e e' l := fun t ht => h t (List.mem_append.2 (.inl ht))
theorem Agree.right {e e' : Env} {l r : List Nat} (h : Agree e e' (l ++ r)) : Agree e e' r := fun t ht => h t (List.mem_append.2 (.inr ht))

theorem ev_agree {e e' : Env} {x : Opd} (h : Agree e e' x.reads) : ev e x = ev e' x := by
  cases x with
  | t n => exact h n (by simp [Opd.reads])
  | _ => rfl
theorem map_agree {e e' : Env} : ∀ {xs : List Opd}, Agree e e' (xs.flatMap Opd.reads) → xs.map (ev e) = xs.map (ev e')
  | [], _ => rfl
  | x :: xs, h => by
    rw [List.flatMap_cons] at h
    rw [List.map_cons, List.map_cons, ev_agree h.left, map_agree h.right]
theorem fillD_agree {e e' : Env} : ∀ {ps : List Part} {cs : List D}, Agree e e' (ps.flatMap fun p => p.x.reads) → fillD e cs ps = fillD e' cs ps
  | [], _, _ => rfl
  | p :: ps, cs, h => by
    rw [List.flatMap_cons] at h
    simp only [fillD, ev_agree h.left, fillD_agree h.right]
theorem fillP_agree {e e' : Env} : ∀ {ps : List Part} {cs : List P}, Agree e e' (ps.flatMap fun p => p.x.reads) → fillP e cs ps = fillP e' cs ps
  | [], _, _ => rfl
  | p :: ps, cs, h => by
    rw [List.flatMap_cons] at h
    simp only [fillP, ev_agree h.left, fillP_agree h.right]
theorem zeroO_agree {e e' : Env} {x : Option Opd} (h : Agree e e' (optReads x)) : zeroO e x = zeroO e' x := by
  cases x with
  | none => rfl
  | some x => simp only [zeroO, ev_agree (show Agree e e' x.reads from h)]
theorem bnd_agree {e e' : Env} {x : Option Opd} {a b : Nat} (h : Agree e e' (optReads x)) : bnd e x a b = bnd e' x a b := by
  cases x with
  | none => rfl
  | some y => simp only [bnd, ev_agree (x := y) h]

theorem act_agree {e e' : Env} {op : AOp} (h : Agree e e' op.reads) : act orc e op = act orc e' op := by
  cases op with
  | pick a b c => simp only [act, ev_agree (AOp.reads.eq_def (.pick a b c) ▸ h).left, ev_agree (AOp.reads.eq_def (.pick a b c) ▸ h).right.left, ev_agree (AOp.reads.eq_def (.pick a b c) ▸ h).right.right]
  | alloc t z => rfl
  | mks t n z => rfl
  | build z ps => simp only [act, fillD_agree (show Agree e e' (ps.flatMap fun p => p.x.reads) from h)]
  | bsl t n z ps => simp only [act, fillP_agree (show Agree e e' (ps.flatMap fun p => p.x.reads) from h)]
  | mkf f xs => simp only [act, map_agree (show Agree e e' (xs.flatMap Opd.reads) from h)]
  | call f xs => simp only [act, map_agree (show Agree e e' (xs.flatMap Opd.reads) from h)]
  | dyn x xs =>
    have h : Agree e e' (x.reads ++ xs.flatMap Opd.reads) := h
    simp only [act, ev_agree h.left, map_agree h.right]
  | mx xs =>
    have h : Agree e e' (xs.flatMap Opd.reads) := h
    cases xs with
    | nil => rfl
    | cons x xs =>
      rw [List.flatMap_cons] at h
      simp only [act, ev_agree h.left, map_agree h.right]
  | mn xs =>
    have h : Agree e e' (xs.flatMap Opd.reads) := h
    cases xs with
    | nil => rfl
    | cons x xs =>
      rw [List.flatMap_cons] at h
      simp only [act, ev_agree h.left, map_agree h.right]
  | slc k x a b c =>
    have h : Agree e e' (x.reads ++ (optReads a ++ (optReads b ++ optReads c))) := h
    simp only [act, slcD, ev_agree h.left, bnd_agree h.right.left, bnd_agree h.right.right.left, zeroO_agree h.right.left, zeroO_agree h.right.right.left, zeroO_agree h.right.right.right]
  | store n a x => 
    have h : Agree e e' (a.reads ++ x.reads) := h
    simp only [act, ev_agree h.left, ev_agree h.right]
  | bin op k a x => 
    have h : Agree e e' (a.reads ++ x.reads) := h
    simp only [act, ev_agree h.left, ev_agree h.right]
  | iad k a x => 
    have h : Agree e e' (a.reads ++ x.reads) := h
    simp only [act, ev_agree h.left, ev_agree h.right]
  | idx b k a x => 
    have h : Agree e e' (a.reads ++ x.reads) := h
    simp only [act, ev_agree h.left, ev_agree h.right]
  | app t n b s a x => 
    have h : Agree e e' (a.reads ++ x.reads) := h
    simp only [act, ev_agree h.left, ev_agree h.right]
  | mv x => simp only [act, ev_agree (show Agree e e' x.reads from h)]
  | box t n x => simp only [act, ev_agree (show Agree e e' x.reads from h)]
  | load b n x => simp only [act, ev_agree (show Agree e e' x.reads from h)]
  | nilck x => simp only [act, ev_agree (show Agree e e' x.reads from h)]
  | un o x => simp only [act, ev_agree (show Agree e e' x.reads from h)]
  | conv k x => simp only [act, ev_agree (show Agree e e' x.reads from h)]
  | mki t x => simp only [act, ev_agree (show Agree e e' x.reads from h)]
  | fld b n m x => simp only [act, ev_agree (show Agree e e' x.reads from h)]
  | fad n x => simp only [act, ev_agree (show Agree e e' x.reads from h)]
  | ext x i => simp only [act, ev_agree (show Agree e e' x.reads from h)]
  | len k x => simp only [act, ev_agree (show Agree e e' x.reads from h)]
  | panic x => simp only [act, ev_agree (show Agree e e' x.reads from h)]
  | fnil n x => simp only [act, ev_agree (show Agree e e' x.reads from h)]
  | snil n x => simp only [act, ev_agree (show Agree e e' x.reads from h)]
  | inil n x => simp only [act, ev_agree (show Agree e e' x.reads from h)]
  | tas t x => simp only [act, ev_agree (show Agree e e' x.reads from h)]
  | rng x => simp only [act, ev_agree (show Agree e e' x.reads from h)]
  | nxt x => simp only [act, ev_agree (show Agree e e' x.reads from h)]

theorem putE_agree {e : Env} {dst : Option Nat} {x : D} {rs : List Nat} (h : ∀ d, dst = some d → d ∉ rs) : Agree (putE e dst x) e rs := by
  intro t ht
  cases dst with
  | none => rfl
  | some d =>
    have : t ≠ d := fun e => h d rfl (e ▸ ht)
    simp [putE, upd, this]
theorem putE_comm {e : Env} {a b : Option Nat} {x y : D} (h : ∀ d, a = some d → b ≠ some d) : putE (putE e a x) b y = putE (putE e b y) a x := by
  cases a with
  | none => rfl
  | some i =>
    cases b with
    | none => rfl
    | some j =>
      have hne : i ≠ j := fun e => h i rfl (by rw [e])
      funext t
      simp only [putE, upd]
      by_cases h1 : t = i
      · by_cases h2 : t = j
        · omega
        · simp [h1, hne]
      · by_cases h2 : t = j
        · simp [h1, h2]; exact fun e => absurd e.symm hne
        · simp [h1, h2]

theorem apart_spec {x y : AOper} (h : x.apart y = true) : (∀ d, x.d = some d → d ∉ y.reads) ∧ (∀ d, x.d = some d → y.d ≠ some d) ∧ (∀ d, y.d = some d → d ∉ x.reads) := by
  refine ⟨fun d hd => ?_, fun d hd => ?_, fun d hd => ?_⟩ <;> simp [AOper.apart, hd] at h
  · exact h.1.1
  · exact h.1.2
  · exact h.2

theorem guard_agree {e e' : Env} {o : AOper} (h : Agree e e' o.reads) : guardD e o.g = guardD e' o.g := by
  unfold AOper.reads at h
  cases hg : o.g with
  | none => rfl
  | some x =>
    obtain ⟨t, b⟩ := x
    rw [hg] at h
    simp only [guardD, h.right t (by simp)]

/-- What an operation's label says of it. -/
def Spec (call : CallF) (V : List VO) (T : List Nat) (ac : Ac) (x : D) (V' : List VO) (T' : List Nat) : Lab → Prop
  | .q => V' = V ∧ T' = T ∧ ∀ V2 T2, doAc call V2 T2 ac = some (.ok x V2 T2, .q)
  | .rd id => V' = V ∧ T' = T ∧ ∀ (V2 : List VO) T2, V2[id]? = V[id]? → doAc call V2 T2 ac = some (.ok x V2 T2, .rd id)
  | .wr id => ∃ o, V' = V.set id o ∧ T' = T ∧ ∀ (V2 : List VO) T2, V2[id]? = V[id]? → doAc call V2 T2 ac = some (.ok x (V2.set id o) T2, .wr id)
  | .ps id => id = V.length ∧ ∃ o, V' = V ++ [o] ∧ T' = T ∧ ∀ (V2 : List VO) T2, V2.length = V.length → doAc call V2 T2 ac = some (.ok x (V2 ++ [o]) T2, .ps id)
  | .tw id => ∃ k, V' = V ∧ T' = T.set id k ∧ ∀ V2 (T2 : List Nat), T2[id]? = T[id]? → doAc call V2 T2 ac = some (.ok x V2 (T2.set id k), .tw id)
  | .tp id => id = T.length ∧ V' = V ∧ T' = T ++ [0] ∧ ∀ V2 (T2 : List Nat), T2.length = T.length → doAc call V2 T2 ac = some (.ok x V2 (T2 ++ [0]), .tp id)
  | .pan => False
  | .open => True

theorem spec_of {V : List VO} {T : List Nat} {ac : Ac} {x : D} {V' : List VO} {T' : List Nat} {l : Lab} (h : doAc call V T ac = some (.ok x V' T', l)) : Spec call V T ac x V' T' l := by
  cases ac with
  | q d =>
    simp only [doAc, Option.some.injEq, Prod.mk.injEq, Out1.ok.injEq] at h
    obtain ⟨⟨rfl, rfl, rfl⟩, rfl⟩ := h
    exact ⟨rfl, rfl, fun _ _ => rfl⟩
  | rd id f =>
    simp only [doAc] at h
    split at h
    · rename_i o ho
      split at h
      · simp at h
      · rename_i hit
        split at h
        · rename_i d hf
          simp only [Option.some.injEq, Prod.mk.injEq, Out1.ok.injEq] at h
          obtain ⟨⟨rfl, rfl, rfl⟩, rfl⟩ := h
          exact ⟨rfl, rfl, fun V2 T2 h2 => by simp only [doAc, h2, ho, if_neg hit, hf]⟩
        · simp at h
    · simp at h
  | fz id f =>
    simp only [doAc] at h
    split at h
    · rename_i o ho
      split at h
      · simp at h
      · rename_i hit
        split at h
        · rename_i cs hp
          split at h
          · rename_i d hf
            simp only [Option.some.injEq, Prod.mk.injEq, Out1.ok.injEq] at h
            obtain ⟨⟨rfl, rfl, rfl⟩, rfl⟩ := h
            exact ⟨_, rfl, rfl, fun V2 T2 h2 => by simp only [doAc, h2, ho, if_neg hit, hp, hf]⟩
          · simp at h
        · simp at h
    · simp at h
  | wr id f =>
    simp only [doAc] at h
    split at h
    · rename_i o ho
      split at h
      · simp at h
      · rename_i hit
        split at h
        · rename_i cs hf
          simp only [Option.some.injEq, Prod.mk.injEq, Out1.ok.injEq] at h
          obtain ⟨⟨rfl, rfl, rfl⟩, rfl⟩ := h
          exact ⟨_, rfl, rfl, fun V2 T2 h2 => by simp only [doAc, h2, ho, if_neg hit, hf]⟩
        · simp at h
    · simp at h
  | push t it cs =>
    simp only [doAc, Option.some.injEq, Prod.mk.injEq, Out1.ok.injEq] at h
    obtain ⟨⟨rfl, rfl, rfl⟩, rfl⟩ := h
    exact ⟨rfl, _, rfl, rfl, fun V2 T2 h2 => by simp only [doAc, h2]⟩
  | nx id =>
    simp only [doAc] at h
    split at h
    · rename_i o ho
      split at h
      · rename_i s p hit hcs
        split at h
        · rename_i hlt
          simp only [Option.some.injEq, Prod.mk.injEq, Out1.ok.injEq] at h
          obtain ⟨⟨rfl, rfl, rfl⟩, rfl⟩ := h
          exact ⟨_, rfl, rfl, fun V2 T2 h2 => by simp only [doAc, h2, ho, hit, hcs, if_pos hlt]⟩
        · rename_i hlt
          simp only [Option.some.injEq, Prod.mk.injEq, Out1.ok.injEq] at h
          obtain ⟨⟨rfl, rfl, rfl⟩, rfl⟩ := h
          exact ⟨rfl, rfl, fun V2 T2 h2 => by simp only [doAc, h2, ho, hit, hcs, if_neg hlt]⟩
      · simp at h
    · simp at h
  | tw id ver d =>
    simp only [doAc] at h
    split at h
    · rename_i k hk
      split at h
      · rename_i hv
        simp only [Option.some.injEq, Prod.mk.injEq, Out1.ok.injEq] at h
        obtain ⟨⟨rfl, rfl, rfl⟩, rfl⟩ := h
        exact ⟨_, rfl, rfl, fun V2 T2 h2 => by simp only [doAc, h2, hk, if_pos hv]⟩
      · simp at h
    · simp at h
  | tp mk =>
    simp only [doAc, Option.some.injEq, Prod.mk.injEq, Out1.ok.injEq] at h
    obtain ⟨⟨rfl, rfl, rfl⟩, rfl⟩ := h
    exact ⟨rfl, rfl, rfl, fun V2 T2 h2 => by simp only [doAc, h2]⟩
  | pan d =>
    simp only [doAc] at h
    split at h <;> simp at h
  | call f args =>
    simp only [doAc] at h
    split at h
    · rename_i hcl
      split at h
      · rename_i d V1 T1 hc
        split at h
        · rename_i hcd
          simp only [Option.some.injEq, Prod.mk.injEq, Out1.ok.injEq] at h
          obtain ⟨⟨rfl, rfl, rfl⟩, rfl⟩ := h
          exact ⟨rfl, rfl, fun V2 T2 => by simp only [doAc, if_pos hcl, hc, if_pos hcd]⟩
        · simp only [Option.some.injEq, Prod.mk.injEq] at h
          obtain ⟨_, rfl⟩ := h
          exact trivial
      · split at h <;> simp at h
      · simp at h
    · split at h
      · split at h
        · simp only [Option.some.injEq, Prod.mk.injEq] at h
          obtain ⟨_, rfl⟩ := h
          exact trivial
        · simp at h
      · simp at h
end
end Go.Abs

end
section
/- Own framework, part 23: two operations that do not meet may change places. -/
set_option linter.unusedVariables false
set_option linter.unusedSimpArgs false
namespace Go.Abs

section
variable {orc : Orc} {call : CallF}

theorem app_left {α : Type} {l : List α} {x : α} {i : Nat} (h : i < l.length) : (l ++ [x])[i]? = l[i]? := List.getElem?_append_left h
theorem set_other {α : Type} {l : List α} {x : α} {i j : Nat} (h : i ≠ j) : (l.set i x)[j]? = l[j]? := List.getElem?_set_ne h
theorem set_app {α : Type} {l : List α} {x y : α} {i : Nat} (h : i < l.length) : (l ++ [y]).set i x = l.set i x ++ [y] := List.set_append_left i x h

theorem doAc_comm {V V1 V2 : List VO} {T T1 T2 : List Nat} {ai aj : Ac} {x y : D} {la lb : Lab} (h1 : doAc call V T ai = some (.ok x V1 T1, la)) (h2 : doAc call V1 T1 aj = some (.ok y V2 T2, lb)) (hc : conf la lb = true) :
    ∃ V1' T1', doAc call V T aj = some (.ok y V1' T1', lb) ∧ doAc call V1' T1' ai = some (.ok x V2 T2, la) := by
  have si := spec_of h1
  have sj := spec_of h2
  cases la with
  | pan => exact si.elim
  | q =>
    obtain ⟨rfl, rfl, hi⟩ := si
    exact ⟨V2, T2, h2, hi _ _⟩
  | «open» =>
    cases lb with
    | q =>
      obtain ⟨rfl, rfl, hj⟩ := sj
      exact ⟨V, T, hj _ _, h1⟩
    | _ => simp [conf] at hc
  | rd i =>
    obtain ⟨rfl, rfl, hi⟩ := si
    cases lb with
    | q => obtain ⟨rfl, rfl, hj⟩ := sj; exact ⟨_, _, hj _ _, h1⟩
    | rd j => obtain ⟨rfl, rfl, hj⟩ := sj; exact ⟨_, _, h2, h1⟩
    | wr j =>
      simp only [conf, bne_iff_ne, ne_eq] at hc
      obtain ⟨o, rfl, rfl, hj⟩ := sj
      exact ⟨_, _, h2, hi _ _ (set_other (Ne.symm hc))⟩
    | ps j =>
      simp only [conf, decide_eq_true_eq] at hc
      obtain ⟨rfl, o, rfl, rfl, hj⟩ := sj
      exact ⟨_, _, h2, hi _ _ (app_left hc)⟩
    | tw j => obtain ⟨k, rfl, rfl, hj⟩ := sj; exact ⟨_, _, h2, hi _ _ rfl⟩
    | tp j => obtain ⟨rfl, rfl, rfl, hj⟩ := sj; exact ⟨_, _, h2, hi _ _ rfl⟩
    | pan => exact sj.elim
    | «open» => simp [conf] at hc
  | wr i =>
    obtain ⟨oi, rfl, rfl, hi⟩ := si
    cases lb with
    | q => obtain ⟨rfl, rfl, hj⟩ := sj; exact ⟨_, _, hj _ _, h1⟩
    | rd j =>
      simp only [conf, bne_iff_ne, ne_eq] at hc
      obtain ⟨rfl, rfl, hj⟩ := sj
      exact ⟨_, _, hj _ _ (set_other (Ne.symm hc)).symm, h1⟩
    | wr j =>
      simp only [conf, bne_iff_ne, ne_eq] at hc
      obtain ⟨o, rfl, rfl, hj⟩ := sj
      refine ⟨_, _, hj V _ (set_other hc).symm, ?_⟩
      rw [hi _ _ (set_other (Ne.symm hc)), List.set_comm _ _ (Ne.symm hc)]
    | ps j =>
      simp only [conf, decide_eq_true_eq] at hc
      obtain ⟨rfl, o, rfl, rfl, hj⟩ := sj
      rw [List.length_set] at hc
      refine ⟨_, _, hj V _ (by simp), ?_⟩
      rw [hi _ _ (app_left hc), set_app hc]
    | tw j => obtain ⟨k, rfl, rfl, hj⟩ := sj; exact ⟨_, _, hj _ _ rfl, hi _ _ rfl⟩
    | tp j => obtain ⟨rfl, rfl, rfl, hj⟩ := sj; exact ⟨_, _, hj _ _ rfl, hi _ _ rfl⟩
    | pan => exact sj.elim
    | «open» => simp [conf] at hc
  | ps i =>
    obtain ⟨rfl, oi, rfl, rfl, hi⟩ := si
    cases lb with
    | q => obtain ⟨rfl, rfl, hj⟩ := sj; exact ⟨_, _, hj _ _, h1⟩
    | rd j =>
      simp only [conf, decide_eq_true_eq] at hc
      obtain ⟨rfl, rfl, hj⟩ := sj
      exact ⟨_, _, hj _ _ (app_left hc).symm, h1⟩
    | wr j =>
      simp only [conf, decide_eq_true_eq] at hc
      obtain ⟨o, rfl, rfl, hj⟩ := sj
      refine ⟨_, _, hj V _ (app_left hc).symm, ?_⟩
      rw [hi (V.set j o) _ (by simp), set_app hc]
    | ps j => simp [conf] at hc
    | tw j => obtain ⟨k, rfl, rfl, hj⟩ := sj; exact ⟨_, _, hj _ _ rfl, hi _ _ rfl⟩
    | tp j => obtain ⟨rfl, rfl, rfl, hj⟩ := sj; exact ⟨_, _, hj _ _ rfl, hi _ _ rfl⟩
    | pan => exact sj.elim
    | «open» => simp [conf] at hc
  | tw i =>
    obtain ⟨k, rfl, rfl, hi⟩ := si
    cases lb with
    | q => obtain ⟨rfl, rfl, hj⟩ := sj; exact ⟨_, _, hj _ _, h1⟩
    | rd j => obtain ⟨rfl, rfl, hj⟩ := sj; exact ⟨_, _, hj _ _ rfl, hi _ _ rfl⟩
    | wr j => obtain ⟨o, rfl, rfl, hj⟩ := sj; exact ⟨_, _, hj _ _ rfl, hi _ _ rfl⟩
    | ps j => obtain ⟨rfl, o, rfl, rfl, hj⟩ := sj; exact ⟨_, _, hj _ _ rfl, hi _ _ rfl⟩
    | tw j =>
      simp only [conf, bne_iff_ne, ne_eq] at hc
      obtain ⟨k2, rfl, rfl, hj⟩ := sj
      refine ⟨_, _, hj _ T (set_other hc).symm, ?_⟩
      rw [hi _ _ (set_other (Ne.symm hc)), List.set_comm _ _ (Ne.symm hc)]
    | tp j =>
      simp only [conf, decide_eq_true_eq] at hc
      obtain ⟨rfl, rfl, rfl, hj⟩ := sj
      rw [List.length_set] at hc
      refine ⟨_, _, hj V2 T (by simp), ?_⟩
      rw [hi _ _ (app_left hc), set_app hc]
    | pan => exact sj.elim
    | «open» => simp [conf] at hc
  | tp i =>
    obtain ⟨rfl, rfl, rfl, hi⟩ := si
    cases lb with
    | q => obtain ⟨rfl, rfl, hj⟩ := sj; exact ⟨_, _, hj _ _, h1⟩
    | rd j => obtain ⟨rfl, rfl, hj⟩ := sj; exact ⟨_, _, hj _ _ rfl, hi _ _ rfl⟩
    | wr j => obtain ⟨o, rfl, rfl, hj⟩ := sj; exact ⟨_, _, hj _ _ rfl, hi _ _ rfl⟩
    | ps j => obtain ⟨rfl, o, rfl, rfl, hj⟩ := sj; exact ⟨_, _, hj _ _ rfl, hi _ _ rfl⟩
    | tw j =>
      simp only [conf, decide_eq_true_eq] at hc
      obtain ⟨k, rfl, rfl, hj⟩ := sj
      refine ⟨_, _, hj _ T (app_left hc).symm, ?_⟩
      rw [hi V2 (T.set j k) (by simp), set_app hc]
    | tp j => simp [conf] at hc
    | pan => exact sj.elim
    | «open» => simp [conf] at hc

/-- What a step is: the value that it leaves; and that it is one step of memory. -/
theorem stepO_spec {o : AOper} {s s1 : St} {l : Lab} (hs : stepO orc call o s = some (l, s1)) :
    (∃ x, s1 = ⟨putE s.e o.d x, s1.V, s1.T⟩ ∧ ∃ ac, doAc call s.V s.T ac = some (.ok x s1.V s1.T, l) ∧
      ∀ e' V2 T2 V3 T3, Agree s.e e' o.reads → doAc call V2 T2 ac = some (.ok x V3 T3, l) → stepO orc call o ⟨e', V2, T2⟩ = some (l, ⟨putE e' o.d x, V3, T3⟩)) := by
  unfold stepO at hs
  cases hg : guardD s.e o.g with
  | none => simp [hg] at hs
  | some b =>
    rw [hg] at hs
    cases b with
    | false =>
      simp only [Option.some.injEq, Prod.mk.injEq] at hs
      obtain ⟨rfl, rfl⟩ := hs
      refine ⟨und, rfl, .q und, rfl, fun e' V2 T2 V3 T3 h hd => ?_⟩
      simp only [doAc, Option.some.injEq, Prod.mk.injEq, Out1.ok.injEq, true_and, and_true] at hd
      obtain ⟨rfl, rfl⟩ := hd
      unfold stepO
      rw [← guard_agree h, hg]
    | true =>
      simp only at hs
      cases ha : act orc s.e o.op with
      | none => simp [ha] at hs
      | some a =>
        simp only [ha] at hs
        split at hs
        · rename_i x V1 T1 l1 hd
          simp only [Option.some.injEq, Prod.mk.injEq] at hs
          obtain ⟨rfl, rfl⟩ := hs
          refine ⟨x, rfl, a, hd, fun e' V2 T2 V3 T3 h hd2 => ?_⟩
          unfold stepO
          simp only
          rw [← guard_agree h, hg, ← act_agree (e := s.e) (e' := e') h.left, ha]
          simp only [hd2]
        · simp at hs

theorem stepO_comm {oi oj : AOper} {s s1 s2 : St} {la lb : Lab} (hap : oi.apart oj = true) (h1 : stepO orc call oi s = some (la, s1)) (h2 : stepO orc call oj s1 = some (lb, s2)) (hc : conf la lb = true) :
    ∃ s1', stepO orc call oj s = some (lb, s1') ∧ stepO orc call oi s1' = some (la, s2) := by
  obtain ⟨k1, k2, k3⟩ := apart_spec hap
  obtain ⟨x, e1, ai, d1, f1⟩ := stepO_spec h1
  obtain ⟨y, e2, aj, d2, f2⟩ := stepO_spec h2
  obtain ⟨V1, T1, d3, d4⟩ := doAc_comm d1 d2 hc
  have hs1 : s1.e = putE s.e oi.d x := by rw [e1]
  have hs2 : s2.e = putE s1.e oj.d y := by rw [e2]
  refine ⟨⟨putE s.e oj.d y, V1, T1⟩, f2 s.e s.V s.T V1 T1 ?_ d3, ?_⟩
  · rw [hs1]; exact putE_agree k1
  · rw [f1 (putE s.e oj.d y) V1 T1 s2.V s2.T (fun t ht => (putE_agree k3 t ht).symm) d4]
    have : putE (putE s.e oj.d y) oi.d x = s2.e := by rw [hs2, hs1, putE_comm k2]
    rw [this]
end

/-! ### every order -/
section
variable {orc : Orc} {call : CallF} {ops : Array Oper} {al : List AOper} {L : List Lab} {fin : St} {md : Region.Mode}

def anyA (orc : Orc) (call : CallF) (md : Region.Mode) (ops : Array Oper) (al : List AOper) (L : List Lab) (fin : St) : Nat → Array Bool → St → Prop
  | 0, listed, s => Region.ready md ops listed = [] ∧ s = fin
  | fuel + 1, listed, s => (Region.ready md ops listed = [] → s = fin) ∧
    ∀ i ∈ Region.ready md ops listed, ∃ o l s1, al[i]? = some o ∧ L[i]? = some l ∧ stepO orc call o s = some (l, s1) ∧ anyA orc call md ops al L fin fuel (listed.setIfInBounds i true) s1

theorem any_first {i : Nat} {oi : AOper} {la : Lab} (hi : al[i]? = some oi) (hL : L[i]? = some la) : ∀ (fuel : Nat) (listed : Array Bool) (s s1 : St),
    (∀ (j : Nat) (o : Oper) (oj : AOper) (lj : Lab), ops[j]? = some o → al[j]? = some oj → L[j]? = some lj → j ≠ i → listed.getD j true = false → (∀ e ∈ o.after, Region.binds md e = true → e.on ≠ i) → oi.apart oj = true ∧ conf la lj = true) →
    i ∈ Region.ready md ops listed → stepO orc call oi s = some (la, s1) → anyA orc call md ops al L fin fuel (listed.setIfInBounds i true) s1 → anyA orc call md ops al L fin (fuel + 1) listed s := by
  intro fuel
  induction fuel with
  | zero =>
    intro listed s s1 _ hr hy H
    refine ⟨fun h => (by rw [h] at hr; cases hr), fun j hj => ?_⟩
    by_cases hji : j = i
    · subst hji; exact ⟨oi, la, s1, hi, hL, hy, H⟩
    · have := ready_mono hj hji
      rw [H.1] at this
      cases this
  | succ fuel ih =>
    intro listed s s1 hfree hr hy H
    refine ⟨fun h => (by rw [h] at hr; cases hr), fun j hj => ?_⟩
    by_cases hji : j = i
    · subst hji; exact ⟨oi, la, s1, hi, hL, hy, H⟩
    · obtain ⟨oj, lj, s2, g1, g2, g3, g4⟩ := H.2 j (ready_mono hj hji)
      obtain ⟨hjun, o, ho, hall⟩ := mem_ready.1 hj
      have hnot : ∀ e ∈ o.after, Region.binds md e = true → e.on ≠ i := fun e he hb heq => by
        have h1 := hall e he hb
        have h0 := (mem_ready.1 hr).1
        rw [heq] at h1
        rcases Nat.lt_or_ge i listed.size with h' | h'
        · simp [h'] at h0 h1; rw [h0] at h1; cases h1
        · simp [Array.getElem?_eq_none h'] at h1
      obtain ⟨hap, hcf⟩ := hfree j o oj lj ho g1 g2 hji hjun hnot
      obtain ⟨s1', c1, c2⟩ := stepO_comm hap hy g3 hcf
      refine ⟨oj, lj, s1', g1, g2, c1, ih _ s1' s2 (fun k o' ok lk hk1 hk2 hk3 hki hun hno => hfree k o' ok lk hk1 hk2 hk3 hki ?_ hno) (ready_mono hr (Ne.symm hji)) c2 ?_⟩
      · by_cases hjk : j = k
        · subst hjk; exact hjun
        · rw [getD_set_ne true hjk] at hun; exact hun
      · rw [Array.setIfInBounds_comm _ _ hji]
        exact g4

theorem any_lex (hsz : al.length = ops.size) (hback : ∀ (j : Nat) (o : Oper), ops[j]? = some o → ∀ e ∈ o.after, Region.binds md e = true → e.on < j)
    (hfree : ∀ (k j : Nat) (o : Oper) (ok oj : AOper) (lk lj : Lab), k < j → ops[j]? = some o → al[k]? = some ok → al[j]? = some oj → L[k]? = some lk → L[j]? = some lj → (∀ e ∈ o.after, Region.binds md e = true → e.on ≠ k) → ok.apart oj = true ∧ conf lk lj = true) :
    ∀ (r : List AOper) (k : Nat) (listed : Array Bool) (s : St) (ls : List Lab), k + r.length = ops.size → (∀ j, r[j]? = al[k + j]?) → (∀ j, ls[j]? = L[k + j]?) → listed.size = ops.size → (∀ j, j < ops.size → listed.getD j true = decide (j < k)) →
    runDrw orc call r s = some (ls, fin) → anyA orc call md ops al L fin r.length listed s
  | [], k, listed, s, ls, hk, hr, hls, hl, hlk, h => by
    simp only [runDrw, Option.some.injEq, Prod.mk.injEq] at h
    refine ⟨?_, h.2⟩
    rw [List.eq_nil_iff_forall_not_mem]
    intro j hj
    obtain ⟨h0, o, ho, _⟩ := mem_ready.1 hj
    have hlt : j < ops.size := (Array.getElem?_eq_some_iff.1 ho).1
    rw [hlk j hlt] at h0
    simp at h0 hk
    omega
  | o :: r, k, listed, s, ls, hk, hr, hls, hl, hlk, h => by
    simp only [List.length_cons] at hk
    simp only [runDrw] at h
    cases hs : stepO orc call o s with
    | none => simp [hs] at h
    | some y =>
      obtain ⟨l, s1⟩ := y
      simp only [hs] at h
      cases hd : runDrw orc call r s1 with
      | none => simp [hd] at h
      | some z =>
        obtain ⟨ls', s2⟩ := z
        simp only [hd, Option.some.injEq, Prod.mk.injEq] at h
        obtain ⟨rfl, h2⟩ := h
        rw [h2] at hd
        have h0 : al[k]? = some o := by have := hr 0; simpa using this.symm
        have hL0 : L[k]? = some l := by have := hls 0; simpa using this.symm
        have hlt : k < ops.size := by omega
        obtain ⟨oo, hoo⟩ : ∃ oo, ops[k]? = some oo := ⟨_, Array.getElem?_eq_getElem hlt⟩
        have hget : ∀ j, j < ops.size → listed.getD j false = listed.getD j true := fun j hj => by
          simp [Array.getD_eq_getD_getElem?, Array.getElem?_eq_getElem (show j < listed.size by omega)]
        refine any_first h0 hL0 r.length listed s s1 (fun j o' oj lj hj1 hj2 hj3 hne hun hno => ?_) ?_ hs
          (any_lex hsz hback hfree r (k + 1) _ s1 ls' (by omega) (fun j => by have := hr (j + 1); simpa [Nat.add_assoc, Nat.add_comm 1 j] using this) (fun j => by have := hls (j + 1); simpa [Nat.add_assoc, Nat.add_comm 1 j] using this) (by simpa using hl) (fun j hj => ?_) hd)
        · have hj : j < ops.size := (Array.getElem?_eq_some_iff.1 hj1).1
          rw [hlk j hj] at hun
          simp only [decide_eq_false_iff_not] at hun
          exact hfree k j o' o oj l lj (by omega) hj1 h0 hj2 hL0 hj3 hno
        · refine mem_ready.2 ⟨by rw [hlk k hlt]; simp, oo, hoo, fun e he hb => ?_⟩
          have := hback k oo hoo e he hb
          rw [hget _ (by omega), hlk _ (by omega)]
          simpa using this
        · by_cases hjk : k = j
          · subst hjk
            have : k < listed.size := by omega
            simp [Array.getD_eq_getD_getElem?, this]
          · rw [getD_set_ne true hjk, hlk j hj]
            simp only [decide_eq_decide]
            omega
end

/-! ### every order, up to a panic -/
section
variable {orc : Orc} {call : CallF} {ops : Array Oper} {al : List AOper} {L : List (Option Lab)} {fin : St} {md : Region.Mode} {j0 : Nat} {d : D}

theorem doAc_pan {V V1 : List VO} {T T1 : List Nat} {a : Ac} {l : Lab} (h : doAc call V T a = some (.pan d V1 T1, l)) (V2 : List VO) (T2 : List Nat) : ∃ V3 T3 l3, doAc call V2 T2 a = some (.pan d V3 T3, l3) := by
  cases a with
  | pan x =>
    simp only [doAc] at h ⊢
    split at h
    · rename_i hc
      simp only [Option.some.injEq, Prod.mk.injEq, Out1.pan.injEq] at h
      obtain ⟨⟨rfl, _⟩, _⟩ := h
      rw [if_pos hc]
      exact ⟨_, _, _, rfl⟩
    · simp at h
  | call f args =>
    simp only [doAc] at h ⊢
    split at h
    · rename_i hc
      rw [if_pos hc]
      split at h
      · split at h <;> simp at h
      · rename_i x V3 T3 hcl
        split at h
        · rename_i hcd
          simp only [Option.some.injEq, Prod.mk.injEq, Out1.pan.injEq] at h
          obtain ⟨⟨rfl, _⟩, _⟩ := h
          rw [if_pos hcd]
          exact ⟨_, _, _, rfl⟩
        · simp at h
      · simp at h
    · split at h
      · split at h <;> simp at h
      · simp at h
  | _ =>
    exfalso
    simp only [doAc] at h
    repeat' split at h
    all_goals simp at h

theorem panO_agree {o : AOper} {s : St} {e' : Env} (V2 : List VO) (T2 : List Nat) (hp : panO orc call o s = some d) (h : Agree s.e e' o.reads) : panO orc call o ⟨e', V2, T2⟩ = some d := by
  unfold panO at hp ⊢
  rw [show guardD (⟨e', V2, T2⟩ : St).e o.g = guardD s.e o.g from (guard_agree h).symm]
  split at hp
  · rename_i hg
    simp only [hg]
    rw [← act_agree (e := s.e) (e' := e') h.left]
    cases ha : act orc s.e o.op with
    | none => rw [ha] at hp; simp at hp
    | some a =>
      rw [ha] at hp
      simp only [] at hp ⊢
      split at hp
      · rename_i x V1 T1 l1 hd
        simp only [Option.some.injEq] at hp
        subst hp
        obtain ⟨V3, T3, l3, h3⟩ := doAc_pan hd V2 T2
        rw [h3]
      · simp at hp
  · simp at hp

def anyP (orc : Orc) (call : CallF) (md : Region.Mode) (ops : Array Oper) (al : List AOper) (L : List (Option Lab)) (j0 : Nat) (d : D) : Nat → Array Bool → St → Prop
  | 0, _, _ => False
  | fuel + 1, listed, s => Region.ready md ops listed ≠ [] ∧ ∀ i ∈ Region.ready md ops listed, (i = j0 ∧ ∃ o, al[i]? = some o ∧ panO orc call o s = some d) ∨
      (∃ o l s1, al[i]? = some o ∧ L[i]? = some (some l) ∧ stepO orc call o s = some (l, s1) ∧ anyP orc call md ops al L j0 d fuel (listed.setIfInBounds i true) s1)

theorem anyP_succ : ∀ (fuel : Nat) (listed : Array Bool) (s : St), anyP orc call md ops al L j0 d fuel listed s → anyP orc call md ops al L j0 d (fuel + 1) listed s
  | 0, _, _, h => h.elim
  | fuel + 1, listed, s, h => ⟨h.1, fun i hi => (h.2 i hi).imp id fun ⟨o, l, s1, h1, h2, h3, h4⟩ => ⟨o, l, s1, h1, h2, h3, anyP_succ fuel _ _ h4⟩⟩

theorem any_firstP {i : Nat} {oi : AOper} {la : Lab} (hi : al[i]? = some oi) (hL : L[i]? = some (some la)) : ∀ (fuel : Nat) (listed : Array Bool) (s s1 : St),
    (∀ (j : Nat) (o : Oper) (oj : AOper) (lj : Lab), ops[j]? = some o → al[j]? = some oj → L[j]? = some (some lj) → j ≠ i → listed.getD j true = false → (∀ e ∈ o.after, Region.binds md e = true → e.on ≠ i) → oi.apart oj = true ∧ conf la lj = true) →
    (∀ (o : Oper) (oj : AOper), ops[j0]? = some o → al[j0]? = some oj → (∀ e ∈ o.after, Region.binds md e = true → e.on ≠ i) → ∀ t, oi.d = some t → t ∉ oj.reads) →
    i ∈ Region.ready md ops listed → stepO orc call oi s = some (la, s1) → anyP orc call md ops al L j0 d fuel (listed.setIfInBounds i true) s1 → anyP orc call md ops al L j0 d (fuel + 1) listed s := by
  intro fuel
  induction fuel with
  | zero => intro listed s s1 _ _ _ _ H; exact H.elim
  | succ fuel ih =>
    intro listed s s1 hfree hj0 hr hy H
    refine ⟨fun h => (by rw [h] at hr; cases hr), fun j hj => ?_⟩
    by_cases hji : j = i
    · subst hji; exact .inr ⟨oi, la, s1, hi, hL, hy, H⟩
    · obtain ⟨hjun, o, ho, hall⟩ := mem_ready.1 hj
      have hnot : ∀ e ∈ o.after, Region.binds md e = true → e.on ≠ i := fun e he hb heq => by
        have h1 := hall e he hb
        have h0 := (mem_ready.1 hr).1
        rw [heq] at h1
        rcases Nat.lt_or_ge i listed.size with h' | h'
        · simp [h'] at h0 h1; rw [h0] at h1; cases h1
        · simp [Array.getElem?_eq_none h'] at h1
      rcases H.2 j (ready_mono hj hji) with ⟨rfl, oj, g1, g2⟩ | ⟨oj, lj, s2, g1, g2, g3, g4⟩
      · refine .inl ⟨rfl, oj, g1, ?_⟩
        obtain ⟨x, e1, _⟩ := stepO_spec hy
        have hs1 : s1.e = putE s.e oi.d x := by rw [e1]
        exact panO_agree (e' := s.e) s.V s.T g2 (by rw [hs1]; exact putE_agree (hj0 o oj ho g1 hnot))
      · obtain ⟨hap, hcf⟩ := hfree j o oj lj ho g1 g2 hji hjun hnot
        obtain ⟨s1', c1, c2⟩ := stepO_comm hap hy g3 hcf
        refine .inr ⟨oj, lj, s1', g1, g2, c1, ih _ s1' s2 (fun k o' ok lk hk1 hk2 hk3 hki hun hno => hfree k o' ok lk hk1 hk2 hk3 hki ?_ hno) hj0 (ready_mono hr (Ne.symm hji)) c2 ?_⟩
        · by_cases hjk : j = k
          · subst hjk; exact hjun
          · rw [getD_set_ne true hjk] at hun; exact hun
        · rw [Array.setIfInBounds_comm _ _ hji]
          exact g4

/-- The run past what waits. -/
def RunW (orc : Orc) (call : CallF) : List AOper → List (Option Lab) → St → St → Prop
  | [], [], s, f => s = f
  | _ :: r, none :: ls, s, f => RunW orc call r ls s f
  | o :: r, some l :: ls, s, f => ∃ s1, stepO orc call o s = some (l, s1) ∧ RunW orc call r ls s1 f
  | _, _, _, _ => False

theorem runPanW_spec {ps : List (Nat × Nat)} : ∀ (r : List AOper) (i : Nat) (bl : List Nat) (s f : St) (ls : List (Option Lab)), runPanW orc call ps j0 i r bl s = some (ls, f) →
    RunW orc call r ls s f ∧ ls.length = r.length ∧ (∀ m, ls[m]? = some none → i + m = j0 ∨ ∃ k, (k ∈ bl ∨ ∃ q, q < m ∧ k = i + q ∧ ls[q]? = some none) ∧ ps.contains (k, i + m) = false) ∧
      (∀ m l, ls[m]? = some (some l) → i + m ≠ j0 ∧ (∀ k, k ∈ bl → ps.contains (k, i + m) = true) ∧ ∀ q, q < m → ls[q]? = some none → ps.contains (i + q, i + m) = true)
  | [], i, bl, s, f, ls, h => by
    simp only [runPanW, Option.some.injEq, Prod.mk.injEq] at h
    obtain ⟨rfl, rfl⟩ := h
    exact ⟨rfl, rfl, fun m h => by simp at h, fun m l h => by simp at h⟩
  | o :: r, i, bl, s, f, ls, h => by
    unfold runPanW at h
    split at h
    · rename_i hc
      cases hw : runPanW orc call ps j0 (i + 1) r (i :: bl) s with
      | none => rw [hw] at h; simp at h
      | some x =>
        obtain ⟨ls', f'⟩ := x
        rw [hw] at h
        simp only [Option.some.injEq, Prod.mk.injEq] at h
        obtain ⟨rfl, rfl⟩ := h
        obtain ⟨h1, h2, h3, h4⟩ := runPanW_spec r (i + 1) (i :: bl) s f' ls' hw
        refine ⟨h1, by simp [h2], fun m hm => ?_, fun m l hm => ?_⟩
        · cases m with
          | zero =>
            rcases hc with hc | hc
            · exact .inl hc
            · unfold blk at hc
              rw [List.any_eq_true] at hc
              obtain ⟨k, hk, hk2⟩ := hc
              exact .inr ⟨k, .inl hk, by simpa using hk2⟩
          | succ m =>
            rcases h3 m (by simpa using hm) with h5 | ⟨k, h5, h6⟩
            · exact .inl (by omega)
            · refine .inr ⟨k, ?_, by rw [← h6]; congr 2; omega⟩
              rcases h5 with h5 | ⟨q, h7, h8, h9⟩
              · rcases List.mem_cons.1 h5 with rfl | h5
                · exact .inr ⟨0, by omega, rfl, rfl⟩
                · exact .inl h5
              · exact .inr ⟨q + 1, by omega, by omega, by simpa using h9⟩
        · cases m with
          | zero => simp at hm
          | succ m =>
            obtain ⟨h5, h6, h7⟩ := h4 m l (by simpa using hm)
            have e : i + (m + 1) = i + 1 + m := by omega
            rw [e]
            refine ⟨h5, fun k hk => h6 k (List.mem_cons_of_mem _ hk), fun q hq hn => ?_⟩
            cases q with
            | zero => exact h6 i (List.mem_cons_self)
            | succ q =>
              have := h7 q (by omega) (by simpa using hn)
              rw [← this]; congr 2; omega
    · rename_i hc
      cases hs : stepO orc call o s with
      | none => rw [hs] at h; simp at h
      | some y =>
        obtain ⟨l0, s1⟩ := y
        rw [hs] at h
        simp only [] at h
        cases hw : runPanW orc call ps j0 (i + 1) r bl s1 with
        | none => rw [hw] at h; simp at h
        | some x =>
          obtain ⟨ls', f'⟩ := x
          rw [hw] at h
          simp only [Option.some.injEq, Prod.mk.injEq] at h
          obtain ⟨rfl, rfl⟩ := h
          obtain ⟨h1, h2, h3, h4⟩ := runPanW_spec r (i + 1) bl s1 f' ls' hw
          refine ⟨⟨s1, hs, h1⟩, by simp [h2], fun m hm => ?_, fun m l hm => ?_⟩
          · cases m with
            | zero => simp at hm
            | succ m =>
              rcases h3 m (by simpa using hm) with h5 | ⟨k, h5, h6⟩
              · exact .inl (by omega)
              · refine .inr ⟨k, ?_, by rw [← h6]; congr 2; omega⟩
                rcases h5 with h5 | ⟨q, h7, h8, h9⟩
                · exact .inl h5
                · exact .inr ⟨q + 1, by omega, by omega, by simpa using h9⟩
          · cases m with
            | zero =>
              refine ⟨fun e => hc (.inl e), fun k hk => ?_, fun q hq _ => absurd hq (Nat.not_lt_zero q)⟩
              cases hcc : ps.contains (k, i + 0) with
              | true => rfl
              | false => exact absurd (.inr (by unfold blk; rw [List.any_eq_true]; exact ⟨k, hk, by simpa using hcc⟩)) hc
            | succ m =>
              obtain ⟨h5, h6, h7⟩ := h4 m l (by simpa using hm)
              have e : i + (m + 1) = i + 1 + m := by omega
              rw [e]
              refine ⟨h5, h6, fun q hq hn => ?_⟩
              cases q with
              | zero => simp at hn
              | succ q =>
                have := h7 q (by omega) (by simpa using hn)
                rw [← this]; congr 2; omega

theorem any_lexP (hsz : al.length = ops.size) (hLz : L.length = ops.size) (hback : ∀ (j : Nat) (o : Oper), ops[j]? = some o → ∀ e ∈ o.after, Region.binds md e = true → e.on < j)
    (hfree : ∀ (k j : Nat) (o : Oper) (ok oj : AOper) (lk lj : Lab), k < j → ops[j]? = some o → al[k]? = some ok → al[j]? = some oj → L[k]? = some (some lk) → L[j]? = some (some lj) → (∀ e ∈ o.after, Region.binds md e = true → e.on ≠ k) → ok.apart oj = true ∧ conf lk lj = true)
    (hj0 : ∀ (k : Nat) (l : Lab) (o : Oper) (ok oj : AOper), al[k]? = some ok → L[k]? = some (some l) → ops[j0]? = some o → al[j0]? = some oj → (∀ e ∈ o.after, Region.binds md e = true → e.on ≠ k) → ∀ t, ok.d = some t → t ∉ oj.reads)
    (hblk : ∀ (j : Nat) (o : Oper), ops[j]? = some o → L[j]? = some none → j ≠ j0 → ∃ e ∈ o.after, Region.binds md e = true ∧ L[e.on]? = some none)
    (hun : ∀ (j : Nat) (l : Lab), L[j]? = some (some l) → ∀ o, ops[j]? = some o → ∀ e ∈ o.after, Region.binds md e = true → ∃ l, L[e.on]? = some (some l)) (hj0L : L[j0]? = some none) (hpre : ∀ o, ops[j0]? = some o → ∀ e ∈ o.after, Region.binds md e = true → ∃ l, L[e.on]? = some (some l))
    (hfin : ∃ o, al[j0]? = some o ∧ panO orc call o fin = some d) :
    ∀ (r : List AOper) (k : Nat) (listed : Array Bool) (s : St) (ls : List (Option Lab)), k + r.length = ops.size → (∀ j, r[j]? = al[k + j]?) → (∀ j, ls[j]? = L[k + j]?) → listed.size = ops.size →
      (∀ j, j < ops.size → listed.getD j true = (decide (j < k) && (L[j]?).any Option.isSome)) → RunW orc call r ls s fin → anyP orc call md ops al L j0 d (r.length + if j0 < k then 1 else 0) listed s
  | [], k, listed, s, ls, hk, hr, hls, hl, hlk, h => by
    have hs : s = fin := by
      cases ls with
      | nil => exact h
      | cons x ls => exact h.elim
    subst hs
    have hj0s : j0 < ops.size := by rw [← hLz]; exact (List.getElem?_eq_some_iff.1 hj0L).1
    have hk' : k = ops.size := by simpa using hk
    have hget : ∀ j, j < ops.size → listed.getD j false = listed.getD j true := fun j hj => by
      simp [Array.getD_eq_getD_getElem?, Array.getElem?_eq_getElem (show j < listed.size by omega)]
    rw [if_pos (by omega)]
    refine ⟨fun hnil => ?_, fun i hi => ?_⟩
    · obtain ⟨o, ho⟩ : ∃ o, ops[j0]? = some o := ⟨_, Array.getElem?_eq_getElem hj0s⟩
      have : j0 ∈ Region.ready md ops listed := mem_ready.2 ⟨by rw [hlk j0 hj0s, hj0L]; simp, o, ho, fun e he hb => by
        have h1 := hback j0 o ho e he hb
        obtain ⟨l, h2⟩ := hpre o ho e he hb
        rw [hget _ (by omega), hlk _ (by omega), h2]
        simp
        omega⟩
      rw [hnil] at this
      cases this
    · obtain ⟨h0, o, ho, hall⟩ := mem_ready.1 hi
      have hlt : i < ops.size := (Array.getElem?_eq_some_iff.1 ho).1
      have hnone : L[i]? = some none := by
        obtain ⟨x, hx⟩ : ∃ x, L[i]? = some x := ⟨_, List.getElem?_eq_getElem (by omega)⟩
        rw [hlk i hlt, hx] at h0
        cases x with
        | none => exact hx
        | some l => simp at h0; omega
      by_cases hij : i = j0
      · subst hij
        exact .inl ⟨rfl, hfin⟩
      · obtain ⟨e, he, hb, hn⟩ := hblk i o ho hnone hij
        have h1 := hall e he hb
        have h2 := hback i o ho e he hb
        rw [hget _ (by omega), hlk _ (by omega), hn] at h1
        simp at h1
  | o :: r, k, listed, s, ls, hk, hr, hls, hl, hlk, h => by
    simp only [List.length_cons] at hk ⊢
    cases ls with
    | nil => exact h.elim
    | cons x ls =>
      have h0 : al[k]? = some o := by have := hr 0; simpa using this.symm
      have hL0 : L[k]? = some x := by have := hls 0; simpa using this.symm
      have hlt : k < ops.size := by omega
      obtain ⟨oo, hoo⟩ : ∃ oo, ops[k]? = some oo := ⟨_, Array.getElem?_eq_getElem hlt⟩
      have hget : ∀ j, j < ops.size → listed.getD j false = listed.getD j true := fun j hj => by
        simp [Array.getD_eq_getD_getElem?, Array.getElem?_eq_getElem (show j < listed.size by omega)]
      have hr' : ∀ j, r[j]? = al[k + 1 + j]? := fun j => by have := hr (j + 1); simpa [Nat.add_assoc, Nat.add_comm 1 j] using this
      have hls' : ∀ j, ls[j]? = L[k + 1 + j]? := fun j => by have := hls (j + 1); simpa [Nat.add_assoc, Nat.add_comm 1 j] using this
      cases x with
      | none =>
        have ih := any_lexP hsz hLz hback hfree hj0 hblk hun hj0L hpre hfin r (k + 1) listed s ls (by omega) hr' hls' hl (fun j hj => ?_) h
        · by_cases hc : j0 = k
          · subst hc
            rw [if_neg (by omega)]
            rw [if_pos (by omega)] at ih
            exact ih
          · by_cases hc2 : j0 < k
            · rw [if_pos hc2]
              rw [if_pos (by omega)] at ih
              have := anyP_succ _ _ _ ih
              rw [show r.length + 1 + 1 = r.length + 1 + 1 from rfl]
              exact this
            · rw [if_neg hc2]
              rw [if_neg (by omega)] at ih
              exact anyP_succ _ _ _ ih
        · rw [hlk j hj]
          by_cases hjk : j = k
          · subst hjk; rw [hL0]; simp
          · congr 1
            simp only [decide_eq_decide]
            omega
      | some l =>
        obtain ⟨s1, hs, hrest⟩ := h
        have hkj : k ≠ j0 := fun e => by rw [e, hj0L] at hL0; simp at hL0
        have e1 : (if j0 < k then 1 else 0) = (if j0 < k + 1 then 1 else 0) := by
          by_cases hc : j0 < k
          · rw [if_pos hc, if_pos (by omega)]
          · rw [if_neg hc, if_neg (by omega)]
        rw [e1, show r.length + 1 + (if j0 < k + 1 then 1 else 0) = (r.length + if j0 < k + 1 then 1 else 0) + 1 by omega]
        refine any_firstP h0 hL0 _ listed s s1 (fun j o' oj lj hj1 hj2 hj3 hne hun hno => ?_) (fun o' oj ho' hoj hno => hj0 k l o' o oj h0 hL0 ho' hoj hno) ?_ hs
          (any_lexP hsz hLz hback hfree hj0 hblk hun hj0L hpre hfin r (k + 1) _ s1 ls (by omega) hr' hls' (by simpa using hl) (fun j hj => ?_) hrest)
        · have hj : j < ops.size := (Array.getElem?_eq_some_iff.1 hj1).1
          rw [hlk j hj, hj3] at hun
          simp at hun
          exact hfree k j o' o oj l lj (by omega) hj1 h0 hj2 hL0 hj3 hno
        · refine mem_ready.2 ⟨by rw [hlk k hlt]; simp, oo, hoo, fun e he hb => ?_⟩
          have h1 := hback k oo hoo e he hb
          have h2 : ∃ l, L[e.on]? = some (some l) := hun k l hL0 oo hoo e he hb
          obtain ⟨l2, h2⟩ := h2
          rw [hget _ (by omega), hlk _ (by omega), h2]
          simpa using h1
        · by_cases hjk : k = j
          · subst hjk
            have : k < listed.size := by omega
            simp [Array.getD_eq_getD_getElem?, this, hL0]
          · rw [getD_set_ne true hjk, hlk j hj]
            congr 1
            simp only [decide_eq_decide]
            omega
end
end Go.Abs

end
section
/- Own framework, part 24: regions whose order is open, and the program's. -/
set_option linter.unusedVariables false
set_option linter.unusedSimpArgs false
namespace Go.Abs
open Go.RowKit (Below)

theorem Lay.drew {ds : List Deferred} {nt : Nat} {w0 : World} {g0 : Gh} {T0 : List Nat} {s : St} {a : Act} {w : World} (h : Lay ds nt w0 g0 T0 s a w) : Lay ds nt w0 g0 T0 s a { w with drawn := w.drawn + 1 } := by
  obtain ⟨g, h1, h2, h3, h4, h5, h6⟩ := h
  have hb : Below w.heap.size w { w with drawn := w.drawn + 1 } := ⟨rfl, rfl, rfl, Nat.le_refl _, fun _ _ => rfl⟩
  have he := h2.ext_grown hb
  exact ⟨g, h1.trans he, h2.grown hb, h3.mono he, h4, h5, h6.trans ⟨rfl, rfl, rfl, Nat.le_refl _, fun _ _ => rfl⟩⟩

section
variable {P : Program} {orc : Orc} {call : CallF} {ops : Array Oper} {al : List AOper} {L : List Lab} {fin : St} {md : Region.Mode} {ds : List Deferred} {nt : Nat} {w0 : World} {g0 : Gh} {T0 : List Nat}

theorem any_sound (hAg : AgOk P) (hC : CallOk P call) (hO : OrcOk P orc) (hal : ∀ (i : Nat) (ao : AOper), al[i]? = some ao → ∃ o, ops[i]? = some o ∧ trOper P ops nt o = some ao) {Q : Exit → Act → World → Prop} (hq : QOk ds nt w0 g0 T0 Q (.nrm, fin)) :
    ∀ (fuel : Nat) (listed : Array Bool) (s : St) (a : Act) (w : World), Lay ds nt w0 g0 T0 s a w → anyA orc call md ops al L fin fuel listed s → wpAny P md ops Q fuel listed a w
  | 0, listed, s, a, w, hL, h => ⟨h.1, hq a w (h.2 ▸ hL)⟩
  | fuel + 1, listed, s, a, w, hL, h => by
    refine ⟨fun h0 => hq a w (h.1 h0 ▸ hL), fun i hi => ?_⟩
    obtain ⟨ao, l, s1, h1, h2, h3, h4⟩ := h.2 i hi
    obtain ⟨o, ho, hm⟩ := hal i ao h1
    unfold stepO at h3
    refine oper_ok hAg hC hO ho hm hL (fun hb a' w' hL' => ?_) (fun hb => by simp [hb] at h3) (fun hb => ?_)
    · rw [hb] at h3
      simp only [Option.some.injEq, Prod.mk.injEq] at h3
      obtain ⟨_, rfl⟩ := h3
      exact any_sound hAg hC hO hal hq fuel _ _ a' w' hL' h4
    · rw [hb] at h3
      simp only at h3
      cases ha : act orc s.e ao.op with
      | none => simp [ha] at h3
      | some ac =>
        simp only [ha] at h3
        split at h3
        · rename_i x V1 T1 l1 hd
          simp only [Option.some.injEq, Prod.mk.injEq] at h3
          obtain ⟨_, rfl⟩ := h3
          exact ⟨ac, _, l1, rfl, hd, fun a' w' hL' => any_sound hAg hC hO hal hq fuel _ _ a' w' hL' h4⟩
        · simp at h3

theorem edgesBack_spec (h : edgesBack ops = true) (j : Nat) (o : Oper) (ho : ops[j]? = some o) : ∀ e ∈ o.after, Region.binds .any e = true → e.on < j := by
  unfold edgesBack at h
  rw [List.all_eq_true] at h
  have h1 := h j (List.mem_range.2 (Array.getElem?_eq_some_iff.1 ho).1)
  rw [ho] at h1
  simp only [Option.map_some, Option.getD_some, Array.all_eq_true_iff_forall_mem, Bool.or_eq_true, Bool.not_eq_true', decide_eq_true_eq] at h1
  intro e he hb
  exact (h1 e he).resolve_left (by simp [hb])

theorem freePairs_mem {k j : Nat} {o : Oper} (hkj : k < j) (ho : ops[j]? = some o) (hno : ∀ e ∈ o.after, Region.binds .any e = true → e.on ≠ k) : (k, j) ∈ freePairs ops := by
  unfold freePairs
  rw [List.mem_flatMap]
  refine ⟨j, List.mem_range.2 (Array.getElem?_eq_some_iff.1 ho).1, ?_⟩
  rw [List.mem_map]
  refine ⟨k, ?_, rfl⟩
  rw [List.mem_filter]
  refine ⟨List.mem_range.2 hkj, ?_⟩
  rw [ho]
  simp only [Option.map_some, Option.getD_some, Bool.not_eq_true']
  rw [← Bool.not_eq_true, Array.any_eq_true']
  rintro ⟨e, he, hb⟩
  simp only [Bool.and_eq_true, beq_iff_eq] at hb
  exact hno e he hb.1 hb.2

theorem drw_ok (hAg : AgOk P) (hC : CallOk P call) (hO : OrcOk P orc) (hw : P.follows .mixedOrders = true) {id : Nat} (hm : mapO (trOper P ops nt) ops.toList = some al) (hback : edgesBack ops = true)
    (hap : (freePairs ops).all (fun (k, j) => (al.getD k default).apart (al.getD j default)) = true) {Q : Exit → Act → World → Prop} {s : St} {ls : List Lab} {a : Act} {w : World}
    (h : Lay ds nt w0 g0 T0 s a w) (hr : runDrw orc call al s = some (ls, fin)) (hcf : confAll ls (freePairs ops) = true) (hq : QOk ds nt w0 g0 T0 Q (.nrm, fin)) : (Code.region id ops true).wp P Q a w := by
  obtain ⟨h1, h2⟩ := mapO_ops hm
  refine wp_region_any hw (any_sound hAg hC hO h2 hq (L := ls) _ _ s a _ h.drew ?_)
  rw [← h1]
  refine any_lex h1 (edgesBack_spec hback) (fun k j o ok oj lk lj hkj ho hk hj hlk hlj hno => ?_) al 0 _ s ls (by simpa using h1) (fun j => by simp) (fun j => by simp) (by simpa using h1) (fun j hj => ?_) hr
  · have hmem := freePairs_mem hkj ho hno
    constructor
    · have := List.all_eq_true.1 hap _ hmem
      simpa [List.getD_eq_getElem?_getD, hk, hj] using this
    · unfold confAll at hcf
      have := List.all_eq_true.1 hcf _ hmem
      simpa only [hlk, hlj] using this
  · simp [Array.getD_eq_getD_getElem?, h1, hj]

theorem panO_spec {o : AOper} {s : St} {d : D} (h : panO orc call o s = some d) : guardD s.e o.g = some true ∧ ∃ ac V1 T1 l, act orc s.e o.op = some ac ∧ doAc call s.V s.T ac = some (.pan d V1 T1, l) := by
  unfold panO at h
  split at h
  · rename_i hg
    cases ha : act orc s.e o.op with
    | none => rw [ha] at h; simp at h
    | some a =>
      rw [ha] at h
      simp only [] at h
      split at h
      · rename_i x V1 T1 l1 hd
        simp only [Option.some.injEq] at h
        subst h
        exact ⟨hg, a, V1, T1, l1, rfl, hd⟩
      · simp at h
  · simp at h

theorem any_soundP {LO : List (Option Lab)} {j0 : Nat} {d : D} {s0 : St} (hAg : AgOk P) (hC : CallOk P call) (hO : OrcOk P orc) (hal : ∀ (i : Nat) (ao : AOper), al[i]? = some ao → ∃ o, ops[i]? = some o ∧ trOper P ops nt o = some ao) {Q : Exit → Act → World → Prop} (hq : QOk ds nt w0 g0 T0 Q (.pan d, s0)) :
    ∀ (fuel : Nat) (listed : Array Bool) (s : St) (a : Act) (w : World), Lay ds nt w0 g0 T0 s a w → anyP orc call md ops al LO j0 d fuel listed s → wpAny P md ops Q fuel listed a w
  | 0, listed, s, a, w, hL, h => h.elim
  | fuel + 1, listed, s, a, w, hL, h => by
    refine ⟨fun h0 => absurd h0 h.1, fun i hi => ?_⟩
    rcases h.2 i hi with ⟨_, ao, h1, h2⟩ | ⟨ao, l, s1, h1, h2, h3, h4⟩
    · obtain ⟨o, ho, hm⟩ := hal i ao h1
      obtain ⟨hg, ac, V1, T1, l1, ha, hd⟩ := panO_spec h2
      refine oper_ok hAg hC hO ho hm hL (fun hb => by rw [hg] at hb; simp at hb) (fun hb => by rw [hg] at hb; simp at hb) (fun _ => ⟨ac, _, l1, ha, hd, ?_⟩)
      intro a' w' v ⟨g, k1, k2, k3, k4, k5, k6, k7⟩
      exact hq a' w' v _ _ k5 ⟨g, k1, k2, k7, k6⟩
    · obtain ⟨o, ho, hm⟩ := hal i ao h1
      unfold stepO at h3
      refine oper_ok hAg hC hO ho hm hL (fun hb a' w' hL' => ?_) (fun hb => by simp [hb] at h3) (fun hb => ?_)
      · rw [hb] at h3
        simp only [Option.some.injEq, Prod.mk.injEq] at h3
        obtain ⟨_, rfl⟩ := h3
        exact any_soundP hAg hC hO hal hq fuel _ _ a' w' hL' h4
      · rw [hb] at h3
        simp only at h3
        cases ha : act orc s.e ao.op with
        | none => simp [ha] at h3
        | some ac =>
          simp only [ha] at h3
          split at h3
          · rename_i x V1 T1 l1 hd
            simp only [Option.some.injEq, Prod.mk.injEq] at h3
            obtain ⟨_, rfl⟩ := h3
            exact ⟨ac, _, l1, rfl, hd, fun a' w' hL' => any_soundP hAg hC hO hal hq fuel _ _ a' w' hL' h4⟩
          · simp at h3

theorem freePairs_not {k j : Nat} {o : Oper} (h : (k, j) ∈ freePairs ops) (ho : ops[j]? = some o) : ∀ e ∈ o.after, Region.binds .any e = true → e.on ≠ k := by
  unfold freePairs at h
  rw [List.mem_flatMap] at h
  obtain ⟨j', _, h⟩ := h
  rw [List.mem_map] at h
  obtain ⟨k', h, e⟩ := h
  simp only [Prod.mk.injEq] at e
  obtain ⟨rfl, rfl⟩ := e
  rw [List.mem_filter] at h
  have h2 := h.2
  rw [ho] at h2
  simp only [Option.map_some, Option.getD_some, Bool.not_eq_true'] at h2
  rw [← Bool.not_eq_true, Array.any_eq_true'] at h2
  intro e he hb heq
  exact h2 ⟨e, he, by simp [hb, heq]⟩

theorem drw_okP (hAg : AgOk P) (hC : CallOk P call) (hO : OrcOk P orc) (hw : P.follows .mixedOrders = true) {id : Nat} (hm : mapO (trOper P ops nt) ops.toList = some al) (hback : edgesBack ops = true)
    (hap : (freePairs ops).all (fun (k, j) => (al.getD k default).apart (al.getD j default)) = true) {Q : Exit → Act → World → Prop} {s s0 : St} {a : Act} {w : World} {d : D}
    (h : Lay ds nt w0 g0 T0 s a w) (hr : runPan orc call (freePairs ops) al s = some d) (hq : QOk ds nt w0 g0 T0 Q (.pan d, s0)) : (Code.region id ops true).wp P Q a w := by
  obtain ⟨h1, h2⟩ := mapO_ops hm
  unfold runPan at hr
  cases ha : panAt orc call al s with
  | none => rw [ha] at hr; simp at hr
  | some j0 =>
  rw [ha] at hr
  simp only [] at hr
  cases ho : al[j0]? with
  | none => rw [ho] at hr; simp at hr
  | some oj0 =>
  rw [ho] at hr
  simp only [] at hr
  cases hw2 : runPanW orc call (freePairs ops) j0 0 al [] s with
  | none => rw [hw2] at hr; simp at hr
  | some x =>
  obtain ⟨ls, fin⟩ := x
  rw [hw2] at hr
  simp only [] at hr
  split at hr
  case isFalse => simp at hr
  rename_i hcf
  obtain ⟨r1, r2, r3, r4⟩ := runPanW_spec al 0 [] s fin ls hw2
  simp only [Nat.zero_add] at r3 r4
  have hj0lt : j0 < ls.length := by rw [r2]; exact (List.getElem?_eq_some_iff.1 ho).1
  have hj0L : ls[j0]? = some none := by
    obtain ⟨y, hy⟩ : ∃ y, ls[j0]? = some y := ⟨_, List.getElem?_eq_getElem hj0lt⟩
    cases y with
    | none => exact hy
    | some l => exact absurd rfl (r4 j0 l hy).1
  have apt : ∀ (k j : Nat) (ok oj : AOper), (k, j) ∈ freePairs ops → al[k]? = some ok → al[j]? = some oj → ok.apart oj = true := fun k j ok oj hmem hk hj => by
    have := List.all_eq_true.1 hap _ hmem
    simpa [List.getD_eq_getElem?_getD, hk, hj] using this
  have nonew : ∀ m, m < j0 → ∀ y, ls[m]? = some y → ∃ l, y = some l := fun m => by
    induction m using Nat.strongRecOn with
    | _ m ih =>
      intro hm y hy
      cases y with
      | some l => exact ⟨l, rfl⟩
      | none =>
        exfalso
        rcases r3 m hy with h5 | ⟨k, h5, h6⟩
        · omega
        · rcases h5 with h5 | ⟨q, h7, h8, h9⟩
          · simp at h5
          · obtain ⟨l, hl⟩ := ih q h7 (by omega) none h9
            simp at hl
  have hlen : ls.length = ops.size := by rw [r2, h1]
  refine wp_region_any hw (any_soundP hAg hC hO h2 hq (LO := ls) (j0 := j0) _ _ s a _ h.drew ?_)
  have key := any_lexP (orc := orc) (call := call) (ops := ops) (al := al) (L := ls) (fin := fin) (md := .any) (j0 := j0) (d := d) h1 hlen (edgesBack_spec hback)
    (fun k j o ok oj lk lj hkj ho' hk hj hlk hlj hno => ?_) (fun k l o ok oj hk hlk ho' hoj hno t ht => ?_) (fun j o ho' hn hne => ?_) (fun j l hl o ho' e he hb => ?_) hj0L (fun o ho' e he hb => ?_) ⟨oj0, ho, hr⟩
    al 0 ((Array.replicate ops.size false)) s ls (by simpa using h1) (fun j => by simp) (fun j => by simp) (by simp) (fun j hj => by simp [Array.getD_eq_getD_getElem?, hj]) r1
  · rw [if_neg (by omega), h1] at key
    exact key
  · have hmem := freePairs_mem hkj ho' hno
    refine ⟨apt k j ok oj hmem hk hj, ?_⟩
    unfold confAllO at hcf
    have := List.all_eq_true.1 hcf _ hmem
    simpa only [hlk, hlj] using this
  · have hkn : k ≠ j0 := fun e => by rw [e, hj0L] at hlk; simp at hlk
    by_cases hlt : k < j0
    · exact (apart_spec (apt k j0 ok oj (freePairs_mem hlt ho' hno) hk hoj)).1 t ht
    · have := (r4 k l hlk).2.2 j0 (by omega) hj0L
      exact (apart_spec (apt j0 k oj ok (by simpa using this) hoj hk)).2.2 t ht
  · rcases r3 j hn with h5 | ⟨k, h5, h6⟩
    · exact absurd h5 hne
    · rcases h5 with h5 | ⟨q, h7, h8, h9⟩
      · simp at h5
      · subst h8
        apply Classical.byContradiction
        intro hno
        have : (k, j) ∈ freePairs ops := freePairs_mem h7 ho' fun e he hb heq => hno ⟨e, he, hb, by rw [heq]; exact h9⟩
        rw [Bool.eq_false_iff] at h6
        exact h6 (by simpa using this)
  · have h3 := edgesBack_spec hback j o ho' e he hb
    have hjl : j < ls.length := (List.getElem?_eq_some_iff.1 hl).1
    obtain ⟨y, hy⟩ : ∃ y, ls[e.on]? = some y := ⟨_, List.getElem?_eq_getElem (by omega)⟩
    cases y with
    | some l' => exact ⟨l', hy⟩
    | none =>
      have := (r4 j l hl).2.2 e.on h3 hy
      exact absurd rfl (freePairs_not (by simpa using this) ho' e he hb)
  · have h3 := edgesBack_spec hback j0 o ho' e he hb
    obtain ⟨y, hy⟩ : ∃ y, ls[e.on]? = some y := ⟨_, List.getElem?_eq_getElem (by omega)⟩
    obtain ⟨l, rfl⟩ := nonew _ h3 y hy
    exact ⟨l, hy⟩

theorem execDrw_ok (hAg : AgOk P) (hC : CallOk P call) (hO : OrcOk P orc) (hw : P.follows .mixedOrders = true) {id : Nat} (hm : mapO (trOper P ops nt) ops.toList = some al) (hback : edgesBack ops = true)
    (hap : (freePairs ops).all (fun (k, j) => (al.getD k default).apart (al.getD j default)) = true) {Q : Exit → Act → World → Prop} {s : St} {a : Act} {w : World} {r : Out × St}
    (h : Lay ds nt w0 g0 T0 s a w) (hr : execDrw orc call al (freePairs ops) s = some r) (hq : QOk ds nt w0 g0 T0 Q r) : (Code.region id ops true).wp P Q a w := by
  unfold execDrw at hr
  split at hr
  · rename_i ls s' hd
    split at hr
    · rename_i hcf
      simp only [Option.some.injEq] at hr
      subst hr
      exact drw_ok hAg hC hO hw hm hback hap h hd hcf hq
    · simp at hr
  · split at hr
    · rename_i d hp
      simp only [Option.some.injEq] at hr
      subst hr
      exact drw_okP hAg hC hO hw hm hback hap h hp hq
    · simp at hr
end
end Go.Abs

end
section
/- Own framework, part 2: what the abstract interpreter comes to, whatever the number of rounds; rules for simp. -/
set_option linter.unusedVariables false
set_option linter.unusedSimpArgs false
namespace Go.Abs

/-! ### more rounds give the same answer -/
def LeC (c c' : CallF) : Prop := ∀ f a V T r, c f a V T = some r → c' f a V T = some r
def LeL (l l' : ACode → St → Option (Out × St)) : Prop := ∀ c s r, l c s = some r → l' c s = some r

section
variable {call call' : CallF} (h : LeC call call')
include h
theorem doAc_le {V : List VO} {T : List Nat} {a : Ac} {r : Out1 × Lab} (hr : doAc call V T a = some r) : doAc call' V T a = some r := by
  cases a with
  | call f args =>
    simp only [doAc] at hr ⊢
    split at hr <;> rename_i hc
    · rw [if_pos hc]
      cases e : call f args [] [] with
      | none => rw [e] at hr; simp at hr
      | some x => rw [h _ _ _ _ _ e]; rw [e] at hr; exact hr
    · rw [if_neg hc]
      cases e : call f args V T with
      | none => rw [e] at hr; simp at hr
      | some x => rw [h _ _ _ _ _ e]; rw [e] at hr; exact hr
  | _ => exact hr

end
/-- What is done is done there too: by another table, by other callees. -/
def SLe (orc : Orc) (call : CallF) (orc' : Orc) (call' : CallF) : Prop := ∀ e op V T a r, act orc e op = some a → doAc call V T a = some r → ∃ a', act orc' e op = some a' ∧ doAc call' V T a' = some r
theorem LeC.s {orc : Orc} {call call' : CallF} (h : LeC call call') : SLe orc call orc call' := fun e op V T a r ha hd => ⟨a, ha, doAc_le h hd⟩
section
variable {orc orc' : Orc} {call call' : CallF} (h : SLe orc call orc' call')
include h
theorem runOps_le : ∀ (l : List AOper) (s : St) (r : Out × St), runOps orc call l s = some r → runOps orc' call' l s = some r
  | [], s, r, hr => hr
  | o :: l, s, r, hr => by
    unfold runOps at hr ⊢
    cases hg : guardD s.e o.g with
    | none => rw [hg] at hr; simp at hr
    | some b =>
      rw [hg] at hr
      cases b with
      | false => exact runOps_le l _ _ hr
      | true =>
        simp only [] at hr ⊢
        cases ha : act orc s.e o.op with
        | none => rw [ha] at hr; simp at hr
        | some a =>
          rw [ha] at hr
          simp only [] at hr
          cases hd : doAc call s.V s.T a with
          | none => rw [hd] at hr; simp at hr
          | some x =>
            obtain ⟨a', ha', hd'⟩ := h _ _ _ _ _ _ ha hd
            rw [ha']
            simp only []
            rw [hd']
            rw [hd] at hr
            obtain ⟨o1, l1⟩ := x
            cases o1 with
            | ok d V T => exact runOps_le l _ _ hr
            | pan d V T => exact hr

theorem stepO_le {o : AOper} {s : St} {r : Lab × St} (hr : stepO orc call o s = some r) : stepO orc' call' o s = some r := by
  unfold stepO at hr ⊢
  cases hg : guardD s.e o.g with
  | none => rw [hg] at hr; simp at hr
  | some b =>
    rw [hg] at hr
    cases b with
    | false => exact hr
    | true =>
      simp only [] at hr ⊢
      cases ha : act orc s.e o.op with
      | none => rw [ha] at hr; simp at hr
      | some a =>
        rw [ha] at hr
        simp only [] at hr
        cases hd : doAc call s.V s.T a with
        | none => rw [hd] at hr; simp at hr
        | some x =>
          obtain ⟨a', ha', hd'⟩ := h _ _ _ _ _ _ ha hd
          rw [ha']
          simp only []
          rw [hd']
          rw [hd] at hr
          exact hr

theorem runDrw_le : ∀ (l : List AOper) (s : St) (r : List Lab × St), runDrw orc call l s = some r → runDrw orc' call' l s = some r
  | [], s, r, hr => hr
  | o :: l, s, r, hr => by
    unfold runDrw at hr ⊢
    cases hs : stepO orc call o s with
    | none => rw [hs] at hr; simp at hr
    | some x =>
      rw [stepO_le h hs]
      rw [hs] at hr
      obtain ⟨l1, s1⟩ := x
      simp only [] at hr ⊢
      cases hd : runDrw orc call l s1 with
      | none => rw [hd] at hr; simp at hr
      | some y => rw [runDrw_le l _ _ hd]; rw [hd] at hr; exact hr

theorem panO_le {o : AOper} {s : St} {d : D} (hr : panO orc call o s = some d) : panO orc' call' o s = some d := by
  unfold panO at hr ⊢
  split at hr
  · rename_i hg
    cases ha : act orc s.e o.op with
    | none => rw [ha] at hr; simp at hr
    | some a =>
      rw [ha] at hr
      simp only [] at hr
      cases hd : doAc call s.V s.T a with
      | none => rw [hd] at hr; simp at hr
      | some x =>
        obtain ⟨a', ha', hd'⟩ := h _ _ _ _ _ _ ha hd
        rw [ha']
        simp only []
        rw [hd']
        rw [hd] at hr
        exact hr
  · simp at hr
omit h in
theorem panO_not {o : AOper} {s : St} {d : D} (hr : panO orc call o s = some d) : stepO orc call o s = none := by
  unfold panO at hr
  unfold stepO
  split at hr
  · rename_i hg
    simp only [hg]
    cases ha : act orc s.e o.op with
    | none => rfl
    | some a =>
      rw [ha] at hr
      simp only [] at hr ⊢
      split at hr
      · rename_i hd; rw [hd]
      · simp at hr
  · simp at hr
theorem runPanW_le {ps : List (Nat × Nat)} {j0 : Nat} : ∀ (l : List AOper) (i : Nat) (bl : List Nat) (s : St) (r : List (Option Lab) × St), runPanW orc call ps j0 i l bl s = some r → runPanW orc' call' ps j0 i l bl s = some r
  | [], i, bl, s, r, hr => hr
  | o :: l, i, bl, s, r, hr => by
    unfold runPanW at hr ⊢
    split at hr
    · rename_i hc
      rw [if_pos hc]
      cases hw : runPanW orc call ps j0 (i + 1) l (i :: bl) s with
      | none => rw [hw] at hr; simp at hr
      | some x => rw [runPanW_le l _ _ _ _ hw]; rw [hw] at hr; exact hr
    · rename_i hc
      rw [if_neg hc]
      cases hs : stepO orc call o s with
      | none => rw [hs] at hr; simp at hr
      | some y =>
        rw [stepO_le h hs]
        rw [hs] at hr
        simp only [] at hr ⊢
        cases hw : runPanW orc call ps j0 (i + 1) l bl y.2 with
        | none => rw [hw] at hr; simp at hr
        | some x => rw [runPanW_le l _ _ _ _ hw]; rw [hw] at hr; exact hr
theorem panAt_le : ∀ (l : List AOper) (s : St) (j : Nat), panAt orc call l s = some j → panAt orc' call' l s = some j
  | [], s, j, hr => by simp [panAt] at hr
  | o :: l, s, j, hr => by
    unfold panAt at hr ⊢
    cases hp : panO orc call o s with
    | some d => rw [panO_le h hp]; rw [hp] at hr; exact hr
    | none =>
      rw [hp] at hr
      simp only [] at hr
      cases hs : stepO orc call o s with
      | none => rw [hs] at hr; simp at hr
      | some y =>
        obtain ⟨lb, s1⟩ := y
        rw [hs] at hr
        simp only [] at hr
        have hs' := stepO_le h hs
        have hp' : panO orc' call' o s = none := by
          cases hx : panO orc' call' o s with
          | none => rfl
          | some d => rw [panO_not hx] at hs'; simp at hs'
        rw [hp', hs']
        simp only []
        cases ha : panAt orc call l s1 with
        | none => rw [ha] at hr; simp at hr
        | some j' => rw [panAt_le l _ _ ha]; rw [ha] at hr; exact hr
omit h in
theorem panAt_not : ∀ (l : List AOper) (s : St) (j : Nat), panAt orc call l s = some j → runDrw orc call l s = none
  | [], s, j, hr => by simp [panAt] at hr
  | o :: l, s, j, hr => by
    unfold panAt at hr
    unfold runDrw
    cases hp : panO orc call o s with
    | some d => rw [panO_not hp]
    | none =>
      rw [hp] at hr
      simp only [] at hr
      cases hs : stepO orc call o s with
      | none => rfl
      | some y =>
        obtain ⟨lb, s1⟩ := y
        rw [hs] at hr
        simp only [] at hr ⊢
        cases ha : panAt orc call l s1 with
        | none => rw [ha] at hr; simp at hr
        | some j' => rw [panAt_not l _ _ ha]
omit h in
theorem runPan_not {ps : List (Nat × Nat)} {l : List AOper} {s : St} {d : D} (hr : runPan orc call ps l s = some d) : runDrw orc call l s = none := by
  unfold runPan at hr
  cases ha : panAt orc call l s with
  | none => rw [ha] at hr; simp at hr
  | some j => exact panAt_not _ _ _ ha
theorem runPan_le {ps : List (Nat × Nat)} {l : List AOper} {s : St} {d : D} (hr : runPan orc call ps l s = some d) : runPan orc' call' ps l s = some d := by
  unfold runPan at hr ⊢
  cases ha : panAt orc call l s with
  | none => rw [ha] at hr; simp at hr
  | some j =>
    rw [ha] at hr
    rw [panAt_le h _ _ _ ha]
    simp only [] at hr ⊢
    cases ho : l[j]? with
    | none => rw [ho] at hr; simp at hr
    | some o =>
      rw [ho] at hr
      simp only [] at hr ⊢
      cases hw : runPanW orc call ps j 0 l [] s with
      | none => rw [hw] at hr; simp at hr
      | some x =>
        rw [hw] at hr
        rw [runPanW_le h _ _ _ _ _ hw]
        obtain ⟨ls, s2⟩ := x
        simp only [] at hr ⊢
        split at hr
        · rename_i hc; rw [if_pos hc]; exact panO_le h hr
        · simp at hr
theorem execDrw_le {ps : List (Nat × Nat)} {l : List AOper} {s : St} {r : Out × St} (hr : execDrw orc call l ps s = some r) : execDrw orc' call' l ps s = some r := by
  unfold execDrw at hr ⊢
  cases hd : runDrw orc call l s with
  | some x => rw [runDrw_le h _ _ _ hd]; rw [hd] at hr; exact hr
  | none =>
    rw [hd] at hr
    simp only [] at hr
    cases hp : runPan orc call ps l s with
    | none => rw [hp] at hr; simp at hr
    | some d =>
      have hp' := runPan_le h hp
      rw [runPan_not hp', hp']
      rw [hp] at hr
      exact hr
theorem execC_le {lf lf' : ACode → St → Option (Out × St)} (hl : LeL lf lf') : ∀ (c : ACode) (s : St) (r : Out × St), execC orc call lf c s = some r → execC orc' call' lf' c s = some r := by
  intro c
  induction c with
  | skip => intro s r hr; exact hr
  | reg ops => intro s r hr; exact runOps_le h ops s r hr
  | drw ops ps =>
    intro s r hr
    exact execDrw_le h hr
  | seq a b iha ihb =>
    intro s r hr
    simp only [execC] at hr ⊢
    cases hd : execC orc call lf a s with
    | none => rw [hd] at hr; simp at hr
    | some x =>
      rw [iha _ _ hd]
      rw [hd] at hr
      obtain ⟨o1, s1⟩ := x
      cases o1 with
      | nrm => exact ihb _ _ hr
      | _ => exact hr
  | cond c a b iha ihb =>
    intro s r hr
    simp only [execC] at hr ⊢
    split at hr
    · rename_i t ht
      cases t with
      | true => exact iha _ _ hr
      | false => exact ihb _ _ hr
    · simp at hr
  | block id c ih =>
    intro s r hr
    simp only [execC] at hr ⊢
    cases hd : execC orc call lf c s with
    | none => rw [hd] at hr; simp at hr
    | some x => rw [ih _ _ hd]; rw [hd] at hr; exact hr
  | loop c ih =>
    intro s r hr
    simp only [execC] at hr ⊢
    cases hd : execC orc call lf c s with
    | none => rw [hd] at hr; simp at hr
    | some x =>
      rw [ih _ _ hd]
      rw [hd] at hr
      obtain ⟨o1, s1⟩ := x
      cases o1 with
      | nrm => exact hl _ _ _ hr
      | _ => exact hr
  | exit id => intro s r hr; exact hr
  | ret => intro s r hr; exact hr
end

section
variable (orc : Orc) (F : FuncId → Option AFn)
theorem execN_succ (n : Nat) (c : ACode) (s : St) : execN orc F (n + 1) c s = execC orc (callN orc F n) (fun c s => execN orc F n (.loop c) s) c s := rfl
variable {orc F}
theorem callN_le {n m : Nat} (h : ∀ c s r, execN orc F n c s = some r → execN orc F m c s = some r) : LeC (callN orc F n) (callN orc F m) := by
  intro f a V T r hr
  unfold callN at hr ⊢
  cases hf : F f with
  | none => rw [hf] at hr; simp at hr
  | some fn =>
    rw [hf] at hr
    simp only [] at hr ⊢
    cases he : execN orc F n fn.body ⟨initE a, V, T⟩ with
    | none => rw [he] at hr; simp at hr
    | some x => rw [h _ _ _ he]; rw [he] at hr; exact hr
theorem execN_step : ∀ n c s r, execN orc F n c s = some r → execN orc F (n + 1) c s = some r := by
  intro n
  induction n with
  | zero => intro c s r h; simp [execN] at h
  | succ n ih =>
    intro c s r h
    rw [execN_succ] at h ⊢
    exact execC_le (callN_le ih).s (fun c s r hr => ih _ _ _ hr) c s r h
theorem execN_le {n m : Nat} (h : n ≤ m) {c : ACode} {s : St} {r : Out × St} (hr : execN orc F n c s = some r) : execN orc F m c s = some r := by
  induction h with
  | refl => exact hr
  | step _ ih => exact execN_step _ _ _ _ ih
theorem callN_mono {n m : Nat} (h : n ≤ m) : LeC (callN orc F n) (callN orc F m) := callN_le fun _ _ _ hr => execN_le h hr
end

/-- The second table has what the first one has; what it has beside has no code. -/
def OLe (F : FuncId → Option AFn) (o o' : Orc) : Prop := ∀ f, o' f = o f ∨ (o f = none ∧ F f = none)
theorem OLe.s {F : FuncId → Option AFn} {o o' : Orc} (h : OLe F o o') {n : Nat} {call' : CallF} (hc : LeC (callN o F n) call') : SLe o (callN o F n) o' call' := by
  intro e op V T a r ha hd
  have key : ∀ f args, callA o f args = some a → callA o' f args = some a ∨ doAc (callN o F n) V T a = none := by
    intro f args hx
    rcases h f with h1 | ⟨h1, h2⟩
    · left; unfold callA at hx ⊢; rw [h1]; exact hx
    · right
      unfold callA at hx
      rw [h1] at hx
      simp only [Option.some.injEq] at hx
      subst hx
      have hn : ∀ V T, callN o F n f (frzL args) V T = none := fun V T => by unfold callN; rw [h2]
      simp only [doAc, hn]
      split <;> rfl
  have same : (∀ f xs, op ≠ .call f xs) → (∀ x xs, op ≠ .dyn x xs) → act o' e op = act o e op := fun h1 h2 => by
    cases op with
    | call f xs => exact absurd rfl (h1 f xs)
    | dyn x xs => exact absurd rfl (h2 x xs)
    | _ => rfl
  refine ⟨a, ?_, doAc_le hc hd⟩
  cases op with
  | call f xs =>
    simp only [act] at ha ⊢
    rcases key f _ ha with h1 | h1
    · exact h1
    · rw [h1] at hd; simp at hd
  | dyn x xs =>
    simp only [act] at ha ⊢
    split at ha
    · rcases key _ _ ha with h1 | h1
      · exact h1
      · rw [h1] at hd; simp at hd
    · simp at ha
  | _ => rw [same (fun _ _ => by simp) (fun _ _ => by simp)]; exact ha
theorem execN_table {F : FuncId → Option AFn} {o o' : Orc} (h : OLe F o o') : ∀ n c s r, execN o F n c s = some r → execN o' F n c s = some r := by
  intro n
  induction n with
  | zero => intro c s r hr; simp [execN] at hr
  | succ n ih =>
    intro c s r hr
    rw [execN_succ] at hr ⊢
    refine execC_le (OLe.s h ?_) (fun c s r hr => ih _ _ _ hr) c s r hr
    intro f a V T r hr
    unfold callN at hr ⊢
    cases hf : F f with
    | none => rw [hf] at hr; simp at hr
    | some fn =>
      rw [hf] at hr
      simp only [] at hr ⊢
      cases he : execN o F n fn.body ⟨initE a, V, T⟩ with
      | none => rw [he] at hr; simp at hr
      | some x => rw [ih _ _ _ he]; rw [he] at hr; exact hr

/-! ### what it comes to -/
section
variable (orc : Orc) (F : FuncId → Option AFn)
def Ex (c : ACode) (s : St) (Q : Out → St → Prop) : Prop := ∃ n o s', execN orc F n c s = some (o, s') ∧ Q o s'
def OpsE (l : List AOper) (s : St) (Q : Out → St → Prop) : Prop := ∃ n o s', runOps orc (callN orc F n) l s = some (o, s') ∧ Q o s'
def thenQ (b : ACode) (Q : Out → St → Prop) : Out → St → Prop
  | .nrm, s => Ex orc F b s Q
  | o, s => Q o s
def blockQ (id : Nat) (Q : Out → St → Prop) : Out → St → Prop
  | .ext i, s => if i = id then Q .nrm s else Q (.ext i) s
  | o, s => Q o s
def loopQ (c : ACode) (Q : Out → St → Prop) : Out → St → Prop
  | .nrm, s => Ex orc F (.loop c) s Q
  | o, s => Q o s
/-- What a call with these values comes to, in a frame of its own. -/
def Cl (f : FuncId) (args : List D) (r : Res) : Prop := ∃ n V T, callN orc F n f args [] [] = some (r, V, T)
noncomputable def callV (f : FuncId) (args : List D) : Option Res :=
  open Classical in if h : ∃ r, Cl orc F f args r then some h.choose else none
noncomputable def callO (f : FuncId) (args : List D) (V : List VO) (T : List Nat) : Option (Res × List VO × List Nat) :=
  open Classical in if h : ∃ r, ∃ n, callN orc F n f args V T = some r then some h.choose else none
def acRun (call : CallF) (a : Option Ac) (d : Option Nat) (l : List AOper) (s : St) : Option (Out × St) :=
  match a with
  | none => none
  | some a => match doAc call s.V s.T a with
    | none => none
    | some (.ok x V T, _) => runOps orc call l ⟨putE s.e d x, V, T⟩
    | some (.pan x V T, _) => some (.pan x, ⟨s.e, V, T⟩)
def AcE (a : Option Ac) (d : Option Nat) (l : List AOper) (s : St) (Q : Out → St → Prop) : Prop :=
  ∃ n o s', acRun orc (callN orc F n) a d l s = some (o, s') ∧ Q o s'
def GuE (g : Option Bool) (op : AOp) (d : Option Nat) (l : List AOper) (s : St) (Q : Out → St → Prop) : Prop :=
  match g with
  | none => False
  | some false => OpsE orc F l ⟨putE s.e d und, s.V, s.T⟩ Q
  | some true => AcE orc F (act orc s.e op) d l s Q
end

section
variable {orc : Orc} {F : FuncId → Option AFn} {Q : Out → St → Prop} {s : St}
theorem Cl_det {f : FuncId} {args : List D} {r r' : Res} (h : Cl orc F f args r) (h' : Cl orc F f args r') : r = r' := by
  obtain ⟨n, V, T, h⟩ := h
  obtain ⟨m, V', T', h'⟩ := h'
  have h1 := callN_mono (orc := orc) (F := F) (Nat.le_max_left n m) _ _ _ _ _ h
  have h2 := callN_mono (orc := orc) (F := F) (Nat.le_max_right n m) _ _ _ _ _ h'
  rw [h1] at h2
  simp only [Option.some.injEq, Prod.mk.injEq] at h2
  exact h2.1
theorem callV_of {f : FuncId} {args : List D} {r : Res} (h : Cl orc F f args r) : callV orc F f args = some r := by
  have hx : ∃ r, Cl orc F f args r := ⟨r, h⟩
  unfold callV
  rw [dif_pos hx]
  exact congrArg some (Cl_det hx.choose_spec h)
theorem Cl_table {o o' : Orc} (h : OLe F o o') {f : FuncId} {args : List D} {r : Res} (hc : Cl o F f args r) : Cl o' F f args r := by
  obtain ⟨n, V, T, hr⟩ := hc
  refine ⟨n, V, T, ?_⟩
  unfold callN at hr ⊢
  cases hf : F f with
  | none => rw [hf] at hr; simp at hr
  | some fn =>
    rw [hf] at hr
    simp only [] at hr ⊢
    cases he : execN o F n fn.body ⟨initE args, [], []⟩ with
    | none => rw [he] at hr; simp at hr
    | some x => rw [execN_table h _ _ _ _ he]; rw [he] at hr; exact hr
theorem of_callV {f : FuncId} {args : List D} {r : Res} (h : callV orc F f args = some r) : Cl orc F f args r := by
  unfold callV at h
  split at h
  · rename_i hx
    have := hx.choose_spec
    rwa [Option.some.inj h] at this
  · simp at h
theorem callV_table {o o' : Orc} (h : OLe F o o') {f : FuncId} {args : List D} {r : Res} (hc : callV o F f args = some r) : callV o' F f args = some r := callV_of (Cl_table h (of_callV hc))
theorem callO_of {f : FuncId} {args : List D} {V : List VO} {T : List Nat} {r : Res × List VO × List Nat} {n : Nat} (h : callN orc F n f args V T = some r) : callO orc F f args V T = some r := by
  have hx : ∃ r, ∃ n, callN orc F n f args V T = some r := ⟨r, n, h⟩
  unfold callO
  rw [dif_pos hx]
  obtain ⟨m, hm⟩ := hx.choose_spec
  have h1 := callN_mono (orc := orc) (F := F) (Nat.le_max_left n m) _ _ _ _ _ h
  have h2 := callN_mono (orc := orc) (F := F) (Nat.le_max_right n m) _ _ _ _ _ hm
  rw [h1] at h2
  exact h2.symm
theorem of_callO {f : FuncId} {args : List D} {V : List VO} {T : List Nat} {r : Res × List VO × List Nat} (h : callO orc F f args V T = some r) : ∃ n, callN orc F n f args V T = some r := by
  unfold callO at h
  split at h
  · rename_i hx
    have := hx.choose_spec
    rwa [Option.some.inj h] at this
  · simp at h

theorem Ex_mono {c : ACode} {Q' : Out → St → Prop} (h : Ex orc F c s Q) (hq : ∀ o s, Q o s → Q' o s) : Ex orc F c s Q' :=
  let ⟨n, o, s', h1, h2⟩ := h; ⟨n, o, s', h1, hq _ _ h2⟩
theorem Ex_succ {c : ACode} : Ex orc F c s Q ↔ ∃ n o s', execN orc F (n + 1) c s = some (o, s') ∧ Q o s' :=
  ⟨fun ⟨n, o, s', h, q⟩ => ⟨n, o, s', execN_step _ _ _ _ h, q⟩, fun ⟨n, o, s', h, q⟩ => ⟨n + 1, o, s', h, q⟩⟩
theorem Ex_skip : Ex orc F .skip s Q ↔ Q .nrm s :=
  ⟨fun ⟨n, o, s', h, q⟩ => by
    cases n with
    | zero => simp [execN] at h
    | succ n => rw [execN_succ] at h; simp only [execC, Option.some.injEq, Prod.mk.injEq] at h; rwa [← h.1, ← h.2] at q, fun h => ⟨1, _, _, rfl, h⟩⟩
theorem Ex_ret : Ex orc F .ret s Q ↔ Q .ret s :=
  ⟨fun ⟨n, o, s', h, q⟩ => by
    cases n with
    | zero => simp [execN] at h
    | succ n => rw [execN_succ] at h; simp only [execC, Option.some.injEq, Prod.mk.injEq] at h; rwa [← h.1, ← h.2] at q, fun h => ⟨1, _, _, rfl, h⟩⟩
theorem Ex_exit {id : Nat} : Ex orc F (.exit id) s Q ↔ Q (.ext id) s :=
  ⟨fun ⟨n, o, s', h, q⟩ => by
    cases n with
    | zero => simp [execN] at h
    | succ n => rw [execN_succ] at h; simp only [execC, Option.some.injEq, Prod.mk.injEq] at h; rwa [← h.1, ← h.2] at q, fun h => ⟨1, _, _, rfl, h⟩⟩
theorem Ex_reg {l : List AOper} : Ex orc F (.reg l) s Q ↔ OpsE orc F l s Q :=
  ⟨fun ⟨n, o, s', h, q⟩ => by
    cases n with
    | zero => simp [execN] at h
    | succ n => rw [execN_succ] at h; exact ⟨n, o, s', h, q⟩, fun ⟨n, o, s', h, q⟩ => ⟨n + 1, o, s', h, q⟩⟩
theorem Ex_seq {a b : ACode} : Ex orc F (.seq a b) s Q ↔ Ex orc F a s (thenQ orc F b Q) := by
  constructor
  · rintro ⟨n, o, s', h, q⟩
    cases n with
    | zero => simp [execN] at h
    | succ n =>
      rw [execN_succ] at h
      simp only [execC] at h
      cases ha : execC orc (callN orc F n) (fun c s => execN orc F n (.loop c) s) a s with
      | none => rw [ha] at h; simp at h
      | some x =>
        obtain ⟨o1, s1⟩ := x
        rw [ha] at h
        refine ⟨n + 1, o1, s1, ha, ?_⟩
        cases o1 with
        | nrm => exact ⟨n + 1, o, s', h, q⟩
        | _ =>
          simp only [Option.some.injEq, Prod.mk.injEq] at h
          obtain ⟨rfl, rfl⟩ := h
          exact q
  · rintro ⟨n, o1, s1, h, q⟩
    cases n with
    | zero => simp [execN] at h
    | succ n =>
      rw [execN_succ] at h
      cases o1 with
      | nrm =>
        obtain ⟨m, o, s', h2, q2⟩ := q
        have h1 : execN orc F (n + 1) a s = some (.nrm, s1) := h
        have h1' := execN_le (Nat.le_trans (Nat.le_max_left (n + 1) m) (Nat.le_succ _)) h1
        have h2' := execN_le (Nat.le_trans (Nat.le_max_right (n + 1) m) (Nat.le_succ _)) h2
        refine ⟨max (n + 1) m + 1, o, s', ?_, q2⟩
        rw [execN_succ] at h1' h2' ⊢
        simp only [execC, h1']
        exact h2'
      | ext i => exact ⟨n + 1, _, s1, by rw [execN_succ]; simp only [execC, h], q⟩
      | ret => exact ⟨n + 1, _, s1, by rw [execN_succ]; simp only [execC, h], q⟩
      | pan d => exact ⟨n + 1, _, s1, by rw [execN_succ]; simp only [execC, h], q⟩
theorem Ex_cond {c : Opd} {a b : ACode} {t : Bool} (h : ev s.e c = .c (.v (.bool t))) : Ex orc F (.cond c a b) s Q ↔ if t = true then Ex orc F a s Q else Ex orc F b s Q := by
  constructor
  · rintro ⟨n, o, s', hn, q⟩
    cases n with
    | zero => simp [execN] at hn
    | succ n =>
      rw [execN_succ] at hn
      simp only [execC, h] at hn
      cases t with
      | true => exact ⟨n + 1, o, s', hn, q⟩
      | false => exact ⟨n + 1, o, s', hn, q⟩
  · intro hx
    cases t with
    | true =>
      obtain ⟨n, o, s', hn, q⟩ := Ex_succ.1 hx
      exact ⟨n + 1, o, s', by rw [execN_succ] at hn ⊢; simp only [execC, h]; exact hn, q⟩
    | false =>
      obtain ⟨n, o, s', hn, q⟩ := Ex_succ.1 (by simpa using hx)
      exact ⟨n + 1, o, s', by rw [execN_succ] at hn ⊢; simp only [execC, h]; exact hn, q⟩
theorem Ex_block {id : Nat} {c : ACode} : Ex orc F (.block id c) s Q ↔ Ex orc F c s (blockQ id Q) := by
  constructor
  · rintro ⟨n, o, s', h, q⟩
    cases n with
    | zero => simp [execN] at h
    | succ n =>
      rw [execN_succ] at h
      simp only [execC] at h
      cases ha : execC orc (callN orc F n) (fun c s => execN orc F n (.loop c) s) c s with
      | none => rw [ha] at h; simp at h
      | some x =>
        obtain ⟨o1, s1⟩ := x
        rw [ha] at h
        refine ⟨n + 1, o1, s1, ha, ?_⟩
        cases o1 with
        | ext i =>
          simp only [] at h
          simp only [blockQ]
          split at h <;> rename_i hi
          · rw [if_pos hi]; simp only [Option.some.injEq, Prod.mk.injEq] at h; rwa [← h.1, ← h.2] at q
          · rw [if_neg hi]; simp only [Option.some.injEq, Prod.mk.injEq] at h; rwa [← h.1, ← h.2] at q
        | _ =>
          simp only [Option.some.injEq, Prod.mk.injEq] at h
          simp only [blockQ]
          rwa [← h.1, ← h.2] at q
  · rintro ⟨n, o1, s1, h, q⟩
    obtain ⟨m, hm⟩ : ∃ m, execN orc F (m + 1) c s = some (o1, s1) := ⟨n, execN_step _ _ _ _ h⟩
    rw [execN_succ] at hm
    cases o1 with
    | ext i =>
      simp only [blockQ] at q
      split at q <;> rename_i hi
      · exact ⟨m + 1, _, s1, by rw [execN_succ]; simp only [execC, hm]; rw [if_pos hi], q⟩
      · exact ⟨m + 1, _, s1, by rw [execN_succ]; simp only [execC, hm]; rw [if_neg hi], q⟩
    | nrm => exact ⟨m + 1, _, s1, by rw [execN_succ]; simp only [execC, hm], q⟩
    | ret => exact ⟨m + 1, _, s1, by rw [execN_succ]; simp only [execC, hm], q⟩
    | pan d => exact ⟨m + 1, _, s1, by rw [execN_succ]; simp only [execC, hm], q⟩
/-- One round. -/
theorem Ex_loop {c : ACode} : Ex orc F (.loop c) s Q ↔ Ex orc F c s (loopQ orc F c Q) := by
  constructor
  · rintro ⟨n, o, s', h, q⟩
    cases n with
    | zero => simp [execN] at h
    | succ n =>
      rw [execN_succ] at h
      simp only [execC] at h
      cases ha : execC orc (callN orc F n) (fun c s => execN orc F n (.loop c) s) c s with
      | none => rw [ha] at h; simp at h
      | some x =>
        obtain ⟨o1, s1⟩ := x
        rw [ha] at h
        refine ⟨n + 1, o1, s1, ha, ?_⟩
        cases o1 with
        | nrm => exact ⟨n, o, s', h, q⟩
        | _ =>
          simp only [Option.some.injEq, Prod.mk.injEq] at h
          simp only [loopQ]
          rwa [← h.1, ← h.2] at q
  · rintro ⟨n, o1, s1, h, q⟩
    obtain ⟨m, hm⟩ : ∃ m, execN orc F (m + 1) c s = some (o1, s1) := ⟨n, execN_step _ _ _ _ h⟩
    cases o1 with
    | nrm =>
      obtain ⟨k, o, s', h2, q2⟩ := q
      have h1' := execN_le (Nat.succ_le_succ (Nat.le_max_left m k)) hm
      have h2' := execN_le (Nat.le_max_right m k) h2
      refine ⟨max m k + 1, o, s', ?_, q2⟩
      rw [execN_succ] at h1' ⊢
      simp only [execC, h1']
      exact h2'
    | ext i => rw [execN_succ] at hm; exact ⟨m + 1, _, s1, by rw [execN_succ]; simp only [execC, hm], q⟩
    | ret => rw [execN_succ] at hm; exact ⟨m + 1, _, s1, by rw [execN_succ]; simp only [execC, hm], q⟩
    | pan d => rw [execN_succ] at hm; exact ⟨m + 1, _, s1, by rw [execN_succ]; simp only [execC, hm], q⟩

theorem thenQ_nrm {b : ACode} : thenQ orc F b Q .nrm s = Ex orc F b s Q := rfl
theorem thenQ_ret {b : ACode} : thenQ orc F b Q .ret s = Q .ret s := rfl
theorem thenQ_ext {b : ACode} {i : Nat} : thenQ orc F b Q (.ext i) s = Q (.ext i) s := rfl
theorem thenQ_pan {b : ACode} {d : D} : thenQ orc F b Q (.pan d) s = Q (.pan d) s := rfl
theorem loopQ_nrm {b : ACode} : loopQ orc F b Q .nrm s = Ex orc F (.loop b) s Q := rfl
theorem loopQ_ret {b : ACode} : loopQ orc F b Q .ret s = Q .ret s := rfl
theorem loopQ_ext {b : ACode} {i : Nat} : loopQ orc F b Q (.ext i) s = Q (.ext i) s := rfl
theorem loopQ_pan {b : ACode} {d : D} : loopQ orc F b Q (.pan d) s = Q (.pan d) s := rfl
theorem blockQ_nrm {id : Nat} : blockQ id Q .nrm s = Q .nrm s := rfl
theorem blockQ_ret {id : Nat} : blockQ id Q .ret s = Q .ret s := rfl
theorem blockQ_ext {id i : Nat} : blockQ id Q (.ext i) s = if i = id then Q .nrm s else Q (.ext i) s := rfl
theorem blockQ_pan {id : Nat} {d : D} : blockQ id Q (.pan d) s = Q (.pan d) s := rfl

/-! ### operations -/
theorem OpsE_nil : OpsE orc F [] s Q ↔ Q .nrm s :=
  ⟨fun ⟨n, o, s', h, q⟩ => by simp only [runOps, Option.some.injEq, Prod.mk.injEq] at h; rwa [← h.1, ← h.2] at q, fun h => ⟨0, _, _, rfl, h⟩⟩
theorem OpsE_plain {d : Option Nat} {op : AOp} {l : List AOper} : OpsE orc F (⟨d, none, op⟩ :: l) s Q ↔ AcE orc F (act orc s.e op) d l s Q := by
  exact Iff.rfl
theorem OpsE_guard {d : Option Nat} {t : Nat} {w : Bool} {op : AOp} {l : List AOper} :
    OpsE orc F (⟨d, some (t, w), op⟩ :: l) s Q ↔ GuE orc F (guardD s.e (some (t, w))) op d l s Q := by
  unfold OpsE
  simp only [runOps]
  cases hg : guardD s.e (some (t, w)) with
  | none => simp [GuE]
  | some b =>
    cases b with
    | false => simp only [GuE]; exact Iff.rfl
    | true => simp only [GuE]; exact Iff.rfl
theorem GuE_false {op : AOp} {d : Option Nat} {l : List AOper} : GuE orc F (some false) op d l s Q ↔ OpsE orc F l ⟨putE s.e d und, s.V, s.T⟩ Q := Iff.rfl
theorem GuE_true {op : AOp} {d : Option Nat} {l : List AOper} : GuE orc F (some true) op d l s Q ↔ AcE orc F (act orc s.e op) d l s Q := Iff.rfl
theorem GuE_if {b : Bool} {op : AOp} {d : Option Nat} {l : List AOper} :
    GuE orc F (some b) op d l s Q ↔ if b = true then AcE orc F (act orc s.e op) d l s Q else OpsE orc F l ⟨putE s.e d und, s.V, s.T⟩ Q := by
  cases b <;> simp [GuE]
section
variable {d : Option Nat} {l : List AOper}
theorem AcE_q {x : D} : AcE orc F (some (.q x)) d l s Q ↔ OpsE orc F l ⟨putE s.e d x, s.V, s.T⟩ Q := Iff.rfl
theorem AcE_rd {id : Nat} {f : List D → Option D} {o : VO} {x : D} (h : s.V[id]? = some o) (hi : o.it = false) (hx : f o.cs = some x) :
    AcE orc F (some (.rd id f)) d l s Q ↔ OpsE orc F l ⟨putE s.e d x, s.V, s.T⟩ Q := by
  unfold AcE OpsE
  simp only [acRun, doAc, h, hi, hx, Bool.false_eq_true, if_false]
def rdE (orc : Orc) (F : FuncId → Option AFn) (o : Option VO) (f : List D → Option D) (d : Option Nat) (l : List AOper) (s : St) (Q : Out → St → Prop) : Prop :=
  match o with
  | some o => if o.it then False else match f o.cs with
    | some x => OpsE orc F l ⟨putE s.e d x, s.V, s.T⟩ Q
    | none => False
  | none => False
theorem AcE_rd' {id : Nat} {f : List D → Option D} : AcE orc F (some (.rd id f)) d l s Q ↔ rdE orc F s.V[id]? f d l s Q := by
  unfold AcE rdE
  simp only [acRun, doAc]
  cases s.V[id]? with
  | none => simp
  | some o =>
    simp only []
    by_cases hi : o.it = true
    · simp [hi]
    · simp only [hi, if_false, Bool.false_eq_true]
      cases f o.cs with
      | none => simp
      | some x => exact Iff.rfl
def wrE (orc : Orc) (F : FuncId → Option AFn) (id : Nat) (o : Option VO) (f : List D → Option (List D)) (d : Option Nat) (l : List AOper) (s : St) (Q : Out → St → Prop) : Prop :=
  match o with
  | some o => if o.fz || o.it then False else match f o.cs with
    | some cs => OpsE orc F l ⟨putE s.e d und, s.V.set id ⟨o.t, false, false, cs⟩, s.T⟩ Q
    | none => False
  | none => False
theorem AcE_wr' {id : Nat} {f : List D → Option (List D)} : AcE orc F (some (.wr id f)) d l s Q ↔ wrE orc F id s.V[id]? f d l s Q := by
  unfold AcE wrE
  simp only [acRun, doAc]
  cases s.V[id]? with
  | none => simp
  | some o =>
    simp only []
    by_cases hi : (o.fz || o.it) = true
    · simp [hi]
    · simp only [hi, if_false, Bool.false_eq_true]
      cases f o.cs with
      | none => simp
      | some x => exact Iff.rfl
theorem AcE_push {t : TypeId} {it : Bool} {cs : List D} :
    AcE orc F (some (.push t it cs)) d l s Q ↔ OpsE orc F l ⟨putE s.e d (.mp s.V.length 0), s.V ++ [⟨t, it, false, cs⟩], s.T⟩ Q := Iff.rfl
theorem AcE_tp {mk : Nat → D} : AcE orc F (some (.tp mk)) d l s Q ↔ OpsE orc F l ⟨putE s.e d (mk s.T.length), s.V, s.T ++ [0]⟩ Q := Iff.rfl
def twE (orc : Orc) (F : FuncId → Option AFn) (id ver : Nat) (k : Option Nat) (x : D) (d : Option Nat) (l : List AOper) (s : St) (Q : Out → St → Prop) : Prop :=
  match k with
  | some k => if k = ver then OpsE orc F l ⟨putE s.e d x, s.V, s.T.set id (ver + 1)⟩ Q else False
  | none => False
theorem AcE_tw {id ver : Nat} {x : D} : AcE orc F (some (.tw id ver x)) d l s Q ↔ twE orc F id ver s.T[id]? x d l s Q := by
  unfold AcE twE
  simp only [acRun, doAc]
  cases s.T[id]? with
  | none => simp
  | some k =>
    simp only []
    by_cases hk : k = ver
    · simp only [hk, if_true]; exact Iff.rfl
    · simp [hk]
theorem AcE_pan {x : D} (hx : x.closed = true) : AcE orc F (some (.pan x)) d l s Q ↔ Q (.pan x) s := by
  unfold AcE
  simp only [acRun, doAc, hx, if_true]
  exact ⟨fun ⟨n, o, s', h, q⟩ => by simp only [Option.some.injEq, Prod.mk.injEq] at h; rwa [← h.1, ← h.2] at q, fun h => ⟨0, _, _, rfl, h⟩⟩
/-- A call whose values hold no address of a variable and no token. -/
def callE (orc : Orc) (F : FuncId → Option AFn) (r : Option Res) (f : FuncId) (args : List D) (d : Option Nat) (l : List AOper) (s : St) (Q : Out → St → Prop) : Prop :=
  match r with
  | some (.ret x) => if x.closed = true then OpsE orc F l ⟨putE s.e d x, s.V, s.T⟩ Q else AcE orc F (some (.call f args)) d l s Q
  | some (.pan x) => if x.closed = true then Q (.pan x) s else False
  | none => AcE orc F (some (.call f args)) d l s Q
theorem AcE_call {f : FuncId} {args : List D} (hc : closedL args = true) :
    AcE orc F (some (.call f args)) d l s Q ↔ callE orc F (callV orc F f args) f args d l s Q := by
  cases hv : callV orc F f args with
  | none => exact Iff.rfl
  | some r =>
    obtain ⟨k, V, T, hk⟩ := of_callV hv
    cases r with
    | ret x =>
      simp only [callE]
      by_cases hx : x.closed = true
      · rw [if_pos hx]
        unfold AcE OpsE
        constructor
        · rintro ⟨n, o, s', h, q⟩
          simp only [acRun, doAc, hc, if_true] at h
          cases hn : callN orc F n f args [] [] with
          | none => rw [hn] at h; simp at h
          | some y =>
            obtain ⟨r', V', T'⟩ := y
            obtain rfl : (.ret x : Res) = r' := Cl_det ⟨k, V, T, hk⟩ ⟨n, V', T', hn⟩
            rw [hn] at h
            simp only [hx, if_true] at h
            exact ⟨n, o, s', h, q⟩
        · rintro ⟨n, o, s', h, q⟩
          refine ⟨max k n, o, s', ?_, q⟩
          simp only [acRun, doAc, hc, if_true]
          rw [callN_mono (Nat.le_max_left k n) _ _ _ _ _ hk]
          simp only [hx, if_true]
          exact runOps_le (callN_mono (Nat.le_max_right k n)).s _ _ _ h
      · rw [if_neg hx]
    | pan x =>
      simp only [callE]
      unfold AcE
      constructor
      · rintro ⟨n, o, s', h, q⟩
        simp only [acRun, doAc, hc, if_true] at h
        cases hn : callN orc F n f args [] [] with
        | none => rw [hn] at h; simp at h
        | some y =>
          obtain ⟨r', V', T'⟩ := y
          obtain rfl : (.pan x : Res) = r' := Cl_det ⟨k, V, T, hk⟩ ⟨n, V', T', hn⟩
          rw [hn] at h
          by_cases hx : x.closed = true
          · simp only [hx, if_true, Option.some.injEq, Prod.mk.injEq] at h
            rw [if_pos hx]
            rwa [← h.1, ← h.2] at q
          · simp [hx] at h
      · intro h
        by_cases hx : x.closed = true
        · rw [if_pos hx] at h
          exact ⟨k, _, _, by simp only [acRun, doAc, hc, if_true, hk, hx], h⟩
        · rw [if_neg hx] at h; exact h.elim
end
theorem of_Ex {f : FuncId} {fn : AFn} {args : List D} {x : D} (hf : F f = some fn)
    (h : Ex orc F fn.body ⟨initE args, [], []⟩ fun o s => (match o with | .nrm | .ret => True | _ => False) ∧ ressD s fn.res = some x) : callV orc F f args = some (.ret x) := by
  obtain ⟨n, o, s, hn, ho, hr⟩ := h
  refine callV_of ⟨n, s.V, s.T, ?_⟩
  unfold callN
  simp only [hf, hn]
  cases o with
  | nrm => simp only [hr]
  | ret => simp only [hr]
  | ext i => exact ho.elim
  | pan d => exact ho.elim
def retQ (res : List ARes) (x : D) : Out → St → Prop
  | .nrm, s | .ret, s => ressD s res = some x
  | _, _ => False
theorem callV_ret {f : FuncId} {fn : AFn} {args : List D} {x : D} (hf : F f = some fn)
    (h : Ex orc F fn.body ⟨initE args, [], []⟩ (retQ fn.res x)) : callV orc F f args = some (.ret x) :=
  of_Ex hf (Ex_mono h fun o s hq => by cases o <;> simp_all [retQ])
end
end Go.Abs

end
section
/- Own framework, part 25: code, functions: the whole. -/
set_option linter.unusedVariables false
set_option linter.unusedSimpArgs false
namespace Go.Abs
open Go.RowKit (Below)

section
variable {P : Program} {orc : Orc} {call : CallF} {ds : List Deferred} {nt : Nat} {w0 : World} {g0 : Gh} {T0 : List Nat}

theorem QOk_then {K : Act → World → Prop} {Q : Exit → Act → World → Prop} {r : Out × St} (h1 : ∀ s, r = (.nrm, s) → ∀ a w, Lay ds nt w0 g0 T0 s a w → K a w) (h2 : (∀ s, r ≠ (.nrm, s)) → QOk ds nt w0 g0 T0 Q r) :
    QOk ds nt w0 g0 T0 (Exit.then K Q) r := by
  obtain ⟨o, s⟩ := r
  cases o with
  | nrm => exact fun a w h => h1 s rfl a w h
  | ext id => exact h2 (fun s e => by simp at e)
  | ret => exact h2 (fun s e => by simp at e)
  | pan d => exact h2 (fun s e => by simp at e)

theorem code_ok (hAg : AgOk P) (hC : CallOk P call) (hO : OrcOk P orc) (hw : P.follows .mixedOrders = true) {lf : ACode → St → Option (Out × St)} {n : Nat}
    (hlf : ∀ (c : Code) (ac : ACode) (s : St) (r : Out × St) (a : Act) (w : World) (Q : Exit → Act → World → Prop), trCode P nt c = some ac → Lay ds nt w0 g0 T0 s a w → lf ac s = some r → QOk ds nt w0 g0 T0 Q r → Code.rounds P c Q n a w) :
    ∀ (c : Code) (ac : ACode) (s : St) (r : Out × St) (a : Act) (w : World) (Q : Exit → Act → World → Prop), trCode P nt c = some ac → Lay ds nt w0 g0 T0 s a w → execC orc call lf ac s = some r → QOk ds nt w0 g0 T0 Q r →
      c.wp P Q a w ∧ (∀ c1, c = .loop c1 → Code.rounds P c1 Q (n + 1) a w) := by
  intro c
  induction c with
  | skip =>
    intro ac s r a w Q hm hL hr hq
    simp only [trCode, Option.some.injEq] at hm
    subst hm
    simp only [execC, Option.some.injEq] at hr
    subst hr
    exact ⟨wp_skip (hq a w hL), fun c1 e => by simp at e⟩
  | region id ops d =>
    intro ac s r a w Q hm hL hr hq
    refine ⟨?_, fun c1 e => by simp at e⟩
    cases d with
    | false =>
      simp only [trCode] at hm
      obtain ⟨l, h1, h2⟩ := Option.map_eq_some_iff.1 hm
      subst h2
      exact reg_ok hAg hC hO h1 hL hr hq
    | true =>
      simp only [trCode] at hm
      obtain ⟨l, h1, h2⟩ := Option.bind_eq_some_iff.1 hm
      split at h2
      · rename_i hck
        simp only [Option.some.injEq] at h2
        subst h2
        rw [Bool.and_eq_true] at hck
        exact execDrw_ok hAg hC hO hw h1 hck.1 hck.2 hL hr hq
      · simp at h2
  | seq x y ihx ihy =>
    intro ac s r a w Q hm hL hr hq
    refine ⟨?_, fun c1 e => by simp at e⟩
    simp only [trCode] at hm
    obtain ⟨ax, h1, hm⟩ := Option.bind_eq_some_iff.1 hm
    obtain ⟨ay, h2, hm⟩ := Option.bind_eq_some_iff.1 hm
    simp only [Option.some.injEq] at hm
    subst hm
    simp only [execC] at hr
    cases hx : execC orc call lf ax s with
    | none => simp [hx] at hr
    | some rx =>
      rw [hx] at hr
      refine wp_seq (ihx ax s rx a w _ h1 hL hx (QOk_then (fun s' e a' w' hL' => ?_) (fun hne => ?_))).1
      · subst e
        exact (ihy ay s' r a' w' Q h2 hL' hr hq).1
      · have : r = rx := by
          obtain ⟨o, s'⟩ := rx
          cases o with
          | nrm => exact absurd rfl (hne s')
          | _ => simpa using hr.symm
        rw [← this]
        exact hq
  | cond c x y ihx ihy =>
    intro ac s r a w Q hm hL hr hq
    refine ⟨?_, fun c1 e => by simp at e⟩
    simp only [trCode] at hm
    obtain ⟨c', h0, hm⟩ := Option.bind_eq_some_iff.1 hm
    obtain ⟨ax, h1, hm⟩ := Option.bind_eq_some_iff.1 hm
    obtain ⟨ay, h2, hm⟩ := Option.bind_eq_some_iff.1 hm
    simp only [Option.some.injEq] at hm
    subst hm
    simp only [execC] at hr
    split at hr
    · rename_i t ht
      obtain ⟨g, k1, k2, k3, k4⟩ := id hL
      have hv := opd_rep k3 h0
      rw [ht] at hv
      refine wp_cond (rep_sc hv) ?_
      cases t with
      | true => exact (ihx ax s r a w Q h1 hL hr hq).1
      | false => exact (ihy ay s r a w Q h2 hL hr hq).1
    · simp at hr
  | block id c ih =>
    intro ac s r a w Q hm hL hr hq
    refine ⟨?_, fun c1 e => by simp at e⟩
    simp only [trCode] at hm
    obtain ⟨c', h0, hm⟩ := Option.bind_eq_some_iff.1 hm
    simp only [Option.some.injEq] at hm
    subst hm
    simp only [execC] at hr
    cases hx : execC orc call lf c' s with
    | none => simp [hx] at hr
    | some rx =>
      rw [hx] at hr
      refine wp_block (ih c' s rx a w _ h0 hL hx ?_).1
      obtain ⟨o, s'⟩ := rx
      cases o with
      | nrm =>
        simp only [Option.some.injEq] at hr
        subst hr
        exact fun a w h => hq a w h
      | ext i =>
        intro a w h
        simp only [Exit.inBlock]
        simp only at hr
        split at hr
        · rename_i e
          simp only [Option.some.injEq] at hr
          subst hr
          rw [if_pos e]
          exact hq a w h
        · rename_i e
          simp only [Option.some.injEq] at hr
          subst hr
          rw [if_neg e]
          exact hq a w h
      | ret =>
        simp only [Option.some.injEq] at hr
        subst hr
        exact fun a w h => hq a w h
      | pan d =>
        simp only [Option.some.injEq] at hr
        subst hr
        exact fun a w v V T hd h => hq a w v V T hd h
  | loop c ih =>
    intro ac s r a w Q hm hL hr hq
    have key : Code.rounds P c Q (n + 1) a w := by
      simp only [trCode] at hm
      obtain ⟨c', h0, hm⟩ := Option.bind_eq_some_iff.1 hm
      simp only [Option.some.injEq] at hm
      subst hm
      simp only [execC] at hr
      cases hx : execC orc call lf c' s with
      | none => simp [hx] at hr
      | some rx =>
        rw [hx] at hr
        rw [rounds_succ]
        refine (ih c' s rx a w _ h0 hL hx (QOk_then (fun s' e a' w' hL' => ?_) (fun hne => ?_))).1
        · subst e
          exact hlf c c' s' r a' w' Q h0 hL' hr hq
        · have : r = rx := by
            obtain ⟨o, s'⟩ := rx
            cases o with
            | nrm => exact absurd rfl (hne s')
            | _ => simpa using hr.symm
          rw [← this]
          exact hq
    exact ⟨wp_loop_rounds (n + 1) key, fun c1 e => by simp only [Code.loop.injEq] at e; subst e; exact key⟩
  | exit id =>
    intro ac s r a w Q hm hL hr hq
    simp only [trCode, Option.some.injEq] at hm
    subst hm
    simp only [execC, Option.some.injEq] at hr
    subst hr
    exact ⟨wp_exit (hq a w hL), fun c1 e => by simp at e⟩
  | ret =>
    intro ac s r a w Q hm hL hr hq
    simp only [trCode, Option.some.injEq] at hm
    subst hm
    simp only [execC, Option.some.injEq] at hr
    subst hr
    exact ⟨wp_ret (hq a w hL), fun c1 e => by simp at e⟩
  | _ => intro ac s r a w Q hm; simp [trCode] at hm
end
end Go.Abs

end
section
/- Own framework, part 27: structs and arrays held against each other, cell for cell. -/
set_option linter.unusedVariables false
set_option linter.unusedSimpArgs false
namespace Go.Abs

theorem eqCells_append : ∀ {k1 k2 : List EK} {xs ys : List D} {r : Bool}, eqCells (k1 ++ k2) xs ys = some r → ∃ r1 r2, eqCells k1 (xs.take k1.length) (ys.take k1.length) = some r1 ∧ eqCells k2 (xs.drop k1.length) (ys.drop k1.length) = some r2 ∧ r = (r1 && r2)
  | [], k2, xs, ys, r, h => ⟨true, r, rfl, h, rfl⟩
  | k :: k1, k2, [], ys, r, h => by simp [eqCells] at h
  | k :: k1, k2, x :: xs, [], r, h => by simp [eqCells] at h
  | k :: k1, k2, x :: xs, y :: ys, r, h => by
    simp only [List.cons_append, eqCells] at h
    cases hc : eqCell k x y with
    | none => simp [hc] at h
    | some b =>
      simp only [hc] at h
      cases hr : eqCells (k1 ++ k2) xs ys with
      | none => simp [hr] at h
      | some r' =>
        simp only [hr, Option.some.injEq] at h
        obtain ⟨r1, r2, h1, h2, h3⟩ := eqCells_append hr
        refine ⟨b && r1, r2, ?_, by simpa using h2, by rw [← h, h3, Bool.and_assoc]⟩
        simp only [List.length_cons, List.take_succ_cons, eqCells, hc, h1]
theorem eqCells_len : ∀ {ks : List EK} {xs ys : List D} {r : Bool}, eqCells ks xs ys = some r → xs.length = ks.length ∧ ys.length = ks.length
  | [], [], [], _, _ => ⟨rfl, rfl⟩
  | [], x :: xs, ys, r, h => by simp [eqCells] at h
  | [], [], y :: ys, r, h => by simp [eqCells] at h
  | k :: ks, [], ys, r, h => by simp [eqCells] at h
  | k :: ks, x :: xs, [], r, h => by simp [eqCells] at h
  | k :: ks, x :: xs, y :: ys, r, h => by
    simp only [eqCells] at h
    cases hc : eqCell k x y with
    | none => simp [hc] at h
    | some b =>
      simp only [hc] at h
      cases hr : eqCells ks xs ys with
      | none => simp [hr] at h
      | some r' =>
        obtain ⟨h1, h2⟩ := eqCells_len hr
        simp [h1, h2]

section
variable {P : Program} {w : World} {g : Gh} {T : List Nat}

theorem repL_seg_of {cs : Array Value} {ds : List D} (h : RepL w g T cs ds) {off k : Nat} (hk : off + k ≤ ds.length) : RepL w g T (cs.extract off (off + k)) ((ds.drop off).take k) := by
  have h1 := h.1
  refine ⟨by simp; omega, fun i hi => ?_⟩
  simp at hi
  simp only [List.getElem_take, List.getElem_drop]
  have := h.2 (off + i) (by omega)
  rw [Array.getD_eq_getD_getElem?] at this ⊢
  rw [Array.getElem?_extract, if_pos (by omega)]
  exact this

/-- One kind: its cell. -/
theorem cell_seg {k : EK} {xs ys : List D} {off : Nat} {r : Bool} {cx cy : Array Value} (hx : RepL w g T cx xs) (hy : RepL w g T cy ys) (h : eqCells [k] ((xs.drop off).take 1) ((ys.drop off).take 1) = some r) :
    ∃ vx vy dx dy, cx[off]? = some vx ∧ cy[off]? = some vy ∧ RepD w g T vx dx ∧ RepD w g T vy dy ∧ eqCell k dx dy = some r := by
  cases h1 : (xs.drop off).take 1 with
  | nil => rw [h1] at h; simp [eqCells] at h
  | cons dx rx =>
    cases h2 : (ys.drop off).take 1 with
    | nil => rw [h1, h2] at h; simp [eqCells] at h
    | cons dy ry =>
      have e1 : xs[off]? = some dx := by
        have : ((xs.drop off).take 1)[0]? = some dx := by rw [h1]; rfl
        rw [List.getElem?_take] at this
        simpa using this
      have e2 : ys[off]? = some dy := by
        have : ((ys.drop off).take 1)[0]? = some dy := by rw [h2]; rfl
        rw [List.getElem?_take] at this
        simpa using this
      obtain ⟨vx, k1, k2⟩ := hx.at e1
      obtain ⟨vy, k3, k4⟩ := hy.at e2
      refine ⟨vx, vy, dx, dy, k1, k3, k2, k4, ?_⟩
      obtain ⟨l1, l2⟩ := eqCells_len h
      rw [h1] at l1
      rw [h2] at l2
      rw [h1, h2] at h
      simp at l1 l2
      subst l1
      subst l2
      simp only [eqCells] at h
      cases hc : eqCell k dx dy with
      | none => simp [hc] at h
      | some b => simpa [hc] using h

def SegOk (P : Program) (w : World) (g : Gh) (T : List Nat) (d : Nat) (t : TypeId) (ks : List EK) : Prop := ∀ (cx cy : Array Value) (xs ys : List D) (off : Nat) (r : Bool), RepL w g T cx xs → RepL w g T cy ys → off + ks.length ≤ xs.length → off + ks.length ≤ ys.length →
  eqCells ks ((xs.drop off).take ks.length) ((ys.drop off).take ks.length) = some r → ∃ px py, (part t cx off).run P w = .ok px w ∧ (part t cy off).run P w = .ok py w ∧ (Op.equalIn d t px py).run P w = .ok r w

theorem seg_split {k1 k2 : List EK} {xs ys : List D} {off : Nat} {r : Bool} (h : eqCells (k1 ++ k2) ((xs.drop off).take (k1 ++ k2).length) ((ys.drop off).take (k1 ++ k2).length) = some r) :
    ∃ r1 r2, eqCells k1 ((xs.drop off).take k1.length) ((ys.drop off).take k1.length) = some r1 ∧ eqCells k2 ((xs.drop (off + k1.length)).take k2.length) ((ys.drop (off + k1.length)).take k2.length) = some r2 ∧ r = (r1 && r2) := by
  obtain ⟨r1, r2, h1, h2, h3⟩ := eqCells_append h
  refine ⟨r1, r2, ?_, ?_, h3⟩
  · rw [List.length_append, List.take_take, List.take_take, Nat.min_eq_left (by omega)] at h1
    exact h1
  · rw [List.length_append, List.drop_take, List.drop_take, List.drop_drop, List.drop_drop, Nat.add_sub_cancel_left] at h2
    exact h2

theorem fields_eq {pe : TypeId → Option (List EK)} {d : Nat} (hpe : ∀ t ks, pe t = some ks → SegOk P w g T d t ks) {cx cy : Array Value} {xs ys : List D} (hx : RepL w g T cx xs) (hy : RepL w g T cy ys) : ∀ (fs : List Field) (o : Nat) (ks : List EK) (r : Bool),
    plainFs pe fs o = some ks → o + ks.length ≤ xs.length → o + ks.length ≤ ys.length → eqCells ks ((xs.drop o).take ks.length) ((ys.drop o).take ks.length) = some r → (Op.eqFields d cx cy fs).run P w = .ok r w
  | [], o, ks, r, h, h1, h2, h3 => by
    simp only [plainFs, Option.some.injEq] at h
    subst h
    simp [eqCells] at h3
    subst h3
    rfl
  | f :: fs, o, ks, r, h, h1, h2, h3 => by
    simp only [plainFs] at h
    split at h
    · rename_i hc
      simp only [Bool.and_eq_true, bne_iff_ne, ne_eq, beq_iff_eq] at hc
      split at h
      · rename_i k1 hk1
        split at h
        · rename_i k2 hk2
          simp only [Option.some.injEq] at h
          subst h
          rw [List.length_append] at h1 h2
          obtain ⟨r1, r2, e1, e2, rfl⟩ := seg_split h3
          obtain ⟨px, py, p1, p2, p3⟩ := hpe _ _ hk1 cx cy xs ys o r1 hx hy (by omega) (by omega) e1
          have ih := fields_eq hpe hx hy fs (o + k1.length) k2 r2 hk2 (by omega) (by omega) e2
          simp only [Op.eqFields, ne_eq, hc.1, not_false_eq_true, if_true, hc.2, Sem.run_bind, p1, p2, p3, Result.andThen_ok]
          cases r1 with
          | false => simp
          | true => simpa using ih
        · simp at h
      · simp at h
    · simp at h

theorem plainEq_size : ∀ {n : Nat} {t : TypeId} {ks : List EK}, plainEq P n t = some ks → sizeT P t = some ks.length
  | 0, t, ks, h => by simp [plainEq] at h
  | n + 1, t, ks, h => by
    simp only [plainEq] at h
    split at h
    · split at h
      · simp only [Option.some.injEq] at h; subst h; assumption
      · simp at h
    · split at h
      · simp only [Option.some.injEq] at h; subst h; assumption
      · simp at h
    · split at h
      · simp only [Option.some.injEq] at h; subst h; assumption
      · simp at h
    · split at h
      · simp at h
      · split at h
        · split at h
          · simp only [Option.some.injEq] at h; subst h; assumption
          · simp at h
        · simp at h
    · split at h
      · split at h
        · rename_i hsz
          simp only [Option.some.injEq] at h; subst h
          simpa using hsz
        · simp at h
      · simp at h
    · simp at h

theorem items_eq {d : Nat} {e : TypeId} {ks : List EK} (hs : SegOk P w g T d e ks) {cx cy : Array Value} {xs ys : List D} (hx : RepL w g T cx xs) (hy : RepL w g T cy ys) : ∀ (m i : Nat) (r : Bool),
    i * ks.length + m * ks.length ≤ xs.length → i * ks.length + m * ks.length ≤ ys.length → eqCells (List.replicate m ks).flatten ((xs.drop (i * ks.length)).take (m * ks.length)) ((ys.drop (i * ks.length)).take (m * ks.length)) = some r →
    (forIn (m := Sem) (List.range' i m) (none, PUnit.unit) fun j (st : Option Bool × PUnit) => do
      let a ← part e cx (j * ks.length)
      let b ← part e cy (j * ks.length)
      let q ← Op.equalIn d e a b
      if (!q) = true then pure (ForInStep.done (some false, PUnit.unit)) else pure (ForInStep.yield (none, PUnit.unit))).run P w = .ok (if r then none else some false, PUnit.unit) w
  | 0, i, r, h1, h2, h3 => by
    simp [eqCells] at h3
    subst h3
    rfl
  | m + 1, i, r, h1, h2, h3 => by
    have hm : (m + 1) * ks.length = ks.length + m * ks.length := by rw [Nat.add_mul]; omega
    have hi : (i + 1) * ks.length = i * ks.length + ks.length := by rw [Nat.add_mul]; omega
    rw [List.replicate_succ, List.flatten_cons] at h3
    have hl : (ks ++ (List.replicate m ks).flatten).length = (m + 1) * ks.length := by simp [hm]
    rw [← hl] at h3
    obtain ⟨r1, r2, e1, e2, rfl⟩ := seg_split h3
    obtain ⟨px, py, p1, p2, p3⟩ := hs cx cy xs ys (i * ks.length) r1 hx hy (by omega) (by omega) e1
    have hl2 : (List.replicate m ks).flatten.length = m * ks.length := by simp
    rw [hl2, ← hi] at e2
    have ih := items_eq hs hx hy m (i + 1) r2 (by omega) (by omega) e2
    rw [List.range'_succ]
    simp only [List.forIn_cons, Sem.run_bind, p1, p2, p3, Result.andThen_ok]
    cases r1 with
    | false => simp
    | true => simpa using ih

theorem seg_ok : ∀ (n : Nat) (t : TypeId) (ks : List EK) (d : Nat), plainEq P n t = some ks → n ≤ d → SegOk P w g T d t ks
  | 0, t, ks, d, h, _ => by simp [plainEq] at h
  | n + 1, t, ks, 0, h, hd => by omega
  | n + 1, t, ks, d + 1, h, hd => by
    intro cx cy xs ys off r hx hy h1 h2 h3
    have hsz := plainEq_size h
    simp only [plainEq] at h
    split at h
    · rename_i hu
      split at h
      case isFalse => simp at h
      simp only [Option.some.injEq] at h
      subst h
      obtain ⟨vx, vy, dx, dy, k1, k2, k3, k4, k5⟩ := cell_seg hx hy h3
      refine ⟨vx, vy, by simp [part, isAgg, underlying_run hu, k1], by simp [part, isAgg, underlying_run hu, k2], ?_⟩
      unfold eqCell at k5
      split at k5 <;> first | contradiction | skip
      simp only [Option.some.injEq] at k5
      rw [rep_sc k3, rep_sc k4, ← k5]
      simp [Op.equalIn, underlying_run hu]
    · rename_i hu
      split at h
      case isFalse => simp at h
      simp only [Option.some.injEq] at h
      subst h
      obtain ⟨vx, vy, dx, dy, k1, k2, k3, k4, k5⟩ := cell_seg hx hy h3
      refine ⟨vx, vy, by simp [part, isAgg, underlying_run hu, k1], by simp [part, isAgg, underlying_run hu, k2], ?_⟩
      unfold eqCell at k5
      split at k5 <;> first | contradiction | skip
      split at k5 <;> first | contradiction | skip
      rename_i e
      subst e
      simp only [Option.some.injEq] at k5
      rw [rep_sc k3, rep_sc k4, ← k5]
      simp [Op.equalIn, underlying_run hu]
    · rename_i hu
      split at h
      case isFalse => simp at h
      simp only [Option.some.injEq] at h
      subst h
      obtain ⟨vx, vy, dx, dy, k1, k2, k3, k4, k5⟩ := cell_seg hx hy h3
      refine ⟨vx, vy, by simp [part, isAgg, underlying_run hu, k1], by simp [part, isAgg, underlying_run hu, k2], ?_⟩
      unfold eqCell at k5
      split at k5 <;> first | contradiction | skip
      simp only [Option.some.injEq] at k5
      rw [rep_sc k3, rep_sc k4, ← k5]
      simp [Op.equalIn, underlying_run hu, beq_toListBytes]
    · rename_i fs hu
      split at h
      · simp at h
      · rename_i hst
        split at h
        · rename_i ks' hfs
          split at h
          case isFalse => simp at h
          simp only [Option.some.injEq] at h
          subst h
          refine ⟨.agg (cx.extract off (off + ks'.length)), .agg (cy.extract off (off + ks'.length)), by simp [part, isAgg, underlying_run hu, sizeT_run hsz], by simp [part, isAgg, underlying_run hu, sizeT_run hsz], ?_⟩
          have hft : P.fieldsOf t = fs := by unfold Program.fieldsOf; rw [hu]
          rw [run_equalIn_struct w d t _ _ (by rw [hft]; exact hu) (by simpa using hst), hft]
          have l1 := repL_seg_of hx h1
          have l2 := repL_seg_of hy h2
          refine fields_eq (fun t' ks' h' => seg_ok n t' ks' d h' (by omega)) l1 l2 fs.toList 0 ks' r hfs (by simp; omega) (by simp; omega) ?_
          simpa [List.take_take] using h3
        · simp at h
    · rename_i len e hu
      split at h
      · rename_i ks' he
        split at h
        case isFalse => simp at h
        rename_i hsz'
        simp only [Option.some.injEq] at h
        subst h
        have hl : (List.replicate len ks').flatten.length = len * ks'.length := by simp
        rw [hl] at h1 h2 h3
        refine ⟨.agg (cx.extract off (off + len * ks'.length)), .agg (cy.extract off (off + len * ks'.length)), by simp [part, isAgg, underlying_run hu, sizeT_run hsz'], by simp [part, isAgg, underlying_run hu, sizeT_run hsz'], ?_⟩
        have l1 := repL_seg_of hx h1
        have l2 := repL_seg_of hy h2
        have hit := items_eq (seg_ok n e ks' d he (by omega)) l1 l2 len 0 r (by simp; omega) (by simp; omega) (by simpa [List.take_take] using h3)
        simp only [Op.equalIn, Sem.run_bind, underlying_run hu, Result.andThen_ok, sizeT_run (plainEq_size he), Std.Legacy.Range.forIn_eq_forIn_range', Std.Legacy.Range.size, Nat.sub_zero, Nat.add_sub_cancel, Nat.div_one]
        refine (congrArg (Result.andThen · _) hit).trans ?_
        cases r <;> rfl
      · simp at h
    · simp at h

theorem agOk (P : Program) : AgOk P := by
  intro t cx cy xs ys ks r w g T hag hp hx hy he
  obtain ⟨l1, l2⟩ := eqCells_len he
  obtain ⟨px, py, h1, h2, h3⟩ := seg_ok (P := P) (w := w) (g := g) (T := T) 30 t ks 10000 hp (by omega) cx cy xs ys 0 r hx hy (by omega) (by omega) (by rw [List.drop_zero, List.drop_zero, ← l1, List.take_length, l1, ← l2, List.take_length]; exact he)
  have e1 : px = .agg cx := by
    unfold part at h1
    simp only [Sem.run_bind, aggT_run hag, Result.andThen_ok, if_true, sizeT_run (plainEq_size hp), Sem.run_pure, Result.ok.injEq] at h1
    rw [← h1.1, Nat.zero_add, ← l1, ← hx.1, Array.extract_size]
  have e2 : py = .agg cy := by
    unfold part at h2
    simp only [Sem.run_bind, aggT_run hag, Result.andThen_ok, if_true, sizeT_run (plainEq_size hp), Sem.run_pure, Result.ok.injEq] at h2
    rw [← h2.1, Nat.zero_add, ← l2, ← hy.1, Array.extract_size]
  rw [e1, e2] at h3
  exact h3
end
end Go.Abs

end
section
/- Own framework, part 26: functions; what is computed is what the program does. -/
set_option linter.unusedVariables false
set_option linter.unusedSimpArgs false
namespace Go.Abs
open Go.RowKit (Below)

section
variable {P : Program} {orc : Orc} {call : CallF} {ds : List Deferred} {nt : Nat} {w0 w : World} {g0 g : Gh} {T0 T : List Nat} {V : List VO} {a : Act} {s : St}

theorem mapO_cons {α β : Type} {f : α → Option β} {x : α} {l : List α} {r : List β} (h : mapO f (x :: l) = some r) : ∃ y ys, f x = some y ∧ mapO f l = some ys ∧ r = y :: ys := by
  simp only [mapO] at h
  cases hx : f x with
  | none => simp [hx] at h
  | some y =>
    cases hl : mapO f l with
    | none => simp [hx, hl] at h
    | some ys =>
      simp [hx, hl] at h
      exact ⟨y, ys, rfl, rfl, h.symm⟩

theorem loadVar_mp {t : TypeId} {ag : Bool} {sz id off b : Nat} {vo : VO} {d : D} (ha : aggT P t = some ag) (hsz : sizeT P t = some sz) (hb : g.σ[id]? = some b) (ho : V[id]? = some vo) (hit : vo.it = false)
    (hd : partD ag vo.cs off sz = some d) (hs : Sim w g V T) : ∃ v, (loadVar t ⟨b, off, none⟩).run P w = .ok v w ∧ RepD w g T v d := by
  rcases hs.var id vo b ho hb with ⟨h2, _⟩ | ⟨_, arr, ty, fr, hh, hf, h1c, hr⟩
  · simp [hit] at h2
  unfold partD at hd
  split at hd
  case isFalse => simp at hd
  rename_i hle
  have hcell : ∀ i, i < sz → w.cell? ((⟨b, off, none⟩ : Addr).add i) = some (arr.getD (off + i) undef) := fun i hi => by
    rw [add0, cell_arr hh, getD_some (by rw [hr.1]; omega)]
  have hmk : (ag = true ∧ d = .ag ((vo.cs.drop off).take sz)) ∨ (ag = false ∧ (vo.cs.drop off).take sz = [d]) := by
    unfold mkV at hd
    split at hd
    · rename_i y hy
      cases ag <;> simp_all
    · cases ag <;> simp_all
  rcases hmk with ⟨rfl, rfl⟩ | ⟨rfl, hd1⟩
  · have hrun := loadVar_run (P := P) (w := w) (ag := true) ha hsz hcell (by simp)
    refine ⟨.agg ((List.range sz).map fun i => arr.getD (off + i) undef).toArray, by simpa using hrun, .ag (by simp; omega) ?_ ?_⟩
    · intro i hi
      simp at hi
      simp only [List.getElem_take, List.getElem_drop]
      exact h1c _ (by omega)
    · intro i hi
      simp at hi
      have hlt : i < sz := by omega
      simp only [List.getElem_take, List.getElem_drop]
      have := hr.2 (off + i) (by omega)
      simpa [Array.getD_eq_getD_getElem?, hlt] using this
  · have hsz1 : sz = 1 := by
      have := congrArg List.length hd1
      simp at this; omega
    have hrun := loadVar_run (P := P) (w := w) (ag := false) ha hsz hcell (fun _ => hsz1)
    refine ⟨arr.getD (off + 0) undef, by simpa using hrun, ?_⟩
    have hx2 : vo.cs[off]? = some d := by
      have : ((vo.cs.drop off).take sz)[0]? = some d := by rw [hd1]; rfl
      rw [List.getElem?_take] at this
      split at this
      · simpa using this
      · simp at this
    obtain ⟨y, hy, hry⟩ := hr.at hx2
    simpa [Array.getD_eq_getD_getElem?, hy] using hry

def resM (tmps : Array Value) : ResultVar → Sem Value
  | .tmp t => pure (tmps.getD t undef)
  | .cell c t => do loadVar t (← asAddr (tmps.getD c undef))
theorem res_one (hs : Sim w g s.V s.T) (he : EnvOk w g s.T a.tmps s.e) {r : ResultVar} {ar : ARes} {d : D} (hm : trRes P r = some ar) (hd : resD s ar = some d) :
    ∃ v, (resM a.tmps r).run P w = .ok v w ∧ RepD w g s.T v d := by
  cases r with
  | tmp t =>
    simp only [trRes, Option.some.injEq] at hm
    subst hm
    simp only [resD, Option.some.injEq] at hd
    subst hd
    exact ⟨_, rfl, he t⟩
  | cell c t =>
    simp only [trRes] at hm
    obtain ⟨ag, h1, hm⟩ := Option.bind_eq_some_iff.1 hm
    obtain ⟨sz, h2, hm⟩ := Option.bind_eq_some_iff.1 hm
    simp only [Option.some.injEq] at hm
    subst hm
    simp only [resD] at hd
    split at hd
    · rename_i id off hv
      split at hd
      · rename_i o ho
        split at hd
        · simp at hd
        · rename_i hit
          have hc := he c
          rw [hv] at hc
          obtain ⟨b, h3, h4⟩ := rep_mp hc
          obtain ⟨v, h5, h6⟩ := loadVar_mp h1 h2 h4 ho (by simpa using hit) hd hs
          exact ⟨v, by simp [resM, h3, asAddr, h5], h6⟩
      · simp at hd
    · simp at hd

theorem res_list (hs : Sim w g s.V s.T) (he : EnvOk w g s.T a.tmps s.e) : ∀ {l : List ResultVar} {rs : List ARes} {ds : List D}, mapO (trRes P) l = some rs → mapO (resD s) rs = some ds →
    ∃ vs : List Value, (l.mapM (resM a.tmps)).run P w = .ok vs w ∧ RepL w g s.T vs.toArray ds
  | [], rs, ds, h1, h2 => by
    simp only [mapO, Option.some.injEq] at h1
    subst h1
    simp only [mapO, Option.some.injEq] at h2
    subst h2
    exact ⟨[], rfl, rfl, fun i hi => absurd hi (Nat.not_lt_zero i)⟩
  | r :: l, rs, ds, h1, h2 => by
    obtain ⟨ar, ars, k1, k2, rfl⟩ := mapO_cons h1
    obtain ⟨d, ds', k3, k4, rfl⟩ := mapO_cons h2
    obtain ⟨v, k5, k6⟩ := res_one hs he k1 k3
    obtain ⟨vs, k7, k8, k9⟩ := res_list hs he k2 k4
    refine ⟨v :: vs, ?_, by simpa using k8, fun i hi => ?_⟩
    · rw [List.mapM_cons]
      simp only [Sem.run_bind, k5, Result.andThen_ok, k7, Sem.run_pure]
    · cases i with
      | zero => simpa using k6
      | succ i =>
        have := k9 i (by simpa using hi)
        simpa [Array.getD_eq_getD_getElem?] using this

theorem ress_ok {fn : Func} {rs : List ARes} {d : D} (hm : mapO (trRes P) fn.results.toList = some rs) (hd : ressD s rs = some d) (hL : Lay ds nt w0 g0 T0 s a w) :
    a.defers = ds ∧ ∃ v, (results fn a.tmps).run P w = .ok v w ∧ Got w0 g0 T0 w v d s.V s.T := by
  obtain ⟨g, h1, h2, h3, h4, h5, h6⟩ := hL
  refine ⟨h5, ?_⟩
  unfold ressD at hd
  cases hx : mapO (resD s) rs with
  | none => simp [hx] at hd
  | some ds =>
    obtain ⟨vs, k1, k2⟩ := res_list h2 h3 hm hx
    have hrun : (results fn a.tmps).run P w = .ok (if h : vs.toArray.size = 1 then vs.toArray[0] else .tuple vs.toArray) w := by
      have e : results fn a.tmps = (do
          let vs ← List.toArray <$> fn.results.toList.mapM (resM a.tmps)
          pure (if h : vs.size = 1 then vs[0] else .tuple vs)) := by
        unfold results
        rw [Array.mapM_eq_mapM_toList]
        rfl
      rw [e]
      simp only [Sem.run_bind, Sem.run_map, k1, Result.andThen_ok, Sem.run_pure]
    rw [hx] at hd
    refine ⟨_, hrun, g, h1, h2, ?_, h6⟩
    split at hd
    · rename_i x hxx
      simp only [Option.some.injEq] at hxx hd
      subst hxx
      subst hd
      have hsz : vs.toArray.size = 1 := by rw [k2.1]; rfl
      rw [dif_pos hsz]
      have := k2.2 0 (by simp)
      simp [Array.getD_eq_getD_getElem?, hsz] at this
      exact frz_rep this
    · rename_i xs hne hxx
      simp only [Option.some.injEq] at hxx hd
      subst hxx
      subst hd
      have hsz : vs.toArray.size ≠ 1 := by
        rw [k2.1]
        intro e
        obtain ⟨x, rfl⟩ := List.length_eq_one_iff.1 e
        exact hne x rfl
      rw [dif_neg hsz]
      have h := frzL_rep k2
      exact .tu h.1 h.2
    · rename_i hxx
      simp at hxx

theorem initE_ok {cargs : Array Value} {args : List D} (hr : RepL w g T cargs args) (n : Nat) : EnvOk w g T (cargs ++ Array.replicate n undef) (initE args) := by
  intro t
  unfold initE
  by_cases h : t < args.length
  · rw [List.getElem?_eq_getElem h]
    have := hr.2 t h
    rw [Array.getD_eq_getD_getElem?] at this ⊢
    rw [Array.getElem?_append_left (by rw [hr.1]; exact h)]
    exact this
  · rw [List.getElem?_eq_none (by omega)]
    have : (cargs ++ Array.replicate n undef).getD t undef = undef := by
      rw [Array.getD_eq_getD_getElem?, Array.getElem?_append_right (by rw [hr.1]; omega)]
      cases hx : (Array.replicate n undef)[t - cargs.size]? with
      | none => rfl
      | some y =>
        rw [Array.getElem?_replicate] at hx
        split at hx
        · simp only [Option.some.injEq] at hx; exact hx.symm
        · simp at hx
    rw [this]
    exact und_rep

theorem trFn_spec {f : FuncId} {af : AFn} (h : trFn P f = some af) : ∃ fn c, P.funcs[f]? = some fn ∧ (fn.name == "runtime.NumGoroutine") = false ∧ fn.body = some c ∧ trCode P fn.ntmps c = some af.body ∧ mapO (trRes P) fn.results.toList = some af.res := by
  unfold trFn at h
  obtain ⟨fn, h1, h⟩ := Option.bind_eq_some_iff.1 h
  split at h
  · simp at h
  · rename_i hn
    obtain ⟨b, h2, h⟩ := Option.bind_eq_some_iff.1 h
    obtain ⟨c, h3, h⟩ := Option.bind_eq_some_iff.1 h
    obtain ⟨r, h4, h⟩ := Option.bind_eq_some_iff.1 h
    simp only [Option.some.injEq] at h
    subst h
    exact ⟨fn, b, h1, by simpa using hn, h2, h3, h4⟩

/-- What comes out of a body. -/
def outOf (fn : AFn) : Option (Out × St) → Option (Res × List VO × List Nat)
  | some (.nrm, s') | some (.ret, s') => match ressD s' fn.res with
    | some d => some (.ret d, s'.V, s'.T)
    | none => none
  | some (.pan d, s') => some (.pan d, s'.V, s'.T)
  | _ => none
theorem callN_eq (F : FuncId → Option AFn) (n : Nat) (f : FuncId) (args : List D) (V : List VO) (T : List Nat) :
    callN orc F n f args V T = match F f with | none => none | some fn => outOf fn (execN orc F n fn.body ⟨initE args, V, T⟩) := by
  unfold callN outOf
  rfl

theorem callOk_of {n : Nat} (hx : ∀ (ds : List Deferred) (nt : Nat) (w0 : World) (g0 : Gh) (T0 : List Nat) (c : Code) (ac : ACode) (s : St) (r : Out × St) (a : Act) (w : World) (Q : Exit → Act → World → Prop),
    trCode P nt c = some ac → Lay ds nt w0 g0 T0 s a w → execN orc (trFn P) n ac s = some r → QOk ds nt w0 g0 T0 Q r → c.wp P Q a w) : CallOk P (callN orc (trFn P) n) := by
  intro f args V T r hr
  rw [callN_eq] at hr
  cases hf : trFn P f with
  | none => simp [hf] at hr
  | some af =>
    rw [hf] at hr
    simp only at hr
    obtain ⟨fn, c, h1, h2, h3, h4, h5⟩ := trFn_spec hf
    refine ⟨⟨fn, h1, h2, by simp [h3]⟩, fun w g cargs hS hR => calls_of_wp h1 h3 ?_⟩
    cases hex : execN orc (trFn P) n af.body ⟨initE args, V, T⟩ with
    | none => rw [hex] at hr; simp [outOf] at hr
    | some x =>
      rw [hex] at hr
      have hL : Lay [] fn.ntmps w g T ⟨initE args, V, T⟩ { tmps := cargs ++ Array.replicate (fn.ntmps - cargs.size) undef, defers := [] } w :=
        ⟨g, Ext.refl _ _ _, hS, initE_ok hR _, by simp; omega, rfl, Below.refl _ _⟩
      refine hx [] fn.ntmps w g T c af.body _ x _ w _ h4 hL hex ?_
      obtain ⟨o, s'⟩ := x
      cases o with
      | nrm =>
        intro a' w' hL'
        simp only [outOf] at hr
        cases hd : ressD s' af.res with
        | none => simp [hd] at hr
        | some d =>
          simp only [hd, Option.some.injEq] at hr
          subst hr
          obtain ⟨k1, v, k2, k3⟩ := ress_ok h5 hd hL'
          exact ⟨k1, v, k2, v, rfl, k3⟩
      | ret =>
        intro a' w' hL'
        simp only [outOf] at hr
        cases hd : ressD s' af.res with
        | none => simp [hd] at hr
        | some d =>
          simp only [hd, Option.some.injEq] at hr
          subst hr
          obtain ⟨k1, v, k2, k3⟩ := ress_ok h5 hd hL'
          exact ⟨k1, v, k2, v, rfl, k3⟩
      | pan d =>
        intro a' w' v V2 T2 hd hg
        simp only [outOf, Option.some.injEq] at hr
        subst hr
        exact ⟨hd, v, rfl, V2, T2, hg⟩
      | ext id => simp [outOf] at hr

theorem exec_ok (hAg : AgOk P) (hO : OrcOk P orc) (hw : P.follows .mixedOrders = true) : ∀ (n : Nat),
    (∀ (ds : List Deferred) (nt : Nat) (w0 : World) (g0 : Gh) (T0 : List Nat) (c : Code) (ac : ACode) (s : St) (r : Out × St) (a : Act) (w : World) (Q : Exit → Act → World → Prop),
      trCode P nt c = some ac → Lay ds nt w0 g0 T0 s a w → execN orc (trFn P) n ac s = some r → QOk ds nt w0 g0 T0 Q r → c.wp P Q a w) ∧
    (∀ (ds : List Deferred) (nt : Nat) (w0 : World) (g0 : Gh) (T0 : List Nat) (c : Code) (ac : ACode) (s : St) (r : Out × St) (a : Act) (w : World) (Q : Exit → Act → World → Prop),
      trCode P nt c = some ac → Lay ds nt w0 g0 T0 s a w → execN orc (trFn P) n (.loop ac) s = some r → QOk ds nt w0 g0 T0 Q r → Code.rounds P c Q n a w)
  | 0 => ⟨fun ds nt w0 g0 T0 c ac s r a w Q h1 h2 h3 => by simp [execN] at h3, fun ds nt w0 g0 T0 c ac s r a w Q h1 h2 h3 => by simp [execN] at h3⟩
  | n + 1 => by
    obtain ⟨ih1, ih2⟩ := exec_ok hAg hO hw n
    have hC : CallOk P (callN orc (trFn P) n) := callOk_of ih1
    have key : ∀ (ds : List Deferred) (nt : Nat) (w0 : World) (g0 : Gh) (T0 : List Nat) (c : Code) (ac : ACode) (s : St) (r : Out × St) (a : Act) (w : World) (Q : Exit → Act → World → Prop),
      trCode P nt c = some ac → Lay ds nt w0 g0 T0 s a w → execN orc (trFn P) (n + 1) ac s = some r → QOk ds nt w0 g0 T0 Q r → c.wp P Q a w ∧ (∀ c1, c = .loop c1 → Code.rounds P c1 Q (n + 1) a w) :=
      fun ds nt w0 g0 T0 c ac s r a w Q h1 h2 h3 h4 =>
        code_ok (lf := fun c s => execN orc (trFn P) n (.loop c) s) (n := n) hAg hC hO hw (fun c ac s r a w Q k1 k2 k3 k4 => ih2 ds nt w0 g0 T0 c ac s r a w Q k1 k2 k3 k4) c ac s r a w Q h1 h2 h3 h4
    refine ⟨fun ds nt w0 g0 T0 c ac s r a w Q h1 h2 h3 h4 => (key ds nt w0 g0 T0 c ac s r a w Q h1 h2 h3 h4).1, fun ds nt w0 g0 T0 c ac s r a w Q h1 h2 h3 h4 => ?_⟩
    exact (key ds nt w0 g0 T0 (.loop c) (.loop ac) s r a w Q (by simp [trCode, h1]) h2 h3 h4).2 c rfl

/-- **What is computed is what the program does.** -/
theorem callN_ok (hO : OrcOk P orc) (hw : P.follows .mixedOrders = true) (n : Nat) : CallOk P (callN orc (trFn P) n) := callOk_of (exec_ok (agOk P) hO hw n).1

/-- The law's own call: closed arguments, in a world of its own. -/
theorem law_ok (hO : OrcOk P orc) (hw : P.follows .mixedOrders = true) {f : FuncId} {args : List D} {x : Value} (hv : callV orc (trFn P) f args = some (.ret (.c (.v x)))) {w : World} {I : Nat → Nat → Prop} (hI : ∀ b o, I b o → b < w.heap.size)
    {cargs : Array Value} (hr : RepL w ⟨w.heap.size, [], [], I⟩ [] cargs args) : Calls P f cargs w fun e w' => e = .returned x ∧ Below w.heap.size w w' := by
  obtain ⟨n, V, T, hn⟩ := of_callV hv
  have hS : Sim w ⟨w.heap.size, [], [], I⟩ [] [] := Sim.clear (w := w) (g := ⟨0, [], [], I⟩) (V := []) (T := []) ⟨rfl, rfl, fun id o b ho => by simp at ho, fun id tg ht => by simp at ht, by simp, fun b hb => by simp at hb, Nat.zero_le _, hI, fun b o id vo hi hs => by simp at hs, fun b o id tg hi ht => by simp at ht⟩
  refine ((callN_ok hO hw n _ _ _ _ _ hn).2 w _ cargs hS hr).mono fun e w' hp => ?_
  obtain ⟨v, rfl, g', e1, s1, r1, b1⟩ := hp
  rw [rep_sc r1]
  exact ⟨rfl, b1⟩
end
end Go.Abs

end
section
/- The compiled code of functions 23 69 113 68 70, printed by a program; each is what the compiler 'trFn' gives. -/
set_option maxRecDepth 100000
namespace Go.Proofs.YthglfhnlolefhaaGreatDoor
open Go.Abs
def c23 : AFn := ⟨31, [(.t 4)], (.seq (.reg [⟨(some 2), none, (.box 34 10 (.t 0))⟩, ⟨(some 3), none, (.box 34 10 (.t 1))⟩, ⟨(some 4), none, (.mv (.k (.c (.v (.bool false)))))⟩]) (.seq (.reg [⟨(some 5), none, (.fad 0 (.t 2))⟩, ⟨(some 6), none, (.load false 1 (.t 5))⟩, ⟨(some 7), none, (.fad 0 (.t 3))⟩, ⟨(some 8), none, (.load false 1 (.t 7))⟩, ⟨(some 9), none, (.bin .eql .sc (.t 6) (.t 8))⟩, ⟨(some 10), none, (.mv (.t 9))⟩, ⟨(some 11), (some (10, true)), (.fad 1 (.t 2))⟩, ⟨(some 12), (some (10, true)), (.load false 1 (.t 11))⟩, ⟨(some 13), (some (10, true)), (.fad 1 (.t 3))⟩, ⟨(some 14), (some (10, true)), (.load false 1 (.t 13))⟩, ⟨(some 15), (some (10, true)), (.call 68 [(.t 12), (.t 14)])⟩, ⟨(some 16), none, (.pick (.t 10) (.t 15) (.k (.c (.v (.bool false)))))⟩, ⟨(some 17), none, (.mv (.t 16))⟩, ⟨(some 18), (some (17, true)), (.fad 3 (.t 2))⟩, ⟨(some 19), (some (17, true)), (.load true 7 (.t 18))⟩, ⟨(some 20), (some (17, true)), (.fad 3 (.t 3))⟩, ⟨(some 21), (some (17, true)), (.load true 7 (.t 20))⟩, ⟨(some 22), (some (17, true)), (.call 69 [(.t 19), (.t 21)])⟩, ⟨(some 23), none, (.pick (.t 17) (.t 22) (.k (.c (.v (.bool false)))))⟩, ⟨(some 24), none, (.mv (.t 23))⟩, ⟨(some 25), (some (24, true)), (.fad 2 (.t 2))⟩, ⟨(some 26), (some (24, true)), (.load false 1 (.t 25))⟩, ⟨(some 27), (some (24, true)), (.fad 2 (.t 3))⟩, ⟨(some 28), (some (24, true)), (.load false 1 (.t 27))⟩, ⟨(some 29), (some (24, true)), (.call 70 [(.t 26), (.t 28), (.f 23)])⟩, ⟨(some 30), none, (.pick (.t 24) (.t 29) (.k (.c (.v (.bool false)))))⟩, ⟨(some 4), none, (.mv (.t 30))⟩]) .ret))⟩
theorem tr23 : trFn Tryz.prog 23 = some c23 := by kernel_rfl
def c69 : AFn := ⟨24, [(.t 4)], (.seq (.reg [⟨(some 2), none, (.box 32 7 (.t 0))⟩, ⟨(some 3), none, (.box 32 7 (.t 1))⟩, ⟨(some 4), none, (.mv (.k (.c (.v (.bool false)))))⟩]) (.seq (.reg [⟨(some 5), none, (.fad 0 (.t 2))⟩, ⟨(some 6), none, (.load false 1 (.t 5))⟩, ⟨(some 7), none, (.fad 0 (.t 3))⟩, ⟨(some 8), none, (.load false 1 (.t 7))⟩, ⟨(some 9), none, (.bin .eql .sc (.t 6) (.t 8))⟩, ⟨(some 10), none, (.mv (.t 9))⟩, ⟨(some 11), (some (10, true)), (.fad 1 (.t 2))⟩, ⟨(some 12), (some (10, true)), (.load true 3 (.t 11))⟩, ⟨(some 13), (some (10, true)), (.fad 1 (.t 3))⟩, ⟨(some 14), (some (10, true)), (.load true 3 (.t 13))⟩, ⟨(some 15), (some (10, true)), (.call 113 [(.t 12), (.t 14)])⟩, ⟨(some 16), none, (.pick (.t 10) (.t 15) (.k (.c (.v (.bool false)))))⟩, ⟨(some 17), none, (.mv (.t 16))⟩, ⟨(some 18), (some (17, true)), (.fad 4 (.t 2))⟩, ⟨(some 19), (some (17, true)), (.load true 3 (.t 18))⟩, ⟨(some 20), (some (17, true)), (.fad 4 (.t 3))⟩, ⟨(some 21), (some (17, true)), (.load true 3 (.t 20))⟩, ⟨(some 22), (some (17, true)), (.call 113 [(.t 19), (.t 21)])⟩, ⟨(some 23), none, (.pick (.t 17) (.t 22) (.k (.c (.v (.bool false)))))⟩, ⟨(some 4), none, (.mv (.t 23))⟩]) .ret))⟩
theorem tr69 : trFn Tryz.prog 69 = some c69 := by kernel_rfl
def c113 : AFn := ⟨24, [(.t 4)], (.seq (.reg [⟨(some 2), none, (.box 30 3 (.t 0))⟩, ⟨(some 3), none, (.box 30 3 (.t 1))⟩, ⟨(some 4), none, (.mv (.k (.c (.v (.bool false)))))⟩]) (.seq (.reg [⟨(some 5), none, (.fad 0 (.t 2))⟩, ⟨(some 6), none, (.load false 1 (.t 5))⟩, ⟨(some 7), none, (.fad 0 (.t 3))⟩, ⟨(some 8), none, (.load false 1 (.t 7))⟩, ⟨(some 9), none, (.bin .eql .bl (.t 6) (.t 8))⟩, ⟨(some 10), none, (.mv (.t 9))⟩, ⟨(some 11), (some (10, true)), (.fad 1 (.t 2))⟩, ⟨(some 12), (some (10, true)), (.load false 1 (.t 11))⟩, ⟨(some 13), (some (10, true)), (.fad 1 (.t 3))⟩, ⟨(some 14), (some (10, true)), (.load false 1 (.t 13))⟩, ⟨(some 15), (some (10, true)), (.bin .eql .bl (.t 12) (.t 14))⟩, ⟨(some 16), none, (.pick (.t 10) (.t 15) (.k (.c (.v (.bool false)))))⟩, ⟨(some 17), none, (.mv (.t 16))⟩, ⟨(some 18), (some (17, true)), (.fad 2 (.t 2))⟩, ⟨(some 19), (some (17, true)), (.load false 1 (.t 18))⟩, ⟨(some 20), (some (17, true)), (.fad 2 (.t 3))⟩, ⟨(some 21), (some (17, true)), (.load false 1 (.t 20))⟩, ⟨(some 22), (some (17, true)), (.call 68 [(.t 19), (.t 21)])⟩, ⟨(some 23), none, (.pick (.t 17) (.t 22) (.k (.c (.v (.bool false)))))⟩, ⟨(some 4), none, (.mv (.t 23))⟩]) .ret))⟩
theorem tr113 : trFn Tryz.prog 113 = some c113 := by kernel_rfl
def c68 : AFn := ⟨10, [(.t 4)], (.seq (.reg [⟨(some 4), none, (.mv (.k (.c (.v (.bool false)))))⟩]) (.seq (.reg [⟨(some 5), none, (.mv (.t 0))⟩, ⟨(some 6), none, (.conv .b2s (.t 5))⟩, ⟨(some 7), none, (.mv (.t 1))⟩, ⟨(some 8), none, (.conv .b2s (.t 7))⟩, ⟨(some 9), none, (.bin .eql .sc (.t 6) (.t 8))⟩, ⟨(some 4), none, (.mv (.t 9))⟩]) .ret))⟩
theorem tr68 : trFn Tryz.prog 68 = some c68 := by kernel_rfl
def c70L0 : ACode := (.seq (.reg [⟨(some 18), none, (.bin .lss .sc (.t 17) (.t 16))⟩]) (.seq (.cond (.t 18) .skip (.exit 0)) (.seq (.block 1 (.seq (.reg [⟨(some 19), none, (.mv (.t 17))⟩, ⟨(some 20), none, (.iad (.sl 10) (.t 15) (.t 17))⟩, ⟨(some 21), none, (.load true 10 (.t 20))⟩, ⟨(some 8), none, (.alloc 34 [(.v (.int .u8 0)), (.sl 0 []), (.sl 0 []), (.v (.int .u8 0)), (.v (.bool false)), (.v (.bool false)), (.sl 0 []), (.v (.bool false)), (.v (.bool false)), (.sl 0 [])])⟩, ⟨(some 7), none, (.mv (.t 19))⟩, ⟨none, none, (.store 10 (.t 8) (.t 21))⟩]) (.seq (.reg [⟨(some 22), none, (.mv (.t 1))⟩, ⟨(some 23), none, (.mv (.t 7))⟩, ⟨(some 24), none, (.iad (.sl 10) (.t 22) (.t 23))⟩, ⟨(some 25), none, (.load true 10 (.t 24))⟩, ⟨(some 9), none, (.alloc 34 [(.v (.int .u8 0)), (.sl 0 []), (.sl 0 []), (.v (.int .u8 0)), (.v (.bool false)), (.v (.bool false)), (.sl 0 []), (.v (.bool false)), (.v (.bool false)), (.sl 0 [])])⟩, ⟨none, none, (.store 10 (.t 9) (.t 25))⟩]) (.seq (.reg [⟨(some 26), none, (.mv (.t 2))⟩, ⟨(some 27), none, (.load true 10 (.t 8))⟩, ⟨(some 28), none, (.load true 10 (.t 9))⟩, ⟨(some 29), none, (.dyn (.t 26) [(.t 27), (.t 28)])⟩, ⟨(some 30), none, (.un .not (.t 29))⟩]) (.cond (.t 30) (.seq (.reg [⟨(some 6), none, (.mv (.k (.c (.v (.bool false)))))⟩]) .ret) .skip))))) (.reg [⟨(some 31), none, (.bin .add .sc (.t 17) (.k (.c (.v (.int .i64 1)))))⟩, ⟨(some 17), none, (.mv (.t 31))⟩]))))
def c70 : AFn := ⟨32, [(.t 6)], (.seq (.reg [⟨(some 6), none, (.mv (.k (.c (.v (.bool false)))))⟩]) (.seq (.seq (.reg [⟨(some 10), none, (.mv (.t 0))⟩, ⟨(some 11), none, (.len .sl (.t 10))⟩, ⟨(some 12), none, (.mv (.t 1))⟩, ⟨(some 13), none, (.len .sl (.t 12))⟩, ⟨(some 14), none, (.bin .neq .sc (.t 11) (.t 13))⟩]) (.cond (.t 14) (.seq (.reg [⟨(some 6), none, (.mv (.k (.c (.v (.bool false)))))⟩]) .ret) .skip)) (.seq (.seq (.reg [⟨(some 15), none, (.mv (.t 0))⟩, ⟨(some 16), none, (.len .sl (.t 15))⟩, ⟨(some 17), none, (.mv (.k (.c (.v (.int .i64 0)))))⟩]) (.block 0 (.loop c70L0))) (.seq (.reg [⟨(some 6), none, (.mv (.k (.c (.v (.bool true)))))⟩]) .ret))))⟩
theorem tr70 : trFn Tryz.prog 70 = some c70 := by kernel_rfl
end Go.Proofs.YthglfhnlolefhaaGreatDoor

end
section
/- Own framework, part 28: small laws for symbolic runs. -/
set_option linter.unusedVariables false
set_option linter.unusedSimpArgs false
namespace Go.Abs
abbrev byP (l : List UInt8) : Go.Abs.P := .sl l.length (bytesP l)
abbrev byD (l : List UInt8) : D := .c (byP l)
abbrev boP (b : Bool) : Go.Abs.P := .v (.bool b)
abbrev boD (b : Bool) : D := .c (boP b)
theorem unBytes_bytesP (l : List UInt8) : unBytes (bytesP l) = some l := by
  induction l with
  | nil => rfl
  | cons x l ih =>
    simp only [unBytes, bytesP, List.map_cons, mapO, byteP, unByte] at ih ⊢
    rw [ih]
    simp
theorem bytesP_length (l : List UInt8) : (bytesP l).length = l.length := by simp [bytesP]
theorem toList_mk (l : List UInt8) : (⟨l.toArray⟩ : ByteArray).toList = l := by rw [ByteArray.toList_eq]
theorem b_ff : (false == false) = true := rfl
theorem b_ft : (false == true) = false := rfl
theorem b_tf : (true == false) = false := rfl
theorem b_tt : (true == true) = true := rfl
theorem frz_cells (l : List P) : frzL (l.map .c) = l.map .c := by
  rw [frzL_map, List.map_map]; rfl
theorem closed_cells (l : List P) : closedL (l.map .c) = true := by
  rw [closedL_all, List.all_map]; exact List.all_eq_true.2 fun _ _ => rfl
theorem mkV_true (l : List D) : mkV true l = some (.ag l) := by
  unfold mkV; split <;> rfl
theorem mkV_false (x : D) : mkV false [x] = some x := rfl
theorem qo_s (d : D) : qo (some d) = some (.q d) := rfl
theorem setAt_all : ∀ {m l : List D}, l.length = m.length → setAt m 0 l = l
  | [], [], _ => rfl
  | [], y :: ys, h => by simp at h
  | x :: m, [], h => by simp at h
  | x :: m, y :: ys, h => by
    simp only [setAt]
    rw [setAt_all (by simpa using h)]
theorem gt0 {α : Type} (V l : List α) : (V ++ l)[V.length]? = l[0]? := by rw [List.getElem?_append_right (Nat.le_refl _), Nat.sub_self]
theorem gtk {α : Type} (V l : List α) (k : Nat) : (V ++ l)[V.length + k]? = l[k]? := by rw [List.getElem?_append_right (by omega), Nat.add_sub_cancel_left]
theorem st0 {α : Type} (V l : List α) (x : α) : (V ++ l).set V.length x = V ++ l.set 0 x := by rw [List.set_append_right _ _ (Nat.le_refl _), Nat.sub_self]
theorem stk {α : Type} (V l : List α) (k : Nat) (x : α) : (V ++ l).set (V.length + k) x = V ++ l.set k x := by rw [List.set_append_right _ _ (by omega), Nat.add_sub_cancel_left]

theorem wrap_i64 {n : Int} {m : Nat} (h : n = m) (hm : m < 2 ^ 63) : IntKind.i64.wrap n = (m : Int) := by
  rw [IntKind.wrap_i64]; omega
/-- A branch, by its condition's value. -/
def condE (orc : Orc) (F : FuncId → Option AFn) (v : D) (a b : ACode) (s : St) (Q : Out → St → Prop) : Prop :=
  match v with
  | .c (.v (.bool true)) => Ex orc F a s Q
  | .c (.v (.bool false)) => Ex orc F b s Q
  | _ => False
theorem Ex_cond' {orc : Orc} {F : FuncId → Option AFn} {Q : Out → St → Prop} {s : St} {c : Opd} {a b : ACode} : Ex orc F (.cond c a b) s Q ↔ condE orc F (ev s.e c) a b s Q := by
  by_cases h : ∃ t, ev s.e c = .c (.v (.bool t))
  · obtain ⟨t, h⟩ := h
    rw [Ex_cond h, h]
    cases t <;> simp [condE]
  · constructor
    · rintro ⟨n, o, s', hn, q⟩
      cases n with
      | zero => simp [execN] at hn
      | succ n =>
        rw [execN_succ] at hn
        simp only [execC] at hn
        split at hn
        · rename_i t ht; exact absurd ⟨t, ht⟩ h
        · simp at hn
    · intro hx
      unfold condE at hx
      split at hx
      · rename_i ht; exact absurd ⟨_, ht⟩ h
      · rename_i ht; exact absurd ⟨_, ht⟩ h
      · exact hx.elim
theorem condE_true {orc : Orc} {F : FuncId → Option AFn} {Q : Out → St → Prop} {s : St} {a b : ACode} : condE orc F (.c (.v (.bool true))) a b s Q = Ex orc F a s Q := rfl
theorem condE_false {orc : Orc} {F : FuncId → Option AFn} {Q : Out → St → Prop} {s : St} {a b : ACode} : condE orc F (.c (.v (.bool false))) a b s Q = Ex orc F b s Q := rfl
/-- Element i of a row of elements of so many cells. -/
theorem seg_at {α : Type} {c : α → List P} {k : Nat} (hc : ∀ x, (c x).length = k) : ∀ {l : List α} {i : Nat} {x : α}, l[i]? = some x → ((l.flatMap c).drop (i * k)).take k = c x ∧ k ≤ ((l.flatMap c).drop (i * k)).length
  | [], i, x, h => by simp at h
  | y :: l, 0, x, h => by
    simp only [List.getElem?_cons_zero, Option.some.injEq] at h
    subst h
    rw [Nat.zero_mul, List.drop_zero, List.flatMap_cons, ← hc y, List.take_left']
    · exact ⟨rfl, by simp⟩
    · rfl
  | y :: l, i + 1, x, h => by
    have h' : l[i]? = some x := by simpa using h
    have := seg_at hc h'
    rw [List.flatMap_cons, Nat.add_mul, Nat.one_mul, Nat.add_comm, ← List.drop_drop]
    have e : ((c y ++ l.flatMap c).drop k) = l.flatMap c := by rw [← hc y, List.drop_left']; rfl
    rw [e]
    exact this
end Go.Abs

end
