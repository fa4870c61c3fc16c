/- Own framework, part 17: every operation of the machine that was turned into an abstract one does what that one tells (slices, builtins; the sum). -/
import Derived.Test.YthglfhnlolefhaaGreatDoorAbsMain2
set_option linter.unusedVariables false
set_option linter.unusedSimpArgs false
namespace Go.Abs
open Go.RowKit (Below)

section
variable {P : Program} {w : World} {g : Gh} {V V' : List VO} {T T' : List Nat} {a : Act} {e : Env} {o : Oper} {orc : Orc} {call : CallF} {aop : AOp} {ac : Ac} {d : D} {l : Lab}

theorem ok_slice {t : TypeId} {x : Operand} {lo hi mx : Option Operand} (hop : o.op = .slice t x lo hi mx) (hm : trOp P o = some aop) (he : EnvOk w g T a.tmps e) (hS : Sim w g V T) (ha : act orc e aop = some ac) (hd : doAc call V T ac = some (.ok d V' T', l)) : StG P w g T a o d V' T' := by
  simp only [trOp, hop] at hm
  cases hk : skOf P t with
  | none => simp [hk] at hm
  | some k =>
    cases hx : opd x with
    | none => simp [hk, hx] at hm
    | some x' =>
      cases hlo : optO lo with
      | none => simp [hk, hx, hlo] at hm
      | some lo' =>
      cases hhi : optO hi with
      | none => simp [hk, hx, hlo, hhi] at hm
      | some hi' =>
      cases hmx : optO mx with
      | none => simp [hk, hx, hlo, hhi, hmx] at hm
      | some mx' =>
      simp only [hk, hx, hlo, hhi, hmx, Option.bind_eq_bind, Option.bind_some, Option.some.injEq] at hm
      subst hm
      have olo := optOpd hlo
      have ohi := optOpd hhi
      have hmn : mx' = none → mx = none := fun h => by
        rcases optOpd hmx with ⟨h1, _⟩ | ⟨p, q, _, h2, _⟩
        · exact h1
        · rw [h] at h2; cases h2
      simp only [act, slcD] at ha
      split at ha
      · -- string
        split at ha
        · rename_i s hv
          split at ha
          · rename_i h h1
            split at ha
            · rename_i l' h2
              simp only [Option.some.injEq] at ha
              subst ha
              obtain ⟨rfl, rfl, rfl⟩ := doAc_q hd
              have := hmn rfl
              subst this
              exact (yl_slc_str hop hk hx olo ohi he hv h1 h2).stg hS
            · simp at ha
          · simp at ha
        · simp at ha
      · rename_i esz
        split at ha
        · rename_i n cs hv
          split at ha
          · split at ha
            · rename_i h h1
              split at ha
              · rename_i l' h2
                simp only [Option.some.injEq] at ha
                subst ha
                obtain ⟨rfl, rfl, rfl⟩ := doAc_q hd
                have := hmn rfl
                subst this
                exact (yl_slc_sl hop hk hx olo ohi he hv h1 h2).stg hS
              · simp at ha
            · simp at ha
          · split at ha
            · rename_i hz
              simp only [Bool.and_eq_true] at hz
              simp only [Option.some.injEq] at ha
              subst ha
              obtain ⟨rfl, rfl, rfl⟩ := doAc_q hd
              exact (yl_slc_cap hop hk hx olo ohi (optOpd hmx) he hv hz.1 hz.2.1 hz.2.2).stg hS
            · simp at ha
        · simp at ha
      · rename_i n esz
        split at ha
        · rename_i id off hv
          split at ha
          · rename_i h h1
            split at ha
            · rename_i l' h2
              simp only [Option.some.injEq] at ha
              subst ha
              simp only [doAc] at hd
              cases ho : V[id]? with
              | none => simp [ho] at hd
              | some vo =>
                simp only [ho] at hd
                split at hd
                · simp at hd
                · rename_i hit
                  cases hp : pureL vo.cs with
                  | none => simp [hp] at hd
                  | some ps =>
                    simp only [hp] at hd
                    split at hd
                    · rename_i d' hd'
                      split at hd'
                      · rename_i hle
                        simp only [Option.some.injEq] at hd'
                        subst hd'
                        simp only [Option.some.injEq, Prod.mk.injEq, Out1.ok.injEq] at hd
                        obtain ⟨⟨rfl, rfl, rfl⟩, _⟩ := hd
                        have := hmn rfl
                        subst this
                        exact st_slc_arr hop hk hx olo ohi he hv h1 h2 ho (by simpa using hit) hp hle hS
                      · simp at hd'
                    · simp at hd
            · simp at ha
          · simp at ha
        · simp at ha

theorem ok_builtin {b : Builtin} {args : Array Operand} {argTypes : Array TypeId} (hop : o.op = .call ⟨.builtin b, args, argTypes⟩) (hm : trCall P ⟨.builtin b, args, argTypes⟩ = some aop) (he : EnvOk w g T a.tmps e) (hS : Sim w g V T) (ha : act orc e aop = some ac) (hd : doAc call V T ac = some (.ok d V' T', l)) : StG P w g T a o d V' T' := by
  simp only [trCall] at hm
  split at hm
  · -- len
    rename_i x t ha1 ht1
    have e1 := arr1 ha1
    have e2 := arr1 ht1
    subst e1 e2
    cases hx : opd x with
    | none => simp [hx] at hm
    | some x' =>
      simp only [hx, Option.bind_eq_bind, Option.bind_some] at hm
      split at hm
      · rename_i n et hu
        simp only [Option.some.injEq] at hm
        subst hm
        simp only [act, Option.some.injEq] at ha
        subst ha
        obtain ⟨rfl, rfl, rfl⟩ := doAc_q hd
        exact (yl_len_arr hop hu).stg hS
      · rename_i hu
        simp only [Option.some.injEq] at hm
        subst hm
        simp only [act] at ha
        split at ha
        · rename_i s hv
          simp only [Option.some.injEq] at ha
          subst ha
          obtain ⟨rfl, rfl, rfl⟩ := doAc_q hd
          exact (yl_len_str hop hu hx he hv).stg hS
        · simp at ha
      · rename_i et hu
        simp only [Option.some.injEq] at hm
        subst hm
        simp only [act] at ha
        split at ha
        · rename_i n cs hv
          simp only [Option.some.injEq] at ha
          subst ha
          obtain ⟨rfl, rfl, rfl⟩ := doAc_q hd
          exact (yl_len_sl hop hu hx he hv).stg hS
        · simp at ha
      · simp at hm
  · -- append
    rename_i x y t u ha1 ht1
    have e1 := arr2 ha1
    have e2 := arr2 ht1
    subst e1 e2
    cases hx : opd x with
    | none => simp [hx] at hm
    | some x' =>
      cases hy : opd y with
      | none => simp [hx, hy] at hm
      | some y' =>
        simp only [hx, hy, Option.bind_eq_bind, Option.bind_some] at hm
        have main : ∀ (et : TypeId) (s b : Nat) (z : List Go.Abs.P) (str : Bool), P.underlying t = some (.slice et) → sizeT P et = some s → bytesT P et = some b → zeroT P et = some z → 0 < s → aop = .app et s b str x' y' →
            (∀ m ys, appSrc str (ev e y') = some (m, ys) → (m ≠ 0 → ys.length = m * s) → ∃ news, Src P w g.I u s (a.eval y) m ys news) → StG P w g T a o d V' T' := by
          rintro et s b z str ht hs hb hz hs0 rfl hsrc
          simp only [act, appD] at ha
          cases hq : appSrc str (ev e y') with
          | none => simp [hq] at ha
          | some my =>
            obtain ⟨m, ys⟩ := my
            simp only [hq] at ha
            split at ha
            · rename_i n cs hv
              split at ha
              · rename_i hm0
                simp only [Option.some.injEq] at ha
                subst ha
                obtain ⟨rfl, rfl, rfl⟩ := doAc_q hd
                obtain ⟨news, hn⟩ := hsrc m ys hq (fun h => absurd hm0 h)
                exact st_app_none (V := V') hop ht hs hb hz hx he hn hS hm0 (n := n) (cs := cs) (by rw [hv]; rfl)
              · rename_i hm0
                split at ha
                · rename_i hc
                  simp only [Option.some.injEq] at ha
                  subst ha
                  simp only [doAc, Option.some.injEq, Prod.mk.injEq, Out1.ok.injEq] at hd
                  obtain ⟨⟨rfl, rfl, rfl⟩, _⟩ := hd
                  obtain ⟨news, hn⟩ := hsrc m ys hq (fun _ => hc.2.2.2)
                  exact st_app_tp hop ht hs hb hz hx he hn hS hs0 hm0 hv hc.1 hc.2.1 hc.2.2.1 hc.2.2.2
                · simp at ha
            · rename_i n cs hv
              split at ha
              · rename_i hm0
                simp only [Option.some.injEq] at ha
                subst ha
                obtain ⟨rfl, rfl, rfl⟩ := doAc_q hd
                obtain ⟨news, hn⟩ := hsrc m ys hq (fun h => absurd hm0 h)
                exact st_app_none (V := V') hop ht hs hb hz hx he hn hS hm0 (n := n) (cs := cs) (by rw [hv]; rfl)
              · split at ha <;> simp at ha
            · rename_i id ver n cs hv
              split at ha
              · rename_i hc
                simp only [Option.some.injEq] at ha
                subst ha
                simp only [doAc] at hd
                cases hk : T[id]? with
                | none => simp [hk] at hd
                | some k =>
                  simp only [hk] at hd
                  split at hd
                  · rename_i hkv
                    subst hkv
                    simp only [Option.some.injEq, Prod.mk.injEq, Out1.ok.injEq] at hd
                    obtain ⟨⟨rfl, rfl, rfl⟩, _⟩ := hd
                    obtain ⟨news, hn⟩ := hsrc m ys hq (fun _ => hc.2.2.2.2)
                    exact st_app_tw hop ht hs hb hz hx he hn hS hs0 hv hk hc.1 hc.2.1 hc.2.2.1 hc.2.2.2.1 hc.2.2.2.2
                  · simp at hd
              · simp at ha
            · simp at ha
        split at hm
        · rename_i et et' ht hu
          cases hs : sizeT P et with
          | none => simp [hs] at hm
          | some s =>
            cases hb : bytesT P et with
            | none => simp [hs, hb] at hm
            | some b =>
              cases hz : zeroT P et with
              | none => simp [hs, hb, hz] at hm
              | some z =>
                simp only [hs, hb, hz, Option.bind_eq_bind, Option.bind_some] at hm
                split at hm
                · simp at hm
                · rename_i hc
                  split at hm
                  · simp only [Option.some.injEq] at hm
                    simp only [Bool.or_eq_true, decide_eq_true_eq, not_or] at hc
                    exact main et s b z false ht hs hb hz (by omega) hm.symm (fun m ys hq hl => src_sl hu hy he hq hl)
                  · simp at hm
        · rename_i et ht hu
          cases hs : sizeT P et with
          | none => simp [hs] at hm
          | some s =>
            cases hb : bytesT P et with
            | none => simp [hs, hb] at hm
            | some b =>
              cases hz : zeroT P et with
              | none => simp [hs, hb, hz] at hm
              | some z =>
                simp only [hs, hb, hz, Option.bind_eq_bind, Option.bind_some] at hm
                split at hm
                · simp at hm
                · rename_i hc
                  simp only [Option.some.injEq] at hm
                  simp only [Bool.or_eq_true, bne_iff_ne, ne_eq, not_or, Decidable.not_not] at hc
                  have hs1 : s = 1 := hc.1
                  subst hs1
                  refine main et 1 b z true ht hs hb hz (by omega) hm.symm (fun m ys hq hl => ?_)
                  simp only [appSrc] at hq
                  split at hq
                  · rename_i sb hv
                    simp only [Option.some.injEq, Prod.mk.injEq] at hq
                    obtain ⟨rfl, rfl⟩ := hq
                    exact src_str hu hy he hv
                  · simp at hq
        · simp at hm
  · cases hx : opds args.toList with
    | none => simp [hx] at hm
    | some xs =>
      simp only [hx, Option.map_some, Option.some.injEq] at hm
      subst hm
      simp only [act] at ha
      split at ha
      · simp at ha
      · obtain ⟨d', hq, rfl⟩ := qo_some ha
        obtain ⟨rfl, rfl, rfl⟩ := doAc_q hd
        exact (yl_mx hop hx he hq).stg hS
  · cases hx : opds args.toList with
    | none => simp [hx] at hm
    | some xs =>
      simp only [hx, Option.map_some, Option.some.injEq] at hm
      subst hm
      simp only [act] at ha
      split at ha
      · simp at ha
      · obtain ⟨d', hq, rfl⟩ := qo_some ha
        obtain ⟨rfl, rfl, rfl⟩ := doAc_q hd
        exact (yl_mn hop hx he hq).stg hS
  · simp at hm
end
end Go.Abs
