/- Own framework, part 23: two operations that do not meet may change places. -/
import Derived.Test.YthglfhnlolefhaaGreatDoorAbsOrd
set_option linter.unusedVariables false
set_option linter.unusedSimpArgs false
namespace Go.Abs

section
variable {orc : Orc} {call : CallF}

theorem app_left {α : Type} {l : List α} {x : α} {i : Nat} (h : i < l.length) : (l ++ [x])[i]? = l[i]? := List.getElem?_append_left h
theorem set_other {α : Type} {l : List α} {x : α} {i j : Nat} (h : i ≠ j) : (l.set i x)[j]? = l[j]? := List.getElem?_set_ne h
theorem set_app {α : Type} {l : List α} {x y : α} {i : Nat} (h : i < l.length) : (l ++ [y]).set i x = l.set i x ++ [y] := List.set_append_left i x h

theorem doAc_comm {V V1 V2 : List VO} {T T1 T2 : List Nat} {ai aj : Ac} {x y : D} {la lb : Lab} (h1 : doAc call V T ai = some (.ok x V1 T1, la)) (h2 : doAc call V1 T1 aj = some (.ok y V2 T2, lb)) (hc : conf la lb = true) :
    ∃ V1' T1', doAc call V T aj = some (.ok y V1' T1', lb) ∧ doAc call V1' T1' ai = some (.ok x V2 T2, la) := by
  have si := spec_of h1
  have sj := spec_of h2
  cases la with
  | pan => exact si.elim
  | q =>
    obtain ⟨rfl, rfl, hi⟩ := si
    exact ⟨V2, T2, h2, hi _ _⟩
  | «open» =>
    cases lb with
    | q =>
      obtain ⟨rfl, rfl, hj⟩ := sj
      exact ⟨V, T, hj _ _, h1⟩
    | _ => simp [conf] at hc
  | rd i =>
    obtain ⟨rfl, rfl, hi⟩ := si
    cases lb with
    | q => obtain ⟨rfl, rfl, hj⟩ := sj; exact ⟨_, _, hj _ _, h1⟩
    | rd j => obtain ⟨rfl, rfl, hj⟩ := sj; exact ⟨_, _, h2, h1⟩
    | wr j =>
      simp only [conf, bne_iff_ne, ne_eq] at hc
      obtain ⟨o, rfl, rfl, hj⟩ := sj
      exact ⟨_, _, h2, hi _ _ (set_other (Ne.symm hc))⟩
    | ps j =>
      simp only [conf, decide_eq_true_eq] at hc
      obtain ⟨rfl, o, rfl, rfl, hj⟩ := sj
      exact ⟨_, _, h2, hi _ _ (app_left hc)⟩
    | tw j => obtain ⟨k, rfl, rfl, hj⟩ := sj; exact ⟨_, _, h2, hi _ _ rfl⟩
    | tp j => obtain ⟨rfl, rfl, rfl, hj⟩ := sj; exact ⟨_, _, h2, hi _ _ rfl⟩
    | pan => exact sj.elim
    | «open» => simp [conf] at hc
  | wr i =>
    obtain ⟨oi, rfl, rfl, hi⟩ := si
    cases lb with
    | q => obtain ⟨rfl, rfl, hj⟩ := sj; exact ⟨_, _, hj _ _, h1⟩
    | rd j =>
      simp only [conf, bne_iff_ne, ne_eq] at hc
      obtain ⟨rfl, rfl, hj⟩ := sj
      exact ⟨_, _, hj _ _ (set_other (Ne.symm hc)).symm, h1⟩
    | wr j =>
      simp only [conf, bne_iff_ne, ne_eq] at hc
      obtain ⟨o, rfl, rfl, hj⟩ := sj
      refine ⟨_, _, hj V _ (set_other hc).symm, ?_⟩
      rw [hi _ _ (set_other (Ne.symm hc)), List.set_comm _ _ (Ne.symm hc)]
    | ps j =>
      simp only [conf, decide_eq_true_eq] at hc
      obtain ⟨rfl, o, rfl, rfl, hj⟩ := sj
      rw [List.length_set] at hc
      refine ⟨_, _, hj V _ (by simp), ?_⟩
      rw [hi _ _ (app_left hc), set_app hc]
    | tw j => obtain ⟨k, rfl, rfl, hj⟩ := sj; exact ⟨_, _, hj _ _ rfl, hi _ _ rfl⟩
    | tp j => obtain ⟨rfl, rfl, rfl, hj⟩ := sj; exact ⟨_, _, hj _ _ rfl, hi _ _ rfl⟩
    | pan => exact sj.elim
    | «open» => simp [conf] at hc
  | ps i =>
    obtain ⟨rfl, oi, rfl, rfl, hi⟩ := si
    cases lb with
    | q => obtain ⟨rfl, rfl, hj⟩ := sj; exact ⟨_, _, hj _ _, h1⟩
    | rd j =>
      simp only [conf, decide_eq_true_eq] at hc
      obtain ⟨rfl, rfl, hj⟩ := sj
      exact ⟨_, _, hj _ _ (app_left hc).symm, h1⟩
    | wr j =>
      simp only [conf, decide_eq_true_eq] at hc
      obtain ⟨o, rfl, rfl, hj⟩ := sj
      refine ⟨_, _, hj V _ (app_left hc).symm, ?_⟩
      rw [hi (V.set j o) _ (by simp), set_app hc]
    | ps j => simp [conf] at hc
    | tw j => obtain ⟨k, rfl, rfl, hj⟩ := sj; exact ⟨_, _, hj _ _ rfl, hi _ _ rfl⟩
    | tp j => obtain ⟨rfl, rfl, rfl, hj⟩ := sj; exact ⟨_, _, hj _ _ rfl, hi _ _ rfl⟩
    | pan => exact sj.elim
    | «open» => simp [conf] at hc
  | tw i =>
    obtain ⟨k, rfl, rfl, hi⟩ := si
    cases lb with
    | q => obtain ⟨rfl, rfl, hj⟩ := sj; exact ⟨_, _, hj _ _, h1⟩
    | rd j => obtain ⟨rfl, rfl, hj⟩ := sj; exact ⟨_, _, hj _ _ rfl, hi _ _ rfl⟩
    | wr j => obtain ⟨o, rfl, rfl, hj⟩ := sj; exact ⟨_, _, hj _ _ rfl, hi _ _ rfl⟩
    | ps j => obtain ⟨rfl, o, rfl, rfl, hj⟩ := sj; exact ⟨_, _, hj _ _ rfl, hi _ _ rfl⟩
    | tw j =>
      simp only [conf, bne_iff_ne, ne_eq] at hc
      obtain ⟨k2, rfl, rfl, hj⟩ := sj
      refine ⟨_, _, hj _ T (set_other hc).symm, ?_⟩
      rw [hi _ _ (set_other (Ne.symm hc)), List.set_comm _ _ (Ne.symm hc)]
    | tp j =>
      simp only [conf, decide_eq_true_eq] at hc
      obtain ⟨rfl, rfl, rfl, hj⟩ := sj
      rw [List.length_set] at hc
      refine ⟨_, _, hj V2 T (by simp), ?_⟩
      rw [hi _ _ (app_left hc), set_app hc]
    | pan => exact sj.elim
    | «open» => simp [conf] at hc
  | tp i =>
    obtain ⟨rfl, rfl, rfl, hi⟩ := si
    cases lb with
    | q => obtain ⟨rfl, rfl, hj⟩ := sj; exact ⟨_, _, hj _ _, h1⟩
    | rd j => obtain ⟨rfl, rfl, hj⟩ := sj; exact ⟨_, _, hj _ _ rfl, hi _ _ rfl⟩
    | wr j => obtain ⟨o, rfl, rfl, hj⟩ := sj; exact ⟨_, _, hj _ _ rfl, hi _ _ rfl⟩
    | ps j => obtain ⟨rfl, o, rfl, rfl, hj⟩ := sj; exact ⟨_, _, hj _ _ rfl, hi _ _ rfl⟩
    | tw j =>
      simp only [conf, decide_eq_true_eq] at hc
      obtain ⟨k, rfl, rfl, hj⟩ := sj
      refine ⟨_, _, hj _ T (app_left hc).symm, ?_⟩
      rw [hi V2 (T.set j k) (by simp), set_app hc]
    | tp j => simp [conf] at hc
    | pan => exact sj.elim
    | «open» => simp [conf] at hc

/-- What a step is: the value that it leaves; and that it is one step of memory. -/
theorem stepO_spec {o : AOper} {s s1 : St} {l : Lab} (hs : stepO orc call o s = some (l, s1)) :
    (∃ x, s1 = ⟨putE s.e o.d x, s1.V, s1.T⟩ ∧ ∃ ac, doAc call s.V s.T ac = some (.ok x s1.V s1.T, l) ∧
      ∀ e' V2 T2 V3 T3, Agree s.e e' o.reads → doAc call V2 T2 ac = some (.ok x V3 T3, l) → stepO orc call o ⟨e', V2, T2⟩ = some (l, ⟨putE e' o.d x, V3, T3⟩)) := by
  unfold stepO at hs
  cases hg : guardD s.e o.g with
  | none => simp [hg] at hs
  | some b =>
    rw [hg] at hs
    cases b with
    | false =>
      simp only [Option.some.injEq, Prod.mk.injEq] at hs
      obtain ⟨rfl, rfl⟩ := hs
      refine ⟨und, rfl, .q und, rfl, fun e' V2 T2 V3 T3 h hd => ?_⟩
      simp only [doAc, Option.some.injEq, Prod.mk.injEq, Out1.ok.injEq, true_and, and_true] at hd
      obtain ⟨rfl, rfl⟩ := hd
      unfold stepO
      rw [← guard_agree h, hg]
    | true =>
      simp only at hs
      cases ha : act orc s.e o.op with
      | none => simp [ha] at hs
      | some a =>
        simp only [ha] at hs
        split at hs
        · rename_i x V1 T1 l1 hd
          simp only [Option.some.injEq, Prod.mk.injEq] at hs
          obtain ⟨rfl, rfl⟩ := hs
          refine ⟨x, rfl, a, hd, fun e' V2 T2 V3 T3 h hd2 => ?_⟩
          unfold stepO
          simp only
          rw [← guard_agree h, hg, ← act_agree (e := s.e) (e' := e') h.left, ha]
          simp only [hd2]
        · simp at hs

theorem stepO_comm {oi oj : AOper} {s s1 s2 : St} {la lb : Lab} (hap : oi.apart oj = true) (h1 : stepO orc call oi s = some (la, s1)) (h2 : stepO orc call oj s1 = some (lb, s2)) (hc : conf la lb = true) :
    ∃ s1', stepO orc call oj s = some (lb, s1') ∧ stepO orc call oi s1' = some (la, s2) := by
  obtain ⟨k1, k2, k3⟩ := apart_spec hap
  obtain ⟨x, e1, ai, d1, f1⟩ := stepO_spec h1
  obtain ⟨y, e2, aj, d2, f2⟩ := stepO_spec h2
  obtain ⟨V1, T1, d3, d4⟩ := doAc_comm d1 d2 hc
  have hs1 : s1.e = putE s.e oi.d x := by rw [e1]
  have hs2 : s2.e = putE s1.e oj.d y := by rw [e2]
  refine ⟨⟨putE s.e oj.d y, V1, T1⟩, f2 s.e s.V s.T V1 T1 ?_ d3, ?_⟩
  · rw [hs1]; exact putE_agree k1
  · rw [f1 (putE s.e oj.d y) V1 T1 s2.V s2.T (fun t ht => (putE_agree k3 t ht).symm) d4]
    have : putE (putE s.e oj.d y) oi.d x = s2.e := by rw [hs2, hs1, putE_comm k2]
    rw [this]
end

/-! ### every order -/
section
variable {orc : Orc} {call : CallF} {ops : Array Oper} {al : List AOper} {L : List Lab} {fin : St} {md : Region.Mode}

def anyA (orc : Orc) (call : CallF) (md : Region.Mode) (ops : Array Oper) (al : List AOper) (L : List Lab) (fin : St) : Nat → Array Bool → St → Prop
  | 0, listed, s => Region.ready md ops listed = [] ∧ s = fin
  | fuel + 1, listed, s => (Region.ready md ops listed = [] → s = fin) ∧
    ∀ i ∈ Region.ready md ops listed, ∃ o l s1, al[i]? = some o ∧ L[i]? = some l ∧ stepO orc call o s = some (l, s1) ∧ anyA orc call md ops al L fin fuel (listed.setIfInBounds i true) s1

theorem any_first {i : Nat} {oi : AOper} {la : Lab} (hi : al[i]? = some oi) (hL : L[i]? = some la) : ∀ (fuel : Nat) (listed : Array Bool) (s s1 : St),
    (∀ (j : Nat) (o : Oper) (oj : AOper) (lj : Lab), ops[j]? = some o → al[j]? = some oj → L[j]? = some lj → j ≠ i → listed.getD j true = false → (∀ e ∈ o.after, Region.binds md e = true → e.on ≠ i) → oi.apart oj = true ∧ conf la lj = true) →
    i ∈ Region.ready md ops listed → stepO orc call oi s = some (la, s1) → anyA orc call md ops al L fin fuel (listed.setIfInBounds i true) s1 → anyA orc call md ops al L fin (fuel + 1) listed s := by
  intro fuel
  induction fuel with
  | zero =>
    intro listed s s1 _ hr hy H
    refine ⟨fun h => (by rw [h] at hr; cases hr), fun j hj => ?_⟩
    by_cases hji : j = i
    · subst hji; exact ⟨oi, la, s1, hi, hL, hy, H⟩
    · have := ready_mono hj hji
      rw [H.1] at this
      cases this
  | succ fuel ih =>
    intro listed s s1 hfree hr hy H
    refine ⟨fun h => (by rw [h] at hr; cases hr), fun j hj => ?_⟩
    by_cases hji : j = i
    · subst hji; exact ⟨oi, la, s1, hi, hL, hy, H⟩
    · obtain ⟨oj, lj, s2, g1, g2, g3, g4⟩ := H.2 j (ready_mono hj hji)
      obtain ⟨hjun, o, ho, hall⟩ := mem_ready.1 hj
      have hnot : ∀ e ∈ o.after, Region.binds md e = true → e.on ≠ i := fun e he hb heq => by
        have h1 := hall e he hb
        have h0 := (mem_ready.1 hr).1
        rw [heq] at h1
        rcases Nat.lt_or_ge i listed.size with h' | h'
        · simp [h'] at h0 h1; rw [h0] at h1; cases h1
        · simp [Array.getElem?_eq_none h'] at h1
      obtain ⟨hap, hcf⟩ := hfree j o oj lj ho g1 g2 hji hjun hnot
      obtain ⟨s1', c1, c2⟩ := stepO_comm hap hy g3 hcf
      refine ⟨oj, lj, s1', g1, g2, c1, ih _ s1' s2 (fun k o' ok lk hk1 hk2 hk3 hki hun hno => hfree k o' ok lk hk1 hk2 hk3 hki ?_ hno) (ready_mono hr (Ne.symm hji)) c2 ?_⟩
      · by_cases hjk : j = k
        · subst hjk; exact hjun
        · rw [getD_set_ne true hjk] at hun; exact hun
      · rw [Array.setIfInBounds_comm _ _ hji]
        exact g4

theorem any_lex (hsz : al.length = ops.size) (hback : ∀ (j : Nat) (o : Oper), ops[j]? = some o → ∀ e ∈ o.after, Region.binds md e = true → e.on < j)
    (hfree : ∀ (k j : Nat) (o : Oper) (ok oj : AOper) (lk lj : Lab), k < j → ops[j]? = some o → al[k]? = some ok → al[j]? = some oj → L[k]? = some lk → L[j]? = some lj → (∀ e ∈ o.after, Region.binds md e = true → e.on ≠ k) → ok.apart oj = true ∧ conf lk lj = true) :
    ∀ (r : List AOper) (k : Nat) (listed : Array Bool) (s : St) (ls : List Lab), k + r.length = ops.size → (∀ j, r[j]? = al[k + j]?) → (∀ j, ls[j]? = L[k + j]?) → listed.size = ops.size → (∀ j, j < ops.size → listed.getD j true = decide (j < k)) →
    runDrw orc call r s = some (ls, fin) → anyA orc call md ops al L fin r.length listed s
  | [], k, listed, s, ls, hk, hr, hls, hl, hlk, h => by
    simp only [runDrw, Option.some.injEq, Prod.mk.injEq] at h
    refine ⟨?_, h.2⟩
    rw [List.eq_nil_iff_forall_not_mem]
    intro j hj
    obtain ⟨h0, o, ho, _⟩ := mem_ready.1 hj
    have hlt : j < ops.size := (Array.getElem?_eq_some_iff.1 ho).1
    rw [hlk j hlt] at h0
    simp at h0 hk
    omega
  | o :: r, k, listed, s, ls, hk, hr, hls, hl, hlk, h => by
    simp only [List.length_cons] at hk
    simp only [runDrw] at h
    cases hs : stepO orc call o s with
    | none => simp [hs] at h
    | some y =>
      obtain ⟨l, s1⟩ := y
      simp only [hs] at h
      cases hd : runDrw orc call r s1 with
      | none => simp [hd] at h
      | some z =>
        obtain ⟨ls', s2⟩ := z
        simp only [hd, Option.some.injEq, Prod.mk.injEq] at h
        obtain ⟨rfl, h2⟩ := h
        rw [h2] at hd
        have h0 : al[k]? = some o := by have := hr 0; simpa using this.symm
        have hL0 : L[k]? = some l := by have := hls 0; simpa using this.symm
        have hlt : k < ops.size := by omega
        obtain ⟨oo, hoo⟩ : ∃ oo, ops[k]? = some oo := ⟨_, Array.getElem?_eq_getElem hlt⟩
        have hget : ∀ j, j < ops.size → listed.getD j false = listed.getD j true := fun j hj => by
          simp [Array.getD_eq_getD_getElem?, Array.getElem?_eq_getElem (show j < listed.size by omega)]
        refine any_first h0 hL0 r.length listed s s1 (fun j o' oj lj hj1 hj2 hj3 hne hun hno => ?_) ?_ hs
          (any_lex hsz hback hfree r (k + 1) _ s1 ls' (by omega) (fun j => by have := hr (j + 1); simpa [Nat.add_assoc, Nat.add_comm 1 j] using this) (fun j => by have := hls (j + 1); simpa [Nat.add_assoc, Nat.add_comm 1 j] using this) (by simpa using hl) (fun j hj => ?_) hd)
        · have hj : j < ops.size := (Array.getElem?_eq_some_iff.1 hj1).1
          rw [hlk j hj] at hun
          simp only [decide_eq_false_iff_not] at hun
          exact hfree k j o' o oj l lj (by omega) hj1 h0 hj2 hL0 hj3 hno
        · refine mem_ready.2 ⟨by rw [hlk k hlt]; simp, oo, hoo, fun e he hb => ?_⟩
          have := hback k oo hoo e he hb
          rw [hget _ (by omega), hlk _ (by omega)]
          simpa using this
        · by_cases hjk : k = j
          · subst hjk
            have : k < listed.size := by omega
            simp [Array.getD_eq_getD_getElem?, this]
          · rw [getD_set_ne true hjk, hlk j hj]
            simp only [decide_eq_decide]
            omega
end

/-! ### every order, up to a panic -/
section
variable {orc : Orc} {call : CallF} {ops : Array Oper} {al : List AOper} {L : List (Option Lab)} {fin : St} {md : Region.Mode} {j0 : Nat} {d : D}

theorem doAc_pan {V V1 : List VO} {T T1 : List Nat} {a : Ac} {l : Lab} (h : doAc call V T a = some (.pan d V1 T1, l)) (V2 : List VO) (T2 : List Nat) : ∃ V3 T3 l3, doAc call V2 T2 a = some (.pan d V3 T3, l3) := by
  cases a with
  | pan x =>
    simp only [doAc] at h ⊢
    split at h
    · rename_i hc
      simp only [Option.some.injEq, Prod.mk.injEq, Out1.pan.injEq] at h
      obtain ⟨⟨rfl, _⟩, _⟩ := h
      rw [if_pos hc]
      exact ⟨_, _, _, rfl⟩
    · simp at h
  | call f args =>
    simp only [doAc] at h ⊢
    split at h
    · rename_i hc
      rw [if_pos hc]
      split at h
      · split at h <;> simp at h
      · rename_i x V3 T3 hcl
        split at h
        · rename_i hcd
          simp only [Option.some.injEq, Prod.mk.injEq, Out1.pan.injEq] at h
          obtain ⟨⟨rfl, _⟩, _⟩ := h
          rw [if_pos hcd]
          exact ⟨_, _, _, rfl⟩
        · simp at h
      · simp at h
    · split at h
      · split at h <;> simp at h
      · simp at h
  | _ =>
    exfalso
    simp only [doAc] at h
    repeat' split at h
    all_goals simp at h

theorem panO_agree {o : AOper} {s : St} {e' : Env} (V2 : List VO) (T2 : List Nat) (hp : panO orc call o s = some d) (h : Agree s.e e' o.reads) : panO orc call o ⟨e', V2, T2⟩ = some d := by
  unfold panO at hp ⊢
  rw [show guardD (⟨e', V2, T2⟩ : St).e o.g = guardD s.e o.g from (guard_agree h).symm]
  split at hp
  · rename_i hg
    simp only [hg]
    rw [← act_agree (e := s.e) (e' := e') h.left]
    cases ha : act orc s.e o.op with
    | none => rw [ha] at hp; simp at hp
    | some a =>
      rw [ha] at hp
      simp only [] at hp ⊢
      split at hp
      · rename_i x V1 T1 l1 hd
        simp only [Option.some.injEq] at hp
        subst hp
        obtain ⟨V3, T3, l3, h3⟩ := doAc_pan hd V2 T2
        rw [h3]
      · simp at hp
  · simp at hp

def anyP (orc : Orc) (call : CallF) (md : Region.Mode) (ops : Array Oper) (al : List AOper) (L : List (Option Lab)) (j0 : Nat) (d : D) : Nat → Array Bool → St → Prop
  | 0, _, _ => False
  | fuel + 1, listed, s => Region.ready md ops listed ≠ [] ∧ ∀ i ∈ Region.ready md ops listed, (i = j0 ∧ ∃ o, al[i]? = some o ∧ panO orc call o s = some d) ∨
      (∃ o l s1, al[i]? = some o ∧ L[i]? = some (some l) ∧ stepO orc call o s = some (l, s1) ∧ anyP orc call md ops al L j0 d fuel (listed.setIfInBounds i true) s1)

theorem anyP_succ : ∀ (fuel : Nat) (listed : Array Bool) (s : St), anyP orc call md ops al L j0 d fuel listed s → anyP orc call md ops al L j0 d (fuel + 1) listed s
  | 0, _, _, h => h.elim
  | fuel + 1, listed, s, h => ⟨h.1, fun i hi => (h.2 i hi).imp id fun ⟨o, l, s1, h1, h2, h3, h4⟩ => ⟨o, l, s1, h1, h2, h3, anyP_succ fuel _ _ h4⟩⟩

theorem any_firstP {i : Nat} {oi : AOper} {la : Lab} (hi : al[i]? = some oi) (hL : L[i]? = some (some la)) : ∀ (fuel : Nat) (listed : Array Bool) (s s1 : St),
    (∀ (j : Nat) (o : Oper) (oj : AOper) (lj : Lab), ops[j]? = some o → al[j]? = some oj → L[j]? = some (some lj) → j ≠ i → listed.getD j true = false → (∀ e ∈ o.after, Region.binds md e = true → e.on ≠ i) → oi.apart oj = true ∧ conf la lj = true) →
    (∀ (o : Oper) (oj : AOper), ops[j0]? = some o → al[j0]? = some oj → (∀ e ∈ o.after, Region.binds md e = true → e.on ≠ i) → ∀ t, oi.d = some t → t ∉ oj.reads) →
    i ∈ Region.ready md ops listed → stepO orc call oi s = some (la, s1) → anyP orc call md ops al L j0 d fuel (listed.setIfInBounds i true) s1 → anyP orc call md ops al L j0 d (fuel + 1) listed s := by
  intro fuel
  induction fuel with
  | zero => intro listed s s1 _ _ _ _ H; exact H.elim
  | succ fuel ih =>
    intro listed s s1 hfree hj0 hr hy H
    refine ⟨fun h => (by rw [h] at hr; cases hr), fun j hj => ?_⟩
    by_cases hji : j = i
    · subst hji; exact .inr ⟨oi, la, s1, hi, hL, hy, H⟩
    · obtain ⟨hjun, o, ho, hall⟩ := mem_ready.1 hj
      have hnot : ∀ e ∈ o.after, Region.binds md e = true → e.on ≠ i := fun e he hb heq => by
        have h1 := hall e he hb
        have h0 := (mem_ready.1 hr).1
        rw [heq] at h1
        rcases Nat.lt_or_ge i listed.size with h' | h'
        · simp [h'] at h0 h1; rw [h0] at h1; cases h1
        · simp [Array.getElem?_eq_none h'] at h1
      rcases H.2 j (ready_mono hj hji) with ⟨rfl, oj, g1, g2⟩ | ⟨oj, lj, s2, g1, g2, g3, g4⟩
      · refine .inl ⟨rfl, oj, g1, ?_⟩
        obtain ⟨x, e1, _⟩ := stepO_spec hy
        have hs1 : s1.e = putE s.e oi.d x := by rw [e1]
        exact panO_agree (e' := s.e) s.V s.T g2 (by rw [hs1]; exact putE_agree (hj0 o oj ho g1 hnot))
      · obtain ⟨hap, hcf⟩ := hfree j o oj lj ho g1 g2 hji hjun hnot
        obtain ⟨s1', c1, c2⟩ := stepO_comm hap hy g3 hcf
        refine .inr ⟨oj, lj, s1', g1, g2, c1, ih _ s1' s2 (fun k o' ok lk hk1 hk2 hk3 hki hun hno => hfree k o' ok lk hk1 hk2 hk3 hki ?_ hno) hj0 (ready_mono hr (Ne.symm hji)) c2 ?_⟩
        · by_cases hjk : j = k
          · subst hjk; exact hjun
          · rw [getD_set_ne true hjk] at hun; exact hun
        · rw [Array.setIfInBounds_comm _ _ hji]
          exact g4

/-- The run past what waits. -/
def RunW (orc : Orc) (call : CallF) : List AOper → List (Option Lab) → St → St → Prop
  | [], [], s, f => s = f
  | _ :: r, none :: ls, s, f => RunW orc call r ls s f
  | o :: r, some l :: ls, s, f => ∃ s1, stepO orc call o s = some (l, s1) ∧ RunW orc call r ls s1 f
  | _, _, _, _ => False

theorem runPanW_spec {ps : List (Nat × Nat)} : ∀ (r : List AOper) (i : Nat) (bl : List Nat) (s f : St) (ls : List (Option Lab)), runPanW orc call ps j0 i r bl s = some (ls, f) →
    RunW orc call r ls s f ∧ ls.length = r.length ∧ (∀ m, ls[m]? = some none → i + m = j0 ∨ ∃ k, (k ∈ bl ∨ ∃ q, q < m ∧ k = i + q ∧ ls[q]? = some none) ∧ ps.contains (k, i + m) = false) ∧
      (∀ m l, ls[m]? = some (some l) → i + m ≠ j0 ∧ (∀ k, k ∈ bl → ps.contains (k, i + m) = true) ∧ ∀ q, q < m → ls[q]? = some none → ps.contains (i + q, i + m) = true)
  | [], i, bl, s, f, ls, h => by
    simp only [runPanW, Option.some.injEq, Prod.mk.injEq] at h
    obtain ⟨rfl, rfl⟩ := h
    exact ⟨rfl, rfl, fun m h => by simp at h, fun m l h => by simp at h⟩
  | o :: r, i, bl, s, f, ls, h => by
    unfold runPanW at h
    split at h
    · rename_i hc
      cases hw : runPanW orc call ps j0 (i + 1) r (i :: bl) s with
      | none => rw [hw] at h; simp at h
      | some x =>
        obtain ⟨ls', f'⟩ := x
        rw [hw] at h
        simp only [Option.some.injEq, Prod.mk.injEq] at h
        obtain ⟨rfl, rfl⟩ := h
        obtain ⟨h1, h2, h3, h4⟩ := runPanW_spec r (i + 1) (i :: bl) s f' ls' hw
        refine ⟨h1, by simp [h2], fun m hm => ?_, fun m l hm => ?_⟩
        · cases m with
          | zero =>
            rcases hc with hc | hc
            · exact .inl hc
            · unfold blk at hc
              rw [List.any_eq_true] at hc
              obtain ⟨k, hk, hk2⟩ := hc
              exact .inr ⟨k, .inl hk, by simpa using hk2⟩
          | succ m =>
            rcases h3 m (by simpa using hm) with h5 | ⟨k, h5, h6⟩
            · exact .inl (by omega)
            · refine .inr ⟨k, ?_, by rw [← h6]; congr 2; omega⟩
              rcases h5 with h5 | ⟨q, h7, h8, h9⟩
              · rcases List.mem_cons.1 h5 with rfl | h5
                · exact .inr ⟨0, by omega, rfl, rfl⟩
                · exact .inl h5
              · exact .inr ⟨q + 1, by omega, by omega, by simpa using h9⟩
        · cases m with
          | zero => simp at hm
          | succ m =>
            obtain ⟨h5, h6, h7⟩ := h4 m l (by simpa using hm)
            have e : i + (m + 1) = i + 1 + m := by omega
            rw [e]
            refine ⟨h5, fun k hk => h6 k (List.mem_cons_of_mem _ hk), fun q hq hn => ?_⟩
            cases q with
            | zero => exact h6 i (List.mem_cons_self)
            | succ q =>
              have := h7 q (by omega) (by simpa using hn)
              rw [← this]; congr 2; omega
    · rename_i hc
      cases hs : stepO orc call o s with
      | none => rw [hs] at h; simp at h
      | some y =>
        obtain ⟨l0, s1⟩ := y
        rw [hs] at h
        simp only [] at h
        cases hw : runPanW orc call ps j0 (i + 1) r bl s1 with
        | none => rw [hw] at h; simp at h
        | some x =>
          obtain ⟨ls', f'⟩ := x
          rw [hw] at h
          simp only [Option.some.injEq, Prod.mk.injEq] at h
          obtain ⟨rfl, rfl⟩ := h
          obtain ⟨h1, h2, h3, h4⟩ := runPanW_spec r (i + 1) bl s1 f' ls' hw
          refine ⟨⟨s1, hs, h1⟩, by simp [h2], fun m hm => ?_, fun m l hm => ?_⟩
          · cases m with
            | zero => simp at hm
            | succ m =>
              rcases h3 m (by simpa using hm) with h5 | ⟨k, h5, h6⟩
              · exact .inl (by omega)
              · refine .inr ⟨k, ?_, by rw [← h6]; congr 2; omega⟩
                rcases h5 with h5 | ⟨q, h7, h8, h9⟩
                · exact .inl h5
                · exact .inr ⟨q + 1, by omega, by omega, by simpa using h9⟩
          · cases m with
            | zero =>
              refine ⟨fun e => hc (.inl e), fun k hk => ?_, fun q hq _ => absurd hq (Nat.not_lt_zero q)⟩
              cases hcc : ps.contains (k, i + 0) with
              | true => rfl
              | false => exact absurd (.inr (by unfold blk; rw [List.any_eq_true]; exact ⟨k, hk, by simpa using hcc⟩)) hc
            | succ m =>
              obtain ⟨h5, h6, h7⟩ := h4 m l (by simpa using hm)
              have e : i + (m + 1) = i + 1 + m := by omega
              rw [e]
              refine ⟨h5, h6, fun q hq hn => ?_⟩
              cases q with
              | zero => simp at hn
              | succ q =>
                have := h7 q (by omega) (by simpa using hn)
                rw [← this]; congr 2; omega

theorem any_lexP (hsz : al.length = ops.size) (hLz : L.length = ops.size) (hback : ∀ (j : Nat) (o : Oper), ops[j]? = some o → ∀ e ∈ o.after, Region.binds md e = true → e.on < j)
    (hfree : ∀ (k j : Nat) (o : Oper) (ok oj : AOper) (lk lj : Lab), k < j → ops[j]? = some o → al[k]? = some ok → al[j]? = some oj → L[k]? = some (some lk) → L[j]? = some (some lj) → (∀ e ∈ o.after, Region.binds md e = true → e.on ≠ k) → ok.apart oj = true ∧ conf lk lj = true)
    (hj0 : ∀ (k : Nat) (l : Lab) (o : Oper) (ok oj : AOper), al[k]? = some ok → L[k]? = some (some l) → ops[j0]? = some o → al[j0]? = some oj → (∀ e ∈ o.after, Region.binds md e = true → e.on ≠ k) → ∀ t, ok.d = some t → t ∉ oj.reads)
    (hblk : ∀ (j : Nat) (o : Oper), ops[j]? = some o → L[j]? = some none → j ≠ j0 → ∃ e ∈ o.after, Region.binds md e = true ∧ L[e.on]? = some none)
    (hun : ∀ (j : Nat) (l : Lab), L[j]? = some (some l) → ∀ o, ops[j]? = some o → ∀ e ∈ o.after, Region.binds md e = true → ∃ l, L[e.on]? = some (some l)) (hj0L : L[j0]? = some none) (hpre : ∀ o, ops[j0]? = some o → ∀ e ∈ o.after, Region.binds md e = true → ∃ l, L[e.on]? = some (some l))
    (hfin : ∃ o, al[j0]? = some o ∧ panO orc call o fin = some d) :
    ∀ (r : List AOper) (k : Nat) (listed : Array Bool) (s : St) (ls : List (Option Lab)), k + r.length = ops.size → (∀ j, r[j]? = al[k + j]?) → (∀ j, ls[j]? = L[k + j]?) → listed.size = ops.size →
      (∀ j, j < ops.size → listed.getD j true = (decide (j < k) && (L[j]?).any Option.isSome)) → RunW orc call r ls s fin → anyP orc call md ops al L j0 d (r.length + if j0 < k then 1 else 0) listed s
  | [], k, listed, s, ls, hk, hr, hls, hl, hlk, h => by
    have hs : s = fin := by
      cases ls with
      | nil => exact h
      | cons x ls => exact h.elim
    subst hs
    have hj0s : j0 < ops.size := by rw [← hLz]; exact (List.getElem?_eq_some_iff.1 hj0L).1
    have hk' : k = ops.size := by simpa using hk
    have hget : ∀ j, j < ops.size → listed.getD j false = listed.getD j true := fun j hj => by
      simp [Array.getD_eq_getD_getElem?, Array.getElem?_eq_getElem (show j < listed.size by omega)]
    rw [if_pos (by omega)]
    refine ⟨fun hnil => ?_, fun i hi => ?_⟩
    · obtain ⟨o, ho⟩ : ∃ o, ops[j0]? = some o := ⟨_, Array.getElem?_eq_getElem hj0s⟩
      have : j0 ∈ Region.ready md ops listed := mem_ready.2 ⟨by rw [hlk j0 hj0s, hj0L]; simp, o, ho, fun e he hb => by
        have h1 := hback j0 o ho e he hb
        obtain ⟨l, h2⟩ := hpre o ho e he hb
        rw [hget _ (by omega), hlk _ (by omega), h2]
        simp
        omega⟩
      rw [hnil] at this
      cases this
    · obtain ⟨h0, o, ho, hall⟩ := mem_ready.1 hi
      have hlt : i < ops.size := (Array.getElem?_eq_some_iff.1 ho).1
      have hnone : L[i]? = some none := by
        obtain ⟨x, hx⟩ : ∃ x, L[i]? = some x := ⟨_, List.getElem?_eq_getElem (by omega)⟩
        rw [hlk i hlt, hx] at h0
        cases x with
        | none => exact hx
        | some l => simp at h0; omega
      by_cases hij : i = j0
      · subst hij
        exact .inl ⟨rfl, hfin⟩
      · obtain ⟨e, he, hb, hn⟩ := hblk i o ho hnone hij
        have h1 := hall e he hb
        have h2 := hback i o ho e he hb
        rw [hget _ (by omega), hlk _ (by omega), hn] at h1
        simp at h1
  | o :: r, k, listed, s, ls, hk, hr, hls, hl, hlk, h => by
    simp only [List.length_cons] at hk ⊢
    cases ls with
    | nil => exact h.elim
    | cons x ls =>
      have h0 : al[k]? = some o := by have := hr 0; simpa using this.symm
      have hL0 : L[k]? = some x := by have := hls 0; simpa using this.symm
      have hlt : k < ops.size := by omega
      obtain ⟨oo, hoo⟩ : ∃ oo, ops[k]? = some oo := ⟨_, Array.getElem?_eq_getElem hlt⟩
      have hget : ∀ j, j < ops.size → listed.getD j false = listed.getD j true := fun j hj => by
        simp [Array.getD_eq_getD_getElem?, Array.getElem?_eq_getElem (show j < listed.size by omega)]
      have hr' : ∀ j, r[j]? = al[k + 1 + j]? := fun j => by have := hr (j + 1); simpa [Nat.add_assoc, Nat.add_comm 1 j] using this
      have hls' : ∀ j, ls[j]? = L[k + 1 + j]? := fun j => by have := hls (j + 1); simpa [Nat.add_assoc, Nat.add_comm 1 j] using this
      cases x with
      | none =>
        have ih := any_lexP hsz hLz hback hfree hj0 hblk hun hj0L hpre hfin r (k + 1) listed s ls (by omega) hr' hls' hl (fun j hj => ?_) h
        · by_cases hc : j0 = k
          · subst hc
            rw [if_neg (by omega)]
            rw [if_pos (by omega)] at ih
            exact ih
          · by_cases hc2 : j0 < k
            · rw [if_pos hc2]
              rw [if_pos (by omega)] at ih
              have := anyP_succ _ _ _ ih
              rw [show r.length + 1 + 1 = r.length + 1 + 1 from rfl]
              exact this
            · rw [if_neg hc2]
              rw [if_neg (by omega)] at ih
              exact anyP_succ _ _ _ ih
        · rw [hlk j hj]
          by_cases hjk : j = k
          · subst hjk; rw [hL0]; simp
          · congr 1
            simp only [decide_eq_decide]
            omega
      | some l =>
        obtain ⟨s1, hs, hrest⟩ := h
        have hkj : k ≠ j0 := fun e => by rw [e, hj0L] at hL0; simp at hL0
        have e1 : (if j0 < k then 1 else 0) = (if j0 < k + 1 then 1 else 0) := by
          by_cases hc : j0 < k
          · rw [if_pos hc, if_pos (by omega)]
          · rw [if_neg hc, if_neg (by omega)]
        rw [e1, show r.length + 1 + (if j0 < k + 1 then 1 else 0) = (r.length + if j0 < k + 1 then 1 else 0) + 1 by omega]
        refine any_firstP h0 hL0 _ listed s s1 (fun j o' oj lj hj1 hj2 hj3 hne hun hno => ?_) (fun o' oj ho' hoj hno => hj0 k l o' o oj h0 hL0 ho' hoj hno) ?_ hs
          (any_lexP hsz hLz hback hfree hj0 hblk hun hj0L hpre hfin r (k + 1) _ s1 ls (by omega) hr' hls' (by simpa using hl) (fun j hj => ?_) hrest)
        · have hj : j < ops.size := (Array.getElem?_eq_some_iff.1 hj1).1
          rw [hlk j hj, hj3] at hun
          simp at hun
          exact hfree k j o' o oj l lj (by omega) hj1 h0 hj2 hL0 hj3 hno
        · refine mem_ready.2 ⟨by rw [hlk k hlt]; simp, oo, hoo, fun e he hb => ?_⟩
          have h1 := hback k oo hoo e he hb
          have h2 : ∃ l, L[e.on]? = some (some l) := hun k l hL0 oo hoo e he hb
          obtain ⟨l2, h2⟩ := h2
          rw [hget _ (by omega), hlk _ (by omega), h2]
          simpa using h1
        · by_cases hjk : k = j
          · subst hjk
            have : k < listed.size := by omega
            simp [Array.getD_eq_getD_getElem?, this, hL0]
          · rw [getD_set_ne true hjk, hlk j hj]
            congr 1
            simp only [decide_eq_decide]
            omega
end
end Go.Abs
