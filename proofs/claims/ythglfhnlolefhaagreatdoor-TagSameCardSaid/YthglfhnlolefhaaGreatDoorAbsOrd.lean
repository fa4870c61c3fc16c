/- Own framework, part 22: regions whose order is open; no program in sight. -/
import Derived.Test.YthglfhnlolefhaaGreatDoorAbsReg
set_option linter.unusedVariables false
set_option linter.unusedSimpArgs false
namespace Go.Abs

section
variable {orc : Orc} {call : CallF}

def Agree (e e' : Env) (rs : List Nat) : Prop := ∀ t, t ∈ rs → e t = e' t
theorem Agree.left {e e' : Env} {l r : List Nat} (h : Agree e e' (l ++ r)) : Agree e e' l := fun t ht => h t (List.mem_append.2 (.inl ht))
theorem Agree.right {e e' : Env} {l r : List Nat} (h : Agree e e' (l ++ r)) : Agree e e' r := fun t ht => h t (List.mem_append.2 (.inr ht))

theorem ev_agree {e e' : Env} {x : Opd} (h : Agree e e' x.reads) : ev e x = ev e' x := by
  cases x with
  | t n => exact h n (by simp [Opd.reads])
  | _ => rfl
theorem map_agree {e e' : Env} : ∀ {xs : List Opd}, Agree e e' (xs.flatMap Opd.reads) → xs.map (ev e) = xs.map (ev e')
  | [], _ => rfl
  | x :: xs, h => by
    rw [List.flatMap_cons] at h
    rw [List.map_cons, List.map_cons, ev_agree h.left, map_agree h.right]
theorem fillD_agree {e e' : Env} : ∀ {ps : List Part} {cs : List D}, Agree e e' (ps.flatMap fun p => p.x.reads) → fillD e cs ps = fillD e' cs ps
  | [], _, _ => rfl
  | p :: ps, cs, h => by
    rw [List.flatMap_cons] at h
    simp only [fillD, ev_agree h.left, fillD_agree h.right]
theorem fillP_agree {e e' : Env} : ∀ {ps : List Part} {cs : List P}, Agree e e' (ps.flatMap fun p => p.x.reads) → fillP e cs ps = fillP e' cs ps
  | [], _, _ => rfl
  | p :: ps, cs, h => by
    rw [List.flatMap_cons] at h
    simp only [fillP, ev_agree h.left, fillP_agree h.right]
theorem zeroO_agree {e e' : Env} {x : Option Opd} (h : Agree e e' (optReads x)) : zeroO e x = zeroO e' x := by
  cases x with
  | none => rfl
  | some x => simp only [zeroO, ev_agree (show Agree e e' x.reads from h)]
theorem bnd_agree {e e' : Env} {x : Option Opd} {a b : Nat} (h : Agree e e' (optReads x)) : bnd e x a b = bnd e' x a b := by
  cases x with
  | none => rfl
  | some y => simp only [bnd, ev_agree (x := y) h]

theorem act_agree {e e' : Env} {op : AOp} (h : Agree e e' op.reads) : act orc e op = act orc e' op := by
  cases op with
  | pick a b c => simp only [act, ev_agree (AOp.reads.eq_def (.pick a b c) ▸ h).left, ev_agree (AOp.reads.eq_def (.pick a b c) ▸ h).right.left, ev_agree (AOp.reads.eq_def (.pick a b c) ▸ h).right.right]
  | alloc t z => rfl
  | mks t n z => rfl
  | build z ps => simp only [act, fillD_agree (show Agree e e' (ps.flatMap fun p => p.x.reads) from h)]
  | bsl t n z ps => simp only [act, fillP_agree (show Agree e e' (ps.flatMap fun p => p.x.reads) from h)]
  | mkf f xs => simp only [act, map_agree (show Agree e e' (xs.flatMap Opd.reads) from h)]
  | call f xs => simp only [act, map_agree (show Agree e e' (xs.flatMap Opd.reads) from h)]
  | dyn x xs =>
    have h : Agree e e' (x.reads ++ xs.flatMap Opd.reads) := h
    simp only [act, ev_agree h.left, map_agree h.right]
  | mx xs =>
    have h : Agree e e' (xs.flatMap Opd.reads) := h
    cases xs with
    | nil => rfl
    | cons x xs =>
      rw [List.flatMap_cons] at h
      simp only [act, ev_agree h.left, map_agree h.right]
  | mn xs =>
    have h : Agree e e' (xs.flatMap Opd.reads) := h
    cases xs with
    | nil => rfl
    | cons x xs =>
      rw [List.flatMap_cons] at h
      simp only [act, ev_agree h.left, map_agree h.right]
  | slc k x a b c =>
    have h : Agree e e' (x.reads ++ (optReads a ++ (optReads b ++ optReads c))) := h
    simp only [act, slcD, ev_agree h.left, bnd_agree h.right.left, bnd_agree h.right.right.left, zeroO_agree h.right.left, zeroO_agree h.right.right.left, zeroO_agree h.right.right.right]
  | store n a x => 
    have h : Agree e e' (a.reads ++ x.reads) := h
    simp only [act, ev_agree h.left, ev_agree h.right]
  | bin op k a x => 
    have h : Agree e e' (a.reads ++ x.reads) := h
    simp only [act, ev_agree h.left, ev_agree h.right]
  | iad k a x => 
    have h : Agree e e' (a.reads ++ x.reads) := h
    simp only [act, ev_agree h.left, ev_agree h.right]
  | idx b k a x => 
    have h : Agree e e' (a.reads ++ x.reads) := h
    simp only [act, ev_agree h.left, ev_agree h.right]
  | app t n b s a x => 
    have h : Agree e e' (a.reads ++ x.reads) := h
    simp only [act, ev_agree h.left, ev_agree h.right]
  | mv x => simp only [act, ev_agree (show Agree e e' x.reads from h)]
  | box t n x => simp only [act, ev_agree (show Agree e e' x.reads from h)]
  | load b n x => simp only [act, ev_agree (show Agree e e' x.reads from h)]
  | nilck x => simp only [act, ev_agree (show Agree e e' x.reads from h)]
  | un o x => simp only [act, ev_agree (show Agree e e' x.reads from h)]
  | conv k x => simp only [act, ev_agree (show Agree e e' x.reads from h)]
  | mki t x => simp only [act, ev_agree (show Agree e e' x.reads from h)]
  | fld b n m x => simp only [act, ev_agree (show Agree e e' x.reads from h)]
  | fad n x => simp only [act, ev_agree (show Agree e e' x.reads from h)]
  | ext x i => simp only [act, ev_agree (show Agree e e' x.reads from h)]
  | len k x => simp only [act, ev_agree (show Agree e e' x.reads from h)]
  | panic x => simp only [act, ev_agree (show Agree e e' x.reads from h)]
  | fnil n x => simp only [act, ev_agree (show Agree e e' x.reads from h)]
  | snil n x => simp only [act, ev_agree (show Agree e e' x.reads from h)]
  | inil n x => simp only [act, ev_agree (show Agree e e' x.reads from h)]
  | tas t x => simp only [act, ev_agree (show Agree e e' x.reads from h)]
  | rng x => simp only [act, ev_agree (show Agree e e' x.reads from h)]
  | nxt x => simp only [act, ev_agree (show Agree e e' x.reads from h)]

theorem putE_agree {e : Env} {dst : Option Nat} {x : D} {rs : List Nat} (h : ∀ d, dst = some d → d ∉ rs) : Agree (putE e dst x) e rs := by
  intro t ht
  cases dst with
  | none => rfl
  | some d =>
    have : t ≠ d := fun e => h d rfl (e ▸ ht)
    simp [putE, upd, this]
theorem putE_comm {e : Env} {a b : Option Nat} {x y : D} (h : ∀ d, a = some d → b ≠ some d) : putE (putE e a x) b y = putE (putE e b y) a x := by
  cases a with
  | none => rfl
  | some i =>
    cases b with
    | none => rfl
    | some j =>
      have hne : i ≠ j := fun e => h i rfl (by rw [e])
      funext t
      simp only [putE, upd]
      by_cases h1 : t = i
      · by_cases h2 : t = j
        · omega
        · simp [h1, hne]
      · by_cases h2 : t = j
        · simp [h1, h2]; exact fun e => absurd e.symm hne
        · simp [h1, h2]

theorem apart_spec {x y : AOper} (h : x.apart y = true) : (∀ d, x.d = some d → d ∉ y.reads) ∧ (∀ d, x.d = some d → y.d ≠ some d) ∧ (∀ d, y.d = some d → d ∉ x.reads) := by
  refine ⟨fun d hd => ?_, fun d hd => ?_, fun d hd => ?_⟩ <;> simp [AOper.apart, hd] at h
  · exact h.1.1
  · exact h.1.2
  · exact h.2

theorem guard_agree {e e' : Env} {o : AOper} (h : Agree e e' o.reads) : guardD e o.g = guardD e' o.g := by
  unfold AOper.reads at h
  cases hg : o.g with
  | none => rfl
  | some x =>
    obtain ⟨t, b⟩ := x
    rw [hg] at h
    simp only [guardD, h.right t (by simp)]

/-- What an operation's label says of it. -/
def Spec (call : CallF) (V : List VO) (T : List Nat) (ac : Ac) (x : D) (V' : List VO) (T' : List Nat) : Lab → Prop
  | .q => V' = V ∧ T' = T ∧ ∀ V2 T2, doAc call V2 T2 ac = some (.ok x V2 T2, .q)
  | .rd id => V' = V ∧ T' = T ∧ ∀ (V2 : List VO) T2, V2[id]? = V[id]? → doAc call V2 T2 ac = some (.ok x V2 T2, .rd id)
  | .wr id => ∃ o, V' = V.set id o ∧ T' = T ∧ ∀ (V2 : List VO) T2, V2[id]? = V[id]? → doAc call V2 T2 ac = some (.ok x (V2.set id o) T2, .wr id)
  | .ps id => id = V.length ∧ ∃ o, V' = V ++ [o] ∧ T' = T ∧ ∀ (V2 : List VO) T2, V2.length = V.length → doAc call V2 T2 ac = some (.ok x (V2 ++ [o]) T2, .ps id)
  | .tw id => ∃ k, V' = V ∧ T' = T.set id k ∧ ∀ V2 (T2 : List Nat), T2[id]? = T[id]? → doAc call V2 T2 ac = some (.ok x V2 (T2.set id k), .tw id)
  | .tp id => id = T.length ∧ V' = V ∧ T' = T ++ [0] ∧ ∀ V2 (T2 : List Nat), T2.length = T.length → doAc call V2 T2 ac = some (.ok x V2 (T2 ++ [0]), .tp id)
  | .pan => False
  | .open => True

theorem spec_of {V : List VO} {T : List Nat} {ac : Ac} {x : D} {V' : List VO} {T' : List Nat} {l : Lab} (h : doAc call V T ac = some (.ok x V' T', l)) : Spec call V T ac x V' T' l := by
  cases ac with
  | q d =>
    simp only [doAc, Option.some.injEq, Prod.mk.injEq, Out1.ok.injEq] at h
    obtain ⟨⟨rfl, rfl, rfl⟩, rfl⟩ := h
    exact ⟨rfl, rfl, fun _ _ => rfl⟩
  | rd id f =>
    simp only [doAc] at h
    split at h
    · rename_i o ho
      split at h
      · simp at h
      · rename_i hit
        split at h
        · rename_i d hf
          simp only [Option.some.injEq, Prod.mk.injEq, Out1.ok.injEq] at h
          obtain ⟨⟨rfl, rfl, rfl⟩, rfl⟩ := h
          exact ⟨rfl, rfl, fun V2 T2 h2 => by simp only [doAc, h2, ho, if_neg hit, hf]⟩
        · simp at h
    · simp at h
  | fz id f =>
    simp only [doAc] at h
    split at h
    · rename_i o ho
      split at h
      · simp at h
      · rename_i hit
        split at h
        · rename_i cs hp
          split at h
          · rename_i d hf
            simp only [Option.some.injEq, Prod.mk.injEq, Out1.ok.injEq] at h
            obtain ⟨⟨rfl, rfl, rfl⟩, rfl⟩ := h
            exact ⟨_, rfl, rfl, fun V2 T2 h2 => by simp only [doAc, h2, ho, if_neg hit, hp, hf]⟩
          · simp at h
        · simp at h
    · simp at h
  | wr id f =>
    simp only [doAc] at h
    split at h
    · rename_i o ho
      split at h
      · simp at h
      · rename_i hit
        split at h
        · rename_i cs hf
          simp only [Option.some.injEq, Prod.mk.injEq, Out1.ok.injEq] at h
          obtain ⟨⟨rfl, rfl, rfl⟩, rfl⟩ := h
          exact ⟨_, rfl, rfl, fun V2 T2 h2 => by simp only [doAc, h2, ho, if_neg hit, hf]⟩
        · simp at h
    · simp at h
  | push t it cs =>
    simp only [doAc, Option.some.injEq, Prod.mk.injEq, Out1.ok.injEq] at h
    obtain ⟨⟨rfl, rfl, rfl⟩, rfl⟩ := h
    exact ⟨rfl, _, rfl, rfl, fun V2 T2 h2 => by simp only [doAc, h2]⟩
  | nx id =>
    simp only [doAc] at h
    split at h
    · rename_i o ho
      split at h
      · rename_i s p hit hcs
        split at h
        · rename_i hlt
          simp only [Option.some.injEq, Prod.mk.injEq, Out1.ok.injEq] at h
          obtain ⟨⟨rfl, rfl, rfl⟩, rfl⟩ := h
          exact ⟨_, rfl, rfl, fun V2 T2 h2 => by simp only [doAc, h2, ho, hit, hcs, if_pos hlt]⟩
        · rename_i hlt
          simp only [Option.some.injEq, Prod.mk.injEq, Out1.ok.injEq] at h
          obtain ⟨⟨rfl, rfl, rfl⟩, rfl⟩ := h
          exact ⟨rfl, rfl, fun V2 T2 h2 => by simp only [doAc, h2, ho, hit, hcs, if_neg hlt]⟩
      · simp at h
    · simp at h
  | tw id ver d =>
    simp only [doAc] at h
    split at h
    · rename_i k hk
      split at h
      · rename_i hv
        simp only [Option.some.injEq, Prod.mk.injEq, Out1.ok.injEq] at h
        obtain ⟨⟨rfl, rfl, rfl⟩, rfl⟩ := h
        exact ⟨_, rfl, rfl, fun V2 T2 h2 => by simp only [doAc, h2, hk, if_pos hv]⟩
      · simp at h
    · simp at h
  | tp mk =>
    simp only [doAc, Option.some.injEq, Prod.mk.injEq, Out1.ok.injEq] at h
    obtain ⟨⟨rfl, rfl, rfl⟩, rfl⟩ := h
    exact ⟨rfl, rfl, rfl, fun V2 T2 h2 => by simp only [doAc, h2]⟩
  | pan d =>
    simp only [doAc] at h
    split at h <;> simp at h
  | call f args =>
    simp only [doAc] at h
    split at h
    · rename_i hcl
      split at h
      · rename_i d V1 T1 hc
        split at h
        · rename_i hcd
          simp only [Option.some.injEq, Prod.mk.injEq, Out1.ok.injEq] at h
          obtain ⟨⟨rfl, rfl, rfl⟩, rfl⟩ := h
          exact ⟨rfl, rfl, fun V2 T2 => by simp only [doAc, if_pos hcl, hc, if_pos hcd]⟩
        · simp only [Option.some.injEq, Prod.mk.injEq] at h
          obtain ⟨_, rfl⟩ := h
          exact trivial
      · split at h <;> simp at h
      · simp at h
    · split at h
      · split at h
        · simp only [Option.some.injEq, Prod.mk.injEq] at h
          obtain ⟨_, rfl⟩ := h
          exact trivial
        · simp at h
      · simp at h
end
end Go.Abs
