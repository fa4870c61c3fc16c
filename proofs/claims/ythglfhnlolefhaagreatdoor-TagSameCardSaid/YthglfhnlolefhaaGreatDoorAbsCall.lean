/- Own framework, part 19: calls. -/
import Derived.Test.YthglfhnlolefhaaGreatDoorAbsMain4
set_option linter.unusedVariables false
set_option linter.unusedSimpArgs false
namespace Go.Abs
open Go.RowKit (Below)

section
variable {P : Program} {w w' : World} {g g1 : Gh} {V V1 : List VO} {T T1 : List Nat} {v : Value} {d : D}

theorem closed_rep {g' : Gh} {T' : List Nat} (h : RepD w g T v d) (hI : g'.I = g.I) : d.closed = true → (g'.B ≤ g.B ∨ d.frz = d) → RepD w g' T' v d := by
  induction h with
  | c h => intro _ _; exact .c (by rw [hI]; exact h)
  | @ag cs ds hl h1 hr ih =>
    intro hc hf
    simp only [D.closed, closedL_all, List.all_eq_true] at hc
    refine .ag hl h1 fun i hi => ih i hi (hc _ (List.getElem_mem hi)) (hf.imp id fun e => ?_)
    simp only [D.frz, frzL_map, D.ag.injEq] at e
    have := congrArg (·[i]?) e
    simpa [hi] using this
  | @tu cs ds hl hr ih =>
    intro hc hf
    simp only [D.closed, closedL_all, List.all_eq_true] at hc
    refine .tu hl fun i hi => ih i hi (hc _ (List.getElem_mem hi)) (hf.imp id fun e => ?_)
    simp only [D.frz, frzL_map, D.tu.injEq] at e
    have := congrArg (·[i]?) e
    simpa [hi] using this
  | fsnil => intro _ _; exact .fsnil
  | fs hB hcl hr =>
    intro _ hf
    rcases hf with hf | hf
    · exact .fs (fun h => Nat.le_trans hf (hB h)) (by rw [hI]; exact hcl) (by rw [hI]; exact hr)
    · simp [D.frz] at hf
  | ow hn hcl hr ht => intro hc; simp [D.closed] at hc
  | ip hcl hr => intro _ _; exact .ip (by rw [hI]; exact hcl) (by rw [hI]; exact hr)
  | mp h => intro hc; simp [D.closed] at hc
  | @fn f cs ds hl hr ih =>
    intro hc hf
    simp only [D.closed, closedL_all, List.all_eq_true] at hc
    refine .fn hl fun i hi => ih i hi (hc _ (List.getElem_mem hi)) (hf.imp id fun e => ?_)
    simp only [D.frz, frzL_map, D.fn.injEq, true_and] at e
    have := congrArg (·[i]?) e
    simpa [hi] using this
  | ifc h ih =>
    intro hc hf
    simp only [D.closed] at hc
    refine .ifc (ih hc (hf.imp id fun e => ?_))
    simpa [D.frz] using e

theorem frz_frz (h : RepD w g T v d) : d.frz.frz = d.frz := by
  induction h with
  | ag hl h1 hr ih =>
    simp only [D.frz, frzL_map, List.map_map, D.ag.injEq]
    refine List.map_congr_left fun x hx => ?_
    obtain ⟨i, hi, rfl⟩ := List.getElem_of_mem hx
    exact ih i hi
  | tu hl hr ih =>
    simp only [D.frz, frzL_map, List.map_map, D.tu.injEq]
    refine List.map_congr_left fun x hx => ?_
    obtain ⟨i, hi, rfl⟩ := List.getElem_of_mem hx
    exact ih i hi
  | fn hl hr ih =>
    simp only [D.frz, frzL_map, List.map_map, D.fn.injEq, true_and]
    refine List.map_congr_left fun x hx => ?_
    obtain ⟨i, hi, rfl⟩ := List.getElem_of_mem hx
    exact ih i hi
  | ifc h ih => simp only [D.frz, ih]
  | _ => rfl

theorem low_rep {g' : Gh} {nv nt : Nat} (h : RepD w g T v d) (hB : g'.B = g.B) (hI : g'.I = g.I) (hσ : g'.σ = g.σ.take nv) (hτ : g'.τ = g.τ.take nt) : d.low nv nt = true → RepD w g' (T.take nt) v d := by
  induction h with
  | c h => intro _; exact .c (by rw [hI]; exact h)
  | @ag cs ds hl h1 hr ih =>
    intro hc
    simp only [D.low, lowL_all, List.all_eq_true] at hc
    exact .ag hl h1 fun i hi => ih i hi (hc _ (List.getElem_mem hi))
  | @tu cs ds hl hr ih =>
    intro hc
    simp only [D.low, lowL_all, List.all_eq_true] at hc
    exact .tu hl fun i hi => ih i hi (hc _ (List.getElem_mem hi))
  | fsnil => intro _; exact .fsnil
  | fs hB' hcl hr => intro _; exact .fs (by rw [hB]; exact hB') (by rw [hI]; exact hcl) (by rw [hI]; exact hr)
  | @ow a n cap us cs id ver hn hcl hr ht =>
    intro hc
    have hc : id < nt := by simpa only [D.low, decide_eq_true_eq] using hc
    refine .ow hn (by rw [hI]; exact hcl) (by rw [hI]; exact hr) ?_
    rw [hτ, List.getElem?_take_of_lt hc, List.getElem?_take_of_lt hc]
    exact ht
  | ip hcl hr => intro _; exact .ip (by rw [hI]; exact hcl) (by rw [hI]; exact hr)
  | @mp id off b h =>
    intro hc
    have hc : id < nv := by simpa only [D.low, decide_eq_true_eq] using hc
    exact .mp (by rw [hσ, List.getElem?_take_of_lt hc]; exact h)
  | @fn f cs ds hl hr ih =>
    intro hc
    simp only [D.low, lowL_all, List.all_eq_true] at hc
    exact .fn hl fun i hi => ih i hi (hc _ (List.getElem_mem hi))
  | ifc h ih => intro hc; exact .ifc (ih (by simpa only [D.low] using hc))

theorem shift_one {nv nt : Nat} (h : d.one = true) : (d.shift nv nt).one = true := by cases d <;> first | rfl | simp [D.one] at h

theorem shift_rep {g' : Gh} {σ0 : List Nat} {τ0 : List TG} {T0 : List Nat} (h : RepD w g T v d) (hB : g'.B ≤ g.B) (hI : g'.I = g.I) (hσ : g'.σ = σ0 ++ g.σ) (hτ : g'.τ = τ0 ++ g.τ) (hT : τ0.length = T0.length) :
    RepD w g' (T0 ++ T) v (d.shift σ0.length T0.length) := by
  induction h with
  | c h => exact .c (by rw [hI]; exact h)
  | @ag cs ds hl h1 hr ih =>
    simp only [D.shift, shiftL_map]
    refine .ag (by simpa using hl) (fun i hi => ?_) fun i hi => ?_
    · rw [List.getElem_map]; exact shift_one (h1 i (by simpa using hi))
    · rw [List.getElem_map]; exact ih i (by simpa using hi)
  | @tu cs ds hl hr ih =>
    simp only [D.shift, shiftL_map]
    refine .tu (by simpa using hl) fun i hi => ?_
    rw [List.getElem_map]; exact ih i (by simpa using hi)
  | fsnil => exact .fsnil
  | fs hB' hcl hr => exact .fs (fun h => Nat.le_trans hB (hB' h)) (by rw [hI]; exact hcl) (by rw [hI]; exact hr)
  | @ow a n cap us cs id ver hn hcl hr ht =>
    refine .ow hn (by rw [hI]; exact hcl) (by rw [hI]; exact hr) ?_
    rw [hτ, List.getElem?_append_right (by omega), List.getElem?_append_right (by omega), hT, Nat.add_sub_cancel]
    exact ht
  | ip hcl hr => exact .ip (by rw [hI]; exact hcl) (by rw [hI]; exact hr)
  | @mp id off b h =>
    refine .mp ?_
    rw [hσ, List.getElem?_append_right (by omega), Nat.add_sub_cancel]
    exact h
  | @fn f cs ds hl hr ih =>
    simp only [D.shift, shiftL_map]
    refine .fn (by simpa using hl) fun i hi => ?_
    rw [List.getElem_map]; exact ih i (by simpa using hi)
  | ifc h ih => exact .ifc ih

/-- The callee of a call all of whose arguments are closed: it has no variables and no tokens as yet. -/
def Gh.clear (g : Gh) (w : World) : Gh := ⟨w.heap.size, [], [], g.I⟩
theorem Sim.clear (h : Sim w g V T) : Sim w (g.clear w) [] [] where
  lv := rfl
  lt := rfl
  var id o b ho := by simp at ho
  tok id tg ht := by simp [Gh.clear] at ht
  nd := by simp [Gh.clear]
  base b hb := by simp [Gh.clear] at hb
  hB := Nat.le_refl _
  ilt := h.ilt
  iv b o id vo hi hs := by simp [Gh.clear] at hs
  it b o id tg hi ht := by simp [Gh.clear] at ht

theorem got_closed (hS : Sim w g V T) (h : Got w (g.clear w) [] w' v d V1 T1) (hc : d.closed = true) : Got w g T w' v d V T := by
  obtain ⟨g1, e1, s1, r1, b1⟩ := h
  have b1 : Below w.heap.size w w' := b1
  have eB : g1.B = w.heap.size := e1.B
  have he : Ext w g T w' { g with I := g1.I } T := ⟨rfl, fun b o hi => e1.imm b o hi, fun _ _ h => h, fun _ k h => ⟨k, h, Nat.le_refl _, fun _ => rfl⟩, fun b o hi =>
    (e1.inew b o hi).elim .inl fun hb => .inr (Nat.le_trans hS.hB hb)⟩
  refine ⟨{ g with I := g1.I }, he, ?_, closed_rep r1 rfl hc (.inl (by show g.B ≤ g1.B; rw [eB]; exact hS.hB)), hS.below b1⟩
  exact {
    lv := hS.lv
    lt := hS.lt
    var := fun id o b ho hs => (hS.var id o b ho hs).mono_at he (b1.block b (hS.σlt hs))
    tok := fun id tg ht => (hS.tok id tg ht).mono_at (b1.block _ (hS.τlt ht))
    nd := hS.nd
    base := hS.base
    hB := Nat.le_trans hS.hB b1.size
    ilt := s1.ilt
    iv := fun b o id vo hi hs hv => by
      rcases e1.inew b o hi with h2 | h2
      · exact hS.iv b o id vo h2 hs hv
      · have h3 := hS.σlt hs
        have h4 : w.heap.size ≤ b := h2
        omega
    it := fun b o id tg hi ht hb => by
      rcases e1.inew b o hi with h2 | h2
      · exact hS.it b o id tg h2 ht hb
      · have h3 := hS.τlt ht
        have h4 : w.heap.size ≤ b := h2
        omega }

theorem got_take (hS : Sim w g V T) (h : Got w g T w' v d V1 T1) (hc : d.closed = true) (hlow : (V1.take V.length).all (fun o => lowL V.length T.length o.cs) = true) (hv : V.length ≤ V1.length) (ht : T.length ≤ T1.length) :
    Got w g T w' v d (V1.take V.length) (T1.take T.length) := by
  obtain ⟨g1, e1, s1, r1, b1⟩ := h
  have hmem : ∀ b, b ∈ g1.σ.take V.length ++ (g1.τ.take T.length).map (·.blk) → b ∈ g1.σ ++ g1.τ.map (·.blk) := fun b hb => by
    rcases List.mem_append.1 hb with hb | hb
    · exact List.mem_append.2 (.inl (List.mem_of_mem_take hb))
    · rw [List.map_take] at hb
      exact List.mem_append.2 (.inr (List.mem_of_mem_take hb))
  have hσ : ∀ {id b : Nat}, (g1.σ.take V.length)[id]? = some b → id < V.length ∧ g1.σ[id]? = some b := fun {id b} h => by
    have h1 := (List.getElem?_eq_some_iff.1 h).1
    have h2 : id < V.length := by simp at h1; omega
    exact ⟨h2, by rw [List.getElem?_take_of_lt h2] at h; exact h⟩
  have hτ : ∀ {id : Nat} {tg : TG}, (g1.τ.take T.length)[id]? = some tg → id < T.length ∧ g1.τ[id]? = some tg := fun {id tg} h => by
    have h1 := (List.getElem?_eq_some_iff.1 h).1
    have h2 : id < T.length := by simp at h1; omega
    exact ⟨h2, by rw [List.getElem?_take_of_lt h2] at h; exact h⟩
  refine ⟨{ g1 with σ := g1.σ.take V.length, τ := g1.τ.take T.length }, ⟨e1.B, e1.imm, fun id b hb => ?_, fun id k hk => ?_, e1.inew⟩, ?_, closed_rep r1 rfl hc (.inl (Nat.le_refl _)), b1⟩
  · have := (List.getElem?_eq_some_iff.1 hb).1
    show (g1.σ.take V.length)[id]? = some b
    rw [List.getElem?_take_of_lt (by rw [← hS.lv]; exact this)]
    exact e1.σ id b hb
  · have := (List.getElem?_eq_some_iff.1 hk).1
    obtain ⟨k', h1, h2, h3⟩ := e1.τ id k hk
    exact ⟨k', by rw [List.getElem?_take_of_lt this]; exact h1, h2, fun e => by
      show (g1.τ.take T.length)[id]? = _
      rw [List.getElem?_take_of_lt this]; exact h3 e⟩
  · exact {
      lv := by simp [s1.lv]
      lt := by simp [s1.lt]
      var := fun id o b ho hs => by
        obtain ⟨h1, h2⟩ := hσ hs
        have ho' := ho
        rw [List.getElem?_take_of_lt h1] at ho
        have h3 := List.all_eq_true.1 hlow o (List.mem_of_getElem? ho')
        rw [lowL_all, List.all_eq_true] at h3
        rcases s1.var id o b ho h2 with ⟨k1, k2, s, p, k3, k4⟩ | ⟨k1, arr, t, fr, k2, k3, k4, k5⟩
        · exact .inl ⟨k1, k2, s, p, k3, k4⟩
        · exact .inr ⟨k1, arr, t, fr, k2, k3, k4, k5.1, fun i hi => low_rep (k5.2 i hi) rfl rfl rfl rfl (h3 _ (List.getElem_mem hi))⟩
      tok := fun id tg h => s1.tok id tg (hτ h).2
      nd := by
        show (g1.σ.take V.length ++ (g1.τ.take T.length).map (·.blk)).Nodup
        rw [List.map_take]
        exact s1.nd.sublist (List.Sublist.append (List.take_sublist _ _) (List.take_sublist _ _))
      base := fun b hb => s1.base b (hmem b hb)
      hB := s1.hB
      ilt := s1.ilt
      iv := fun b o id vo hi hs hv => by
        obtain ⟨h1, h2⟩ := hσ hs
        rw [List.getElem?_take_of_lt h1] at hv
        exact s1.iv b o id vo hi h2 hv
      it := fun b o id tg hi h hb => s1.it b o id tg hi (hτ h).2 hb }

theorem nodup_swap {α : Type} {a b c e : List α} (h1 : (a ++ b).Nodup) (h2 : (c ++ e).Nodup) (h : ∀ x, x ∈ a ++ b → x ∈ c ++ e → False) : (a ++ c ++ (b ++ e)).Nodup := by
  have hp : List.Perm (a ++ c ++ (b ++ e)) ((a ++ b) ++ (c ++ e)) := by
    rw [List.append_assoc, List.append_assoc]
    refine List.Perm.append_left a ?_
    rw [← List.append_assoc, ← List.append_assoc]
    exact List.Perm.append_right e List.perm_append_comm
  rw [hp.nodup_iff, List.nodup_append]
  exact ⟨h1, h2, fun x hx y hy e => h x hx (e ▸ hy)⟩

theorem got_import (hS : Sim w g V T) (h : Got w (g.clear w) [] w' v d V1 T1) :
    Got w g T w' v (d.shift V.length T.length) (V ++ V1.map fun o => ⟨o.t, o.it, o.fz, shiftL V.length T.length o.cs⟩) (T ++ T1) := by
  obtain ⟨g1, e1, s1, r1, b1⟩ := h
  have b1 : Below w.heap.size w w' := b1
  have eB : g1.B = w.heap.size := e1.B
  let g' : Gh := ⟨g.B, g.σ ++ g1.σ, g.τ ++ g1.τ, g1.I⟩
  have hBB : g'.B ≤ g1.B := by show g.B ≤ g1.B; rw [eB]; exact hS.hB
  have hsh : ∀ {v : Value} {d : D}, RepD w' g1 T1 v d → RepD w' g' (T ++ T1) v (d.shift V.length T.length) := fun {v d} h => by
    have := shift_rep (g' := g') (σ0 := g.σ) (τ0 := g.τ) (T0 := T) h hBB rfl rfl rfl hS.lt
    rwa [hS.lv] at this
  have he : Ext w g T w' g' (T ++ T1) := ⟨rfl, fun b o hi => e1.imm b o hi, fun id b hb => by
      have := (List.getElem?_eq_some_iff.1 hb).1
      show (g.σ ++ g1.σ)[id]? = some b
      rw [List.getElem?_append_left this]; exact hb, fun id k hk => by
      have := (List.getElem?_eq_some_iff.1 hk).1
      refine ⟨k, by rw [List.getElem?_append_left this]; exact hk, Nat.le_refl _, fun _ => ?_⟩
      show (g.τ ++ g1.τ)[id]? = _
      rw [List.getElem?_append_left (by rw [hS.lt]; exact this)], fun b o hi =>
    (e1.inew b o hi).elim .inl fun hb => .inr (Nat.le_trans hS.hB hb)⟩
  have hσ : ∀ {id b : Nat}, (g.σ ++ g1.σ)[id]? = some b → (id < V.length ∧ g.σ[id]? = some b) ∨ (V.length ≤ id ∧ g1.σ[id - V.length]? = some b) := fun {id b} h => by
    by_cases hid : id < V.length
    · rw [List.getElem?_append_left (by rw [hS.lv]; exact hid)] at h; exact .inl ⟨hid, h⟩
    · rw [List.getElem?_append_right (by rw [hS.lv]; omega), hS.lv] at h; exact .inr ⟨by omega, h⟩
  have hτ : ∀ {id : Nat} {tg : TG}, (g.τ ++ g1.τ)[id]? = some tg → (g.τ[id]? = some tg) ∨ (g1.τ[id - T.length]? = some tg) := fun {id tg} h => by
    by_cases hid : id < T.length
    · rw [List.getElem?_append_left (by rw [hS.lt]; exact hid)] at h; exact .inl h
    · rw [List.getElem?_append_right (by rw [hS.lt]; omega), hS.lt] at h; exact .inr h
  have hge : ∀ {b : Nat}, b ∈ g1.σ ++ g1.τ.map (·.blk) → w.heap.size ≤ b := fun hb => by rw [← eB]; exact s1.base _ hb
  refine ⟨g', he, ?_, hsh r1, hS.below b1⟩
  exact {
    lv := by simp [g', hS.lv, s1.lv]
    lt := by simp [g', hS.lt, s1.lt]
    var := fun id o b ho hs => by
      rcases hσ hs with ⟨h1, h2⟩ | ⟨h1, h2⟩
      · rw [List.getElem?_append_left h1] at ho
        exact (hS.var id o b ho h2).mono_at he (b1.block b (hS.σlt h2))
      · rw [List.getElem?_append_right h1, List.getElem?_map] at ho
        cases hv1 : V1[id - V.length]? with
        | none => simp [hv1] at ho
        | some o1 =>
          simp only [hv1, Option.map_some, Option.some.injEq] at ho
          subst ho
          rcases s1.var _ o1 b hv1 h2 with ⟨k1, k2, s, p, k3, k4⟩ | ⟨k1, arr, t, fr, k2, k3, k4, k5⟩
          · exact .inl ⟨k1, k2, s, p, by simp [k3, shiftL, D.shift], k4⟩
          · refine .inr ⟨k1, arr, t, fr, k2, k3, fun i hi => ?_, by simpa [shiftL_map] using k5.1, fun i hi => ?_⟩
            · simp only [shiftL_map, List.getElem_map]
              exact shift_one (k4 i (by simpa [shiftL_map] using hi))
            · simp only [shiftL_map, List.getElem_map]
              exact hsh (k5.2 i (by simpa [shiftL_map] using hi))
    tok := fun id tg ht => by
      rcases hτ ht with h | h
      · exact (hS.tok id tg h).mono_at (b1.block _ (hS.τlt h))
      · exact s1.tok _ tg h
    nd := by
      show (g.σ ++ g1.σ ++ (g.τ ++ g1.τ).map (·.blk)).Nodup
      rw [List.map_append]
      exact nodup_swap hS.nd s1.nd fun x hx hy => by
        have h1 := hS.memlt hx
        have h2 := hge hy
        omega
    base := fun b hb => by
      have hb : b ∈ g.σ ++ g1.σ ++ (g.τ ++ g1.τ).map (·.blk) := hb
      simp only [List.map_append, List.mem_append] at hb
      have hh := hS.hB
      rcases hb with (hb | hb) | hb | hb
      · exact hS.base b (List.mem_append.2 (.inl hb))
      · exact Nat.le_trans hh (hge (List.mem_append.2 (.inl hb)))
      · exact hS.base b (List.mem_append.2 (.inr hb))
      · exact Nat.le_trans hh (hge (List.mem_append.2 (.inr hb)))
    hB := Nat.le_trans hS.hB b1.size
    ilt := s1.ilt
    iv := fun b o id vo hi hs hv => by
      rcases hσ hs with ⟨h1, h2⟩ | ⟨h1, h2⟩
      · rw [List.getElem?_append_left h1] at hv
        rcases e1.inew b o hi with h3 | h3
        · exact hS.iv b o id vo h3 h2 hv
        · have h4 := hS.σlt h2
          have h5 : w.heap.size ≤ b := h3
          omega
      · rw [List.getElem?_append_right h1, List.getElem?_map] at hv
        cases hv1 : V1[id - V.length]? with
        | none => simp [hv1] at hv
        | some o1 =>
          simp only [hv1, Option.map_some, Option.some.injEq] at hv
          subst hv
          exact s1.iv b o _ o1 hi h2 hv1
    it := fun b o id tg hi ht hb => by
      rcases hτ ht with h | h
      · rcases e1.inew b o hi with h3 | h3
        · exact hS.it b o id tg h3 h hb
        · have h4 := hS.τlt h
          have h5 : w.heap.size ≤ b := h3
          omega
      · exact s1.it b o _ tg hi h hb }
end
end Go.Abs
