/- Own framework, part 4: what a value that is held says of the machine's value. -/
import Derived.Test.YthglfhnlolefhaaGreatDoorAbsSim
import Derived.Laws.Entries
set_option linter.unusedVariables false
set_option linter.unusedSimpArgs false
namespace Go.Abs
open Go.RowKit (Below)

theorem frzL_map : ∀ l : List D, frzL l = l.map D.frz
  | [] => rfl
  | x :: r => by simp [frzL, frzL_map r]
theorem closedL_all : ∀ l : List D, closedL l = l.all D.closed
  | [] => rfl
  | x :: r => by simp [closedL, closedL_all r]
theorem lowL_all (nv nt : Nat) : ∀ l : List D, lowL nv nt l = l.all (D.low nv nt)
  | [] => rfl
  | x :: r => by simp [lowL, lowL_all nv nt r]
theorem shiftL_map (nv nt : Nat) : ∀ l : List D, shiftL nv nt l = l.map (D.shift nv nt)
  | [] => rfl
  | x :: r => by simp [shiftL, shiftL_map nv nt r]

theorem mapO_some {α β : Type} {f : α → Option β} : ∀ {l : List α} {r : List β}, mapO f l = some r → l.length = r.length ∧ ∀ i (h : i < l.length) (h' : i < r.length), f l[i] = some r[i]
  | [], r, h => by
    simp only [mapO, Option.some.injEq] at h
    subst h
    exact ⟨rfl, fun i h => absurd h (Nat.not_lt_zero i)⟩
  | x :: l, r, h => by
    simp only [mapO] at h
    cases hx : f x with
    | none => rw [hx] at h; simp at h
    | some y =>
      rw [hx] at h
      cases hl : mapO f l with
      | none => rw [hl] at h; simp at h
      | some ys =>
        rw [hl] at h
        simp only [Option.some.injEq] at h
        subst h
        obtain ⟨h1, h2⟩ := mapO_some hl
        refine ⟨by simp [h1], fun i hi hi' => ?_⟩
        cases i with
        | zero => exact hx
        | succ i => exact h2 i (by simpa using hi) (by simpa using hi')

section
variable {w : World} {g : Gh} {T : List Nat} {v : Value} {d : D}

theorem repP_v {I : Nat → Nat → Prop} {x : Value} (h : RepP w I v (.v x)) : v = x ∧ scal x = true := by
  cases h with | v h => exact ⟨rfl, h⟩
theorem rep_sc {x : Value} (h : RepD w g T v (.c (.v x))) : v = x := by
  cases h with
  | c h => cases h with | v h => rfl
theorem rep_scal {x : Value} (h : RepD w g T v (.c (.v x))) : scal x = true := by
  cases h with
  | c h => cases h with | v h => exact h
theorem sc_rep {x : Value} (h : scal x = true) : RepD w g T x (.c (.v x)) := .c (.v h)

theorem rep_tu {vs : List D} (h : RepD w g T v (.tu vs)) : ∃ cs, v = .tuple cs ∧ RepL w g T cs vs := by cases h with | tu hl hr => exact ⟨_, rfl, hl, hr⟩
theorem rep_ag {vs : List D} (h : RepD w g T v (.ag vs)) : ∃ cs, v = .agg cs ∧ RepL w g T cs vs ∧ ∀ i (h : i < vs.length), (vs[i]).one = true := by cases h with | ag hl h1 hr => exact ⟨_, rfl, ⟨hl, hr⟩, h1⟩
theorem rep_ip {cs : List P} (h : RepD w g T v (.ip cs)) : ∃ (a : Addr) (us : Nat → Value), v = .pointer (some a) ∧ Cel w g.I a cs.length us ∧ ∀ i (h : i < cs.length), RepP w g.I (us i) cs[i] := by
  cases h with | ip hc hr => exact ⟨_, _, rfl, hc, hr⟩
theorem rep_mp {id off : Nat} (h : RepD w g T v (.mp id off)) : ∃ b, v = .pointer (some ⟨b, off, none⟩) ∧ g.σ[id]? = some b := by cases h with | mp h => exact ⟨_, rfl, h⟩
theorem rep_fn {f : FuncId} {ds : List D} (h : RepD w g T v (.fn f ds)) : ∃ cs, v = .func (.func f) #[] cs ∧ RepL w g T cs ds := by cases h with | fn hl hr => exact ⟨_, rfl, hl, hr⟩
theorem rep_ifc {t : TypeId} {d : D} (h : RepD w g T v (.ifc t d)) : ∃ x, v = .iface t x ∧ RepD w g T x d := by cases h with | ifc h => exact ⟨_, rfl, h⟩
theorem RepL.at {cs : Array Value} {ds : List D} (h : RepL w g T cs ds) {i : Nat} {d : D} (hd : ds[i]? = some d) : ∃ x, cs[i]? = some x ∧ RepD w g T x d := by
  obtain ⟨hi, hd'⟩ := List.getElem?_eq_some_iff.1 hd
  have h2 := h.2 i hi
  rw [hd'] at h2
  have hlt : i < cs.size := by rw [h.1]; exact hi
  exact ⟨cs[i], Array.getElem?_eq_getElem hlt, by simpa [Array.getD_eq_getD_getElem?, Array.getElem?_eq_getElem hlt] using h2⟩

/-- The value of a slice. -/
def SlR (w : World) (I : Nat → Nat → Prop) (v : Value) (n : Nat) (cs : List P) : Prop :=
  (v = .slice none 0 0 ∧ n = 0 ∧ cs = []) ∨
  ∃ (a : Addr) (cap : Nat) (us : Nat → Value), v = .slice (some a) n cap ∧ n ≤ cap ∧ Cel w I a cs.length us ∧ ∀ i (h : i < cs.length), RepP w I (us i) cs[i]

theorem slc_rep {n : Nat} {cs : List P} (h : RepD w g T v d) (hd : d.slc = some (n, cs)) : SlR w g.I v n cs := by
  cases h with
  | c h =>
    cases h with
    | v h => simp [D.slc] at hd
    | nil => simp only [D.slc, Option.some.injEq, Prod.mk.injEq] at hd; exact .inl ⟨rfl, hd.1.symm, hd.2.symm⟩
    | sl hn hc hr => simp only [D.slc, Option.some.injEq, Prod.mk.injEq] at hd; obtain ⟨rfl, rfl⟩ := hd; exact .inr ⟨_, _, _, rfl, hn, hc, hr⟩
  | fsnil => simp only [D.slc, Option.some.injEq, Prod.mk.injEq] at hd; exact .inl ⟨rfl, hd.1.symm, hd.2.symm⟩
  | fs hB hc hr => simp only [D.slc, Option.some.injEq, Prod.mk.injEq] at hd; obtain ⟨rfl, rfl⟩ := hd; exact .inr ⟨_, _, _, rfl, Nat.le_refl _, hc, hr⟩
  | ow hn hc hr ht => simp only [D.slc, Option.some.injEq, Prod.mk.injEq] at hd; obtain ⟨rfl, rfl⟩ := hd; exact .inr ⟨_, _, _, rfl, hn, hc, hr⟩
  | _ => simp [D.slc] at hd
theorem rep_sl {n : Nat} {cs : List P} (h : SlR w g.I v n cs) : RepP w g.I v (.sl n cs) := by
  rcases h with ⟨rfl, rfl, rfl⟩ | ⟨a, cap, us, rfl, hn, hc, hr⟩
  · exact .nil
  · exact .sl hn hc hr

theorem frz_one (h : d.one = true) : d.frz.one = true := by cases d <;> first | rfl | simp [D.one] at h
theorem frz_rep (h : RepD w g T v d) : RepD w g T v d.frz := by
  induction h with
  | c h => exact .c h
  | ag hl h1 hr ih =>
    simp only [D.frz, frzL_map]
    refine .ag (by simpa using hl) (fun i hi => ?_) (fun i hi => ?_)
    · simp only [List.getElem_map]; exact frz_one (h1 i (by simpa using hi))
    · simp only [List.getElem_map]; exact ih i (by simpa using hi)
  | tu hl hr ih =>
    simp only [D.frz, frzL_map]
    refine .tu (by simpa using hl) (fun i hi => ?_)
    simp only [List.getElem_map]; exact ih i (by simpa using hi)
  | fsnil => exact .c .nil
  | fs hB hc hr => exact .c (.sl (Nat.le_refl _) hc hr)
  | ow hn hc hr ht => exact .c (.sl hn hc hr)
  | ip hc hr => exact .ip hc hr
  | mp h => exact .mp h
  | fn hl hr ih =>
    simp only [D.frz, frzL_map]
    refine .fn (by simpa using hl) (fun i hi => ?_)
    simp only [List.getElem_map]; exact ih i (by simpa using hi)
  | ifc h ih => exact .ifc ih
theorem frzL_rep {cs : Array Value} {ds : List D} (h : RepL w g T cs ds) : RepL w g T cs (frzL ds) := by
  rw [frzL_map]
  refine ⟨by simpa using h.1, fun i hi => ?_⟩
  simp only [List.getElem_map]
  exact frz_rep (h.2 i (by simpa using hi))

theorem one_rep (h : RepD w g T v d) (h1 : d.one = true) : v.oneCell' = true := by
  cases h with
  | c h =>
    cases h with
    | v h => cases v <;> first | rfl | simp [scal] at h
    | nil => rfl
    | sl hn hc hr => rfl
  | ag => simp [D.one] at h1
  | tu => simp [D.one] at h1
  | _ => rfl
theorem cells_one (h1 : d.one = true) : d.cells = [d] := by cases d <;> first | rfl | simp [D.one] at h1
theorem vcells_one (h : v.oneCell' = true) : v.cells = #[v] := by cases v <;> first | rfl | simp [Value.oneCell'] at h
theorem repP_one {I : Nat → Nat → Prop} {p : P} (h : RepP w I v p) : v.oneCell' = true := by
  cases h with
  | v h => cases v <;> first | rfl | simp [scal] at h
  | nil => rfl
  | sl => rfl

/-- A value of so many cells. -/
theorem fits_rep {n : Nat} (h : RepD w g T v d) (hf : d.fits n = true) : v.cells.size = n ∧ d.cells.length = n ∧ (∀ i (hi : i < d.cells.length), (d.cells[i]).one = true) ∧ RepL w g T v.cells d.cells := by
  by_cases h1 : d.one = true
  · have hn : n = 1 := by cases d <;> first | (simp [D.fits] at hf; exact hf) | simp [D.one] at h1
    rw [cells_one h1, vcells_one (one_rep h h1)]
    refine ⟨by simp [hn], by simp [hn], fun i hi => ?_, by simp, fun i hi => ?_⟩
    · obtain rfl : i = 0 := by simp at hi; omega
      exact h1
    · obtain rfl : i = 0 := by simp at hi; omega
      exact h
  · cases h with
    | ag hl ho hr =>
      have hn : n = _ := (by simpa [D.fits] using hf : _ = n).symm
      subst hn
      exact ⟨hl, rfl, ho, hl, hr⟩
    | tu => simp [D.fits] at hf
    | _ => simp [D.one] at h1
theorem ones_rep {cs : Array Value} {ds : List D} (h : RepL w g T cs ds) (h1 : ∀ i (hi : i < ds.length), (ds[i]).one = true) : ∀ x ∈ cs.toList, x.oneCell' = true := by
  intro x hx
  obtain ⟨i, hi⟩ := List.getElem?_of_mem hx
  have hlt : i < cs.size := by
    have := (List.getElem?_eq_some_iff.1 hi).1
    simpa using this
  have := one_rep (h.2 i (by rw [← h.1]; exact hlt)) (h1 i _)
  have e : cs.getD i undef = x := by
    rw [Array.getElem?_toList] at hi
    simp [Array.getD_eq_getD_getElem?, hi]
  rwa [e] at this

theorem cellPure_rep {p : P} (h : RepD w g T v d) (hp : cellPure d = some p) : RepP w g.I v p := by
  cases h with
  | c h => simp only [cellPure, Option.some.injEq] at hp; rw [← hp]; exact h
  | fsnil => simp only [cellPure, Option.some.injEq] at hp; rw [← hp]; exact .nil
  | fs hB hc hr => simp only [cellPure, Option.some.injEq] at hp; rw [← hp]; exact .sl (Nat.le_refl _) hc hr
  | ow hn hc hr ht => simp only [cellPure, Option.some.injEq] at hp; rw [← hp]; exact .sl hn hc hr
  | _ => simp [cellPure] at hp
/-- Cells that hold nothing but what never turns. -/
def RepPL (w : World) (I : Nat → Nat → Prop) (cs : Array Value) (ps : List P) : Prop := cs.size = ps.length ∧ ∀ i (h : i < ps.length), RepP w I (cs.getD i undef) ps[i]
theorem pure_rep {cs : Array Value} {ds : List D} {ps : List P} (h : RepL w g T cs ds) (hp : mapO cellPure ds = some ps) : RepPL w g.I cs ps := by
  obtain ⟨h1, h2⟩ := mapO_some hp
  exact ⟨h.1.trans h1, fun i hi => cellPure_rep (h.2 i (by omega)) (h2 i (by omega) hi)⟩
theorem rep_pure {cs : Array Value} {ps : List P} (h : RepPL w g.I cs ps) : RepL w g T cs (ps.map .c) :=
  ⟨by simpa using h.1, fun i hi => by simp only [List.getElem_map]; exact .c (h.2 i (by simpa using hi))⟩
theorem pcells_rep {ps : List P} (h : RepD w g T v d) (hp : d.pcells = some ps) : RepPL w g.I v.cells ps := by
  by_cases h1 : d.one = true
  · rw [D.pcells, cells_one h1] at hp
    rw [vcells_one (one_rep h h1)]
    refine pure_rep (ds := [d]) (g := g) (T := T) ⟨by simp, fun i hi => ?_⟩ hp
    obtain rfl : i = 0 := by simp at hi; omega
    exact h
  · cases h with
    | ag hl ho hr => exact pure_rep (g := g) (T := T) ⟨hl, hr⟩ hp
    | tu => simp [D.pcells, D.cells, mapO, cellPure] at hp
    | _ => simp [D.one] at h1

/-! ### constants, operands -/
theorem cellP_rep {x : Value} {p : P} (h : cellP x = some p) (I : Nat → Nat → Prop) : RepP w I x p := by
  unfold cellP at h
  split at h <;> first
    | (simp at h; done)
    | (simp only [Option.some.injEq] at h; rw [← h]; first | exact .nil | exact .v rfl)
theorem cellPL_rep {l : List Value} {ps : List P} (h : mapO cellP l = some ps) (I : Nat → Nat → Prop) : RepPL w I l.toArray ps := by
  obtain ⟨h1, h2⟩ := mapO_some h
  refine ⟨by simpa using h1, fun i hi => ?_⟩
  have := cellP_rep (w := w) (h2 i (by omega) hi) I
  simpa [Array.getD_eq_getD_getElem?, List.getElem?_eq_getElem (show i < l.length by omega)] using this
theorem zD_rep {x : Value} {p : P} (h : cellP x = some p) : RepD w g T x (zD p) ∧ (zD p).one = true := by
  have hr := cellP_rep (w := w) h g.I
  unfold zD
  split
  · unfold cellP at h
    split at h <;> first
      | exact ⟨.fsnil, rfl⟩
      | simp at h
  · exact ⟨.c hr, rfl⟩
theorem zDL_rep {l : List Value} {ps : List P} (h : mapO cellP l = some ps) : RepL w g T l.toArray (ps.map zD) ∧ ∀ i (hi : i < (ps.map zD).length), ((ps.map zD)[i]).one = true := by
  obtain ⟨h1, h2⟩ := mapO_some h
  have key : ∀ i (hi : i < ps.length), RepD w g T (l.toArray.getD i undef) (zD ps[i]) ∧ (zD ps[i]).one = true := fun i hi => by
    have := zD_rep (w := w) (g := g) (T := T) (h2 i (by omega) hi)
    simpa [Array.getD_eq_getD_getElem?, List.getElem?_eq_getElem (show i < l.length by omega)] using this
  exact ⟨⟨by simpa using h1, fun i hi => by rw [List.getElem_map]; exact (key i (by simpa using hi)).1⟩, fun i hi => by rw [List.getElem_map]; exact (key i (by simpa using hi)).2⟩
theorem constD_rep {x : Value} {y : D} (h : constD x = some y) : RepD w g T x y := by
  unfold constD at h
  split at h
  · simp only [Option.some.injEq] at h; rw [← h]; exact .fsnil
  · rename_i cs
    cases hm : mapO cellP cs.toList with
    | none => rw [hm] at h; simp at h
    | some l =>
      rw [hm] at h
      simp only [Option.map_some, Option.some.injEq] at h
      subst h
      have hp := cellPL_rep (w := w) hm g.I
      have hp' : RepPL w g.I cs l := by simpa using hp
      have hr := rep_pure (g := g) (T := T) hp'
      exact .ag hr.1 (fun i hi => by simp only [List.getElem_map]; rfl) hr.2
  · cases hm : cellP x with
    | none => rw [hm] at h; simp at h
    | some p =>
      rw [hm] at h
      simp only [Option.map_some, Option.some.injEq] at h
      subst h
      exact .c (cellP_rep hm g.I)
def EnvOk (w : World) (g : Gh) (T : List Nat) (tmps : Array Value) (e : Env) : Prop := ∀ t, RepD w g T (tmps.getD t undef) (e t)
theorem und_rep : RepD w g T undef und := .tu rfl (fun i h => absurd h (Nat.not_lt_zero i))
theorem opd_rep {a : Act} {e : Env} {x : Operand} {y : Opd} (he : EnvOk w g T a.tmps e) (h : opd x = some y) : RepD w g T (a.eval x) (ev e y) := by
  cases x with
  | tmp t => simp only [opd, Option.some.injEq] at h; rw [← h]; exact he t
  | const v =>
    simp only [opd] at h
    cases hm : constD v with
    | none => rw [hm] at h; simp at h
    | some y' => rw [hm] at h; simp only [Option.map_some, Option.some.injEq] at h; rw [← h]; exact constD_rep hm
  | global g => simp [opd] at h
  | func f => simp only [opd, Option.some.injEq] at h; rw [← h]; exact .fn rfl (fun i h => absurd h (Nat.not_lt_zero i))
theorem EnvOk.mono {w' : World} {g' : Gh} {T' : List Nat} {tmps : Array Value} {e : Env} (h : EnvOk w g T tmps e) (hm : Ext w g T w' g' T') : EnvOk w' g' T' tmps e := fun t => (h t).mono hm
theorem EnvOk.put {a : Act} {e : Env} {x : Value} {y : D} (h : EnvOk w g T a.tmps e) (dst : Option Nat) (hd : ∀ d, dst = some d → d < a.tmps.size) (hr : RepD w g T x y) : EnvOk w g T (a.put dst x).tmps (putE e dst y) := by
  cases dst with
  | none => exact h
  | some d =>
    intro t
    have hlt := hd d rfl
    simp only [Act.put, putE, upd, Array.getD_eq_getD_getElem?]
    by_cases ht : t = d
    · subst ht
      simp [hlt, hr]
    · rw [if_neg ht, Array.getElem?_setIfInBounds_ne (Ne.symm ht)]
      have := h t
      rwa [Array.getD_eq_getD_getElem?] at this
theorem put_size {a : Act} (dst : Option Nat) (x : Value) : (a.put dst x).tmps.size = a.tmps.size := by cases dst <;> simp [Act.put]
end
end Go.Abs
