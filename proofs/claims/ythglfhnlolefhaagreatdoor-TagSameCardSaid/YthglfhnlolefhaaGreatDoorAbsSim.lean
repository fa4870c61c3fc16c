/- Own framework, part 3: what it means that memory holds abstract values; how that is kept when memory grows. -/
import Derived.Test.YthglfhnlolefhaaGreatDoorAbsDefs
import Derived.Laws.Append
import Derived.Laws.IdiomCopy
import Derived.Below
set_option linter.unusedVariables false
set_option linter.unusedSimpArgs false
namespace Go.Abs
open Go.RowKit (Below)

theorem nodup_mid {α : Type} {a : α} {l2 : List α} : ∀ {l1 : List α}, a ∉ l1 ++ l2 → (l1 ++ l2).Nodup → (l1 ++ a :: l2).Nodup
  | [], hn, h => List.nodup_cons.2 ⟨hn, h⟩
  | x :: l1, hn, h => by
    have h' := List.nodup_cons.1 h
    refine List.nodup_cons.2 ⟨fun hx => ?_, nodup_mid (fun ha => hn (List.mem_cons_of_mem _ ha)) h'.2⟩
    rcases List.mem_append.1 hx with hx | hx
    · exact h'.1 (List.mem_append.2 (.inl hx))
    · rcases List.mem_cons.1 hx with rfl | hx
      · exact hn (List.mem_cons_self)
      · exact h'.1 (List.mem_append.2 (.inr hx))
/-- No address inside. -/
def scal : Value → Bool
  | .bool _ | .int _ _ | .float _ _ | .string _ | .pointer none | .nilFunc | .nilIface | .map none => true
  | _ => false

structure Cel (w : World) (I : Nat → Nat → Prop) (a : Addr) (n : Nat) (us : Nat → Value) : Prop where
  cell : ∀ i, i < n → w.cell? (a.add i) = some (us i)
  imm : ∀ i, i < n → I (a.add i).block (a.add i).off

inductive RepP (w : World) (I : Nat → Nat → Prop) : Value → P → Prop
  | v {x : Value} (h : scal x = true) : RepP w I x (.v x)
  | nil : RepP w I (.slice none 0 0) (.sl 0 [])
  | sl {a : Addr} {n cap : Nat} {us : Nat → Value} {cs : List P} (hn : n ≤ cap) (hc : Cel w I a cs.length us)
      (hr : ∀ i (h : i < cs.length), RepP w I (us i) cs[i]) : RepP w I (.slice (some a) n cap) (.sl n cs)

structure TG where
  blk : Nat
  n : Nat
  cap : Nat
  esz : Nat

structure Gh where
  B : Nat
  σ : List Nat
  τ : List TG
  I : Nat → Nat → Prop

def D.one : D → Bool
  | .ag _ | .tu _ => false
  | _ => true

inductive RepD (w : World) (g : Gh) (T : List Nat) : Value → D → Prop
  | c {x : Value} {p : P} (h : RepP w g.I x p) : RepD w g T x (.c p)
  | ag {cs : Array Value} {ds : List D} (hl : cs.size = ds.length) (h1 : ∀ i (h : i < ds.length), ds[i].one = true)
      (hr : ∀ i (h : i < ds.length), RepD w g T (cs.getD i undef) ds[i]) : RepD w g T (.agg cs) (.ag ds)
  | tu {cs : Array Value} {ds : List D} (hl : cs.size = ds.length)
      (hr : ∀ i (h : i < ds.length), RepD w g T (cs.getD i undef) ds[i]) : RepD w g T (.tuple cs) (.tu ds)
  | fsnil : RepD w g T (.slice none 0 0) (.fs 0 [])
  | fs {a : Addr} {n : Nat} {us : Nat → Value} {cs : List P} (hB : n ≠ 0 → g.B ≤ a.block) (hc : Cel w g.I a cs.length us)
      (hr : ∀ i (h : i < cs.length), RepP w g.I (us i) cs[i]) : RepD w g T (.slice (some a) n n) (.fs n cs)
  | ow {a : Addr} {n cap : Nat} {us : Nat → Value} {cs : List P} {id ver : Nat} (hn : n ≤ cap) (hc : Cel w g.I a cs.length us)
      (hr : ∀ i (h : i < cs.length), RepP w g.I (us i) cs[i])
      (ht : ∃ k, T[id]? = some k ∧ ver ≤ k ∧ (k = ver → ∃ tg, g.τ[id]? = some tg ∧ a = ⟨tg.blk, 0, none⟩ ∧ n = tg.n ∧ cap = tg.cap ∧ cs.length = n * tg.esz)) :
      RepD w g T (.slice (some a) n cap) (.ow id ver n cs)
  | ip {a : Addr} {us : Nat → Value} {cs : List P} (hc : Cel w g.I a cs.length us) (hr : ∀ i (h : i < cs.length), RepP w g.I (us i) cs[i]) :
      RepD w g T (.pointer (some a)) (.ip cs)
  | mp {id off b : Nat} (h : g.σ[id]? = some b) : RepD w g T (.pointer (some ⟨b, off, none⟩)) (.mp id off)
  | fn {f : FuncId} {cs : Array Value} {ds : List D} (hl : cs.size = ds.length)
      (hr : ∀ i (h : i < ds.length), RepD w g T (cs.getD i undef) ds[i]) : RepD w g T (.func (.func f) #[] cs) (.fn f ds)
  | ifc {t : TypeId} {x : Value} {d : D} (h : RepD w g T x d) : RepD w g T (.iface t x) (.ifc t d)

/-- The list form. -/
def RepL (w : World) (g : Gh) (T : List Nat) (cs : Array Value) (ds : List D) : Prop :=
  cs.size = ds.length ∧ ∀ i (h : i < ds.length), RepD w g T (cs.getD i undef) ds[i]

theorem spot_none {w : World} {a : Addr} {v : Value} (h : w.cell? a = some v) : a = ⟨a.block, a.off, none⟩ := by
  obtain ⟨b, o, s⟩ := a
  cases s with
  | none => rfl
  | some x => simp [World.cell?] at h; split at h <;> simp at h

structure Ext (w : World) (g : Gh) (T : List Nat) (w' : World) (g' : Gh) (T' : List Nat) : Prop where
  B : g'.B = g.B
  imm : ∀ b o, g.I b o → g'.I b o ∧ w'.cell? ⟨b, o, none⟩ = w.cell? ⟨b, o, none⟩
  σ : ∀ (id b : Nat), g.σ[id]? = some b → g'.σ[id]? = some b
  τ : ∀ (id k : Nat), T[id]? = some k → ∃ k', T'[id]? = some k' ∧ k ≤ k' ∧ (k' = k → g'.τ[id]? = g.τ[id]?)
  inew : ∀ b o, g'.I b o → g.I b o ∨ g.B ≤ b

theorem Ext.refl (w : World) (g : Gh) (T : List Nat) : Ext w g T w g T := ⟨rfl, fun _ _ h => ⟨h, rfl⟩, fun _ _ h => h, fun _ k h => ⟨k, h, Nat.le_refl _, fun _ => rfl⟩, fun _ _ h => .inl h⟩
theorem Ext.trans {w w1 w2 : World} {g g1 g2 : Gh} {T T1 T2 : List Nat} (h : Ext w g T w1 g1 T1) (k : Ext w1 g1 T1 w2 g2 T2) : Ext w g T w2 g2 T2 :=
  ⟨k.B.trans h.B, fun b o hi => ⟨(k.imm b o (h.imm b o hi).1).1, ((k.imm b o (h.imm b o hi).1).2).trans (h.imm b o hi).2⟩, fun id b hb => k.σ id b (h.σ id b hb),
    fun id x hx => by
      obtain ⟨k1, h1, h2, h3⟩ := h.τ id x hx
      obtain ⟨k2, h4, h5, h6⟩ := k.τ id k1 h1
      exact ⟨k2, h4, Nat.le_trans h2 h5, fun e => by
        have e1 : k1 = x := by omega
        have e2 : k2 = k1 := by omega
        rw [h6 e2, h3 e1]⟩,
    fun b o hi => (k.inew b o hi).elim (h.inew b o) (fun hb => .inr (h.B ▸ hb))⟩

theorem Cel.mono {w w' : World} {I I' : Nat → Nat → Prop} (hm : ∀ b o, I b o → I' b o ∧ w'.cell? ⟨b, o, none⟩ = w.cell? ⟨b, o, none⟩) {a : Addr} {n : Nat} {us : Nat → Value} (h : Cel w I a n us) : Cel w' I' a n us :=
  ⟨fun i hi => by
    have h1 := h.cell i hi
    have h2 := (hm _ _ (h.imm i hi)).2
    rw [← spot_none h1] at h2
    rw [h2, h1], fun i hi => (hm _ _ (h.imm i hi)).1⟩

theorem RepP.mono {w w' : World} {I I' : Nat → Nat → Prop} (hm : ∀ b o, I b o → I' b o ∧ w'.cell? ⟨b, o, none⟩ = w.cell? ⟨b, o, none⟩) {x : Value} {p : P} (h : RepP w I x p) : RepP w' I' x p := by
  induction h with
  | v h => exact .v h
  | nil => exact .nil
  | sl hn hc hr ih => exact .sl hn (hc.mono hm) ih

theorem RepD.mono {w w' : World} {g g' : Gh} {T T' : List Nat} (hm : Ext w g T w' g' T') {x : Value} {d : D} (h : RepD w g T x d) : RepD w' g' T' x d := by
  induction h with
  | c h => exact .c (h.mono hm.imm)
  | ag hl h1 hr ih => exact .ag hl h1 ih
  | tu hl hr ih => exact .tu hl ih
  | fsnil => exact .fsnil
  | fs hB hc hr => exact .fs (by rw [hm.B]; exact hB) (hc.mono hm.imm) (fun i h => (hr i h).mono hm.imm)
  | @ow a n cap us cs id ver hn hc hr ht =>
    refine .ow hn (hc.mono hm.imm) (fun i h => (hr i h).mono hm.imm) ?_
    obtain ⟨k, h1, h2, h3⟩ := ht
    obtain ⟨k', h4, h5, h6⟩ := hm.τ _ k h1
    refine ⟨k', h4, Nat.le_trans h2 h5, fun e => ?_⟩
    have e1 : k = ver := by omega
    obtain ⟨tg, h7, h8⟩ := h3 e1
    exact ⟨tg, by rw [h6 (by omega)]; exact h7, h8⟩
  | ip hc hr => exact .ip (hc.mono hm.imm) (fun i h => (hr i h).mono hm.imm)
  | mp h => exact .mp (hm.σ _ _ h)
  | fn hl hr ih => exact .fn hl ih
  | ifc h ih => exact .ifc ih

theorem RepL.mono {w w' : World} {g g' : Gh} {T T' : List Nat} (hm : Ext w g T w' g' T') {cs : Array Value} {ds : List D} (h : RepL w g T cs ds) : RepL w' g' T' cs ds :=
  ⟨h.1, fun i hi => (h.2 i hi).mono hm⟩

/-- None of the row's cells may not be written. -/
def Unf (n : Nat) (fr : Nat × Nat) : Prop := fr.1 = fr.2 ∨ n ≤ fr.1
theorem Unf.not {n : Nat} {fr : Nat × Nat} (h : Unf n fr) {i : Nat} (hi : i < n) : ¬(fr.1 ≤ i ∧ i < fr.2) := by
  rcases h with h | h <;> omega

def VarOk (w : World) (g : Gh) (T : List Nat) (o : VO) (b : Nat) : Prop :=
  (o.it = true ∧ o.fz = false ∧ ∃ (s : ByteArray) (p : Nat), o.cs = [.c (.v (.string s)), .c (.v (.int .i64 p))] ∧ w.heap[b]? = some (.stringIter s p)) ∨
  (o.it = false ∧ ∃ (arr : Array Value) (t : TypeId) (fr : Nat × Nat), w.heap[b]? = some (.cells arr t fr) ∧ Unf arr.size fr ∧
    (∀ i (h : i < o.cs.length), (o.cs[i]).one = true) ∧ RepL w g T arr o.cs)

def TokOk (w : World) (tg : TG) : Prop :=
  0 < tg.esz ∧ tg.n ≤ tg.cap ∧ ∃ (arr : Array Value) (t : TypeId) (fr : Nat × Nat), w.heap[tg.blk]? = some (.cells arr t fr) ∧ arr.size = tg.cap * tg.esz ∧ Unf arr.size fr

structure Sim (w : World) (g : Gh) (V : List VO) (T : List Nat) : Prop where
  lv : g.σ.length = V.length
  lt : g.τ.length = T.length
  var : ∀ (id : Nat) (o : VO) (b : Nat), V[id]? = some o → g.σ[id]? = some b → VarOk w g T o b
  tok : ∀ (id : Nat) (tg : TG), g.τ[id]? = some tg → TokOk w tg
  nd : (g.σ ++ g.τ.map (·.blk)).Nodup
  base : ∀ b, b ∈ g.σ ++ g.τ.map (·.blk) → g.B ≤ b
  hB : g.B ≤ w.heap.size
  ilt : ∀ b o, g.I b o → b < w.heap.size
  iv : ∀ (b o id : Nat) (vo : VO), g.I b o → g.σ[id]? = some b → V[id]? = some vo → vo.fz = true
  it : ∀ (b o id : Nat) (tg : TG), g.I b o → g.τ[id]? = some tg → tg.blk = b → o < tg.n * tg.esz

/-- A step has come to w', and yields v. -/
def Got (w : World) (g : Gh) (T : List Nat) (w' : World) (v : Value) (d : D) (V' : List VO) (T' : List Nat) : Prop :=
  ∃ g', Ext w g T w' g' T' ∧ Sim w' g' V' T' ∧ RepD w' g' T' v d ∧ Below g.B w w'

section
variable {w w' : World} {g : Gh} {V : List VO} {T : List Nat}

theorem lt_of_get {α : Type} {a : Array α} {i : Nat} {x : α} (h : a[i]? = some x) : i < a.size := (Array.getElem?_eq_some_iff.1 h).1

theorem Sim.σlt (h : Sim w g V T) {id b : Nat} (hb : g.σ[id]? = some b) : b < w.heap.size := by
  have hid : id < g.σ.length := (List.getElem?_eq_some_iff.1 hb).1
  obtain ⟨o, ho⟩ : ∃ o, V[id]? = some o := ⟨V[id]'(by rw [← h.lv]; exact hid), List.getElem?_eq_getElem (by rw [← h.lv]; exact hid)⟩
  rcases h.var id o b ho hb with ⟨_, _, s, p, _, hh⟩ | ⟨_, arr, t, fr, hh, _⟩
  · exact lt_of_get hh
  · exact lt_of_get hh
theorem Sim.τlt (h : Sim w g V T) {id : Nat} {tg : TG} (hb : g.τ[id]? = some tg) : tg.blk < w.heap.size := by
  obtain ⟨_, _, arr, t, fr, hh, _⟩ := h.tok id tg hb
  exact lt_of_get hh
theorem Sim.memlt (h : Sim w g V T) {b : Nat} (hb : b ∈ g.σ ++ g.τ.map (·.blk)) : b < w.heap.size := by
  rcases List.mem_append.1 hb with hb | hb
  · obtain ⟨id, hid⟩ := List.getElem?_of_mem hb
    exact h.σlt hid
  · obtain ⟨tg, htg, rfl⟩ := List.mem_map.1 hb
    obtain ⟨id, hid⟩ := List.getElem?_of_mem htg
    exact h.τlt hid

theorem cell_block (hb : ∀ k, k < w.heap.size → w'.heap[k]? = w.heap[k]?) {b o : Nat} (h : b < w.heap.size) : w'.cell? ⟨b, o, none⟩ = w.cell? ⟨b, o, none⟩ := by
  simp only [World.cell?, hb b h]

/-- Memory has grown; what there was is as it was. -/
theorem Sim.ext_grown (h : Sim w g V T) (hb : Below w.heap.size w w') : Ext w g T w' g T :=
  ⟨rfl, fun b o hi => ⟨hi, cell_block hb.block (h.ilt b o hi)⟩, fun _ _ h => h, fun _ k h => ⟨k, h, Nat.le_refl _, fun _ => rfl⟩, fun _ _ h => .inl h⟩
theorem VarOk.mono_at {g' : Gh} {T' : List Nat} {o : VO} {b : Nat} (h : VarOk w g T o b) (he : Ext w g T w' g' T') (hb : w'.heap[b]? = w.heap[b]?) : VarOk w' g' T' o b := by
  rcases h with ⟨h1, h2, s, p, h3, h4⟩ | ⟨h1, arr, t, fr, h2, h3, h4, h5⟩
  · exact .inl ⟨h1, h2, s, p, h3, by rw [hb]; exact h4⟩
  · exact .inr ⟨h1, arr, t, fr, by rw [hb]; exact h2, h3, h4, h5.mono he⟩
theorem TokOk.mono_at {tg : TG} (h : TokOk w tg) (hb : w'.heap[tg.blk]? = w.heap[tg.blk]?) : TokOk w' tg := by
  obtain ⟨h1, h2, arr, t, fr, h3, h4⟩ := h
  exact ⟨h1, h2, arr, t, fr, by rw [hb]; exact h3, h4⟩
theorem Sim.grown (h : Sim w g V T) (hb : Below w.heap.size w w') : Sim w' g V T where
  lv := h.lv
  lt := h.lt
  var id o b ho hs := (h.var id o b ho hs).mono_at (h.ext_grown hb) (hb.block b (h.σlt hs))
  tok id tg ht := (h.tok id tg ht).mono_at (hb.block _ (h.τlt ht))
  nd := h.nd
  base := h.base
  hB := Nat.le_trans h.hB hb.size
  ilt b o hi := Nat.lt_of_lt_of_le (h.ilt b o hi) hb.size
  iv := h.iv
  it := h.it
theorem Sim.below (h : Sim w g V T) (hb : Below w.heap.size w w') : Below g.B w w' := hb.mono h.hB

theorem got_same (h : Sim w g V T) {v : Value} {d : D} (hr : RepD w g T v d) : Got w g T w v d V T := ⟨g, Ext.refl _ _ _, h, hr, Below.refl _ _⟩

/-- A new block's cells never turn. -/
def Gh.addI (g : Gh) (blk n : Nat) : Gh := { g with I := fun b o => g.I b o ∨ (b = blk ∧ o < n) }
theorem Sim.ext_addI (h : Sim w g V T) (blk n : Nat) (hB : g.B ≤ blk) : Ext w g T w (g.addI blk n) T :=
  ⟨rfl, fun b o hi => ⟨.inl hi, rfl⟩, fun _ _ h => h, fun _ k h => ⟨k, h, Nat.le_refl _, fun _ => rfl⟩, fun b o hi => Or.imp id (fun (e : _ ∧ _) => by rw [e.1]; exact hB) hi⟩
theorem Sim.addI (h : Sim w g V T) {blk n : Nat} (hB : g.B ≤ blk) (hlt : blk < w.heap.size) (hn : blk ∉ g.σ ++ g.τ.map (·.blk)) : Sim w (g.addI blk n) V T where
  lv := h.lv
  lt := h.lt
  var id o b ho hs := (h.var id o b ho hs).mono_at (h.ext_addI blk n hB) rfl
  tok := h.tok
  nd := h.nd
  base := h.base
  hB := h.hB
  ilt b o hi := by
    rcases hi with hi | ⟨rfl, _⟩
    · exact h.ilt b o hi
    · exact hlt
  iv b o id vo hi hs hv := by
    rcases hi with hi | ⟨rfl, _⟩
    · exact h.iv b o id vo hi hs hv
    · exact absurd (List.mem_append.2 (.inl (List.mem_of_getElem? hs))) hn
  it b o id tg hi ht hb := by
    rcases hi with hi | ⟨rfl, _⟩
    · exact h.it b o id tg hi ht hb
    · exact absurd (List.mem_append.2 (.inr (List.mem_map.2 ⟨tg, List.mem_of_getElem? ht, hb⟩))) hn

/-- A new block is a new variable. -/
def Gh.addV (g : Gh) (blk : Nat) : Gh := { g with σ := g.σ ++ [blk] }
theorem ext_addV (blk : Nat) : Ext w g T w (g.addV blk) T :=
  ⟨rfl, fun b o hi => ⟨hi, rfl⟩, fun id b h => by
    have hlt := (List.getElem?_eq_some_iff.1 h).1
    show (g.σ ++ [blk])[id]? = some b
    rw [List.getElem?_append_left hlt]; exact h, fun _ k h => ⟨k, h, Nat.le_refl _, fun _ => rfl⟩, fun _ _ h => .inl h⟩
theorem Sim.addV (h : Sim w g V T) {blk : Nat} {vo : VO} (hB : g.B ≤ blk) (hn : blk ∉ g.σ ++ g.τ.map (·.blk)) (hi : ∀ o, ¬ g.I blk o) (hv : VarOk w (g.addV blk) T vo blk) : Sim w (g.addV blk) (V ++ [vo]) T where
  lv := by simp [Gh.addV, h.lv]
  lt := h.lt
  var id o b ho hs := by
    by_cases hid : id < V.length
    · have hs' : g.σ[id]? = some b := by
        have : (g.σ ++ [blk])[id]? = some b := hs
        rwa [List.getElem?_append_left (by rw [h.lv]; exact hid)] at this
      rw [List.getElem?_append_left hid] at ho
      exact (h.var id o b ho hs').mono_at (ext_addV blk) rfl
    · have hl : id < (V ++ [vo]).length := (List.getElem?_eq_some_iff.1 ho).1
      have he : id = V.length := by simp at hl; omega
      subst he
      have hs' : (g.σ ++ [blk])[V.length]? = some b := hs
      rw [← h.lv] at hs'
      simp at hs' ho
      subst hs'
      subst ho
      exact hv
  tok := h.tok
  nd := by
    show ((g.σ ++ [blk]) ++ g.τ.map (·.blk)).Nodup
    have h1 := h.nd
    rw [List.append_assoc, List.singleton_append]
    exact nodup_mid hn h1
  base b hb := by
    have hb' : b ∈ (g.σ ++ [blk]) ++ g.τ.map (·.blk) := hb
    simp only [List.mem_append, List.mem_singleton] at hb'
    rcases hb' with (hb' | rfl) | hb'
    · exact h.base b (List.mem_append.2 (.inl hb'))
    · exact hB
    · exact h.base b (List.mem_append.2 (.inr hb'))
  hB := h.hB
  ilt := h.ilt
  iv b o id vo' hib hs hv' := by
    have hs' : (g.σ ++ [blk])[id]? = some b := hs
    by_cases hid : id < V.length
    · rw [List.getElem?_append_left (by rw [h.lv]; exact hid)] at hs'
      rw [List.getElem?_append_left hid] at hv'
      exact h.iv b o id vo' hib hs' hv'
    · have hl : id < (g.σ ++ [blk]).length := (List.getElem?_eq_some_iff.1 hs').1
      have he : id = g.σ.length := by simp at hl; have := h.lv; omega
      subst he
      simp at hs'
      subst hs'
      exact absurd hib (hi o)
  it := h.it

/-- A new block is a new token's row. -/
def Gh.addT (g : Gh) (tg : TG) : Gh := { g with τ := g.τ ++ [tg], I := fun b o => g.I b o ∨ (b = tg.blk ∧ o < tg.n * tg.esz) }
theorem Sim.ext_addT (h : Sim w g V T) (tg : TG) (hB : g.B ≤ tg.blk) : Ext w g T w (g.addT tg) (T ++ [0]) :=
  ⟨rfl, fun b o hi => ⟨.inl hi, rfl⟩, fun _ _ h => h, fun id k hk => by
    have hlt := (List.getElem?_eq_some_iff.1 hk).1
    refine ⟨k, by rw [List.getElem?_append_left hlt]; exact hk, Nat.le_refl _, fun _ => ?_⟩
    show (g.τ ++ [tg])[id]? = g.τ[id]?
    rw [List.getElem?_append_left (by rw [h.lt]; exact hlt)], fun b o hi => Or.imp id (fun (e : _ ∧ _) => by rw [e.1]; exact hB) hi⟩
theorem Sim.addT (h : Sim w g V T) {tg : TG} (hB : g.B ≤ tg.blk) (hn : tg.blk ∉ g.σ ++ g.τ.map (·.blk)) (hi : ∀ o, ¬ g.I tg.blk o) (ht : TokOk w tg) : Sim w (g.addT tg) V (T ++ [0]) where
  lv := h.lv
  lt := by simp [Gh.addT, h.lt]
  var id o b ho hs := (h.var id o b ho hs).mono_at (h.ext_addT tg hB) rfl
  tok id tg' ht' := by
    have ht2 : (g.τ ++ [tg])[id]? = some tg' := ht'
    by_cases hid : id < g.τ.length
    · rw [List.getElem?_append_left hid] at ht2
      exact h.tok id tg' ht2
    · have hl : id < (g.τ ++ [tg]).length := (List.getElem?_eq_some_iff.1 ht2).1
      have he : id = g.τ.length := by simp at hl; omega
      subst he
      simp at ht2
      subst ht2
      exact ht
  nd := by
    show (g.σ ++ (g.τ ++ [tg]).map (·.blk)).Nodup
    rw [List.map_append, ← List.append_assoc]
    have : ((g.σ ++ g.τ.map (·.blk)) ++ tg.blk :: []).Nodup := nodup_mid (by simpa using hn) (by simpa using h.nd)
    exact this
  base b hb := by
    have hb' : b ∈ g.σ ++ (g.τ ++ [tg]).map (·.blk) := hb
    simp only [List.map_append, List.mem_append, List.map_cons, List.map_nil, List.mem_singleton] at hb'
    rcases hb' with hb' | hb' | rfl
    · exact h.base b (List.mem_append.2 (.inl hb'))
    · exact h.base b (List.mem_append.2 (.inr hb'))
    · exact hB
  hB := h.hB
  ilt b o hib := by
    rcases hib with hib | ⟨rfl, _⟩
    · exact h.ilt b o hib
    · obtain ⟨_, _, arr, t, fr, hh, _⟩ := ht
      exact lt_of_get hh
  iv b o id vo hib hs hv := by
    rcases hib with hib | ⟨rfl, _⟩
    · exact h.iv b o id vo hib hs hv
    · exact absurd (List.mem_append.2 (.inl (List.mem_of_getElem? hs))) hn
  it b o id tg' hib ht' hb := by
    have ht2 : (g.τ ++ [tg])[id]? = some tg' := ht'
    by_cases hid : id < g.τ.length
    · rw [List.getElem?_append_left hid] at ht2
      rcases hib with hib | ⟨rfl, _⟩
      · exact h.it b o id tg' hib ht2 hb
      · exact absurd (List.mem_append.2 (.inr (List.mem_map.2 ⟨tg', List.mem_of_getElem? ht2, hb⟩))) hn
    · have hl : id < (g.τ ++ [tg]).length := (List.getElem?_eq_some_iff.1 ht2).1
      have he : id = g.τ.length := by simp at hl; omega
      subst he
      simp at ht2
      subst ht2
      rcases hib with hib | ⟨_, ho⟩
      · exact absurd (hb ▸ hib) (hi o)
      · exact ho
end
end Go.Abs
