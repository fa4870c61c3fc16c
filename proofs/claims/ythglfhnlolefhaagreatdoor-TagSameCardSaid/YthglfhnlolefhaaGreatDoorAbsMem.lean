/- Own framework, part 9: new rows, new variables, stores, appends: how the invariant goes on. -/
import Derived.Test.YthglfhnlolefhaaGreatDoorAbsRep
set_option linter.unusedVariables false
set_option linter.unusedSimpArgs false
namespace Go.Abs
open Go.RowKit (Below)

section
variable {w w' : World} {g : Gh} {V : List VO} {T : List Nat}

theorem cell_arr {b o : Nat} {arr : Array Value} {t : TypeId} {fr : Nat × Nat} (h : w.heap[b]? = some (.cells arr t fr)) : w.cell? ⟨b, o, none⟩ = arr[o]? := by
  simp [World.cell?, h]
theorem add0 (b o i : Nat) : (⟨b, o, none⟩ : Addr).add i = ⟨b, o + i, none⟩ := Addr.add_lit b o i
theorem getD_some {arr : Array Value} {i : Nat} (h : i < arr.size) : arr[i]? = some (arr.getD i undef) := by simp [Array.getD_eq_getD_getElem?, h]
/-- The cells of a row that never turn, from a place on. -/
theorem cel_arr {I : Nat → Nat → Prop} {b o n : Nat} {arr : Array Value} {t : TypeId} {fr : Nat × Nat} (h : w.heap[b]? = some (.cells arr t fr)) (hn : o + n ≤ arr.size) (hi : ∀ i, i < n → I b (o + i)) : Cel w I ⟨b, o, none⟩ n (fun i => arr.getD (o + i) undef) :=
  ⟨fun i hi' => by rw [add0, cell_arr h, getD_some (by omega)], fun i hi' => by rw [add0]; exact hi i hi'⟩
theorem Sim.fresh (h : Sim w g V T) {b : Nat} (hb : w.heap.size ≤ b) : b ∉ g.σ ++ g.τ.map (·.blk) := fun hm => by have := h.memlt hm; omega
theorem Sim.freshI (h : Sim w g V T) {b : Nat} (hb : w.heap.size ≤ b) (o : Nat) : ¬ g.I b o := fun hm => by have := h.ilt b o hm; omega

theorem got_fs (h : Sim w g V T) (hb : Below w.heap.size w w') {b n : Nat} {arr : Array Value} {t : TypeId} {fr : Nat × Nat} {ps : List P} (hblk : w'.heap[b]? = some (.cells arr t fr)) (hge : w.heap.size ≤ b)
    (hl : ps.length ≤ arr.size) (hr : ∀ i (hi : i < ps.length), RepP w g.I (arr.getD i undef) ps[i]) : Got w g T w' (.slice (some ⟨b, 0, none⟩) n n) (.fs n ps) V T := by
  have hs := h.grown hb
  have he := h.ext_grown hb
  have hlt : b < w'.heap.size := lt_of_get hblk
  have hs2 := hs.addI (n := ps.length) (Nat.le_trans h.hB hge) hlt (h.fresh hge)
  have he2 := he.trans (hs.ext_addI b ps.length (Nat.le_trans h.hB hge))
  refine ⟨g.addI b ps.length, he2, hs2, ?_, h.below hb⟩
  refine .fs (us := fun i => arr.getD (0 + i) undef) (fun _ => Nat.le_trans h.hB hge) (cel_arr hblk (by omega) (fun i hi => .inr ⟨rfl, by omega⟩)) (fun i hi => ?_)
  rw [Nat.zero_add]
  exact (hr i hi).mono he2.imm

theorem got_tp (h : Sim w g V T) (hb : Below w.heap.size w w') {b n cap esz : Nat} {arr : Array Value} {t : TypeId} {fr : Nat × Nat} {ps : List P} (hblk : w'.heap[b]? = some (.cells arr t fr)) (hge : w.heap.size ≤ b)
    (hz : 0 < esz) (hcap : arr.size = cap * esz) (hn : n ≤ cap) (hp : ps.length = n * esz) (hf : Unf arr.size fr) (hr : ∀ i (hi : i < ps.length), RepP w g.I (arr.getD i undef) ps[i]) :
    ∃ g', Ext w g T w' g' (T ++ [0]) ∧ Sim w' g' V (T ++ [0]) ∧ RepD w' g' (T ++ [0]) (.slice (some ⟨b, 0, none⟩) n cap) (.ow T.length 0 n ps) ∧ Below g.B w w' := by
  have hs := h.grown hb
  have he := h.ext_grown hb
  have hlt : b < w'.heap.size := lt_of_get hblk
  have hle : n * esz ≤ cap * esz := Nat.mul_le_mul_right _ hn
  have ht : TokOk w' ⟨b, n, cap, esz⟩ := ⟨hz, hn, arr, t, fr, hblk, hcap, hf⟩
  have hs2 := hs.addT (tg := ⟨b, n, cap, esz⟩) (Nat.le_trans h.hB hge) (h.fresh hge) (h.freshI hge) ht
  have he2 := he.trans (hs.ext_addT ⟨b, n, cap, esz⟩ (Nat.le_trans h.hB hge))
  refine ⟨g.addT ⟨b, n, cap, esz⟩, he2, hs2, ?_, h.below hb⟩
  refine .ow (us := fun i => arr.getD (0 + i) undef) hn (cel_arr hblk (by omega) (fun i hi => .inr ⟨rfl, ?_⟩)) (fun i hi => ?_) ⟨0, by simp, Nat.le_refl _, fun _ => ⟨⟨b, n, cap, esz⟩, ?_, rfl, rfl, rfl, hp⟩⟩
  · show 0 + i < n * esz
    omega
  · rw [Nat.zero_add]; exact (hr i hi).mono he2.imm
  · show (g.τ ++ [_])[T.length]? = _
    rw [← h.lt]; simp

theorem got_push (h : Sim w g V T) (hb : Below w.heap.size w w') {b : Nat} {arr : Array Value} {t : TypeId} {fr : Nat × Nat} {ds : List D} (ty : TypeId) (hblk : w'.heap[b]? = some (.cells arr t fr)) (hge : w.heap.size ≤ b)
    (hf : Unf arr.size fr) (h1 : ∀ i (hi : i < ds.length), (ds[i]).one = true) (hr : RepL w g T arr ds) : Got w g T w' (.pointer (some ⟨b, 0, none⟩)) (.mp V.length 0) (V ++ [⟨ty, false, false, ds⟩]) T := by
  have hs := h.grown hb
  have he := h.ext_grown hb
  have he2 := he.trans (ext_addV (w := w') (g := g) (T := T) b)
  have hv : VarOk w' (g.addV b) T ⟨ty, false, false, ds⟩ b := .inr ⟨rfl, arr, t, fr, hblk, hf, h1, hr.mono he2⟩
  have hs2 := hs.addV (Nat.le_trans h.hB hge) (h.fresh hge) (h.freshI hge) hv
  refine ⟨g.addV b, he2, hs2, .mp ?_, h.below hb⟩
  show (g.σ ++ [b])[V.length]? = some b
  rw [← h.lv]; simp
theorem got_rng (h : Sim w g V T) (hb : Below w.heap.size w w') {b : Nat} {s : ByteArray} (hblk : w'.heap[b]? = some (.stringIter s 0)) (hge : w.heap.size ≤ b) :
    Got w g T w' (.pointer (some ⟨b, 0, none⟩)) (.mp V.length 0) (V ++ [⟨0, true, false, [.c (.v (.string s)), .c (.v (.int .i64 0))]⟩]) T := by
  have hs := h.grown hb
  have he := h.ext_grown hb
  have he2 := he.trans (ext_addV (w := w') (g := g) (T := T) b)
  have hv : VarOk w' (g.addV b) T ⟨0, true, false, [.c (.v (.string s)), .c (.v (.int .i64 0))]⟩ b := .inl ⟨rfl, rfl, s, 0, rfl, hblk⟩
  have hs2 := hs.addV (Nat.le_trans h.hB hge) (h.fresh hge) (h.freshI hge) hv
  refine ⟨g.addV b, he2, hs2, .mp ?_, h.below hb⟩
  show (g.σ ++ [b])[V.length]? = some b
  rw [← h.lv]; simp

theorem nodup_inj {α : Type} {l : List α} (h : l.Nodup) {i j : Nat} (hi : i < l.length) (hj : j < l.length) (e : l[i] = l[j]) : i = j := by
  rw [List.nodup_iff_pairwise_ne, List.pairwise_iff_getElem] at h
  rcases Nat.lt_trichotomy i j with hl | hl | hl
  · exact absurd e (h i j hi hj hl)
  · exact hl
  · exact absurd e.symm (h j i hj hi hl)
/-! ### a variable turns -/
theorem σ_inj (h : Sim w g V T) {i j b : Nat} (hi : g.σ[i]? = some b) (hj : g.σ[j]? = some b) : i = j := by
  have hn := (List.nodup_append.1 h.nd).1
  obtain ⟨hi1, hi2⟩ := List.getElem?_eq_some_iff.1 hi
  obtain ⟨hj1, hj2⟩ := List.getElem?_eq_some_iff.1 hj
  exact nodup_inj hn hi1 hj1 (hi2.trans hj2.symm)
theorem σ_τ (h : Sim w g V T) {i j b : Nat} {tg : TG} (hi : g.σ[i]? = some b) (hj : g.τ[j]? = some tg) : tg.blk ≠ b := by
  intro e
  have hn := (List.nodup_append.1 h.nd).2.2
  exact hn b (List.mem_of_getElem? hi) b (List.mem_map.2 ⟨tg, List.mem_of_getElem? hj, e⟩) rfl
theorem τ_inj (h : Sim w g V T) {i j : Nat} {t1 t2 : TG} (hi : g.τ[i]? = some t1) (hj : g.τ[j]? = some t2) (e : t1.blk = t2.blk) : i = j := by
  have hn := (List.nodup_append.1 h.nd).2.1
  obtain ⟨hi1, hi2⟩ := List.getElem?_eq_some_iff.1 hi
  obtain ⟨hj1, hj2⟩ := List.getElem?_eq_some_iff.1 hj
  have h1 : (g.τ.map (·.blk))[i]'(by simpa using hi1) = (g.τ.map (·.blk))[j]'(by simpa using hj1) := by simp [hi2, hj2, e]
  exact nodup_inj hn _ _ h1

/-- Variable id is at block b; its cells are others now; nothing else has turned. -/
theorem Sim.setVar (h : Sim w g V T) {id b : Nat} {o o' : VO} (ho : V[id]? = some o) (hs : g.σ[id]? = some b) (hfz : o.fz = false)
    (hb : Below b w w') (hother : ∀ k, k ≠ b → w'.heap[k]? = w.heap[k]?) (hv : VarOk w' g T o' b) : Ext w g T w' g T ∧ Sim w' g (V.set id o') T ∧ Below g.B w w' := by
  have hni : ∀ x, ¬ g.I b x := fun x hx => by have := h.iv b x id o hx hs ho; simp [hfz] at this
  have he : Ext w g T w' g T := ⟨rfl, fun c x hi => ⟨hi, by
      have : c ≠ b := fun e => hni x (e ▸ hi)
      simp only [World.cell?, hother c this]⟩, fun _ _ h => h, fun _ k h => ⟨k, h, Nat.le_refl _, fun _ => rfl⟩, fun _ _ h => .inl h⟩
  refine ⟨he, ?_, hb.mono (h.base b (List.mem_append.2 (.inl (List.mem_of_getElem? hs))))⟩
  exact {
    lv := by simpa using h.lv
    lt := h.lt
    var := fun i o2 b2 ho2 hs2 => by
      by_cases hi : i = id
      · subst hi
        have hlt : i < V.length := (List.getElem?_eq_some_iff.1 ho).1
        rw [List.getElem?_set_self hlt] at ho2
        simp only [Option.some.injEq] at ho2
        subst ho2
        rw [hs] at hs2
        simp only [Option.some.injEq] at hs2
        exact hs2 ▸ hv
      · rw [List.getElem?_set_ne (Ne.symm hi)] at ho2
        have hne : b2 ≠ b := fun e => hi (σ_inj h hs2 (e ▸ hs))
        exact (h.var i o2 b2 ho2 hs2).mono_at he (hother b2 hne)
    tok := fun i tg ht => (h.tok i tg ht).mono_at (hother _ (σ_τ h hs ht))
    nd := h.nd
    base := h.base
    hB := Nat.le_trans h.hB hb.size
    ilt := fun c x hi => Nat.lt_of_lt_of_le (h.ilt c x hi) hb.size
    iv := fun c x i vo hi hs2 hv2 => by
      by_cases hi2 : i = id
      · subst hi2
        rw [hs] at hs2
        simp only [Option.some.injEq] at hs2
        exact absurd hi (hs2 ▸ hni x)
      · rw [List.getElem?_set_ne (Ne.symm hi2)] at hv2
        exact h.iv c x i vo hi hs2 hv2
    it := h.it }
/-- Variable id never turns any more. -/
theorem Sim.fzVar (h : Sim w g V T) {id b : Nat} {o : VO} {ps : List P} (ho : V[id]? = some o) (hs : g.σ[id]? = some b) (hit : o.it = false) (hp : mapO cellPure o.cs = some ps) :
    Ext w g T w (g.addI b ps.length) T ∧ Sim w (g.addI b ps.length) (V.set id ⟨o.t, false, true, ps.map .c⟩) T ∧
      ∃ (arr : Array Value) (t : TypeId) (fr : Nat × Nat), w.heap[b]? = some (.cells arr t fr) ∧ RepPL w (g.addI b ps.length).I arr ps := by
  have he := h.ext_addI b ps.length (h.base b (List.mem_append.2 (.inl (List.mem_of_getElem? hs))))
  rcases h.var id o b ho hs with ⟨h1, _⟩ | ⟨_, arr, t, fr, h2, h3, h4, h5⟩
  · simp [hit] at h1
  have hpr := pure_rep h5 hp
  have hpr2 : RepPL w (g.addI b ps.length).I arr ps := ⟨hpr.1, fun i hi => (hpr.2 i hi).mono he.imm⟩
  refine ⟨he, ?_, arr, t, fr, h2, hpr2⟩
  exact {
    lv := by simpa [Gh.addI] using h.lv
    lt := h.lt
    var := fun i o2 b2 ho2 hs2 => by
      by_cases hi : i = id
      · subst hi
        have hlt : i < V.length := (List.getElem?_eq_some_iff.1 ho).1
        rw [List.getElem?_set_self hlt] at ho2
        simp only [Option.some.injEq] at ho2
        subst ho2
        have hs2' : g.σ[i]? = some b2 := hs2
        rw [hs] at hs2'
        simp only [Option.some.injEq] at hs2'
        subst hs2'
        exact .inr ⟨rfl, arr, t, fr, h2, h3, fun k hk => by simp [D.one], rep_pure hpr2⟩
      · rw [List.getElem?_set_ne (Ne.symm hi)] at ho2
        exact (h.var i o2 b2 ho2 hs2).mono_at he rfl
    tok := h.tok
    nd := h.nd
    base := h.base
    hB := h.hB
    ilt := fun c x hi => by
      rcases hi with hi | ⟨rfl, _⟩
      · exact h.ilt c x hi
      · exact h.σlt hs
    iv := fun c x i vo hi hs2 hv2 => by
      have hs2' : g.σ[i]? = some c := hs2
      by_cases hi2 : i = id
      · subst hi2
        have hlt : i < V.length := (List.getElem?_eq_some_iff.1 ho).1
        rw [List.getElem?_set_self hlt] at hv2
        simp only [Option.some.injEq] at hv2
        rw [← hv2]
      · rw [List.getElem?_set_ne (Ne.symm hi2)] at hv2
        rcases hi with hi | ⟨rfl, _⟩
        · exact h.iv c x i vo hi hs2' hv2
        · exact absurd (σ_inj h hs2' hs) hi2
    it := fun c x i tg hi ht hb => by
      rcases hi with hi | ⟨rfl, _⟩
      · exact h.it c x i tg hi ht hb
      · exact absurd hb (σ_τ h hs ht) }

/-! ### a token goes on -/
/-- The row of token id is at tg' now: the same block with more in it, or a new block. -/
theorem Sim.setTok (h : Sim w g V T) {id ver : Nat} {tg tg' : TG} (ht : g.τ[id]? = some tg) (hk : T[id]? = some ver) (hblk : tg'.blk = tg.blk ∨ (w.heap.size ≤ tg'.blk)) (hge : tg'.blk = tg.blk → tg.n * tg.esz ≤ tg'.n * tg'.esz)
    (hB : ∀ k, k < w.heap.size → k ≠ tg.blk → w'.heap[k]? = w.heap[k]?) (hsz : w.heap.size ≤ w'.heap.size) (hst : w'.os = w.os ∧ w'.tape = w.tape ∧ w'.output = w.output)
    (hcells : ∀ o, g.I tg.blk o → w'.cell? ⟨tg.blk, o, none⟩ = w.cell? ⟨tg.blk, o, none⟩) (hok : TokOk w' tg') :
    let g' : Gh := { g with τ := g.τ.set id tg', I := fun b o => g.I b o ∧ (b = tg'.blk → o < tg'.n * tg'.esz) ∨ (b = tg'.blk ∧ o < tg'.n * tg'.esz) }
    Ext w g T w' g' (T.set id (ver + 1)) ∧ Sim w' g' V (T.set id (ver + 1)) ∧ Below g.B w w' := by
  intro g'
  have hlt : id < g.τ.length := (List.getElem?_eq_some_iff.1 ht).1
  have hltT : id < T.length := (List.getElem?_eq_some_iff.1 hk).1
  have hcell : ∀ b o, g.I b o → w'.cell? ⟨b, o, none⟩ = w.cell? ⟨b, o, none⟩ := fun b o hi => by
    by_cases e : b = tg.blk
    · subst e; exact hcells o hi
    · simp only [World.cell?, hB b (h.ilt b o hi) e]
  have hI : ∀ b o, g.I b o → g'.I b o := fun b o hi => by
    refine .inl ⟨hi, fun e => ?_⟩
    rcases hblk with hb | hb
    · have h1 := h.it b o id tg hi ht (by rw [e, hb])
      have := hge hb
      omega
    · have := h.ilt b o hi
      omega
  have he : Ext w g T w' g' (T.set id (ver + 1)) := ⟨rfl, fun b o hi => ⟨hI b o hi, hcell b o hi⟩, fun _ _ h => h, fun i k hki => by
    by_cases e : i = id
    · subst e
      rw [hk] at hki
      simp only [Option.some.injEq] at hki
      subst hki
      exact ⟨ver + 1, by rw [List.getElem?_set_self hltT], by omega, fun e => by omega⟩
    · exact ⟨k, by rw [List.getElem?_set_ne (Ne.symm e)]; exact hki, Nat.le_refl _, fun _ => by show (g.τ.set id tg')[i]? = _; rw [List.getElem?_set_ne (Ne.symm e)]⟩, fun b o hi => by
    rcases hi with ⟨hi, _⟩ | ⟨rfl, _⟩
    · exact .inl hi
    · refine .inr ?_
      rcases hblk with hb | hb
      · rw [hb]; exact h.base _ (List.mem_append.2 (.inr (List.mem_map.2 ⟨tg, List.mem_of_getElem? ht, rfl⟩)))
      · exact Nat.le_trans h.hB hb⟩
  have hbelow : Below g.B w w' := ⟨hst.1, hst.2.1, hst.2.2, hsz, fun k hk => hB k (Nat.lt_of_lt_of_le hk h.hB) (fun e => by
    have := h.base tg.blk (List.mem_append.2 (.inr (List.mem_map.2 ⟨tg, List.mem_of_getElem? ht, rfl⟩)))
    omega)⟩
  have hnew : ∀ {i : Nat} {t2 : TG}, i ≠ id → g.τ[i]? = some t2 → t2.blk ≠ tg'.blk := fun hi h2 e => by
    rcases hblk with hb | hb
    · exact hi (τ_inj h h2 ht (by rw [e, hb]))
    · have := h.τlt h2; omega
  have hnewσ : ∀ {i b : Nat}, g.σ[i]? = some b → b ≠ tg'.blk := fun h2 e => by
    rcases hblk with hb | hb
    · exact σ_τ h h2 ht (by rw [e, hb])
    · have := h.σlt h2; omega
  refine ⟨he, ?_, hbelow⟩
  exact {
    lv := h.lv
    lt := by simpa [g'] using h.lt
    var := fun i o2 b2 ho2 hs2 => (h.var i o2 b2 ho2 hs2).mono_at he (hB b2 (h.σlt hs2) (fun e => σ_τ h hs2 ht e.symm))
    tok := fun i t2 h2 => by
      have h2' : (g.τ.set id tg')[i]? = some t2 := h2
      by_cases e : i = id
      · subst e
        rw [List.getElem?_set_self hlt] at h2'
        simp only [Option.some.injEq] at h2'
        exact h2' ▸ hok
      · rw [List.getElem?_set_ne (Ne.symm e)] at h2'
        exact (h.tok i t2 h2').mono_at (hB _ (h.τlt h2') (fun e2 => e (τ_inj h h2' ht e2)))
    nd := by
      show (g.σ ++ (g.τ.set id tg').map (·.blk)).Nodup
      rw [List.map_set]
      have hn := List.nodup_append.1 h.nd
      refine List.nodup_append.2 ⟨hn.1, ?_, ?_⟩
      · rw [List.nodup_iff_pairwise_ne, List.pairwise_iff_getElem]
        intro i j hi hj hij
        simp only [List.length_set, List.length_map] at hi hj
        rw [List.getElem_set, List.getElem_set]
        split
        · rename_i e1
          rw [if_neg (by omega)]
          intro e2
          simp only [List.getElem_map] at e2
          exact hnew (i := j) (by omega) (List.getElem?_eq_getElem hj) e2.symm
        · split
          · rename_i e1 e3
            intro e2
            simp only [List.getElem_map] at e2
            exact hnew (i := i) (by omega) (List.getElem?_eq_getElem hi) e2
          · intro e2
            simp only [List.getElem_map] at e2
            have := τ_inj h (List.getElem?_eq_getElem hi) (List.getElem?_eq_getElem hj) e2
            omega
      · intro x hx y hy e
        subst e
        obtain ⟨i, hi⟩ := List.getElem?_of_mem hx
        rcases List.mem_or_eq_of_mem_set hy with hy | hy
        · exact hn.2.2 x hx x hy rfl
        · exact hnewσ hi hy
    base := fun b hb => by
      have hb' : b ∈ g.σ ++ (g.τ.set id tg').map (·.blk) := hb
      rw [List.map_set] at hb'
      rcases List.mem_append.1 hb' with hb' | hb'
      · exact h.base b (List.mem_append.2 (.inl hb'))
      · rcases List.mem_or_eq_of_mem_set hb' with hb' | hb'
        · exact h.base b (List.mem_append.2 (.inr hb'))
        · rcases hblk with hb2 | hb2
          · rw [hb', hb2]; exact h.base tg.blk (List.mem_append.2 (.inr (List.mem_map.2 ⟨tg, List.mem_of_getElem? ht, rfl⟩)))
          · rw [hb']; exact Nat.le_trans h.hB hb2
    hB := Nat.le_trans h.hB hsz
    ilt := fun b o hi => by
      rcases hi with ⟨hi, _⟩ | ⟨rfl, _⟩
      · exact Nat.lt_of_lt_of_le (h.ilt b o hi) hsz
      · obtain ⟨_, _, arr, t, fr, hh, _⟩ := hok
        exact lt_of_get hh
    iv := fun b o i vo hi hs2 hv2 => by
      rcases hi with ⟨hi, _⟩ | ⟨rfl, _⟩
      · exact h.iv b o i vo hi hs2 hv2
      · exact absurd rfl (hnewσ hs2)
    it := fun b o i t2 hi h2 hb2 => by
      have h2' : (g.τ.set id tg')[i]? = some t2 := h2
      by_cases e : i = id
      · subst e
        rw [List.getElem?_set_self hlt] at h2'
        simp only [Option.some.injEq] at h2'
        subst h2'
        rcases hi with ⟨_, hi⟩ | ⟨_, hi⟩
        · exact hi hb2.symm
        · exact hi
      · rw [List.getElem?_set_ne (Ne.symm e)] at h2'
        rcases hi with ⟨hi, _⟩ | ⟨hi, _⟩
        · exact h.it b o i t2 hi h2' hb2
        · exact absurd (hb2.trans hi) (hnew e h2') }
end
end Go.Abs
