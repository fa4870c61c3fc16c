/- Own framework, part 14: slices of an array variable, bytes marked as a string's, panic, structs held against each other. -/
import Derived.Test.YthglfhnlolefhaaGreatDoorAbsStep8
set_option linter.unusedVariables false
set_option linter.unusedSimpArgs false
namespace Go.Abs
open Go.RowKit (Below)

section
variable {P : Program} {w : World} {g : Gh} {V : List VO} {T : List Nat} {a : Act} {e : Env} {o : Oper}

theorem st_slc_arr {t : TypeId} {x : Operand} {x' : Opd} {lo hi : Option Operand} {lo' hi' : Option Opd} {n esz id off : Nat} {vo : VO} {ps : List Go.Abs.P} {h l : Nat} (hop : o.op = .slice t x lo hi none) (hk : skOf P t = some (.arr n esz)) (hx : opd x = some x') (hlo : OptOpd lo lo') (hhi : OptOpd hi hi') (he : EnvOk w g T a.tmps e)
    (hv : ev e x' = .mp id off) (h1 : bnd e hi' n n = some h) (h2 : bnd e lo' 0 h = some l) (ho : V[id]? = some vo) (hit : vo.it = false) (hp : mapO cellPure vo.cs = some ps) (hle : off + n * esz ≤ ps.length) (hS : Sim w g V T) :
    StG P w g T a o (.c (.sl (h - l) ((ps.drop (off + l * esz)).take ((h - l) * esz)))) (V.set id ⟨vo.t, false, true, ps.map .c⟩) T := by
  have hr := opd_rep he hx
  rw [hv] at hr
  obtain ⟨b, hxe, hb⟩ := rep_mp hr
  obtain ⟨et, hu, hs, hz⟩ := sk_arr hk
  obtain ⟨hbd, hlh, hhn⟩ := bounds_run (P := P) (w := w) (g := g) (T := T) (isS := false) hlo hhi he rfl (Nat.le_refl _) h1 h2
  obtain ⟨k1, k2, arr, aty, fr, hh, k3⟩ := hS.fzVar ho hb hit hp
  have hcel : Cel w (g.addI b ps.length).I ⟨b, off, none⟩ (ps.drop off).length (fun i => arr.getD (off + i) undef) :=
    cel_arr hh (by have := k3.1; simp only [List.length_drop]; omega) (fun i hi => .inr ⟨rfl, by simp at hi; omega⟩)
  have hrp : ∀ i (hi : i < (ps.drop off).length), RepP w (g.addI b ps.length).I (arr.getD (off + i) undef) (ps.drop off)[i] := fun i hi => by
    rw [List.getElem_drop]
    exact k3.2 (off + i) (by simp at hi; omega)
  have hdd : (ps.drop off).drop (l * esz) = ps.drop (off + l * esz) := by rw [List.drop_drop]
  refine ⟨w, .slice (some (if n = l then ⟨b, off, none⟩ else (⟨b, off, none⟩ : Addr).add (l * esz))) (h - l) (n - l), .inl ?_, g.addI b ps.length, k1, k2, ?_, Below.refl _ _⟩
  · simp only [execOp, hop, Instr.sliceAt, Sem.run_bind, underlying_run hu, Result.andThen_ok, hxe, Instr.sureAddr, Sem.run_pure, Option.map_none, hbd, sizeT_run hs]
  · by_cases hcl : n = l
    · subst hcl
      have h0 : h - n = 0 := by omega
      rw [if_pos rfl, h0]
      simp only [Nat.zero_mul, List.take_zero]
      exact .c (.sl (us := fun _ => undef) (Nat.zero_le _) ⟨fun i hi => absurd hi (Nat.not_lt_zero i), fun i hi => absurd hi (Nat.not_lt_zero i)⟩ (fun i hi => absurd hi (Nat.not_lt_zero i)))
    · rw [if_neg hcl, ← hdd]
      exact .c (.sl (by omega) ((hcel.drop (l * esz)).take ((h - l) * esz)) (rep_take (rep_drop hrp _) _))

/-- Bytes of one's own are marked as a string's. -/
theorem Sim.freeze (h : Sim w g V T) {b n : Nat} {arr : Array Value} {t : TypeId} {fr : Nat × Nat} (hh : w.heap[b]? = some (.cells arr t fr)) (hn : n = arr.size) (hB : g.B ≤ b) :
    Ext w g T (w.freeze ⟨b, n, none⟩ 1) g T ∧ Sim (w.freeze ⟨b, n, none⟩ 1) g V T ∧ Below g.B w (w.freeze ⟨b, n, none⟩ 1) := by
  have hother : ∀ k, k ≠ b → (w.freeze ⟨b, n, none⟩ 1).heap[k]? = w.heap[k]? := fun k hk => by simp [World.freeze, Array.getElem?_modify, Ne.symm hk]
  have hsz : (w.freeze ⟨b, n, none⟩ 1).heap.size = w.heap.size := by simp [World.freeze]
  have hcell : ∀ c o, (w.freeze ⟨b, n, none⟩ 1).cell? ⟨c, o, none⟩ = w.cell? ⟨c, o, none⟩ := fun c o => by
    by_cases e : c = b
    · subst e
      obtain ⟨lo, hi⟩ := fr
      have : (w.freeze ⟨c, n, none⟩ 1).heap[c]? = some (.cells arr t (if lo == hi then (n, n + 1) else (min lo n, max hi (n + 1)))) := by simp [World.freeze, Array.getElem?_modify, hh]
      rw [cell_arr this, cell_arr hh]
    · simp only [World.cell?, hother c e]
  have he : Ext w g T (w.freeze ⟨b, n, none⟩ 1) g T := ⟨rfl, fun c o hi => ⟨hi, hcell c o⟩, fun _ _ h => h, fun _ k h => ⟨k, h, Nat.le_refl _, fun _ => rfl⟩, fun _ _ h => .inl h⟩
  refine ⟨he, ?_, ⟨rfl, rfl, rfl, by rw [hsz]; exact Nat.le_refl _, fun k hk => hother k (by omega)⟩⟩
  exact {
    lv := h.lv
    lt := h.lt
    var := fun id o c ho hs => by
      by_cases e : c = b
      · subst e
        rcases h.var id o c ho hs with ⟨h1, h2, s, p, h3, h4⟩ | ⟨h1, arr', t', fr', h2, h3, h4, h5⟩
        · rw [hh] at h4; cases h4
        · rw [hh] at h2
          cases h2
          obtain ⟨fr2, k1, k2, _⟩ := freeze_heap hh h3 hn
          exact .inr ⟨h1, arr, t, fr2, k1, k2, h4, h5.mono he⟩
      · exact (h.var id o c ho hs).mono_at he (hother c e)
    tok := fun id tg ht => by
      by_cases e : tg.blk = b
      · subst e
        obtain ⟨h1, h2, arr', t', fr', h3, h4, h5⟩ := h.tok id tg ht
        rw [hh] at h3
        cases h3
        obtain ⟨fr2, k1, k2, _⟩ := freeze_heap hh h5 hn
        exact ⟨h1, h2, arr, t, fr2, k1, h4, k2⟩
      · exact (h.tok id tg ht).mono_at (hother _ e)
    nd := h.nd
    base := h.base
    hB := by rw [hsz]; exact h.hB
    ilt := fun c o hi => by rw [hsz]; exact h.ilt c o hi
    iv := h.iv
    it := h.it }
theorem st_ss {src et : TypeId} {x : Operand} {x' : Opd} {n : Nat} {cs : List Go.Abs.P} (hop : o.op = .convert src src x) (hs : P.underlying src = some (.slice et)) (hse : P.underlying et = some (.int .u8)) (hx : opd x = some x') (he : EnvOk w g T a.tmps e)
    (hv : ev e x' = .fs n cs) (hn : n ≠ 0) (hS : Sim w g V T) : StG P w g T a o (.fs n cs) V T := by
  have h1 := opd_rep he hx
  rw [hv] at h1
  obtain ⟨ad, hxe, hB⟩ : ∃ ad, a.eval x = .slice (some ad) n n ∧ g.B ≤ ad.block := by
    generalize a.eval x = xv at h1
    cases h1 with
    | fsnil => exact absurd rfl hn
    | fs hB hc hr => exact ⟨_, rfl, hB hn⟩
  have hrun : (execOp a.eval o).run P w = ((markStringish ad).run P w).andThen fun _ w' => .ok (.value (a.eval x)) w' := by
    simp only [execOp, hop, hxe, convert, Sem.run_bind, underlying_run hs, Result.andThen_ok, underlying_run hse, beq_self_eq_true, Sem.run_pure]
    cases (markStringish ad).run P w <;> rfl
  cases hsh : w.shape? ad.block with
  | none =>
    refine ⟨w, a.eval x, .inl ?_, got_same hS h1⟩
    rw [hrun]
    simp [markStringish, hsh]
  | some y =>
    obtain ⟨t, m⟩ := y
    obtain ⟨arr, fr, hh, hm⟩ : ∃ arr fr, w.heap[ad.block]? = some (.cells arr t fr) ∧ m = arr.size := by
      unfold World.shape? at hsh
      split at hsh
      · rename_i c el fr hh
        simp only [Option.some.injEq, Prod.mk.injEq] at hsh
        obtain ⟨rfl, rfl⟩ := hsh
        exact ⟨c, fr, hh, rfl⟩
      · simp at hsh
    obtain ⟨k1, k2, k3⟩ := hS.freeze hh hm hB
    refine ⟨w.freeze ⟨ad.block, m, none⟩ 1, a.eval x, .inl ?_, g, k1, k2, h1.mono k1, k3⟩
    rw [hrun]
    simp [markStringish, hsh]

/-! ### structs and arrays held against each other, cell for cell -/
/-- What is owed for the types that are held against each other as a whole. -/
def AgOk (P : Program) : Prop := ∀ (t : TypeId) (cx cy : Array Value) (xs ys : List D) (ks : List EK) (r : Bool) (w : World) (g : Gh) (T : List Nat), aggT P t = some true → plainEq P 30 t = some ks → RepL w g T cx xs → RepL w g T cy ys → eqCells ks xs ys = some r →
  (Op.equal t (.agg cx) (.agg cy)).run P w = .ok r w
end
end Go.Abs
