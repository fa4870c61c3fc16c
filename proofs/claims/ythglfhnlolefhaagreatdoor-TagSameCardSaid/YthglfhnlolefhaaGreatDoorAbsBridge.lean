/- Own framework, part 31: what the form reads of an argument, as abstract data. -/
import Derived.Test.YthglfhnlolefhaaGreatDoorAbsKit
import Derived.ChangeShapes
set_option linter.unusedVariables false
set_option linter.unusedSimpArgs false
namespace Go.Abs
section
variable {H : Type} {enc : TypeId × Value → H} {P : Program} {w : World}

/-- Memory that was there never turns. -/
def oldI (w : World) : Nat → Nat → Prop := fun b _ => b < w.heap.size

/-- These cells hold these abstract ones. -/
def BrL (w : World) : List Value → List Go.Abs.P → Prop
  | [], [] => True
  | v :: vs, p :: ps => RepP w (oldI w) v p ∧ BrL w vs ps
  | _, _ => False

theorem BrL.len : ∀ {vs : List Value} {ps : List Go.Abs.P}, BrL w vs ps → vs.length = ps.length
  | [], [], _ => rfl
  | v :: vs, p :: ps, h => by simp [BrL.len h.2]
theorem BrL.get : ∀ {vs : List Value} {ps : List Go.Abs.P}, BrL w vs ps → ∀ (i : Nat) (p : Go.Abs.P), ps[i]? = some p → ∃ v, vs[i]? = some v ∧ RepP w (oldI w) v p
  | [], [], _, i, p, hp => by simp at hp
  | v :: vs, q :: ps, h, 0, p, hp => by
    simp only [List.getElem?_cons_zero, Option.some.injEq] at hp
    subst hp
    exact ⟨v, rfl, h.1⟩
  | v :: vs, q :: ps, h, i + 1, p, hp => by
    obtain ⟨u, h1, h2⟩ := BrL.get h.2 i p (by simpa using hp)
    exact ⟨u, by simpa using h1, h2⟩
theorem BrL.rep {g : Gh} {T : List Nat} {vs : List Value} {ps : List Go.Abs.P} (h : BrL w vs ps) (hI : g.I = oldI w) : RepL w g T vs.toArray (ps.map .c) := by
  refine ⟨by simpa using h.len, fun i hi => ?_⟩
  have hi' : i < ps.length := by simpa using hi
  obtain ⟨v, h1, h2⟩ := h.get i ps[i] (List.getElem?_eq_getElem hi')
  rw [List.getElem_map]
  refine .c ?_
  rw [hI]
  simpa [Array.getD_eq_getD_getElem?, h1] using h2

theorem lt_of_cell {a : Addr} {v : Value} (h : w.cell? a = some v) : a.block < w.heap.size := by
  rw [spot_none h] at h
  simp only [World.cell?] at h
  cases hb : w.heap[a.block]? with
  | none => simp [hb] at h
  | some o => exact (Array.getElem?_eq_some_iff.1 hb).1

theorem br_lit {v : Value} (h : scal v = true) : BrL w [v] [.v v] := ⟨.v h, trivial⟩
theorem br_bool {t : TypeId} {n : Nat} {cs : List Value} {x : DataW H × List MemPlace} (ht : P.underlying t = some .bool) (h : DataW.trod enc P w 0 (fun _ => true) true n t cs = some x) :
    ∃ b : Bool, BrL w cs [boP b] ∧ x.1 = .lit (.bool b) := by
  obtain ⟨b, rfl, rfl⟩ := DataW.trod_bool ht h
  exact ⟨b, br_lit rfl, rfl⟩
theorem br_int {t : TypeId} {k : IntKind} {n : Nat} {cs : List Value} {x : DataW H × List MemPlace} (ht : P.underlying t = some (.int k)) (h : DataW.trod enc P w 0 (fun _ => true) true n t cs = some x) :
    ∃ z : Int, BrL w cs [.v (.int k z)] ∧ x.1 = .lit (.int k z) ∧ (Lit.int k z).wf = true := by
  obtain ⟨z, rfl, rfl, hw⟩ := DataW.trod_int ht h
  exact ⟨z, br_lit rfl, rfl, hw⟩
theorem br_u8 {t : TypeId} {n : Nat} {cs : List Value} {x : DataW H × List MemPlace} (ht : P.underlying t = some (.int .u8)) (h : DataW.trod enc P w 0 (fun _ => true) true n t cs = some x) :
    ∃ b : UInt8, BrL w cs [byteP b] ∧ x.1 = .lit (.int .u8 b.toNat) := by
  obtain ⟨z, h1, h2, hw⟩ := br_int ht h
  have hb : 0 ≤ z ∧ z ≤ 255 := by
    simp [Lit.wf, IntKind.min, IntKind.max, IntKind.signed, IntKind.bits] at hw
    omega
  have e : ((UInt8.ofNat z.toNat).toNat : Int) = z := by
    have : z.toNat < 256 := by omega
    simp only [UInt8.toNat_ofNat', Nat.reducePow]
    omega
  exact ⟨UInt8.ofNat z.toNat, by rw [byteP, e]; exact h1, by rw [e]; exact h2⟩
theorem br_str {t : TypeId} {n : Nat} {cs : List Value} {x : DataW H × List MemPlace} (ht : P.underlying t = some .string) (h : DataW.trod enc P w 0 (fun _ => true) true n t cs = some x) :
    ∃ s : ByteArray, BrL w cs [.v (.string s)] ∧ x.1 = .lit (.string s.data.toList) ∧ s.size ≤ maxLen := by
  obtain ⟨s, rfl, rfl, hs⟩ := DataW.trod_string ht h
  exact ⟨s, br_lit rfl, rfl, hs⟩

theorem DataW_add (a : Addr) (i j : Nat) : (a.add i).add j = a.add (i + j) := by
  unfold Addr.add
  by_cases hi : i = 0 <;> by_cases hj : j = 0 <;> simp [hi, hj, Nat.add_assoc]
/-- A slice. -/
theorem br_slice {α : Type} {t e : TypeId} {k : Nat} (ht : P.underlying t = some (.slice e)) (hk : P.cellsOf e = k) {c : α → List Go.Abs.P} (hc : ∀ a, (c a).length = k) {R : α → DataW H → Prop} {n : Nat} {cs : List Value} {x : DataW H × List MemPlace}
    (h : DataW.trod enc P w 0 (fun _ => true) true n t cs = some x)
    (he : ∀ m cs' y, m < n → DataW.trod enc P w 0 (fun _ => true) true m e cs' = some y → ∃ a, BrL w cs' (c a) ∧ R a y.1) :
    ∃ l : List α, BrL w cs [.sl l.length (l.flatMap c)] ∧ l.length ≤ maxLen ∧ ((x.1 = .nil ∧ l = []) ∨ ∃ ds rest, x.1 = .slice ds rest ∧ ds.length = l.length ∧ ∀ (i : Nat) (a : α) (d : DataW H), l[i]? = some a → ds[i]? = some d → R a d) := by
  rcases DataW.trod_slice ht h with ⟨rfl, rfl⟩ | ⟨a, len, cap, elems, rest, m, rfl, rfl, rfl, hb, hl, hm, hlen, hel, _⟩
  · exact ⟨[], ⟨.nil, trivial⟩, Nat.zero_le _, .inl ⟨rfl, rfl⟩⟩
  subst hk
  have key : ∀ j, j ≤ len → ∃ l : List α, l.length = j ∧ ∀ i (b : α), l[i]? = some b → ∃ cs' y, w.cells? 0 (a.add (i * P.cellsOf e)) (P.cellsOf e) = some cs' ∧ elems[i]? = some y ∧ BrL w cs' (c b) ∧ R b y.1 := by
    intro j
    induction j with
    | zero => exact fun _ => ⟨[], rfl, fun i b hb => by simp at hb⟩
    | succ j ih =>
      intro hj
      obtain ⟨l, h1, h2⟩ := ih (by omega)
      have h3 := hel j (by omega)
      obtain ⟨y, hy⟩ : ∃ y, elems[j]? = some y := ⟨_, List.getElem?_eq_getElem (by omega)⟩
      rw [hy] at h3
      obtain ⟨cs', h4, h5⟩ := Option.bind_eq_some_iff.1 h3
      obtain ⟨b, h6, h7⟩ := he m cs' y (Nat.lt_succ_self _) h5
      refine ⟨l ++ [b], by simp [h1], fun i b' hb' => ?_⟩
      by_cases hij : i < l.length
      · rw [List.getElem?_append_left hij] at hb'
        exact h2 i b' hb'
      · have : i = l.length := by
          have := (List.getElem?_eq_some_iff.1 hb').1
          simp at this; omega
        subst this
        simp only [List.getElem?_append_right (Nat.le_refl _), Nat.sub_self, List.getElem?_cons_zero, Option.some.injEq] at hb'
        subst hb'
        rw [h1]
        exact ⟨cs', y, h4, hy, h6, h7⟩
  obtain ⟨l, h1, h2⟩ := key len (Nat.le_refl _)
  have hfl : (l.flatMap c).length = len * P.cellsOf e := by
    rw [← h1]
    clear h1 h2
    induction l with
    | nil => simp
    | cons b l ih => rw [List.flatMap_cons, List.length_append, ih, hc, List.length_cons, Nat.add_mul]; omega
  have cell : ∀ j, j < len * P.cellsOf e → ∃ v p, w.cell? (a.add j) = some v ∧ (l.flatMap c)[j]? = some p ∧ RepP w (oldI w) v p := by
    intro j hj
    have hk : 0 < P.cellsOf e := Nat.pos_of_ne_zero fun h0 => by rw [h0] at hj; omega
    have hi : j / P.cellsOf e < len := (Nat.div_lt_iff_lt_mul hk).2 hj
    obtain ⟨b, hb⟩ : ∃ b, l[j / P.cellsOf e]? = some b := ⟨_, List.getElem?_eq_getElem (by omega)⟩
    obtain ⟨cs', y, h3, h4, h5, h6⟩ := h2 _ b hb
    obtain ⟨_, h7, h8⟩ := World.cells?_some h3
    have hr := Nat.mod_lt j hk
    obtain ⟨s1, s2⟩ := seg_at hc hb
    have hp : (l.flatMap c)[j]? = (c b)[j % P.cellsOf e]? := by
      rw [← s1, List.getElem?_take_of_lt hr, List.getElem?_drop, Nat.mul_comm, Nat.div_add_mod]
    obtain ⟨p, hp2⟩ : ∃ p, (c b)[j % P.cellsOf e]? = some p := ⟨_, List.getElem?_eq_getElem (by rw [hc]; exact hr)⟩
    obtain ⟨v, h9, h10⟩ := h5.get _ p hp2
    refine ⟨v, p, ?_, by rw [hp, hp2], h10⟩
    have := h8 _ hr
    rw [h9] at this
    rw [← this]
    rw [DataW_add, Nat.mul_comm (j / P.cellsOf e), Nat.div_add_mod]
  refine ⟨l, ⟨?_, trivial⟩, by omega, .inr ⟨elems.map (·.1), rest.map (·.1), rfl, by simp [hlen, h1], fun i b d hb hd => ?_⟩⟩
  · rw [h1]
    refine .sl (us := fun j => (w.cell? (a.add j)).getD undef) hl ⟨fun j hj => ?_, fun j hj => ?_⟩ fun j hj => ?_
    · obtain ⟨v, p, h3, _⟩ := cell j (by rw [← hfl]; exact hj)
      rw [h3]; rfl
    · obtain ⟨v, p, h3, _⟩ := cell j (by rw [← hfl]; exact hj)
      exact lt_of_cell h3
    · obtain ⟨v, p, h3, h4, h5⟩ := cell j (by rw [← hfl]; exact hj)
      have : (l.flatMap c)[j] = p := by rw [List.getElem?_eq_getElem hj] at h4; exact Option.some.inj h4
      simp only [h3, Option.getD_some, this]
      exact h5
  · obtain ⟨cs', y, _, h4, _, h6⟩ := h2 i b hb
    rw [List.getElem?_map, h4] at hd
    simp only [Option.map_some, Option.some.injEq] at hd
    subst hd
    exact h6

theorem flat_bytes (l : List UInt8) : (l.flatMap fun b => [byteP b]) = bytesP l := by
  induction l with
  | nil => rfl
  | cons b l ih => rw [List.flatMap_cons, ih]; rfl
/-- A slice of bytes. -/
theorem br_bytes {t e : TypeId} (ht : P.underlying t = some (.slice e)) (he : P.underlying e = some (.int .u8)) (hk : P.cellsOf e = 1) {n : Nat} {cs : List Value} {x : DataW H × List MemPlace} (h : DataW.trod enc P w 0 (fun _ => true) true n t cs = some x) :
    ∃ l : List UInt8, BrL w cs [byP l] ∧ l.length ≤ maxLen ∧ ((x.1 = .nil ∧ l = []) ∨ ∃ ds rest, x.1 = .slice ds rest ∧ ds.length = l.length) := by
  obtain ⟨l, h1, h2, h3⟩ := br_slice (α := UInt8) ht hk (c := fun b => [byteP b]) (fun _ => rfl) (R := fun _ _ => True) h (fun m cs' y _ hy => by
    obtain ⟨b, h4, _⟩ := br_u8 he hy
    exact ⟨b, h4, trivial⟩)
  refine ⟨l, by rw [flat_bytes] at h1; exact h1, h2, h3.imp id fun ⟨ds, rest, h4, h5, _⟩ => ⟨ds, rest, h4, h5⟩⟩
end
end Go.Abs
