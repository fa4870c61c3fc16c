/- Own: what the form reads of a tag. -/
import Derived.Test.YthglfhnlolefhaaGreatDoorAbsBridge
import Derived.Test.YthglfhnlolefhaaGreatDoorTag1
import Derived.Test.YthglfhnlolefhaaGreatDoorRows
set_option maxRecDepth 100000
set_option linter.unusedSimpArgs false
set_option linter.unusedVariables false
namespace Go.Proofs.YthglfhnlolefhaaGreatDoor
open Go.Abs

theorem cells5 : Tryz.prog.cellsOf 5 = 1 := by kernel_rfl
theorem cells4 : Tryz.prog.cellsOf 4 = 1 := by kernel_rfl
theorem cells24 : Tryz.prog.cellsOf 24 = 1 := by kernel_rfl
theorem cells22 : Tryz.prog.cellsOf 22 = 1 := by kernel_rfl
theorem cells30 : Tryz.prog.cellsOf 30 = 3 := by kernel_rfl
theorem cells32 : Tryz.prog.cellsOf 32 = 7 := by kernel_rfl
theorem cells34 : Tryz.prog.cellsOf 34 = 10 := by kernel_rfl

def fld (n : String) (t : TypeId) (o b : Nat) : Field := { name := n, type := t, offset := o, embedded := false, tag := "", pkgPath := "", byteOffset := b }
section
variable {H : Type} {enc : TypeId × Value → H} {w : World}
abbrev Trd (enc : TypeId × Value → H) (w : World) (n : Nat) (t : TypeId) (cs : List Value) (x : DataW H × List MemPlace) : Prop := DataW.trod enc Tryz.prog w 0 (fun _ => true) true n t cs = some x

/-! ### bulk -/
theorem bulk_one (d : DataW H) : 1 ≤ Rows.uptoBulk d := by
  cases d with
  | lit l => cases l <;> simp [Rows.uptoBulk]
  | nil => simp [Rows.uptoBulk]
  | ptr d => simp [Rows.uptoBulk]
  | slice elems spare => simp [Rows.uptoBulk]
  | agg parts => simp [Rows.uptoBulk]
  | iface t d => simp [Rows.uptoBulk]
  | map entries => simp [Rows.uptoBulk]
  | held h => simp [Rows.uptoBulk]
theorem bulk_len (l : List (DataW H)) : l.length ≤ Rows.uptoBulkAll l := by
  induction l with
  | nil => simp [Rows.uptoBulkAll]
  | cons x l ih => have := bulk_one x; simp only [Rows.uptoBulkAll, List.length_cons]; omega
/-- Of elements that are held against their data one by one. -/
theorem bulk_each {α : Type} {f : α → Nat} : ∀ (l : List α) (ds : List (DataW H)), ds.length = l.length → (∀ (i : Nat) (a : α) (d : DataW H), l[i]? = some a → ds[i]? = some d → f a ≤ Rows.uptoBulk d) → (l.map f).sum ≤ Rows.uptoBulkAll ds
  | [], _, _, _ => by simp
  | a :: l, [], h, _ => by simp at h
  | a :: l, d :: ds, h, hk => by
    have h1 := hk 0 a d rfl rfl
    have h2 := bulk_each l ds (by simpa using h) fun i a d hi hd => hk (i + 1) a d (by simpa using hi) (by simpa using hd)
    simp only [List.map_cons, List.sum_cons, Rows.uptoBulkAll]
    omega

theorem read_bytes {n : Nat} {cs : List Value} {x : DataW H × List MemPlace} (h : Trd enc w n 24 cs x) : ∃ l : List UInt8, BrL w cs [byP l] ∧ l.length ≤ maxLen ∧ l.length + 1 ≤ Rows.uptoBulk x.1 := by
  obtain ⟨l, h1, h2, h3⟩ := br_bytes Tryz.underlying24 Tryz.underlying5 cells5 h
  refine ⟨l, h1, h2, ?_⟩
  rcases h3 with ⟨h3, rfl⟩ | ⟨ds, rest, h3, h4⟩
  · rw [h3]; simp [Rows.uptoBulk]
  · rw [h3]
    have := bulk_len ds
    simp only [Rows.uptoBulk]
    omega

/-- A bound's cells. -/
theorem read_bound {n : Nat} {c0 c1 c2 : Value} {x : DataW H × List MemPlace} (h : Trd enc w n 30 [c0, c1, c2] x) : ∃ (i o : Bool) (a : List UInt8), BrL w [c0, c1, c2] [boP i, boP o, byP a] ∧ a.length ≤ maxLen ∧ a.length + 1 ≤ Rows.uptoBulk x.1 := by
  obtain ⟨xs, m, rfl, rfl, hl, hx, hf⟩ := DataW.trod_struct Tryz.underlying30 h
  match xs, hx with
  | [y0, y1, y2], _ =>
    have f0 := hf 0 (fld "Is" 4 0 0) rfl
    have f1 := hf 1 (fld "Open" 4 1 1) rfl
    have f2 := hf 2 (fld "At" 24 2 8) rfl
    simp only [fld, cells4, cells24, List.drop_zero, List.take_succ_cons, List.take_zero, List.drop_succ_cons, List.getElem?_cons_zero, List.getElem?_cons_succ] at f0 f1 f2
    obtain ⟨i, b0, _⟩ := br_bool Tryz.underlying4 f0
    obtain ⟨o, b1, _⟩ := br_bool Tryz.underlying4 f1
    obtain ⟨a, b2, h3, h4⟩ := read_bytes f2
    refine ⟨i, o, a, ⟨b0.1, b1.1, b2.1, trivial⟩, h3, ?_⟩
    simp only [List.map_cons, List.map_nil, Rows.uptoBulk, Rows.uptoBulkAll]
    omega

mutual
/-- How much a tag holds. -/
def Tg.bulk : Tg → Nat
  | .mk kind data kids o i1 o1 a1 i2 o2 a2 => 1 + data.length + a1.length + a2.length + bulkL kids
def bulkL : List Tg → Nat
  | [] => 0
  | t :: r => t.bulk + bulkL r
end
theorem bulkL_sum : ∀ l : List Tg, bulkL l = (l.map Tg.bulk).sum
  | [] => rfl
  | t :: r => by rw [bulkL, bulkL_sum r]; rfl

theorem ok_of_bulk (t : Tg) : t.bulk < 2 ^ 62 → t.ok := by
  induction h : t.bulk using Nat.strongRecOn generalizing t with
  | _ n ih =>
    intro hn
    obtain ⟨kind, data, kids, o, i1, o1, a1, i2, o2, a2⟩ := t
    simp only [Tg.bulk] at h
    have hl : ∀ l : List Tg, l.length ≤ bulkL l := fun l => by
      induction l with
      | nil => simp [bulkL]
      | cons x l ih =>
        obtain ⟨kind, data, kids, o, i1, o1, a1, i2, o2, a2⟩ := x
        simp only [bulkL, Tg.bulk, List.length_cons]; omega
    have hm : ∀ l : List Tg, ∀ x ∈ l, x.bulk ≤ bulkL l := fun l => by
      induction l with
      | nil => intro x hx; simp at hx
      | cons y l ih =>
        intro x hx
        simp only [bulkL]
        rcases List.mem_cons.1 hx with rfl | hx
        · omega
        · have := ih x hx; omega
    refine .mk ?_ fun x hx => ?_
    · have := hl kids; omega
    · have := hm kids x hx
      exact ih x.bulk (by omega) x rfl (by omega)

theorem weigh_mem {e : TypeId} : ∀ {l : List (DataW H)} {d : DataW H}, d ∈ l → ∀ n, n ∈ DataW.weights Tryz.prog e d → n ∈ DataW.weightsAll Tryz.prog e l
  | [], d, h, n, hn => by simp at h
  | x :: l, d, h, n, hn => by
    rw [DataW.weightsAll, List.mem_append]
    rcases List.mem_cons.1 h with rfl | h
    · exact .inl hn
    · exact .inr (weigh_mem h n hn)

/-- A tag; its bulk; it is right where no slice is longer than memory. -/
theorem read_tag : ∀ (n : Nat) {cs : List Value} {x : DataW H × List MemPlace}, Trd enc w n 34 cs x → ∃ t : Tg, BrL w cs t.cells ∧ t.bulk ≤ Rows.uptoBulk x.1 ∧ ((∀ n ∈ DataW.weights Tryz.prog 34 x.1, n ≤ reachBytes) → t.ok) := by
  intro n
  induction n using Nat.strongRecOn with
  | _ n ih =>
    intro cs x h
    obtain ⟨xs, m, rfl, rfl, hl, hx, hf⟩ := DataW.trod_struct Tryz.underlying34 h
    rw [cells34] at hl
    match xs, hx, cs, hl with
    | [y0, y1, y2, y3], _, [c0, c1, c2, c3, c4, c5, c6, c7, c8, c9], _ =>
      have f0 := hf 0 (fld "Kind" 5 0 0) rfl
      have f1 := hf 1 (fld "Data" 24 1 8) rfl
      have f2 := hf 2 (fld "Kids" 22 2 32) rfl
      have f3 := hf 3 (fld "Range" 32 3 56) rfl
      simp only [fld, cells5, cells24, cells22, cells32, List.drop_zero, List.take_succ_cons, List.take_zero, List.drop_succ_cons, List.getElem?_cons_zero, List.getElem?_cons_succ, List.take_nil] at f0 f1 f2 f3
      obtain ⟨kind, b0, _⟩ := br_u8 Tryz.underlying5 f0
      obtain ⟨data, b1, e1, e2⟩ := read_bytes f1
      obtain ⟨kids, b2, k1, k2⟩ := br_slice Tryz.underlying22 cells34 cells_len (R := fun (a : Tg) d => a.bulk ≤ Rows.uptoBulk d ∧ ((∀ n ∈ DataW.weights Tryz.prog 34 d, n ≤ reachBytes) → a.ok)) f2 (fun m' cs' y hm hy => by
        obtain ⟨t, h1, h2, h3⟩ := ih m' (by omega) hy
        exact ⟨t, h1, h2, h3⟩)
      obtain ⟨zs, m2, rfl, rfl, hl2, hz, hg⟩ := DataW.trod_struct Tryz.underlying32 f3
      match zs, hz with
      | [z0, z1, z2], _ =>
        have g0 := hg 0 (fld "Order" 5 0 0) rfl
        have g1 := hg 1 (fld "Lo" 30 1 8) rfl
        have g2 := hg 2 (fld "Hi" 30 4 40) rfl
        simp only [fld, cells5, cells30, List.drop_zero, List.take_succ_cons, List.take_zero, List.drop_succ_cons, List.getElem?_cons_zero, List.getElem?_cons_succ, List.take_nil] at g0 g1 g2
        obtain ⟨ord, r0, _⟩ := br_u8 Tryz.underlying5 g0
        obtain ⟨i1, o1, a1, r1, q1, q2⟩ := read_bound g1
        obtain ⟨i2, o2, a2, r2, q3, q4⟩ := read_bound g2
        refine ⟨.mk kind data kids ord i1 o1 a1 i2 o2 a2, ?_, ?_, fun hw => ?_⟩
        · rw [cells_mk]
          exact ⟨b0.1, b1.1, b2.1, r0.1, r1.1, r1.2.1, r1.2.2.1, r2.1, r2.2.1, r2.2.2.1, trivial⟩
        · have hk : bulkL kids ≤ Rows.uptoBulk y2.1 := by
            rcases k2 with ⟨k2, rfl⟩ | ⟨ds, rest, k2, k3, k4⟩
            · simp [bulkL]
            · rw [k2, bulkL_sum]
              have := bulk_each kids ds k3 fun i a d hi hd => (k4 i a d hi hd).1
              simp only [Rows.uptoBulk]
              omega
          have h5 := bulk_one y0.1
          simp only [Tg.bulk, List.map_cons, List.map_nil, Rows.uptoBulk, Rows.uptoBulkAll]
          omega
        · have hw2 : ∀ n ∈ DataW.weights Tryz.prog 22 y2.1, n ≤ reachBytes := fun n hn => hw n (by
            rw [DataW.weights, Tryz.underlying34]
            show n ∈ DataW.weightsEach Tryz.prog [5, 24, 22, 32] _
            simp only [List.map_cons, DataW.weightsEach, List.mem_append]
            exact .inr (.inr (.inl hn)))
          rcases k2 with ⟨k2, rfl⟩ | ⟨ds, rest, k2, k3, k4⟩
          · exact .mk (by decide) (fun a ha => by simp at ha)
          · rw [k2] at hw2
            have hwe : DataW.weights Tryz.prog 22 (.slice ds rest) = (ds.length + rest.length) * Tryz.prog.bytesOf 34 :: (DataW.weightsAll Tryz.prog 34 ds ++ DataW.weightsAll Tryz.prog 34 rest) := by
              rw [DataW.weights, Tryz.underlying22]
            rw [hwe] at hw2
            have hby : Tryz.prog.bytesOf 34 = 128 := by kernel_rfl
            have h6 := hw2 _ List.mem_cons_self
            rw [hby] at h6
            have h7 : reachBytes < 2 ^ 62 := by decide
            refine .mk (by omega) fun a ha => ?_
            obtain ⟨i, hi⟩ := List.getElem?_of_mem ha
            have hlt := (List.getElem?_eq_some_iff.1 hi).1
            refine (k4 i a ds[i] hi (List.getElem?_eq_getElem (by omega))).2 fun n hn => hw2 n (List.mem_cons_of_mem _ (List.mem_append_left _ (weigh_mem (List.getElem_mem _) n hn)))
end
end Go.Proofs.YthglfhnlolefhaaGreatDoor
