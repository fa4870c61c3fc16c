/- Own framework, part 28: small laws for symbolic runs. -/
import Derived.Test.YthglfhnlolefhaaGreatDoorAbsTop
import Derived.Laws.BitsLemmas
set_option linter.unusedVariables false
set_option linter.unusedSimpArgs false
namespace Go.Abs
abbrev byP (l : List UInt8) : Go.Abs.P := .sl l.length (bytesP l)
abbrev byD (l : List UInt8) : D := .c (byP l)
abbrev boP (b : Bool) : Go.Abs.P := .v (.bool b)
abbrev boD (b : Bool) : D := .c (boP b)
theorem unBytes_bytesP (l : List UInt8) : unBytes (bytesP l) = some l := by
  induction l with
  | nil => rfl
  | cons x l ih =>
    simp only [unBytes, bytesP, List.map_cons, mapO, byteP, unByte] at ih ⊢
    rw [ih]
    simp
theorem bytesP_length (l : List UInt8) : (bytesP l).length = l.length := by simp [bytesP]
theorem toList_mk (l : List UInt8) : (⟨l.toArray⟩ : ByteArray).toList = l := by rw [ByteArray.toList_eq]
theorem b_ff : (false == false) = true := rfl
theorem b_ft : (false == true) = false := rfl
theorem b_tf : (true == false) = false := rfl
theorem b_tt : (true == true) = true := rfl
theorem frz_cells (l : List P) : frzL (l.map .c) = l.map .c := by
  rw [frzL_map, List.map_map]; rfl
theorem closed_cells (l : List P) : closedL (l.map .c) = true := by
  rw [closedL_all, List.all_map]; exact List.all_eq_true.2 fun _ _ => rfl
theorem mkV_true (l : List D) : mkV true l = some (.ag l) := by
  unfold mkV; split <;> rfl
theorem mkV_false (x : D) : mkV false [x] = some x := rfl
theorem qo_s (d : D) : qo (some d) = some (.q d) := rfl
theorem setAt_all : ∀ {m l : List D}, l.length = m.length → setAt m 0 l = l
  | [], [], _ => rfl
  | [], y :: ys, h => by simp at h
  | x :: m, [], h => by simp at h
  | x :: m, y :: ys, h => by
    simp only [setAt]
    rw [setAt_all (by simpa using h)]
theorem gt0 {α : Type} (V l : List α) : (V ++ l)[V.length]? = l[0]? := by rw [List.getElem?_append_right (Nat.le_refl _), Nat.sub_self]
theorem gtk {α : Type} (V l : List α) (k : Nat) : (V ++ l)[V.length + k]? = l[k]? := by rw [List.getElem?_append_right (by omega), Nat.add_sub_cancel_left]
theorem st0 {α : Type} (V l : List α) (x : α) : (V ++ l).set V.length x = V ++ l.set 0 x := by rw [List.set_append_right _ _ (Nat.le_refl _), Nat.sub_self]
theorem stk {α : Type} (V l : List α) (k : Nat) (x : α) : (V ++ l).set (V.length + k) x = V ++ l.set k x := by rw [List.set_append_right _ _ (by omega), Nat.add_sub_cancel_left]

theorem wrap_i64 {n : Int} {m : Nat} (h : n = m) (hm : m < 2 ^ 63) : IntKind.i64.wrap n = (m : Int) := by
  rw [IntKind.wrap_i64]; omega
/-- A branch, by its condition's value. -/
def condE (orc : Orc) (F : FuncId → Option AFn) (v : D) (a b : ACode) (s : St) (Q : Out → St → Prop) : Prop :=
  match v with
  | .c (.v (.bool true)) => Ex orc F a s Q
  | .c (.v (.bool false)) => Ex orc F b s Q
  | _ => False
theorem Ex_cond' {orc : Orc} {F : FuncId → Option AFn} {Q : Out → St → Prop} {s : St} {c : Opd} {a b : ACode} : Ex orc F (.cond c a b) s Q ↔ condE orc F (ev s.e c) a b s Q := by
  by_cases h : ∃ t, ev s.e c = .c (.v (.bool t))
  · obtain ⟨t, h⟩ := h
    rw [Ex_cond h, h]
    cases t <;> simp [condE]
  · constructor
    · rintro ⟨n, o, s', hn, q⟩
      cases n with
      | zero => simp [execN] at hn
      | succ n =>
        rw [execN_succ] at hn
        simp only [execC] at hn
        split at hn
        · rename_i t ht; exact absurd ⟨t, ht⟩ h
        · simp at hn
    · intro hx
      unfold condE at hx
      split at hx
      · rename_i ht; exact absurd ⟨_, ht⟩ h
      · rename_i ht; exact absurd ⟨_, ht⟩ h
      · exact hx.elim
theorem condE_true {orc : Orc} {F : FuncId → Option AFn} {Q : Out → St → Prop} {s : St} {a b : ACode} : condE orc F (.c (.v (.bool true))) a b s Q = Ex orc F a s Q := rfl
theorem condE_false {orc : Orc} {F : FuncId → Option AFn} {Q : Out → St → Prop} {s : St} {a b : ACode} : condE orc F (.c (.v (.bool false))) a b s Q = Ex orc F b s Q := rfl
/-- Element i of a row of elements of so many cells. -/
theorem seg_at {α : Type} {c : α → List P} {k : Nat} (hc : ∀ x, (c x).length = k) : ∀ {l : List α} {i : Nat} {x : α}, l[i]? = some x → ((l.flatMap c).drop (i * k)).take k = c x ∧ k ≤ ((l.flatMap c).drop (i * k)).length
  | [], i, x, h => by simp at h
  | y :: l, 0, x, h => by
    simp only [List.getElem?_cons_zero, Option.some.injEq] at h
    subst h
    rw [Nat.zero_mul, List.drop_zero, List.flatMap_cons, ← hc y, List.take_left']
    · exact ⟨rfl, by simp⟩
    · rfl
  | y :: l, i + 1, x, h => by
    have h' : l[i]? = some x := by simpa using h
    have := seg_at hc h'
    rw [List.flatMap_cons, Nat.add_mul, Nat.one_mul, Nat.add_comm, ← List.drop_drop]
    have e : ((c y ++ l.flatMap c).drop k) = l.flatMap c := by rw [← hc y, List.drop_left']; rfl
    rw [e]
    exact this
end Go.Abs
