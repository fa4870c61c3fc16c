/- Own: what is left behind a call that turns no old memory; the world that lays the listed tables; what all laws of this seat share. -/
import Derived.Test.YthglfhnlolefhaaGreatDoorReadTag
import Derived.Test.YthglfhnlolefhaaGreatDoorCards
import Derived.Test.YthglfhnlolefhaaGreatDoorTie
import Derived.WalkKit
import Derived.ProofKit
import Derived.OpenShut
import Derived.Carry
import Derived.Deep.DeepHandedRow
import Derived.Lib.LaidTab
set_option maxRecDepth 100000
set_option linter.unusedVariables false
namespace Go.Proofs.YthglfhnlolefhaaGreatDoor
open Go.ChangeShapes Go.WideShapes Go.ChangeAt Go.RowKit Go.Abs

theorem own : ownKnob Tryz.prog.godebug = none := by kernel_rfl
theorem laidOutT : laidOutB Tryz.prog = true := by kernel_rfl

section
variable {H : Type} {enc : TypeId × Value → H}
/-- An argument reads behind the call as it did, whatever is spared. -/
theorem reads_on {t : TypeId} (hr : Tryz.prog.readableRec t = true) (hrow : t < Tryz.prog.types.size) {W W' : World} {v : Value} {d : DataW H} {ps : List MemPlace} (h : DataW.Trod enc Tryz.prog W 0 (fun _ => true) true t v d ps) (hb : Below W.heap.size W W')
    (hlt : ∀ x ∈ ps, x.block < W.heap.size) (sp : Nat → Bool) (hs : ∀ x ∈ ps, sp x.block = true) : DataW.Trod enc Tryz.prog W' 0 sp true t v d ps :=
  WideElems.Trod_stays laidOutT hr hrow h (fun x hx => hb.same (hlt x hx)) hs

/-- A tag as an argument. -/
theorem arg_tag {W : World} {base : Nat} {v : Value} {d : DataW H} {ps : List MemPlace} (hv : Value.okWide Tryz.prog W .any base 34 v) (h : DataW.Trod enc Tryz.prog W 0 (fun _ => true) true 34 v d ps) :
    ∃ t : Tg, RepD W ⟨W.heap.size, [], [], oldI W⟩ [] v (.ag (t.cells.map .c)) ∧ t.bulk ≤ Rows.uptoBulk d ∧ ((∀ n ∈ DataW.weights Tryz.prog 34 d, n ≤ reachBytes) → t.ok) := by
  obtain ⟨n, hn⟩ := h
  obtain ⟨cs, rfl, hcs⟩ := okWide_struct Tryz.underlying34 hv
  obtain ⟨t, h1, h2, h3⟩ := read_tag n hn
  have hr := h1.rep (g := ⟨W.heap.size, [], [], oldI W⟩) (T := []) rfl
  refine ⟨t, .ag (by simpa [Value.cells] using hr.1) (fun i hi => by rw [List.getElem_map]; rfl) (fun i hi => by simpa [Value.cells] using hr.2 i hi), h2, h3⟩
end

/-- What is left behind a call that turns no old memory, where the specification hands the arguments back. -/
theorem post_below {H : Type} {enc : TypeId × Value → H} {f : Func} {s : ChangeSpec} {apart fresh handsOn again : Bool} {W W' : World} {args : Array Value} {v : Value} {ds gs : List (DataW H)} {before : List MemPlace}
    (hW : DataW.Whole enc Tryz.prog f.params.toList s.vars apart W args.toList ds gs before) (hb : Below W.heap.size W W')
    (hres : ∀ (b : Nat) (sp : Nat → Bool) (hd : Bool), DataW.TrodAll enc Tryz.prog W' b sp hd f.resultTypes.toList (v.resultList f.resultTypes.size) (s.fn H (ds ++ gs)).results [])
    (hargs : ∀ sp : Nat → Bool, (∀ p ∈ before, sp p.block = true) → DataW.TrodAll enc Tryz.prog W' 0 sp true f.params.toList args.toList (s.fn H (ds ++ gs)).args before)
    (hvars : s.vars = []) (hvars2 : (s.fn H (ds ++ gs)).vars = [])
    (hok : ∀ (j : Nat) (t : TypeId) (r : Value), f.resultTypes[j]? = some t → (v.resultList f.resultTypes.size)[j]? = some r → Value.okWide Tryz.prog W' .any 0 t r) :
    s.post enc Tryz.prog f apart fresh handsOn again W args v W' := by
  have hlt := hW.lt
  have hold : ∀ p ∈ before, (fun b => decide (b < W.heap.size)) p.block = true := fun p hp => by simpa using hlt p hp
  have hv : ∀ sp, DataW.TrodVars enc Tryz.prog W' sp s.vars (s.fn H (ds ++ gs)).vars [] := fun sp => by rw [hvars, hvars2]; rfl
  refine ⟨ds, gs, before, [], before, [], hW, hres _ _ _, hargs _ hold, hv _, World.keptBut_mono (fun p hp => ⟨hp, .inr (.inl hp)⟩) (hb.frame _), fun _ => ?_⟩
  obtain ⟨_, _, _, _, _, hz, hn⟩ := hW
  refine ⟨hok, _, _, ([] ++ before) ++ [], ⟨[] ++ before, [], trodAll_append (hargs _ (fun _ _ => rfl)) (hres _ _ _), hv _, rfl, ?_, ?_⟩, ?_⟩
  · intro b off hp
    have hp' : MemPlace.cell b off ∈ before := by simpa using hp
    rw [hb.frozen (p := ⟨b, off, none⟩) (show b < W.heap.size from hlt _ hp')]
    exact hz b off hp'
  · intro ha
    simpa using hn ha
  · intro p hp _
    simpa using hp

/-! ### the row -/
/-- A listed table's cells. -/
def flatD : DataW Unit → List Value
  | .lit (.int k n) => [.int k n]
  | .agg ps => flatA ps
  | _ => []
where flatA : List (DataW Unit) → List Value
  | [] => []
  | d :: r => flatD d ++ flatA r
/-- The settled world, with a table laid. -/
noncomputable def lay (w : World) (g : Nat) (d : DataW Unit) : World :=
  { w with heap := w.heap.modify g fun
      | .cells _ t frozen => .cells (flatD d).toArray t frozen
      | o => o }
noncomputable def laidWorld (os : Os) : World :=
  lay (lay (lay (lay (lay (World.holding Tryz.prog os ⟨#[], #[], []⟩) 2 Rows.laid_internal_strconv_uint64pow10) 3 Rows.laid_unicode_utf8_first) 4 Rows.laid_unicode_utf8_acceptRanges) 5 Rows.laid_math_bits_deBruijn32tab) 6 Rows.laid_math_bits_deBruijn64tab
theorem laid_all (os : Os) (args : Array Value) : laidMet Tryz.prog Rows.tagSameRow.laid ((laidWorld os).forCall (fun _ _ => 0) ⟨#[], args, []⟩).memory :=
  laidMet_of_run' 8 (by kernel_rfl) (by kernel_rfl)
end Go.Proofs.YthglfhnlolefhaaGreatDoor
