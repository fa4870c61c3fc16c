/- greffierlaw12.TagSame holds: whether any two tags are the same is the document's. No condition of our own. -/
import Derived.Test.YthglfhnlolefhaaGreatDoorAwake
import Derived.Test.YthglfhnlolefhaaGreatDoorPost
import Derived.Test.YthglfhnlolefhaaGreatDoorFacts
set_option maxRecDepth 100000
set_option linter.unusedVariables false
namespace Go.Proofs.YthglfhnlolefhaaGreatDoor
open Go.ChangeShapes Go.WideShapes Go.ChangeAt Go.RowKit Go.Abs

/-- WHAT THE RUN GIVES, for every argument. -/
theorem tagSame_contract (H : Type) (enc : TypeId × Value → H) (W : World) (base : Nat) (args : Array Value) (ds gs : List (DataW H)) (before : List MemPlace)
    (hval : ∀ (j : Nat) t v, Tryz.f4.params[j]? = some t → args[j]? = some v → Value.okWide Tryz.prog W .any base t v)
    (hW : DataW.Whole enc Tryz.prog Tryz.f4.params.toList Rows.tagSameSpec.vars false W args.toList ds gs before) (hz : ∀ n ∈ DataW.weightsEach Tryz.prog Tryz.f4.params.toList ds, n ≤ reachBytes) :
    Calls Tryz.prog 4 args W fun e W' => ∃ v, e = .returned v ∧ Rows.tagSameSpec.post enc Tryz.prog Tryz.f4 false true false false W args v W' := by
  have hW' := hW
  obtain ⟨p, q, hA0, hV, rfl, hfz, hnd⟩ := hW
  have hA : DataW.TrodAll enc Tryz.prog W 0 (fun _ => true) true Tryz.f4.params.toList args.toList ds p := hA0
  rw [Tryz.params4] at hA hval hz
  obtain ⟨v0, vs0, d0, ds0, p0, q0, hargs, rfl, rfl, h0, r0⟩ := trodAll_cons hA
  obtain ⟨v1, vs1, d1, ds1, p1, q1, hargs1, rfl, rfl, h1, r1⟩ := trodAll_cons r0
  obtain ⟨rfl, rfl, rfl⟩ := trodAll_nil r1
  subst hargs1
  obtain rfl : args = #[v0, v1] := by cases args; simp_all
  obtain ⟨rfl, rfl⟩ := trodVars_none hV
  obtain ⟨a, ra, _, oa⟩ := arg_tag (hval 0 34 v0 rfl rfl) h0
  obtain ⟨b, rb, _, ob⟩ := arg_tag (hval 1 34 v1 rfl rfl) h1
  have ha : a.ok := oa fun n hn => hz n (by show n ∈ DataW.weightsEach _ [34, 34] [d0, d1]; simp only [DataW.weightsEach, List.mem_append]; exact .inl hn)
  have hb : b.ok := ob fun n hn => hz n (by show n ∈ DataW.weightsEach _ [34, 34] [d0, d1]; simp only [DataW.weightsEach, List.mem_append]; exact .inr (.inl hn))
  have hrun := law_ok orcB_ok mixed (run4 awake12 a b ha hb) (w := W) (I := oldI W) (fun b o h => h) (cargs := #[v0, v1]) ⟨rfl, fun i hi => by
    match i, hi with
    | 0, _ => exact ra
    | 1, _ => exact rb⟩
  clear hA0
  simp only [List.append_nil] at hW'
  refine hrun.mono fun e W' ⟨he, hbl⟩ => ?_
  subst he
  have hlt := fun p hp => hW'.lt p hp
  exact ⟨_, rfl, post_below hW' hbl (fun _ _ _ => trodAll_cons_mk (shut_bool Tryz.underlying4 _) trodAll_mk0)
    (fun sp hs => trodAll_mk2 (reads_on (by kernel_rfl) (by decide +kernel) h0 hbl (fun x hx => hlt x (by simp [hx])) sp (fun x hx => hs x (by simp [hx]))) (reads_on (by kernel_rfl) (by decide +kernel) h1 hbl (fun x hx => hlt x (by simp [hx])) sp (fun x hx => hs x (by simp [hx]))))
    rfl rfl (ok_one (by kernel_rfl) rfl (okWide_bool_mk Tryz.underlying4 _))⟩


/-! ### the row -/
abbrev zTagV : Value := .agg #[.int .u8 0, .slice none 0 0, .slice none 0 0, .int .u8 0, .bool false, .bool false, .slice none 0 0, .bool false, .bool false, .slice none 0 0]
abbrev zTagD {H : Type} : DataW H := .agg [.lit (.int .u8 0), .nil, .nil, .agg [.lit (.int .u8 0), .agg [.lit (.bool false), .lit (.bool false), .nil], .agg [.lit (.bool false), .lit (.bool false), .nil]]]
theorem tagSame_reads (os : Os) {H : Type} (enc : TypeId × Value → H) : ∃ places, DataW.whole enc Tryz.prog ((laidWorld os).forCall (fun _ _ => 0) ⟨#[], #[zTagV, zTagV], []⟩).memory Tryz.f4.params.toList Rows.tagSameSpec.vars false #[zTagV, zTagV].toList 8 = some ([zTagD, zTagD], [], places) :=
  ⟨[], by kernel_rfl⟩

theorem tagSame_lifted (os : Os) (started : os.Started) (H : Type) (enc : TypeId × Value → H) (F : Stop.Interp) :
    ReturnsInHanded {} Tryz.checked os 4 .any ((OpenSpec.ofChange Rows.tagSameSpec).preRow enc Tryz.prog Tryz.f4 Rows.tagSameRow.domain false Rows.tagSameRow.laid) (((OpenSpec.ofChange Rows.tagSameSpec).at F).post enc Tryz.prog Tryz.f4 false true false false) := by
  obtain ⟨places, hx⟩ := tagSame_reads os enc
  refine returnsInHanded_of_row (C := Tryz.checked) (s := OpenSpec.ofChange Rows.tagSameSpec) own started (by kernel_rfl) Tryz.func4
    (witness_row_at (enc := enc) (C := Tryz.checked) false (laidWorld os) #[zTagV, zTagV] rfl (by kernel_rfl) (by kernel_rfl) (by kernel_rfl)
      (OpenSpec.preRow_of_cond 8 hx (by kernel_rfl) (fun k hk => by cases hk) (by kernel_rfl) (laid_all os _))) ?_
  intro W base args ds gs before hval hW _ _ hz hL _ _
  refine tagSame_contract H enc W base args ds gs before hval hW fun n hn => ?_
  have hz2 := List.all_eq_true.1 hz n (by
    rw [show gs = [] by obtain ⟨_, _, _, hV, _⟩ := hW; exact (trodVars_none hV).1, List.append_nil]
    exact hn)
  simpa using hz2

theorem tagSame_named : Tryz.pinned.checked.prog.funcNamed Rows.tagSameRow.func = some 4 := by kernel_rfl
theorem tagSame_said : Rows.TagSameSaid :=
  OpenClaim.holds_of_cond 4 Tryz.f4 rfl rfl rfl rfl rfl rfl rfl ⟨rfl, rfl, rfl, rfl, rfl⟩ rfl rfl rfl rfl rfl tagSame_named Tryz.func4 tagSame_facts
    (of_decide_eq_true (by kernel_rfl)) (by unfold Func.isWrapper; first | (rw [if_pos (by decide +kernel)]; kernel_rfl) | (rw [if_neg (by decide +kernel)]; exact ⟨rfl, rfl⟩))
    (fun os started H enc _ F => by rw [OpenClaim.pre_eq_preRow]; exact tagSame_lifted os started H enc F)

theorem tagSame_plain (f : FuncId) (fn : Func) (hf : Tryz.pinned.checked.prog.funcNamed Rows.tagSameRow.func = some f) (hfn : Tryz.pinned.checked.prog.funcs[f]? = some fn) :
    true = Tryz.pinned.checked.prog.looks [] ∧ ∀ (j : Nat) t, fn.params[j]? = some t → Tryz.pinned.checked.prog.wantsStandIn t = false := by
  obtain rfl : f = 4 := Option.some.inj (tagSame_named.symm.trans hf) |>.symm
  obtain rfl : fn = Tryz.f4 := (Option.some.inj (Tryz.func4.symm.trans hfn)).symm
  refine ⟨by kernel_rfl, fun j t ht => ?_⟩
  rw [Tryz.params4] at ht
  obtain rfl : t = 34 := by simpa using Array.mem_of_getElem? ht
  exact (show Tryz.prog.wantsStandIn 34 = false by kernel_rfl)

theorem tagSame_holds : Rows.TagSameCardSaid :=
  Claim7.holds_tied_plain_at .later [] _ _ _ _ tagSame_said (fun _ h => by cases h) (by kernel_rfl) (fun _ h => by cases h) tagSame_row_tie rfl ⟨rfl, rfl⟩ (by kernel_rfl) rfl tagSame_plain (by kernel_rfl)
end Go.Proofs.YthglfhnlolefhaaGreatDoor
