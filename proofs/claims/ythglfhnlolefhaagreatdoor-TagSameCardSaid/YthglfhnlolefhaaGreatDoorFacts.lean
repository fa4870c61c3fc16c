/- Own: the row's closed facts, one by one. -/
import Derived.Test.YthglfhnlolefhaaGreatDoorCards
import Derived.JoinedCond
set_option maxRecDepth 100000
set_option linter.unusedVariables false
namespace Go.Proofs.YthglfhnlolefhaaGreatDoor
open Go
theorem and_mk {a b : Bool} (ha : a = true) (hb : b = true) : (a && b) = true := by rw [ha, hb]; rfl
theorem fact_1 : (laidOutB Tryz.prog) = true := by kernel_rfl
theorem fact_2 : (mapsRowed Tryz.prog) = true := by kernel_rfl
theorem fact_6 : (Tryz.prog.stops == []) = true := by kernel_rfl
theorem fact_8 : (Tryz.prog.stopKnobs == []) = true := by kernel_rfl
theorem fact_24 : (Tryz.prog.stopsHeard) = true := by kernel_rfl
theorem fact_25 : (Tryz.prog.mayEnter) = true := by kernel_rfl
theorem tagSame_fact0 : (Rows.tagSameRow.wf (OpenSpec.ofChange Rows.tagSameSpec)) = true := by kernel_rfl
theorem tagSame_fact3 : (Tryz.f4.params.all (Tryz.prog.readableRec ·)) = true := by kernel_rfl
theorem tagSame_fact4 : (namedTie Tryz.prog Rows.tagSameRow.named (Rows.tagSameSpec).vars) = true := by kernel_rfl
theorem tagSame_fact5 : (Rows.tagSameRow.stops == []) = true := by kernel_rfl
theorem tagSame_fact7 : (Rows.tagSameRow.knobs == []) = true := by kernel_rfl
theorem tagSame_fact9 : (Rows.tagSameRow.inPlace == Tryz.prog.inPlace 4) = true := by kernel_rfl
theorem tagSame_fact10 : (Rows.tagSameRow.unfollowed == Tryz.prog.unfollowed 4) = true := by kernel_rfl
theorem tagSame_fact11 : (Rows.tagSameRow.recurses == Tryz.prog.recurses 4) = true := by kernel_rfl
theorem tagSame_fact12 : (Rows.tagSameRow.named == Tryz.prog.varsNamed 4) = true := by kernel_rfl
theorem tagSame_fact13 : (Rows.tagSameRow.maps == (Tryz.f4.params.toList ++ (Rows.tagSameSpec).plain.varTypes Tryz.prog).any (Tryz.prog.mapsRec ·)) = true := by kernel_rfl
theorem tagSame_fact14 : (Rows.tagSameRow.ifaces == (Tryz.f4.params.toList ++ (Rows.tagSameSpec).plain.varTypes Tryz.prog).any (Tryz.prog.ifacesRec ·)) = true := by kernel_rfl
theorem tagSame_fact15 : (Rows.tagSameRow.mapsOut == Tryz.prog.mapsAmong Tryz.f4.resultTypes.toList) = true := by kernel_rfl
theorem tagSame_fact16 : (Rows.tagSameRow.loops == (Tryz.f4.params.toList ++ (Rows.tagSameSpec).plain.varTypes Tryz.prog).any (Tryz.prog.loopsFrom ·)) = true := by kernel_rfl
theorem tagSame_fact17 : (Rows.tagSameRow.wideKeys == (Tryz.f4.params.toList ++ (Rows.tagSameSpec).plain.varTypes Tryz.prog ++ Tryz.f4.resultTypes.toList).any (Tryz.prog.wideKeysFrom ·)) = true := by kernel_rfl
theorem tagSame_fact18 : ((Rows.tagSameSpec).vars.all (Tryz.prog.varReadable ·)) = true := by kernel_rfl
theorem tagSame_fact19 : (Tryz.f4.resultTypes.all (fun t => Tryz.prog.readableRec t && decide (t < Tryz.prog.types.size))) = true := by kernel_rfl
theorem tagSame_fact20 : (Rows.tagSameRow.ifacesOut == Tryz.f4.resultTypes.toList.any (Tryz.prog.ifacesRec ·)) = true := by kernel_rfl
theorem tagSame_fact21 : (Rows.tagSameRow.loopsOut == Tryz.f4.resultTypes.toList.any (Tryz.prog.loopsFrom ·)) = true := by kernel_rfl
theorem tagSame_fact22 : (Rows.tagSameRow.plainKeys == Tryz.prog.plainKeys) = true := by kernel_rfl
theorem tagSame_fact23 : (Rows.tagSameRow.shortTexts.isNone) = true := by kernel_rfl
theorem tagSame_fact26 : (Rows.tagSameRow.lifted == Tryz.prog.liftsFinal) = true := by kernel_rfl
theorem tagSame_fact27 : (Tryz.prog.make == some Rows.tagSameRow.make) = true := by kernel_rfl
theorem tagSame_fact28 : (Rows.tagSameRow.kinds == (if Rows.tagSameRow.domain.isEmpty then [] else Tryz.f4.params.toList.map fun t => match Tryz.prog.underlying t with | some (.int k) => some k | _ => none)) = true := by kernel_rfl
theorem tagSame_fact29 : (Rows.tagSameRow.pinned == Rows.tagSameRow.pinnedBy) = true := by kernel_rfl
theorem tagSame_fact30 : (Rows.tagSameRow.veiled == (Tryz.f4.params.toList ++ (Rows.tagSameSpec).plain.varTypes Tryz.prog ++ Tryz.f4.resultTypes.toList).any (Tryz.prog.veiledRec ·)) = true := by kernel_rfl
theorem tagSame_fact31 : (Rows.tagSameRow.veiledFits Tryz.prog Tryz.f4.params.toList (Tryz.f4.params.toList ++ (Rows.tagSameSpec).plain.varTypes Tryz.prog ++ Tryz.f4.resultTypes.toList)) = true := by kernel_rfl
theorem tagSame_facts : joinedFacts Tryz.pinned.checked.prog 4 Tryz.f4 (Rows.tagSameSpec) Rows.tagSameRow = true := by
  unfold joinedFacts
  exact and_mk (and_mk (and_mk (and_mk (and_mk (and_mk (and_mk (and_mk (and_mk (and_mk (and_mk (and_mk (and_mk (and_mk (and_mk (and_mk (and_mk (and_mk (and_mk (and_mk (and_mk (and_mk (and_mk (and_mk (and_mk (and_mk (and_mk (and_mk (and_mk (and_mk (and_mk tagSame_fact0 fact_1) fact_2) tagSame_fact3) tagSame_fact4) tagSame_fact5) fact_6) tagSame_fact7) fact_8) tagSame_fact9) tagSame_fact10) tagSame_fact11) tagSame_fact12) tagSame_fact13) tagSame_fact14) tagSame_fact15) tagSame_fact16) tagSame_fact17) tagSame_fact18) tagSame_fact19) tagSame_fact20) tagSame_fact21) tagSame_fact22) tagSame_fact23) fact_24) fact_25) tagSame_fact26) tagSame_fact27) tagSame_fact28) tagSame_fact29) tagSame_fact30) tagSame_fact31
end Go.Proofs.YthglfhnlolefhaaGreatDoor
