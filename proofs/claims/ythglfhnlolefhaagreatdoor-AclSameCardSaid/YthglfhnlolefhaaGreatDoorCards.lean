/-
  DERIVED. GIVEN WITH THE SEED: THE CARDS: each row of YthglfhnlolefhaaGreatDoorRows.lean that lists a variable, with what it lists TIED to the program's text (the seventh form; the later family's looks); each row that meets fmt, with fmt's text TOLD by the authors' own Lean function (tested against real Go, not proved from fmt's source: count such statements apart). THE CARD IS WHAT COUNTS. Prove the row's statement (the work); the ties are given (YthglfhnlolefhaaGreatDoorTie.lean); close each card by the builder's one call (the guide's Derived/Test/ToyasCard.lean, 'card_holds'). Laid BY PROGRAM, IN A SANDBOX (cutbox-door.mjs). By AI agents, Wed Nov 11 2026. No macro, syntax, notation, axiom, sorry.
-/
import Derived.Test.YthglfhnlolefhaaGreatDoorRows
import GoSem.ClaimSeven
namespace Go.Proofs.YthglfhnlolefhaaGreatDoor
namespace Rows

/-- THE TIED CARD OF 'greffierlaw12.TagLists'. -/
def tagListsCard : Claim7 := { stood := { row := tagListsRow, standIns := [], harness := (true, "1cb8857cad44b0fc01a0dedc6f6d685e0862ce258590783f739e34adfe182afd"), looks := true }, kinds := [], alts := [], laidByText := true, laidKinds := [.data, .data, .data, .data, .pinned], laidTests := true, laidLooks := .later }
def TagListsCardSaid : Prop := Claim7.holds Tryz.pinned (.plain (OpenSpec.ofChange tagListsSpec)) tagListsCard

/-- THE TIED CARD OF 'greffierlaw12.TagSame'. -/
def tagSameCard : Claim7 := { stood := { row := tagSameRow, standIns := [], harness := (true, "1cb8857cad44b0fc01a0dedc6f6d685e0862ce258590783f739e34adfe182afd"), looks := true }, kinds := [], alts := [], laidByText := true, laidKinds := [.data, .data, .data, .data, .pinned], laidTests := true, laidLooks := .later }
def TagSameCardSaid : Prop := Claim7.holds Tryz.pinned (.plain (OpenSpec.ofChange tagSameSpec)) tagSameCard

/-- THE TIED CARD OF 'greffierlaw12.TagRequests'. -/
def tagRequestsCard : Claim7 := { stood := { row := tagRequestsRow, standIns := [], harness := (true, "1cb8857cad44b0fc01a0dedc6f6d685e0862ce258590783f739e34adfe182afd"), looks := true }, kinds := [], alts := [], laidByText := true, laidKinds := [.data, .data, .data, .data, .pinned], laidTests := true, laidLooks := .later }
def TagRequestsCardSaid : Prop := Claim7.holds Tryz.pinned (.plain (OpenSpec.ofChange tagRequestsSpec)) tagRequestsCard

/-- THE TIED CARD OF 'greffierlaw12.TagWrites'. -/
def tagWritesCard : Claim7 := { stood := { row := tagWritesRow, standIns := [], harness := (true, "1cb8857cad44b0fc01a0dedc6f6d685e0862ce258590783f739e34adfe182afd"), looks := true }, kinds := [], alts := [], laidByText := true, laidKinds := [.data, .data, .data, .data, .pinned], laidTests := true, laidLooks := .later }
def TagWritesCardSaid : Prop := Claim7.holds Tryz.pinned (.plain (OpenSpec.ofChange tagWritesSpec)) tagWritesCard

/-- THE TIED CARD OF 'greffierlaw12.TagReads'. -/
def tagReadsCard : Claim7 := { stood := { row := tagReadsRow, standIns := [], harness := (true, "1cb8857cad44b0fc01a0dedc6f6d685e0862ce258590783f739e34adfe182afd"), looks := true }, kinds := [], alts := [], laidByText := true, laidKinds := [.data, .data, .data, .data, .pinned], laidTests := true, laidLooks := .later }
def TagReadsCardSaid : Prop := Claim7.holds Tryz.pinned (.plain (OpenSpec.ofChange tagReadsSpec)) tagReadsCard

/-- THE TIED CARD OF 'greffierlaw17.CertSame'. -/
def certSameCard : Claim7 := { stood := { row := certSameRow, standIns := [], harness := (true, "1cb8857cad44b0fc01a0dedc6f6d685e0862ce258590783f739e34adfe182afd"), looks := true }, kinds := [], alts := [], laidByText := true, laidKinds := [.data, .data, .data, .data, .pinned], laidTests := true, laidLooks := .later }
def CertSameCardSaid : Prop := Claim7.holds Tryz.pinned (.plain (OpenSpec.ofChange certSameSpec)) certSameCard

/-- THE TIED CARD OF 'greffierlaw17.CertOne'. -/
def certOneCard : Claim7 := { stood := { row := certOneRow, standIns := [], harness := (true, "1cb8857cad44b0fc01a0dedc6f6d685e0862ce258590783f739e34adfe182afd"), looks := true }, kinds := [], alts := [], laidByText := true, laidKinds := [.data, .data, .data, .data, .pinned], laidTests := true, laidLooks := .later }
def CertOneCardSaid : Prop := Claim7.holds Tryz.pinned (.plain (OpenSpec.ofChange certOneSpec)) certOneCard

/-- THE TIED CARD OF 'greffierlaw20.AclWrites'. -/
def aclWritesCard : Claim7 := { stood := { row := aclWritesRow, standIns := [], harness := (true, "1cb8857cad44b0fc01a0dedc6f6d685e0862ce258590783f739e34adfe182afd"), looks := true }, kinds := [], alts := [], laidByText := true, laidKinds := [.data, .data, .data, .data, .pinned], laidTests := true, laidLooks := .later }
def AclWritesCardSaid : Prop := Claim7.holds Tryz.pinned (.plain (OpenSpec.ofChange aclWritesSpec)) aclWritesCard

/-- THE TIED CARD OF 'greffierlaw20.AclReads'. -/
def aclReadsCard : Claim7 := { stood := { row := aclReadsRow, standIns := [], harness := (true, "1cb8857cad44b0fc01a0dedc6f6d685e0862ce258590783f739e34adfe182afd"), looks := true }, kinds := [], alts := [], laidByText := true, laidKinds := [.data, .data, .data, .data, .pinned], laidTests := true, laidLooks := .later }
def AclReadsCardSaid : Prop := Claim7.holds Tryz.pinned (.plain (OpenSpec.ofChange aclReadsSpec)) aclReadsCard

/-- THE TIED CARD OF 'greffierlaw20.AclFront'. -/
def aclFrontCard : Claim7 := { stood := { row := aclFrontRow, standIns := [], harness := (true, "1cb8857cad44b0fc01a0dedc6f6d685e0862ce258590783f739e34adfe182afd"), looks := true }, kinds := [], alts := [], laidByText := true, laidKinds := [.data, .data, .data, .data, .pinned], laidTests := true, laidLooks := .later }
def AclFrontCardSaid : Prop := Claim7.holds Tryz.pinned (.plain (OpenSpec.ofChange aclFrontSpec)) aclFrontCard

/-- THE TIED CARD OF 'greffierlaw20.AclSame'. -/
def aclSameCard : Claim7 := { stood := { row := aclSameRow, standIns := [], harness := (true, "1cb8857cad44b0fc01a0dedc6f6d685e0862ce258590783f739e34adfe182afd"), looks := true }, kinds := [], alts := [], laidByText := true, laidKinds := [.data, .data, .data, .data, .pinned], laidTests := true, laidLooks := .later }
def AclSameCardSaid : Prop := Claim7.holds Tryz.pinned (.plain (OpenSpec.ofChange aclSameSpec)) aclSameCard

/-- THE TIED CARD OF 'greffierlaw17.CertReads'. -/
def certReadsCard : Claim7 := { stood := { row := certReadsRow, standIns := [], harness := (true, "1cb8857cad44b0fc01a0dedc6f6d685e0862ce258590783f739e34adfe182afd"), looks := true }, kinds := [], alts := [], laidByText := true, laidKinds := [.data, .data, .data, .data, .pinned], laidTests := true, laidLooks := .later }
def CertReadsCardSaid : Prop := Claim7.holds Tryz.pinned (.plain (OpenSpec.ofChange certReadsSpec)) certReadsCard

/-- THE TIED CARD OF 'greffierlaw17.CertWrites'. -/
def certWritesCard : Claim7 := { stood := { row := certWritesRow, standIns := [], harness := (true, "1cb8857cad44b0fc01a0dedc6f6d685e0862ce258590783f739e34adfe182afd"), looks := true }, kinds := [], alts := [], laidByText := true, laidKinds := [.data, .data, .data, .data, .pinned], laidTests := true, laidLooks := .later }
def CertWritesCardSaid : Prop := Claim7.holds Tryz.pinned (.plain (OpenSpec.ofChange certWritesSpec)) certWritesCard

/-- THE SECOND FORM's CARD OF 'greffierlaw12.TagLists'. -/
def tagListsUptoCard : Claim7 := { stood := { row := tagListsUptoRow, standIns := [], harness := (true, "1cb8857cad44b0fc01a0dedc6f6d685e0862ce258590783f739e34adfe182afd"), looks := true }, kinds := [], alts := [], laidByText := true, laidKinds := [.data, .data, .data, .data, .pinned], laidTests := true, laidLooks := .later }
def TagListsUptoCardSaid : Prop := Claim7.holds Tryz.pinned (.plain (OpenSpec.upto tagListsSpec)) tagListsUptoCard

/-- THE SECOND FORM's CARD OF 'greffierlaw12.TagSame'. -/
def tagSameUptoCard : Claim7 := { stood := { row := tagSameUptoRow, standIns := [], harness := (true, "1cb8857cad44b0fc01a0dedc6f6d685e0862ce258590783f739e34adfe182afd"), looks := true }, kinds := [], alts := [], laidByText := true, laidKinds := [.data, .data, .data, .data, .pinned], laidTests := true, laidLooks := .later }
def TagSameUptoCardSaid : Prop := Claim7.holds Tryz.pinned (.plain (OpenSpec.upto tagSameSpec)) tagSameUptoCard

/-- THE SECOND FORM's CARD OF 'greffierlaw12.TagRequests'. -/
def tagRequestsUptoCard : Claim7 := { stood := { row := tagRequestsUptoRow, standIns := [], harness := (true, "1cb8857cad44b0fc01a0dedc6f6d685e0862ce258590783f739e34adfe182afd"), looks := true }, kinds := [], alts := [], laidByText := true, laidKinds := [.data, .data, .data, .data, .pinned], laidTests := true, laidLooks := .later }
def TagRequestsUptoCardSaid : Prop := Claim7.holds Tryz.pinned (.plain (OpenSpec.upto tagRequestsSpec)) tagRequestsUptoCard

/-- THE SECOND FORM's CARD OF 'greffierlaw12.TagWrites'. -/
def tagWritesUptoCard : Claim7 := { stood := { row := tagWritesUptoRow, standIns := [], harness := (true, "1cb8857cad44b0fc01a0dedc6f6d685e0862ce258590783f739e34adfe182afd"), looks := true }, kinds := [], alts := [], laidByText := true, laidKinds := [.data, .data, .data, .data, .pinned], laidTests := true, laidLooks := .later }
def TagWritesUptoCardSaid : Prop := Claim7.holds Tryz.pinned (.plain (OpenSpec.upto tagWritesSpec)) tagWritesUptoCard

/-- THE SECOND FORM's CARD OF 'greffierlaw12.TagReads'. -/
def tagReadsUptoCard : Claim7 := { stood := { row := tagReadsUptoRow, standIns := [], harness := (true, "1cb8857cad44b0fc01a0dedc6f6d685e0862ce258590783f739e34adfe182afd"), looks := true }, kinds := [], alts := [], laidByText := true, laidKinds := [.data, .data, .data, .data, .pinned], laidTests := true, laidLooks := .later }
def TagReadsUptoCardSaid : Prop := Claim7.holds Tryz.pinned (.plain (OpenSpec.upto tagReadsSpec)) tagReadsUptoCard

/-- THE SECOND FORM's CARD OF 'greffierlaw17.CertSame'. -/
def certSameUptoCard : Claim7 := { stood := { row := certSameUptoRow, standIns := [], harness := (true, "1cb8857cad44b0fc01a0dedc6f6d685e0862ce258590783f739e34adfe182afd"), looks := true }, kinds := [], alts := [], laidByText := true, laidKinds := [.data, .data, .data, .data, .pinned], laidTests := true, laidLooks := .later }
def CertSameUptoCardSaid : Prop := Claim7.holds Tryz.pinned (.plain (OpenSpec.upto certSameSpec)) certSameUptoCard

/-- THE SECOND FORM's CARD OF 'greffierlaw17.CertOne'. -/
def certOneUptoCard : Claim7 := { stood := { row := certOneUptoRow, standIns := [], harness := (true, "1cb8857cad44b0fc01a0dedc6f6d685e0862ce258590783f739e34adfe182afd"), looks := true }, kinds := [], alts := [], laidByText := true, laidKinds := [.data, .data, .data, .data, .pinned], laidTests := true, laidLooks := .later }
def CertOneUptoCardSaid : Prop := Claim7.holds Tryz.pinned (.plain (OpenSpec.upto certOneSpec)) certOneUptoCard

/-- THE SECOND FORM's CARD OF 'greffierlaw20.AclWrites'. -/
def aclWritesUptoCard : Claim7 := { stood := { row := aclWritesUptoRow, standIns := [], harness := (true, "1cb8857cad44b0fc01a0dedc6f6d685e0862ce258590783f739e34adfe182afd"), looks := true }, kinds := [], alts := [], laidByText := true, laidKinds := [.data, .data, .data, .data, .pinned], laidTests := true, laidLooks := .later }
def AclWritesUptoCardSaid : Prop := Claim7.holds Tryz.pinned (.plain (OpenSpec.upto aclWritesSpec)) aclWritesUptoCard

/-- THE SECOND FORM's CARD OF 'greffierlaw20.AclReads'. -/
def aclReadsUptoCard : Claim7 := { stood := { row := aclReadsUptoRow, standIns := [], harness := (true, "1cb8857cad44b0fc01a0dedc6f6d685e0862ce258590783f739e34adfe182afd"), looks := true }, kinds := [], alts := [], laidByText := true, laidKinds := [.data, .data, .data, .data, .pinned], laidTests := true, laidLooks := .later }
def AclReadsUptoCardSaid : Prop := Claim7.holds Tryz.pinned (.plain (OpenSpec.upto aclReadsSpec)) aclReadsUptoCard

/-- THE SECOND FORM's CARD OF 'greffierlaw20.AclFront'. -/
def aclFrontUptoCard : Claim7 := { stood := { row := aclFrontUptoRow, standIns := [], harness := (true, "1cb8857cad44b0fc01a0dedc6f6d685e0862ce258590783f739e34adfe182afd"), looks := true }, kinds := [], alts := [], laidByText := true, laidKinds := [.data, .data, .data, .data, .pinned], laidTests := true, laidLooks := .later }
def AclFrontUptoCardSaid : Prop := Claim7.holds Tryz.pinned (.plain (OpenSpec.upto aclFrontSpec)) aclFrontUptoCard

/-- THE SECOND FORM's CARD OF 'greffierlaw20.AclSame'. -/
def aclSameUptoCard : Claim7 := { stood := { row := aclSameUptoRow, standIns := [], harness := (true, "1cb8857cad44b0fc01a0dedc6f6d685e0862ce258590783f739e34adfe182afd"), looks := true }, kinds := [], alts := [], laidByText := true, laidKinds := [.data, .data, .data, .data, .pinned], laidTests := true, laidLooks := .later }
def AclSameUptoCardSaid : Prop := Claim7.holds Tryz.pinned (.plain (OpenSpec.upto aclSameSpec)) aclSameUptoCard

/-- THE SECOND FORM's CARD OF 'greffierlaw17.CertReads'. -/
def certReadsUptoCard : Claim7 := { stood := { row := certReadsUptoRow, standIns := [], harness := (true, "1cb8857cad44b0fc01a0dedc6f6d685e0862ce258590783f739e34adfe182afd"), looks := true }, kinds := [], alts := [], laidByText := true, laidKinds := [.data, .data, .data, .data, .pinned], laidTests := true, laidLooks := .later }
def CertReadsUptoCardSaid : Prop := Claim7.holds Tryz.pinned (.plain (OpenSpec.upto certReadsSpec)) certReadsUptoCard

/-- THE SECOND FORM's CARD OF 'greffierlaw17.CertWrites'. -/
def certWritesUptoCard : Claim7 := { stood := { row := certWritesUptoRow, standIns := [], harness := (true, "1cb8857cad44b0fc01a0dedc6f6d685e0862ce258590783f739e34adfe182afd"), looks := true }, kinds := [], alts := [], laidByText := true, laidKinds := [.data, .data, .data, .data, .pinned], laidTests := true, laidLooks := .later }
def CertWritesUptoCardSaid : Prop := Claim7.holds Tryz.pinned (.plain (OpenSpec.upto certWritesSpec)) certWritesUptoCard
end Rows
end Go.Proofs.YthglfhnlolefhaaGreatDoor
