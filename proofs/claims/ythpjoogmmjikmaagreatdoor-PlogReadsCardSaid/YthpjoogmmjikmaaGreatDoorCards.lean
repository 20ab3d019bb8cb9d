/-
  DERIVED. GIVEN WITH THE SEED: THE CARDS: each row of YthpjoogmmjikmaaGreatDoorRows.lean that lists a variable, with what it lists TIED to the program's text (the seventh form; the later family's looks); each row that meets fmt, with fmt's text TOLD by the authors' own Lean function (tested against real Go, not proved from fmt's source: count such statements apart). THE CARD IS WHAT COUNTS. Prove the row's statement (the work); the ties are given (YthpjoogmmjikmaaGreatDoorTie.lean); close each card by the builder's one call (the guide's Derived/Test/ToyasCard.lean, 'card_holds'). Laid BY PROGRAM, IN A SANDBOX (cutbox-door.mjs). By AI agents, Wed Nov 11 2026. No macro, syntax, notation, axiom, sorry.
-/
import Derived.Test.YthpjoogmmjikmaaGreatDoorRows
import GoSem.ClaimSeven
namespace Go.Proofs.YthpjoogmmjikmaaGreatDoor
namespace Rows

/-- THE TIED CARD OF 'conduitlaw10.PlogReads'. -/
def plogReadsCard : Claim7 := { stood := { row := plogReadsRow, standIns := [], harness := (true, "caa593ef779d57136109de5a835d83d81e567412518daf6cc50ed40181169c33"), looks := true }, kinds := [], alts := [], laidByText := true, laidKinds := [.data, .data, .data, .data, .sentinel, .sentinel, .pinned], laidTests := true, laidLooks := .later }
def PlogReadsCardSaid : Prop := Claim7.holds Tryz.pinned (.plain (OpenSpec.ofChange plogReadsSpec)) plogReadsCard

/-- THE TIED CARD OF 'conduitlaw10.PlogSpares'. -/
def plogSparesCard : Claim7 := { stood := { row := plogSparesRow, standIns := [], harness := (true, "caa593ef779d57136109de5a835d83d81e567412518daf6cc50ed40181169c33"), looks := true }, kinds := [], alts := [], laidByText := true, laidKinds := [.data, .data, .data, .data, .sentinel, .sentinel, .pinned], laidTests := true, laidLooks := .later }
def PlogSparesCardSaid : Prop := Claim7.holds Tryz.pinned (.plain (OpenSpec.ofChange plogSparesSpec)) plogSparesCard

/-- THE TIED CARD OF 'conduitlaw10.PlogNone'. -/
def plogNoneCard : Claim7 := { stood := { row := plogNoneRow, standIns := [], harness := (true, "caa593ef779d57136109de5a835d83d81e567412518daf6cc50ed40181169c33"), looks := true }, kinds := [], alts := [], laidByText := true, laidKinds := [.data, .data, .data, .data, .sentinel, .sentinel, .pinned], laidTests := true, laidLooks := .later }
def PlogNoneCardSaid : Prop := Claim7.holds Tryz.pinned (.plain (OpenSpec.ofChange plogNoneSpec)) plogNoneCard

/-- THE TIED CARD OF 'conduitlaw10.PlogNumbers'. -/
def plogNumbersCard : Claim7 := { stood := { row := plogNumbersRow, standIns := [], harness := (true, "caa593ef779d57136109de5a835d83d81e567412518daf6cc50ed40181169c33"), looks := true }, kinds := [], alts := [], laidByText := true, laidKinds := [.data, .data, .data, .data, .sentinel, .sentinel, .pinned], laidTests := true, laidLooks := .later }
def PlogNumbersCardSaid : Prop := Claim7.holds Tryz.pinned (.plain (OpenSpec.ofChange plogNumbersSpec)) plogNumbersCard

/-- THE TIED CARD OF 'conduitlaw10.PlogKept'. -/
def plogKeptCard : Claim7 := { stood := { row := plogKeptRow, standIns := [], harness := (true, "caa593ef779d57136109de5a835d83d81e567412518daf6cc50ed40181169c33"), looks := true }, kinds := [], alts := [], laidByText := true, laidKinds := [.data, .data, .data, .data, .sentinel, .sentinel, .pinned], laidTests := true, laidLooks := .later }
def PlogKeptCardSaid : Prop := Claim7.holds Tryz.pinned (.plain (OpenSpec.ofChange plogKeptSpec)) plogKeptCard

/-- THE SECOND FORM's CARD OF 'conduitlaw10.PlogReads'. -/
def plogReadsUptoCard : Claim7 := { stood := { row := plogReadsUptoRow, standIns := [], harness := (true, "caa593ef779d57136109de5a835d83d81e567412518daf6cc50ed40181169c33"), looks := true }, kinds := [], alts := [], laidByText := true, laidKinds := [.data, .data, .data, .data, .sentinel, .sentinel, .pinned], laidTests := true, laidLooks := .later }
def PlogReadsUptoCardSaid : Prop := Claim7.holds Tryz.pinned (.plain (OpenSpec.upto plogReadsSpec)) plogReadsUptoCard

/-- THE SECOND FORM's CARD OF 'conduitlaw10.PlogSpares'. -/
def plogSparesUptoCard : Claim7 := { stood := { row := plogSparesUptoRow, standIns := [], harness := (true, "caa593ef779d57136109de5a835d83d81e567412518daf6cc50ed40181169c33"), looks := true }, kinds := [], alts := [], laidByText := true, laidKinds := [.data, .data, .data, .data, .sentinel, .sentinel, .pinned], laidTests := true, laidLooks := .later }
def PlogSparesUptoCardSaid : Prop := Claim7.holds Tryz.pinned (.plain (OpenSpec.upto plogSparesSpec)) plogSparesUptoCard

/-- THE SECOND FORM's CARD OF 'conduitlaw10.PlogNone'. -/
def plogNoneUptoCard : Claim7 := { stood := { row := plogNoneUptoRow, standIns := [], harness := (true, "caa593ef779d57136109de5a835d83d81e567412518daf6cc50ed40181169c33"), looks := true }, kinds := [], alts := [], laidByText := true, laidKinds := [.data, .data, .data, .data, .sentinel, .sentinel, .pinned], laidTests := true, laidLooks := .later }
def PlogNoneUptoCardSaid : Prop := Claim7.holds Tryz.pinned (.plain (OpenSpec.upto plogNoneSpec)) plogNoneUptoCard

/-- THE SECOND FORM's CARD OF 'conduitlaw10.PlogNumbers'. -/
def plogNumbersUptoCard : Claim7 := { stood := { row := plogNumbersUptoRow, standIns := [], harness := (true, "caa593ef779d57136109de5a835d83d81e567412518daf6cc50ed40181169c33"), looks := true }, kinds := [], alts := [], laidByText := true, laidKinds := [.data, .data, .data, .data, .sentinel, .sentinel, .pinned], laidTests := true, laidLooks := .later }
def PlogNumbersUptoCardSaid : Prop := Claim7.holds Tryz.pinned (.plain (OpenSpec.upto plogNumbersSpec)) plogNumbersUptoCard

/-- THE SECOND FORM's CARD OF 'conduitlaw10.PlogKept'. -/
def plogKeptUptoCard : Claim7 := { stood := { row := plogKeptUptoRow, standIns := [], harness := (true, "caa593ef779d57136109de5a835d83d81e567412518daf6cc50ed40181169c33"), looks := true }, kinds := [], alts := [], laidByText := true, laidKinds := [.data, .data, .data, .data, .sentinel, .sentinel, .pinned], laidTests := true, laidLooks := .later }
def PlogKeptUptoCardSaid : Prop := Claim7.holds Tryz.pinned (.plain (OpenSpec.upto plogKeptSpec)) plogKeptUptoCard
end Rows
end Go.Proofs.YthpjoogmmjikmaaGreatDoor
