/-
  DERIVED. GIVEN WITH THE SEED: THE CARDS: each row of YtlejeoajnfaloaaGreatDoorRows.lean that lists a variable, with what it lists TIED to the program's text (the seventh form; the later family's looks); each row that meets fmt, with fmt's text TOLD by the authors' own Lean function (tested against real Go, not proved from fmt's source: count such statements apart). THE CARD IS WHAT COUNTS. Prove the row's statement (the work); the ties are given (YtlejeoajnfaloaaGreatDoorTie.lean); close each card by the builder's one call (the guide's Derived/Test/ToyasCard.lean, 'card_holds'). Laid BY PROGRAM, IN A SANDBOX (cutbox-door.mjs). By AI agents, Wed Nov 11 2026. No macro, syntax, notation, axiom, sorry.
-/
import Derived.Test.YtlejeoajnfaloaaGreatDoorRows
import GoSem.ClaimSeven
namespace Go.Proofs.YtlejeoajnfaloaaGreatDoor
namespace Rows

/-- THE TIED CARD OF 'conduitlaw24.SnapSafe'. -/
def snapSafeCard : Claim7 := { stood := { row := snapSafeRow, standIns := [], harness := (true, "22019dd2adaf09fb28451f34a1c821e255d20e31c7bcf409c6c71521092bf7c9"), looks := true }, kinds := [], alts := [], laidByText := true, laidKinds := [.data, .data, .data, .data, .sentinel, .sentinel, .pinned], laidTests := true, laidLooks := .later }
def SnapSafeCardSaid : Prop := Claim7.holds Tryz.pinned (.plain (OpenSpec.ofChange snapSafeSpec)) snapSafeCard

/-- THE TIED CARD OF 'conduitlaw24.SnapNumbers'. -/
def snapNumbersCard : Claim7 := { stood := { row := snapNumbersRow, standIns := [], harness := (true, "22019dd2adaf09fb28451f34a1c821e255d20e31c7bcf409c6c71521092bf7c9"), looks := true }, kinds := [], alts := [], laidByText := true, laidKinds := [.data, .data, .data, .data, .sentinel, .sentinel, .pinned], laidTests := true, laidLooks := .later }
def SnapNumbersCardSaid : Prop := Claim7.holds Tryz.pinned (.plain (OpenSpec.ofChange snapNumbersSpec)) snapNumbersCard

/-- THE TIED CARD OF 'conduitlaw24.SnapNone'. -/
def snapNoneCard : Claim7 := { stood := { row := snapNoneRow, standIns := [], harness := (true, "22019dd2adaf09fb28451f34a1c821e255d20e31c7bcf409c6c71521092bf7c9"), looks := true }, kinds := [], alts := [], laidByText := true, laidKinds := [.data, .data, .data, .data, .sentinel, .sentinel, .pinned], laidTests := true, laidLooks := .later }
def SnapNoneCardSaid : Prop := Claim7.holds Tryz.pinned (.plain (OpenSpec.ofChange snapNoneSpec)) snapNoneCard

/-- THE SECOND FORM's CARD OF 'conduitlaw24.SnapSafe'. -/
def snapSafeUptoCard : Claim7 := { stood := { row := snapSafeUptoRow, standIns := [], harness := (true, "22019dd2adaf09fb28451f34a1c821e255d20e31c7bcf409c6c71521092bf7c9"), looks := true }, kinds := [], alts := [], laidByText := true, laidKinds := [.data, .data, .data, .data, .sentinel, .sentinel, .pinned], laidTests := true, laidLooks := .later }
def SnapSafeUptoCardSaid : Prop := Claim7.holds Tryz.pinned (.plain (OpenSpec.upto snapSafeSpec)) snapSafeUptoCard

/-- THE SECOND FORM's CARD OF 'conduitlaw24.SnapNumbers'. -/
def snapNumbersUptoCard : Claim7 := { stood := { row := snapNumbersUptoRow, standIns := [], harness := (true, "22019dd2adaf09fb28451f34a1c821e255d20e31c7bcf409c6c71521092bf7c9"), looks := true }, kinds := [], alts := [], laidByText := true, laidKinds := [.data, .data, .data, .data, .sentinel, .sentinel, .pinned], laidTests := true, laidLooks := .later }
def SnapNumbersUptoCardSaid : Prop := Claim7.holds Tryz.pinned (.plain (OpenSpec.upto snapNumbersSpec)) snapNumbersUptoCard

/-- THE SECOND FORM's CARD OF 'conduitlaw24.SnapNone'. -/
def snapNoneUptoCard : Claim7 := { stood := { row := snapNoneUptoRow, standIns := [], harness := (true, "22019dd2adaf09fb28451f34a1c821e255d20e31c7bcf409c6c71521092bf7c9"), looks := true }, kinds := [], alts := [], laidByText := true, laidKinds := [.data, .data, .data, .data, .sentinel, .sentinel, .pinned], laidTests := true, laidLooks := .later }
def SnapNoneUptoCardSaid : Prop := Claim7.holds Tryz.pinned (.plain (OpenSpec.upto snapNoneSpec)) snapNoneUptoCard
end Rows
end Go.Proofs.YtlejeoajnfaloaaGreatDoor
