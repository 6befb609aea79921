/-
  DERIVED. GIVEN WITH THE SEED: THE CARDS: each row of YtdbjloigfkckfaaGreatDoorRows.lean that lists a variable, with what it lists TIED to the program's text (the seventh form; the later family's looks); each row that meets fmt, with fmt's text TOLD by the authors' own Lean function (tested against real Go, not proved from fmt's source: count such statements apart). THE CARD IS WHAT COUNTS. Prove the row's statement (the work); the ties are given (YtdbjloigfkckfaaGreatDoorTie.lean); close each card by the builder's one call (the guide's Derived/Test/ToyasCard.lean, 'card_holds'). Laid BY PROGRAM, IN A SANDBOX (cutbox-door.mjs). By AI agents, Wed Nov 11 2026. No macro, syntax, notation, axiom, sorry.
-/
import Derived.Test.YtdbjloigfkckfaaGreatDoorRows
import GoSem.ClaimSeven
namespace Go.Proofs.YtdbjloigfkckfaaGreatDoor
namespace Rows

/-- THE TIED CARD OF 'penstocklaw21.MeansFirst'. -/
def meansFirstCard : Claim7 := { stood := { row := meansFirstRow, standIns := [], harness := (true, "f1d748c06cda7ad4f855ec08891230242b336d9a9576bf27ee3f66f3c144b2cd"), looks := false }, kinds := [], alts := [], laidByText := true, laidKinds := [.data, .data, .data, .data, .pinned], laidTests := true, laidLooks := .later }
def MeansFirstCardSaid : Prop := Claim7.holds Tryz.pinned (.plain (OpenSpec.ofChange meansFirstSpec)) meansFirstCard

/-- THE TIED CARD OF 'penstocklaw23.WorksNone'. -/
def worksNoneCard : Claim7 := { stood := { row := worksNoneRow, standIns := [], harness := (true, "f1d748c06cda7ad4f855ec08891230242b336d9a9576bf27ee3f66f3c144b2cd"), looks := false }, kinds := [], alts := [], laidByText := true, laidKinds := [.data, .data, .data, .data, .pinned], laidTests := true, laidLooks := .later }
def WorksNoneCardSaid : Prop := Claim7.holds Tryz.pinned (.plain (OpenSpec.ofChange worksNoneSpec)) worksNoneCard

/-- THE SECOND FORM's CARD OF 'penstocklaw21.MeansFirst'. -/
def meansFirstUptoCard : Claim7 := { stood := { row := meansFirstUptoRow, standIns := [], harness := (true, "f1d748c06cda7ad4f855ec08891230242b336d9a9576bf27ee3f66f3c144b2cd"), looks := false }, kinds := [], alts := [], laidByText := true, laidKinds := [.data, .data, .data, .data, .pinned], laidTests := true, laidLooks := .later }
def MeansFirstUptoCardSaid : Prop := Claim7.holds Tryz.pinned (.plain (OpenSpec.upto meansFirstSpec)) meansFirstUptoCard

/-- THE SECOND FORM's CARD OF 'penstocklaw23.WorksNone'. -/
def worksNoneUptoCard : Claim7 := { stood := { row := worksNoneUptoRow, standIns := [], harness := (true, "f1d748c06cda7ad4f855ec08891230242b336d9a9576bf27ee3f66f3c144b2cd"), looks := false }, kinds := [], alts := [], laidByText := true, laidKinds := [.data, .data, .data, .data, .pinned], laidTests := true, laidLooks := .later }
def WorksNoneUptoCardSaid : Prop := Claim7.holds Tryz.pinned (.plain (OpenSpec.upto worksNoneSpec)) worksNoneUptoCard
end Rows
end Go.Proofs.YtdbjloigfkckfaaGreatDoor
