/-
  DERIVED. GIVEN WITH THE SEED: THE CARDS: each row of YtcbdjmlkjifamaaGreatDoorRows.lean that lists a variable, with what it lists TIED to the program's text (the seventh form; the later family's looks); each row that meets fmt, with fmt's text TOLD by the authors' own Lean function (tested against real Go, not proved from fmt's source: count such statements apart). THE CARD IS WHAT COUNTS. Prove the row's statement (the work); the ties are given (YtcbdjmlkjifamaaGreatDoorTie.lean); close each card by the builder's one call (the guide's Derived/Test/ToyasCard.lean, 'card_holds'). Laid BY PROGRAM, IN A SANDBOX (cutbox-door.mjs). By AI agents, Wed Nov 11 2026. No macro, syntax, notation, axiom, sorry.
-/
import Derived.Test.YtcbdjmlkjifamaaGreatDoorRows
import GoSem.ClaimSeven
namespace Go.Proofs.YtcbdjmlkjifamaaGreatDoor
namespace Rows

/-- THE TIED CARD OF 'carlinglaw28.DirsNobody'. -/
def dirsNobodyCard : Claim7 := { stood := { row := dirsNobodyRow, standIns := [], harness := (true, "4800646fe59c22894dd5a038c0780827b29f49cd9fade8b15cc6306a17a9b971"), looks := false }, kinds := [], alts := [], laidByText := true, laidKinds := [.data, .pinned], laidTests := true, laidLooks := .later }
def DirsNobodyCardSaid : Prop := Claim7.holds Tryz.pinned (.plain (OpenSpec.ofChange dirsNobodySpec)) dirsNobodyCard

/-- THE TIED CARD OF 'carlinglaw28.DirsRise'. -/
def dirsRiseCard : Claim7 := { stood := { row := dirsRiseRow, standIns := [], harness := (true, "4800646fe59c22894dd5a038c0780827b29f49cd9fade8b15cc6306a17a9b971"), looks := false }, kinds := [], alts := [], laidByText := true, laidKinds := [.data, .pinned], laidTests := true, laidLooks := .later }
def DirsRiseCardSaid : Prop := Claim7.holds Tryz.pinned (.plain (OpenSpec.ofChange dirsRiseSpec)) dirsRiseCard

/-- THE SECOND FORM's CARD OF 'carlinglaw28.DirsNobody'. -/
def dirsNobodyUptoCard : Claim7 := { stood := { row := dirsNobodyUptoRow, standIns := [], harness := (true, "4800646fe59c22894dd5a038c0780827b29f49cd9fade8b15cc6306a17a9b971"), looks := false }, kinds := [], alts := [], laidByText := true, laidKinds := [.data, .pinned], laidTests := true, laidLooks := .later }
def DirsNobodyUptoCardSaid : Prop := Claim7.holds Tryz.pinned (.plain (OpenSpec.upto dirsNobodySpec)) dirsNobodyUptoCard

/-- THE SECOND FORM's CARD OF 'carlinglaw28.DirsRise'. -/
def dirsRiseUptoCard : Claim7 := { stood := { row := dirsRiseUptoRow, standIns := [], harness := (true, "4800646fe59c22894dd5a038c0780827b29f49cd9fade8b15cc6306a17a9b971"), looks := false }, kinds := [], alts := [], laidByText := true, laidKinds := [.data, .pinned], laidTests := true, laidLooks := .later }
def DirsRiseUptoCardSaid : Prop := Claim7.holds Tryz.pinned (.plain (OpenSpec.upto dirsRiseSpec)) dirsRiseUptoCard
end Rows
end Go.Proofs.YtcbdjmlkjifamaaGreatDoor
