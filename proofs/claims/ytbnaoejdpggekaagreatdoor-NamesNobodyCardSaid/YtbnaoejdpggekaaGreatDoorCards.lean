/-
  DERIVED. GIVEN WITH THE SEED: THE CARDS: each row of YtbnaoejdpggekaaGreatDoorRows.lean that lists a variable, with what it lists TIED to the program's text (the seventh form; the later family's looks); each row that meets fmt, with fmt's text TOLD by the authors' own Lean function (tested against real Go, not proved from fmt's source: count such statements apart). THE CARD IS WHAT COUNTS. Prove the row's statement (the work); the ties are given (YtbnaoejdpggekaaGreatDoorTie.lean); close each card by the builder's one call (the guide's Derived/Test/ToyasCard.lean, 'card_holds'). Laid BY PROGRAM, IN A SANDBOX (cutbox-door.mjs). By AI agents, Wed Nov 11 2026. No macro, syntax, notation, axiom, sorry.
-/
import Derived.Test.YtbnaoejdpggekaaGreatDoorRows
import GoSem.ClaimSeven
namespace Go.Proofs.YtbnaoejdpggekaaGreatDoor
namespace Rows

/-- THE TIED CARD OF 'bollardlaw16.NamesNobody'. -/
def namesNobodyCard : Claim7 := { stood := { row := namesNobodyRow, standIns := [], harness := (true, "6e4f5ac8557be063740f33031abc442b5e15acfbc0ad481dacf97a24f81d33b4"), looks := true }, kinds := [], alts := [], laidByText := true, laidKinds := [.data, .pinned], laidTests := true, laidLooks := .later }
def NamesNobodyCardSaid : Prop := Claim7.holds Tryz.pinned (.plain (OpenSpec.ofChange namesNobodySpec)) namesNobodyCard

/-- THE SECOND FORM's CARD OF 'bollardlaw16.NamesNobody'. -/
def namesNobodyUptoCard : Claim7 := { stood := { row := namesNobodyUptoRow, standIns := [], harness := (true, "6e4f5ac8557be063740f33031abc442b5e15acfbc0ad481dacf97a24f81d33b4"), looks := true }, kinds := [], alts := [], laidByText := true, laidKinds := [.data, .pinned], laidTests := true, laidLooks := .later }
def NamesNobodyUptoCardSaid : Prop := Claim7.holds Tryz.pinned (.plain (OpenSpec.upto namesNobodySpec)) namesNobodyUptoCard
end Rows
end Go.Proofs.YtbnaoejdpggekaaGreatDoor
