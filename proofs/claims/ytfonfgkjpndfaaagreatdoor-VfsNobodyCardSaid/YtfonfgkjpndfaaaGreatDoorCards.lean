/-
  DERIVED. GIVEN WITH THE SEED: THE CARDS: each row of YtfonfgkjpndfaaaGreatDoorRows.lean that lists a variable, with what it lists TIED to the program's text (the seventh form; the later family's looks); each row that meets fmt, with fmt's text TOLD by the authors' own Lean function (tested against real Go, not proved from fmt's source: count such statements apart). THE CARD IS WHAT COUNTS. Prove the row's statement (the work); the ties are given (YtfonfgkjpndfaaaGreatDoorTie.lean); close each card by the builder's one call (the guide's Derived/Test/ToyasCard.lean, 'card_holds'). Laid BY PROGRAM, IN A SANDBOX (cutbox-door.mjs). By AI agents, Wed Nov 11 2026. No macro, syntax, notation, axiom, sorry.
-/
import Derived.Test.YtfonfgkjpndfaaaGreatDoorRows
import GoSem.ClaimSeven
namespace Go.Proofs.YtfonfgkjpndfaaaGreatDoor
namespace Rows

/-- THE TIED CARD OF 'bollardlaw21.VfsNobody'. -/
def vfsNobodyCard : Claim7 := { stood := { row := vfsNobodyRow, standIns := [], harness := (true, "150f7e3145f0be06d620320e5e0a9a4abebe2850689786b96c0745748ede5c95"), looks := true }, kinds := [], alts := [], laidByText := true, laidKinds := [.data, .pinned], laidTests := true, laidLooks := .later }
def VfsNobodyCardSaid : Prop := Claim7.holds Tryz.pinned (.plain (OpenSpec.ofChange vfsNobodySpec)) vfsNobodyCard

/-- THE TIED CARD OF 'bollardlaw23.SchedNobody'. -/
def schedNobodyCard : Claim7 := { stood := { row := schedNobodyRow, standIns := [], harness := (true, "150f7e3145f0be06d620320e5e0a9a4abebe2850689786b96c0745748ede5c95"), looks := true }, kinds := [], alts := [], laidByText := true, laidKinds := [.data, .pinned], laidTests := true, laidLooks := .later }
def SchedNobodyCardSaid : Prop := Claim7.holds Tryz.pinned (.plain (OpenSpec.ofChange schedNobodySpec)) schedNobodyCard

/-- THE SECOND FORM's CARD OF 'bollardlaw21.VfsNobody'. -/
def vfsNobodyUptoCard : Claim7 := { stood := { row := vfsNobodyUptoRow, standIns := [], harness := (true, "150f7e3145f0be06d620320e5e0a9a4abebe2850689786b96c0745748ede5c95"), looks := true }, kinds := [], alts := [], laidByText := true, laidKinds := [.data, .pinned], laidTests := true, laidLooks := .later }
def VfsNobodyUptoCardSaid : Prop := Claim7.holds Tryz.pinned (.plain (OpenSpec.upto vfsNobodySpec)) vfsNobodyUptoCard

/-- THE SECOND FORM's CARD OF 'bollardlaw23.SchedNobody'. -/
def schedNobodyUptoCard : Claim7 := { stood := { row := schedNobodyUptoRow, standIns := [], harness := (true, "150f7e3145f0be06d620320e5e0a9a4abebe2850689786b96c0745748ede5c95"), looks := true }, kinds := [], alts := [], laidByText := true, laidKinds := [.data, .pinned], laidTests := true, laidLooks := .later }
def SchedNobodyUptoCardSaid : Prop := Claim7.holds Tryz.pinned (.plain (OpenSpec.upto schedNobodySpec)) schedNobodyUptoCard
end Rows
end Go.Proofs.YtfonfgkjpndfaaaGreatDoor
