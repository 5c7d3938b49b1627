/-
  DERIVED. GIVEN WITH THE SEED: THE CARDS: each row of YthimhmocgnnaiaaDoorRows.lean that lists a variable, with what it lists TIED to the program's text (the seventh form; the later family's looks); each row that meets fmt, with fmt's text TOLD by the authors' own Lean function (tested against real Go, not proved from fmt's source: count such statements apart). THE CARD IS WHAT COUNTS. Prove the row's statement (the work); the ties are given (YthimhmocgnnaiaaDoorTie.lean); close each card by the builder's one call (the guide's Derived/Test/ToyasCard.lean, 'card_holds'). Laid BY PROGRAM, IN A SANDBOX (cutbox-door.mjs). By AI agents, Wed Nov 11 2026. No macro, syntax, notation, axiom, sorry.
-/
import Derived.Test.YthimhmocgnnaiaaDoorRows
import GoSem.ClaimSeven
namespace Go.Proofs.YthimhmocgnnaiaaDoor
namespace Rows

/-- THE TIED CARD OF 'tontinelaw12.RaftAlone'. -/
def raftAloneCard : Claim7 := { stood := { row := raftAloneRow, standIns := [], harness := (true, "f4f146f8011cb338807fd9073e2e52f4bfe1ddf9493731c3960db4b3e808baf4"), looks := false }, kinds := [], alts := [], laidByText := true, laidKinds := [.data], laidTests := true, laidLooks := .later }
def RaftAloneCardSaid : Prop := Claim7.holds Tryd.pinned (.plain (OpenSpec.ofChange raftAloneSpec)) raftAloneCard

/-- THE TIED CARD OF 'tontinelaw12.RaftAnew'. -/
def raftAnewCard : Claim7 := { stood := { row := raftAnewRow, standIns := [], harness := (true, "f4f146f8011cb338807fd9073e2e52f4bfe1ddf9493731c3960db4b3e808baf4"), looks := false }, kinds := [], alts := [], laidByText := true, laidKinds := [.data], laidTests := true, laidLooks := .later }
def RaftAnewCardSaid : Prop := Claim7.holds Tryd.pinned (.plain (OpenSpec.ofChange raftAnewSpec)) raftAnewCard

/-- THE TIED CARD OF 'tontinelaw12.RaftVotes'. -/
def raftVotesCard : Claim7 := { stood := { row := raftVotesRow, standIns := [], harness := (true, "f4f146f8011cb338807fd9073e2e52f4bfe1ddf9493731c3960db4b3e808baf4"), looks := false }, kinds := [], alts := [], laidByText := true, laidKinds := [.data], laidTests := true, laidLooks := .later }
def RaftVotesCardSaid : Prop := Claim7.holds Tryd.pinned (.plain (OpenSpec.ofChange raftVotesSpec)) raftVotesCard

/-- THE TIED CARD OF 'tontinelaw12.RaftElects'. -/
def raftElectsCard : Claim7 := { stood := { row := raftElectsRow, standIns := [], harness := (true, "f4f146f8011cb338807fd9073e2e52f4bfe1ddf9493731c3960db4b3e808baf4"), looks := false }, kinds := [], alts := [], laidByText := true, laidKinds := [.data], laidTests := true, laidLooks := .later }
def RaftElectsCardSaid : Prop := Claim7.holds Tryd.pinned (.plain (OpenSpec.ofChange raftElectsSpec)) raftElectsCard

/-- THE TIED CARD OF 'tontinelaw12.RaftAppends'. -/
def raftAppendsCard : Claim7 := { stood := { row := raftAppendsRow, standIns := [], harness := (true, "f4f146f8011cb338807fd9073e2e52f4bfe1ddf9493731c3960db4b3e808baf4"), looks := false }, kinds := [], alts := [], laidByText := true, laidKinds := [.data], laidTests := true, laidLooks := .later }
def RaftAppendsCardSaid : Prop := Claim7.holds Tryd.pinned (.plain (OpenSpec.ofChange raftAppendsSpec)) raftAppendsCard

/-- THE TIED CARD OF 'tontinelaw12.RaftNone'. -/
def raftNoneCard : Claim7 := { stood := { row := raftNoneRow, standIns := [], harness := (true, "f4f146f8011cb338807fd9073e2e52f4bfe1ddf9493731c3960db4b3e808baf4"), looks := false }, kinds := [], alts := [], laidByText := true, laidKinds := [.data], laidTests := true, laidLooks := .later }
def RaftNoneCardSaid : Prop := Claim7.holds Tryd.pinned (.plain (OpenSpec.ofChange raftNoneSpec)) raftNoneCard

/-- THE SECOND FORM's CARD OF 'tontinelaw12.RaftAlone'. -/
def raftAloneUptoCard : Claim7 := { stood := { row := raftAloneUptoRow, standIns := [], harness := (true, "f4f146f8011cb338807fd9073e2e52f4bfe1ddf9493731c3960db4b3e808baf4"), looks := false }, kinds := [], alts := [], laidByText := true, laidKinds := [.data], laidTests := true, laidLooks := .later }
def RaftAloneUptoCardSaid : Prop := Claim7.holds Tryd.pinned (.plain (OpenSpec.upto raftAloneSpec)) raftAloneUptoCard

/-- THE SECOND FORM's CARD OF 'tontinelaw12.RaftAnew'. -/
def raftAnewUptoCard : Claim7 := { stood := { row := raftAnewUptoRow, standIns := [], harness := (true, "f4f146f8011cb338807fd9073e2e52f4bfe1ddf9493731c3960db4b3e808baf4"), looks := false }, kinds := [], alts := [], laidByText := true, laidKinds := [.data], laidTests := true, laidLooks := .later }
def RaftAnewUptoCardSaid : Prop := Claim7.holds Tryd.pinned (.plain (OpenSpec.upto raftAnewSpec)) raftAnewUptoCard

/-- THE SECOND FORM's CARD OF 'tontinelaw12.RaftVotes'. -/
def raftVotesUptoCard : Claim7 := { stood := { row := raftVotesUptoRow, standIns := [], harness := (true, "f4f146f8011cb338807fd9073e2e52f4bfe1ddf9493731c3960db4b3e808baf4"), looks := false }, kinds := [], alts := [], laidByText := true, laidKinds := [.data], laidTests := true, laidLooks := .later }
def RaftVotesUptoCardSaid : Prop := Claim7.holds Tryd.pinned (.plain (OpenSpec.upto raftVotesSpec)) raftVotesUptoCard

/-- THE SECOND FORM's CARD OF 'tontinelaw12.RaftElects'. -/
def raftElectsUptoCard : Claim7 := { stood := { row := raftElectsUptoRow, standIns := [], harness := (true, "f4f146f8011cb338807fd9073e2e52f4bfe1ddf9493731c3960db4b3e808baf4"), looks := false }, kinds := [], alts := [], laidByText := true, laidKinds := [.data], laidTests := true, laidLooks := .later }
def RaftElectsUptoCardSaid : Prop := Claim7.holds Tryd.pinned (.plain (OpenSpec.upto raftElectsSpec)) raftElectsUptoCard

/-- THE SECOND FORM's CARD OF 'tontinelaw12.RaftAppends'. -/
def raftAppendsUptoCard : Claim7 := { stood := { row := raftAppendsUptoRow, standIns := [], harness := (true, "f4f146f8011cb338807fd9073e2e52f4bfe1ddf9493731c3960db4b3e808baf4"), looks := false }, kinds := [], alts := [], laidByText := true, laidKinds := [.data], laidTests := true, laidLooks := .later }
def RaftAppendsUptoCardSaid : Prop := Claim7.holds Tryd.pinned (.plain (OpenSpec.upto raftAppendsSpec)) raftAppendsUptoCard

/-- THE SECOND FORM's CARD OF 'tontinelaw12.RaftNone'. -/
def raftNoneUptoCard : Claim7 := { stood := { row := raftNoneUptoRow, standIns := [], harness := (true, "f4f146f8011cb338807fd9073e2e52f4bfe1ddf9493731c3960db4b3e808baf4"), looks := false }, kinds := [], alts := [], laidByText := true, laidKinds := [.data], laidTests := true, laidLooks := .later }
def RaftNoneUptoCardSaid : Prop := Claim7.holds Tryd.pinned (.plain (OpenSpec.upto raftNoneSpec)) raftNoneUptoCard
end Rows
end Go.Proofs.YthimhmocgnnaiaaDoor
