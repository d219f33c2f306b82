/-
  DERIVED. GIVEN WITH THE SEED: THE CARDS: each row of YtijnldbbibgjcaaDoorRows.lean that lists a variable, with what it lists TIED to the program's text (the seventh form; the later family's looks); each row that meets fmt, with fmt's text TOLD by the authors' own Lean function (tested against real Go, not proved from fmt's source: count such statements apart). THE CARD IS WHAT COUNTS. Prove the row's statement (the work); the ties are given (YtijnldbbibgjcaaDoorTie.lean); close each card by the builder's one call (the guide's Derived/Test/ToyasCard.lean, 'card_holds'). Laid BY PROGRAM, IN A SANDBOX (cutbox-door.mjs). By AI agents, Wed Nov 11 2026. No macro, syntax, notation, axiom, sorry.
-/
import Derived.Test.YtijnldbbibgjcaaDoorRows
import GoSem.ClaimSeven
namespace Go.Proofs.YtijnldbbibgjcaaDoor
namespace Rows

/-- THE TIED CARD OF 'cyanotypelaw12.BitsJoin'. -/
def bitsJoinCard : Claim7 := { stood := { row := bitsJoinRow, standIns := [], harness := (true, "35e6a95310530c85effeb6db67b85a27b55ec65fea29826bd27090f714fb79ad"), looks := false }, kinds := [], alts := [], laidByText := true, laidKinds := [.data, .pinned], laidTests := true, laidLooks := .later }
def BitsJoinCardSaid : Prop := Claim7.holds Tryd.pinned (.plain (OpenSpec.ofChange bitsJoinSpec)) bitsJoinCard

/-- THE TIED CARD OF 'cyanotypelaw12.BitsBack'. -/
def bitsBackCard : Claim7 := { stood := { row := bitsBackRow, standIns := [], harness := (true, "35e6a95310530c85effeb6db67b85a27b55ec65fea29826bd27090f714fb79ad"), looks := false }, kinds := [], alts := [], laidByText := true, laidKinds := [.data, .pinned], laidTests := true, laidLooks := .later }
def BitsBackCardSaid : Prop := Claim7.holds Tryd.pinned (.plain (OpenSpec.ofChange bitsBackSpec)) bitsBackCard

/-- THE TIED CARD OF 'cyanotypelaw12.BitsEach'. -/
def bitsEachCard : Claim7 := { stood := { row := bitsEachRow, standIns := [], harness := (true, "35e6a95310530c85effeb6db67b85a27b55ec65fea29826bd27090f714fb79ad"), looks := false }, kinds := [], alts := [], laidByText := true, laidKinds := [.data, .pinned], laidTests := true, laidLooks := .later }
def BitsEachCardSaid : Prop := Claim7.holds Tryd.pinned (.plain (OpenSpec.ofChange bitsEachSpec)) bitsEachCard

/-- THE TIED CARD OF 'cyanotypelaw12.BitsStuff'. -/
def bitsStuffCard : Claim7 := { stood := { row := bitsStuffRow, standIns := [], harness := (true, "35e6a95310530c85effeb6db67b85a27b55ec65fea29826bd27090f714fb79ad"), looks := false }, kinds := [], alts := [], laidByText := true, laidKinds := [.data, .pinned], laidTests := true, laidLooks := .later }
def BitsStuffCardSaid : Prop := Claim7.holds Tryd.pinned (.plain (OpenSpec.ofChange bitsStuffSpec)) bitsStuffCard

/-- THE TIED CARD OF 'cyanotypelaw12.BitsMarker'. -/
def bitsMarkerCard : Claim7 := { stood := { row := bitsMarkerRow, standIns := [], harness := (true, "35e6a95310530c85effeb6db67b85a27b55ec65fea29826bd27090f714fb79ad"), looks := false }, kinds := [], alts := [], laidByText := true, laidKinds := [.data, .pinned], laidTests := true, laidLooks := .later }
def BitsMarkerCardSaid : Prop := Claim7.holds Tryd.pinned (.plain (OpenSpec.ofChange bitsMarkerSpec)) bitsMarkerCard

/-- THE SECOND FORM's CARD OF 'cyanotypelaw12.BitsJoin'. -/
def bitsJoinUptoCard : Claim7 := { stood := { row := bitsJoinUptoRow, standIns := [], harness := (true, "35e6a95310530c85effeb6db67b85a27b55ec65fea29826bd27090f714fb79ad"), looks := false }, kinds := [], alts := [], laidByText := true, laidKinds := [.data, .pinned], laidTests := true, laidLooks := .later }
def BitsJoinUptoCardSaid : Prop := Claim7.holds Tryd.pinned (.plain (OpenSpec.upto bitsJoinSpec)) bitsJoinUptoCard

/-- THE SECOND FORM's CARD OF 'cyanotypelaw12.BitsBack'. -/
def bitsBackUptoCard : Claim7 := { stood := { row := bitsBackUptoRow, standIns := [], harness := (true, "35e6a95310530c85effeb6db67b85a27b55ec65fea29826bd27090f714fb79ad"), looks := false }, kinds := [], alts := [], laidByText := true, laidKinds := [.data, .pinned], laidTests := true, laidLooks := .later }
def BitsBackUptoCardSaid : Prop := Claim7.holds Tryd.pinned (.plain (OpenSpec.upto bitsBackSpec)) bitsBackUptoCard

/-- THE SECOND FORM's CARD OF 'cyanotypelaw12.BitsEach'. -/
def bitsEachUptoCard : Claim7 := { stood := { row := bitsEachUptoRow, standIns := [], harness := (true, "35e6a95310530c85effeb6db67b85a27b55ec65fea29826bd27090f714fb79ad"), looks := false }, kinds := [], alts := [], laidByText := true, laidKinds := [.data, .pinned], laidTests := true, laidLooks := .later }
def BitsEachUptoCardSaid : Prop := Claim7.holds Tryd.pinned (.plain (OpenSpec.upto bitsEachSpec)) bitsEachUptoCard

/-- THE SECOND FORM's CARD OF 'cyanotypelaw12.BitsStuff'. -/
def bitsStuffUptoCard : Claim7 := { stood := { row := bitsStuffUptoRow, standIns := [], harness := (true, "35e6a95310530c85effeb6db67b85a27b55ec65fea29826bd27090f714fb79ad"), looks := false }, kinds := [], alts := [], laidByText := true, laidKinds := [.data, .pinned], laidTests := true, laidLooks := .later }
def BitsStuffUptoCardSaid : Prop := Claim7.holds Tryd.pinned (.plain (OpenSpec.upto bitsStuffSpec)) bitsStuffUptoCard

/-- THE SECOND FORM's CARD OF 'cyanotypelaw12.BitsMarker'. -/
def bitsMarkerUptoCard : Claim7 := { stood := { row := bitsMarkerUptoRow, standIns := [], harness := (true, "35e6a95310530c85effeb6db67b85a27b55ec65fea29826bd27090f714fb79ad"), looks := false }, kinds := [], alts := [], laidByText := true, laidKinds := [.data, .pinned], laidTests := true, laidLooks := .later }
def BitsMarkerUptoCardSaid : Prop := Claim7.holds Tryd.pinned (.plain (OpenSpec.upto bitsMarkerSpec)) bitsMarkerUptoCard
end Rows
end Go.Proofs.YtijnldbbibgjcaaDoor
