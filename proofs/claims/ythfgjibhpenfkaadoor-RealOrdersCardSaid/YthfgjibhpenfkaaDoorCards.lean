/-
  DERIVED. GIVEN WITH THE SEED: THE CARDS: each row of YthfgjibhpenfkaaDoorRows.lean that lists a variable, with what it lists TIED to the program's text (the seventh form; the later family's looks); each row that meets fmt, with fmt's text TOLD by the authors' own Lean function (tested against real Go, not proved from fmt's source: count such statements apart). THE CARD IS WHAT COUNTS. Prove the row's statement (the work); the ties are given (YthfgjibhpenfkaaDoorTie.lean); close each card by the builder's one call (the guide's Derived/Test/ToyasCard.lean, 'card_holds'). Laid BY PROGRAM, IN A SANDBOX (cutbox-door.mjs). By AI agents, Wed Nov 11 2026. No macro, syntax, notation, axiom, sorry.
-/
import Derived.Test.YthfgjibhpenfkaaDoorRows
import GoSem.ClaimSeven
namespace Go.Proofs.YthfgjibhpenfkaaDoor
namespace Rows

/-- THE TIED CARD OF 'millracelaw03.RealLong'. -/
def realLongCard : Claim7 := { stood := { row := realLongRow, standIns := [], harness := (true, "c585db339e44407d963f012dc78b20c29cad62d6a794c9132989fd6c8c0cd7df"), looks := false }, kinds := [], alts := [], laidByText := true, laidKinds := [.data, .data, .data], laidTests := true, laidLooks := .later }
def RealLongCardSaid : Prop := Claim7.holds Tryd.pinned (.plain (OpenSpec.ofChange realLongSpec)) realLongCard

/-- THE TIED CARD OF 'millracelaw03.RealHolds'. -/
def realHoldsCard : Claim7 := { stood := { row := realHoldsRow, standIns := [], harness := (true, "c585db339e44407d963f012dc78b20c29cad62d6a794c9132989fd6c8c0cd7df"), looks := false }, kinds := [], alts := [], laidByText := true, laidKinds := [.data, .data, .data], laidTests := true, laidLooks := .later }
def RealHoldsCardSaid : Prop := Claim7.holds Tryd.pinned (.plain (OpenSpec.ofChange realHoldsSpec)) realHoldsCard

/-- THE TIED CARD OF 'millracelaw03.RealOrders'. -/
def realOrdersCard : Claim7 := { stood := { row := realOrdersRow, standIns := [], harness := (true, "c585db339e44407d963f012dc78b20c29cad62d6a794c9132989fd6c8c0cd7df"), looks := false }, kinds := [], alts := [], laidByText := true, laidKinds := [.data, .data, .data], laidTests := true, laidLooks := .later }
def RealOrdersCardSaid : Prop := Claim7.holds Tryd.pinned (.plain (OpenSpec.ofChange realOrdersSpec)) realOrdersCard

/-- THE TIED CARD OF 'millracelaw03.RealSorted'. -/
def realSortedCard : Claim7 := { stood := { row := realSortedRow, standIns := [], harness := (true, "c585db339e44407d963f012dc78b20c29cad62d6a794c9132989fd6c8c0cd7df"), looks := false }, kinds := [], alts := [], laidByText := true, laidKinds := [.data, .data, .data], laidTests := true, laidLooks := .later }
def RealSortedCardSaid : Prop := Claim7.holds Tryd.pinned (.plain (OpenSpec.ofChange realSortedSpec)) realSortedCard

/-- THE TIED CARD OF 'millracelaw03.RealLists'. -/
def realListsCard : Claim7 := { stood := { row := realListsRow, standIns := [], harness := (true, "c585db339e44407d963f012dc78b20c29cad62d6a794c9132989fd6c8c0cd7df"), looks := false }, kinds := [], alts := [], laidByText := true, laidKinds := [.data, .data, .data], laidTests := true, laidLooks := .later }
def RealListsCardSaid : Prop := Claim7.holds Tryd.pinned (.plain (OpenSpec.ofChange realListsSpec)) realListsCard

/-- THE SECOND FORM's CARD OF 'millracelaw03.RealLong'. -/
def realLongUptoCard : Claim7 := { stood := { row := realLongUptoRow, standIns := [], harness := (true, "c585db339e44407d963f012dc78b20c29cad62d6a794c9132989fd6c8c0cd7df"), looks := false }, kinds := [], alts := [], laidByText := true, laidKinds := [.data, .data, .data], laidTests := true, laidLooks := .later }
def RealLongUptoCardSaid : Prop := Claim7.holds Tryd.pinned (.plain (OpenSpec.upto realLongSpec)) realLongUptoCard

/-- THE SECOND FORM's CARD OF 'millracelaw03.RealHolds'. -/
def realHoldsUptoCard : Claim7 := { stood := { row := realHoldsUptoRow, standIns := [], harness := (true, "c585db339e44407d963f012dc78b20c29cad62d6a794c9132989fd6c8c0cd7df"), looks := false }, kinds := [], alts := [], laidByText := true, laidKinds := [.data, .data, .data], laidTests := true, laidLooks := .later }
def RealHoldsUptoCardSaid : Prop := Claim7.holds Tryd.pinned (.plain (OpenSpec.upto realHoldsSpec)) realHoldsUptoCard

/-- THE SECOND FORM's CARD OF 'millracelaw03.RealOrders'. -/
def realOrdersUptoCard : Claim7 := { stood := { row := realOrdersUptoRow, standIns := [], harness := (true, "c585db339e44407d963f012dc78b20c29cad62d6a794c9132989fd6c8c0cd7df"), looks := false }, kinds := [], alts := [], laidByText := true, laidKinds := [.data, .data, .data], laidTests := true, laidLooks := .later }
def RealOrdersUptoCardSaid : Prop := Claim7.holds Tryd.pinned (.plain (OpenSpec.upto realOrdersSpec)) realOrdersUptoCard

/-- THE SECOND FORM's CARD OF 'millracelaw03.RealSorted'. -/
def realSortedUptoCard : Claim7 := { stood := { row := realSortedUptoRow, standIns := [], harness := (true, "c585db339e44407d963f012dc78b20c29cad62d6a794c9132989fd6c8c0cd7df"), looks := false }, kinds := [], alts := [], laidByText := true, laidKinds := [.data, .data, .data], laidTests := true, laidLooks := .later }
def RealSortedUptoCardSaid : Prop := Claim7.holds Tryd.pinned (.plain (OpenSpec.upto realSortedSpec)) realSortedUptoCard

/-- THE SECOND FORM's CARD OF 'millracelaw03.RealLists'. -/
def realListsUptoCard : Claim7 := { stood := { row := realListsUptoRow, standIns := [], harness := (true, "c585db339e44407d963f012dc78b20c29cad62d6a794c9132989fd6c8c0cd7df"), looks := false }, kinds := [], alts := [], laidByText := true, laidKinds := [.data, .data, .data], laidTests := true, laidLooks := .later }
def RealListsUptoCardSaid : Prop := Claim7.holds Tryd.pinned (.plain (OpenSpec.upto realListsSpec)) realListsUptoCard
end Rows
end Go.Proofs.YthfgjibhpenfkaaDoor
