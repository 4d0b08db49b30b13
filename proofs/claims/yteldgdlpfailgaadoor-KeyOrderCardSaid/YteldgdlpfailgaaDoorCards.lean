/-
  DERIVED. GIVEN WITH THE SEED: THE CARDS: each row of YteldgdlpfailgaaDoorRows.lean that lists a variable, with what it lists TIED to the program's text (the seventh form; the later family's looks); each row that meets fmt, with fmt's text TOLD by the authors' own Lean function (tested against real Go, not proved from fmt's source: count such statements apart). THE CARD IS WHAT COUNTS. Prove the row's statement (the work); the ties are given (YteldgdlpfailgaaDoorTie.lean); close each card by the builder's one call (the guide's Derived/Test/ToyasCard.lean, 'card_holds'). Laid BY PROGRAM, IN A SANDBOX (cutbox-door.mjs). By AI agents, Wed Nov 11 2026. No macro, syntax, notation, axiom, sorry.
-/
import Derived.Test.YteldgdlpfailgaaDoorRows
import GoSem.ClaimSeven
namespace Go.Proofs.YteldgdlpfailgaaDoor
namespace Rows

/-- THE TIED CARD OF 'offshootlaw07.KeyNames'. -/
def keyNamesCard : Claim7 := { stood := { row := keyNamesRow, standIns := [], harness := (true, "6b59ece516515498f677fb2637ff5e3be890bbf0e8de0903e98e288ee464a404"), looks := false }, kinds := [], alts := [], laidByText := true, laidKinds := [.data, .pinned], laidTests := true, laidLooks := .later }
def KeyNamesCardSaid : Prop := Claim7.holds Tryd.pinned (.plain (OpenSpec.ofChange keyNamesSpec)) keyNamesCard

/-- THE TIED CARD OF 'offshootlaw07.KeySpans'. -/
def keySpansCard : Claim7 := { stood := { row := keySpansRow, standIns := [], harness := (true, "6b59ece516515498f677fb2637ff5e3be890bbf0e8de0903e98e288ee464a404"), looks := false }, kinds := [], alts := [], laidByText := true, laidKinds := [.data, .pinned], laidTests := true, laidLooks := .later }
def KeySpansCardSaid : Prop := Claim7.holds Tryd.pinned (.plain (OpenSpec.ofChange keySpansSpec)) keySpansCard

/-- THE TIED CARD OF 'offshootlaw07.KeyOf'. -/
def keyOfCard : Claim7 := { stood := { row := keyOfRow, standIns := [], harness := (true, "6b59ece516515498f677fb2637ff5e3be890bbf0e8de0903e98e288ee464a404"), looks := false }, kinds := [], alts := [], laidByText := true, laidKinds := [.data, .pinned], laidTests := true, laidLooks := .later }
def KeyOfCardSaid : Prop := Claim7.holds Tryd.pinned (.plain (OpenSpec.ofChange keyOfSpec)) keyOfCard

/-- THE TIED CARD OF 'offshootlaw07.KeyOrder'. -/
def keyOrderCard : Claim7 := { stood := { row := keyOrderRow, standIns := [], harness := (true, "6b59ece516515498f677fb2637ff5e3be890bbf0e8de0903e98e288ee464a404"), looks := false }, kinds := [], alts := [], laidByText := true, laidKinds := [.data, .pinned], laidTests := true, laidLooks := .later }
def KeyOrderCardSaid : Prop := Claim7.holds Tryd.pinned (.plain (OpenSpec.ofChange keyOrderSpec)) keyOrderCard

/-- THE TIED CARD OF 'offshootlaw07.KeyNumbers'. -/
def keyNumbersCard : Claim7 := { stood := { row := keyNumbersRow, standIns := [], harness := (true, "6b59ece516515498f677fb2637ff5e3be890bbf0e8de0903e98e288ee464a404"), looks := false }, kinds := [], alts := [], laidByText := true, laidKinds := [.data, .pinned], laidTests := true, laidLooks := .later }
def KeyNumbersCardSaid : Prop := Claim7.holds Tryd.pinned (.plain (OpenSpec.ofChange keyNumbersSpec)) keyNumbersCard

/-- THE SECOND FORM's CARD OF 'offshootlaw07.KeyNames'. -/
def keyNamesUptoCard : Claim7 := { stood := { row := keyNamesUptoRow, standIns := [], harness := (true, "6b59ece516515498f677fb2637ff5e3be890bbf0e8de0903e98e288ee464a404"), looks := false }, kinds := [], alts := [], laidByText := true, laidKinds := [.data, .pinned], laidTests := true, laidLooks := .later }
def KeyNamesUptoCardSaid : Prop := Claim7.holds Tryd.pinned (.plain (OpenSpec.upto keyNamesSpec)) keyNamesUptoCard

/-- THE SECOND FORM's CARD OF 'offshootlaw07.KeySpans'. -/
def keySpansUptoCard : Claim7 := { stood := { row := keySpansUptoRow, standIns := [], harness := (true, "6b59ece516515498f677fb2637ff5e3be890bbf0e8de0903e98e288ee464a404"), looks := false }, kinds := [], alts := [], laidByText := true, laidKinds := [.data, .pinned], laidTests := true, laidLooks := .later }
def KeySpansUptoCardSaid : Prop := Claim7.holds Tryd.pinned (.plain (OpenSpec.upto keySpansSpec)) keySpansUptoCard

/-- THE SECOND FORM's CARD OF 'offshootlaw07.KeyOf'. -/
def keyOfUptoCard : Claim7 := { stood := { row := keyOfUptoRow, standIns := [], harness := (true, "6b59ece516515498f677fb2637ff5e3be890bbf0e8de0903e98e288ee464a404"), looks := false }, kinds := [], alts := [], laidByText := true, laidKinds := [.data, .pinned], laidTests := true, laidLooks := .later }
def KeyOfUptoCardSaid : Prop := Claim7.holds Tryd.pinned (.plain (OpenSpec.upto keyOfSpec)) keyOfUptoCard

/-- THE SECOND FORM's CARD OF 'offshootlaw07.KeyOrder'. -/
def keyOrderUptoCard : Claim7 := { stood := { row := keyOrderUptoRow, standIns := [], harness := (true, "6b59ece516515498f677fb2637ff5e3be890bbf0e8de0903e98e288ee464a404"), looks := false }, kinds := [], alts := [], laidByText := true, laidKinds := [.data, .pinned], laidTests := true, laidLooks := .later }
def KeyOrderUptoCardSaid : Prop := Claim7.holds Tryd.pinned (.plain (OpenSpec.upto keyOrderSpec)) keyOrderUptoCard

/-- THE SECOND FORM's CARD OF 'offshootlaw07.KeyNumbers'. -/
def keyNumbersUptoCard : Claim7 := { stood := { row := keyNumbersUptoRow, standIns := [], harness := (true, "6b59ece516515498f677fb2637ff5e3be890bbf0e8de0903e98e288ee464a404"), looks := false }, kinds := [], alts := [], laidByText := true, laidKinds := [.data, .pinned], laidTests := true, laidLooks := .later }
def KeyNumbersUptoCardSaid : Prop := Claim7.holds Tryd.pinned (.plain (OpenSpec.upto keyNumbersSpec)) keyNumbersUptoCard
end Rows
end Go.Proofs.YteldgdlpfailgaaDoor
