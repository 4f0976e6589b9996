/-
  DERIVED. GIVEN WITH THE SEED: THE CARDS: each row of YtmibifmabkaakaaDoorRows.lean that lists a variable, with what it lists TIED to the program's text (the seventh form; the later family's looks); each row that meets fmt, with fmt's text TOLD by the authors' own Lean function (tested against real Go, not proved from fmt's source: count such statements apart). THE CARD IS WHAT COUNTS. Prove the row's statement (the work); the ties are given (YtmibifmabkaakaaDoorTie.lean); close each card by the builder's one call (the guide's Derived/Test/ToyasCard.lean, 'card_holds'). Laid BY PROGRAM, IN A SANDBOX (cutbox-door.mjs). By AI agents, Wed Nov 11 2026. No macro, syntax, notation, axiom, sorry.
-/
import Derived.Test.YtmibifmabkaakaaDoorRows
import GoSem.ClaimSeven
namespace Go.Proofs.YtmibifmabkaakaaDoor
namespace Rows

/-- THE TIED CARD OF 'lotdrawertop.TopStack'. -/
def topStackCard : Claim7 := { stood := { row := topStackRow, standIns := [], harness := (true, "5303ac37c4f71e41c8e00bb9216e27e8c7ef641be89b392aff1f14188873f9c4"), looks := true }, kinds := [], alts := [], laidByText := true, laidKinds := [.data, .data, .data, .data, .sentinel, .sentinel, .pinned], laidTests := true, laidLooks := .later }
def TopStackCardSaid : Prop := Claim7.holds Tryd.pinned (.plain (OpenSpec.ofChange topStackSpec)) topStackCard

/-- THE TIED CARD OF 'lotdrawertop.TopOrders'. -/
def topOrdersCard : Claim7 := { stood := { row := topOrdersRow, standIns := [], harness := (true, "5303ac37c4f71e41c8e00bb9216e27e8c7ef641be89b392aff1f14188873f9c4"), looks := true }, kinds := [], alts := [], laidByText := true, laidKinds := [.data, .data, .data, .data, .sentinel, .sentinel, .pinned], laidTests := true, laidLooks := .later }
def TopOrdersCardSaid : Prop := Claim7.holds Tryd.pinned (.plain (OpenSpec.ofChange topOrdersSpec)) topOrdersCard

/-- THE TIED CARD OF 'lotdrawertop.TopRuin'. -/
def topRuinCard : Claim7 := { stood := { row := topRuinRow, standIns := [], harness := (true, "5303ac37c4f71e41c8e00bb9216e27e8c7ef641be89b392aff1f14188873f9c4"), looks := true }, kinds := [], alts := [], laidByText := true, laidKinds := [.data, .data, .data, .data, .sentinel, .sentinel, .pinned], laidTests := true, laidLooks := .later }
def TopRuinCardSaid : Prop := Claim7.holds Tryd.pinned (.plain (OpenSpec.ofChange topRuinSpec)) topRuinCard

/-- THE TIED CARD OF 'lotdrawertop.TopAgree'. -/
def topAgreeCard : Claim7 := { stood := { row := topAgreeRow, standIns := [], harness := (true, "5303ac37c4f71e41c8e00bb9216e27e8c7ef641be89b392aff1f14188873f9c4"), looks := true }, kinds := [], alts := [], laidByText := true, laidKinds := [.data, .data, .data, .data, .sentinel, .sentinel, .pinned], laidTests := true, laidLooks := .later }
def TopAgreeCardSaid : Prop := Claim7.holds Tryd.pinned (.plain (OpenSpec.ofChange topAgreeSpec)) topAgreeCard

/-- THE TIED CARD OF 'lotdrawertop.TopDealt'. -/
def topDealtCard : Claim7 := { stood := { row := topDealtRow, standIns := [], harness := (true, "5303ac37c4f71e41c8e00bb9216e27e8c7ef641be89b392aff1f14188873f9c4"), looks := true }, kinds := [], alts := [], laidByText := true, laidKinds := [.data, .data, .data, .data, .sentinel, .sentinel, .pinned], laidTests := true, laidLooks := .later }
def TopDealtCardSaid : Prop := Claim7.holds Tryd.pinned (.plain (OpenSpec.ofChange topDealtSpec)) topDealtCard

/-- THE TIED CARD OF 'lotdrawerlaw.BenchTells'. -/
def benchTellsCard : Claim7 := { stood := { row := benchTellsRow, standIns := [], harness := (true, "5303ac37c4f71e41c8e00bb9216e27e8c7ef641be89b392aff1f14188873f9c4"), looks := true }, kinds := [], alts := [], laidByText := true, laidKinds := [.data, .data, .data, .data, .sentinel, .sentinel, .pinned], laidTests := true, laidLooks := .later }
def BenchTellsCardSaid : Prop := Claim7.holds Tryd.pinned (.plain (OpenSpec.ofChange benchTellsSpec)) benchTellsCard

/-- THE TIED CARD OF 'lotdrawerlaw.BenchReads'. -/
def benchReadsCard : Claim7 := { stood := { row := benchReadsRow, standIns := [], harness := (true, "5303ac37c4f71e41c8e00bb9216e27e8c7ef641be89b392aff1f14188873f9c4"), looks := true }, kinds := [], alts := [], laidByText := true, laidKinds := [.data, .data, .data, .data, .sentinel, .sentinel, .pinned], laidTests := true, laidLooks := .later }
def BenchReadsCardSaid : Prop := Claim7.holds Tryd.pinned (.plain (OpenSpec.ofChange benchReadsSpec)) benchReadsCard

/-- THE TIED CARD OF 'lotdrawerlaw.GrayRows'. -/
def grayRowsCard : Claim7 := { stood := { row := grayRowsRow, standIns := [], harness := (true, "5303ac37c4f71e41c8e00bb9216e27e8c7ef641be89b392aff1f14188873f9c4"), looks := true }, kinds := [], alts := [], laidByText := true, laidKinds := [.data], laidTests := true, laidLooks := .later }
def GrayRowsCardSaid : Prop := Claim7.holds Tryd.pinned (.plain (OpenSpec.ofChange grayRowsSpec)) grayRowsCard

/-- THE SECOND FORM's CARD OF 'lotdrawertop.TopStack'. -/
def topStackUptoCard : Claim7 := { stood := { row := topStackUptoRow, standIns := [], harness := (true, "5303ac37c4f71e41c8e00bb9216e27e8c7ef641be89b392aff1f14188873f9c4"), looks := true }, kinds := [], alts := [], laidByText := true, laidKinds := [.data, .data, .data, .data, .sentinel, .sentinel, .pinned], laidTests := true, laidLooks := .later }
def TopStackUptoCardSaid : Prop := Claim7.holds Tryd.pinned (.plain (OpenSpec.upto topStackSpec)) topStackUptoCard

/-- THE SECOND FORM's CARD OF 'lotdrawertop.TopOrders'. -/
def topOrdersUptoCard : Claim7 := { stood := { row := topOrdersUptoRow, standIns := [], harness := (true, "5303ac37c4f71e41c8e00bb9216e27e8c7ef641be89b392aff1f14188873f9c4"), looks := true }, kinds := [], alts := [], laidByText := true, laidKinds := [.data, .data, .data, .data, .sentinel, .sentinel, .pinned], laidTests := true, laidLooks := .later }
def TopOrdersUptoCardSaid : Prop := Claim7.holds Tryd.pinned (.plain (OpenSpec.upto topOrdersSpec)) topOrdersUptoCard

/-- THE SECOND FORM's CARD OF 'lotdrawertop.TopRuin'. -/
def topRuinUptoCard : Claim7 := { stood := { row := topRuinUptoRow, standIns := [], harness := (true, "5303ac37c4f71e41c8e00bb9216e27e8c7ef641be89b392aff1f14188873f9c4"), looks := true }, kinds := [], alts := [], laidByText := true, laidKinds := [.data, .data, .data, .data, .sentinel, .sentinel, .pinned], laidTests := true, laidLooks := .later }
def TopRuinUptoCardSaid : Prop := Claim7.holds Tryd.pinned (.plain (OpenSpec.upto topRuinSpec)) topRuinUptoCard

/-- THE SECOND FORM's CARD OF 'lotdrawertop.TopAgree'. -/
def topAgreeUptoCard : Claim7 := { stood := { row := topAgreeUptoRow, standIns := [], harness := (true, "5303ac37c4f71e41c8e00bb9216e27e8c7ef641be89b392aff1f14188873f9c4"), looks := true }, kinds := [], alts := [], laidByText := true, laidKinds := [.data, .data, .data, .data, .sentinel, .sentinel, .pinned], laidTests := true, laidLooks := .later }
def TopAgreeUptoCardSaid : Prop := Claim7.holds Tryd.pinned (.plain (OpenSpec.upto topAgreeSpec)) topAgreeUptoCard

/-- THE SECOND FORM's CARD OF 'lotdrawertop.TopDealt'. -/
def topDealtUptoCard : Claim7 := { stood := { row := topDealtUptoRow, standIns := [], harness := (true, "5303ac37c4f71e41c8e00bb9216e27e8c7ef641be89b392aff1f14188873f9c4"), looks := true }, kinds := [], alts := [], laidByText := true, laidKinds := [.data, .data, .data, .data, .sentinel, .sentinel, .pinned], laidTests := true, laidLooks := .later }
def TopDealtUptoCardSaid : Prop := Claim7.holds Tryd.pinned (.plain (OpenSpec.upto topDealtSpec)) topDealtUptoCard

/-- THE SECOND FORM's CARD OF 'lotdrawerlaw.BenchTells'. -/
def benchTellsUptoCard : Claim7 := { stood := { row := benchTellsUptoRow, standIns := [], harness := (true, "5303ac37c4f71e41c8e00bb9216e27e8c7ef641be89b392aff1f14188873f9c4"), looks := true }, kinds := [], alts := [], laidByText := true, laidKinds := [.data, .data, .data, .data, .sentinel, .sentinel, .pinned], laidTests := true, laidLooks := .later }
def BenchTellsUptoCardSaid : Prop := Claim7.holds Tryd.pinned (.plain (OpenSpec.upto benchTellsSpec)) benchTellsUptoCard

/-- THE SECOND FORM's CARD OF 'lotdrawerlaw.BenchReads'. -/
def benchReadsUptoCard : Claim7 := { stood := { row := benchReadsUptoRow, standIns := [], harness := (true, "5303ac37c4f71e41c8e00bb9216e27e8c7ef641be89b392aff1f14188873f9c4"), looks := true }, kinds := [], alts := [], laidByText := true, laidKinds := [.data, .data, .data, .data, .sentinel, .sentinel, .pinned], laidTests := true, laidLooks := .later }
def BenchReadsUptoCardSaid : Prop := Claim7.holds Tryd.pinned (.plain (OpenSpec.upto benchReadsSpec)) benchReadsUptoCard

/-- THE SECOND FORM's CARD OF 'lotdrawerlaw.GrayRows'. -/
def grayRowsUptoCard : Claim7 := { stood := { row := grayRowsUptoRow, standIns := [], harness := (true, "5303ac37c4f71e41c8e00bb9216e27e8c7ef641be89b392aff1f14188873f9c4"), looks := true }, kinds := [], alts := [], laidByText := true, laidKinds := [.data], laidTests := true, laidLooks := .later }
def GrayRowsUptoCardSaid : Prop := Claim7.holds Tryd.pinned (.plain (OpenSpec.upto grayRowsSpec)) grayRowsUptoCard
end Rows
end Go.Proofs.YtmibifmabkaakaaDoor
