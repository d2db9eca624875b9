/-
  DERIVED. GIVEN WITH THE SEED: THE CARDS: each row of YtbcbhhpbgnmpaaaDoorRows.lean that lists a variable, with what it lists TIED to the program's text (the seventh form; the later family's looks); each row that meets fmt, with fmt's text TOLD by the authors' own Lean function (tested against real Go, not proved from fmt's source: count such statements apart). THE CARD IS WHAT COUNTS. Prove the row's statement (the work); the ties are given (YtbcbhhpbgnmpaaaDoorTie.lean); close each card by the builder's one call (the guide's Derived/Test/ToyasCard.lean, 'card_holds'). Laid BY PROGRAM, IN A SANDBOX (cutbox-door.mjs). By AI agents, Wed Nov 11 2026. No macro, syntax, notation, axiom, sorry.
-/
import Derived.Test.YtbcbhhpbgnmpaaaDoorRows
import GoSem.ClaimSeven
namespace Go.Proofs.YtbcbhhpbgnmpaaaDoor
namespace Rows

/-- THE TIED CARD OF 'antiquarylaw44.ExchangeStocksAsSpecified'. -/
def exchangeStocksAsSpecifiedCard : Claim7 := { stood := { row := exchangeStocksAsSpecifiedRow, standIns := [], harness := (true, "e346103cda88ba0ad97871390008402c7bd6cf37e956d4475f4664520be57fbf"), looks := false }, kinds := [], alts := [], laidByText := true, laidKinds := [.data, .data], laidTests := true, laidLooks := .later }
def ExchangeStocksAsSpecifiedCardSaid : Prop := Claim7.holds Tryd.pinned (.plain (OpenSpec.ofChange exchangeStocksAsSpecifiedSpec)) exchangeStocksAsSpecifiedCard

/-- THE TIED CARD OF 'antiquarylaw44.ExchangeHearsAsSpecified'. -/
def exchangeHearsAsSpecifiedCard : Claim7 := { stood := { row := exchangeHearsAsSpecifiedRow, standIns := [], harness := (true, "e346103cda88ba0ad97871390008402c7bd6cf37e956d4475f4664520be57fbf"), looks := false }, kinds := [], alts := [], laidByText := true, laidKinds := [.data, .data], laidTests := true, laidLooks := .later }
def ExchangeHearsAsSpecifiedCardSaid : Prop := Claim7.holds Tryd.pinned (.plain (OpenSpec.ofChange exchangeHearsAsSpecifiedSpec)) exchangeHearsAsSpecifiedCard

/-- THE TIED CARD OF 'antiquarylaw44.ExchangeMakesEqual'. -/
def exchangeMakesEqualCard : Claim7 := { stood := { row := exchangeMakesEqualRow, standIns := [], harness := (true, "e346103cda88ba0ad97871390008402c7bd6cf37e956d4475f4664520be57fbf"), looks := false }, kinds := [], alts := [], laidByText := true, laidKinds := [.data, .data], laidTests := true, laidLooks := .later }
def ExchangeMakesEqualCardSaid : Prop := Claim7.holds Tryd.pinned (.plain (OpenSpec.ofChange exchangeMakesEqualSpec)) exchangeMakesEqualCard

/-- THE TIED CARD OF 'antiquarylaw44.ExchangeBearsLosses'. -/
def exchangeBearsLossesCard : Claim7 := { stood := { row := exchangeBearsLossesRow, standIns := [], harness := (true, "e346103cda88ba0ad97871390008402c7bd6cf37e956d4475f4664520be57fbf"), looks := false }, kinds := [], alts := [], laidByText := true, laidKinds := [.data, .data], laidTests := true, laidLooks := .later }
def ExchangeBearsLossesCardSaid : Prop := Claim7.holds Tryd.pinned (.plain (OpenSpec.ofChange exchangeBearsLossesSpec)) exchangeBearsLossesCard

/-- THE TIED CARD OF 'antiquarylaw44.ExchangeSendsOnlyWhatIsNeeded'. -/
def exchangeSendsOnlyWhatIsNeededCard : Claim7 := { stood := { row := exchangeSendsOnlyWhatIsNeededRow, standIns := [], harness := (true, "e346103cda88ba0ad97871390008402c7bd6cf37e956d4475f4664520be57fbf"), looks := false }, kinds := [], alts := [], laidByText := true, laidKinds := [.data, .data], laidTests := true, laidLooks := .later }
def ExchangeSendsOnlyWhatIsNeededCardSaid : Prop := Claim7.holds Tryd.pinned (.plain (OpenSpec.ofChange exchangeSendsOnlyWhatIsNeededSpec)) exchangeSendsOnlyWhatIsNeededCard

/-- THE TIED CARD OF 'antiquarylaw44.ExchangeHalvesDivide'. -/
def exchangeHalvesDivideCard : Claim7 := { stood := { row := exchangeHalvesDivideRow, standIns := [], harness := (true, "e346103cda88ba0ad97871390008402c7bd6cf37e956d4475f4664520be57fbf"), looks := false }, kinds := [], alts := [], laidByText := true, laidKinds := [.data, .data], laidTests := true, laidLooks := .later }
def ExchangeHalvesDivideCardSaid : Prop := Claim7.holds Tryd.pinned (.plain (OpenSpec.ofChange exchangeHalvesDivideSpec)) exchangeHalvesDivideCard

/-- THE SECOND FORM's CARD OF 'antiquarylaw44.ExchangeStocksAsSpecified'. -/
def exchangeStocksAsSpecifiedUptoCard : Claim7 := { stood := { row := exchangeStocksAsSpecifiedUptoRow, standIns := [], harness := (true, "e346103cda88ba0ad97871390008402c7bd6cf37e956d4475f4664520be57fbf"), looks := false }, kinds := [], alts := [], laidByText := true, laidKinds := [.data, .data], laidTests := true, laidLooks := .later }
def ExchangeStocksAsSpecifiedUptoCardSaid : Prop := Claim7.holds Tryd.pinned (.plain (OpenSpec.upto exchangeStocksAsSpecifiedSpec)) exchangeStocksAsSpecifiedUptoCard

/-- THE SECOND FORM's CARD OF 'antiquarylaw44.ExchangeHearsAsSpecified'. -/
def exchangeHearsAsSpecifiedUptoCard : Claim7 := { stood := { row := exchangeHearsAsSpecifiedUptoRow, standIns := [], harness := (true, "e346103cda88ba0ad97871390008402c7bd6cf37e956d4475f4664520be57fbf"), looks := false }, kinds := [], alts := [], laidByText := true, laidKinds := [.data, .data], laidTests := true, laidLooks := .later }
def ExchangeHearsAsSpecifiedUptoCardSaid : Prop := Claim7.holds Tryd.pinned (.plain (OpenSpec.upto exchangeHearsAsSpecifiedSpec)) exchangeHearsAsSpecifiedUptoCard

/-- THE SECOND FORM's CARD OF 'antiquarylaw44.ExchangeMakesEqual'. -/
def exchangeMakesEqualUptoCard : Claim7 := { stood := { row := exchangeMakesEqualUptoRow, standIns := [], harness := (true, "e346103cda88ba0ad97871390008402c7bd6cf37e956d4475f4664520be57fbf"), looks := false }, kinds := [], alts := [], laidByText := true, laidKinds := [.data, .data], laidTests := true, laidLooks := .later }
def ExchangeMakesEqualUptoCardSaid : Prop := Claim7.holds Tryd.pinned (.plain (OpenSpec.upto exchangeMakesEqualSpec)) exchangeMakesEqualUptoCard

/-- THE SECOND FORM's CARD OF 'antiquarylaw44.ExchangeBearsLosses'. -/
def exchangeBearsLossesUptoCard : Claim7 := { stood := { row := exchangeBearsLossesUptoRow, standIns := [], harness := (true, "e346103cda88ba0ad97871390008402c7bd6cf37e956d4475f4664520be57fbf"), looks := false }, kinds := [], alts := [], laidByText := true, laidKinds := [.data, .data], laidTests := true, laidLooks := .later }
def ExchangeBearsLossesUptoCardSaid : Prop := Claim7.holds Tryd.pinned (.plain (OpenSpec.upto exchangeBearsLossesSpec)) exchangeBearsLossesUptoCard

/-- THE SECOND FORM's CARD OF 'antiquarylaw44.ExchangeSendsOnlyWhatIsNeeded'. -/
def exchangeSendsOnlyWhatIsNeededUptoCard : Claim7 := { stood := { row := exchangeSendsOnlyWhatIsNeededUptoRow, standIns := [], harness := (true, "e346103cda88ba0ad97871390008402c7bd6cf37e956d4475f4664520be57fbf"), looks := false }, kinds := [], alts := [], laidByText := true, laidKinds := [.data, .data], laidTests := true, laidLooks := .later }
def ExchangeSendsOnlyWhatIsNeededUptoCardSaid : Prop := Claim7.holds Tryd.pinned (.plain (OpenSpec.upto exchangeSendsOnlyWhatIsNeededSpec)) exchangeSendsOnlyWhatIsNeededUptoCard

/-- THE SECOND FORM's CARD OF 'antiquarylaw44.ExchangeHalvesDivide'. -/
def exchangeHalvesDivideUptoCard : Claim7 := { stood := { row := exchangeHalvesDivideUptoRow, standIns := [], harness := (true, "e346103cda88ba0ad97871390008402c7bd6cf37e956d4475f4664520be57fbf"), looks := false }, kinds := [], alts := [], laidByText := true, laidKinds := [.data, .data], laidTests := true, laidLooks := .later }
def ExchangeHalvesDivideUptoCardSaid : Prop := Claim7.holds Tryd.pinned (.plain (OpenSpec.upto exchangeHalvesDivideSpec)) exchangeHalvesDivideUptoCard
end Rows
end Go.Proofs.YtbcbhhpbgnmpaaaDoor
