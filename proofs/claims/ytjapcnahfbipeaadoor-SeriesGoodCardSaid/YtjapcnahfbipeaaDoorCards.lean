/-
  DERIVED. GIVEN WITH THE SEED: THE CARDS: each row of YtjapcnahfbipeaaDoorRows.lean that lists a variable, with what it lists TIED to the program's text (the seventh form; the later family's looks); each row that meets fmt, with fmt's text TOLD by the authors' own Lean function (tested against real Go, not proved from fmt's source: count such statements apart). THE CARD IS WHAT COUNTS. Prove the row's statement (the work); the ties are given (YtjapcnahfbipeaaDoorTie.lean); close each card by the builder's one call (the guide's Derived/Test/ToyasCard.lean, 'card_holds'). Laid BY PROGRAM, IN A SANDBOX (cutbox-door.mjs). By AI agents, Wed Nov 11 2026. No macro, syntax, notation, axiom, sorry.
-/
import Derived.Test.YtjapcnahfbipeaaDoorRows
import GoSem.ClaimSeven
namespace Go.Proofs.YtjapcnahfbipeaaDoor
namespace Rows

/-- THE TIED CARD OF 'straddlelaw7.SeriesTwo'. -/
def seriesTwoCard : Claim7 := { stood := { row := seriesTwoRow, standIns := [], harness := (true, "ca80db314b7631902ffe7748ad51aa2e8e886cd0e1169d133ff170aa212bd360"), looks := true }, kinds := [], alts := [], laidByText := true, laidKinds := [.data, .data, .data, .data, .sentinel, .sentinel, .pinned], laidTests := true, laidLooks := .later }
def SeriesTwoCardSaid : Prop := Claim7.holds Tryd.pinned (.plain (OpenSpec.ofChange seriesTwoSpec)) seriesTwoCard

/-- THE TIED CARD OF 'straddlelaw7.SeriesThree'. -/
def seriesThreeCard : Claim7 := { stood := { row := seriesThreeRow, standIns := [], harness := (true, "ca80db314b7631902ffe7748ad51aa2e8e886cd0e1169d133ff170aa212bd360"), looks := true }, kinds := [], alts := [], laidByText := true, laidKinds := [.data, .data, .data, .data, .sentinel, .sentinel, .pinned], laidTests := true, laidLooks := .later }
def SeriesThreeCardSaid : Prop := Claim7.holds Tryd.pinned (.plain (OpenSpec.ofChange seriesThreeSpec)) seriesThreeCard

/-- THE TIED CARD OF 'straddlelaw7.SeriesGood'. -/
def seriesGoodCard : Claim7 := { stood := { row := seriesGoodRow, standIns := [], harness := (true, "ca80db314b7631902ffe7748ad51aa2e8e886cd0e1169d133ff170aa212bd360"), looks := true }, kinds := [], alts := [], laidByText := true, laidKinds := [.data, .data, .data, .data, .sentinel, .sentinel, .pinned], laidTests := true, laidLooks := .later }
def SeriesGoodCardSaid : Prop := Claim7.holds Tryd.pinned (.plain (OpenSpec.ofChange seriesGoodSpec)) seriesGoodCard

/-- THE SECOND FORM's CARD OF 'straddlelaw7.SeriesTwo'. -/
def seriesTwoUptoCard : Claim7 := { stood := { row := seriesTwoUptoRow, standIns := [], harness := (true, "ca80db314b7631902ffe7748ad51aa2e8e886cd0e1169d133ff170aa212bd360"), looks := true }, kinds := [], alts := [], laidByText := true, laidKinds := [.data, .data, .data, .data, .sentinel, .sentinel, .pinned], laidTests := true, laidLooks := .later }
def SeriesTwoUptoCardSaid : Prop := Claim7.holds Tryd.pinned (.plain (OpenSpec.upto seriesTwoSpec)) seriesTwoUptoCard

/-- THE SECOND FORM's CARD OF 'straddlelaw7.SeriesThree'. -/
def seriesThreeUptoCard : Claim7 := { stood := { row := seriesThreeUptoRow, standIns := [], harness := (true, "ca80db314b7631902ffe7748ad51aa2e8e886cd0e1169d133ff170aa212bd360"), looks := true }, kinds := [], alts := [], laidByText := true, laidKinds := [.data, .data, .data, .data, .sentinel, .sentinel, .pinned], laidTests := true, laidLooks := .later }
def SeriesThreeUptoCardSaid : Prop := Claim7.holds Tryd.pinned (.plain (OpenSpec.upto seriesThreeSpec)) seriesThreeUptoCard

/-- THE SECOND FORM's CARD OF 'straddlelaw7.SeriesGood'. -/
def seriesGoodUptoCard : Claim7 := { stood := { row := seriesGoodUptoRow, standIns := [], harness := (true, "ca80db314b7631902ffe7748ad51aa2e8e886cd0e1169d133ff170aa212bd360"), looks := true }, kinds := [], alts := [], laidByText := true, laidKinds := [.data, .data, .data, .data, .sentinel, .sentinel, .pinned], laidTests := true, laidLooks := .later }
def SeriesGoodUptoCardSaid : Prop := Claim7.holds Tryd.pinned (.plain (OpenSpec.upto seriesGoodSpec)) seriesGoodUptoCard
end Rows
end Go.Proofs.YtjapcnahfbipeaaDoor
