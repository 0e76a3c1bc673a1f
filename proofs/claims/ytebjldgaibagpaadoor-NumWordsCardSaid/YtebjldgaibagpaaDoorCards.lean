/-
  DERIVED. GIVEN WITH THE SEED: THE CARDS: each row of YtebjldgaibagpaaDoorRows.lean that lists a variable, with what it lists TIED to the program's text (the seventh form; the later family's looks); each row that meets fmt, with fmt's text TOLD by the authors' own Lean function (tested against real Go, not proved from fmt's source: count such statements apart). THE CARD IS WHAT COUNTS. Prove the row's statement (the work); the ties are given (YtebjldgaibagpaaDoorTie.lean); close each card by the builder's one call (the guide's Derived/Test/ToyasCard.lean, 'card_holds'). Laid BY PROGRAM, IN A SANDBOX (cutbox-door.mjs). By AI agents, Wed Nov 11 2026. No macro, syntax, notation, axiom, sorry.
-/
import Derived.Test.YtebjldgaibagpaaDoorRows
import GoSem.ClaimSeven
namespace Go.Proofs.YtebjldgaibagpaaDoor
namespace Rows

/-- THE TIED CARD OF 'straddlelaw1.NumAny'. -/
def numAnyCard : Claim7 := { stood := { row := numAnyRow, standIns := [], harness := (true, "91cf8ff2c63a596a862749d250088a6eeaefb2bb5432a10f87b6994688b19487"), looks := true }, kinds := [], alts := [], laidByText := true, laidKinds := [.data, .data, .data, .sentinel, .sentinel], laidTests := true, laidLooks := .later }
def NumAnyCardSaid : Prop := Claim7.holds Tryd.pinned (.plain (OpenSpec.ofChange numAnySpec)) numAnyCard

/-- THE TIED CARD OF 'straddlelaw1.NumWords'. -/
def numWordsCard : Claim7 := { stood := { row := numWordsRow, standIns := [], harness := (true, "91cf8ff2c63a596a862749d250088a6eeaefb2bb5432a10f87b6994688b19487"), looks := true }, kinds := [], alts := [], laidByText := true, laidKinds := [.data, .data, .data, .sentinel, .sentinel], laidTests := true, laidLooks := .later }
def NumWordsCardSaid : Prop := Claim7.holds Tryd.pinned (.plain (OpenSpec.ofChange numWordsSpec)) numWordsCard

/-- THE TIED CARD OF 'straddlelaw1.NumDivides'. -/
def numDividesCard : Claim7 := { stood := { row := numDividesRow, standIns := [], harness := (true, "91cf8ff2c63a596a862749d250088a6eeaefb2bb5432a10f87b6994688b19487"), looks := true }, kinds := [], alts := [], laidByText := true, laidKinds := [.data, .data, .data, .sentinel, .sentinel], laidTests := true, laidLooks := .later }
def NumDividesCardSaid : Prop := Claim7.holds Tryd.pinned (.plain (OpenSpec.ofChange numDividesSpec)) numDividesCard

/-- THE TIED CARD OF 'straddlelaw1.NumTurns'. -/
def numTurnsCard : Claim7 := { stood := { row := numTurnsRow, standIns := [], harness := (true, "91cf8ff2c63a596a862749d250088a6eeaefb2bb5432a10f87b6994688b19487"), looks := true }, kinds := [], alts := [], laidByText := true, laidKinds := [.data, .data, .data, .sentinel, .sentinel], laidTests := true, laidLooks := .later }
def NumTurnsCardSaid : Prop := Claim7.holds Tryd.pinned (.plain (OpenSpec.ofChange numTurnsSpec)) numTurnsCard

/-- THE TIED CARD OF 'straddlelaw1.NumIn'. -/
def numInCard : Claim7 := { stood := { row := numInRow, standIns := [], harness := (true, "91cf8ff2c63a596a862749d250088a6eeaefb2bb5432a10f87b6994688b19487"), looks := true }, kinds := [], alts := [], laidByText := true, laidKinds := [.data, .data, .data, .sentinel, .sentinel], laidTests := true, laidLooks := .later }
def NumInCardSaid : Prop := Claim7.holds Tryd.pinned (.plain (OpenSpec.ofChange numInSpec)) numInCard

/-- THE SECOND FORM's CARD OF 'straddlelaw1.NumAny'. -/
def numAnyUptoCard : Claim7 := { stood := { row := numAnyUptoRow, standIns := [], harness := (true, "91cf8ff2c63a596a862749d250088a6eeaefb2bb5432a10f87b6994688b19487"), looks := true }, kinds := [], alts := [], laidByText := true, laidKinds := [.data, .data, .data, .sentinel, .sentinel], laidTests := true, laidLooks := .later }
def NumAnyUptoCardSaid : Prop := Claim7.holds Tryd.pinned (.plain (OpenSpec.upto numAnySpec)) numAnyUptoCard

/-- THE SECOND FORM's CARD OF 'straddlelaw1.NumWords'. -/
def numWordsUptoCard : Claim7 := { stood := { row := numWordsUptoRow, standIns := [], harness := (true, "91cf8ff2c63a596a862749d250088a6eeaefb2bb5432a10f87b6994688b19487"), looks := true }, kinds := [], alts := [], laidByText := true, laidKinds := [.data, .data, .data, .sentinel, .sentinel], laidTests := true, laidLooks := .later }
def NumWordsUptoCardSaid : Prop := Claim7.holds Tryd.pinned (.plain (OpenSpec.upto numWordsSpec)) numWordsUptoCard

/-- THE SECOND FORM's CARD OF 'straddlelaw1.NumDivides'. -/
def numDividesUptoCard : Claim7 := { stood := { row := numDividesUptoRow, standIns := [], harness := (true, "91cf8ff2c63a596a862749d250088a6eeaefb2bb5432a10f87b6994688b19487"), looks := true }, kinds := [], alts := [], laidByText := true, laidKinds := [.data, .data, .data, .sentinel, .sentinel], laidTests := true, laidLooks := .later }
def NumDividesUptoCardSaid : Prop := Claim7.holds Tryd.pinned (.plain (OpenSpec.upto numDividesSpec)) numDividesUptoCard

/-- THE SECOND FORM's CARD OF 'straddlelaw1.NumTurns'. -/
def numTurnsUptoCard : Claim7 := { stood := { row := numTurnsUptoRow, standIns := [], harness := (true, "91cf8ff2c63a596a862749d250088a6eeaefb2bb5432a10f87b6994688b19487"), looks := true }, kinds := [], alts := [], laidByText := true, laidKinds := [.data, .data, .data, .sentinel, .sentinel], laidTests := true, laidLooks := .later }
def NumTurnsUptoCardSaid : Prop := Claim7.holds Tryd.pinned (.plain (OpenSpec.upto numTurnsSpec)) numTurnsUptoCard

/-- THE SECOND FORM's CARD OF 'straddlelaw1.NumIn'. -/
def numInUptoCard : Claim7 := { stood := { row := numInUptoRow, standIns := [], harness := (true, "91cf8ff2c63a596a862749d250088a6eeaefb2bb5432a10f87b6994688b19487"), looks := true }, kinds := [], alts := [], laidByText := true, laidKinds := [.data, .data, .data, .sentinel, .sentinel], laidTests := true, laidLooks := .later }
def NumInUptoCardSaid : Prop := Claim7.holds Tryd.pinned (.plain (OpenSpec.upto numInSpec)) numInUptoCard
end Rows
end Go.Proofs.YtebjldgaibagpaaDoor
