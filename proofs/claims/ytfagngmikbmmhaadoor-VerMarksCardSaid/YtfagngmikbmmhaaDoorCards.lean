/-
  DERIVED. GIVEN WITH THE SEED: THE CARDS: each row of YtfagngmikbmmhaaDoorRows.lean that lists a variable, with what it lists TIED to the program's text (the seventh form; the later family's looks); each row that meets fmt, with fmt's text TOLD by the authors' own Lean function (tested against real Go, not proved from fmt's source: count such statements apart). THE CARD IS WHAT COUNTS. Prove the row's statement (the work); the ties are given (YtfagngmikbmmhaaDoorTie.lean); close each card by the builder's one call (the guide's Derived/Test/ToyasCard.lean, 'card_holds'). Laid BY PROGRAM, IN A SANDBOX (cutbox-door.mjs). By AI agents, Wed Nov 11 2026. No macro, syntax, notation, axiom, sorry.
-/
import Derived.Test.YtfagngmikbmmhaaDoorRows
import GoSem.ClaimSeven
namespace Go.Proofs.YtfagngmikbmmhaaDoor
namespace Rows

/-- THE TIED CARD OF 'haversacklaw9.VerReads'. -/
def verReadsCard : Claim7 := { stood := { row := verReadsRow, standIns := [], harness := (true, "c8cc479ebc07c6dd37b1c0a48028e08ff5da1bbbe80c9a0c4a5cf41d3f1fd01f"), looks := true }, kinds := [], alts := [], laidByText := true, laidKinds := [.data, .data, .data, .data, .sentinel, .sentinel, .pinned], laidTests := true, laidLooks := .later }
def VerReadsCardSaid : Prop := Claim7.holds Tryd.pinned (.plain (OpenSpec.ofChange verReadsSpec)) verReadsCard

/-- THE TIED CARD OF 'haversacklaw9.VerTells'. -/
def verTellsCard : Claim7 := { stood := { row := verTellsRow, standIns := [], harness := (true, "c8cc479ebc07c6dd37b1c0a48028e08ff5da1bbbe80c9a0c4a5cf41d3f1fd01f"), looks := true }, kinds := [], alts := [], laidByText := true, laidKinds := [.data, .data, .data, .data, .sentinel, .sentinel, .pinned], laidTests := true, laidLooks := .later }
def VerTellsCardSaid : Prop := Claim7.holds Tryd.pinned (.plain (OpenSpec.ofChange verTellsSpec)) verTellsCard

/-- THE TIED CARD OF 'haversacklaw9.VerOrder'. -/
def verOrderCard : Claim7 := { stood := { row := verOrderRow, standIns := [], harness := (true, "c8cc479ebc07c6dd37b1c0a48028e08ff5da1bbbe80c9a0c4a5cf41d3f1fd01f"), looks := true }, kinds := [], alts := [], laidByText := true, laidKinds := [.data, .data, .data, .data, .sentinel, .sentinel, .pinned], laidTests := true, laidLooks := .later }
def VerOrderCardSaid : Prop := Claim7.holds Tryd.pinned (.plain (OpenSpec.ofChange verOrderSpec)) verOrderCard

/-- THE TIED CARD OF 'haversacklaw9.VerNext'. -/
def verNextCard : Claim7 := { stood := { row := verNextRow, standIns := [], harness := (true, "c8cc479ebc07c6dd37b1c0a48028e08ff5da1bbbe80c9a0c4a5cf41d3f1fd01f"), looks := true }, kinds := [], alts := [], laidByText := true, laidKinds := [.data, .data, .data, .data, .sentinel, .sentinel, .pinned], laidTests := true, laidLooks := .later }
def VerNextCardSaid : Prop := Claim7.holds Tryd.pinned (.plain (OpenSpec.ofChange verNextSpec)) verNextCard

/-- THE TIED CARD OF 'haversacklaw9.VerMarks'. -/
def verMarksCard : Claim7 := { stood := { row := verMarksRow, standIns := [], harness := (true, "c8cc479ebc07c6dd37b1c0a48028e08ff5da1bbbe80c9a0c4a5cf41d3f1fd01f"), looks := true }, kinds := [], alts := [], laidByText := true, laidKinds := [.data, .data, .data, .data, .sentinel, .sentinel, .pinned], laidTests := true, laidLooks := .later }
def VerMarksCardSaid : Prop := Claim7.holds Tryd.pinned (.plain (OpenSpec.ofChange verMarksSpec)) verMarksCard

/-- THE TIED CARD OF 'haversacklaw9.VerNumbers'. -/
def verNumbersCard : Claim7 := { stood := { row := verNumbersRow, standIns := [], harness := (true, "c8cc479ebc07c6dd37b1c0a48028e08ff5da1bbbe80c9a0c4a5cf41d3f1fd01f"), looks := true }, kinds := [], alts := [], laidByText := true, laidKinds := [.data, .data, .data, .data, .sentinel, .sentinel, .pinned], laidTests := true, laidLooks := .later }
def VerNumbersCardSaid : Prop := Claim7.holds Tryd.pinned (.plain (OpenSpec.ofChange verNumbersSpec)) verNumbersCard

/-- THE SECOND FORM's CARD OF 'haversacklaw9.VerReads'. -/
def verReadsUptoCard : Claim7 := { stood := { row := verReadsUptoRow, standIns := [], harness := (true, "c8cc479ebc07c6dd37b1c0a48028e08ff5da1bbbe80c9a0c4a5cf41d3f1fd01f"), looks := true }, kinds := [], alts := [], laidByText := true, laidKinds := [.data, .data, .data, .data, .sentinel, .sentinel, .pinned], laidTests := true, laidLooks := .later }
def VerReadsUptoCardSaid : Prop := Claim7.holds Tryd.pinned (.plain (OpenSpec.upto verReadsSpec)) verReadsUptoCard

/-- THE SECOND FORM's CARD OF 'haversacklaw9.VerTells'. -/
def verTellsUptoCard : Claim7 := { stood := { row := verTellsUptoRow, standIns := [], harness := (true, "c8cc479ebc07c6dd37b1c0a48028e08ff5da1bbbe80c9a0c4a5cf41d3f1fd01f"), looks := true }, kinds := [], alts := [], laidByText := true, laidKinds := [.data, .data, .data, .data, .sentinel, .sentinel, .pinned], laidTests := true, laidLooks := .later }
def VerTellsUptoCardSaid : Prop := Claim7.holds Tryd.pinned (.plain (OpenSpec.upto verTellsSpec)) verTellsUptoCard

/-- THE SECOND FORM's CARD OF 'haversacklaw9.VerOrder'. -/
def verOrderUptoCard : Claim7 := { stood := { row := verOrderUptoRow, standIns := [], harness := (true, "c8cc479ebc07c6dd37b1c0a48028e08ff5da1bbbe80c9a0c4a5cf41d3f1fd01f"), looks := true }, kinds := [], alts := [], laidByText := true, laidKinds := [.data, .data, .data, .data, .sentinel, .sentinel, .pinned], laidTests := true, laidLooks := .later }
def VerOrderUptoCardSaid : Prop := Claim7.holds Tryd.pinned (.plain (OpenSpec.upto verOrderSpec)) verOrderUptoCard

/-- THE SECOND FORM's CARD OF 'haversacklaw9.VerNext'. -/
def verNextUptoCard : Claim7 := { stood := { row := verNextUptoRow, standIns := [], harness := (true, "c8cc479ebc07c6dd37b1c0a48028e08ff5da1bbbe80c9a0c4a5cf41d3f1fd01f"), looks := true }, kinds := [], alts := [], laidByText := true, laidKinds := [.data, .data, .data, .data, .sentinel, .sentinel, .pinned], laidTests := true, laidLooks := .later }
def VerNextUptoCardSaid : Prop := Claim7.holds Tryd.pinned (.plain (OpenSpec.upto verNextSpec)) verNextUptoCard

/-- THE SECOND FORM's CARD OF 'haversacklaw9.VerMarks'. -/
def verMarksUptoCard : Claim7 := { stood := { row := verMarksUptoRow, standIns := [], harness := (true, "c8cc479ebc07c6dd37b1c0a48028e08ff5da1bbbe80c9a0c4a5cf41d3f1fd01f"), looks := true }, kinds := [], alts := [], laidByText := true, laidKinds := [.data, .data, .data, .data, .sentinel, .sentinel, .pinned], laidTests := true, laidLooks := .later }
def VerMarksUptoCardSaid : Prop := Claim7.holds Tryd.pinned (.plain (OpenSpec.upto verMarksSpec)) verMarksUptoCard

/-- THE SECOND FORM's CARD OF 'haversacklaw9.VerNumbers'. -/
def verNumbersUptoCard : Claim7 := { stood := { row := verNumbersUptoRow, standIns := [], harness := (true, "c8cc479ebc07c6dd37b1c0a48028e08ff5da1bbbe80c9a0c4a5cf41d3f1fd01f"), looks := true }, kinds := [], alts := [], laidByText := true, laidKinds := [.data, .data, .data, .data, .sentinel, .sentinel, .pinned], laidTests := true, laidLooks := .later }
def VerNumbersUptoCardSaid : Prop := Claim7.holds Tryd.pinned (.plain (OpenSpec.upto verNumbersSpec)) verNumbersUptoCard
end Rows
end Go.Proofs.YtfagngmikbmmhaaDoor
