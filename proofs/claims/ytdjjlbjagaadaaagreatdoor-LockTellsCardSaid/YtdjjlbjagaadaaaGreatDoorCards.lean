/-
  DERIVED. GIVEN WITH THE SEED: THE CARDS: each row of YtdjjlbjagaadaaaGreatDoorRows.lean that lists a variable, with what it lists TIED to the program's text (the seventh form; the later family's looks); each row that meets fmt, with fmt's text TOLD by the authors' own Lean function (tested against real Go, not proved from fmt's source: count such statements apart). THE CARD IS WHAT COUNTS. Prove the row's statement (the work); the ties are given (YtdjjlbjagaadaaaGreatDoorTie.lean); close each card by the builder's one call (the guide's Derived/Test/ToyasCard.lean, 'card_holds'). Laid BY PROGRAM, IN A SANDBOX (cutbox-door.mjs). By AI agents, Wed Nov 11 2026. No macro, syntax, notation, axiom, sorry.
-/
import Derived.Test.YtdjjlbjagaadaaaGreatDoorRows
import GoSem.ClaimSeven
namespace Go.Proofs.YtdjjlbjagaadaaaGreatDoor
namespace Rows

/-- THE TIED CARD OF 'haversacklaw12.LockReads'. -/
def lockReadsCard : Claim7 := { stood := { row := lockReadsRow, standIns := [], harness := (true, "55519a4c0ace1ee4f44b49434c8ab38d14162905db69ebe05434650bb0243bc6"), looks := true }, kinds := [], alts := [], laidByText := true, laidKinds := [.data, .data, .data, .data, .sentinel, .sentinel, .pinned], laidTests := true, laidLooks := .later }
def LockReadsCardSaid : Prop := Claim7.holds Tryz.pinned (.plain (OpenSpec.ofChange lockReadsSpec)) lockReadsCard

/-- THE TIED CARD OF 'haversacklaw12.LockTells'. -/
def lockTellsCard : Claim7 := { stood := { row := lockTellsRow, standIns := [], harness := (true, "55519a4c0ace1ee4f44b49434c8ab38d14162905db69ebe05434650bb0243bc6"), looks := true }, kinds := [], alts := [], laidByText := true, laidKinds := [.data, .data, .data, .data, .sentinel, .sentinel, .pinned], laidTests := true, laidLooks := .later }
def LockTellsCardSaid : Prop := Claim7.holds Tryz.pinned (.plain (OpenSpec.ofChange lockTellsSpec)) lockTellsCard

/-- THE TIED CARD OF 'haversacklaw12.LockBack'. -/
def lockBackCard : Claim7 := { stood := { row := lockBackRow, standIns := [], harness := (true, "55519a4c0ace1ee4f44b49434c8ab38d14162905db69ebe05434650bb0243bc6"), looks := true }, kinds := [], alts := [], laidByText := true, laidKinds := [.data, .data, .data, .data, .sentinel, .sentinel, .pinned], laidTests := true, laidLooks := .later }
def LockBackCardSaid : Prop := Claim7.holds Tryz.pinned (.plain (OpenSpec.ofChange lockBackSpec)) lockBackCard

/-- THE TIED CARD OF 'haversacklaw12.LockOrder'. -/
def lockOrderCard : Claim7 := { stood := { row := lockOrderRow, standIns := [], harness := (true, "55519a4c0ace1ee4f44b49434c8ab38d14162905db69ebe05434650bb0243bc6"), looks := true }, kinds := [], alts := [], laidByText := true, laidKinds := [.data, .data, .data, .data, .sentinel, .sentinel, .pinned], laidTests := true, laidLooks := .later }
def LockOrderCardSaid : Prop := Claim7.holds Tryz.pinned (.plain (OpenSpec.ofChange lockOrderSpec)) lockOrderCard

/-- THE TIED CARD OF 'haversacklaw12.LockLines'. -/
def lockLinesCard : Claim7 := { stood := { row := lockLinesRow, standIns := [], harness := (true, "55519a4c0ace1ee4f44b49434c8ab38d14162905db69ebe05434650bb0243bc6"), looks := true }, kinds := [], alts := [], laidByText := true, laidKinds := [.data, .data, .data, .data, .sentinel, .sentinel, .pinned], laidTests := true, laidLooks := .later }
def LockLinesCardSaid : Prop := Claim7.holds Tryz.pinned (.plain (OpenSpec.ofChange lockLinesSpec)) lockLinesCard

/-- THE TIED CARD OF 'haversacklaw10.SpanReads'. -/
def spanReadsCard : Claim7 := { stood := { row := spanReadsRow, standIns := [], harness := (true, "55519a4c0ace1ee4f44b49434c8ab38d14162905db69ebe05434650bb0243bc6"), looks := true }, kinds := [], alts := [], laidByText := true, laidKinds := [.data, .data, .data, .data, .sentinel, .sentinel, .pinned], laidTests := true, laidLooks := .later }
def SpanReadsCardSaid : Prop := Claim7.holds Tryz.pinned (.plain (OpenSpec.ofChange spanReadsSpec)) spanReadsCard

/-- THE TIED CARD OF 'haversacklaw10.SpanHas'. -/
def spanHasCard : Claim7 := { stood := { row := spanHasRow, standIns := [], harness := (true, "55519a4c0ace1ee4f44b49434c8ab38d14162905db69ebe05434650bb0243bc6"), looks := true }, kinds := [], alts := [], laidByText := true, laidKinds := [.data, .data, .data, .data, .sentinel, .sentinel, .pinned], laidTests := true, laidLooks := .later }
def SpanHasCardSaid : Prop := Claim7.holds Tryz.pinned (.plain (OpenSpec.ofChange spanHasSpec)) spanHasCard

/-- THE TIED CARD OF 'haversacklaw10.SpanSigns'. -/
def spanSignsCard : Claim7 := { stood := { row := spanSignsRow, standIns := [], harness := (true, "55519a4c0ace1ee4f44b49434c8ab38d14162905db69ebe05434650bb0243bc6"), looks := true }, kinds := [], alts := [], laidByText := true, laidKinds := [.data, .data, .data, .data, .sentinel, .sentinel, .pinned], laidTests := true, laidLooks := .later }
def SpanSignsCardSaid : Prop := Claim7.holds Tryz.pinned (.plain (OpenSpec.ofChange spanSignsSpec)) spanSignsCard

/-- THE TIED CARD OF 'haversacklaw10.SpanOr'. -/
def spanOrCard : Claim7 := { stood := { row := spanOrRow, standIns := [], harness := (true, "55519a4c0ace1ee4f44b49434c8ab38d14162905db69ebe05434650bb0243bc6"), looks := true }, kinds := [], alts := [], laidByText := true, laidKinds := [.data, .data, .data, .data, .sentinel, .sentinel, .pinned], laidTests := true, laidLooks := .later }
def SpanOrCardSaid : Prop := Claim7.holds Tryz.pinned (.plain (OpenSpec.ofChange spanOrSpec)) spanOrCard

/-- THE TIED CARD OF 'haversacklaw10.SpanMarks'. -/
def spanMarksCard : Claim7 := { stood := { row := spanMarksRow, standIns := [], harness := (true, "55519a4c0ace1ee4f44b49434c8ab38d14162905db69ebe05434650bb0243bc6"), looks := true }, kinds := [], alts := [], laidByText := true, laidKinds := [.data, .data, .data, .data, .sentinel, .sentinel, .pinned], laidTests := true, laidLooks := .later }
def SpanMarksCardSaid : Prop := Claim7.holds Tryz.pinned (.plain (OpenSpec.ofChange spanMarksSpec)) spanMarksCard

/-- THE TIED CARD OF 'haversacklaw10.SpanBest'. -/
def spanBestCard : Claim7 := { stood := { row := spanBestRow, standIns := [], harness := (true, "55519a4c0ace1ee4f44b49434c8ab38d14162905db69ebe05434650bb0243bc6"), looks := true }, kinds := [], alts := [], laidByText := true, laidKinds := [.data, .data, .data, .data, .sentinel, .sentinel, .pinned], laidTests := true, laidLooks := .later }
def SpanBestCardSaid : Prop := Claim7.holds Tryz.pinned (.plain (OpenSpec.ofChange spanBestSpec)) spanBestCard

/-- THE TIED CARD OF 'haversacklaw11.ManifestReads'. -/
def manifestReadsCard : Claim7 := { stood := { row := manifestReadsRow, standIns := [], harness := (true, "55519a4c0ace1ee4f44b49434c8ab38d14162905db69ebe05434650bb0243bc6"), looks := true }, kinds := [], alts := [], laidByText := true, laidKinds := [.data, .data, .data, .data, .sentinel, .sentinel, .pinned], laidTests := true, laidLooks := .later }
def ManifestReadsCardSaid : Prop := Claim7.holds Tryz.pinned (.plain (OpenSpec.ofChange manifestReadsSpec)) manifestReadsCard

/-- THE TIED CARD OF 'haversacklaw11.ManifestNames'. -/
def manifestNamesCard : Claim7 := { stood := { row := manifestNamesRow, standIns := [], harness := (true, "55519a4c0ace1ee4f44b49434c8ab38d14162905db69ebe05434650bb0243bc6"), looks := true }, kinds := [], alts := [], laidByText := true, laidKinds := [.data, .data, .data, .data, .sentinel, .sentinel, .pinned], laidTests := true, laidLooks := .later }
def ManifestNamesCardSaid : Prop := Claim7.holds Tryz.pinned (.plain (OpenSpec.ofChange manifestNamesSpec)) manifestNamesCard

/-- THE TIED CARD OF 'haversacklaw11.ManifestMany'. -/
def manifestManyCard : Claim7 := { stood := { row := manifestManyRow, standIns := [], harness := (true, "55519a4c0ace1ee4f44b49434c8ab38d14162905db69ebe05434650bb0243bc6"), looks := true }, kinds := [], alts := [], laidByText := true, laidKinds := [.data, .data, .data, .data, .sentinel, .sentinel, .pinned], laidTests := true, laidLooks := .later }
def ManifestManyCardSaid : Prop := Claim7.holds Tryz.pinned (.plain (OpenSpec.ofChange manifestManySpec)) manifestManyCard

/-- THE TIED CARD OF 'haversacklaw11.ManifestNoise'. -/
def manifestNoiseCard : Claim7 := { stood := { row := manifestNoiseRow, standIns := [], harness := (true, "55519a4c0ace1ee4f44b49434c8ab38d14162905db69ebe05434650bb0243bc6"), looks := true }, kinds := [], alts := [], laidByText := true, laidKinds := [.data, .data, .data, .data, .sentinel, .sentinel, .pinned], laidTests := true, laidLooks := .later }
def ManifestNoiseCardSaid : Prop := Claim7.holds Tryz.pinned (.plain (OpenSpec.ofChange manifestNoiseSpec)) manifestNoiseCard

/-- THE TIED CARD OF 'haversacklaw11.ManifestEdits'. -/
def manifestEditsCard : Claim7 := { stood := { row := manifestEditsRow, standIns := [], harness := (true, "55519a4c0ace1ee4f44b49434c8ab38d14162905db69ebe05434650bb0243bc6"), looks := true }, kinds := [], alts := [], laidByText := true, laidKinds := [.data, .data, .data, .data, .sentinel, .sentinel, .pinned], laidTests := true, laidLooks := .later }
def ManifestEditsCardSaid : Prop := Claim7.holds Tryz.pinned (.plain (OpenSpec.ofChange manifestEditsSpec)) manifestEditsCard

/-- THE TIED CARD OF 'haversacklaw11.ManifestOnce'. -/
def manifestOnceCard : Claim7 := { stood := { row := manifestOnceRow, standIns := [], harness := (true, "55519a4c0ace1ee4f44b49434c8ab38d14162905db69ebe05434650bb0243bc6"), looks := true }, kinds := [], alts := [], laidByText := true, laidKinds := [.data, .data, .data, .data, .sentinel, .sentinel, .pinned], laidTests := true, laidLooks := .later }
def ManifestOnceCardSaid : Prop := Claim7.holds Tryz.pinned (.plain (OpenSpec.ofChange manifestOnceSpec)) manifestOnceCard

/-- THE SECOND FORM's CARD OF 'haversacklaw12.LockReads'. -/
def lockReadsUptoCard : Claim7 := { stood := { row := lockReadsUptoRow, standIns := [], harness := (true, "55519a4c0ace1ee4f44b49434c8ab38d14162905db69ebe05434650bb0243bc6"), looks := true }, kinds := [], alts := [], laidByText := true, laidKinds := [.data, .data, .data, .data, .sentinel, .sentinel, .pinned], laidTests := true, laidLooks := .later }
def LockReadsUptoCardSaid : Prop := Claim7.holds Tryz.pinned (.plain (OpenSpec.upto lockReadsSpec)) lockReadsUptoCard

/-- THE SECOND FORM's CARD OF 'haversacklaw12.LockTells'. -/
def lockTellsUptoCard : Claim7 := { stood := { row := lockTellsUptoRow, standIns := [], harness := (true, "55519a4c0ace1ee4f44b49434c8ab38d14162905db69ebe05434650bb0243bc6"), looks := true }, kinds := [], alts := [], laidByText := true, laidKinds := [.data, .data, .data, .data, .sentinel, .sentinel, .pinned], laidTests := true, laidLooks := .later }
def LockTellsUptoCardSaid : Prop := Claim7.holds Tryz.pinned (.plain (OpenSpec.upto lockTellsSpec)) lockTellsUptoCard

/-- THE SECOND FORM's CARD OF 'haversacklaw12.LockBack'. -/
def lockBackUptoCard : Claim7 := { stood := { row := lockBackUptoRow, standIns := [], harness := (true, "55519a4c0ace1ee4f44b49434c8ab38d14162905db69ebe05434650bb0243bc6"), looks := true }, kinds := [], alts := [], laidByText := true, laidKinds := [.data, .data, .data, .data, .sentinel, .sentinel, .pinned], laidTests := true, laidLooks := .later }
def LockBackUptoCardSaid : Prop := Claim7.holds Tryz.pinned (.plain (OpenSpec.upto lockBackSpec)) lockBackUptoCard

/-- THE SECOND FORM's CARD OF 'haversacklaw12.LockOrder'. -/
def lockOrderUptoCard : Claim7 := { stood := { row := lockOrderUptoRow, standIns := [], harness := (true, "55519a4c0ace1ee4f44b49434c8ab38d14162905db69ebe05434650bb0243bc6"), looks := true }, kinds := [], alts := [], laidByText := true, laidKinds := [.data, .data, .data, .data, .sentinel, .sentinel, .pinned], laidTests := true, laidLooks := .later }
def LockOrderUptoCardSaid : Prop := Claim7.holds Tryz.pinned (.plain (OpenSpec.upto lockOrderSpec)) lockOrderUptoCard

/-- THE SECOND FORM's CARD OF 'haversacklaw12.LockLines'. -/
def lockLinesUptoCard : Claim7 := { stood := { row := lockLinesUptoRow, standIns := [], harness := (true, "55519a4c0ace1ee4f44b49434c8ab38d14162905db69ebe05434650bb0243bc6"), looks := true }, kinds := [], alts := [], laidByText := true, laidKinds := [.data, .data, .data, .data, .sentinel, .sentinel, .pinned], laidTests := true, laidLooks := .later }
def LockLinesUptoCardSaid : Prop := Claim7.holds Tryz.pinned (.plain (OpenSpec.upto lockLinesSpec)) lockLinesUptoCard

/-- THE SECOND FORM's CARD OF 'haversacklaw10.SpanReads'. -/
def spanReadsUptoCard : Claim7 := { stood := { row := spanReadsUptoRow, standIns := [], harness := (true, "55519a4c0ace1ee4f44b49434c8ab38d14162905db69ebe05434650bb0243bc6"), looks := true }, kinds := [], alts := [], laidByText := true, laidKinds := [.data, .data, .data, .data, .sentinel, .sentinel, .pinned], laidTests := true, laidLooks := .later }
def SpanReadsUptoCardSaid : Prop := Claim7.holds Tryz.pinned (.plain (OpenSpec.upto spanReadsSpec)) spanReadsUptoCard

/-- THE SECOND FORM's CARD OF 'haversacklaw10.SpanHas'. -/
def spanHasUptoCard : Claim7 := { stood := { row := spanHasUptoRow, standIns := [], harness := (true, "55519a4c0ace1ee4f44b49434c8ab38d14162905db69ebe05434650bb0243bc6"), looks := true }, kinds := [], alts := [], laidByText := true, laidKinds := [.data, .data, .data, .data, .sentinel, .sentinel, .pinned], laidTests := true, laidLooks := .later }
def SpanHasUptoCardSaid : Prop := Claim7.holds Tryz.pinned (.plain (OpenSpec.upto spanHasSpec)) spanHasUptoCard

/-- THE SECOND FORM's CARD OF 'haversacklaw10.SpanSigns'. -/
def spanSignsUptoCard : Claim7 := { stood := { row := spanSignsUptoRow, standIns := [], harness := (true, "55519a4c0ace1ee4f44b49434c8ab38d14162905db69ebe05434650bb0243bc6"), looks := true }, kinds := [], alts := [], laidByText := true, laidKinds := [.data, .data, .data, .data, .sentinel, .sentinel, .pinned], laidTests := true, laidLooks := .later }
def SpanSignsUptoCardSaid : Prop := Claim7.holds Tryz.pinned (.plain (OpenSpec.upto spanSignsSpec)) spanSignsUptoCard

/-- THE SECOND FORM's CARD OF 'haversacklaw10.SpanOr'. -/
def spanOrUptoCard : Claim7 := { stood := { row := spanOrUptoRow, standIns := [], harness := (true, "55519a4c0ace1ee4f44b49434c8ab38d14162905db69ebe05434650bb0243bc6"), looks := true }, kinds := [], alts := [], laidByText := true, laidKinds := [.data, .data, .data, .data, .sentinel, .sentinel, .pinned], laidTests := true, laidLooks := .later }
def SpanOrUptoCardSaid : Prop := Claim7.holds Tryz.pinned (.plain (OpenSpec.upto spanOrSpec)) spanOrUptoCard

/-- THE SECOND FORM's CARD OF 'haversacklaw10.SpanMarks'. -/
def spanMarksUptoCard : Claim7 := { stood := { row := spanMarksUptoRow, standIns := [], harness := (true, "55519a4c0ace1ee4f44b49434c8ab38d14162905db69ebe05434650bb0243bc6"), looks := true }, kinds := [], alts := [], laidByText := true, laidKinds := [.data, .data, .data, .data, .sentinel, .sentinel, .pinned], laidTests := true, laidLooks := .later }
def SpanMarksUptoCardSaid : Prop := Claim7.holds Tryz.pinned (.plain (OpenSpec.upto spanMarksSpec)) spanMarksUptoCard

/-- THE SECOND FORM's CARD OF 'haversacklaw10.SpanBest'. -/
def spanBestUptoCard : Claim7 := { stood := { row := spanBestUptoRow, standIns := [], harness := (true, "55519a4c0ace1ee4f44b49434c8ab38d14162905db69ebe05434650bb0243bc6"), looks := true }, kinds := [], alts := [], laidByText := true, laidKinds := [.data, .data, .data, .data, .sentinel, .sentinel, .pinned], laidTests := true, laidLooks := .later }
def SpanBestUptoCardSaid : Prop := Claim7.holds Tryz.pinned (.plain (OpenSpec.upto spanBestSpec)) spanBestUptoCard

/-- THE SECOND FORM's CARD OF 'haversacklaw11.ManifestReads'. -/
def manifestReadsUptoCard : Claim7 := { stood := { row := manifestReadsUptoRow, standIns := [], harness := (true, "55519a4c0ace1ee4f44b49434c8ab38d14162905db69ebe05434650bb0243bc6"), looks := true }, kinds := [], alts := [], laidByText := true, laidKinds := [.data, .data, .data, .data, .sentinel, .sentinel, .pinned], laidTests := true, laidLooks := .later }
def ManifestReadsUptoCardSaid : Prop := Claim7.holds Tryz.pinned (.plain (OpenSpec.upto manifestReadsSpec)) manifestReadsUptoCard

/-- THE SECOND FORM's CARD OF 'haversacklaw11.ManifestNames'. -/
def manifestNamesUptoCard : Claim7 := { stood := { row := manifestNamesUptoRow, standIns := [], harness := (true, "55519a4c0ace1ee4f44b49434c8ab38d14162905db69ebe05434650bb0243bc6"), looks := true }, kinds := [], alts := [], laidByText := true, laidKinds := [.data, .data, .data, .data, .sentinel, .sentinel, .pinned], laidTests := true, laidLooks := .later }
def ManifestNamesUptoCardSaid : Prop := Claim7.holds Tryz.pinned (.plain (OpenSpec.upto manifestNamesSpec)) manifestNamesUptoCard

/-- THE SECOND FORM's CARD OF 'haversacklaw11.ManifestMany'. -/
def manifestManyUptoCard : Claim7 := { stood := { row := manifestManyUptoRow, standIns := [], harness := (true, "55519a4c0ace1ee4f44b49434c8ab38d14162905db69ebe05434650bb0243bc6"), looks := true }, kinds := [], alts := [], laidByText := true, laidKinds := [.data, .data, .data, .data, .sentinel, .sentinel, .pinned], laidTests := true, laidLooks := .later }
def ManifestManyUptoCardSaid : Prop := Claim7.holds Tryz.pinned (.plain (OpenSpec.upto manifestManySpec)) manifestManyUptoCard

/-- THE SECOND FORM's CARD OF 'haversacklaw11.ManifestNoise'. -/
def manifestNoiseUptoCard : Claim7 := { stood := { row := manifestNoiseUptoRow, standIns := [], harness := (true, "55519a4c0ace1ee4f44b49434c8ab38d14162905db69ebe05434650bb0243bc6"), looks := true }, kinds := [], alts := [], laidByText := true, laidKinds := [.data, .data, .data, .data, .sentinel, .sentinel, .pinned], laidTests := true, laidLooks := .later }
def ManifestNoiseUptoCardSaid : Prop := Claim7.holds Tryz.pinned (.plain (OpenSpec.upto manifestNoiseSpec)) manifestNoiseUptoCard

/-- THE SECOND FORM's CARD OF 'haversacklaw11.ManifestEdits'. -/
def manifestEditsUptoCard : Claim7 := { stood := { row := manifestEditsUptoRow, standIns := [], harness := (true, "55519a4c0ace1ee4f44b49434c8ab38d14162905db69ebe05434650bb0243bc6"), looks := true }, kinds := [], alts := [], laidByText := true, laidKinds := [.data, .data, .data, .data, .sentinel, .sentinel, .pinned], laidTests := true, laidLooks := .later }
def ManifestEditsUptoCardSaid : Prop := Claim7.holds Tryz.pinned (.plain (OpenSpec.upto manifestEditsSpec)) manifestEditsUptoCard

/-- THE SECOND FORM's CARD OF 'haversacklaw11.ManifestOnce'. -/
def manifestOnceUptoCard : Claim7 := { stood := { row := manifestOnceUptoRow, standIns := [], harness := (true, "55519a4c0ace1ee4f44b49434c8ab38d14162905db69ebe05434650bb0243bc6"), looks := true }, kinds := [], alts := [], laidByText := true, laidKinds := [.data, .data, .data, .data, .sentinel, .sentinel, .pinned], laidTests := true, laidLooks := .later }
def ManifestOnceUptoCardSaid : Prop := Claim7.holds Tryz.pinned (.plain (OpenSpec.upto manifestOnceSpec)) manifestOnceUptoCard
end Rows
end Go.Proofs.YtdjjlbjagaadaaaGreatDoor
