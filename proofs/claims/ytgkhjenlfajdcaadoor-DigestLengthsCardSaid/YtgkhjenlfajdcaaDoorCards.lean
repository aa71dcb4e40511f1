/-
  DERIVED. GIVEN WITH THE SEED: THE CARDS: each row of YtgkhjenlfajdcaaDoorRows.lean that lists a variable, with what it lists TIED to the program's text (the seventh form; the later family's looks); each row that meets fmt, with fmt's text TOLD by the authors' own Lean function (tested against real Go, not proved from fmt's source: count such statements apart). THE CARD IS WHAT COUNTS. Prove the row's statement (the work); the ties are given (YtgkhjenlfajdcaaDoorTie.lean); close each card by the builder's one call (the guide's Derived/Test/ToyasCard.lean, 'card_holds'). Laid BY PROGRAM, IN A SANDBOX (cutbox-door.mjs). By AI agents, Wed Nov 11 2026. No macro, syntax, notation, axiom, sorry.
-/
import Derived.Test.YtgkhjenlfajdcaaDoorRows
import GoSem.ClaimSeven
namespace Go.Proofs.YtgkhjenlfajdcaaDoor
namespace Rows

/-- THE TIED CARD OF 'intrusionlaw03.DigestSums'. -/
def digestSumsCard : Claim7 := { stood := { row := digestSumsRow, standIns := [], harness := (true, "16db3c700e57575b252f3a94394bf1581548418de5986824bf55eeca07a9e40a"), looks := false }, kinds := [], alts := [], laidByText := true, laidKinds := [.data], laidTests := true, laidLooks := .later }
def DigestSumsCardSaid : Prop := Claim7.holds Tryd.pinned (.plain (OpenSpec.ofChange digestSumsSpec)) digestSumsCard

/-- THE TIED CARD OF 'intrusionlaw03.DigestLengths'. -/
def digestLengthsCard : Claim7 := { stood := { row := digestLengthsRow, standIns := [], harness := (true, "16db3c700e57575b252f3a94394bf1581548418de5986824bf55eeca07a9e40a"), looks := false }, kinds := [], alts := [], laidByText := true, laidKinds := [.data], laidTests := true, laidLooks := .later }
def DigestLengthsCardSaid : Prop := Claim7.holds Tryd.pinned (.plain (OpenSpec.ofChange digestLengthsSpec)) digestLengthsCard

/-- THE TIED CARD OF 'intrusionlaw03.DigestObjects'. -/
def digestObjectsCard : Claim7 := { stood := { row := digestObjectsRow, standIns := [], harness := (true, "16db3c700e57575b252f3a94394bf1581548418de5986824bf55eeca07a9e40a"), looks := false }, kinds := [], alts := [], laidByText := true, laidKinds := [.data], laidTests := true, laidLooks := .later }
def DigestObjectsCardSaid : Prop := Claim7.holds Tryd.pinned (.plain (OpenSpec.ofChange digestObjectsSpec)) digestObjectsCard

/-- THE TIED CARD OF 'intrusionlaw03.DigestStreams'. -/
def digestStreamsCard : Claim7 := { stood := { row := digestStreamsRow, standIns := [], harness := (true, "16db3c700e57575b252f3a94394bf1581548418de5986824bf55eeca07a9e40a"), looks := false }, kinds := [], alts := [], laidByText := true, laidKinds := [.data], laidTests := true, laidLooks := .later }
def DigestStreamsCardSaid : Prop := Claim7.holds Tryd.pinned (.plain (OpenSpec.ofChange digestStreamsSpec)) digestStreamsCard

/-- THE TIED CARD OF 'intrusionlaw03.DigestForms'. -/
def digestFormsCard : Claim7 := { stood := { row := digestFormsRow, standIns := [], harness := (true, "16db3c700e57575b252f3a94394bf1581548418de5986824bf55eeca07a9e40a"), looks := false }, kinds := [], alts := [], laidByText := true, laidKinds := [.data], laidTests := true, laidLooks := .later }
def DigestFormsCardSaid : Prop := Claim7.holds Tryd.pinned (.plain (OpenSpec.ofChange digestFormsSpec)) digestFormsCard

/-- THE SECOND FORM's CARD OF 'intrusionlaw03.DigestSums'. -/
def digestSumsUptoCard : Claim7 := { stood := { row := digestSumsUptoRow, standIns := [], harness := (true, "16db3c700e57575b252f3a94394bf1581548418de5986824bf55eeca07a9e40a"), looks := false }, kinds := [], alts := [], laidByText := true, laidKinds := [.data], laidTests := true, laidLooks := .later }
def DigestSumsUptoCardSaid : Prop := Claim7.holds Tryd.pinned (.plain (OpenSpec.upto digestSumsSpec)) digestSumsUptoCard

/-- THE SECOND FORM's CARD OF 'intrusionlaw03.DigestLengths'. -/
def digestLengthsUptoCard : Claim7 := { stood := { row := digestLengthsUptoRow, standIns := [], harness := (true, "16db3c700e57575b252f3a94394bf1581548418de5986824bf55eeca07a9e40a"), looks := false }, kinds := [], alts := [], laidByText := true, laidKinds := [.data], laidTests := true, laidLooks := .later }
def DigestLengthsUptoCardSaid : Prop := Claim7.holds Tryd.pinned (.plain (OpenSpec.upto digestLengthsSpec)) digestLengthsUptoCard

/-- THE SECOND FORM's CARD OF 'intrusionlaw03.DigestObjects'. -/
def digestObjectsUptoCard : Claim7 := { stood := { row := digestObjectsUptoRow, standIns := [], harness := (true, "16db3c700e57575b252f3a94394bf1581548418de5986824bf55eeca07a9e40a"), looks := false }, kinds := [], alts := [], laidByText := true, laidKinds := [.data], laidTests := true, laidLooks := .later }
def DigestObjectsUptoCardSaid : Prop := Claim7.holds Tryd.pinned (.plain (OpenSpec.upto digestObjectsSpec)) digestObjectsUptoCard

/-- THE SECOND FORM's CARD OF 'intrusionlaw03.DigestStreams'. -/
def digestStreamsUptoCard : Claim7 := { stood := { row := digestStreamsUptoRow, standIns := [], harness := (true, "16db3c700e57575b252f3a94394bf1581548418de5986824bf55eeca07a9e40a"), looks := false }, kinds := [], alts := [], laidByText := true, laidKinds := [.data], laidTests := true, laidLooks := .later }
def DigestStreamsUptoCardSaid : Prop := Claim7.holds Tryd.pinned (.plain (OpenSpec.upto digestStreamsSpec)) digestStreamsUptoCard

/-- THE SECOND FORM's CARD OF 'intrusionlaw03.DigestForms'. -/
def digestFormsUptoCard : Claim7 := { stood := { row := digestFormsUptoRow, standIns := [], harness := (true, "16db3c700e57575b252f3a94394bf1581548418de5986824bf55eeca07a9e40a"), looks := false }, kinds := [], alts := [], laidByText := true, laidKinds := [.data], laidTests := true, laidLooks := .later }
def DigestFormsUptoCardSaid : Prop := Claim7.holds Tryd.pinned (.plain (OpenSpec.upto digestFormsSpec)) digestFormsUptoCard
end Rows
end Go.Proofs.YtgkhjenlfajdcaaDoor
