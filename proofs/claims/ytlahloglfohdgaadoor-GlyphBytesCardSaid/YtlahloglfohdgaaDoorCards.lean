/-
  DERIVED. GIVEN WITH THE SEED: THE CARDS: each row of YtlahloglfohdgaaDoorRows.lean that lists a variable, with what it lists TIED to the program's text (the seventh form; the later family's looks); each row that meets fmt, with fmt's text TOLD by the authors' own Lean function (tested against real Go, not proved from fmt's source: count such statements apart). THE CARD IS WHAT COUNTS. Prove the row's statement (the work); the ties are given (YtlahloglfohdgaaDoorTie.lean); close each card by the builder's one call (the guide's Derived/Test/ToyasCard.lean, 'card_holds'). Laid BY PROGRAM, IN A SANDBOX (cutbox-door.mjs). By AI agents, Wed Nov 11 2026. No macro, syntax, notation, axiom, sorry.
-/
import Derived.Test.YtlahloglfohdgaaDoorRows
import GoSem.ClaimSeven
namespace Go.Proofs.YtlahloglfohdgaaDoor
namespace Rows

/-- THE TIED CARD OF 'pointsmanlaw1.GlyphBytes'. -/
def glyphBytesCard : Claim7 := { stood := { row := glyphBytesRow, standIns := [], harness := (true, "8a45ef6beae51482818722448efeeab70ca6ed33db7dbdda542eefff7792c7a8"), looks := false }, kinds := [], alts := [], laidByText := true, laidKinds := [.data, .pinned], laidTests := true, laidLooks := .later }
def GlyphBytesCardSaid : Prop := Claim7.holds Tryd.pinned (.plain (OpenSpec.ofChange glyphBytesSpec)) glyphBytesCard

/-- THE SECOND FORM's CARD OF 'pointsmanlaw1.GlyphBytes'. -/
def glyphBytesUptoCard : Claim7 := { stood := { row := glyphBytesUptoRow, standIns := [], harness := (true, "8a45ef6beae51482818722448efeeab70ca6ed33db7dbdda542eefff7792c7a8"), looks := false }, kinds := [], alts := [], laidByText := true, laidKinds := [.data, .pinned], laidTests := true, laidLooks := .later }
def GlyphBytesUptoCardSaid : Prop := Claim7.holds Tryd.pinned (.plain (OpenSpec.upto glyphBytesSpec)) glyphBytesUptoCard
end Rows
end Go.Proofs.YtlahloglfohdgaaDoor
