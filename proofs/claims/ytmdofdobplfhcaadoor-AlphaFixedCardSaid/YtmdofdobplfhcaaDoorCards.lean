/-
  DERIVED. GIVEN WITH THE SEED: THE CARDS: each row of YtmdofdobplfhcaaDoorRows.lean that lists a variable, with what it lists TIED to the program's text (the seventh form; the later family's looks); each row that meets fmt, with fmt's text TOLD by the authors' own Lean function (tested against real Go, not proved from fmt's source: count such statements apart). THE CARD IS WHAT COUNTS. Prove the row's statement (the work); the ties are given (YtmdofdobplfhcaaDoorTie.lean); close each card by the builder's one call (the guide's Derived/Test/ToyasCard.lean, 'card_holds'). Laid BY PROGRAM, IN A SANDBOX (cutbox-door.mjs). By AI agents, Wed Nov 11 2026. No macro, syntax, notation, axiom, sorry.
-/
import Derived.Test.YtmdofdobplfhcaaDoorRows
import GoSem.ClaimSeven
namespace Go.Proofs.YtmdofdobplfhcaaDoor
namespace Rows

/-- THE TIED CARD OF 'punnetlaw10.AlphaParts'. -/
def alphaPartsCard : Claim7 := { stood := { row := alphaPartsRow, standIns := [], harness := (true, "1ff39b703dedc6c5e42ea0798011a81c12bf804e3143fecd3de06f206ffba6e9"), looks := false }, kinds := [], alts := [], laidByText := true, laidKinds := [.data, .data, .data], laidTests := true, laidLooks := .later }
def AlphaPartsCardSaid : Prop := Claim7.holds Tryd.pinned (.plain (OpenSpec.ofChange alphaPartsSpec)) alphaPartsCard

/-- THE TIED CARD OF 'punnetlaw10.AlphaBases'. -/
def alphaBasesCard : Claim7 := { stood := { row := alphaBasesRow, standIns := [], harness := (true, "1ff39b703dedc6c5e42ea0798011a81c12bf804e3143fecd3de06f206ffba6e9"), looks := false }, kinds := [], alts := [], laidByText := true, laidKinds := [.data, .data, .data], laidTests := true, laidLooks := .later }
def AlphaBasesCardSaid : Prop := Claim7.holds Tryd.pinned (.plain (OpenSpec.ofChange alphaBasesSpec)) alphaBasesCard

/-- THE TIED CARD OF 'punnetlaw10.AlphaBack'. -/
def alphaBackCard : Claim7 := { stood := { row := alphaBackRow, standIns := [], harness := (true, "1ff39b703dedc6c5e42ea0798011a81c12bf804e3143fecd3de06f206ffba6e9"), looks := false }, kinds := [], alts := [], laidByText := true, laidKinds := [.data, .data, .data], laidTests := true, laidLooks := .later }
def AlphaBackCardSaid : Prop := Claim7.holds Tryd.pinned (.plain (OpenSpec.ofChange alphaBackSpec)) alphaBackCard

/-- THE TIED CARD OF 'punnetlaw10.AlphaFixed'. -/
def alphaFixedCard : Claim7 := { stood := { row := alphaFixedRow, standIns := [], harness := (true, "1ff39b703dedc6c5e42ea0798011a81c12bf804e3143fecd3de06f206ffba6e9"), looks := false }, kinds := [], alts := [], laidByText := true, laidKinds := [.data, .data, .data, .data], laidTests := true, laidLooks := .later }
def AlphaFixedCardSaid : Prop := Claim7.holds Tryd.pinned (.plain (OpenSpec.ofChange alphaFixedSpec)) alphaFixedCard

/-- THE SECOND FORM's CARD OF 'punnetlaw10.AlphaParts'. -/
def alphaPartsUptoCard : Claim7 := { stood := { row := alphaPartsUptoRow, standIns := [], harness := (true, "1ff39b703dedc6c5e42ea0798011a81c12bf804e3143fecd3de06f206ffba6e9"), looks := false }, kinds := [], alts := [], laidByText := true, laidKinds := [.data, .data, .data], laidTests := true, laidLooks := .later }
def AlphaPartsUptoCardSaid : Prop := Claim7.holds Tryd.pinned (.plain (OpenSpec.upto alphaPartsSpec)) alphaPartsUptoCard

/-- THE SECOND FORM's CARD OF 'punnetlaw10.AlphaBases'. -/
def alphaBasesUptoCard : Claim7 := { stood := { row := alphaBasesUptoRow, standIns := [], harness := (true, "1ff39b703dedc6c5e42ea0798011a81c12bf804e3143fecd3de06f206ffba6e9"), looks := false }, kinds := [], alts := [], laidByText := true, laidKinds := [.data, .data, .data], laidTests := true, laidLooks := .later }
def AlphaBasesUptoCardSaid : Prop := Claim7.holds Tryd.pinned (.plain (OpenSpec.upto alphaBasesSpec)) alphaBasesUptoCard

/-- THE SECOND FORM's CARD OF 'punnetlaw10.AlphaBack'. -/
def alphaBackUptoCard : Claim7 := { stood := { row := alphaBackUptoRow, standIns := [], harness := (true, "1ff39b703dedc6c5e42ea0798011a81c12bf804e3143fecd3de06f206ffba6e9"), looks := false }, kinds := [], alts := [], laidByText := true, laidKinds := [.data, .data, .data], laidTests := true, laidLooks := .later }
def AlphaBackUptoCardSaid : Prop := Claim7.holds Tryd.pinned (.plain (OpenSpec.upto alphaBackSpec)) alphaBackUptoCard

/-- THE SECOND FORM's CARD OF 'punnetlaw10.AlphaFixed'. -/
def alphaFixedUptoCard : Claim7 := { stood := { row := alphaFixedUptoRow, standIns := [], harness := (true, "1ff39b703dedc6c5e42ea0798011a81c12bf804e3143fecd3de06f206ffba6e9"), looks := false }, kinds := [], alts := [], laidByText := true, laidKinds := [.data, .data, .data, .data], laidTests := true, laidLooks := .later }
def AlphaFixedUptoCardSaid : Prop := Claim7.holds Tryd.pinned (.plain (OpenSpec.upto alphaFixedSpec)) alphaFixedUptoCard
end Rows
end Go.Proofs.YtmdofdobplfhcaaDoor
