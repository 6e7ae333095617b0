/-
  DERIVED. GIVEN WITH THE SEED: THE CARDS: each row of YtiaiioaiifaahaaDoorRows.lean that lists a variable, with what it lists TIED to the program's text (the seventh form; the later family's looks); each row that meets fmt, with fmt's text TOLD by the authors' own Lean function (tested against real Go, not proved from fmt's source: count such statements apart). THE CARD IS WHAT COUNTS. Prove the row's statement (the work); the ties are given (YtiaiioaiifaahaaDoorTie.lean); close each card by the builder's one call (the guide's Derived/Test/ToyasCard.lean, 'card_holds'). Laid BY PROGRAM, IN A SANDBOX (cutbox-door.mjs). By AI agents, Wed Nov 11 2026. No macro, syntax, notation, axiom, sorry.
-/
import Derived.Test.YtiaiioaiifaahaaDoorRows
import GoSem.ClaimSeven
namespace Go.Proofs.YtiaiioaiifaahaaDoor
namespace Rows

/-- THE TIED CARD OF 'punnetlaw04.CrcSums'. -/
def crcSumsCard : Claim7 := { stood := { row := crcSumsRow, standIns := [], harness := (true, "b4df96ec899182989f3b681e2596f0cec9a2549cc210d8081d30750288f1d102"), looks := false }, kinds := [], alts := [], laidByText := true, laidKinds := [.data], laidTests := true, laidLooks := .later }
def CrcSumsCardSaid : Prop := Claim7.holds Tryd.pinned (.plain (OpenSpec.ofChange crcSumsSpec)) crcSumsCard

/-- THE TIED CARD OF 'punnetlaw04.CrcLinear'. -/
def crcLinearCard : Claim7 := { stood := { row := crcLinearRow, standIns := [], harness := (true, "b4df96ec899182989f3b681e2596f0cec9a2549cc210d8081d30750288f1d102"), looks := false }, kinds := [], alts := [], laidByText := true, laidKinds := [.data], laidTests := true, laidLooks := .later }
def CrcLinearCardSaid : Prop := Claim7.holds Tryd.pinned (.plain (OpenSpec.ofChange crcLinearSpec)) crcLinearCard

/-- THE TIED CARD OF 'punnetlaw04.CrcDigests'. -/
def crcDigestsCard : Claim7 := { stood := { row := crcDigestsRow, standIns := [], harness := (true, "b4df96ec899182989f3b681e2596f0cec9a2549cc210d8081d30750288f1d102"), looks := false }, kinds := [], alts := [], laidByText := true, laidKinds := [.data], laidTests := true, laidLooks := .later }
def CrcDigestsCardSaid : Prop := Claim7.holds Tryd.pinned (.plain (OpenSpec.ofChange crcDigestsSpec)) crcDigestsCard

/-- THE SECOND FORM's CARD OF 'punnetlaw04.CrcSums'. -/
def crcSumsUptoCard : Claim7 := { stood := { row := crcSumsUptoRow, standIns := [], harness := (true, "b4df96ec899182989f3b681e2596f0cec9a2549cc210d8081d30750288f1d102"), looks := false }, kinds := [], alts := [], laidByText := true, laidKinds := [.data], laidTests := true, laidLooks := .later }
def CrcSumsUptoCardSaid : Prop := Claim7.holds Tryd.pinned (.plain (OpenSpec.upto crcSumsSpec)) crcSumsUptoCard

/-- THE SECOND FORM's CARD OF 'punnetlaw04.CrcLinear'. -/
def crcLinearUptoCard : Claim7 := { stood := { row := crcLinearUptoRow, standIns := [], harness := (true, "b4df96ec899182989f3b681e2596f0cec9a2549cc210d8081d30750288f1d102"), looks := false }, kinds := [], alts := [], laidByText := true, laidKinds := [.data], laidTests := true, laidLooks := .later }
def CrcLinearUptoCardSaid : Prop := Claim7.holds Tryd.pinned (.plain (OpenSpec.upto crcLinearSpec)) crcLinearUptoCard

/-- THE SECOND FORM's CARD OF 'punnetlaw04.CrcDigests'. -/
def crcDigestsUptoCard : Claim7 := { stood := { row := crcDigestsUptoRow, standIns := [], harness := (true, "b4df96ec899182989f3b681e2596f0cec9a2549cc210d8081d30750288f1d102"), looks := false }, kinds := [], alts := [], laidByText := true, laidKinds := [.data], laidTests := true, laidLooks := .later }
def CrcDigestsUptoCardSaid : Prop := Claim7.holds Tryd.pinned (.plain (OpenSpec.upto crcDigestsSpec)) crcDigestsUptoCard
end Rows
end Go.Proofs.YtiaiioaiifaahaaDoor
