/-
  DERIVED. GIVEN WITH THE SEED: THE CARDS: each row of YtjfmaebgihlegaaDoorRows.lean that lists a variable, with what it lists TIED to the program's text (the seventh form; the later family's looks); each row that meets fmt, with fmt's text TOLD by the authors' own Lean function (tested against real Go, not proved from fmt's source: count such statements apart). THE CARD IS WHAT COUNTS. Prove the row's statement (the work); the ties are given (YtjfmaebgihlegaaDoorTie.lean); close each card by the builder's one call (the guide's Derived/Test/ToyasCard.lean, 'card_holds'). Laid BY PROGRAM, IN A SANDBOX (cutbox-door.mjs). By AI agents, Wed Nov 11 2026. No macro, syntax, notation, axiom, sorry.
-/
import Derived.Test.YtjfmaebgihlegaaDoorRows
import GoSem.ClaimSeven
namespace Go.Proofs.YtjfmaebgihlegaaDoor
namespace Rows

/-- THE TIED CARD OF 'punnetlaw16.LazyTokens'. -/
def lazyTokensCard : Claim7 := { stood := { row := lazyTokensRow, standIns := [], harness := (true, "acc23827a34152abdbf8048f8f9597d811f2c46717ba80cb56ca42634fc28e7a"), looks := false }, kinds := [], alts := [], laidByText := true, laidKinds := [.data], laidTests := true, laidLooks := .later }
def LazyTokensCardSaid : Prop := Claim7.holds Tryd.pinned (.plain (OpenSpec.ofChange lazyTokensSpec)) lazyTokensCard

/-- THE TIED CARD OF 'punnetlaw16.LazyBack'. -/
def lazyBackCard : Claim7 := { stood := { row := lazyBackRow, standIns := [], harness := (true, "acc23827a34152abdbf8048f8f9597d811f2c46717ba80cb56ca42634fc28e7a"), looks := false }, kinds := [], alts := [], laidByText := true, laidKinds := [.data], laidTests := true, laidLooks := .later }
def LazyBackCardSaid : Prop := Claim7.holds Tryd.pinned (.plain (OpenSpec.ofChange lazyBackSpec)) lazyBackCard

/-- THE SECOND FORM's CARD OF 'punnetlaw16.LazyTokens'. -/
def lazyTokensUptoCard : Claim7 := { stood := { row := lazyTokensUptoRow, standIns := [], harness := (true, "acc23827a34152abdbf8048f8f9597d811f2c46717ba80cb56ca42634fc28e7a"), looks := false }, kinds := [], alts := [], laidByText := true, laidKinds := [.data], laidTests := true, laidLooks := .later }
def LazyTokensUptoCardSaid : Prop := Claim7.holds Tryd.pinned (.plain (OpenSpec.upto lazyTokensSpec)) lazyTokensUptoCard

/-- THE SECOND FORM's CARD OF 'punnetlaw16.LazyBack'. -/
def lazyBackUptoCard : Claim7 := { stood := { row := lazyBackUptoRow, standIns := [], harness := (true, "acc23827a34152abdbf8048f8f9597d811f2c46717ba80cb56ca42634fc28e7a"), looks := false }, kinds := [], alts := [], laidByText := true, laidKinds := [.data], laidTests := true, laidLooks := .later }
def LazyBackUptoCardSaid : Prop := Claim7.holds Tryd.pinned (.plain (OpenSpec.upto lazyBackSpec)) lazyBackUptoCard
end Rows
end Go.Proofs.YtjfmaebgihlegaaDoor
