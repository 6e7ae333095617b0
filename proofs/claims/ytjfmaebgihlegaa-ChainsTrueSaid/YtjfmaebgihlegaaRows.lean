/-
  No cell of these rows narrows 'for every input' (looked for: loops, veiled, ifaces, maps, wideKeys, modest, calm, conditions, laid).
  DERIVED. THE GIVEN ROWS OF THIS SEAT. 3 by the template 'for every input the law returns true; each argument reads behind the call as it read before'; 0 by the template 'total and deterministic' (their statements: YtjfmaebgihlegaaTotals.lean).
  GIVEN WITH THE SEED: the statements are not yours to turn. If you find one false, say at which input.
  Laid BY PROGRAM, IN A SANDBOX (cutbox-rows.mjs): the forced cells as the released guide's own fill.sh prints them over the translation 0abda59d78f21c5f… (all of the seat's roots in one cut). By AI agents, Wed Nov 11 2026. No macro, syntax, notation, axiom, sorry.
-/
import Derived.Test.YtjfmaebgihlegaaChecked
import GoSem.Claim
import GoSem.ClaimJoined
import GoSem.ClaimMapViews
import Derived.JoinedTies
import Derived.KernelRfl
namespace Go.Proofs.Ytjfmaebgihlegaa
/- THE CELL 'sum', in the pinned program and in every row, IS THE sha256 OF THE DUMP (.gsa) THAT YtjfmaebgihlegaaProg.lean LOADS. Nothing in Lean hashes anything: it is a label: what it is worth is what the hold of that sum in a sandbox is worth. -/
noncomputable def Try.pinned : Pinned := { name := "ytjfmaebgihlegaa", sum := "0abda59d78f21c5fcf97fffd8e90ff937f66e29ec1e0f935a2f90aeabee1b369", checked := Try.checked }
namespace Rows
def none {H : Type} : Left H := { results := [], args := [] }

/-- 'punnetlaw14.TokenJoins': WHATEVER THE INPUT: true; the input reads as it did. -/
def tokenJoinsSpec : ChangeSpec := { name := "tokenJoins", fn := fun _ => fun
  | [d1, d2, d3] => { results := [.lit (.bool true)], args := [d1, d2, d3] }
  | _ => none }
def tokenJoinsRow : OpenClaim := { program := "ytjfmaebgihlegaa", sum := "0abda59d78f21c5fcf97fffd8e90ff937f66e29ec1e0f935a2f90aeabee1b369", func := "punnet/punnetlaw14.TokenJoins", spec := "tokenJoins", apart := false }
def TokenJoinsSaid : Prop := tokenJoinsRow.holds Try.pinned (OpenSpec.ofChange tokenJoinsSpec)

/-- ITS FALSE NEIGHBOUR: 'it returns false'. Refute it at one input. -/
def tokenJoinsWrong : ChangeSpec := { name := "tokenJoins", fn := fun _ => fun
  | [d1, d2, d3] => { results := [.lit (.bool false)], args := [d1, d2, d3] }
  | _ => none }
def TokenJoinsWrongFalsely : Prop := tokenJoinsRow.holds Try.pinned (OpenSpec.ofChange tokenJoinsWrong)

/-- 'punnetlaw14.TokenExpands': WHATEVER THE INPUT: true; the input reads as it did. -/
def tokenExpandsSpec : ChangeSpec := { name := "tokenExpands", fn := fun _ => fun
  | [d1, d2] => { results := [.lit (.bool true)], args := [d1, d2] }
  | _ => none }
def tokenExpandsRow : OpenClaim := { program := "ytjfmaebgihlegaa", sum := "0abda59d78f21c5fcf97fffd8e90ff937f66e29ec1e0f935a2f90aeabee1b369", func := "punnet/punnetlaw14.TokenExpands", spec := "tokenExpands", apart := false }
def TokenExpandsSaid : Prop := tokenExpandsRow.holds Try.pinned (OpenSpec.ofChange tokenExpandsSpec)

/-- ITS FALSE NEIGHBOUR: 'it returns false'. Refute it at one input. -/
def tokenExpandsWrong : ChangeSpec := { name := "tokenExpands", fn := fun _ => fun
  | [d1, d2] => { results := [.lit (.bool false)], args := [d1, d2] }
  | _ => none }
def TokenExpandsWrongFalsely : Prop := tokenExpandsRow.holds Try.pinned (OpenSpec.ofChange tokenExpandsWrong)

/-- 'punnetlaw15.ChainsTrue': WHATEVER THE INPUT: true; the input reads as it did. -/
def chainsTrueSpec : ChangeSpec := { name := "chainsTrue", fn := fun _ => fun
  | [d1, d2, d3] => { results := [.lit (.bool true)], args := [d1, d2, d3] }
  | _ => none }
def chainsTrueRow : OpenClaim := { program := "ytjfmaebgihlegaa", sum := "0abda59d78f21c5fcf97fffd8e90ff937f66e29ec1e0f935a2f90aeabee1b369", func := "punnet/punnetlaw15.ChainsTrue", spec := "chainsTrue", apart := false }
def ChainsTrueSaid : Prop := chainsTrueRow.holds Try.pinned (OpenSpec.ofChange chainsTrueSpec)

/-- ITS FALSE NEIGHBOUR: 'it returns false'. Refute it at one input. -/
def chainsTrueWrong : ChangeSpec := { name := "chainsTrue", fn := fun _ => fun
  | [d1, d2, d3] => { results := [.lit (.bool false)], args := [d1, d2, d3] }
  | _ => none }
def ChainsTrueWrongFalsely : Prop := chainsTrueRow.holds Try.pinned (OpenSpec.ofChange chainsTrueWrong)

/- THE SECOND FORM. 'bulk': how many values and letters a reading holds, each counted each time it is reached (what is shared counts as often as it is met; a slice's spare places count too). A statement '..UptoSaid' is the law's where the arguments, and the package variables that the reading takes, are together of bulk at most 1048576: NARROWER than '..Said'. Prove '..Said' where nothing that the law and all that it calls make is longer than what came in: it says more and counts as full. Else prove '..UptoSaid'. A law counts once. -/
mutual
def uptoBulk {H : Type} : DataW H → Nat
  | .lit (.string bytes) => bytes.length + 1
  | .lit _ => 1
  | .nil => 1
  | .ptr d => uptoBulk d + 1
  | .slice elems spare => uptoBulkAll elems + uptoBulkAll spare + 1
  | .agg parts => uptoBulkAll parts + 1
  | .iface _ d => uptoBulk d + 1
  | .map entries => uptoBulkEntries entries + 1
  | .held _ => 1
def uptoBulkAll {H : Type} : List (DataW H) → Nat
  | [] => 0
  | d :: r => uptoBulk d + uptoBulkAll r
def uptoBulkEntries {H : Type} : List (Lit × DataW H) → Nat
  | [] => 0
  | x :: r => uptoBulkEntry x + uptoBulkEntries r
def uptoBulkEntry {H : Type} : Lit × DataW H → Nat
  | (.string bytes, d) => bytes.length + uptoBulk d + 1
  | (_, d) => uptoBulk d + 1
 end
def uptoSmall : (H : Type) → List (DataW H) → Bool := fun _ ds => decide (uptoBulkAll ds ≤ 1048576)
def OpenSpec.upto (s : _root_.Go.ChangeSpec) : _root_.Go.OpenSpec := { _root_.Go.OpenSpec.ofChange s with cond := some uptoSmall }

/-- 'punnetlaw14.TokenJoins', WHERE WHAT IT READS IS OF BULK AT MOST 1048576: true; the input reads as it did. -/
def tokenJoinsUptoRow : OpenClaim := { program := "ytjfmaebgihlegaa", sum := "0abda59d78f21c5fcf97fffd8e90ff937f66e29ec1e0f935a2f90aeabee1b369", func := "punnet/punnetlaw14.TokenJoins", spec := "tokenJoins", apart := false, narrowed := true }
def TokenJoinsUptoSaid : Prop := tokenJoinsUptoRow.holds Try.pinned (OpenSpec.upto tokenJoinsSpec)

/-- 'punnetlaw14.TokenExpands', WHERE WHAT IT READS IS OF BULK AT MOST 1048576: true; the input reads as it did. -/
def tokenExpandsUptoRow : OpenClaim := { program := "ytjfmaebgihlegaa", sum := "0abda59d78f21c5fcf97fffd8e90ff937f66e29ec1e0f935a2f90aeabee1b369", func := "punnet/punnetlaw14.TokenExpands", spec := "tokenExpands", apart := false, narrowed := true }
def TokenExpandsUptoSaid : Prop := tokenExpandsUptoRow.holds Try.pinned (OpenSpec.upto tokenExpandsSpec)

/-- 'punnetlaw15.ChainsTrue', WHERE WHAT IT READS IS OF BULK AT MOST 1048576: true; the input reads as it did. -/
def chainsTrueUptoRow : OpenClaim := { program := "ytjfmaebgihlegaa", sum := "0abda59d78f21c5fcf97fffd8e90ff937f66e29ec1e0f935a2f90aeabee1b369", func := "punnet/punnetlaw15.ChainsTrue", spec := "chainsTrue", apart := false, narrowed := true }
def ChainsTrueUptoSaid : Prop := chainsTrueUptoRow.holds Try.pinned (OpenSpec.upto chainsTrueSpec)

end Rows
end Go.Proofs.Ytjfmaebgihlegaa
