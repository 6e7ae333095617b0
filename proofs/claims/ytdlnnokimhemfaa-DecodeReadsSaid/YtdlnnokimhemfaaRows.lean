/-
  No cell of these rows narrows 'for every input' (looked for: loops, veiled, ifaces, maps, wideKeys, modest, calm, conditions, laid).
  DERIVED. THE GIVEN ROWS OF THIS SEAT. 5 by the template 'for every input the law returns true; each argument reads behind the call as it read before'; 0 by the template 'total and deterministic' (their statements: YtdlnnokimhemfaaTotals.lean).
  GIVEN WITH THE SEED: the statements are not yours to turn. If you find one false, say at which input.
  Laid BY PROGRAM, IN A SANDBOX (cutbox-rows.mjs): the forced cells as the released guide's own fill.sh prints them over the translation 017649eb54702ffa… (all of the seat's roots in one cut). By AI agents, Wed Nov 11 2026. No macro, syntax, notation, axiom, sorry.
-/
import Derived.Test.YtdlnnokimhemfaaChecked
import GoSem.Claim
import GoSem.ClaimJoined
import GoSem.ClaimMapViews
import Derived.JoinedTies
import Derived.KernelRfl
namespace Go.Proofs.Ytdlnnokimhemfaa
/- THE CELL 'sum', in the pinned program and in every row, IS THE sha256 OF THE DUMP (.gsa) THAT YtdlnnokimhemfaaProg.lean LOADS. Nothing in Lean hashes anything: it is a label: what it is worth is what the hold of that sum in a sandbox is worth. -/
noncomputable def Try.pinned : Pinned := { name := "ytdlnnokimhemfaa", sum := "017649eb54702ffaa8503974aa6eebf86ad96b4a7f50291521ec270255bcee03", checked := Try.checked }
namespace Rows
def none {H : Type} : Left H := { results := [], args := [] }

/-- 'punnetlaw08.CanonPrefix': WHATEVER THE INPUT: true; the input reads as it did. -/
def canonPrefixSpec : ChangeSpec := { name := "canonPrefix", fn := fun _ => fun
  | [d] => { results := [.lit (.bool true)], args := [d] }
  | _ => none }
def canonPrefixRow : OpenClaim := { program := "ytdlnnokimhemfaa", sum := "017649eb54702ffaa8503974aa6eebf86ad96b4a7f50291521ec270255bcee03", func := "punnet/punnetlaw08.CanonPrefix", spec := "canonPrefix", apart := false }
def CanonPrefixSaid : Prop := canonPrefixRow.holds Try.pinned (OpenSpec.ofChange canonPrefixSpec)

/-- ITS FALSE NEIGHBOUR: 'it returns false'. Refute it at one input. -/
def canonPrefixWrong : ChangeSpec := { name := "canonPrefix", fn := fun _ => fun
  | [d] => { results := [.lit (.bool false)], args := [d] }
  | _ => none }
def CanonPrefixWrongFalsely : Prop := canonPrefixRow.holds Try.pinned (OpenSpec.ofChange canonPrefixWrong)

/-- 'punnetlaw08.CanonCodes': WHATEVER THE INPUT: true; the input reads as it did. -/
def canonCodesSpec : ChangeSpec := { name := "canonCodes", fn := fun _ => fun
  | [d] => { results := [.lit (.bool true)], args := [d] }
  | _ => none }
def canonCodesRow : OpenClaim := { program := "ytdlnnokimhemfaa", sum := "017649eb54702ffaa8503974aa6eebf86ad96b4a7f50291521ec270255bcee03", func := "punnet/punnetlaw08.CanonCodes", spec := "canonCodes", apart := false }
def CanonCodesSaid : Prop := canonCodesRow.holds Try.pinned (OpenSpec.ofChange canonCodesSpec)

/-- ITS FALSE NEIGHBOUR: 'it returns false'. Refute it at one input. -/
def canonCodesWrong : ChangeSpec := { name := "canonCodes", fn := fun _ => fun
  | [d] => { results := [.lit (.bool false)], args := [d] }
  | _ => none }
def CanonCodesWrongFalsely : Prop := canonCodesRow.holds Try.pinned (OpenSpec.ofChange canonCodesWrong)

/-- 'punnetlaw08.CanonTurned': WHATEVER THE INPUT: true; the input reads as it did. -/
def canonTurnedSpec : ChangeSpec := { name := "canonTurned", fn := fun _ => fun
  | [d] => { results := [.lit (.bool true)], args := [d] }
  | _ => none }
def canonTurnedRow : OpenClaim := { program := "ytdlnnokimhemfaa", sum := "017649eb54702ffaa8503974aa6eebf86ad96b4a7f50291521ec270255bcee03", func := "punnet/punnetlaw08.CanonTurned", spec := "canonTurned", apart := false }
def CanonTurnedSaid : Prop := canonTurnedRow.holds Try.pinned (OpenSpec.ofChange canonTurnedSpec)

/-- ITS FALSE NEIGHBOUR: 'it returns false'. Refute it at one input. -/
def canonTurnedWrong : ChangeSpec := { name := "canonTurned", fn := fun _ => fun
  | [d] => { results := [.lit (.bool false)], args := [d] }
  | _ => none }
def CanonTurnedWrongFalsely : Prop := canonTurnedRow.holds Try.pinned (OpenSpec.ofChange canonTurnedWrong)

/-- 'punnetlaw09.DecodeReads': WHATEVER THE INPUT: true; the input reads as it did. -/
def decodeReadsSpec : ChangeSpec := { name := "decodeReads", fn := fun _ => fun
  | [d1, d2, d3] => { results := [.lit (.bool true)], args := [d1, d2, d3] }
  | _ => none }
def decodeReadsRow : OpenClaim := { program := "ytdlnnokimhemfaa", sum := "017649eb54702ffaa8503974aa6eebf86ad96b4a7f50291521ec270255bcee03", func := "punnet/punnetlaw09.DecodeReads", spec := "decodeReads", apart := false }
def DecodeReadsSaid : Prop := decodeReadsRow.holds Try.pinned (OpenSpec.ofChange decodeReadsSpec)

/-- ITS FALSE NEIGHBOUR: 'it returns false'. Refute it at one input. -/
def decodeReadsWrong : ChangeSpec := { name := "decodeReads", fn := fun _ => fun
  | [d1, d2, d3] => { results := [.lit (.bool false)], args := [d1, d2, d3] }
  | _ => none }
def DecodeReadsWrongFalsely : Prop := decodeReadsRow.holds Try.pinned (OpenSpec.ofChange decodeReadsWrong)

/-- 'punnetlaw09.DecodeBack': WHATEVER THE INPUT: true; the input reads as it did. -/
def decodeBackSpec : ChangeSpec := { name := "decodeBack", fn := fun _ => fun
  | [d1, d2] => { results := [.lit (.bool true)], args := [d1, d2] }
  | _ => none }
def decodeBackRow : OpenClaim := { program := "ytdlnnokimhemfaa", sum := "017649eb54702ffaa8503974aa6eebf86ad96b4a7f50291521ec270255bcee03", func := "punnet/punnetlaw09.DecodeBack", spec := "decodeBack", apart := false }
def DecodeBackSaid : Prop := decodeBackRow.holds Try.pinned (OpenSpec.ofChange decodeBackSpec)

/-- ITS FALSE NEIGHBOUR: 'it returns false'. Refute it at one input. -/
def decodeBackWrong : ChangeSpec := { name := "decodeBack", fn := fun _ => fun
  | [d1, d2] => { results := [.lit (.bool false)], args := [d1, d2] }
  | _ => none }
def DecodeBackWrongFalsely : Prop := decodeBackRow.holds Try.pinned (OpenSpec.ofChange decodeBackWrong)

/- THE SECOND FORM. 'bulk': how many values and letters a reading holds, each counted each time it is reached (what is shared counts as often as it is met; a slice's spare places count too). A statement '..UptoSaid' is the law's where the arguments, and the package variables that the reading takes, are together of bulk at most 1048576: NARROWER than '..Said'. Prove '..Said' where nothing that the law and all that it calls make is longer than what came in: it says more and counts as full. Else prove '..UptoSaid'. A law counts once. -/
mutual
def uptoBulk {H : Type} : DataW H → Nat
  | .lit (.string bytes) => bytes.length + 1
  | .lit _ => 1
  | .nil => 1
  | .ptr d => uptoBulk d + 1
  | .slice elems spare => uptoBulkAll elems + uptoBulkAll spare + 1
  | .agg parts => uptoBulkAll parts + 1
  | .iface _ d => uptoBulk d + 1
  | .map entries => uptoBulkEntries entries + 1
  | .held _ => 1
def uptoBulkAll {H : Type} : List (DataW H) → Nat
  | [] => 0
  | d :: r => uptoBulk d + uptoBulkAll r
def uptoBulkEntries {H : Type} : List (Lit × DataW H) → Nat
  | [] => 0
  | x :: r => uptoBulkEntry x + uptoBulkEntries r
def uptoBulkEntry {H : Type} : Lit × DataW H → Nat
  | (.string bytes, d) => bytes.length + uptoBulk d + 1
  | (_, d) => uptoBulk d + 1
 end
def uptoSmall : (H : Type) → List (DataW H) → Bool := fun _ ds => decide (uptoBulkAll ds ≤ 1048576)
def OpenSpec.upto (s : _root_.Go.ChangeSpec) : _root_.Go.OpenSpec := { _root_.Go.OpenSpec.ofChange s with cond := some uptoSmall }

/-- 'punnetlaw08.CanonPrefix', WHERE WHAT IT READS IS OF BULK AT MOST 1048576: true; the input reads as it did. -/
def canonPrefixUptoRow : OpenClaim := { program := "ytdlnnokimhemfaa", sum := "017649eb54702ffaa8503974aa6eebf86ad96b4a7f50291521ec270255bcee03", func := "punnet/punnetlaw08.CanonPrefix", spec := "canonPrefix", apart := false, narrowed := true }
def CanonPrefixUptoSaid : Prop := canonPrefixUptoRow.holds Try.pinned (OpenSpec.upto canonPrefixSpec)

/-- 'punnetlaw08.CanonCodes', WHERE WHAT IT READS IS OF BULK AT MOST 1048576: true; the input reads as it did. -/
def canonCodesUptoRow : OpenClaim := { program := "ytdlnnokimhemfaa", sum := "017649eb54702ffaa8503974aa6eebf86ad96b4a7f50291521ec270255bcee03", func := "punnet/punnetlaw08.CanonCodes", spec := "canonCodes", apart := false, narrowed := true }
def CanonCodesUptoSaid : Prop := canonCodesUptoRow.holds Try.pinned (OpenSpec.upto canonCodesSpec)

/-- 'punnetlaw08.CanonTurned', WHERE WHAT IT READS IS OF BULK AT MOST 1048576: true; the input reads as it did. -/
def canonTurnedUptoRow : OpenClaim := { program := "ytdlnnokimhemfaa", sum := "017649eb54702ffaa8503974aa6eebf86ad96b4a7f50291521ec270255bcee03", func := "punnet/punnetlaw08.CanonTurned", spec := "canonTurned", apart := false, narrowed := true }
def CanonTurnedUptoSaid : Prop := canonTurnedUptoRow.holds Try.pinned (OpenSpec.upto canonTurnedSpec)

/-- 'punnetlaw09.DecodeReads', WHERE WHAT IT READS IS OF BULK AT MOST 1048576: true; the input reads as it did. -/
def decodeReadsUptoRow : OpenClaim := { program := "ytdlnnokimhemfaa", sum := "017649eb54702ffaa8503974aa6eebf86ad96b4a7f50291521ec270255bcee03", func := "punnet/punnetlaw09.DecodeReads", spec := "decodeReads", apart := false, narrowed := true }
def DecodeReadsUptoSaid : Prop := decodeReadsUptoRow.holds Try.pinned (OpenSpec.upto decodeReadsSpec)

/-- 'punnetlaw09.DecodeBack', WHERE WHAT IT READS IS OF BULK AT MOST 1048576: true; the input reads as it did. -/
def decodeBackUptoRow : OpenClaim := { program := "ytdlnnokimhemfaa", sum := "017649eb54702ffaa8503974aa6eebf86ad96b4a7f50291521ec270255bcee03", func := "punnet/punnetlaw09.DecodeBack", spec := "decodeBack", apart := false, narrowed := true }
def DecodeBackUptoSaid : Prop := decodeBackUptoRow.holds Try.pinned (OpenSpec.upto decodeBackSpec)

end Rows
end Go.Proofs.Ytdlnnokimhemfaa
