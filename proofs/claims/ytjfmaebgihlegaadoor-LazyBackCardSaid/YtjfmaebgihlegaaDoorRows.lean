/-
  NARROWER THAN 'FOR EVERY INPUT', by the rows' own cells (each row's printed sentence says how): LazyTokens: laid · LazyBack: laid.
  DERIVED. THE GIVEN ROWS OF THIS SEAT. 2 by the template 'for every input the law returns true; each argument reads behind the call as it read before'; 0 by the template 'total and deterministic' (their statements: YtjfmaebgihlegaaDoorTotals.lean).
  GIVEN WITH THE SEED: the statements are not yours to turn. If you find one false, say at which input.
  Laid BY PROGRAM, IN A SANDBOX (cutbox-rows.mjs): the forced cells as the released guide's own fill.sh prints them over the translation 21dd062b9ce0737c… (all of the seat's roots in one cut). By AI agents, Wed Nov 11 2026. No macro, syntax, notation, axiom, sorry.
-/
import Derived.Test.YtjfmaebgihlegaaDoorChecked
import GoSem.Claim
import GoSem.ClaimJoined
import GoSem.ClaimMapViews
import Derived.JoinedTies
import Derived.KernelRfl
namespace Go.Proofs.YtjfmaebgihlegaaDoor
/- THE CELL 'sum', in the pinned program and in every row, IS THE sha256 OF THE DUMP (.gsa) THAT YtjfmaebgihlegaaDoorProg.lean LOADS. Nothing in Lean hashes anything: it is a label: what it is worth is what the hold of that sum in a sandbox is worth. -/
noncomputable def Tryd.pinned : Pinned := { name := "ytjfmaebgihlegaadoor", sum := "21dd062b9ce0737c55d8e6dfad60296dcfcc6b328da4ae2922c0c4fd9ace66e7", checked := Tryd.checked }
namespace Rows
def none {H : Type} : Left H := { results := [], args := [] }

/- WHAT THE LISTED PACKAGE-LEVEL VARIABLES READ AS WHEN THE CALL BEGINS. Each datum BY PROGRAM (the guide's laid-datum.mjs) off the statement by which the dump's own 'gosem.cut.vars' lays the variable. In a bare row this is a premise. The card (YtjfmaebgihlegaaDoorCards.lean) ties it to the program's text. -/
def laid_punnet_lazy_cares {H : Type} : DataW H := .agg [.agg [.lit (.int .i64 0), .lit (.bool false), .lit (.int .i64 0)], .agg [.lit (.int .i64 4), .lit (.bool false), .lit (.int .i64 8)], .agg [.lit (.int .i64 8), .lit (.bool false), .lit (.int .i64 16)], .agg [.lit (.int .i64 16), .lit (.bool false), .lit (.int .i64 32)], .agg [.lit (.int .i64 16), .lit (.bool true), .lit (.int .i64 16)], .agg [.lit (.int .i64 32), .lit (.bool true), .lit (.int .i64 32)], .agg [.lit (.int .i64 64), .lit (.bool true), .lit (.int .i64 64)], .agg [.lit (.int .i64 128), .lit (.bool true), .lit (.int .i64 128)], .agg [.lit (.int .i64 512), .lit (.bool true), .lit (.int .i64 258)], .agg [.lit (.int .i64 4096), .lit (.bool true), .lit (.int .i64 258)]]

/-- 'punnetlaw16.LazyTokens': WHATEVER THE INPUT: true; the input reads as it did. -/
def lazyTokensSpec : ChangeSpec := { name := "lazyTokens", fn := fun _ => fun
  | [d1, d2, d3] => { results := [.lit (.bool true)], args := [d1, d2, d3] }
  | _ => none }
def lazyTokensRow : OpenClaim := { program := "ytjfmaebgihlegaadoor", sum := "21dd062b9ce0737c55d8e6dfad60296dcfcc6b328da4ae2922c0c4fd9ace66e7", func := "punnet/punnetlaw16.LazyTokens", spec := "lazyTokens", unfollowed := true, recurses := true, named := ["punnet/lazy.cares"], apart := false, laid := [("punnet/lazy.cares", laid_punnet_lazy_cares)] }
def LazyTokensSaid : Prop := lazyTokensRow.holds Tryd.pinned (OpenSpec.ofChange lazyTokensSpec)

/-- ITS FALSE NEIGHBOUR: 'it returns false'. Refute it at one input. -/
def lazyTokensWrong : ChangeSpec := { name := "lazyTokens", fn := fun _ => fun
  | [d1, d2, d3] => { results := [.lit (.bool false)], args := [d1, d2, d3] }
  | _ => none }
def LazyTokensWrongFalsely : Prop := lazyTokensRow.holds Tryd.pinned (OpenSpec.ofChange lazyTokensWrong)

/-- 'punnetlaw16.LazyBack': WHATEVER THE INPUT: true; the input reads as it did. -/
def lazyBackSpec : ChangeSpec := { name := "lazyBack", fn := fun _ => fun
  | [d1, d2, d3] => { results := [.lit (.bool true)], args := [d1, d2, d3] }
  | _ => none }
def lazyBackRow : OpenClaim := { program := "ytjfmaebgihlegaadoor", sum := "21dd062b9ce0737c55d8e6dfad60296dcfcc6b328da4ae2922c0c4fd9ace66e7", func := "punnet/punnetlaw16.LazyBack", spec := "lazyBack", unfollowed := true, recurses := true, named := ["punnet/lazy.cares"], apart := false, laid := [("punnet/lazy.cares", laid_punnet_lazy_cares)] }
def LazyBackSaid : Prop := lazyBackRow.holds Tryd.pinned (OpenSpec.ofChange lazyBackSpec)

/-- ITS FALSE NEIGHBOUR: 'it returns false'. Refute it at one input. -/
def lazyBackWrong : ChangeSpec := { name := "lazyBack", fn := fun _ => fun
  | [d1, d2, d3] => { results := [.lit (.bool false)], args := [d1, d2, d3] }
  | _ => none }
def LazyBackWrongFalsely : Prop := lazyBackRow.holds Tryd.pinned (OpenSpec.ofChange lazyBackWrong)

/- THE SECOND FORM. 'bulk': how many values and letters a reading holds, each counted each time it is reached (what is shared counts as often as it is met; a slice's spare places count too). A statement '..UptoSaid' is the law's where the arguments, and the package variables that the reading takes, are together of bulk at most 1048576: NARROWER than '..Said'. Prove '..Said' where nothing that the law and all that it calls make is longer than what came in: it says more and counts as full. Else prove '..UptoSaid'. A law counts once. -/
mutual
def uptoBulk {H : Type} : DataW H → Nat
  | .lit (.string bytes) => bytes.length + 1
  | .lit _ => 1
  | .nil => 1
  | .ptr d => uptoBulk d + 1
  | .slice elems spare => uptoBulkAll elems + uptoBulkAll spare + 1
  | .agg parts => uptoBulkAll parts + 1
  | .iface _ d => uptoBulk d + 1
  | .map entries => uptoBulkEntries entries + 1
  | .held _ => 1
def uptoBulkAll {H : Type} : List (DataW H) → Nat
  | [] => 0
  | d :: r => uptoBulk d + uptoBulkAll r
def uptoBulkEntries {H : Type} : List (Lit × DataW H) → Nat
  | [] => 0
  | x :: r => uptoBulkEntry x + uptoBulkEntries r
def uptoBulkEntry {H : Type} : Lit × DataW H → Nat
  | (.string bytes, d) => bytes.length + uptoBulk d + 1
  | (_, d) => uptoBulk d + 1
 end
def uptoSmall : (H : Type) → List (DataW H) → Bool := fun _ ds => decide (uptoBulkAll ds ≤ 1048576)
def OpenSpec.upto (s : _root_.Go.ChangeSpec) : _root_.Go.OpenSpec := { _root_.Go.OpenSpec.ofChange s with cond := some uptoSmall }

/-- 'punnetlaw16.LazyTokens', WHERE WHAT IT READS IS OF BULK AT MOST 1048576: true; the input reads as it did. -/
def lazyTokensUptoRow : OpenClaim := { program := "ytjfmaebgihlegaadoor", sum := "21dd062b9ce0737c55d8e6dfad60296dcfcc6b328da4ae2922c0c4fd9ace66e7", func := "punnet/punnetlaw16.LazyTokens", spec := "lazyTokens", unfollowed := true, recurses := true, named := ["punnet/lazy.cares"], apart := false, laid := [("punnet/lazy.cares", laid_punnet_lazy_cares)], narrowed := true }
def LazyTokensUptoSaid : Prop := lazyTokensUptoRow.holds Tryd.pinned (OpenSpec.upto lazyTokensSpec)

/-- 'punnetlaw16.LazyBack', WHERE WHAT IT READS IS OF BULK AT MOST 1048576: true; the input reads as it did. -/
def lazyBackUptoRow : OpenClaim := { program := "ytjfmaebgihlegaadoor", sum := "21dd062b9ce0737c55d8e6dfad60296dcfcc6b328da4ae2922c0c4fd9ace66e7", func := "punnet/punnetlaw16.LazyBack", spec := "lazyBack", unfollowed := true, recurses := true, named := ["punnet/lazy.cares"], apart := false, laid := [("punnet/lazy.cares", laid_punnet_lazy_cares)], narrowed := true }
def LazyBackUptoSaid : Prop := lazyBackUptoRow.holds Tryd.pinned (OpenSpec.upto lazyBackSpec)

end Rows
end Go.Proofs.YtjfmaebgihlegaaDoor
