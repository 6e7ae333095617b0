/-
  NARROWER THAN 'FOR EVERY INPUT', by the rows' own cells (each row's printed sentence says how): CrcSums: laid · CrcLinear: laid · CrcDigests: laid.
  DERIVED. THE GIVEN ROWS OF THIS SEAT. 3 by the template 'for every input the law returns true; each argument reads behind the call as it read before'; 0 by the template 'total and deterministic' (their statements: YtiaiioaiifaahaaDoorTotals.lean).
  GIVEN WITH THE SEED: the statements are not yours to turn. If you find one false, say at which input.
  Laid BY PROGRAM, IN A SANDBOX (cutbox-rows.mjs): the forced cells as the released guide's own fill.sh prints them over the translation 9e8f59e19ef5c66e… (all of the seat's roots in one cut). By AI agents, Wed Nov 11 2026. No macro, syntax, notation, axiom, sorry.
-/
import Derived.Test.YtiaiioaiifaahaaDoorChecked
import GoSem.Claim
import GoSem.ClaimJoined
import GoSem.ClaimMapViews
import Derived.JoinedTies
import Derived.KernelRfl
namespace Go.Proofs.YtiaiioaiifaahaaDoor
/- THE CELL 'sum', in the pinned program and in every row, IS THE sha256 OF THE DUMP (.gsa) THAT YtiaiioaiifaahaaDoorProg.lean LOADS. Nothing in Lean hashes anything: it is a label: what it is worth is what the hold of that sum in a sandbox is worth. -/
noncomputable def Tryd.pinned : Pinned := { name := "ytiaiioaiifaahaadoor", sum := "9e8f59e19ef5c66e32de6b13504a082517860d80ea9364c8a99c6b2ea98bff42", checked := Tryd.checked }
namespace Rows
def none {H : Type} : Left H := { results := [], args := [] }

/- WHAT THE LISTED PACKAGE-LEVEL VARIABLES READ AS WHEN THE CALL BEGINS. Each datum BY PROGRAM (the guide's laid-datum.mjs) off the statement by which the dump's own 'gosem.cut.vars' lays the variable. In a bare row this is a premise. The card (YtiaiioaiifaahaaDoorCards.lean) ties it to the program's text. -/
def laid_punnet_crc_steps {H : Type} : DataW H := .agg [.lit (.int .u32 0), .lit (.int .u32 498536548), .lit (.int .u32 997073096), .lit (.int .u32 651767980), .lit (.int .u32 1994146192), .lit (.int .u32 1802195444), .lit (.int .u32 1303535960), .lit (.int .u32 1342533948), .lit (.int .u32 3988292384), .lit (.int .u32 4027552580), .lit (.int .u32 3604390888), .lit (.int .u32 3412177804), .lit (.int .u32 2607071920), .lit (.int .u32 2262029012), .lit (.int .u32 2685067896), .lit (.int .u32 3183342108)]

/-- 'punnetlaw04.CrcSums': WHATEVER THE INPUT: true; the input reads as it did. -/
def crcSumsSpec : ChangeSpec := { name := "crcSums", fn := fun _ => fun
  | [d1, d2] => { results := [.lit (.bool true)], args := [d1, d2] }
  | _ => none }
def crcSumsRow : OpenClaim := { program := "ytiaiioaiifaahaadoor", sum := "9e8f59e19ef5c66e32de6b13504a082517860d80ea9364c8a99c6b2ea98bff42", func := "punnet/punnetlaw04.CrcSums", spec := "crcSums", named := ["punnet/crc.steps"], apart := false, laid := [("punnet/crc.steps", laid_punnet_crc_steps)] }
def CrcSumsSaid : Prop := crcSumsRow.holds Tryd.pinned (OpenSpec.ofChange crcSumsSpec)

/-- ITS FALSE NEIGHBOUR: 'it returns false'. Refute it at one input. -/
def crcSumsWrong : ChangeSpec := { name := "crcSums", fn := fun _ => fun
  | [d1, d2] => { results := [.lit (.bool false)], args := [d1, d2] }
  | _ => none }
def CrcSumsWrongFalsely : Prop := crcSumsRow.holds Tryd.pinned (OpenSpec.ofChange crcSumsWrong)

/-- 'punnetlaw04.CrcLinear': WHATEVER THE INPUT: true; the input reads as it did. -/
def crcLinearSpec : ChangeSpec := { name := "crcLinear", fn := fun _ => fun
  | [d1, d2, d3] => { results := [.lit (.bool true)], args := [d1, d2, d3] }
  | _ => none }
def crcLinearRow : OpenClaim := { program := "ytiaiioaiifaahaadoor", sum := "9e8f59e19ef5c66e32de6b13504a082517860d80ea9364c8a99c6b2ea98bff42", func := "punnet/punnetlaw04.CrcLinear", spec := "crcLinear", named := ["punnet/crc.steps"], apart := false, laid := [("punnet/crc.steps", laid_punnet_crc_steps)] }
def CrcLinearSaid : Prop := crcLinearRow.holds Tryd.pinned (OpenSpec.ofChange crcLinearSpec)

/-- ITS FALSE NEIGHBOUR: 'it returns false'. Refute it at one input. -/
def crcLinearWrong : ChangeSpec := { name := "crcLinear", fn := fun _ => fun
  | [d1, d2, d3] => { results := [.lit (.bool false)], args := [d1, d2, d3] }
  | _ => none }
def CrcLinearWrongFalsely : Prop := crcLinearRow.holds Tryd.pinned (OpenSpec.ofChange crcLinearWrong)

/-- 'punnetlaw04.CrcDigests': WHATEVER THE INPUT: true; the input reads as it did. -/
def crcDigestsSpec : ChangeSpec := { name := "crcDigests", fn := fun _ => fun
  | [d1, d2] => { results := [.lit (.bool true)], args := [d1, d2] }
  | _ => none }
def crcDigestsRow : OpenClaim := { program := "ytiaiioaiifaahaadoor", sum := "9e8f59e19ef5c66e32de6b13504a082517860d80ea9364c8a99c6b2ea98bff42", func := "punnet/punnetlaw04.CrcDigests", spec := "crcDigests", named := ["punnet/crc.steps"], apart := false, laid := [("punnet/crc.steps", laid_punnet_crc_steps)] }
def CrcDigestsSaid : Prop := crcDigestsRow.holds Tryd.pinned (OpenSpec.ofChange crcDigestsSpec)

/-- ITS FALSE NEIGHBOUR: 'it returns false'. Refute it at one input. -/
def crcDigestsWrong : ChangeSpec := { name := "crcDigests", fn := fun _ => fun
  | [d1, d2] => { results := [.lit (.bool false)], args := [d1, d2] }
  | _ => none }
def CrcDigestsWrongFalsely : Prop := crcDigestsRow.holds Tryd.pinned (OpenSpec.ofChange crcDigestsWrong)

/- THE SECOND FORM. 'bulk': how many values and letters a reading holds, each counted each time it is reached (what is shared counts as often as it is met; a slice's spare places count too). A statement '..UptoSaid' is the law's where the arguments, and the package variables that the reading takes, are together of bulk at most 1048576: NARROWER than '..Said'. Prove '..Said' where nothing that the law and all that it calls make is longer than what came in: it says more and counts as full. Else prove '..UptoSaid'. A law counts once. -/
mutual
def uptoBulk {H : Type} : DataW H → Nat
  | .lit (.string bytes) => bytes.length + 1
  | .lit _ => 1
  | .nil => 1
  | .ptr d => uptoBulk d + 1
  | .slice elems spare => uptoBulkAll elems + uptoBulkAll spare + 1
  | .agg parts => uptoBulkAll parts + 1
  | .iface _ d => uptoBulk d + 1
  | .map entries => uptoBulkEntries entries + 1
  | .held _ => 1
def uptoBulkAll {H : Type} : List (DataW H) → Nat
  | [] => 0
  | d :: r => uptoBulk d + uptoBulkAll r
def uptoBulkEntries {H : Type} : List (Lit × DataW H) → Nat
  | [] => 0
  | x :: r => uptoBulkEntry x + uptoBulkEntries r
def uptoBulkEntry {H : Type} : Lit × DataW H → Nat
  | (.string bytes, d) => bytes.length + uptoBulk d + 1
  | (_, d) => uptoBulk d + 1
 end
def uptoSmall : (H : Type) → List (DataW H) → Bool := fun _ ds => decide (uptoBulkAll ds ≤ 1048576)
def OpenSpec.upto (s : _root_.Go.ChangeSpec) : _root_.Go.OpenSpec := { _root_.Go.OpenSpec.ofChange s with cond := some uptoSmall }

/-- 'punnetlaw04.CrcSums', WHERE WHAT IT READS IS OF BULK AT MOST 1048576: true; the input reads as it did. -/
def crcSumsUptoRow : OpenClaim := { program := "ytiaiioaiifaahaadoor", sum := "9e8f59e19ef5c66e32de6b13504a082517860d80ea9364c8a99c6b2ea98bff42", func := "punnet/punnetlaw04.CrcSums", spec := "crcSums", named := ["punnet/crc.steps"], apart := false, laid := [("punnet/crc.steps", laid_punnet_crc_steps)], narrowed := true }
def CrcSumsUptoSaid : Prop := crcSumsUptoRow.holds Tryd.pinned (OpenSpec.upto crcSumsSpec)

/-- 'punnetlaw04.CrcLinear', WHERE WHAT IT READS IS OF BULK AT MOST 1048576: true; the input reads as it did. -/
def crcLinearUptoRow : OpenClaim := { program := "ytiaiioaiifaahaadoor", sum := "9e8f59e19ef5c66e32de6b13504a082517860d80ea9364c8a99c6b2ea98bff42", func := "punnet/punnetlaw04.CrcLinear", spec := "crcLinear", named := ["punnet/crc.steps"], apart := false, laid := [("punnet/crc.steps", laid_punnet_crc_steps)], narrowed := true }
def CrcLinearUptoSaid : Prop := crcLinearUptoRow.holds Tryd.pinned (OpenSpec.upto crcLinearSpec)

/-- 'punnetlaw04.CrcDigests', WHERE WHAT IT READS IS OF BULK AT MOST 1048576: true; the input reads as it did. -/
def crcDigestsUptoRow : OpenClaim := { program := "ytiaiioaiifaahaadoor", sum := "9e8f59e19ef5c66e32de6b13504a082517860d80ea9364c8a99c6b2ea98bff42", func := "punnet/punnetlaw04.CrcDigests", spec := "crcDigests", named := ["punnet/crc.steps"], apart := false, laid := [("punnet/crc.steps", laid_punnet_crc_steps)], narrowed := true }
def CrcDigestsUptoSaid : Prop := crcDigestsUptoRow.holds Tryd.pinned (OpenSpec.upto crcDigestsSpec)

end Rows
end Go.Proofs.YtiaiioaiifaahaaDoor
