/-
  bitout.Writer.Len.
-/
import Derived.Test.YtpfihombncnmhaaBitout
namespace Go.Proofs.Ytpfihombncnmhaa
open Go.RowKit

theorem len_any (B p : Nat) (o : Value) (out : List UInt8) (r : List Bool) (len : Nat) (w : World) (hw : WrS w B p o out r len) :
    Calls Try.prog 20 #[.pointer (some ⟨p, 0, none⟩)] w fun e w' => e = .returned (.int .i64 (len : Int)) ∧ w = w' := by
  have c3 := hw.cells.cell 3
  simp at c3
  clear hw
  go_enter Try.func20, Try.ntmps20
  go_wp2
  go_ret
  exact ⟨rfl, rfl⟩
end Go.Proofs.Ytpfihombncnmhaa
