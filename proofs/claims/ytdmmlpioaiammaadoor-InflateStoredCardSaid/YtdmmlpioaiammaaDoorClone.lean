/-
  slices.Clone of bytes: a slice of its own that reads alike.
-/
import Derived.Test.YtdmmlpioaiammaaDoorProg
import Derived.Test.YtdmmlpioaiammaaDoorAppend
namespace Go.Proofs.YtdmmlpioaiammaaDoor
open Go.RowKit

theorem byteInfoC : (Tryd.prog.info? 5).map (fun i => (i.zero, i.size, i.bytes)) = some (some (.int .u8 0), 1, 1) := by kernel_rfl

set_option maxHeartbeats 400000 in
theorem clone_any (l : List UInt8) (a : Option Addr) (c B : Nat) (w : World) (hl : l.length ≤ 1000000000000) (hsl : Sl w B a (bytesV l)) (hB : B ≤ w.heap.size) :
    Calls Tryd.prog 26 #[.slice a l.length c] w (Gives 5 (bytesV l) w) := by
  have HS := Lib.hid hsl
  obtain ⟨i0, hi0, hz0, hz1, hz2⟩ := info_parts byteInfoC
  have Hi0 := Lib.hid hi0
  have Hz0 := Lib.hid hz0
  have Hz1 := Lib.hid hz1
  have Hz2 := Lib.hid hz2
  clear hi0 hz0 hz1 hz2
  have ek := fun (W : World) (x : Option Addr) (n m : Nat) => Lib.run_eql_slice_nil (P := Tryd.prog) W 25 5 x n m 0 0 Tryd.underlying25
  cases a with
  | none =>
    have hn : l = [] := by
      rcases hsl with h | ⟨_, _, h, _⟩
      · simpa [bytesV] using h
      · cases h
    subst hn
    clear hsl
    go_enter Tryd.func26, Tryd.ntmps26
    go_wp2_with fail
    go_ret
    exact gives_mk (n := 0) rfl rfl (World.ownsRow_nil _ _ _ _) (Below.refl _ _)
  | some ad =>
    clear hsl
    go_enter Tryd.func26, Tryd.ntmps26
    go_wp2_with (at_builtin; refine wpList_append_sl _ rfl _ _ _ rfl w.heap.size 5 i0 _ 1 Tryd.underlying25 Hi0.out Hz0.out Hz1.out Hz2.out rfl _ 0 [] rfl (World.ownsRow_lit w #[] 0 (Nat.le_refl _) (by decide) rfl) B (some ad) l.length c (bytesV l) (len_bytesV l) rfl (HS.out.alloc hB _) (bytes_oneCell l) (by unfold maxLen; omega) (by omega) (by simp) ?_; intro v1 w1 hown1 hgrow1 hat1)
    have hb1 : Below w.heap.size w w1 := own_below (World.ownsRow_lit (base := w.heap.size) (e := 5) (size := 1) w #[] 0 (Nat.le_refl _) (by decide) rfl) hgrow1 (Nat.le_refl _) (by simp) ((Below.refl _ _).alloc (Nat.le_refl _) _)
    obtain ⟨A1, c1, rfl⟩ := own_form hown1
    have HO := Lib.hid hown1
    have HB := Lib.hid hb1
    clear hown1 hgrow1 hat1 hb1
    go_wp2_with fail
    go_ret
    exact gives_mk (n := 0 + l.length) (by rw [len_bytesV]; omega) rfl HO.out HB.out
end Go.Proofs.YtdmmlpioaiammaaDoor
