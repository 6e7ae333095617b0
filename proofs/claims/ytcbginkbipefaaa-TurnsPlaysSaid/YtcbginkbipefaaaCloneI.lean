/-
  slices.Clone of ints: a slice of its own that reads alike.
-/
import Derived.Test.YtcbginkbipefaaaProg
import Derived.Test.YtcbginkbipefaaaAppend
namespace Go.Proofs.Ytcbginkbipefaaa
open Go.RowKit

theorem intInfoC : (Try.prog.info? 3).map (fun i => (i.zero, i.size, i.bytes)) = some (some (.int .i64 0), 1, 8) := by kernel_rfl

set_option maxHeartbeats 400000 in
theorem cloneI_any (l : List Int) (a : Option Addr) (c B : Nat) (w : World) (hl : l.length ≤ 1000000000) (hsl : Sl w B a (intsV l)) (hB : B ≤ w.heap.size) :
    Calls Try.prog 24 #[.slice a l.length c] w (Gives 3 (intsV l) w) := by
  have HS := Lib.hid hsl
  obtain ⟨i0, hi0, hz0, hz1, hz2⟩ := info_parts intInfoC
  have Hi0 := Lib.hid hi0
  have Hz0 := Lib.hid hz0
  have Hz1 := Lib.hid hz1
  have Hz2 := Lib.hid hz2
  clear hi0 hz0 hz1 hz2
  have ek := fun (W : World) (x : Option Addr) (n m : Nat) => Lib.run_eql_slice_nil (P := Try.prog) W 22 3 x n m 0 0 Try.underlying22
  cases a with
  | none =>
    have hn : l = [] := by
      rcases hsl with h | ⟨_, _, h, _⟩
      · simpa [intsV] using h
      · cases h
    subst hn
    clear hsl
    go_enter Try.func24, Try.ntmps24
    go_wp2_with fail
    go_ret
    exact gives_mk (n := 0) rfl rfl (World.ownsRow_nil _ _ _ _) (Below.refl _ _)
  | some ad =>
    clear hsl
    go_enter Try.func24, Try.ntmps24
    go_wp2_with (at_builtin; refine wpList_append_sl _ rfl _ _ _ rfl w.heap.size 3 i0 _ 8 Try.underlying22 Hi0.out Hz0.out Hz1.out Hz2.out rfl _ 0 [] rfl (World.ownsRow_lit w #[] 0 (Nat.le_refl _) (by decide) rfl) B (some ad) l.length c (intsV l) (len_intsV l) rfl (HS.out.alloc hB _) (int64s_oneCell l) (by unfold maxLen; omega) (by omega) (by simp) ?_; intro v1 w1 hown1 hgrow1 hat1)
    have hb1 : Below w.heap.size w w1 := own_below (World.ownsRow_lit (base := w.heap.size) (e := 3) (size := 1) w #[] 0 (Nat.le_refl _) (by decide) rfl) hgrow1 (Nat.le_refl _) (by simp) ((Below.refl _ _).alloc (Nat.le_refl _) _)
    obtain ⟨A1, c1, rfl⟩ := own_form hown1
    have HO := Lib.hid hown1
    have HB := Lib.hid hb1
    clear hown1 hgrow1 hat1 hb1
    go_wp2_with fail
    go_ret
    exact gives_mk (n := 0 + l.length) (by rw [len_intsV]; omega) rfl HO.out HB.out
end Go.Proofs.Ytcbginkbipefaaa
