/-
  The page's example of layer 8.
-/
import Derived.Test.YtdlnnokimhemfaaCodes
namespace Go.Proofs.Ytdlnnokimhemfaa
open Go.RowKit

theorem waking08 : codesOf [2, 1, 3, 3] = [1, 0, 3, 7] := by decide +kernel
theorem waking08k : kindOf [2, 1, 3, 3] = 3 := by decide +kernel
set_option maxHeartbeats 1000000 in
theorem awake08_any (w : World) : Calls Try.prog 8 #[] w fun e w' => e = .returned (.bool true) ∧ Below w.heap.size w w' := by
  have CO := Lib.hid (codes_ok [2, 1, 3, 3] (some ⟨w.heap.size, 0, none⟩) 4 (w.heap.size + 1) (w.alloc (.cells #[.int .i64 2, .int .i64 1, .int .i64 3, .int .i64 3] 3)) (by decide) (Sl.new_ w _ _ _) (by simp) (by rw [waking08k]; decide))
  rw [waking08] at CO
  go_enter Try.func8, Try.ntmps8
  go_wp2_with fail
  (refine CO.out.mono ?_)
  rintro e w1 ⟨A, c, rfl, hown, hb⟩
  have HB := Lib.hid (((Below.refl w.heap.size w).alloc (Nat.le_refl _) _).trans (hb.mono (by simp)))
  have hs := Sl.of_own hown
  obtain ⟨b, off, rfl, _, c0⟩ := hs.at_ (k := 0) (by decide)
  obtain ⟨b1, off1, e1, _, c1⟩ := hs.at_ (k := 1) (by decide)
  obtain ⟨b2, off2, e2, _, c2⟩ := hs.at_ (k := 2) (by decide)
  obtain ⟨b3, off3, e3, _, c3⟩ := hs.at_ (k := 3) (by decide)
  injection e1 with e1
  injection e1 with f1 g1
  subst f1 g1
  injection e2 with e2
  injection e2 with f2 g2
  subst f2 g2
  injection e3 with e3
  injection e3 with f3 g3
  subst f3 g3
  simp [u32sV] at c0 c1 c2 c3
  clear hs hown hb CO
  rw [show ([1, 0, 3, 7] : List Nat).length = 4 from rfl]
  go_wp2_with fail
  go_ret
  exact ⟨rfl, HB.out⟩
end Go.Proofs.Ytdlnnokimhemfaa
