/-
  The laws of layer 35: awake.
-/
import Derived.Test.YtcbginkbipefaaaRing3
namespace Go.Proofs.Ytcbginkbipefaaa
open Go.RowKit Go.Maps

set_option maxHeartbeats 800000 in
theorem awake35_any (w : World) : Calls Try.prog 5 #[] w fun e w' => e = .returned (.bool true) ∧ Below w.heap.size w w' := by
  have NEW := Lib.hid (ringNew w)
  go_enter Try.func5, Try.ntmps5
  go_wp2_with fail
  (with_reducible refine NEW.out.mono ?_)
  rintro e w1 ⟨rfl, hr1, hf1⟩
  obtain ⟨q, hq⟩ : ∃ q, q = w.heap.size := ⟨_, rfl⟩
  rw [← hq] at hr1 hf1 ⊢
  have HQ := Lib.hid hq
  have HF1 := Lib.hid hf1
  have R1 := Lib.hid (ringReady_yes q [] (fun _ => 0) 0 0 7 w1 hr1 (by unfold I64; omega) (by simp) (by omega) (fun _ h => h.elim))
  clear hr1 hf1 hq NEW
  go_wp2_with fail
  (with_reducible refine R1.out.mono ?_)
  rintro e w2 ⟨rfl, hr2, hf2⟩
  have HF2 := Lib.hid (HF1.out.trans hf2 (fun _ _ h => h))
  have R2 := Lib.hid (ringReady_yes q [7] (fun _ => 0) 0 1 8 w2 hr2 (by unfold I64; omega) (by simp) (by omega) (fun _ h => h.elim))
  clear hr2 hf2 R1
  go_wp2_with fail
  (with_reducible refine R2.out.mono ?_)
  rintro e w3 ⟨rfl, hr3, hf3⟩
  have HF3 := Lib.hid (HF2.out.trans hf3 (fun _ _ h => h))
  have P1 := Lib.hid (ringPick_some q [7, 8] (fun _ => 0) 0 2 1 1 w3 hr3 (by omega) (by simp) (.inl (by decide)))
  clear hr3 hf3 R2
  go_wp2_with fail
  (with_reducible refine P1.out.mono ?_)
  rintro e w4 ⟨rfl, hr4, hf4⟩
  have HF4 := Lib.hid (HF3.out.trans hf4 (fun _ _ h => h))
  have LS := Lib.hid (ringList q [7, 8] _ _ _ w4 hr4 (by omega))
  clear hr4 hf4 P1
  go_wp2_with fail
  (with_reducible refine LS.out.mono ?_)
  rintro e w5 ⟨A5, c5, rfl, ho5, hb5⟩
  have hs5 := hb5.size
  have HB5 := Lib.hid hb5
  have HO5 := Lib.hid (show w5.ownsRow w4.heap.size 3 1 (.slice A5 2 c5) 2 (intsV [7, 8]) from ho5)
  clear ho5 hb5 LS
  simp only [show (intsV [7, 8]).length = 2 from rfl]
  have IS := Lib.hid (ints_same [7, 8] [7, 8] A5 (some ⟨w5.heap.size, 0, none⟩) c5 2 w5.heap.size (w5.heap.size + 1) (w5.alloc (.cells #[.int .i64 7, .int .i64 8] 3)) (by simp [maxLen]) (by simp [maxLen]) ((Sl.of_own HO5.out).alloc (Nat.le_refl _) _) (Sl.new_ _ _ _ _))
  rw [decide_eq_true rfl] at IS
  go_wp2_with fail
  (refine IS.out.mono ?_)
  rintro e w6 ⟨rfl, n6, rfl⟩
  have hsz := HF4.out.size
  go_wp2_with fail
  go_ret
  refine ⟨rfl, ?_⟩
  have hB4 : Below w.heap.size w w4 := HF4.out.below (Nat.le_refl _) (fun k hk h => by have := HQ.out; have := h.1; omega)
  exact below_drewN (((hB4.trans (HB5.out.mono hsz)).alloc (by omega) _)) n6

end Go.Proofs.Ytcbginkbipefaaa
