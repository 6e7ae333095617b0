/-
  The page's examples hold: punnetlaw10.awake returns true.
-/
import Derived.Test.YtmdofdobplfhcaaDoorAlphaRefs
namespace Go.Proofs.YtmdofdobplfhcaaDoor
open Go.RowKit

theorem bcells {W w1 : World} (hb : Below W.heap.size W w1) : (∀ b o, b < W.heap.size → w1.cell? ⟨b, o, none⟩ = W.cell? ⟨b, o, none⟩) ∧ (∀ b o, b < W.heap.size → w1.frozen? ⟨b, o, none⟩ = W.frozen? ⟨b, o, none⟩) :=
  ⟨fun b o h => hb.cell (p := ⟨b, o, none⟩) h, fun b o h => hb.frozen (p := ⟨b, o, none⟩) h⟩

theorem ten_place {i : Nat} (h : AtPlace lenBases 10 i) : i = 7 := place_unique lb_mono h (by unfold AtPlace; decide)
theorem five_place {i : Nat} (h : AtPlace distBases 5 i) : i = 4 := place_unique db_mono h (by unfold AtPlace; decide)

set_option maxHeartbeats 400000 in
theorem awake_any (w : World) (ht : Tabs w) : Calls Tryd.prog 7 #[] w fun e w' => e = .returned (.bool true) ∧ Below w.heap.size w w' := by
  have HT := Lib.hid ht
  clear ht
  go_enter Tryd.func7, Tryd.ntmps7
  go_wp2_with fail
  refine (length_yes 10 w (by decide) (by decide) HT.out).mono ?_
  rintro e w1 ⟨i, hi, rfl, hb1⟩
  obtain rfl := ten_place hi
  clear hi
  rw [show lenBits.getD 7 0 = 0 from rfl, show (10 : Int) - lenBases.getD 7 0 = 0 from rfl, show ((257 : Int) + ((7 : Nat) : Int)) = 264 from rfl]
  go_wp2_with fail
  have HB1 := Lib.hid hb1
  refine (dist_yes 5 _ (by decide) (by decide) ?_).mono ?_
  · refine (HT.out.below HB1.out).below ?_
    repeat' (first | (with_reducible exact Below.refl _ _) | (with_reducible refine Below.setCell ?_ ?_ _) | (with_reducible refine below_drewN ?_ _) | (with_reducible refine Below.drew ?_) | (with_reducible refine Below.alloc ?_ ?_ _) | go_size)
  rintro e w2 ⟨j, hj, rfl, hb2⟩
  obtain rfl := five_place hj
  clear hj
  rw [show distBits 4 = 1 from rfl, show (5 : Int) - distBases.getD 4 0 = 0 from rfl, show (((4 : Nat) : Int)) = 4 from rfl]
  have HB2 := Lib.hid hb2
  have hz := hb2.size
  simp at hz
  have g : ∀ o, (w2.alloc (.cells #[.int .i64 4, .int .i64 1, .int .i64 0] 27)).cell? ⟨w1.heap.size, o, none⟩ = (#[.int .i64 264, .int .i64 0, .int .i64 0] : Array Value)[o]? := fun o =>
    (World.cell?_alloc_lt w2 _ _ (by show w1.heap.size < _; omega)).trans ((hb2.cell (p := ⟨w1.heap.size, o, none⟩) (by simp)).trans (World.cell?_alloc_mark _ _ _ _ _))
  clear hb2 hb1
  go_wp2_with fail
  go_ret
  refine ⟨rfl, ?_⟩
  exact ((HB1.out.alloc HB1.out.size _).trans (HB2.out.mono (by have := HB1.out.size; simp; omega))).alloc (by have := HB1.out.size; omega) _
end Go.Proofs.YtmdofdobplfhcaaDoor
