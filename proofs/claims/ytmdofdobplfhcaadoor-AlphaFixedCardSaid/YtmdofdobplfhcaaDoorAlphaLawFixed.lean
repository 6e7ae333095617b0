/-
  The law AlphaFixed returns true: the walk.
-/
import Derived.Test.YtmdofdobplfhcaaDoorAlphaFixed
import Derived.Test.YtmdofdobplfhcaaDoorInts
namespace Go.Proofs.YtmdofdobplfhcaaDoor
open Go.RowKit

def orderTab : List Int := [16, 17, 18, 0, 8, 7, 9, 6, 10, 5, 11, 4, 12, 3, 13, 2, 14, 1, 15]

theorem order_yes (i : Nat) (w : World) (hi : i < 19) (ht : Tab w 3 orderTab) :
    Calls Tryd.prog 16 #[.int .i64 (i : Int)] w fun e w' => e = .returned (.int .i64 (orderTab.getD i 0)) ∧ w = w' := by
  have c := ht i hi
  clear ht
  generalize orderTab.getD i 0 = x at c
  have i0 : (0 : Int) ≤ (i : Int) := Int.natCast_nonneg _
  have i1 : (i : Int) < 19 := by omega
  have t1 : decide ((i : Int) < 0) = false := by simp
  have t2 : decide ((19 : Int) ≤ (i : Int)) = false := by simp; omega
  go_enter Tryd.func16, Tryd.ntmps16
  go_wp2
  go_ret
  exact ⟨rfl, rfl⟩
theorem order_no (i : Int) (w : World) (hi : i < 0 ∨ 19 ≤ i) :
    Calls Tryd.prog 16 #[.int .i64 i] w fun e w' => e = .returned (.int .i64 (-1)) ∧ w = w' := by
  rcases hi with hi | hi
  · have t1 : decide (i < 0) = true := by simp; omega
    go_enter Tryd.func16, Tryd.ntmps16
    go_wp2
    go_ret
    exact ⟨rfl, rfl⟩
  · have t1 : decide (i < 0) = false := by simp; omega
    have t2 : decide ((19 : Int) ≤ i) = true := by simp; omega
    go_enter Tryd.func16, Tryd.ntmps16
    go_wp2
    go_ret
    exact ⟨rfl, rfl⟩
def RefOrder (w : World) (e : Ending) (w' : World) : Prop :=
  ∃ b : Nat, e = .returned (.slice (some ⟨b, 0, none⟩) 19 19) ∧ b < w'.heap.size ∧ (∀ i, i < orderTab.length → w'.cell? ⟨b, i, none⟩ = some (.int .i64 (orderTab.getD i 0))) ∧ Below w.heap.size w w'
set_option maxRecDepth 100000 in
theorem ref_order (w : World) : Calls Tryd.prog 15 #[] w (RefOrder w) := by
  go_enter Tryd.func15, Tryd.ntmps15
  go_wp2
  go_ret
  exact ⟨w.heap.size, rfl, by simp, fun i hi => cells_lit w _ rfl orderTab _ i hi, (Below.refl _ _).alloc (Nat.le_refl _) _⟩

/-- the rest of the law behind the order's test: the two pairs of lists -/
theorem lists_gives {l : List Int} {w w1 w2 : World} {A1 A2 : Option Addr} {c1 c2 : Nat} (h1 : w1.ownsRow w.heap.size 3 1 (.slice A1 l.length c1) l.length (intsV l)) (hb : Below w1.heap.size w1 w2) (h2 : w2.ownsRow w1.heap.size 3 1 (.slice A2 l.length c2) l.length (intsV l)) (hl : l.length ≤ maxLen) :
    Calls Tryd.prog 17 #[.slice A1 l.length c1, .slice A2 l.length c2] w2 fun e w' => e = .returned (.bool true) ∧ ∃ n, w' = w2.drewN n := by
  have h := ints_same l l A1 A2 c1 c2 _ _ w2 hl hl ((Sl.of_own h1).below hb (Nat.le_refl _)) (Sl.of_own h2)
  simpa using h

set_option maxHeartbeats 800000 in
theorem fixed_yes (i : Nat) (w : World) (hi : i < 19) (ht : Tabs w) (ho : Tab w 3 orderTab) :
    Calls Tryd.prog 6 #[.int .i64 (i : Int)] w fun e w' => e = .returned (.bool true) ∧ Below w.heap.size w w' := by
  have HT := Lib.hid ht
  have HO := Lib.hid ho
  have holt := ho.lt (by decide)
  clear ht ho
  have i0 : (0 : Int) ≤ (i : Int) := Int.natCast_nonneg _
  have i1 : (i : Int) < 19 := by omega
  have t1 : decide ((0 : Int) ≤ (i : Int)) = true := by simp
  have t2 : decide ((i : Int) < 19) = true := by simp; omega
  go_enter Tryd.func6, Tryd.ntmps6
  go_wp2_with fail
  refine (awake_any w HT.out).mono ?_
  rintro e w1 ⟨rfl, hb1⟩
  have HB1 := Lib.hid hb1
  clear hb1
  go_wp2_with fail
  refine (ref_order w1).mono ?_
  rintro e w2 ⟨b, rfl, lb, cb, hb2⟩
  have HB2 := Lib.hid (HB1.out.trans (hb2.mono HB1.out.size))
  have c := cb i hi
  clear hb2 cb
  generalize hx : orderTab.getD i 0 = x at c
  have HX := Lib.hid hx
  clear hx
  go_wp2_with fail
  refine (order_yes i w2 hi (HO.out.below HB2.out holt)).mono ?_
  rintro e w3 ⟨rfl, rfl⟩
  rw [HX.out]
  go_wp2_with fail
  refine (fixedLits_any w2).mono ?_
  rintro e w3 ⟨A1, c1, rfl, own1, hb3⟩
  have HB3 := Lib.hid (HB2.out.trans (hb3.mono HB2.out.size))
  have O1 := Lib.hid own1
  clear own1 hb3
  go_wp2_with fail
  refine (refFixedLits w3).mono ?_
  rintro e w4 ⟨A2, c2, rfl, own2, hb4⟩
  have HB4 := Lib.hid (HB3.out.trans (hb4.mono HB3.out.size))
  have L := Lib.hid (lists_gives (l := fixedLits) (by have := O1.out; rw [len_intsV] at this; exact this) hb4 (by have := own2; rw [len_intsV] at this; exact this) (by simp [fixedLits, maxLen]))
  clear own2 hb4 O1
  rw [len_intsV]
  go_wp2_with fail
  refine L.out.mono ?_
  rintro e w5 ⟨rfl, m, rfl⟩
  go_wp2_with fail
  refine (fixedDists_any _).mono ?_
  rintro e w6 ⟨A3, c3, rfl, own3, hb6⟩
  have HB6 := Lib.hid ((below_drewN HB4.out m).trans (hb6.mono (by exact HB4.out.size)))
  have O3 := Lib.hid own3
  clear own3 hb6 L
  go_wp2_with fail
  refine (refFixedDists w6).mono ?_
  rintro e w7 ⟨A4, c4, rfl, own4, hb7⟩
  have HB7 := Lib.hid (HB6.out.trans (hb7.mono HB6.out.size))
  have L := Lib.hid (lists_gives (l := fixedDists) (by have := O3.out; rw [len_intsV] at this; exact this) hb7 (by have := own4; rw [len_intsV] at this; exact this) (by simp [fixedDists, maxLen]))
  clear own4 hb7 O3
  rw [len_intsV]
  go_wp2_with fail
  refine L.out.mono ?_
  rintro e w8 ⟨rfl, m', rfl⟩
  go_wp2_with fail
  go_ret
  exact ⟨rfl, below_drewN HB7.out m'⟩
set_option maxHeartbeats 800000 in
theorem fixed_low (i : Int) (w : World) (hi : i < 0) (ht : Tabs w) :
    Calls Tryd.prog 6 #[.int .i64 i] w fun e w' => e = .returned (.bool true) ∧ Below w.heap.size w w' := by
  have HT := Lib.hid ht
  clear ht
  have t1 : decide ((0 : Int) ≤ i) = false := by simp; omega
  go_enter Tryd.func6, Tryd.ntmps6
  go_wp2_with fail
  refine (awake_any w HT.out).mono ?_
  rintro e w1 ⟨rfl, hb1⟩
  have HB1 := Lib.hid hb1
  clear hb1
  go_wp2_with fail
  refine (ref_order w1).mono ?_
  rintro e w2 ⟨b, rfl, lb, cb, hb2⟩
  have HB2 := Lib.hid (HB1.out.trans (hb2.mono HB1.out.size))
  clear hb2 cb
  go_wp2_with fail
  refine (order_no i w2 (by omega)).mono ?_
  rintro e w3 ⟨rfl, rfl⟩
  go_wp2_with fail
  refine (fixedLits_any w2).mono ?_
  rintro e w3 ⟨A1, c1, rfl, own1, hb3⟩
  have HB3 := Lib.hid (HB2.out.trans (hb3.mono HB2.out.size))
  have O1 := Lib.hid own1
  clear own1 hb3
  go_wp2_with fail
  refine (refFixedLits w3).mono ?_
  rintro e w4 ⟨A2, c2, rfl, own2, hb4⟩
  have HB4 := Lib.hid (HB3.out.trans (hb4.mono HB3.out.size))
  have L := Lib.hid (lists_gives (l := fixedLits) (by have := O1.out; rw [len_intsV] at this; exact this) hb4 (by have := own2; rw [len_intsV] at this; exact this) (by simp [fixedLits, maxLen]))
  clear own2 hb4 O1
  rw [len_intsV]
  go_wp2_with fail
  refine L.out.mono ?_
  rintro e w5 ⟨rfl, m, rfl⟩
  go_wp2_with fail
  refine (fixedDists_any _).mono ?_
  rintro e w6 ⟨A3, c3, rfl, own3, hb6⟩
  have HB6 := Lib.hid ((below_drewN HB4.out m).trans (hb6.mono (by exact HB4.out.size)))
  have O3 := Lib.hid own3
  clear own3 hb6 L
  go_wp2_with fail
  refine (refFixedDists w6).mono ?_
  rintro e w7 ⟨A4, c4, rfl, own4, hb7⟩
  have HB7 := Lib.hid (HB6.out.trans (hb7.mono HB6.out.size))
  have L := Lib.hid (lists_gives (l := fixedDists) (by have := O3.out; rw [len_intsV] at this; exact this) hb7 (by have := own4; rw [len_intsV] at this; exact this) (by simp [fixedDists, maxLen]))
  clear own4 hb7 O3
  rw [len_intsV]
  go_wp2_with fail
  refine L.out.mono ?_
  rintro e w8 ⟨rfl, m', rfl⟩
  go_wp2_with fail
  go_ret
  exact ⟨rfl, below_drewN HB7.out m'⟩
set_option maxHeartbeats 800000 in
theorem fixed_high (i : Int) (w : World) (hi : 19 ≤ i) (ht : Tabs w) :
    Calls Tryd.prog 6 #[.int .i64 i] w fun e w' => e = .returned (.bool true) ∧ Below w.heap.size w w' := by
  have HT := Lib.hid ht
  clear ht
  have t1 : decide ((0 : Int) ≤ i) = true := by simp; omega
  have t2 : decide (i < 19) = false := by simp; omega
  go_enter Tryd.func6, Tryd.ntmps6
  go_wp2_with fail
  refine (awake_any w HT.out).mono ?_
  rintro e w1 ⟨rfl, hb1⟩
  have HB1 := Lib.hid hb1
  clear hb1
  go_wp2_with fail
  refine (ref_order w1).mono ?_
  rintro e w2 ⟨b, rfl, lb, cb, hb2⟩
  have HB2 := Lib.hid (HB1.out.trans (hb2.mono HB1.out.size))
  clear hb2 cb
  go_wp2_with fail
  refine (order_no i w2 (by omega)).mono ?_
  rintro e w3 ⟨rfl, rfl⟩
  go_wp2_with fail
  refine (fixedLits_any w2).mono ?_
  rintro e w3 ⟨A1, c1, rfl, own1, hb3⟩
  have HB3 := Lib.hid (HB2.out.trans (hb3.mono HB2.out.size))
  have O1 := Lib.hid own1
  clear own1 hb3
  go_wp2_with fail
  refine (refFixedLits w3).mono ?_
  rintro e w4 ⟨A2, c2, rfl, own2, hb4⟩
  have HB4 := Lib.hid (HB3.out.trans (hb4.mono HB3.out.size))
  have L := Lib.hid (lists_gives (l := fixedLits) (by have := O1.out; rw [len_intsV] at this; exact this) hb4 (by have := own2; rw [len_intsV] at this; exact this) (by simp [fixedLits, maxLen]))
  clear own2 hb4 O1
  rw [len_intsV]
  go_wp2_with fail
  refine L.out.mono ?_
  rintro e w5 ⟨rfl, m, rfl⟩
  go_wp2_with fail
  refine (fixedDists_any _).mono ?_
  rintro e w6 ⟨A3, c3, rfl, own3, hb6⟩
  have HB6 := Lib.hid ((below_drewN HB4.out m).trans (hb6.mono (by exact HB4.out.size)))
  have O3 := Lib.hid own3
  clear own3 hb6 L
  go_wp2_with fail
  refine (refFixedDists w6).mono ?_
  rintro e w7 ⟨A4, c4, rfl, own4, hb7⟩
  have HB7 := Lib.hid (HB6.out.trans (hb7.mono HB6.out.size))
  have L := Lib.hid (lists_gives (l := fixedDists) (by have := O3.out; rw [len_intsV] at this; exact this) hb7 (by have := own4; rw [len_intsV] at this; exact this) (by simp [fixedDists, maxLen]))
  clear own4 hb7 O3
  rw [len_intsV]
  go_wp2_with fail
  refine L.out.mono ?_
  rintro e w8 ⟨rfl, m', rfl⟩
  go_wp2_with fail
  go_ret
  exact ⟨rfl, below_drewN HB7.out m'⟩
theorem alphaFixed_walk (s : Int) (w : World) (_h1 : -9223372036854775808 ≤ s) (_h2 : s ≤ 9223372036854775807) (hlb : Tab w 0 lenBases) (hlx : Tab w 1 lenBits) (hdb : Tab w 2 distBases) (ho : Tab w 3 orderTab) :
    Calls Tryd.prog 6 #[.int .i64 s] w fun e w' => e = .returned (.bool true) ∧ Below w.heap.size w w' := by
  have ht : Tabs w := ⟨hlb, hlx, hdb⟩
  by_cases h1 : s < 0
  · exact fixed_low s w h1 ht
  by_cases h2 : s < 19
  · obtain ⟨i, rfl⟩ : ∃ i : Nat, s = i := ⟨s.toNat, by omega⟩
    exact fixed_yes i w (by omega) ht ho
  · exact fixed_high s w (by omega) ht
end Go.Proofs.YtmdofdobplfhcaaDoor
