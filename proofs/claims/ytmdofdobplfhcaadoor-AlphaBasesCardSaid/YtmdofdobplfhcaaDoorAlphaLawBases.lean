/-
  The law AlphaBases returns true: the walk, by ranges of the symbol.
-/
import Derived.Test.YtmdofdobplfhcaaDoorAlphaAwake
namespace Go.Proofs.YtmdofdobplfhcaaDoor
open Go.RowKit

set_option maxRecDepth 100000 in
set_option maxHeartbeats 1000000 in
theorem bases_len (i : Nat) (w : World) (hi : i < 29) (ht : Tabs w) :
    Calls Tryd.prog 4 #[.int .i64 (257 + i : Int)] w fun e w' => e = .returned (.bool true) ∧ Below w.heap.size w w' := by
  have HT := Lib.hid ht
  clear ht
  have t1 : decide ((257 : Int) ≤ 257 + (i : Int)) = true := by first | (simp; done) | (simp; omega)
  have t2 : decide (257 + (i : Int) ≤ 285) = true := by first | (simp; done) | (simp; omega)
  have t3 : decide ((0 : Int) ≤ 257 + (i : Int)) = true := by first | (simp; done) | (simp; omega)
  have t4 : decide (257 + (i : Int) < 30) = false := by first | (simp; done) | (simp; omega)
  have i0 : (0 : Int) ≤ (i : Int) := Int.natCast_nonneg _
  have i1 : (i : Int) < 29 := by omega
  go_enter Tryd.func4, Tryd.ntmps4
  go_wp2_with fail
  refine (awake_any w HT.out).mono ?_
  rintro e w1 ⟨rfl, hb1⟩
  have HB1 := Lib.hid hb1
  clear hb1
  go_wp2_with fail
  refine (ref_lengths w1).mono ?_
  rintro e w2 ⟨b1, b2, rfl, l1, l2, c1, c2, hb2⟩
  have HC1 := Lib.hid c1
  have HC2 := Lib.hid c2
  have HB2 := Lib.hid (HB1.out.trans (hb2.mono HB1.out.size))
  clear c1 c2 hb2
  rw [show lenBases.length = 29 from rfl, show lenBits.length = 29 from rfl]
  go_wp2_with fail
  refine (ref_dists w2).mono ?_
  rintro e w3 ⟨b3, b4, rfl, l3, l4, c3, c4, hb3⟩
  have D1 := Lib.hid (fun i hi => (hb3.cell (p := ⟨b1, i, none⟩) l1).trans (HC1.out i hi))
  have D2 := Lib.hid (fun i hi => (hb3.cell (p := ⟨b2, i, none⟩) l2).trans (HC2.out i hi))
  have D3 := Lib.hid c3
  have D4 := Lib.hid c4
  have HB3 := Lib.hid (HB2.out.trans (hb3.mono HB2.out.size))
  clear c3 c4 hb3 HC1 HC2
  rw [show distBases.length = 30 from rfl, show distBitsL.length = 30 from rfl]
  go_wp2_with fail
  refine (lengthBase_yes i w3 hi (HT.out.below HB3.out)).mono ?_
  rintro e w4 ⟨rfl, m, rfl⟩
  generalize hx : lenBases.getD i 0 = x
  generalize hy : lenBits.getD i 0 = y
  have HX := Lib.hid hx
  have HY := Lib.hid hy
  clear hx hy
  go_wp2_with fail
  refine (distBase_no _ _ (by omega)).mono ?_
  rintro e w5 ⟨rfl, rfl⟩
  have d1 := D1.out i hi
  have d2 := D2.out i hi
  rw [HX.out] at d1
  rw [HY.out] at d2
  go_wp2
  go_ret
  exact ⟨rfl, below_drewN HB3.out m⟩

set_option maxRecDepth 100000 in
set_option maxHeartbeats 1000000 in
theorem bases_dist (i : Nat) (w : World) (hi : i < 30) (ht : Tabs w) :
    Calls Tryd.prog 4 #[.int .i64 (i : Int)] w fun e w' => e = .returned (.bool true) ∧ Below w.heap.size w w' := by
  have HT := Lib.hid ht
  clear ht
  have t1 : decide ((257 : Int) ≤ (i : Int)) = false := by first | (simp; done) | (simp; omega)
  have t3 : decide ((0 : Int) ≤ (i : Int)) = true := by first | (simp; done) | (simp; omega)
  have t4 : decide ((i : Int) < 30) = true := by first | (simp; done) | (simp; omega)
  have i0 : (0 : Int) ≤ (i : Int) := Int.natCast_nonneg _
  have i1 : (i : Int) < 30 := by omega
  go_enter Tryd.func4, Tryd.ntmps4
  go_wp2_with fail
  refine (awake_any w HT.out).mono ?_
  rintro e w1 ⟨rfl, hb1⟩
  have HB1 := Lib.hid hb1
  clear hb1
  go_wp2_with fail
  refine (ref_lengths w1).mono ?_
  rintro e w2 ⟨b1, b2, rfl, l1, l2, c1, c2, hb2⟩
  have HC1 := Lib.hid c1
  have HC2 := Lib.hid c2
  have HB2 := Lib.hid (HB1.out.trans (hb2.mono HB1.out.size))
  clear c1 c2 hb2
  rw [show lenBases.length = 29 from rfl, show lenBits.length = 29 from rfl]
  go_wp2_with fail
  refine (ref_dists w2).mono ?_
  rintro e w3 ⟨b3, b4, rfl, l3, l4, c3, c4, hb3⟩
  have D1 := Lib.hid (fun i hi => (hb3.cell (p := ⟨b1, i, none⟩) l1).trans (HC1.out i hi))
  have D2 := Lib.hid (fun i hi => (hb3.cell (p := ⟨b2, i, none⟩) l2).trans (HC2.out i hi))
  have D3 := Lib.hid c3
  have D4 := Lib.hid c4
  have HB3 := Lib.hid (HB2.out.trans (hb3.mono HB2.out.size))
  clear c3 c4 hb3 HC1 HC2
  rw [show distBases.length = 30 from rfl, show distBitsL.length = 30 from rfl]
  go_wp2_with fail
  refine (lengthBase_no _ w3 (by omega)).mono ?_
  rintro e w4 ⟨rfl, m, rfl⟩
  go_wp2_with fail
  refine (distBase_yes i _ hi ((HT.out.below HB3.out).drewN m)).mono ?_
  rintro e w5 ⟨rfl, rfl⟩
  have d3 := D3.out i hi
  have d4 := D4.out i hi
  rw [distBits_eq i hi] at d4
  generalize distBases.getD i 0 = x at *
  generalize distBits i = y at *
  go_wp2
  go_ret
  exact ⟨rfl, below_drewN HB3.out m⟩

set_option maxRecDepth 100000 in
set_option maxHeartbeats 1000000 in
theorem bases_low (s : Int) (w : World) (hs : s < 0) (ht : Tabs w) :
    Calls Tryd.prog 4 #[.int .i64 s] w fun e w' => e = .returned (.bool true) ∧ Below w.heap.size w w' := by
  have HT := Lib.hid ht
  clear ht
  have t1 : decide (257 ≤ s) = false := by first | (simp; done) | (simp; omega)
  have t3 : decide (0 ≤ s) = false := by first | (simp; done) | (simp; omega)
  go_enter Tryd.func4, Tryd.ntmps4
  go_wp2_with fail
  refine (awake_any w HT.out).mono ?_
  rintro e w1 ⟨rfl, hb1⟩
  have HB1 := Lib.hid hb1
  clear hb1
  go_wp2_with fail
  refine (ref_lengths w1).mono ?_
  rintro e w2 ⟨b1, b2, rfl, l1, l2, c1, c2, hb2⟩
  have HC1 := Lib.hid c1
  have HC2 := Lib.hid c2
  have HB2 := Lib.hid (HB1.out.trans (hb2.mono HB1.out.size))
  clear c1 c2 hb2
  rw [show lenBases.length = 29 from rfl, show lenBits.length = 29 from rfl]
  go_wp2_with fail
  refine (ref_dists w2).mono ?_
  rintro e w3 ⟨b3, b4, rfl, l3, l4, c3, c4, hb3⟩
  have D1 := Lib.hid (fun i hi => (hb3.cell (p := ⟨b1, i, none⟩) l1).trans (HC1.out i hi))
  have D2 := Lib.hid (fun i hi => (hb3.cell (p := ⟨b2, i, none⟩) l2).trans (HC2.out i hi))
  have D3 := Lib.hid c3
  have D4 := Lib.hid c4
  have HB3 := Lib.hid (HB2.out.trans (hb3.mono HB2.out.size))
  clear c3 c4 hb3 HC1 HC2
  rw [show distBases.length = 30 from rfl, show distBitsL.length = 30 from rfl]
  go_wp2_with fail
  refine (lengthBase_no _ w3 (by omega)).mono ?_
  rintro e w4 ⟨rfl, m, rfl⟩
  go_wp2_with fail
  refine (distBase_no _ _ (by omega)).mono ?_
  rintro e w5 ⟨rfl, rfl⟩
  go_wp2
  go_ret
  exact ⟨rfl, below_drewN HB3.out m⟩

set_option maxRecDepth 100000 in
set_option maxHeartbeats 1000000 in
theorem bases_mid (s : Int) (w : World) (hs : 30 ≤ s) (hs2 : s < 257) (ht : Tabs w) :
    Calls Tryd.prog 4 #[.int .i64 s] w fun e w' => e = .returned (.bool true) ∧ Below w.heap.size w w' := by
  have HT := Lib.hid ht
  clear ht
  have t1 : decide (257 ≤ s) = false := by first | (simp; done) | (simp; omega)
  have t3 : decide (0 ≤ s) = true := by first | (simp; done) | (simp; omega)
  have t4 : decide (s < 30) = false := by first | (simp; done) | (simp; omega)
  go_enter Tryd.func4, Tryd.ntmps4
  go_wp2_with fail
  refine (awake_any w HT.out).mono ?_
  rintro e w1 ⟨rfl, hb1⟩
  have HB1 := Lib.hid hb1
  clear hb1
  go_wp2_with fail
  refine (ref_lengths w1).mono ?_
  rintro e w2 ⟨b1, b2, rfl, l1, l2, c1, c2, hb2⟩
  have HC1 := Lib.hid c1
  have HC2 := Lib.hid c2
  have HB2 := Lib.hid (HB1.out.trans (hb2.mono HB1.out.size))
  clear c1 c2 hb2
  rw [show lenBases.length = 29 from rfl, show lenBits.length = 29 from rfl]
  go_wp2_with fail
  refine (ref_dists w2).mono ?_
  rintro e w3 ⟨b3, b4, rfl, l3, l4, c3, c4, hb3⟩
  have D1 := Lib.hid (fun i hi => (hb3.cell (p := ⟨b1, i, none⟩) l1).trans (HC1.out i hi))
  have D2 := Lib.hid (fun i hi => (hb3.cell (p := ⟨b2, i, none⟩) l2).trans (HC2.out i hi))
  have D3 := Lib.hid c3
  have D4 := Lib.hid c4
  have HB3 := Lib.hid (HB2.out.trans (hb3.mono HB2.out.size))
  clear c3 c4 hb3 HC1 HC2
  rw [show distBases.length = 30 from rfl, show distBitsL.length = 30 from rfl]
  go_wp2_with fail
  refine (lengthBase_no _ w3 (by omega)).mono ?_
  rintro e w4 ⟨rfl, m, rfl⟩
  go_wp2_with fail
  refine (distBase_no _ _ (by omega)).mono ?_
  rintro e w5 ⟨rfl, rfl⟩
  go_wp2
  go_ret
  exact ⟨rfl, below_drewN HB3.out m⟩

set_option maxRecDepth 100000 in
set_option maxHeartbeats 1000000 in
theorem bases_high (s : Int) (w : World) (hs : 285 < s) (ht : Tabs w) :
    Calls Tryd.prog 4 #[.int .i64 s] w fun e w' => e = .returned (.bool true) ∧ Below w.heap.size w w' := by
  have HT := Lib.hid ht
  clear ht
  have t1 : decide (257 ≤ s) = true := by first | (simp; done) | (simp; omega)
  have t2 : decide (s ≤ 285) = false := by first | (simp; done) | (simp; omega)
  have t3 : decide (0 ≤ s) = true := by first | (simp; done) | (simp; omega)
  have t4 : decide (s < 30) = false := by first | (simp; done) | (simp; omega)
  go_enter Tryd.func4, Tryd.ntmps4
  go_wp2_with fail
  refine (awake_any w HT.out).mono ?_
  rintro e w1 ⟨rfl, hb1⟩
  have HB1 := Lib.hid hb1
  clear hb1
  go_wp2_with fail
  refine (ref_lengths w1).mono ?_
  rintro e w2 ⟨b1, b2, rfl, l1, l2, c1, c2, hb2⟩
  have HC1 := Lib.hid c1
  have HC2 := Lib.hid c2
  have HB2 := Lib.hid (HB1.out.trans (hb2.mono HB1.out.size))
  clear c1 c2 hb2
  rw [show lenBases.length = 29 from rfl, show lenBits.length = 29 from rfl]
  go_wp2_with fail
  refine (ref_dists w2).mono ?_
  rintro e w3 ⟨b3, b4, rfl, l3, l4, c3, c4, hb3⟩
  have D1 := Lib.hid (fun i hi => (hb3.cell (p := ⟨b1, i, none⟩) l1).trans (HC1.out i hi))
  have D2 := Lib.hid (fun i hi => (hb3.cell (p := ⟨b2, i, none⟩) l2).trans (HC2.out i hi))
  have D3 := Lib.hid c3
  have D4 := Lib.hid c4
  have HB3 := Lib.hid (HB2.out.trans (hb3.mono HB2.out.size))
  clear c3 c4 hb3 HC1 HC2
  rw [show distBases.length = 30 from rfl, show distBitsL.length = 30 from rfl]
  go_wp2_with fail
  refine (lengthBase_no _ w3 (by omega)).mono ?_
  rintro e w4 ⟨rfl, m, rfl⟩
  go_wp2_with fail
  refine (distBase_no _ _ (by omega)).mono ?_
  rintro e w5 ⟨rfl, rfl⟩
  go_wp2
  go_ret
  exact ⟨rfl, below_drewN HB3.out m⟩

theorem alphaBases_walk (s : Int) (w : World) (_h1 : -9223372036854775808 ≤ s) (_h2 : s ≤ 9223372036854775807) (hlb : Tab w 0 lenBases) (hlx : Tab w 1 lenBits) (hdb : Tab w 2 distBases) :
    Calls Tryd.prog 4 #[.int .i64 s] w fun e w' => e = .returned (.bool true) ∧ Below w.heap.size w w' := by
  have ht : Tabs w := ⟨hlb, hlx, hdb⟩
  by_cases h1 : s < 0
  · exact bases_low s w h1 ht
  by_cases h2 : s < 30
  · obtain ⟨i, rfl⟩ : ∃ i : Nat, s = i := ⟨s.toNat, by omega⟩
    exact bases_dist i w (by omega) ht
  by_cases h3 : s < 257
  · exact bases_mid s w (by omega) h3 ht
  by_cases h4 : s ≤ 285
  · obtain ⟨i, rfl⟩ : ∃ i : Nat, s = 257 + i := ⟨(s - 257).toNat, by omega⟩
    exact bases_len i w (by omega) ht
  · exact bases_high s w (by omega) ht
end Go.Proofs.YtmdofdobplfhcaaDoor
