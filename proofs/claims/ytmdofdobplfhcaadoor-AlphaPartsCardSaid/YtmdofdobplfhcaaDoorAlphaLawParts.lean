/-
  The law AlphaParts returns true: the walk.
-/
import Derived.Test.YtmdofdobplfhcaaDoorAlphaAwake
namespace Go.Proofs.YtmdofdobplfhcaaDoor
open Go.RowKit

set_option maxRecDepth 100000 in
set_option maxHeartbeats 1000000 in
theorem parts_a (n : Int) (w : World) (h3 : n < 1) (ht : Tabs w) :
    Calls Tryd.prog 3 #[.int .i64 n] w fun e w' => e = .returned (.bool true) ∧ Below w.heap.size w w' := by
  have HT := Lib.hid ht
  clear ht
  have t1 : decide (3 ≤ n) = false := by simp; omega
  have t3 : decide (1 ≤ n) = false := by simp; omega
  go_enter Tryd.func3, Tryd.ntmps3
  go_wp2_with fail
  refine (awake_any w HT.out).mono ?_
  rintro e w1 ⟨rfl, hb1⟩
  have HB := Lib.hid hb1
  clear hb1
  go_wp2_with fail
  refine (ref_lengths w1).mono ?_
  rintro e w2 ⟨b1, b2, rfl, l1, l2, c1, c2, hb2⟩
  have HC1 := Lib.hid c1
  have HC2 := Lib.hid c2
  have HB := Lib.hid (HB.out.trans (hb2.mono HB.out.size))
  clear c1 c2 hb2
  rw [show lenBases.length = 29 from rfl, show lenBits.length = 29 from rfl]
  go_wp2_with fail
  refine (ref_dists w2).mono ?_
  rintro e w3 ⟨b3, b4, rfl, l3, l4, c3, c4, hb3⟩
  have HC1 := Lib.hid (fun i hi => (hb3.cell (p := ⟨b1, i, none⟩) l1).trans (HC1.out i hi))
  have HC2 := Lib.hid (fun i hi => (hb3.cell (p := ⟨b2, i, none⟩) l2).trans (HC2.out i hi))
  have HC3 := Lib.hid c3
  have HC4 := Lib.hid c4
  have HB := Lib.hid (HB.out.trans (hb3.mono HB.out.size))
  have l1 := Nat.lt_of_lt_of_le l1 hb3.size
  have l2 := Nat.lt_of_lt_of_le l2 hb3.size
  clear c3 c4 hb3
  rw [show distBases.length = 30 from rfl, show distBitsL.length = 30 from rfl]
  go_wp2_with fail
  refine (length_no n w3 (by omega)).mono ?_
  rintro e w4 ⟨rfl, hb4⟩
  have HC1 := Lib.hid (fun i hi => (hb4.cell (p := ⟨b1, i, none⟩) l1).trans (HC1.out i hi))
  have HC2 := Lib.hid (fun i hi => (hb4.cell (p := ⟨b2, i, none⟩) l2).trans (HC2.out i hi))
  have HC3 := Lib.hid (fun i hi => (hb4.cell (p := ⟨b3, i, none⟩) l3).trans (HC3.out i hi))
  have HC4 := Lib.hid (fun i hi => (hb4.cell (p := ⟨b4, i, none⟩) l4).trans (HC4.out i hi))
  have HB := Lib.hid (HB.out.trans (hb4.mono HB.out.size))
  have l1 := Nat.lt_of_lt_of_le l1 hb4.size
  have l2 := Nat.lt_of_lt_of_le l2 hb4.size
  have l3 := Nat.lt_of_lt_of_le l3 hb4.size
  have l4 := Nat.lt_of_lt_of_le l4 hb4.size
  clear hb4
  go_wp2_with fail
  refine (dist_no n _ (by omega)).mono ?_
  rintro e w5 ⟨rfl, hb5⟩
  have s45 := hb5.size
  simp at s45
  have lt45 : w4.heap.size < w5.heap.size := by omega
  have G1 := Lib.hid (fun o => (hb5.cell (p := ⟨w4.heap.size, o, none⟩) (by simp)).trans (World.cell?_alloc_mark w4 _ _ _ o))
  have D1 := Lib.hid (fun i hi => ((hb5.cell (p := ⟨b1, i, none⟩) (by simp; omega)).trans (World.cell?_alloc_lt w4 _ _ l1)).trans (HC1.out i hi))
  have D2 := Lib.hid (fun i hi => ((hb5.cell (p := ⟨b2, i, none⟩) (by simp; omega)).trans (World.cell?_alloc_lt w4 _ _ l2)).trans (HC2.out i hi))
  have D3 := Lib.hid (fun i hi => ((hb5.cell (p := ⟨b3, i, none⟩) (by simp; omega)).trans (World.cell?_alloc_lt w4 _ _ l3)).trans (HC3.out i hi))
  have D4 := Lib.hid (fun i hi => ((hb5.cell (p := ⟨b4, i, none⟩) (by simp; omega)).trans (World.cell?_alloc_lt w4 _ _ l4)).trans (HC4.out i hi))
  have HB5 := Lib.hid (HB.out.trans (((Below.refl _ _).alloc HB.out.size _).trans (hb5.mono (by have := HB.out.size; simp; omega))))
  clear hb5
  go_wp2_with fail
  refine (ref_find lenBases n b1 29 _ (by decide) (fun i hi => (World.cell?_alloc_lt w5 _ _ (by show b1 < _; omega)).trans (D1.out i hi))).mono ?_
  rintro e w6 ⟨x, hx, rfl, rfl⟩
  clear hx
  go_wp2_with fail
  refine (ref_find distBases n b3 30 _ (by decide) (fun i hi => (World.cell?_alloc_lt w5 _ _ (by show b3 < _; omega)).trans (D3.out i hi))).mono ?_
  rintro e w6 ⟨y, hy, rfl, rfl⟩
  clear hy
  have g0 := G1.out 0
  have g1 := G1.out 1
  have g2 := G1.out 2
  simp at g0 g1 g2
  have far : ∀ (o1 o2 o3 : Obj) (b j : Nat), b < w5.heap.size → (((w5.alloc o1).alloc o2).alloc o3).cell? ⟨b, j, none⟩ = w5.cell? ⟨b, j, none⟩ := fun o1 o2 o3 b j hb => by
    rw [World.cell?_alloc_lt _ _ _ (by simp; omega), World.cell?_alloc_lt _ _ _ (by simp; omega), World.cell?_alloc_lt _ _ _ (by simpa using hb)]
  have K0 := fun o1 o2 o3 => (far o1 o2 o3 w4.heap.size 0 (by omega)).trans g0
  have K1 := fun o1 o2 o3 => (far o1 o2 o3 w4.heap.size 1 (by omega)).trans g1
  have K2 := fun o1 o2 o3 => (far o1 o2 o3 w4.heap.size 2 (by omega)).trans g2
  clear far g0 g1 g2
  have nef1 : ¬ b1 = w5.heap.size := by omega
  have neg1 : ¬ b1 = w5.heap.size + 1 := by omega
  have neh1 : ¬ b1 = w5.heap.size + 1 + 1 := by omega
  have nei1 : ¬ b1 = w5.heap.size + 2 := by omega
  have nef2 : ¬ b2 = w5.heap.size := by omega
  have neg2 : ¬ b2 = w5.heap.size + 1 := by omega
  have neh2 : ¬ b2 = w5.heap.size + 1 + 1 := by omega
  have nei2 : ¬ b2 = w5.heap.size + 2 := by omega
  have nef3 : ¬ b3 = w5.heap.size := by omega
  have neg3 : ¬ b3 = w5.heap.size + 1 := by omega
  have neh3 : ¬ b3 = w5.heap.size + 1 + 1 := by omega
  have nei3 : ¬ b3 = w5.heap.size + 2 := by omega
  have nef4 : ¬ b4 = w5.heap.size := by omega
  have neg4 : ¬ b4 = w5.heap.size + 1 := by omega
  have neh4 : ¬ b4 = w5.heap.size + 1 + 1 := by omega
  have nei4 : ¬ b4 = w5.heap.size + 2 := by omega
  have newf : ¬ w4.heap.size = w5.heap.size := by omega
  have newg : ¬ w4.heap.size = w5.heap.size + 1 := by omega
  have newh : ¬ w4.heap.size = w5.heap.size + 1 + 1 := by omega
  have newi : ¬ w4.heap.size = w5.heap.size + 2 := by omega
  go_wp2_with fail
  have hsz := HB5.out.size
  go_ret
  refine ⟨rfl, ?_⟩
  repeat' (first | (with_reducible exact HB5.out) | (with_reducible refine Below.setCell ?_ ?_ _) | (with_reducible refine below_drewN ?_ _) | (with_reducible refine Below.drew ?_) | (with_reducible refine Below.alloc ?_ ?_ _) | go_size)
set_option maxRecDepth 100000 in
set_option maxHeartbeats 1000000 in
theorem parts_b (n : Int) (w : World) (h3 : 1 ≤ n) (h258 : n < 3) (ht : Tabs w) :
    Calls Tryd.prog 3 #[.int .i64 n] w fun e w' => e = .returned (.bool true) ∧ Below w.heap.size w w' := by
  have HT := Lib.hid ht
  clear ht
  have t1 : decide (3 ≤ n) = false := by simp; omega
  have t3 : decide (1 ≤ n) = true := by simp; omega
  have t4 : decide (n ≤ 32768) = true := by simp; omega
  go_enter Tryd.func3, Tryd.ntmps3
  go_wp2_with fail
  refine (awake_any w HT.out).mono ?_
  rintro e w1 ⟨rfl, hb1⟩
  have HB := Lib.hid hb1
  clear hb1
  go_wp2_with fail
  refine (ref_lengths w1).mono ?_
  rintro e w2 ⟨b1, b2, rfl, l1, l2, c1, c2, hb2⟩
  have HC1 := Lib.hid c1
  have HC2 := Lib.hid c2
  have HB := Lib.hid (HB.out.trans (hb2.mono HB.out.size))
  clear c1 c2 hb2
  rw [show lenBases.length = 29 from rfl, show lenBits.length = 29 from rfl]
  go_wp2_with fail
  refine (ref_dists w2).mono ?_
  rintro e w3 ⟨b3, b4, rfl, l3, l4, c3, c4, hb3⟩
  have HC1 := Lib.hid (fun i hi => (hb3.cell (p := ⟨b1, i, none⟩) l1).trans (HC1.out i hi))
  have HC2 := Lib.hid (fun i hi => (hb3.cell (p := ⟨b2, i, none⟩) l2).trans (HC2.out i hi))
  have HC3 := Lib.hid c3
  have HC4 := Lib.hid c4
  have HB := Lib.hid (HB.out.trans (hb3.mono HB.out.size))
  have l1 := Nat.lt_of_lt_of_le l1 hb3.size
  have l2 := Nat.lt_of_lt_of_le l2 hb3.size
  clear c3 c4 hb3
  rw [show distBases.length = 30 from rfl, show distBitsL.length = 30 from rfl]
  go_wp2_with fail
  refine (length_no n w3 (by omega)).mono ?_
  rintro e w4 ⟨rfl, hb4⟩
  have HC1 := Lib.hid (fun i hi => (hb4.cell (p := ⟨b1, i, none⟩) l1).trans (HC1.out i hi))
  have HC2 := Lib.hid (fun i hi => (hb4.cell (p := ⟨b2, i, none⟩) l2).trans (HC2.out i hi))
  have HC3 := Lib.hid (fun i hi => (hb4.cell (p := ⟨b3, i, none⟩) l3).trans (HC3.out i hi))
  have HC4 := Lib.hid (fun i hi => (hb4.cell (p := ⟨b4, i, none⟩) l4).trans (HC4.out i hi))
  have HB := Lib.hid (HB.out.trans (hb4.mono HB.out.size))
  have l1 := Nat.lt_of_lt_of_le l1 hb4.size
  have l2 := Nat.lt_of_lt_of_le l2 hb4.size
  have l3 := Nat.lt_of_lt_of_le l3 hb4.size
  have l4 := Nat.lt_of_lt_of_le l4 hb4.size
  clear hb4
  go_wp2_with fail
  refine (dist_yes n _ (by omega) (by omega) ((HT.out.below HB.out).below ?_)).mono ?_
  · repeat' (first | (with_reducible exact Below.refl _ _) | (with_reducible refine Below.setCell ?_ ?_ _) | (with_reducible refine below_drewN ?_ _) | (with_reducible refine Below.drew ?_) | (with_reducible refine Below.alloc ?_ ?_ _) | go_size)
  rintro e w5 ⟨k, hk, rfl, hb5⟩
  have HK := Lib.hid hk
  generalize hx3 : distBases.getD k 0 = X3
  generalize hx4 : distBits k = X4
  have HX3 := Lib.hid hx3
  have HX4 := Lib.hid hx4
  clear hx3 hx4
  have s45 := hb5.size
  simp at s45
  have lt45 : w4.heap.size < w5.heap.size := by omega
  have G1 := Lib.hid (fun o => (hb5.cell (p := ⟨w4.heap.size, o, none⟩) (by simp)).trans (World.cell?_alloc_mark w4 _ _ _ o))
  have D1 := Lib.hid (fun i hi => ((hb5.cell (p := ⟨b1, i, none⟩) (by simp; omega)).trans (World.cell?_alloc_lt w4 _ _ l1)).trans (HC1.out i hi))
  have D2 := Lib.hid (fun i hi => ((hb5.cell (p := ⟨b2, i, none⟩) (by simp; omega)).trans (World.cell?_alloc_lt w4 _ _ l2)).trans (HC2.out i hi))
  have D3 := Lib.hid (fun i hi => ((hb5.cell (p := ⟨b3, i, none⟩) (by simp; omega)).trans (World.cell?_alloc_lt w4 _ _ l3)).trans (HC3.out i hi))
  have D4 := Lib.hid (fun i hi => ((hb5.cell (p := ⟨b4, i, none⟩) (by simp; omega)).trans (World.cell?_alloc_lt w4 _ _ l4)).trans (HC4.out i hi))
  have HB5 := Lib.hid (HB.out.trans (((Below.refl _ _).alloc HB.out.size _).trans (hb5.mono (by have := HB.out.size; simp; omega))))
  clear hk hb5
  go_wp2_with fail
  refine (ref_find lenBases n b1 29 _ (by decide) (fun i hi => (World.cell?_alloc_lt w5 _ _ (by show b1 < _; omega)).trans (D1.out i hi))).mono ?_
  rintro e w6 ⟨x, hx, rfl, rfl⟩
  clear hx
  go_wp2_with fail
  refine (ref_find distBases n b3 30 _ (by decide) (fun i hi => (World.cell?_alloc_lt w5 _ _ (by show b3 < _; omega)).trans (D3.out i hi))).mono ?_
  rintro e w6 ⟨y, hy, rfl, rfl⟩
  obtain rfl : y = k := place_unique db_mono (hy.place (by show 1 ≤ n; omega) (by decide)) HK.out
  clear hy
  have y30 : y < 30 := HK.out.1
  have d3 := D3.out y y30
  have d4 := D4.out y y30
  rw [HX3.out] at d3
  rw [distBits_eq y y30, HX4.out] at d4
  have by_ := db_bd y y30
  rw [HX3.out] at by_
  have g0 := G1.out 0
  have g1 := G1.out 1
  have g2 := G1.out 2
  simp at g0 g1 g2
  have y0 : (0 : Int) ≤ (y : Int) := Int.natCast_nonneg _
  have y1 : (y : Int) < 30 := by omega
  have e3 : IntKind.i64.wrap (n - X3) = n - X3 := IntWalk.i64_in _ (by omega)
  have far : ∀ (o1 o2 o3 : Obj) (b j : Nat), b < w5.heap.size → (((w5.alloc o1).alloc o2).alloc o3).cell? ⟨b, j, none⟩ = w5.cell? ⟨b, j, none⟩ := fun o1 o2 o3 b j hb => by
    rw [World.cell?_alloc_lt _ _ _ (by simp; omega), World.cell?_alloc_lt _ _ _ (by simp; omega), World.cell?_alloc_lt _ _ _ (by simpa using hb)]
  have L3 := fun o1 o2 o3 => (far o1 o2 o3 b3 y (by omega)).trans d3
  have L4 := fun o1 o2 o3 => (far o1 o2 o3 b4 y (by omega)).trans d4
  have K0 := fun o1 o2 o3 => (far o1 o2 o3 w4.heap.size 0 (by omega)).trans g0
  have K1 := fun o1 o2 o3 => (far o1 o2 o3 w4.heap.size 1 (by omega)).trans g1
  have K2 := fun o1 o2 o3 => (far o1 o2 o3 w4.heap.size 2 (by omega)).trans g2
  clear far d3 d4 g0 g1 g2
  have nef1 : ¬ b1 = w5.heap.size := by omega
  have neg1 : ¬ b1 = w5.heap.size + 1 := by omega
  have neh1 : ¬ b1 = w5.heap.size + 1 + 1 := by omega
  have nei1 : ¬ b1 = w5.heap.size + 2 := by omega
  have nef2 : ¬ b2 = w5.heap.size := by omega
  have neg2 : ¬ b2 = w5.heap.size + 1 := by omega
  have neh2 : ¬ b2 = w5.heap.size + 1 + 1 := by omega
  have nei2 : ¬ b2 = w5.heap.size + 2 := by omega
  have nef3 : ¬ b3 = w5.heap.size := by omega
  have neg3 : ¬ b3 = w5.heap.size + 1 := by omega
  have neh3 : ¬ b3 = w5.heap.size + 1 + 1 := by omega
  have nei3 : ¬ b3 = w5.heap.size + 2 := by omega
  have nef4 : ¬ b4 = w5.heap.size := by omega
  have neg4 : ¬ b4 = w5.heap.size + 1 := by omega
  have neh4 : ¬ b4 = w5.heap.size + 1 + 1 := by omega
  have nei4 : ¬ b4 = w5.heap.size + 2 := by omega
  have newf : ¬ w4.heap.size = w5.heap.size := by omega
  have newg : ¬ w4.heap.size = w5.heap.size + 1 := by omega
  have newh : ¬ w4.heap.size = w5.heap.size + 1 + 1 := by omega
  have newi : ¬ w4.heap.size = w5.heap.size + 2 := by omega
  go_wp2_with fail
  go_region_held3 (fun w' => w'.cell? ⟨b3, y, none⟩ = some (.int .i64 X3) ∧ w'.cell? ⟨b4, y, none⟩ = some (.int .i64 X4)) (first | go_keep | (simp [*, World.cell?_alloc_past, World.cell?_setCell_far])) (fail)
  go_wp2_with fail
  have hsz := HB5.out.size
  go_ret
  refine ⟨rfl, ?_⟩
  repeat' (first | (with_reducible exact HB5.out) | (with_reducible refine Below.setCell ?_ ?_ _) | (with_reducible refine below_drewN ?_ _) | (with_reducible refine Below.drew ?_) | (with_reducible refine Below.alloc ?_ ?_ _) | go_size)
set_option maxRecDepth 100000 in
set_option maxHeartbeats 1000000 in
theorem parts_c (n : Int) (w : World) (h3 : 3 ≤ n) (h258 : n ≤ 258) (ht : Tabs w) :
    Calls Tryd.prog 3 #[.int .i64 n] w fun e w' => e = .returned (.bool true) ∧ Below w.heap.size w w' := by
  have HT := Lib.hid ht
  clear ht
  have t1 : decide (3 ≤ n) = true := by simp; omega
  have t2 : decide (n ≤ 258) = true := by simp; omega
  have t3 : decide (1 ≤ n) = true := by simp; omega
  have t4 : decide (n ≤ 32768) = true := by simp; omega
  go_enter Tryd.func3, Tryd.ntmps3
  go_wp2_with fail
  refine (awake_any w HT.out).mono ?_
  rintro e w1 ⟨rfl, hb1⟩
  have HB := Lib.hid hb1
  clear hb1
  go_wp2_with fail
  refine (ref_lengths w1).mono ?_
  rintro e w2 ⟨b1, b2, rfl, l1, l2, c1, c2, hb2⟩
  have HC1 := Lib.hid c1
  have HC2 := Lib.hid c2
  have HB := Lib.hid (HB.out.trans (hb2.mono HB.out.size))
  clear c1 c2 hb2
  rw [show lenBases.length = 29 from rfl, show lenBits.length = 29 from rfl]
  go_wp2_with fail
  refine (ref_dists w2).mono ?_
  rintro e w3 ⟨b3, b4, rfl, l3, l4, c3, c4, hb3⟩
  have HC1 := Lib.hid (fun i hi => (hb3.cell (p := ⟨b1, i, none⟩) l1).trans (HC1.out i hi))
  have HC2 := Lib.hid (fun i hi => (hb3.cell (p := ⟨b2, i, none⟩) l2).trans (HC2.out i hi))
  have HC3 := Lib.hid c3
  have HC4 := Lib.hid c4
  have HB := Lib.hid (HB.out.trans (hb3.mono HB.out.size))
  have l1 := Nat.lt_of_lt_of_le l1 hb3.size
  have l2 := Nat.lt_of_lt_of_le l2 hb3.size
  clear c3 c4 hb3
  rw [show distBases.length = 30 from rfl, show distBitsL.length = 30 from rfl]
  go_wp2_with fail
  refine (length_yes n w3 h3 h258 (HT.out.below HB.out)).mono ?_
  rintro e w4 ⟨i, hi, rfl, hb4⟩
  have HI := Lib.hid hi
  generalize hx1 : lenBases.getD i 0 = X1
  generalize hx2 : lenBits.getD i 0 = X2
  have HX1 := Lib.hid hx1
  have HX2 := Lib.hid hx2
  clear hx1 hx2
  have HC1 := Lib.hid (fun i hi => (hb4.cell (p := ⟨b1, i, none⟩) l1).trans (HC1.out i hi))
  have HC2 := Lib.hid (fun i hi => (hb4.cell (p := ⟨b2, i, none⟩) l2).trans (HC2.out i hi))
  have HC3 := Lib.hid (fun i hi => (hb4.cell (p := ⟨b3, i, none⟩) l3).trans (HC3.out i hi))
  have HC4 := Lib.hid (fun i hi => (hb4.cell (p := ⟨b4, i, none⟩) l4).trans (HC4.out i hi))
  have HB := Lib.hid (HB.out.trans (hb4.mono HB.out.size))
  have l1 := Nat.lt_of_lt_of_le l1 hb4.size
  have l2 := Nat.lt_of_lt_of_le l2 hb4.size
  have l3 := Nat.lt_of_lt_of_le l3 hb4.size
  have l4 := Nat.lt_of_lt_of_le l4 hb4.size
  clear hi hb4
  go_wp2_with fail
  refine (dist_yes n _ (by omega) (by omega) ((HT.out.below HB.out).below ?_)).mono ?_
  · repeat' (first | (with_reducible exact Below.refl _ _) | (with_reducible refine Below.setCell ?_ ?_ _) | (with_reducible refine below_drewN ?_ _) | (with_reducible refine Below.drew ?_) | (with_reducible refine Below.alloc ?_ ?_ _) | go_size)
  rintro e w5 ⟨k, hk, rfl, hb5⟩
  have HK := Lib.hid hk
  generalize hx3 : distBases.getD k 0 = X3
  generalize hx4 : distBits k = X4
  have HX3 := Lib.hid hx3
  have HX4 := Lib.hid hx4
  clear hx3 hx4
  have s45 := hb5.size
  simp at s45
  have lt45 : w4.heap.size < w5.heap.size := by omega
  have G1 := Lib.hid (fun o => (hb5.cell (p := ⟨w4.heap.size, o, none⟩) (by simp)).trans (World.cell?_alloc_mark w4 _ _ _ o))
  have D1 := Lib.hid (fun i hi => ((hb5.cell (p := ⟨b1, i, none⟩) (by simp; omega)).trans (World.cell?_alloc_lt w4 _ _ l1)).trans (HC1.out i hi))
  have D2 := Lib.hid (fun i hi => ((hb5.cell (p := ⟨b2, i, none⟩) (by simp; omega)).trans (World.cell?_alloc_lt w4 _ _ l2)).trans (HC2.out i hi))
  have D3 := Lib.hid (fun i hi => ((hb5.cell (p := ⟨b3, i, none⟩) (by simp; omega)).trans (World.cell?_alloc_lt w4 _ _ l3)).trans (HC3.out i hi))
  have D4 := Lib.hid (fun i hi => ((hb5.cell (p := ⟨b4, i, none⟩) (by simp; omega)).trans (World.cell?_alloc_lt w4 _ _ l4)).trans (HC4.out i hi))
  have HB5 := Lib.hid (HB.out.trans (((Below.refl _ _).alloc HB.out.size _).trans (hb5.mono (by have := HB.out.size; simp; omega))))
  clear hk hb5
  go_wp2_with fail
  refine (ref_find lenBases n b1 29 _ (by decide) (fun i hi => (World.cell?_alloc_lt w5 _ _ (by show b1 < _; omega)).trans (D1.out i hi))).mono ?_
  rintro e w6 ⟨x, hx, rfl, rfl⟩
  obtain rfl : x = i := place_unique lb_mono (hx.place h3 (by decide)) HI.out
  clear hx
  go_wp2_with fail
  refine (ref_find distBases n b3 30 _ (by decide) (fun i hi => (World.cell?_alloc_lt w5 _ _ (by show b3 < _; omega)).trans (D3.out i hi))).mono ?_
  rintro e w6 ⟨y, hy, rfl, rfl⟩
  obtain rfl : y = k := place_unique db_mono (hy.place (by show 1 ≤ n; omega) (by decide)) HK.out
  clear hy
  have x29 : x < 29 := HI.out.1
  have y30 : y < 30 := HK.out.1
  have d1 := D1.out x x29
  have d2 := D2.out x x29
  have d3 := D3.out y y30
  have d4 := D4.out y y30
  rw [HX1.out] at d1
  rw [HX2.out] at d2
  rw [HX3.out] at d3
  rw [distBits_eq y y30, HX4.out] at d4
  have bx := lb_bd x x29
  have by_ := db_bd y y30
  rw [HX1.out] at bx
  rw [HX3.out] at by_
  have g0 := G1.out 0
  have g1 := G1.out 1
  have g2 := G1.out 2
  simp at g0 g1 g2
  have x0 : (0 : Int) ≤ (x : Int) := Int.natCast_nonneg _
  have x1 : (x : Int) < 29 := by omega
  have y0 : (0 : Int) ≤ (y : Int) := Int.natCast_nonneg _
  have y1 : (y : Int) < 30 := by omega
  have e1 : IntKind.i64.wrap (257 + (x : Int)) = 257 + x := IntWalk.i64_in _ (by omega)
  have e2 : IntKind.i64.wrap (n - X1) = n - X1 := IntWalk.i64_in _ (by omega)
  have e3 : IntKind.i64.wrap (n - X3) = n - X3 := IntWalk.i64_in _ (by omega)
  have far : ∀ (o1 o2 o3 : Obj) (b j : Nat), b < w5.heap.size → (((w5.alloc o1).alloc o2).alloc o3).cell? ⟨b, j, none⟩ = w5.cell? ⟨b, j, none⟩ := fun o1 o2 o3 b j hb => by
    rw [World.cell?_alloc_lt _ _ _ (by simp; omega), World.cell?_alloc_lt _ _ _ (by simp; omega), World.cell?_alloc_lt _ _ _ (by simpa using hb)]
  have L1 := fun o1 o2 o3 => (far o1 o2 o3 b1 x (by omega)).trans d1
  have L2 := fun o1 o2 o3 => (far o1 o2 o3 b2 x (by omega)).trans d2
  have L3 := fun o1 o2 o3 => (far o1 o2 o3 b3 y (by omega)).trans d3
  have L4 := fun o1 o2 o3 => (far o1 o2 o3 b4 y (by omega)).trans d4
  have K0 := fun o1 o2 o3 => (far o1 o2 o3 w4.heap.size 0 (by omega)).trans g0
  have K1 := fun o1 o2 o3 => (far o1 o2 o3 w4.heap.size 1 (by omega)).trans g1
  have K2 := fun o1 o2 o3 => (far o1 o2 o3 w4.heap.size 2 (by omega)).trans g2
  clear far d1 d2 d3 d4 g0 g1 g2
  have nef1 : ¬ b1 = w5.heap.size := by omega
  have neg1 : ¬ b1 = w5.heap.size + 1 := by omega
  have neh1 : ¬ b1 = w5.heap.size + 1 + 1 := by omega
  have nei1 : ¬ b1 = w5.heap.size + 2 := by omega
  have nef2 : ¬ b2 = w5.heap.size := by omega
  have neg2 : ¬ b2 = w5.heap.size + 1 := by omega
  have neh2 : ¬ b2 = w5.heap.size + 1 + 1 := by omega
  have nei2 : ¬ b2 = w5.heap.size + 2 := by omega
  have nef3 : ¬ b3 = w5.heap.size := by omega
  have neg3 : ¬ b3 = w5.heap.size + 1 := by omega
  have neh3 : ¬ b3 = w5.heap.size + 1 + 1 := by omega
  have nei3 : ¬ b3 = w5.heap.size + 2 := by omega
  have nef4 : ¬ b4 = w5.heap.size := by omega
  have neg4 : ¬ b4 = w5.heap.size + 1 := by omega
  have neh4 : ¬ b4 = w5.heap.size + 1 + 1 := by omega
  have nei4 : ¬ b4 = w5.heap.size + 2 := by omega
  have newf : ¬ w4.heap.size = w5.heap.size := by omega
  have newg : ¬ w4.heap.size = w5.heap.size + 1 := by omega
  have newh : ¬ w4.heap.size = w5.heap.size + 1 + 1 := by omega
  have newi : ¬ w4.heap.size = w5.heap.size + 2 := by omega
  go_wp2_with fail
  go_region_held3 (fun w' => w'.cell? ⟨b1, x, none⟩ = some (.int .i64 X1) ∧ w'.cell? ⟨b2, x, none⟩ = some (.int .i64 X2)) (first | go_keep | (simp [*, World.cell?_alloc_past, World.cell?_setCell_far])) (fail)
  go_wp2_with fail
  go_region_held3 (fun w' => w'.cell? ⟨b3, y, none⟩ = some (.int .i64 X3) ∧ w'.cell? ⟨b4, y, none⟩ = some (.int .i64 X4)) (first | go_keep | (simp [*, World.cell?_alloc_past, World.cell?_setCell_far])) (fail)
  go_wp2_with fail
  have hsz := HB5.out.size
  go_ret
  refine ⟨rfl, ?_⟩
  repeat' (first | (with_reducible exact HB5.out) | (with_reducible refine Below.setCell ?_ ?_ _) | (with_reducible refine below_drewN ?_ _) | (with_reducible refine Below.drew ?_) | (with_reducible refine Below.alloc ?_ ?_ _) | go_size)
set_option maxRecDepth 100000 in
set_option maxHeartbeats 1000000 in
theorem parts_d (n : Int) (w : World) (h3 : 258 < n) (h258 : n ≤ 32768) (ht : Tabs w) :
    Calls Tryd.prog 3 #[.int .i64 n] w fun e w' => e = .returned (.bool true) ∧ Below w.heap.size w w' := by
  have HT := Lib.hid ht
  clear ht
  have t1 : decide (3 ≤ n) = true := by simp; omega
  have t2 : decide (n ≤ 258) = false := by simp; omega
  have t3 : decide (1 ≤ n) = true := by simp; omega
  have t4 : decide (n ≤ 32768) = true := by simp; omega
  go_enter Tryd.func3, Tryd.ntmps3
  go_wp2_with fail
  refine (awake_any w HT.out).mono ?_
  rintro e w1 ⟨rfl, hb1⟩
  have HB := Lib.hid hb1
  clear hb1
  go_wp2_with fail
  refine (ref_lengths w1).mono ?_
  rintro e w2 ⟨b1, b2, rfl, l1, l2, c1, c2, hb2⟩
  have HC1 := Lib.hid c1
  have HC2 := Lib.hid c2
  have HB := Lib.hid (HB.out.trans (hb2.mono HB.out.size))
  clear c1 c2 hb2
  rw [show lenBases.length = 29 from rfl, show lenBits.length = 29 from rfl]
  go_wp2_with fail
  refine (ref_dists w2).mono ?_
  rintro e w3 ⟨b3, b4, rfl, l3, l4, c3, c4, hb3⟩
  have HC1 := Lib.hid (fun i hi => (hb3.cell (p := ⟨b1, i, none⟩) l1).trans (HC1.out i hi))
  have HC2 := Lib.hid (fun i hi => (hb3.cell (p := ⟨b2, i, none⟩) l2).trans (HC2.out i hi))
  have HC3 := Lib.hid c3
  have HC4 := Lib.hid c4
  have HB := Lib.hid (HB.out.trans (hb3.mono HB.out.size))
  have l1 := Nat.lt_of_lt_of_le l1 hb3.size
  have l2 := Nat.lt_of_lt_of_le l2 hb3.size
  clear c3 c4 hb3
  rw [show distBases.length = 30 from rfl, show distBitsL.length = 30 from rfl]
  go_wp2_with fail
  refine (length_no n w3 (by omega)).mono ?_
  rintro e w4 ⟨rfl, hb4⟩
  have HC1 := Lib.hid (fun i hi => (hb4.cell (p := ⟨b1, i, none⟩) l1).trans (HC1.out i hi))
  have HC2 := Lib.hid (fun i hi => (hb4.cell (p := ⟨b2, i, none⟩) l2).trans (HC2.out i hi))
  have HC3 := Lib.hid (fun i hi => (hb4.cell (p := ⟨b3, i, none⟩) l3).trans (HC3.out i hi))
  have HC4 := Lib.hid (fun i hi => (hb4.cell (p := ⟨b4, i, none⟩) l4).trans (HC4.out i hi))
  have HB := Lib.hid (HB.out.trans (hb4.mono HB.out.size))
  have l1 := Nat.lt_of_lt_of_le l1 hb4.size
  have l2 := Nat.lt_of_lt_of_le l2 hb4.size
  have l3 := Nat.lt_of_lt_of_le l3 hb4.size
  have l4 := Nat.lt_of_lt_of_le l4 hb4.size
  clear hb4
  go_wp2_with fail
  refine (dist_yes n _ (by omega) (by omega) ((HT.out.below HB.out).below ?_)).mono ?_
  · repeat' (first | (with_reducible exact Below.refl _ _) | (with_reducible refine Below.setCell ?_ ?_ _) | (with_reducible refine below_drewN ?_ _) | (with_reducible refine Below.drew ?_) | (with_reducible refine Below.alloc ?_ ?_ _) | go_size)
  rintro e w5 ⟨k, hk, rfl, hb5⟩
  have HK := Lib.hid hk
  generalize hx3 : distBases.getD k 0 = X3
  generalize hx4 : distBits k = X4
  have HX3 := Lib.hid hx3
  have HX4 := Lib.hid hx4
  clear hx3 hx4
  have s45 := hb5.size
  simp at s45
  have lt45 : w4.heap.size < w5.heap.size := by omega
  have G1 := Lib.hid (fun o => (hb5.cell (p := ⟨w4.heap.size, o, none⟩) (by simp)).trans (World.cell?_alloc_mark w4 _ _ _ o))
  have D1 := Lib.hid (fun i hi => ((hb5.cell (p := ⟨b1, i, none⟩) (by simp; omega)).trans (World.cell?_alloc_lt w4 _ _ l1)).trans (HC1.out i hi))
  have D2 := Lib.hid (fun i hi => ((hb5.cell (p := ⟨b2, i, none⟩) (by simp; omega)).trans (World.cell?_alloc_lt w4 _ _ l2)).trans (HC2.out i hi))
  have D3 := Lib.hid (fun i hi => ((hb5.cell (p := ⟨b3, i, none⟩) (by simp; omega)).trans (World.cell?_alloc_lt w4 _ _ l3)).trans (HC3.out i hi))
  have D4 := Lib.hid (fun i hi => ((hb5.cell (p := ⟨b4, i, none⟩) (by simp; omega)).trans (World.cell?_alloc_lt w4 _ _ l4)).trans (HC4.out i hi))
  have HB5 := Lib.hid (HB.out.trans (((Below.refl _ _).alloc HB.out.size _).trans (hb5.mono (by have := HB.out.size; simp; omega))))
  clear hk hb5
  go_wp2_with fail
  refine (ref_find lenBases n b1 29 _ (by decide) (fun i hi => (World.cell?_alloc_lt w5 _ _ (by show b1 < _; omega)).trans (D1.out i hi))).mono ?_
  rintro e w6 ⟨x, hx, rfl, rfl⟩
  clear hx
  go_wp2_with fail
  refine (ref_find distBases n b3 30 _ (by decide) (fun i hi => (World.cell?_alloc_lt w5 _ _ (by show b3 < _; omega)).trans (D3.out i hi))).mono ?_
  rintro e w6 ⟨y, hy, rfl, rfl⟩
  obtain rfl : y = k := place_unique db_mono (hy.place (by show 1 ≤ n; omega) (by decide)) HK.out
  clear hy
  have y30 : y < 30 := HK.out.1
  have d3 := D3.out y y30
  have d4 := D4.out y y30
  rw [HX3.out] at d3
  rw [distBits_eq y y30, HX4.out] at d4
  have by_ := db_bd y y30
  rw [HX3.out] at by_
  have g0 := G1.out 0
  have g1 := G1.out 1
  have g2 := G1.out 2
  simp at g0 g1 g2
  have y0 : (0 : Int) ≤ (y : Int) := Int.natCast_nonneg _
  have y1 : (y : Int) < 30 := by omega
  have e3 : IntKind.i64.wrap (n - X3) = n - X3 := IntWalk.i64_in _ (by omega)
  have far : ∀ (o1 o2 o3 : Obj) (b j : Nat), b < w5.heap.size → (((w5.alloc o1).alloc o2).alloc o3).cell? ⟨b, j, none⟩ = w5.cell? ⟨b, j, none⟩ := fun o1 o2 o3 b j hb => by
    rw [World.cell?_alloc_lt _ _ _ (by simp; omega), World.cell?_alloc_lt _ _ _ (by simp; omega), World.cell?_alloc_lt _ _ _ (by simpa using hb)]
  have L3 := fun o1 o2 o3 => (far o1 o2 o3 b3 y (by omega)).trans d3
  have L4 := fun o1 o2 o3 => (far o1 o2 o3 b4 y (by omega)).trans d4
  have K0 := fun o1 o2 o3 => (far o1 o2 o3 w4.heap.size 0 (by omega)).trans g0
  have K1 := fun o1 o2 o3 => (far o1 o2 o3 w4.heap.size 1 (by omega)).trans g1
  have K2 := fun o1 o2 o3 => (far o1 o2 o3 w4.heap.size 2 (by omega)).trans g2
  clear far d3 d4 g0 g1 g2
  have nef1 : ¬ b1 = w5.heap.size := by omega
  have neg1 : ¬ b1 = w5.heap.size + 1 := by omega
  have neh1 : ¬ b1 = w5.heap.size + 1 + 1 := by omega
  have nei1 : ¬ b1 = w5.heap.size + 2 := by omega
  have nef2 : ¬ b2 = w5.heap.size := by omega
  have neg2 : ¬ b2 = w5.heap.size + 1 := by omega
  have neh2 : ¬ b2 = w5.heap.size + 1 + 1 := by omega
  have nei2 : ¬ b2 = w5.heap.size + 2 := by omega
  have nef3 : ¬ b3 = w5.heap.size := by omega
  have neg3 : ¬ b3 = w5.heap.size + 1 := by omega
  have neh3 : ¬ b3 = w5.heap.size + 1 + 1 := by omega
  have nei3 : ¬ b3 = w5.heap.size + 2 := by omega
  have nef4 : ¬ b4 = w5.heap.size := by omega
  have neg4 : ¬ b4 = w5.heap.size + 1 := by omega
  have neh4 : ¬ b4 = w5.heap.size + 1 + 1 := by omega
  have nei4 : ¬ b4 = w5.heap.size + 2 := by omega
  have newf : ¬ w4.heap.size = w5.heap.size := by omega
  have newg : ¬ w4.heap.size = w5.heap.size + 1 := by omega
  have newh : ¬ w4.heap.size = w5.heap.size + 1 + 1 := by omega
  have newi : ¬ w4.heap.size = w5.heap.size + 2 := by omega
  go_wp2_with fail
  go_region_held3 (fun w' => w'.cell? ⟨b3, y, none⟩ = some (.int .i64 X3) ∧ w'.cell? ⟨b4, y, none⟩ = some (.int .i64 X4)) (first | go_keep | (simp [*, World.cell?_alloc_past, World.cell?_setCell_far])) (fail)
  go_wp2_with fail
  have hsz := HB5.out.size
  go_ret
  refine ⟨rfl, ?_⟩
  repeat' (first | (with_reducible exact HB5.out) | (with_reducible refine Below.setCell ?_ ?_ _) | (with_reducible refine below_drewN ?_ _) | (with_reducible refine Below.drew ?_) | (with_reducible refine Below.alloc ?_ ?_ _) | go_size)
set_option maxRecDepth 100000 in
set_option maxHeartbeats 1000000 in
theorem parts_e (n : Int) (w : World) (h3 : 32768 < n) (ht : Tabs w) :
    Calls Tryd.prog 3 #[.int .i64 n] w fun e w' => e = .returned (.bool true) ∧ Below w.heap.size w w' := by
  have HT := Lib.hid ht
  clear ht
  have t1 : decide (3 ≤ n) = true := by simp; omega
  have t2 : decide (n ≤ 258) = false := by simp; omega
  have t3 : decide (1 ≤ n) = true := by simp; omega
  have t4 : decide (n ≤ 32768) = false := by simp; omega
  go_enter Tryd.func3, Tryd.ntmps3
  go_wp2_with fail
  refine (awake_any w HT.out).mono ?_
  rintro e w1 ⟨rfl, hb1⟩
  have HB := Lib.hid hb1
  clear hb1
  go_wp2_with fail
  refine (ref_lengths w1).mono ?_
  rintro e w2 ⟨b1, b2, rfl, l1, l2, c1, c2, hb2⟩
  have HC1 := Lib.hid c1
  have HC2 := Lib.hid c2
  have HB := Lib.hid (HB.out.trans (hb2.mono HB.out.size))
  clear c1 c2 hb2
  rw [show lenBases.length = 29 from rfl, show lenBits.length = 29 from rfl]
  go_wp2_with fail
  refine (ref_dists w2).mono ?_
  rintro e w3 ⟨b3, b4, rfl, l3, l4, c3, c4, hb3⟩
  have HC1 := Lib.hid (fun i hi => (hb3.cell (p := ⟨b1, i, none⟩) l1).trans (HC1.out i hi))
  have HC2 := Lib.hid (fun i hi => (hb3.cell (p := ⟨b2, i, none⟩) l2).trans (HC2.out i hi))
  have HC3 := Lib.hid c3
  have HC4 := Lib.hid c4
  have HB := Lib.hid (HB.out.trans (hb3.mono HB.out.size))
  have l1 := Nat.lt_of_lt_of_le l1 hb3.size
  have l2 := Nat.lt_of_lt_of_le l2 hb3.size
  clear c3 c4 hb3
  rw [show distBases.length = 30 from rfl, show distBitsL.length = 30 from rfl]
  go_wp2_with fail
  refine (length_no n w3 (by omega)).mono ?_
  rintro e w4 ⟨rfl, hb4⟩
  have HC1 := Lib.hid (fun i hi => (hb4.cell (p := ⟨b1, i, none⟩) l1).trans (HC1.out i hi))
  have HC2 := Lib.hid (fun i hi => (hb4.cell (p := ⟨b2, i, none⟩) l2).trans (HC2.out i hi))
  have HC3 := Lib.hid (fun i hi => (hb4.cell (p := ⟨b3, i, none⟩) l3).trans (HC3.out i hi))
  have HC4 := Lib.hid (fun i hi => (hb4.cell (p := ⟨b4, i, none⟩) l4).trans (HC4.out i hi))
  have HB := Lib.hid (HB.out.trans (hb4.mono HB.out.size))
  have l1 := Nat.lt_of_lt_of_le l1 hb4.size
  have l2 := Nat.lt_of_lt_of_le l2 hb4.size
  have l3 := Nat.lt_of_lt_of_le l3 hb4.size
  have l4 := Nat.lt_of_lt_of_le l4 hb4.size
  clear hb4
  go_wp2_with fail
  refine (dist_no n _ (by omega)).mono ?_
  rintro e w5 ⟨rfl, hb5⟩
  have s45 := hb5.size
  simp at s45
  have lt45 : w4.heap.size < w5.heap.size := by omega
  have G1 := Lib.hid (fun o => (hb5.cell (p := ⟨w4.heap.size, o, none⟩) (by simp)).trans (World.cell?_alloc_mark w4 _ _ _ o))
  have D1 := Lib.hid (fun i hi => ((hb5.cell (p := ⟨b1, i, none⟩) (by simp; omega)).trans (World.cell?_alloc_lt w4 _ _ l1)).trans (HC1.out i hi))
  have D2 := Lib.hid (fun i hi => ((hb5.cell (p := ⟨b2, i, none⟩) (by simp; omega)).trans (World.cell?_alloc_lt w4 _ _ l2)).trans (HC2.out i hi))
  have D3 := Lib.hid (fun i hi => ((hb5.cell (p := ⟨b3, i, none⟩) (by simp; omega)).trans (World.cell?_alloc_lt w4 _ _ l3)).trans (HC3.out i hi))
  have D4 := Lib.hid (fun i hi => ((hb5.cell (p := ⟨b4, i, none⟩) (by simp; omega)).trans (World.cell?_alloc_lt w4 _ _ l4)).trans (HC4.out i hi))
  have HB5 := Lib.hid (HB.out.trans (((Below.refl _ _).alloc HB.out.size _).trans (hb5.mono (by have := HB.out.size; simp; omega))))
  clear hb5
  go_wp2_with fail
  refine (ref_find lenBases n b1 29 _ (by decide) (fun i hi => (World.cell?_alloc_lt w5 _ _ (by show b1 < _; omega)).trans (D1.out i hi))).mono ?_
  rintro e w6 ⟨x, hx, rfl, rfl⟩
  clear hx
  go_wp2_with fail
  refine (ref_find distBases n b3 30 _ (by decide) (fun i hi => (World.cell?_alloc_lt w5 _ _ (by show b3 < _; omega)).trans (D3.out i hi))).mono ?_
  rintro e w6 ⟨y, hy, rfl, rfl⟩
  clear hy
  have g0 := G1.out 0
  have g1 := G1.out 1
  have g2 := G1.out 2
  simp at g0 g1 g2
  have far : ∀ (o1 o2 o3 : Obj) (b j : Nat), b < w5.heap.size → (((w5.alloc o1).alloc o2).alloc o3).cell? ⟨b, j, none⟩ = w5.cell? ⟨b, j, none⟩ := fun o1 o2 o3 b j hb => by
    rw [World.cell?_alloc_lt _ _ _ (by simp; omega), World.cell?_alloc_lt _ _ _ (by simp; omega), World.cell?_alloc_lt _ _ _ (by simpa using hb)]
  have K0 := fun o1 o2 o3 => (far o1 o2 o3 w4.heap.size 0 (by omega)).trans g0
  have K1 := fun o1 o2 o3 => (far o1 o2 o3 w4.heap.size 1 (by omega)).trans g1
  have K2 := fun o1 o2 o3 => (far o1 o2 o3 w4.heap.size 2 (by omega)).trans g2
  clear far g0 g1 g2
  have nef1 : ¬ b1 = w5.heap.size := by omega
  have neg1 : ¬ b1 = w5.heap.size + 1 := by omega
  have neh1 : ¬ b1 = w5.heap.size + 1 + 1 := by omega
  have nei1 : ¬ b1 = w5.heap.size + 2 := by omega
  have nef2 : ¬ b2 = w5.heap.size := by omega
  have neg2 : ¬ b2 = w5.heap.size + 1 := by omega
  have neh2 : ¬ b2 = w5.heap.size + 1 + 1 := by omega
  have nei2 : ¬ b2 = w5.heap.size + 2 := by omega
  have nef3 : ¬ b3 = w5.heap.size := by omega
  have neg3 : ¬ b3 = w5.heap.size + 1 := by omega
  have neh3 : ¬ b3 = w5.heap.size + 1 + 1 := by omega
  have nei3 : ¬ b3 = w5.heap.size + 2 := by omega
  have nef4 : ¬ b4 = w5.heap.size := by omega
  have neg4 : ¬ b4 = w5.heap.size + 1 := by omega
  have neh4 : ¬ b4 = w5.heap.size + 1 + 1 := by omega
  have nei4 : ¬ b4 = w5.heap.size + 2 := by omega
  have newf : ¬ w4.heap.size = w5.heap.size := by omega
  have newg : ¬ w4.heap.size = w5.heap.size + 1 := by omega
  have newh : ¬ w4.heap.size = w5.heap.size + 1 + 1 := by omega
  have newi : ¬ w4.heap.size = w5.heap.size + 2 := by omega
  go_wp2_with fail
  have hsz := HB5.out.size
  go_ret
  refine ⟨rfl, ?_⟩
  repeat' (first | (with_reducible exact HB5.out) | (with_reducible refine Below.setCell ?_ ?_ _) | (with_reducible refine below_drewN ?_ _) | (with_reducible refine Below.drew ?_) | (with_reducible refine Below.alloc ?_ ?_ _) | go_size)
theorem alphaParts_walk (n : Int) (w : World) (_h1 : -9223372036854775808 ≤ n) (_h2 : n ≤ 9223372036854775807) (hlb : Tab w 0 lenBases) (hlx : Tab w 1 lenBits) (hdb : Tab w 2 distBases) :
    Calls Tryd.prog 3 #[.int .i64 n] w fun e w' => e = .returned (.bool true) ∧ Below w.heap.size w w' := by
  have ht : Tabs w := ⟨hlb, hlx, hdb⟩
  by_cases h1 : n < 1
  · exact parts_a n w h1 ht
  by_cases h3 : n < 3
  · exact parts_b n w (by omega) h3 ht
  by_cases h258 : n ≤ 258
  · exact parts_c n w (by omega) h258 ht
  by_cases h4 : n ≤ 32768
  · exact parts_d n w (by omega) h4 ht
  · exact parts_e n w (by omega) ht
end Go.Proofs.YtmdofdobplfhcaaDoor
