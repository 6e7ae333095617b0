/-
  The law AlphaBack returns true: the walk.
-/
import Derived.Test.YtmdofdobplfhcaaDoorAlphaAwake
namespace Go.Proofs.YtmdofdobplfhcaaDoor
open Go.RowKit

theorem len_fits {n : Int} {i : Nat} (h : AtPlace lenBases n i) (h258 : n ≤ 258) : ∃ k : Nat, lenBits.getD i 0 = k ∧ k ≤ 5 ∧ 0 ≤ n - lenBases.getD i 0 ∧ n - lenBases.getD i 0 < ((2 ^ k : Nat) : Int) := by
  have hi : i < 29 := h.1
  have hall : ∀ i : Fin 28, ∃ k : Fin 6, lenBits.getD i.val 0 = (k.val : Int) ∧ lenBases.getD (i.val + 1) 0 - lenBases.getD i.val 0 ≤ ((2 ^ k.val : Nat) : Int) := by decide
  by_cases h28 : i < 28
  · obtain ⟨k, h1, h2⟩ := hall ⟨i, h28⟩
    have h3 := h.2.2 (by show i + 1 < 29; omega)
    have h4 := h.2.1
    exact ⟨k.val, h1, by omega, by omega, by simp only at h2; omega⟩
  · obtain rfl : i = 28 := by omega
    have h4 := h.2.1
    have e : lenBases.getD 28 0 = 258 := by decide
    rw [e] at h4 ⊢
    exact ⟨0, by decide, by omega, by omega, by simp; omega⟩
theorem dist_fits {n : Int} {i : Nat} (h : AtPlace distBases n i) (hn : n ≤ 32768) : ∃ k : Nat, distBits i = k ∧ k ≤ 13 ∧ 0 ≤ n - distBases.getD i 0 ∧ n - distBases.getD i 0 < ((2 ^ k : Nat) : Int) := by
  have hi : i < 30 := h.1
  have hall : ∀ i : Fin 29, ∃ k : Fin 14, distBits i.val = (k.val : Int) ∧ distBases.getD (i.val + 1) 0 - distBases.getD i.val 0 ≤ ((2 ^ k.val : Nat) : Int) := by decide
  by_cases h28 : i < 29
  · obtain ⟨k, h1, h2⟩ := hall ⟨i, h28⟩
    have h3 := h.2.2 (by show i + 1 < 30; omega)
    have h4 := h.2.1
    exact ⟨k.val, h1, by omega, by omega, by simp only at h2; omega⟩
  · obtain rfl : i = 29 := by omega
    have h4 := h.2.1
    have e : distBases.getD 29 0 = 24577 := by decide
    rw [e] at h4 ⊢
    exact ⟨13, by decide, by omega, by omega, by simp; omega⟩

theorem pow_fits {k : Nat} (hk : k ≤ 13) {d : Int} (h : d < ((2 ^ k : Nat) : Int)) : ∃ q : Int, wrap64 ((2 : Int) ^ k) = q ∧ d < q ∧ q ≤ 8192 := by
  have h2 : (2 ^ k : Nat) ≤ 2 ^ 13 := Nat.pow_le_pow_right (by omega) hk
  have e : ((2 ^ k : Nat) : Int) = (2 : Int) ^ k := by simp
  rw [e] at h
  have hp : (2 : Int) ^ k ≤ 8192 := by rw [← e]; omega
  have h0 : 0 ≤ (2 : Int) ^ k := by rw [← e]; exact Int.natCast_nonneg _
  exact ⟨(2 : Int) ^ k, IntWalk.wrap64_in _ ⟨by omega, by omega⟩, h, hp⟩

set_option maxRecDepth 100000 in
set_option maxHeartbeats 1000000 in
theorem back_yes (n : Nat) (w : World) (h3 : 3 ≤ n) (h258 : n ≤ 258) (ht : Tabs w) :
    Calls Tryd.prog 5 #[.int .u16 (n : Int)] w fun e w' => e = .returned (.bool true) ∧ Below w.heap.size w w' := by
  have HT := Lib.hid ht
  clear ht
  go_enter Tryd.func5, Tryd.ntmps5
  go_wp2_with fail
  refine (awake_any w HT.out).mono ?_
  rintro e w1 ⟨rfl, hb1⟩
  have HB1 := Lib.hid hb1
  clear hb1
  go_wp2_with fail
  refine (length_yes n w1 (by omega) (by omega) (HT.out.below HB1.out)).mono ?_
  rintro e w2 ⟨i, hi, rfl, hb2⟩
  have HB2 := Lib.hid (HB1.out.trans (hb2.mono HB1.out.size))
  obtain ⟨k, hk, hk5, hx0, hx1⟩ := len_fits hi (by omega)
  have i29 : i < 29 := hi.1
  have bd := lb_bd i i29
  rw [hk]
  obtain ⟨q, hq, hxq, hq8⟩ := pow_fits (by omega) hx1
  clear hx1
  generalize hx : lenBases.getD i 0 = x at hx0 hxq bd
  have HX := Lib.hid hx
  have HK := Lib.hid hk
  clear hx hk hi hb2
  go_wp2_with fail
  refine (lengthBase_yes i _ i29 ((HT.out.below HB2.out).below ?_)).mono ?_
  · repeat' (first | (with_reducible exact Below.refl _ _) | (with_reducible refine Below.setCell ?_ ?_ _) | (with_reducible refine below_drewN ?_ _) | (with_reducible refine Below.drew ?_) | (with_reducible refine Below.alloc ?_ ?_ _) | go_size)
  rintro e w3 ⟨rfl, m, rfl⟩
  rw [HX.out, HK.out]
  have e1 : x + ((n : Int) - x) = n := by omega
  have t1 : decide ((n : Int) - x < 0) = false := by simp; omega
  have t2 : decide (q ≤ (n : Int) - x) = false := by simp; omega
  go_wp2_with fail
  have hd1 : 1 ≤ (1 : Int) + (n : Int) % 32768 := by omega
  have hd2 : (1 : Int) + (n : Int) % 32768 ≤ 32768 := by omega
  generalize (1 : Int) + (n : Int) % 32768 = d at hd1 hd2
  have hsz := HB2.out.size
  refine (dist_yes d _ hd1 hd2 ((HT.out.below HB2.out).below ?_)).mono ?_
  · repeat' (first | (with_reducible exact Below.refl _ _) | (with_reducible refine Below.setCell ?_ ?_ _) | (with_reducible refine below_drewN ?_ _) | (with_reducible refine Below.drew ?_) | (with_reducible refine Below.alloc ?_ ?_ _) | go_size)
  rintro e w4 ⟨j, hj, rfl, hb4⟩
  have HBX := Lib.hid (HB2.out.trans ((by repeat' (first | (with_reducible exact Below.refl _ _) | (with_reducible refine Below.setCell ?_ ?_ _) | (with_reducible refine below_drewN ?_ _) | (with_reducible refine Below.drew ?_) | (with_reducible refine Below.alloc ?_ ?_ _) | go_size) : Below w.heap.size w2 _).trans (hb4.mono (by simp; omega))))
  obtain ⟨k', hk', hk13, hy0, hy1⟩ := dist_fits hj hd2
  have j30 : j < 30 := hj.1
  have bd' := db_bd j j30
  rw [hk']
  obtain ⟨q', hq', hyq, hq8'⟩ := pow_fits hk13 hy1
  clear hy1
  generalize hy : distBases.getD j 0 = y at hy0 hyq bd'
  have HY := Lib.hid hy
  have HK' := Lib.hid hk'
  clear hy hk' hj hb4
  have hsz4 := HBX.out.size
  go_wp2_with fail
  refine (distBase_yes j _ j30 ((HT.out.below HBX.out).below ?_)).mono ?_
  · repeat' (first | (with_reducible exact Below.refl _ _) | (with_reducible refine Below.setCell ?_ ?_ _) | (with_reducible refine below_drewN ?_ _) | (with_reducible refine Below.drew ?_) | (with_reducible refine Below.alloc ?_ ?_ _) | go_size)
  rintro e w5 ⟨rfl, rfl⟩
  rw [HY.out, HK'.out]
  have e1' : y + (d - y) = d := by omega
  have t1' : decide (0 ≤ d - y) = true := by simp; omega
  have t2' : decide (d - y < q') = true := by simp; omega
  go_wp2_with fail
  go_ret
  refine ⟨rfl, ?_⟩
  repeat' (first | (with_reducible exact HBX.out) | (with_reducible refine Below.setCell ?_ ?_ _) | (with_reducible refine below_drewN ?_ _) | (with_reducible refine Below.drew ?_) | (with_reducible refine Below.alloc ?_ ?_ _) | go_size)

set_option maxRecDepth 100000 in
set_option maxHeartbeats 1000000 in
theorem back_no (n : Nat) (w : World) (hn : n < 3 ∨ 258 < n) (h16 : n ≤ 65535) (ht : Tabs w) :
    Calls Tryd.prog 5 #[.int .u16 (n : Int)] w fun e w' => e = .returned (.bool true) ∧ Below w.heap.size w w' := by
  have HT := Lib.hid ht
  clear ht
  rcases hn with hn | hn
  · have t1 : decide ((3 : Int) ≤ (n : Int)) = false := by simp; omega
    have t1n : decide (3 ≤ n) = false := by simp; omega
    go_enter Tryd.func5, Tryd.ntmps5
    go_wp2_with fail
    refine (awake_any w HT.out).mono ?_
    rintro e w1 ⟨rfl, hb1⟩
    have HB1 := Lib.hid hb1
    clear hb1
    go_wp2_with fail
    refine (length_no n w1 (by omega)).mono ?_
    rintro e w2 ⟨rfl, hb2⟩
    have HB2 := Lib.hid (HB1.out.trans (hb2.mono HB1.out.size))
    clear hb2
    go_wp2_with fail
    have hd1 : 1 ≤ (1 : Int) + (n : Int) % 32768 := by omega
    have hd2 : (1 : Int) + (n : Int) % 32768 ≤ 32768 := by omega
    generalize (1 : Int) + (n : Int) % 32768 = d at hd1 hd2
    have hsz := HB2.out.size
    refine (dist_yes d _ hd1 hd2 ((HT.out.below HB2.out).below ?_)).mono ?_
    · repeat' (first | (with_reducible exact Below.refl _ _) | (with_reducible refine Below.setCell ?_ ?_ _) | (with_reducible refine below_drewN ?_ _) | (with_reducible refine Below.drew ?_) | (with_reducible refine Below.alloc ?_ ?_ _) | go_size)
    rintro e w4 ⟨j, hj, rfl, hb4⟩
    have HBX := Lib.hid (HB2.out.trans ((by repeat' (first | (with_reducible exact Below.refl _ _) | (with_reducible refine Below.setCell ?_ ?_ _) | (with_reducible refine below_drewN ?_ _) | (with_reducible refine Below.drew ?_) | (with_reducible refine Below.alloc ?_ ?_ _) | go_size) : Below w.heap.size w2 _).trans (hb4.mono (by simp; omega))))
    obtain ⟨k', hk', hk13, hy0, hy1⟩ := dist_fits hj hd2
    have j30 : j < 30 := hj.1
    have bd' := db_bd j j30
    rw [hk']
    obtain ⟨q', hq', hyq, hq8'⟩ := pow_fits hk13 hy1
    clear hy1
    generalize hy : distBases.getD j 0 = y at hy0 hyq bd'
    have HY := Lib.hid hy
    have HK' := Lib.hid hk'
    clear hy hk' hj hb4
    have hsz4 := HBX.out.size
    go_wp2_with fail
    refine (distBase_yes j _ j30 ((HT.out.below HBX.out).below ?_)).mono ?_
    · repeat' (first | (with_reducible exact Below.refl _ _) | (with_reducible refine Below.setCell ?_ ?_ _) | (with_reducible refine below_drewN ?_ _) | (with_reducible refine Below.drew ?_) | (with_reducible refine Below.alloc ?_ ?_ _) | go_size)
    rintro e w5 ⟨rfl, rfl⟩
    rw [HY.out, HK'.out]
    have e1' : y + (d - y) = d := by omega
    have t1' : decide (0 ≤ d - y) = true := by simp; omega
    have t2' : decide (d - y < q') = true := by simp; omega
    go_wp2_with fail
    go_ret
    refine ⟨rfl, ?_⟩
    repeat' (first | (with_reducible exact HBX.out) | (with_reducible refine Below.setCell ?_ ?_ _) | (with_reducible refine below_drewN ?_ _) | (with_reducible refine Below.drew ?_) | (with_reducible refine Below.alloc ?_ ?_ _) | go_size)
  · have t1 : decide ((3 : Int) ≤ (n : Int)) = true := by simp; omega
    have t1n : decide (3 ≤ n) = true := by simp; omega
    have t2 : decide ((n : Int) ≤ 258) = false := by simp; omega
    have t2n : decide (n ≤ 258) = false := by simp; omega
    go_enter Tryd.func5, Tryd.ntmps5
    go_wp2_with fail
    refine (awake_any w HT.out).mono ?_
    rintro e w1 ⟨rfl, hb1⟩
    have HB1 := Lib.hid hb1
    clear hb1
    go_wp2_with fail
    refine (length_no n w1 (by omega)).mono ?_
    rintro e w2 ⟨rfl, hb2⟩
    have HB2 := Lib.hid (HB1.out.trans (hb2.mono HB1.out.size))
    clear hb2
    go_wp2_with fail
    have hd1 : 1 ≤ (1 : Int) + (n : Int) % 32768 := by omega
    have hd2 : (1 : Int) + (n : Int) % 32768 ≤ 32768 := by omega
    generalize (1 : Int) + (n : Int) % 32768 = d at hd1 hd2
    have hsz := HB2.out.size
    refine (dist_yes d _ hd1 hd2 ((HT.out.below HB2.out).below ?_)).mono ?_
    · repeat' (first | (with_reducible exact Below.refl _ _) | (with_reducible refine Below.setCell ?_ ?_ _) | (with_reducible refine below_drewN ?_ _) | (with_reducible refine Below.drew ?_) | (with_reducible refine Below.alloc ?_ ?_ _) | go_size)
    rintro e w4 ⟨j, hj, rfl, hb4⟩
    have HBX := Lib.hid (HB2.out.trans ((by repeat' (first | (with_reducible exact Below.refl _ _) | (with_reducible refine Below.setCell ?_ ?_ _) | (with_reducible refine below_drewN ?_ _) | (with_reducible refine Below.drew ?_) | (with_reducible refine Below.alloc ?_ ?_ _) | go_size) : Below w.heap.size w2 _).trans (hb4.mono (by simp; omega))))
    obtain ⟨k', hk', hk13, hy0, hy1⟩ := dist_fits hj hd2
    have j30 : j < 30 := hj.1
    have bd' := db_bd j j30
    rw [hk']
    obtain ⟨q', hq', hyq, hq8'⟩ := pow_fits hk13 hy1
    clear hy1
    generalize hy : distBases.getD j 0 = y at hy0 hyq bd'
    have HY := Lib.hid hy
    have HK' := Lib.hid hk'
    clear hy hk' hj hb4
    have hsz4 := HBX.out.size
    go_wp2_with fail
    refine (distBase_yes j _ j30 ((HT.out.below HBX.out).below ?_)).mono ?_
    · repeat' (first | (with_reducible exact Below.refl _ _) | (with_reducible refine Below.setCell ?_ ?_ _) | (with_reducible refine below_drewN ?_ _) | (with_reducible refine Below.drew ?_) | (with_reducible refine Below.alloc ?_ ?_ _) | go_size)
    rintro e w5 ⟨rfl, rfl⟩
    rw [HY.out, HK'.out]
    have e1' : y + (d - y) = d := by omega
    have t1' : decide (0 ≤ d - y) = true := by simp; omega
    have t2' : decide (d - y < q') = true := by simp; omega
    go_wp2_with fail
    go_ret
    refine ⟨rfl, ?_⟩
    repeat' (first | (with_reducible exact HBX.out) | (with_reducible refine Below.setCell ?_ ?_ _) | (with_reducible refine below_drewN ?_ _) | (with_reducible refine Below.drew ?_) | (with_reducible refine Below.alloc ?_ ?_ _) | go_size)

theorem alphaBack_walk (n : Nat) (w : World) (h16 : n < 65536) (hlb : Tab w 0 lenBases) (hlx : Tab w 1 lenBits) (hdb : Tab w 2 distBases) :
    Calls Tryd.prog 5 #[.int .u16 (n : Int)] w fun e w' => e = .returned (.bool true) ∧ Below w.heap.size w w' := by
  have ht : Tabs w := ⟨hlb, hlx, hdb⟩
  by_cases h : 3 ≤ n ∧ n ≤ 258
  · exact back_yes n w h.1 h.2 ht
  · exact back_no n w (by omega) (by omega) ht
end Go.Proofs.YtmdofdobplfhcaaDoor
