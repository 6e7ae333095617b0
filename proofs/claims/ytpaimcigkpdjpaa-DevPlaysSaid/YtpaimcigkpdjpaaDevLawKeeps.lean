/-
  The law DevKeeps returns true: walk.
-/
import Derived.Test.YtpaimcigkpdjpaaDev2
import Derived.Lib.SlBytesConst
namespace Go.Proofs.Ytpaimcigkpdjpaa
open Go.RowKit

theorem waking3 : Go.splice (Go.splice (noughts 4) 2 [97, 98]) 1 (part (Go.splice (noughts 4) 2 [97, 98]) 2 2) = [0, 97, 98, 98] := by decide
set_option maxRecDepth 100000 in
set_option maxHeartbeats 400000 in
theorem awake3_any (w : World) : Calls Try.prog 16 #[] w fun e w' => e = .returned (.bool true) ∧ Below w.heap.size w w' := by
  have kc := fun (w : World) (C : Array Value) (n c : Nat) => Lib.run_convert_bytes_const (P := Try.prog) w 22 5 C n c Try.underlying22 Try.underlying5
  go_enter Try.func16, Try.ntmps16
  go_wp2_with fail
  refine (devNew_yes 4 w (by omega)).mono ?_
  rintro e w1 ⟨p, g, rfl, hd1, hp, hg, hb1⟩
  have HB1 := Lib.hid hb1
  have hs1 := hb1.size
  have HD1 := Lib.hid hd1
  clear hb1 hd1
  go_wp2_with fail
  refine (devWrite_yes p g (noughts 4) [97, 98] 0 0 _ 2 _ 2 (w1.heap.size + 1) (HD1.out.fr ((Fr.refl (fun _ => False) w1).alloc _) id id) (by simp [noughts]) (by omega) (by simp [noughts]) (Sl.new_ w1 _ _ _)).mono ?_
  rintro e w2 ⟨rfl, hd2, hf2⟩
  have HB2 := Lib.hid ((HB1.out.alloc hs1 _).trans (hf2.below (B := w.heap.size) (by simp; omega) (fun k hk hh => by omega)))
  have hs2 := HB2.out.size
  have MV := Lib.hid (devMove_yes p g (Go.splice (noughts 4) 2 [97, 98]) 0 (0 + [97, 98].length) w2 2 1 2 hd2 (by decide) (by omega) (by decide) (by decide) (by decide))
  clear hd2 hf2
  go_wp2_with fail
  refine MV.out.mono ?_
  rintro e w3 ⟨rfl, hd3, hf3⟩
  rw [waking3] at hd3
  have HB3 := Lib.hid (HB2.out.trans (hf3.below (B := w.heap.size) hs2 (fun k hk hh => by omega)))
  have hs3 := HB3.out.size
  have RD := Lib.hid (devRead_yes p g [0, 97, 98, 98] _ _ w3 0 4 hd3 (by decide) (by decide) (by decide))
  clear hd3 hf3 MV
  go_wp2_with fail
  refine RD.out.mono ?_
  rintro e w4 ⟨A, c, rfl, hown, -, hf4⟩
  have HB4 := Lib.hid (HB3.out.trans (hf4.below (B := w.heap.size) hs3 (fun k hk hh => by omega)))
  have r0 := run_str (P := Try.prog) w4 w4.heap.size 22 9 5 A [0, 97, 98, 98] c Try.underlying22 Try.underlying5 Try.underlying9 (Sl.of_own hown)
  rw [show ([0, 97, 98, 98] : List UInt8).length = 4 from rfl, show strOf [0, 97, 98, 98] = ⟨#[0, 97, 98, 98]⟩ from rfl] at r0
  clear hown hf4 RD
  go_wp2_with fail
  go_ret
  exact ⟨rfl, HB4.out⟩

theorem splice_whole (l : List UInt8) : Go.splice (noughts l.length) 0 l = l := by simp [Go.splice, noughts]
theorem part_mid (l b : List UInt8) (a : Nat) (h : a + b.length ≤ l.length) : part (Go.splice l a b) a b.length = b := by
  simp only [part, Go.splice]
  rw [List.drop_left' (by simp; omega), List.take_left' rfl]
theorem part_front (l b : List UInt8) (a : Nat) (h : a + b.length ≤ l.length) : part (Go.splice l a b) 0 a = l.take a := by
  simp only [part, Go.splice, List.drop_zero]
  rw [List.take_left' (by simp; omega)]
theorem part_back (l b : List UInt8) (a : Nat) (h : a + b.length ≤ l.length) : part (Go.splice l a b) (a + b.length) (l.length - (a + b.length)) = l.drop (a + b.length) := by
  have e : Go.splice l a b = (l.take a ++ b) ++ l.drop (a + b.length) := by simp [Go.splice]
  unfold part
  rw [e, List.drop_left' (by simp; omega), List.take_of_length_le (by simp)]

set_option maxRecDepth 100000 in
set_option maxHeartbeats 2000000 in
theorem devKeeps_walk (xa : Option Addr) (l : List UInt8) (c : Nat) (ya : Option Addr) (b : List UInt8) (d : Nat) (at_ : Int) (w : World) (hlm : l.length ≤ maxLen) (hlc : l.length ≤ c) (hsl : Sl w w.heap.size xa (bytesV l)) (hbm : b.length ≤ maxLen) (_hbc : b.length ≤ d) (hsb : Sl w w.heap.size ya (bytesV b)) (_h1 : -9223372036854775808 ≤ at_) (_h2 : at_ ≤ 9223372036854775807) :
    Calls Try.prog 5 #[.slice xa l.length c, .slice ya b.length d, .int .i64 at_] w fun e w' => e = .returned (.bool true) ∧ Below w.heap.size w w' := by
  unfold maxLen at hlm hbm
  have HL := Lib.hid hsl
  have HBY := Lib.hid hsb
  clear hsl hsb
  by_cases h5 : l.length ≤ 500
  case neg =>
    have t1 : decide ((500 : Int) < (l.length : Int)) = true := decide_eq_true (by omega)
    go_enter Try.func5, Try.ntmps5
    go_wp2_with fail
    refine (awake3_any w).mono ?_
    rintro e w1 ⟨rfl, hb1⟩
    go_wp2_with fail
    go_ret
    exact ⟨rfl, hb1⟩
  have t1 : decide ((500 : Int) < (l.length : Int)) = false := decide_eq_false (by omega)
  by_cases h6 : b.length ≤ 500
  case neg =>
    have t2 : decide ((500 : Int) < (b.length : Int)) = true := decide_eq_true (by omega)
    go_enter Try.func5, Try.ntmps5
    go_wp2_with fail
    refine (awake3_any w).mono ?_
    rintro e w1 ⟨rfl, hb1⟩
    go_wp2_with fail
    go_ret
    exact ⟨rfl, hb1⟩
  have t2 : decide ((500 : Int) < (b.length : Int)) = false := decide_eq_false (by omega)
  go_enter Try.func5, Try.ntmps5
  go_wp2_with fail
  refine (awake3_any w).mono ?_
  rintro e w1 ⟨rfl, hb1⟩
  have HB1 := Lib.hid hb1
  have hs1 := hb1.size
  clear hb1
  go_wp2_with fail
  (with_reducible refine (devNew_yes l.length w1 (by omega)).mono ?_)
  rintro e w2 ⟨p, g, rfl, hd2, hp, hg, hb2⟩
  have HB2 := Lib.hid (HB1.out.trans (hb2.mono hs1))
  have hs2 := HB2.out.size
  have WR := Lib.hid (devWrite_yes p g (noughts l.length) l 0 0 w2 0 xa c w.heap.size hd2 (by rw [len_noughts]; omega) (by omega) (by rw [len_noughts]; omega) (HL.out.below HB2.out (Nat.le_refl _)))
  rw [splice_whole] at WR
  clear hd2 hb2
  go_wp2_with fail
  refine WR.out.mono ?_
  rintro e w3 ⟨rfl, hd3, hf3⟩
  have HB3 := Lib.hid (HB2.out.trans (hf3.below (B := w.heap.size) hs2 (fun k hk hh => by omega)))
  have hs3 := HB3.out.size
  have HD3 := Lib.hid hd3
  clear hd3 hf3 WR
  by_cases hin : 0 ≤ (b.length : Int) ∧ 0 ≤ at_ ∧ at_ ≤ l.length ∧ (b.length : Int) ≤ l.length - at_
  · obtain ⟨a, rfl⟩ := Int.eq_ofNat_of_zero_le hin.2.1
    have hab : a + b.length ≤ l.length := by omega
    clear hin
    have WB := Lib.hid (devWrite_yes p g l b 0 (0 + l.length) w3 a ya d w.heap.size HD3.out (by omega) (by omega) hab (HBY.out.below HB3.out (Nat.le_refl _)))
    go_wp2_with fail
    refine WB.out.mono ?_
    rintro e w4 ⟨rfl, hd4, hf4⟩
    have HB4 := Lib.hid (HB3.out.trans (hf4.below (B := w.heap.size) hs3 (fun k hk hh => by omega)))
    have hs4 := HB4.out.size
    have hll : (Go.splice l a b).length = l.length := length_splice _ _ _ hab
    have hp4 := hd4.cells.lt
    have R1 := Lib.hid (devRead_yes p g (Go.splice l a b) _ _ w4 a b.length hd4 (by omega) (by omega) (by omega))
    clear hd4 hf4 WB
    go_wp2_with fail
    refine R1.out.mono ?_
    rintro e w5 ⟨A5, c5, rfl, hown5, hd5, hf5⟩
    rw [part_mid l b a hab] at hown5
    have HB5 := Lib.hid (HB4.out.trans (hf5.below (B := w.heap.size) hs4 (fun k hk hh => by omega)))
    have hs5 := HB5.out.size
    have h45 := hf5.size
    have HO5 := Lib.hid hown5
    have R2 := Lib.hid (devRead_yes p g (Go.splice l a b) _ _ w5 0 a hd5 (by omega) (by omega) (by omega))
    clear hown5 hd5 hf5 R1
    go_wp2_with fail
    refine R2.out.mono ?_
    rintro e w6 ⟨A6, c6, rfl, hown6, hd6, hf6⟩
    rw [part_front l b a hab] at hown6
    have HB6 := Lib.hid (HB5.out.trans (hf6.below (B := w.heap.size) hs5 (fun k hk hh => by omega)))
    have hs6 := HB6.out.size
    have h56 := hf6.size
    have HO56 := Lib.hid (own_fr HO5.out hf6 (fun y hy hh => by have := (HO5.out.lt y hy).1; omega))
    have HO6 := Lib.hid hown6
    obtain ⟨ab, hab2⟩ : ∃ ab, ab = a + b.length := ⟨_, rfl⟩
    obtain ⟨l2, hl2⟩ : ∃ l2, l2 = l.length - ab := ⟨_, rfl⟩
    have R3 := Lib.hid (devRead_yes p g (Go.splice l a b) _ _ w6 ab l2 hd6 (by omega) (by omega) (by omega))
    have e1 : (a : Int) + (b.length : Int) = (ab : Int) := by omega
    have e2 : (l.length : Int) - (a : Int) - (b.length : Int) = (l2 : Int) := by omega
    have HAB := Lib.hid hab2
    have HL2 := Lib.hid hl2
    clear hab2 hl2
    clear hown6 hd6 hf6 R2
    go_wp2_with fail
    refine R3.out.mono ?_
    rintro e w7 ⟨A7, c7, rfl, hown7, -, hf7⟩
    have hab2 := HAB.out
    have hl2 := HL2.out
    have hpb := part_back l b a hab
    rw [← hab2, ← hl2] at hpb
    rw [hpb] at hown7
    have HB7 := Lib.hid (HB6.out.trans (hf7.below (B := w.heap.size) hs6 (fun k hk hh => by omega)))
    have HO57 := Lib.hid (own_fr HO56.out hf7 (fun y hy hh => by have := (HO56.out.lt y hy).1; omega))
    have HO67 := Lib.hid (own_fr HO6.out hf7 (fun y hy hh => by have := (HO6.out.lt y hy).1; omega))
    have r1 := run_str (P := Try.prog) w7.drew w7.heap.size 22 9 5 A5 b c5 Try.underlying22 Try.underlying5 Try.underlying9 (Sl.of_own HO57.out).drew
    have r2 := run_str (P := Try.prog) w7.drew w.heap.size 22 9 5 ya b d Try.underlying22 Try.underlying5 Try.underlying9 (HBY.out.below HB7.out (Nat.le_refl _)).drew
    have r3 := run_str (P := Try.prog) w7.drew w7.heap.size 22 9 5 A6 (l.take a) c6 Try.underlying22 Try.underlying5 Try.underlying9 (Sl.of_own HO67.out).drew
    have r4 := run_str (P := Try.prog) w7.drew w.heap.size 22 9 5 xa (l.take a) c Try.underlying22 Try.underlying5 Try.underlying9 (by have h := ((HL.out.below HB7.out (Nat.le_refl _)).take a).drew; simpa [bytesV, List.map_take] using h)
    have r5 := run_str (P := Try.prog) w7.drew w7.heap.size 22 9 5 A7 (l.drop ab) c7 Try.underlying22 Try.underlying5 Try.underlying9 (Sl.of_own hown7).drew
    have r6 := run_str (P := Try.prog) w7.drew w.heap.size 22 9 5 (restAt xa c ab) (l.drop ab) (c - ab) Try.underlying22 Try.underlying5 Try.underlying9 (by have h := ((HL.out.below HB7.out (Nat.le_refl _)).rest c ab (by rw [len_bytesV]; exact hlc)).drew; simpa [bytesV, List.map_drop] using h)
    rw [List.length_take, Nat.min_eq_left (show a ≤ l.length by omega)] at r3 r4
    rw [List.length_drop, ← hl2] at r5 r6
    obtain ⟨i0, hi0, hz0, hz1, hz2⟩ := info_parts byteInfoC
    have q1 := run_slice_to Try.underlying22 hi0 xa l.length c a (by omega)
    have q2 := run_slice_from Try.underlying22 hi0 hz1 xa l.length c ab (by omega)
    clear hi0 hz0 hz1 hz2 hown7 hf7 R3
    generalize strOf b = s1 at r1 r2
    generalize strOf (l.take a) = s2 at r3 r4
    generalize strOf (l.drop ab) = s3 at r5 r6
    have u1 : (0 : Int) ≤ (a : Int) := Int.natCast_nonneg _
    have u2 : (a : Int) ≤ (c : Int) := by omega
    rw [← hl2] at q2
    have u3 : (0 : Int) ≤ (ab : Int) := Int.natCast_nonneg _
    have u4 : (ab : Int) ≤ (l.length : Int) := by omega
    have e3 : IntKind.i64.wrap (ab : Int) = (ab : Int) := IntWalk.i64_in _ (by omega)
    have e4 : IntKind.i64.wrap ((a : Int) + (b.length : Int)) = (ab : Int) := by rw [IntWalk.i64_in _ (by omega)]; exact e1
    clear hab2 hl2 hpb
    generalize restAt xa c ab = xa2 at q2 r6
    generalize c - ab = c9 at q2 r6
    go_wp2_with fail
    go_region
    all_goals
      go_wp2_with fail
      go_ret
      exact ⟨rfl, below_drewN HB7.out 1⟩
  · have WN := Lib.hid (devWrite_no p g l b.length 0 (0 + l.length) w3 at_ ya d HD3.out (by omega) hin)
    have AL := fun W (hd : DevS W p g l 0 (0 + l.length)) => Lib.hid (devAll_any p g l 0 (0 + l.length) W hd (by omega) (by omega))
    have r0 := run_str (P := Try.prog) w3.drew w.heap.size 22 9 5 xa l c Try.underlying22 Try.underlying5 Try.underlying9 (HL.out.below HB3.out (Nat.le_refl _)).drew
    have HR := Lib.hid (fun W (hb : Below w.heap.size w W) => run_str (P := Try.prog) W w.heap.size 22 9 5 xa l c Try.underlying22 Try.underlying5 Try.underlying9 (HL.out.below hb (Nat.le_refl _)))
    clear hin
    generalize hss : strOf l = s1 at AL r0 HR
    clear hss
    go_wp2_with fail
    (with_reducible refine WN.out.mono ?_)
    rintro e w4 ⟨rfl, rfl⟩
    go_wp2_with fail
    go_region_law ((go_simp; first | ((go_at_call 19; (with_reducible refine (AL _ ⟨HD3.out.cells.drew, HD3.out.bytes.drew, HD3.out.ne⟩).out.mono ?_); rintro e w5 ⟨rfl, hd5, hf5⟩; have HB5 := Lib.hid ((show Below w.heap.size w w3.drew from below_drewN HB3.out 1).trans (hf5.below (B := w.heap.size) hs3 (fun k hk hh => by omega))); have r5 := HR.out _ HB5.out))))
    all_goals
      go_wp2_with fail
      go_ret
      exact ⟨rfl, HB5.out⟩
end Go.Proofs.Ytpaimcigkpdjpaa
