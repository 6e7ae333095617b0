/-
  The law WindowRepeats returns true: walk.
-/
import Derived.Test.YtpaimcigkpdjpaaWinCopy
namespace Go.Proofs.Ytpaimcigkpdjpaa
open Go.RowKit

def bytes5 : List UInt8 := [97, 98, 97, 98, 97]
theorem came5 : Win.came [97, 98] 2 5 = [97, 98, 97, 98, 97] := by decide
set_option maxRecDepth 100000 in
set_option maxHeartbeats 400000 in
theorem awake12_any (w : World) : Calls Try.prog 7 #[] w fun e w' => e = .returned (.bool true) ∧ Below w.heap.size w w' := by
  go_enter Try.func7, Try.ntmps7
  go_wp2_with fail
  refine (winNew_any w).mono ?_
  rintro e w1 ⟨rfl, hw1, hb1⟩
  have HW1 := Lib.hid hw1
  have HB1 := Lib.hid hb1
  have hp1 := hw1.lt
  clear hw1 hb1
  go_wp2_with fail
  refine (winPut_any w.heap.size [] [97, 98] _ 2 (w1.heap.size + 1) _ (HW1.out.fr ((Fr.refl (fun _ => False) w1).alloc _) id) (by simp) (by simp) (by simp) (by simp) (Sl.new_ w1 _ _ _) (fun x hx => by
    injection hx with hx
    subst hx
    show w1.heap.size ≠ w.heap.size
    omega)).mono ?_
  rintro e w2 ⟨rfl, hw2, hf2⟩
  have HB2 := Lib.hid ((HB1.out.alloc HB1.out.size _).trans (hf2.below (B := w.heap.size) (by have := HB1.out.size; simp; omega) (fun k hk hh => by omega)))
  have CP := Lib.hid (winCopy_yes w.heap.size ([] ++ [97, 98]) 2 5 w2 hw2 (by simp) (by omega) (by omega) (by simp) (by omega))
  clear hw2 hf2
  go_wp2_with fail
  refine CP.out.mono ?_
  rintro e w3 ⟨g, rfl, hg, -, -, hf3⟩
  have HB3 := Lib.hid (HB2.out.trans (hf3.below (B := w.heap.size) HB2.out.size (fun k hk hh => by omega)))
  rw [List.nil_append, came5] at hg
  have r0 := run_str (P := Try.prog) w3 w3.heap.size 22 9 5 (some ⟨g, 0, none⟩) bytes5 5 Try.underlying22 Try.underlying5 Try.underlying9 (sl_of_whole hg)
  rw [show bytes5.length = 5 from rfl, show strOf bytes5 = ⟨#[97, 98, 97, 98, 97]⟩ from rfl] at r0
  clear hg hf3 CP
  go_wp2_with fail
  go_ret
  exact ⟨rfl, HB3.out⟩

namespace Win
theorem copyN_old (k : List UInt8) (d n j : Nat) (hj : j < k.length) : (copyN k d n).getD j 0 = k.getD j 0 := by
  rw [copyN_pre k d n, getD_append_left' _ _ _ hj]
theorem copyN_back (k : List UInt8) (d : Nat) (hd : 1 ≤ d) (hdk : d ≤ k.length) : ∀ n i, i < n → (copyN k d n).getD (k.length + i) 0 = (copyN k d n).getD (k.length + i - d) 0
  | 0, i, h => by omega
  | n + 1, i, h => by
    have hl := length_copyN k d n
    rw [copyN]
    rcases Nat.lt_or_ge i n with hi | hi
    · rw [getD_append_left' _ _ _ (by omega), getD_append_left' _ _ _ (by omega)]
      exact copyN_back k d hd hdk n i hi
    · have hin : i = n := by omega
      subst hin
      rw [getD_append_right' _ _ _ (by omega), getD_append_left' _ _ _ (by omega), hl]
      simp
theorem copyN_turn (k : List UInt8) (d : Nat) (hd : 1 ≤ d) (hdk : d ≤ k.length) (n : Nat) : ∀ m i, i ≤ m → i < n → (copyN k d n).getD (k.length + i) 0 = k.getD (k.length - d + i % d) 0
  | m, i, hm, hi => by
    rw [copyN_back k d hd hdk n i hi]
    rcases Nat.lt_or_ge i d with h | h
    · rw [Nat.mod_eq_of_lt h, show k.length + i - d = k.length - d + i by omega, copyN_old k d n _ (by omega)]
    · cases m with
      | zero => omega
      | succ m =>
        rw [show k.length + i - d = k.length + (i - d) by omega, copyN_turn k d hd hdk n m (i - d) (by omega) (by omega), Nat.mod_eq_sub_mod h]
theorem came_at (k : List UInt8) (d n i : Nat) (hd : 1 ≤ d) (hdk : d ≤ k.length) (hi : i < n) : (came k d n)[i]? = some (k.getD (k.length - d + i % d) 0) := by
  have h := copyN_turn k d hd hdk n i i (Nat.le_refl _) hi
  have hl := length_copyN k d n
  unfold came
  rw [List.getElem?_drop, List.getElem?_eq_getElem (by omega)]
  rw [List.getD_eq_getElem?_getD, List.getElem?_eq_getElem (by omega)] at h
  simpa using h
end Win

set_option maxRecDepth 100000 in
set_option maxHeartbeats 2000000 in
theorem windowRepeats_walk (a : Option Addr) (b : List UInt8) (c : Nat) (dist n : Nat) (w : World) (hbm : b.length ≤ maxLen) (hbc : b.length ≤ c) (hsl : Sl w w.heap.size a (bytesV b)) (hdist : dist < 256) (_hn : n < 65536) :
    Calls Try.prog 3 #[.slice a b.length c, .int .u8 (dist : Int), .int .u16 (n : Int)] w fun e w' => e = .returned (.bool true) ∧ Below w.heap.size w w' := by
  unfold maxLen at hbm
  have HS := Lib.hid hsl
  clear hsl
  by_cases h0 : b.length = 0
  · have t0 : ((b.length : Int) == 0) = true := by rw [h0]; rfl
    have t00 : (b.length == 0) = true := by simpa using h0
    generalize b.length = bl at t0 t00 hbm hbc
    clear h0
    go_enter Try.func3, Try.ntmps3
    go_wp2_with fail
    refine (awake12_any w).mono ?_
    rintro e w1 ⟨rfl, hb1⟩
    go_wp2_with fail
    go_ret
    exact ⟨rfl, hb1⟩
  have t0 : ((b.length : Int) == 0) = false := by rw [beq_eq_false_iff_ne]; omega
  have t00 : (b.length == 0) = false := by simpa using h0
  by_cases h3 : 300 < b.length
  · have t1 : decide ((300 : Int) < (b.length : Int)) = true := decide_eq_true (by omega)
    generalize b.length = bl at t0 t00 t1 hbm hbc
    clear h0 h3
    go_enter Try.func3, Try.ntmps3
    go_wp2_with fail
    refine (awake12_any w).mono ?_
    rintro e w1 ⟨rfl, hb1⟩
    go_wp2_with fail
    go_ret
    exact ⟨rfl, hb1⟩
  have t1 : decide ((300 : Int) < (b.length : Int)) = false := decide_eq_false (by omega)
  obtain ⟨d, hd⟩ : ∃ d, d = 1 + dist % b.length := ⟨_, rfl⟩
  have hdb : dist % b.length < b.length := Nat.mod_lt _ (by omega)
  have e1 : (dist : Int).tmod (b.length : Int) = ((dist % b.length : Nat) : Int) := by rw [Int.tmod_eq_emod_of_nonneg (Int.natCast_nonneg _)]; omega
  have e2 : (dist : Int) % (b.length : Int) = ((dist % b.length : Nat) : Int) := by omega
  have e3 : (1 : Int) + ((dist % b.length : Nat) : Int) = (d : Int) := by omega
  have hd1 : 1 ≤ d := by omega
  have hd2 : d ≤ b.length := by omega
  generalize dist % b.length = dm at e1 e2 e3 hdb
  clear hd
  obtain ⟨k, hk⟩ : ∃ k, k = n % 2000 := ⟨_, rfl⟩
  have hk2 : k < 2000 := by omega
  have e4 : (n : Int).tmod 2000 = (k : Int) := by rw [Int.tmod_eq_emod_of_nonneg (Int.natCast_nonneg _)]; omega
  have e5 : (n : Int) % 2000 = (k : Int) := by omega
  clear hk
  have hp1 : ¬ (b.length : Int) = 0 := by omega
  go_enter Try.func3, Try.ntmps3
  go_wp2_with fail
  refine (awake12_any w).mono ?_
  rintro e w1 ⟨rfl, hb1⟩
  have HB1 := Lib.hid hb1
  have hs1 := hb1.size
  clear hb1
  go_wp2_with fail
  refine (winNew_any w1).mono ?_
  rintro e w2 ⟨rfl, hw2, hb2⟩
  have HB2 := Lib.hid (HB1.out.trans (hb2.mono hs1))
  have PT := Lib.hid (winPut_any w1.heap.size [] b a c w.heap.size w2 hw2 (by simp) (by omega) hbc HB2.out.size (HS.out.below HB2.out (Nat.le_refl _)) (fun x hx => by
    rcases HS.out with h | ⟨bb, oo, ha, hbb, _⟩
    · have : b = [] := by simpa [bytesV] using h
      rw [this] at h0; simp at h0
    · rw [ha] at hx
      injection hx with hx
      subst hx
      show bb ≠ w1.heap.size
      omega))
  clear hw2 hb2
  go_wp2_with fail
  (with_reducible refine PT.out.mono ?_)
  rintro e w3 ⟨rfl, hw3, hf3⟩
  rw [List.nil_append] at hw3
  have HB3 := Lib.hid (HB2.out.trans (hf3.below (B := w.heap.size) HB2.out.size (fun k hk hh => by omega)))
  have CP := Lib.hid (winCopy_yes w1.heap.size b d k w3 hw3 (by omega) (by omega) hd1 hd2 (by omega))
  clear hw3 hf3 PT h0
  go_wp2_with fail
  (with_reducible refine CP.out.mono ?_)
  rintro e w4 ⟨g, rfl, hg, hgs, hw4, hf4⟩
  have HB4 := Lib.hid (HB3.out.trans (hf4.below (B := w.heap.size) HB3.out.size (fun k hk hh => by omega)))
  have HG := Lib.hid hg
  have HW4 := Lib.hid hw4
  clear hg hw4 hf4 CP
  go_wp2_with fail
  go_loopw [12] (fun i wr => ∃ (j q : Nat), j ≤ k ∧ i = .int .i64 j ∧ wr = w4.drewN q) (fun i _ => k - (intOf i).toNat)
  case atStart => exact ⟨0, 0, Nat.zero_le _, rfl, rfl⟩
  case round =>
    obtain ⟨j, q, hj, rfl, rfl⟩ := hrel
    by_cases hlt : j < k
    · have hjd : j % d < d := Nat.mod_lt _ (by omega)
      have x0 := (HG.out.cell j).trans ((List.getElem?_toArray).trans (show (bytesV (Win.came b d k))[j]? = some (.int .u8 ((b.getD (b.length - d + j % d) 0).toNat : Int)) by
        unfold bytesV
        rw [List.getElem?_map, Win.came_at b d k j hd1 hd2 hlt]; rfl))
      obtain ⟨bb, oo, rfl, hbb, x1⟩ := (HS.out.below HB4.out (Nat.le_refl _)).byte (k := b.length - d + j % d) (by omega)
      rw [show b[b.length - d + j % d]'(by omega) = b.getD (b.length - d + j % d) 0 by rw [List.getD_eq_getElem?_getD, List.getElem?_eq_getElem (by omega)]; rfl] at x1
      generalize (b.getD (b.length - d + j % d) 0).toNat = y at x0 x1
      have v1 : (j : Int).tmod (d : Int) = ((j % d : Nat) : Int) := by rw [Int.tmod_eq_emod_of_nonneg (Int.natCast_nonneg _)]; omega
      have v2 : (j : Int) % (d : Int) = ((j % d : Nat) : Int) := by omega
      have v3 : IntKind.i64.wrap ((b.length : Int) - (d : Int)) = ((b.length - d : Nat) : Int) := by rw [IntWalk.i64_in _ (by omega)]; omega
      have v4 : (b.length : Int) - (d : Int) = ((b.length - d : Nat) : Int) := by omega
      have v5 : IntKind.i64.wrap (((b.length - d : Nat) : Int) + ((j % d : Nat) : Int)) = ((b.length - d + j % d : Nat) : Int) := by rw [IntWalk.i64_in _ (by omega)]; omega
      have v6 : ((b.length - d : Nat) : Int) + ((j % d : Nat) : Int) = ((b.length - d + j % d : Nat) : Int) := by omega
      have v7 : IntKind.i64.wrap ((j % d : Nat) : Int) = ((j % d : Nat) : Int) := IntWalk.i64_in _ (by omega)
      have w1' : (0 : Int) ≤ ((b.length - d + j % d : Nat) : Int) := Int.natCast_nonneg _
      have w2' : ((b.length - d + j % d : Nat) : Int) < (b.length : Int) := by omega
      have p1 : ¬ (d : Int) = 0 := by omega
      have p2 : ((d : Int) == 0) = false := by simp; omega
      have p3 : ¬ d = 0 := by omega
      have k0 : (0 : Int) ≤ (j : Int) := Int.natCast_nonneg _
      have k1 : (j : Int) < (k : Int) := by omega
      have v8 : IntKind.i64.wrap ((b.length - d : Nat) : Int) = ((b.length - d : Nat) : Int) := IntWalk.i64_in _ (by omega)
      have v9 : IntKind.i64.wrap ((b.length - d + j % d : Nat) : Int) = ((b.length - d + j % d : Nat) : Int) := IntWalk.i64_in _ (by omega)
      generalize b.length - d + j % d = z at x1 v5 v6 v9 w1' w2'
      generalize j % d = jm at v1 v2 v5 v6 v7 hjd
      generalize b.length - d = bd at v3 v4 v5 v6 v8
      go_wp2_with fail
      go_quiet (fail)
      go_wp2_with fail
      go_roundw
      case rel => exact ⟨j + 1, _, by omega, by go_num, rfl⟩
      case measure => simp [intOf]; omega
    · obtain rfl : j = k := by omega
      have AL := Lib.hid (winAll_any w1.heap.size (Win.copyN b d j) (w4.drewN q) (HW4.out.drewN q))
      rw [Win.length_copyN] at AL
      have u1 : IntKind.i64.wrap ((b.length : Int) + (j : Int)) = ((b.length + j : Nat) : Int) := by rw [IntWalk.i64_in _ (by omega)]; omega
      have u2 : (b.length : Int) + (j : Int) = ((b.length + j : Nat) : Int) := by omega
      go_wp2_with fail
      (with_reducible refine AL.out.mono ?_)
      rintro e w5 ⟨rfl, rfl⟩
      generalize b.length + j = bj at u1 u2 ⊢
      go_wp2_with fail
      go_ret
      exact ⟨rfl, below_drewN HB4.out q⟩
end Go.Proofs.Ytpaimcigkpdjpaa
