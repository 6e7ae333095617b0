/-
  window.Window's Copy, Back, Last; the page's example.
-/
import Derived.Test.YtpaimcigkpdjpaaWinPut
namespace Go.Proofs.Ytpaimcigkpdjpaa
open Go.RowKit

namespace Win
/-- n times the byte at a distance -/
def copyN (k : List UInt8) (d : Nat) : Nat → List UInt8
  | 0 => k
  | n + 1 => copyN k d n ++ [(copyN k d n).getD ((copyN k d n).length - d) 0]
theorem length_copyN (k : List UInt8) (d : Nat) : ∀ n, (copyN k d n).length = k.length + n
  | 0 => rfl
  | n + 1 => by rw [copyN, List.length_append, length_copyN k d n]; simp; omega
theorem copyN_pre (k : List UInt8) (d : Nat) : ∀ n, copyN k d n = k ++ (copyN k d n).drop k.length
  | 0 => by simp [copyN]
  | n + 1 => by
    have ih := copyN_pre k d n
    rw [copyN, List.drop_append_of_le_length (by rw [length_copyN]; omega), ← List.append_assoc, ← ih]
/-- what came -/
def came (k : List UInt8) (d n : Nat) : List UInt8 := (copyN k d n).drop k.length
theorem length_came (k : List UInt8) (d n : Nat) : (came k d n).length = n := by simp [came, length_copyN]
theorem came_succ (k : List UInt8) (d n : Nat) : came k d (n + 1) = came k d n ++ [(copyN k d n).getD ((copyN k d n).length - d) 0] := by
  unfold came
  rw [copyN, List.drop_append_of_le_length (by rw [length_copyN]; omega)]
def half (b : List UInt8) (n : Nat) : List UInt8 := b ++ List.replicate (n - b.length) 0
theorem half_set (b : List UInt8) (n : Nat) (c : UInt8) (h : b.length < n) : (bytesV (half b n)).toArray.setIfInBounds b.length (.int .u8 (c.toNat : Int)) = (bytesV (half (b ++ [c]) n)).toArray := by
  unfold half
  rw [show n - b.length = (n - (b ++ [c]).length) + 1 by simp; omega, List.replicate_succ]
  apply Array.ext'
  simp [bytesV, byteV]
theorem half_at (b : List UInt8) (n : Nat) (h : b.length < n) : (bytesV (half b n)).toArray[b.length]? = some (.int .u8 0) := by
  unfold half
  rw [show n - b.length = (n - b.length - 1) + 1 by omega, List.replicate_succ]
  simp [bytesV, byteV]
theorem made (n : Nat) : (madeCells (Value.int .u8 0).cells (n * 1)).toList = bytesV (half [] n) := by
  unfold half
  apply List.ext_getElem?
  intro q
  by_cases hq : q < n
  · simp [madeCells, bytesV, byteV, Value.cells, hq, Nat.mod_one]
  · rw [List.getElem?_eq_none (by simp [madeCells]; omega), List.getElem?_eq_none (by simp [bytesV]; omega)]
end Win
theorem whole_of_own {w : World} {base : Nat} {e : TypeId} {size g n : Nat} {xs : List Value} (h : w.ownsRow base e size (.slice (some ⟨g, 0, none⟩) n n) n xs) : Whole w g e xs.toArray := by
  rcases h.2 with ⟨hv, _⟩ | ⟨g', cap, cur, hv, _, hh, _, _, hsz, ht⟩
  · cases hv
  · injection hv with hA _ hc
    injection hA with hA
    injection hA with hg
    subst hg hc
    have : cur = xs.toArray := by
      rw [← ht, List.take_of_length_le (by simp [hsz])]
    unfold Whole
    rw [← this]; exact hh
theorem sl_of_whole {w : World} {g : Nat} {t : TypeId} {xs : List Value} (h : Whole w g t xs.toArray) : Sl w w.heap.size (some ⟨g, 0, none⟩) xs :=
  .inr ⟨g, 0, rfl, h.lt, fun i u hu => by rw [Nat.zero_add, h.cell i, List.getElem?_toArray]; exact hu⟩

theorem winCopy_arg (p : Nat) (d n : Int) (w : World) (hn : n < 0 ∨ 1048576 < n) :
    Calls Try.prog 10 #[.pointer (some ⟨p, 0, none⟩), .int .i64 d, .int .i64 n] w fun e w' => e = .returned (.tuple #[.slice none 0 0, .int .i64 1]) ∧ w = w' := by
  rcases hn with h | h
  · have t1 : decide (n < 0) = true := decide_eq_true h
    go_enter Try.func10, Try.ntmps10
    go_wp2_with fail
    go_ret2
    exact ⟨rfl, rfl⟩
  · have t1 : decide (n < 0) = false := decide_eq_false (by omega)
    have t2 : decide (1048576 < n) = true := decide_eq_true h
    go_enter Try.func10, Try.ntmps10
    go_wp2_with fail
    go_ret2
    exact ⟨rfl, rfl⟩
theorem winCopy_dist (p : Nat) (all : List UInt8) (d n : Int) (w : World) (hw : WinS w p all) (h0 : 0 ≤ n) (h1 : n ≤ 1048576) (hd : d < 1 ∨ ((min all.length 32768 : Nat) : Int) < d) :
    Calls Try.prog 10 #[.pointer (some ⟨p, 0, none⟩), .int .i64 d, .int .i64 n] w fun e w' => e = .returned (.tuple #[.slice none 0 0, .int .i64 27]) ∧ w = w' := by
  have t1 : decide (n < 0) = false := decide_eq_false (by omega)
  have t2 : decide (1048576 < n) = false := decide_eq_false (by omega)
  by_cases h : d < 1
  · have t3 : decide (d < 1) = true := decide_eq_true h
    clear hd
    go_enter Try.func10, Try.ntmps10
    go_wp2_with fail
    go_ret2
    exact ⟨rfl, rfl⟩
  · have t3 : decide (d < 1) = false := decide_eq_false h
    have LN := Lib.hid (winLen_any p all w hw)
    generalize (min all.length 32768 : Nat) = m at hd LN
    have t4 : decide ((m : Int) < d) = true := decide_eq_true (by omega)
    clear hd hw
    go_enter Try.func10, Try.ntmps10
    go_wp2_with fail
    (with_reducible refine LN.out.mono ?_)
    rintro e w1 ⟨rfl, rfl⟩
    go_wp2_with fail
    go_ret2
    exact ⟨rfl, rfl⟩

def WCopyPost (p : Nat) (all : List UInt8) (d n : Nat) (w : World) (e : Ending) (w' : World) : Prop :=
  ∃ g, e = .returned (.tuple #[.slice (some ⟨g, 0, none⟩) n n, .int .i64 0]) ∧ Whole w' g 5 (bytesV (Win.came all d n)).toArray ∧ w.heap.size ≤ g ∧ WinS w' p (Win.copyN all d n) ∧ Fr (fun k => k = p) w w'
set_option maxRecDepth 100000 in
set_option maxHeartbeats 1000000 in
theorem winCopy_yes (p : Nat) (all : List UInt8) (d n : Nat) (w : World) (hw : WinS w p all) (hal : all.length ≤ 100000000) (hn : n ≤ 1048576) (hd : 1 ≤ d) (hd2 : d ≤ all.length) (hd3 : d ≤ 32768) :
    Calls Try.prog 10 #[.pointer (some ⟨p, 0, none⟩), .int .i64 (d : Int), .int .i64 (n : Int)] w (WCopyPost p all d n w) := by
  have t1 : decide ((n : Int) < 0) = false := decide_eq_false (by omega)
  have t2 : decide (1048576 < (n : Int)) = false := decide_eq_false (by omega)
  have t3 : decide ((d : Int) < 1) = false := decide_eq_false (by omega)
  have LN := Lib.hid (winLen_any p all w hw)
  have hdm : d ≤ min all.length 32768 := by omega
  generalize (min all.length 32768 : Nat) = m at hdm LN
  have t4 : decide ((m : Int) < (d : Int)) = false := decide_eq_false (by omega)
  have t5 : decide (m < d) = false := decide_eq_false (by omega)
  have HW := Lib.hid hw
  have hpl := hw.lt
  clear hw hdm
  obtain ⟨i0, hi0, hz0, hz1, hz2⟩ := info_parts byteInfoC
  have Hi0 := Lib.hid hi0
  have Hz0 := Lib.hid hz0
  have Hz1 := Lib.hid hz1
  have Hz2 := Lib.hid (show i0.bytes * n ≤ 281474976710656 by rw [hz2]; omega)
  clear hi0 hz0 hz1 hz2
  go_enter Try.func10, Try.ntmps10
  go_wp2_with fail
  (with_reducible refine LN.out.mono ?_)
  rintro e w1 ⟨rfl, rfl⟩
  go_wp2_with (at_make; refine wpList_make_full _ rfl _ _ _ rfl w.heap.size 5 i0 _ 1 Try.underlying22 Hi0.out Hz0.out Hz1.out .i64 .i64 _ _ n rfl rfl rfl rfl Hz2.out (by unfold maxLen; omega) (Nat.le_refl _) ?_; intro w1 hown1 hgrow1)
  have hw1 := whole_of_own hown1
  rw [Win.made] at hw1
  have HW1 := Lib.hid hw1
  have HF1 := Lib.hid ((Fr.refl (fun k => k = p) w).grown hgrow1 (fun k _ hk => by cases hk))
  have HN1 := Lib.hid (HW.out.fr ((Fr.refl (fun _ => False) w).grown hgrow1 (fun k _ hk => by cases hk)) id)
  clear hown1 hgrow1 hw1
  go_loopw [28] (fun i wr => ∃ j : Nat, j ≤ n ∧ i = .int .i64 j ∧ Whole wr w.heap.size 5 (bytesV (Win.half (Win.came all d j) n)).toArray ∧ WinS wr p (Win.copyN all d j) ∧ Fr (fun k => k = p) w wr) (fun i _ => n - (intOf i).toNat)
  case atStart => exact ⟨0, Nat.zero_le _, rfl, by simpa [Win.came, Win.copyN] using HW1.out, HN1.out, HF1.out⟩
  case round =>
    obtain ⟨j, hj, rfl, hwh, hwin, hfr⟩ := hrel
    by_cases hlt : j < n
    · have hlc := Win.length_copyN all d j
      have hlm := Win.length_came all d j
      have BK := Lib.hid (win_back p (Win.copyN all d j) d wr hwin (by omega) hd (by omega) hd3)
      have HSU := Lib.hid (Win.came_succ all d j)
      have HSC := Lib.hid (show Win.copyN all d (j + 1) = Win.copyN all d j ++ [(Win.copyN all d j).getD ((Win.copyN all d j).length - d) 0] from rfl)
      generalize (Win.copyN all d j).getD ((Win.copyN all d j).length - d) 0 = y at BK HSU HSC
      have HHS := Lib.hid (Win.half_set (Win.came all d j) n y (by omega))
      have x0 := (hwh.cell (Win.came all d j).length).trans (Win.half_at _ n (by omega))
      have f0 := hwh.frozen (Win.came all d j).length
      rw [hlm] at HHS x0 f0
      rw [← HSU.out] at HHS
      have PT := fun W (hW : WinS W p (Win.copyN all d j)) => Lib.hid (win_put p (Win.copyN all d j) y W hW (by omega))
      have HWH := Lib.hid hwh
      have HWI := Lib.hid hwin
      have HFR := Lib.hid hfr
      have hbs := hfr.size
      have hglt := hwh.lt
      have hpr := hwin.lt
      clear hwh hwin hfr hlm hlc
      have hxy := u8_bound y
      generalize hxx : (y.toNat : Int) = x at BK PT HHS
      clear hxx
      have k0 : (0 : Int) ≤ (j : Int) := Int.natCast_nonneg _
      have k1 : (j : Int) < (n : Int) := by omega
      go_wp2_with fail
      (with_reducible refine BK.out.mono ?_)
      rintro e w2 ⟨rfl, q, rfl⟩
      go_wp2_with fail
      (with_reducible refine (PT _ (by exact (show WinS _ p _ from HWI.out.fr (Fr.setCell ((Fr.refl (fun k => k = w.heap.size) wr).drewN q) (p := ⟨w.heap.size, j, none⟩) (.inl rfl) _) (show ¬ p = w.heap.size by omega)))).out.mono ?_)
      rintro e w3 ⟨rfl, hw3, hf3⟩
      have HW3 := Lib.hid hw3
      have HH3 := Lib.hid (show Whole w3 w.heap.size 5 (bytesV (Win.half (Win.came all d (j + 1)) n)).toArray by
        rw [← HHS.out]
        exact ((HWH.out.drewN q).set_ j _).fr hf3 (show ¬ w.heap.size = p by omega))
      have HF3 := Lib.hid (show Fr (fun k => k = p) w w3 from (((HFR.out.drewN q).setCell (p := ⟨w.heap.size, j, none⟩) (.inr (Nat.le_refl _)) _)).trans hf3 (fun _ _ h => h))
      clear hw3 hf3
      go_wp2_with fail
      go_roundw
      case rel => exact ⟨j + 1, by omega, by go_num, HH3.out, by rw [HSC.out]; exact HW3.out, HF3.out⟩
      case measure => simp [intOf]; omega
    · obtain rfl : j = n := by omega
      have hlm := Win.length_came all d j
      have HH := Lib.hid (show Whole wr w.heap.size 5 (bytesV (Win.came all d j)).toArray by
        have h := hwh
        unfold Win.half at h
        rw [hlm, Nat.sub_self] at h
        simpa using h)
      clear hwh hlm
      go_wp2_with fail
      go_ret2
      exact ⟨w.heap.size, rfl, HH.out, Nat.le_refl _, hwin, hfr⟩
end Go.Proofs.Ytpaimcigkpdjpaa
