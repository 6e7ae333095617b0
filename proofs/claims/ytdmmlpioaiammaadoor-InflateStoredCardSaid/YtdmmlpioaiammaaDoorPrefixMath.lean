/-
  canon: no code is the beginning of another one's (plain).
-/
import Derived.Test.YtdmmlpioaiammaaDoorCodes
import Derived.Test.YtdmmlpioaiammaaDoorSortMath
namespace Go.Proofs.YtdmmlpioaiammaaDoor

namespace Bit
theorem rev_mod (n a v : Nat) (h : a ≤ n) : rev n v % 2 ^ a = rev a (v / 2 ^ (n - a)) := by
  unfold rev
  rw [← num_take _ a (by rw [List.length_reverse, length_bitsN]; exact h)]
  congr 1
  conv => lhs; rw [show n = (n - a) + a by omega, bitsN_append, List.reverse_append]
  have hl : (bitsN a (v / 2 ^ (n - a))).reverse.length = a := by rw [List.length_reverse, length_bitsN]
  rw [List.take_append_of_le_length (by omega), List.take_of_length_le (by omega)]
theorem rev_inj {n a b : Nat} (ha : a < 2 ^ n) (hb : b < 2 ^ n) (h : rev n a = rev n b) : a = b := by
  have := congrArg (rev n) h
  rwa [rev_rev, rev_rev, Nat.mod_eq_of_lt ha, Nat.mod_eq_of_lt hb] at this
end Bit
theorem nx_mono (l : List Int) (a d : Nat) (ha : 1 ≤ a) : (nx l a + l.count (a : Int)) * 2 ^ (d + 1) ≤ nx l (a + d + 1) := by
  induction d with
  | zero =>
    rw [Nat.add_zero, nx_succ l a ha]
    omega
  | succ d ih =>
    rw [show a + (d + 1) + 1 = (a + d + 1) + 1 by omega, nx_succ l (a + d + 1) (by omega), Nat.pow_succ, ← Nat.mul_assoc]
    omega
theorem count_take_mono (l : List Int) (n : Int) (i k : Nat) (h : i < k) (hk : k ≤ l.length) (hi : l.getD i 0 = n) : (l.take i).count n < (l.take k).count n := by
  have h1 := take_count_succ l n i (by omega)
  rw [if_pos hi] at h1
  have h2 : (l.take (i + 1)).count n ≤ (l.take k).count n := (List.take_sublist_take_left (by omega)).count_le _
  omega
/-- the code of a symbol, its first bit highest -/
def plainCode (l : List Int) (i n : Nat) : Nat := nx l n + (l.take i).count (n : Int)
theorem plain_lt (l : List Int) (hs : psum l 15 ≤ 32768) (i n : Nat) (hi : i < l.length) (h : l[i] = (n : Int)) (h1 : 1 ≤ n) (h2 : n ≤ 15) : plainCode l i n < nx l n + l.count (n : Int) ∧ plainCode l i n < 2 ^ n := by
  have a1 := count_take_le l i hi
  rw [h] at a1
  have a2 := nx_cnt l n h1 h2 hs
  unfold plainCode
  omega
theorem prefix_free (l : List Int) (hs : psum l 15 ≤ 32768) (i k n m : Nat) (hi : i < l.length) (hk : k < l.length) (h : l[i] = (n : Int)) (g : l[k] = (m : Int)) (h1 : 1 ≤ n) (hnm : n ≤ m) (h2 : m ≤ 15) (hne : i ≠ k) :
    codeAt l k % 2 ^ n ≠ codeAt l i := by
  rw [codeAt_eq l i n hi h h1, codeAt_eq l k m hk g (by omega), Bit.rev_mod m n _ hnm]
  obtain ⟨a1, a2⟩ := plain_lt l hs i n hi h h1 (by omega)
  obtain ⟨b1, b2⟩ := plain_lt l hs k m hk g (by omega) h2
  intro e
  have hlt : plainCode l k m / 2 ^ (m - n) < 2 ^ n := by
    rw [Nat.div_lt_iff_lt_mul (Nat.two_pow_pos _), ← Nat.pow_add, show n + (m - n) = m by omega]
    exact b2
  have e2 := Bit.rev_inj hlt a2 e
  by_cases hc : n = m
  · subst hc
    rw [Nat.sub_self, Nat.pow_zero, Nat.div_one] at e2
    unfold plainCode at e2
    rcases Nat.lt_or_ge i k with c | c
    · have := count_take_mono l n i k c (by omega) (by rw [getD_of hi]; exact h)
      omega
    · have := count_take_mono l n k i (by omega) (by omega) (by rw [getD_of hk]; exact g)
      omega
  · have c := nx_mono l n (m - n - 1) h1
    rw [show m - n - 1 + 1 = m - n by omega, show n + (m - n - 1) + 1 = m by omega] at c
    have d : nx l n + l.count (n : Int) ≤ plainCode l k m / 2 ^ (m - n) := by
      rw [Nat.le_div_iff_mul_le (Nat.two_pow_pos _)]
      unfold plainCode
      omega
    omega
theorem kind_le5 (l : List Int) : kindOf l = 5 ∨ kindOf l = 4 ∨ (0 ≤ kindOf l ∧ kindOf l ≤ 3) := by
  unfold kindOf
  split
  · exact .inl rfl
  · split
    · exact .inr (.inl rfl)
    · split
      · exact .inr (.inr (by omega))
      · split
        · exact .inr (.inr (by omega))
        · split
          · exact .inr (.inr (by omega))
          · exact .inr (.inr (by omega))
end Go.Proofs.YtdmmlpioaiammaaDoor
