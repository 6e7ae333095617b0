/-
  Plain mathematics: of three texts of one length, added bit by bit, the checksum is that of their checksums. No program in sight.
-/
import Derived.Test.YtiaiioaiifaahaaDoorCrcMath
namespace Go.Proofs.YtiaiioaiifaahaaDoor.Crc

def mix (a b c : List UInt8) (k : Nat) : List UInt8 := (List.range k).map fun i => a.getD i 0 ^^^ b.getD i 0 ^^^ c.getD i 0
theorem mix_length (a b c : List UInt8) (k : Nat) : (mix a b c k).length = k := by simp [mix]
theorem mix_snoc (a b c : List UInt8) (k : Nat) (ha : k < a.length) (hb : k < b.length) (hc : k < c.length) : mix a b c (k + 1) = mix a b c k ++ [a[k] ^^^ b[k] ^^^ c[k]] := by
  simp [mix, List.range_succ, ha, hb, hc]
theorem bits8_xor (a b : Nat) : bits8 (a ^^^ b) = bits8 a ^^^ bits8 b := by simp only [bits8, bit_xor]
theorem xor6 (u v w a b c : Nat) : (u ^^^ v ^^^ w) ^^^ (a ^^^ b ^^^ c) = (u ^^^ a) ^^^ (v ^^^ b) ^^^ (w ^^^ c) := by
  apply Nat.eq_of_testBit_eq
  intro j
  simp only [Nat.testBit_xor]
  cases u.testBit j <;> cases v.testBit j <;> cases w.testBit j <;> cases a.testBit j <;> cases b.testBit j <;> cases c.testBit j <;> rfl
theorem fold8_mix (u v w : Nat) (a b c : List UInt8) (k : Nat) (ha : k ≤ a.length) (hb : k ≤ b.length) (hc : k ≤ c.length) :
    fold8 (u ^^^ v ^^^ w) (mix a b c k) = fold8 u (a.take k) ^^^ fold8 v (b.take k) ^^^ fold8 w (c.take k) := by
  induction k with
  | zero => simp [mix, fold8]
  | succ k ih =>
    rw [mix_snoc a b c k (by omega) (by omega) (by omega), fold8_snoc, ih (by omega) (by omega) (by omega), List.take_succ_eq_append_getElem (show k < a.length by omega),
      List.take_succ_eq_append_getElem (show k < b.length by omega), List.take_succ_eq_append_getElem (show k < c.length by omega), fold8_snoc, fold8_snoc, fold8_snoc]
    rw [UInt8.toNat_xor, UInt8.toNat_xor, xor6, bits8_xor, bits8_xor]
theorem update_mix (a b c : List UInt8) (k : Nat) (ha : k ≤ a.length) (hb : k ≤ b.length) (hc : k ≤ c.length) :
    update 0 (mix a b c k) = update 0 (a.take k) ^^^ update 0 (b.take k) ^^^ update 0 (c.take k) := by
  unfold update
  simp only [fold_eq]
  have h := fold8_mix (4294967295 ^^^ 0) (4294967295 ^^^ 0) (4294967295 ^^^ 0) a b c k ha hb hc
  rw [show (4294967295 ^^^ 0) ^^^ (4294967295 ^^^ 0) ^^^ (4294967295 ^^^ 0) = 4294967295 ^^^ 0 by decide] at h
  rw [h]
  have h6 := xor6 4294967295 4294967295 4294967295 (fold8 (4294967295 ^^^ 0) (a.take k)) (fold8 (4294967295 ^^^ 0) (b.take k)) (fold8 (4294967295 ^^^ 0) (c.take k))
  rw [show 4294967295 ^^^ 4294967295 ^^^ 4294967295 = 4294967295 by decide] at h6
  exact h6
end Go.Proofs.YtiaiioaiifaahaaDoor.Crc
