/-
  Plain mathematics: the product of two polynomials as crc.multiply takes it is so many single steps; the checksum of two texts is that of both checksums. No program in sight.
-/
import Derived.Test.YtiaiioaiifaahaaDoorCrcRef
import Derived.Test.YtiaiioaiifaahaaDoorCrcLinMath
namespace Go.Proofs.YtiaiioaiifaahaaDoor.Crc

theorem steps_xor (a b : Nat) : ∀ n, steps (a ^^^ b) n = steps a n ^^^ steps b n
  | 0 => rfl
  | n + 1 => by rw [steps, steps, steps, steps_xor a b n, bit_xor]
theorem steps_add (v m : Nat) : ∀ n, steps v (m + n) = steps (steps v m) n
  | 0 => rfl
  | n + 1 => by rw [← Nat.add_assoc, steps, steps, steps_add v m n]
theorem steps_nought : ∀ n, steps 0 n = 0
  | 0 => rfl
  | n + 1 => by rw [steps, steps_nought n]; rfl

/-- the product, of the first k bits of a, from the highest on -/
def mul (a b : Nat) : Nat → Nat
  | 0 => 0
  | k + 1 => mul a b k ^^^ (if a.testBit (31 - k) then steps b k else 0)

theorem xor4 (a b c d : Nat) : (a ^^^ b) ^^^ (c ^^^ d) = (a ^^^ c) ^^^ (b ^^^ d) := by
  apply Nat.eq_of_testBit_eq
  intro j
  simp only [Nat.testBit_xor]
  cases a.testBit j <;> cases b.testBit j <;> cases c.testBit j <;> cases d.testBit j <;> rfl
theorem mul_xor_left (a c b : Nat) : ∀ k, mul (a ^^^ c) b k = mul a b k ^^^ mul c b k
  | 0 => by simp [mul]
  | k + 1 => by
    rw [mul, mul, mul, mul_xor_left a c b k, Nat.testBit_xor, xor4]
    congr 1
    cases a.testBit (31 - k) <;> cases c.testBit (31 - k) <;> simp
theorem mul_xor_right (a b c : Nat) : ∀ k, mul a (b ^^^ c) k = mul a b k ^^^ mul a c k
  | 0 => by simp [mul]
  | k + 1 => by
    rw [mul, mul, mul, mul_xor_right a b c k, steps_xor, xor4]
    congr 1
    cases a.testBit (31 - k) <;> simp
theorem mul_nought (b : Nat) : ∀ k, mul 0 b k = 0
  | 0 => rfl
  | k + 1 => by rw [mul, mul_nought b k]; simp
theorem mul_one (b : Nat) : ∀ k, k ≤ 31 → mul 2147483648 b (k + 1) = b
  | 0, _ => by
    rw [mul, mul]
    have : Nat.testBit 2147483648 (31 - 0) = true := by decide
    rw [this]
    simp [steps]
  | k + 1, h => by
    rw [mul, mul_one b k (by omega)]
    have : Nat.testBit 2147483648 (31 - (k + 1)) = false := by
      have e : (2147483648 : Nat) = 2 ^ 31 := by decide
      rw [e, Nat.testBit_two_pow]
      simp; omega
    rw [this]; simp
theorem mul_half (a b : Nat) (ha : a < 4294967296) : ∀ k, k ≤ 31 → mul (a / 2) b (k + 1) = bit (mul a b k)
  | 0, _ => by
    rw [mul, mul, mul]
    have : (a / 2).testBit (31 - 0) = false := Nat.testBit_lt_two_pow (by omega)
    rw [this]; simp [bit]
  | k + 1, h => by
    rw [mul, mul_half a b ha k (by omega), mul, bit_xor]
    congr 1
    have : (a / 2).testBit (31 - (k + 1)) = a.testBit (31 - k) := by
      rw [show a / 2 = a / 2 ^ 1 by simp, Nat.testBit_div_two_pow]
      congr 1
      omega
    rw [this]
    cases a.testBit (31 - k)
    · simp [bit]
    · simp [steps]
theorem bits_top (b j : Nat) (hb : b < 2 ^ (j + 1)) : b = (b % 2 ^ j) ^^^ (if b.testBit j then 2 ^ j else 0) := by
  apply Nat.eq_of_testBit_eq
  intro i
  rw [Nat.testBit_xor, Nat.testBit_mod_two_pow]
  rcases Nat.lt_trichotomy i j with h | h | h
  · have : ((if b.testBit j then 2 ^ j else 0 : Nat)).testBit i = false := by
      split
      · rw [Nat.testBit_two_pow]; simp; omega
      · simp
    rw [this]; simp [h]
  · subst h
    cases hb2 : b.testBit i
    · simp
    · simp
  · have h1 : b.testBit i = false := Nat.testBit_lt_two_pow (Nat.lt_of_lt_of_le hb (Nat.pow_le_pow_right (by omega) h))
    have : ((if b.testBit j then 2 ^ j else 0 : Nat)).testBit i = false := by
      split
      · rw [Nat.testBit_two_pow]; simp; omega
      · simp
    rw [this, h1]; simp
theorem poly_basis : ∀ i : Fin 32, mul 3988292384 (2 ^ i.val) 32 = steps (2 ^ i.val) 32 := by decide +kernel
theorem mul_poly_lt : ∀ (j : Nat), j ≤ 32 → ∀ b, b < 2 ^ j → mul 3988292384 b 32 = steps b 32
  | 0, _, b, hb => by
    obtain rfl : b = 0 := by simpa using hb
    decide +kernel
  | j + 1, hj, b, hb => by
    have h := bits_top b j hb
    have ih := mul_poly_lt j (by omega) (b % 2 ^ j) (Nat.mod_lt _ (Nat.two_pow_pos _))
    have hz : mul 3988292384 0 32 = steps 0 32 := by decide +kernel
    obtain ⟨t, ht⟩ : ∃ t, t = (if b.testBit j then 2 ^ j else 0 : Nat) := ⟨_, rfl⟩
    obtain ⟨m, hm⟩ : ∃ m, m = b % 2 ^ j := ⟨_, rfl⟩
    rw [← ht, ← hm] at h
    rw [← hm] at ih
    have ht2 : mul 3988292384 t 32 = steps t 32 := by
      cases hb2 : b.testBit j with
      | true =>
        rw [hb2, if_pos rfl] at ht
        rw [ht]; exact poly_basis ⟨j, by omega⟩
      | false =>
        rw [hb2, if_neg (by simp)] at ht
        rw [ht]; exact hz
    rw [h, mul_xor_right, steps_xor, ih, ht2]
theorem mul_bit (a b : Nat) (ha : a < 4294967296) (hb : b < 4294967296) : mul (bit a) b 32 = bit (mul a b 32) := by
  have h1 := mul_half a b ha 31 (by omega)
  have h2 : mul a b 32 = mul a b 31 ^^^ (if a.testBit 0 then steps b 31 else 0) := rfl
  have h3 := mul_poly_lt 32 (by omega) b hb
  have h4 : steps b 32 = bit (steps b 31) := rfl
  rw [h2, bit_xor, ← h1]
  unfold bit
  have hq : a.testBit 0 = decide (a % 2 = 1) := by simp [Nat.testBit_zero]
  rw [hq]
  by_cases ho : a % 2 = 1
  · rw [if_pos ho, mul_xor_left, h3, h4]
    simp [ho, bit]
  · rw [if_neg ho]
    simp [ho]
theorem mul_steps (b : Nat) (hb : b < 4294967296) : ∀ n, mul (steps 2147483648 n) b 32 = steps b n
  | 0 => mul_one b 31 (by omega)
  | n + 1 => by rw [steps, mul_bit _ _ (steps_lt (by decide) n) hb, mul_steps b hb n]; rfl

/-- the loop of crc.multiply: what is left of a -/
def left (a k : Nat) : Nat := a * 2 ^ k % 4294967296
theorem left_succ (a k : Nat) : left a k * 2 % 4294967296 = left a (k + 1) := by
  unfold left
  rw [Nat.pow_succ, ← Nat.mul_assoc, Nat.mod_mul_mod]
theorem left_top (a k : Nat) (hk : k ≤ 31) : (left a k).testBit 31 = a.testBit (31 - k) := by
  unfold left
  rw [show (4294967296 : Nat) = 2 ^ 32 by decide, Nat.testBit_mod_two_pow, Nat.mul_comm, Nat.testBit_two_pow_mul]
  simp; omega
theorem left_all (a : Nat) : left a 32 = 0 := by unfold left; omega
theorem mul_rest (a b : Nat) (k : Nat) (hk : k ≤ 32) (h0 : left a k = 0) : ∀ n, k + n ≤ 32 → mul a b (k + n) = mul a b k
  | 0, _ => rfl
  | n + 1, h => by
    rw [← Nat.add_assoc, mul, mul_rest a b k hk h0 n (by omega)]
    have h1 : left a (k + n) = 0 := by
      have : ∀ m, left a (k + m) = 0 := fun m => by
        induction m with
        | zero => exact h0
        | succ m ih => rw [← Nat.add_assoc, ← left_succ, ih]
      exact this n
    have h2 := left_top a (k + n) (by omega)
    rw [h1, Nat.zero_testBit] at h2
    rw [← h2]; simp
theorem mul_lt {b : Nat} (a : Nat) (hb : b < 4294967296) : ∀ k, mul a b k < 4294967296
  | 0 => by show 0 < 4294967296; decide
  | k + 1 => by
    rw [mul]
    refine x32 (mul_lt a hb k) ?_
    split
    · exact steps_lt hb k
    · decide
theorem left_lt (a k : Nat) : left a k < 4294967296 := Nat.mod_lt _ (by decide)
theorem left_zero (a : Nat) (ha : a < 4294967296) : left a 0 = a := by unfold left; simp; omega
theorem top_bit (j : Nat) : Nat.testBit 2147483648 j = decide (31 = j) := by
  have e : (2147483648 : Nat) = 2 ^ 31 := by decide
  rw [e, Nat.testBit_two_pow]
theorem top_and (x : Nat) : (x &&& 2147483648) = if x.testBit 31 then 2147483648 else 0 := by
  apply Nat.eq_of_testBit_eq
  intro j
  rw [Nat.testBit_and, top_bit]
  by_cases hj : 31 = j
  · subst hj
    cases x.testBit 31
    · simp
    · rw [if_pos rfl, top_bit]; simp
  · cases x.testBit 31
    · simp [hj]
    · rw [if_pos rfl, top_bit]; simp [hj]

/-- the checksum of two texts -/
theorem fold8_split (u v : Nat) (l : List UInt8) : fold8 (u ^^^ v) l = steps u (8 * l.length) ^^^ fold8 v l := by
  induction l generalizing u v with
  | nil => rfl
  | cons c l ih =>
    have h : fold8 (u ^^^ v) (c :: l) = fold8 (bits8 (u ^^^ v ^^^ c.toNat)) l := rfl
    have h2 : fold8 v (c :: l) = fold8 (bits8 (v ^^^ c.toNat)) l := rfl
    rw [h, h2, Nat.xor_assoc, bits8_xor, ih, ← steps8, ← steps_add, List.length_cons, Nat.mul_add, Nat.add_comm]
theorem xor_cancel (x y : Nat) : x ^^^ (x ^^^ y) = y := by rw [← Nat.xor_assoc, Nat.xor_self, Nat.zero_xor]
theorem update_append (s : Nat) (a b : List UInt8) : update s (a ++ b) = update (update s a) b := by
  unfold update
  rw [xor_cancel]
  simp [fold]
theorem update_join (s : Nat) (b : List UInt8) : update s b = steps s (8 * b.length) ^^^ update 0 b := by
  unfold update
  rw [fold_eq, fold_eq, Nat.xor_comm 4294967295 s, fold8_split, ← Nat.xor_assoc, Nat.xor_comm 4294967295, Nat.xor_assoc]
  rfl
end Go.Proofs.YtiaiioaiifaahaaDoor.Crc
