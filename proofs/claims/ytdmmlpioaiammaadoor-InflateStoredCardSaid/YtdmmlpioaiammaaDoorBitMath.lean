/-
  Plain mathematics of bits, the first lowest: numbers, bytes, packing, turning round. No program in sight.
-/
namespace Go.Proofs.YtdmmlpioaiammaaDoor.Bit

def num : List Bool → Nat
  | [] => 0
  | b :: l => b.toNat + 2 * num l
def bitsN : Nat → Nat → List Bool
  | 0, _ => []
  | n + 1, v => (v % 2 == 1) :: bitsN n (v / 2)
def ofBytes (l : List UInt8) : List Bool := l.flatMap fun c => bitsN 8 c.toNat
/-- the bytes of bits, noughts behind -/
def pack (l : List Bool) : List UInt8 := (List.range ((l.length + 7) / 8)).map fun i => UInt8.ofNat (num ((l.drop (8 * i)).take 8))

theorem num_lt (l : List Bool) : num l < 2 ^ l.length := by
  induction l with
  | nil => simp [num]
  | cons b l ih =>
    simp only [num, List.length_cons, Nat.pow_succ]
    have : b.toNat ≤ 1 := by cases b <;> decide
    omega
theorem length_bitsN (n v : Nat) : (bitsN n v).length = n := by
  induction n generalizing v with
  | zero => rfl
  | succ n ih => simp [bitsN, ih]
theorem num_bitsN (n v : Nat) : num (bitsN n v) = v % 2 ^ n := by
  induction n generalizing v with
  | zero => simp [bitsN, num, Nat.mod_one]
  | succ n ih =>
    simp only [bitsN, num, ih]
    have h1 : (v % 2 == 1).toNat = v % 2 := by
      have : v % 2 = 0 ∨ v % 2 = 1 := by omega
      rcases this with h | h <;> rw [h] <;> rfl
    rw [h1, Nat.pow_succ, Nat.mul_comm (2 ^ n) 2, Nat.mod_mul]
theorem num_append (a b : List Bool) : num (a ++ b) = num a + 2 ^ a.length * num b := by
  induction a with
  | nil => simp [num]
  | cons x a ih =>
    simp only [List.cons_append, num, ih, List.length_cons, Nat.pow_succ]
    rw [Nat.mul_add, Nat.mul_comm (2 ^ a.length) 2, Nat.mul_assoc]
    omega
theorem num_take_drop (l : List Bool) (k : Nat) (hk : k ≤ l.length) : num l = num (l.take k) + 2 ^ k * num (l.drop k) := by
  have h := num_append (l.take k) (l.drop k)
  rw [List.take_append_drop, List.length_take, Nat.min_eq_left hk] at h
  exact h
theorem num_take (l : List Bool) (k : Nat) (hk : k ≤ l.length) : num (l.take k) = num l % 2 ^ k := by
  have h := num_take_drop l k hk
  have hlt := num_lt (l.take k)
  rw [List.length_take, Nat.min_eq_left hk] at hlt
  rw [h, Nat.add_mul_mod_self_left, Nat.mod_eq_of_lt hlt]
theorem num_drop (l : List Bool) (k : Nat) (hk : k ≤ l.length) : num (l.drop k) = num l / 2 ^ k := by
  have h := num_take_drop l k hk
  have hlt := num_lt (l.take k)
  rw [List.length_take, Nat.min_eq_left hk] at hlt
  rw [h, Nat.add_mul_div_left _ _ (Nat.two_pow_pos k), Nat.div_eq_of_lt hlt, Nat.zero_add]
theorem bitsN_num (l : List Bool) : bitsN l.length (num l) = l := by
  induction l with
  | nil => rfl
  | cons b l ih =>
    simp only [List.length_cons, bitsN, num]
    have h1 : (b.toNat + 2 * num l) / 2 = num l := by cases b <;> simp <;> omega
    have h2 : ((b.toNat + 2 * num l) % 2 == 1) = b := by cases b <;> simp [Nat.add_mul_mod_self_left]
    rw [h1, h2, ih]
theorem bitsN_append (a b v : Nat) : bitsN (a + b) v = bitsN a v ++ bitsN b (v / 2 ^ a) := by
  induction a generalizing v with
  | zero => simp [bitsN]
  | succ a ih =>
    rw [show a + 1 + b = (a + b) + 1 by omega]
    simp only [bitsN, List.cons_append, ih, Nat.pow_succ, Nat.mul_comm (2 ^ a) 2, Nat.div_div_eq_div_mul]
theorem testBit_num (l : List Bool) (i : Nat) : (num l).testBit i = l.getD i false := by
  induction l generalizing i with
  | nil => simp [num]
  | cons b l ih =>
    cases i with
    | zero => cases b <;> simp [num, Nat.testBit_zero]
    | succ i =>
      rw [Nat.testBit_succ]
      have h1 : num (b :: l) / 2 = num l := by simp only [num]; cases b <;> simp <;> omega
      rw [h1, ih]
      simp
theorem getElem?_bitsN (n v i : Nat) (hi : i < n) : (bitsN n v)[i]? = some (v.testBit i) := by
  induction n generalizing v i with
  | zero => omega
  | succ n ih =>
    cases i with
    | zero => simp [bitsN, Nat.testBit_zero]; rcases (show v % 2 = 0 ∨ v % 2 = 1 by omega) with h | h <;> simp [h]
    | succ i =>
      simp only [bitsN, List.getElem?_cons_succ]
      rw [ih (v / 2) i (by omega), Nat.testBit_succ]

/-- turned round -/
def rev (n v : Nat) : Nat := num (bitsN n v).reverse
theorem rev_lt (n v : Nat) : rev n v < 2 ^ n := by
  have := num_lt (bitsN n v).reverse
  rwa [List.length_reverse, length_bitsN] at this
theorem rev_rev (n v : Nat) : rev n (rev n v) = v % 2 ^ n := by
  unfold rev
  have h := bitsN_num (bitsN n v).reverse
  rw [List.length_reverse, length_bitsN] at h
  rw [h, List.reverse_reverse, num_bitsN]
theorem testBit_rev (n v i : Nat) (hi : i < n) : (rev n v).testBit i = v.testBit (n - 1 - i) := by
  unfold rev
  rw [testBit_num, List.getD_eq_getElem?_getD, List.getElem?_reverse (by rw [length_bitsN]; exact hi), length_bitsN, getElem?_bitsN _ _ _ (by omega)]
  rfl

/-- math/bits.Reverse32, step by step -/
def swap (k m v : Nat) : Nat := ((v / 2 ^ k) &&& m) ||| ((v &&& m) * 2 ^ k % 4294967296)
def half (v : Nat) : Nat := (v / 2 ^ 16) ||| (v * 2 ^ 16 % 4294967296)
def r32 (v : Nat) : Nat := half (swap 8 16711935 (swap 4 252645135 (swap 2 858993459 (swap 1 1431655765 v))))
theorem swap_lt (k m v : Nat) (hm : m < 4294967296) : swap k m v < 4294967296 := by
  have h1 : (v / 2 ^ k) &&& m < 2 ^ 32 := Nat.and_lt_two_pow _ hm
  have h2 : (v &&& m) * 2 ^ k % 4294967296 < 2 ^ 32 := Nat.mod_lt _ (by decide)
  exact Nat.or_lt_two_pow h1 h2
theorem half_lt (v : Nat) (hv : v < 4294967296) : half v < 4294967296 := by
  have h1 : v / 2 ^ 16 < 2 ^ 32 := by omega
  have h2 : v * 2 ^ 16 % 4294967296 < 2 ^ 32 := Nat.mod_lt _ (by decide)
  exact Nat.or_lt_two_pow h1 h2
theorem testBit_swap (k m v j : Nat) (hj : j < 32) : (swap k m v).testBit j = ((v.testBit (j + k) && m.testBit j) || (decide (k ≤ j) && (v.testBit (j - k) && m.testBit (j - k)))) := by
  unfold swap
  rw [show (4294967296 : Nat) = 2 ^ 32 by decide, Nat.testBit_or, Nat.testBit_and, Nat.testBit_div_two_pow, Nat.testBit_mod_two_pow, Nat.testBit_mul_two_pow, Nat.testBit_and]
  simp [hj]
theorem testBit_half (v j : Nat) (hj : j < 32) : (half v).testBit j = (v.testBit (j + 16) || (decide (16 ≤ j) && v.testBit (j - 16))) := by
  unfold half
  rw [show (4294967296 : Nat) = 2 ^ 32 by decide, Nat.testBit_or, Nat.testBit_div_two_pow, Nat.testBit_mod_two_pow, Nat.testBit_mul_two_pow]
  simp [hj]
theorem testBit_swap_ge (k m v j : Nat) (hm : m < 4294967296) (hj : 32 ≤ j) : (swap k m v).testBit j = false :=
  Nat.testBit_lt_two_pow (Nat.lt_of_lt_of_le (swap_lt k m v hm) (by have := Nat.pow_le_pow_right (n := 2) (by omega) hj; simpa using this))
theorem mask1 (j : Nat) (hj : j < 32) : Nat.testBit 1431655765 j = decide (j % 2 < 1) := by
  have : ∀ i : Fin 32, Nat.testBit 1431655765 i.val = decide (i.val % 2 < 1) := by decide
  exact this ⟨j, hj⟩
theorem mask2 (j : Nat) (hj : j < 32) : Nat.testBit 858993459 j = decide (j % 4 < 2) := by
  have : ∀ i : Fin 32, Nat.testBit 858993459 i.val = decide (i.val % 4 < 2) := by decide
  exact this ⟨j, hj⟩
theorem mask4 (j : Nat) (hj : j < 32) : Nat.testBit 252645135 j = decide (j % 8 < 4) := by
  have : ∀ i : Fin 32, Nat.testBit 252645135 i.val = decide (i.val % 8 < 4) := by decide
  exact this ⟨j, hj⟩
theorem mask8 (j : Nat) (hj : j < 32) : Nat.testBit 16711935 j = decide (j % 16 < 8) := by
  have : ∀ i : Fin 32, Nat.testBit 16711935 i.val = decide (i.val % 16 < 8) := by decide
  exact this ⟨j, hj⟩
theorem testBit_r32 (v j : Nat) (hv : v < 4294967296) (hj : j < 32) : (r32 v).testBit j = v.testBit (31 - j) := by
  have hge : ∀ i, 32 ≤ i → v.testBit i = false := fun i hi => Nat.testBit_lt_two_pow (Nat.lt_of_lt_of_le hv (by have := Nat.pow_le_pow_right (n := 2) (by omega) hi; simpa using this))
  unfold r32
  have hall : j = 0 ∨ j = 1 ∨ j = 2 ∨ j = 3 ∨ j = 4 ∨ j = 5 ∨ j = 6 ∨ j = 7 ∨ j = 8 ∨ j = 9 ∨ j = 10 ∨ j = 11 ∨ j = 12 ∨ j = 13 ∨ j = 14 ∨ j = 15 ∨ j = 16 ∨ j = 17 ∨ j = 18 ∨ j = 19 ∨ j = 20 ∨ j = 21 ∨ j = 22 ∨ j = 23 ∨ j = 24 ∨ j = 25 ∨ j = 26 ∨ j = 27 ∨ j = 28 ∨ j = 29 ∨ j = 30 ∨ j = 31 := by omega
  rcases hall with rfl | rfl | rfl | rfl | rfl | rfl | rfl | rfl | rfl | rfl | rfl | rfl | rfl | rfl | rfl | rfl | rfl | rfl | rfl | rfl | rfl | rfl | rfl | rfl | rfl | rfl | rfl | rfl | rfl | rfl | rfl | rfl <;>
  simp (decide := true) [-Nat.testBit_zero, testBit_half, testBit_swap, testBit_swap_ge, hge, mask1, mask2, mask4, mask8]
theorem r32_lt (v : Nat) : r32 v < 4294967296 := half_lt _ (swap_lt _ _ _ (by decide))
/-- the lowest n bits the other way round, out of all 32 -/
theorem r32_rev (v n : Nat) (hv : v < 4294967296) (hn : n ≤ 32) : r32 v / 2 ^ (32 - n) = rev n v := by
  apply Nat.eq_of_testBit_eq
  intro i
  rw [Nat.testBit_div_two_pow]
  by_cases hi : i < n
  · rw [testBit_rev n v i hi, testBit_r32 v _ hv (by omega)]
    congr 1
    omega
  · have h1 : (rev n v).testBit i = false := Nat.testBit_lt_two_pow (Nat.lt_of_lt_of_le (rev_lt n v) (Nat.pow_le_pow_right (by omega) (by omega)))
    have h2 : (r32 v).testBit (i + (32 - n)) = false := Nat.testBit_lt_two_pow (Nat.lt_of_lt_of_le (r32_lt v) (by have := Nat.pow_le_pow_right (n := 2) (by omega) (show 32 ≤ i + (32 - n) by omega); simpa using this))
    rw [h1, h2]
end Go.Proofs.YtdmmlpioaiammaaDoor.Bit
