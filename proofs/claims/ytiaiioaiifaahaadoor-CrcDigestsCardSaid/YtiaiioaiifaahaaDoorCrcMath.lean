/-
  Plain mathematics of the checksum CRC-32: four bits at once are four single steps; adding bit by bit goes through. No program in sight.
-/
namespace Go.Proofs.YtiaiioaiifaahaaDoor.Crc

/-- the table of four bits -/
def tab : List Nat := [0, 498536548, 997073096, 651767980, 1994146192, 1802195444, 1303535960, 1342533948, 3988292384, 4027552580, 3604390888, 3412177804, 2607071920, 2262029012, 2685067896, 3183342108]

def bit (v : Nat) : Nat := if v % 2 = 1 then (v / 2) ^^^ 3988292384 else v / 2
def nib (v : Nat) : Nat := (v / 16) ^^^ tab.getD (v % 16) 0
def byte (v c : Nat) : Nat := nib (nib (v ^^^ c))
def bits8 (v : Nat) : Nat := bit (bit (bit (bit (bit (bit (bit (bit v)))))))
def fold (v : Nat) (l : List UInt8) : Nat := l.foldl (fun v c => byte v c.toNat) v
def fold8 (v : Nat) (l : List UInt8) : Nat := l.foldl (fun v c => bits8 (v ^^^ c.toNat)) v
def update (s : Nat) (l : List UInt8) : Nat := 4294967295 ^^^ fold (4294967295 ^^^ s) l

theorem x32 {a b : Nat} (ha : a < 4294967296) (hb : b < 4294967296) : a ^^^ b < 4294967296 := Nat.xor_lt_two_pow (n := 32) ha hb
theorem tab_lt (i : Nat) : tab.getD i 0 < 4294967296 := by
  by_cases h : i < 16
  · have : ∀ j : Fin 16, tab.getD j.val 0 < 4294967296 := by decide
    exact this ⟨i, h⟩
  · rw [show tab.getD i 0 = 0 by rw [List.getD_eq_getElem?_getD, List.getElem?_eq_none (by simp [tab]; omega)]; rfl]; decide
theorem bit_lt {v : Nat} (h : v < 4294967296) : bit v < 4294967296 := by
  unfold bit; split
  · exact x32 (by omega) (by decide)
  · omega
theorem nib_lt {v : Nat} (h : v < 4294967296) : nib v < 4294967296 := x32 (by omega) (tab_lt _)
theorem byte_lt {v c : Nat} (h : v < 4294967296) (hc : c < 4294967296) : byte v c < 4294967296 := nib_lt (nib_lt (x32 h hc))
theorem u8_lt (c : UInt8) : c.toNat < 4294967296 := by have := c.toNat_lt; omega
theorem fold_lt {v : Nat} (h : v < 4294967296) (l : List UInt8) : fold v l < 4294967296 := by
  induction l generalizing v with
  | nil => exact h
  | cons c l ih => exact ih (byte_lt h (u8_lt c))
theorem fold_snoc (v : Nat) (l : List UInt8) (c : UInt8) : fold v (l ++ [c]) = byte (fold v l) c.toNat := by simp [fold]
theorem fold8_snoc (v : Nat) (l : List UInt8) (c : UInt8) : fold8 v (l ++ [c]) = bits8 (fold8 v l ^^^ c.toNat) := by simp [fold8]
theorem update_lt {s : Nat} (h : s < 4294967296) (l : List UInt8) : update s l < 4294967296 := x32 (by decide) (fold_lt (x32 (by decide) h) l)

/-- a step goes through sums without carry -/
theorem mod2_xor (a b : Nat) : (a ^^^ b) % 2 = (a % 2 + b % 2) % 2 := by
  have h := @Nat.xor_mod_two_pow a b 1
  simp only [Nat.pow_one] at h
  rw [h]
  have ha : a % 2 = 0 ∨ a % 2 = 1 := by omega
  have hb : b % 2 = 0 ∨ b % 2 = 1 := by omega
  rcases ha with ha | ha <;> rcases hb with hb | hb <;> rw [ha, hb] <;> decide
theorem div_xor (a b n : Nat) : (a ^^^ b) / 2 ^ n = (a / 2 ^ n) ^^^ (b / 2 ^ n) := Nat.xor_div_two_pow
theorem bit_xor (a b : Nat) : bit (a ^^^ b) = bit a ^^^ bit b := by
  unfold bit
  have hd : (a ^^^ b) / 2 = (a / 2) ^^^ (b / 2) := by simpa using div_xor a b 1
  rw [hd, mod2_xor]
  have ha : a % 2 = 0 ∨ a % 2 = 1 := by omega
  have hb : b % 2 = 0 ∨ b % 2 = 1 := by omega
  rcases ha with ha | ha <;> rcases hb with hb | hb <;> simp only [ha, hb] <;> simp
  · rw [Nat.xor_assoc]
  · rw [Nat.xor_assoc, Nat.xor_comm (b / 2), ← Nat.xor_assoc]
  · rw [Nat.xor_assoc, Nat.xor_comm (b / 2), ← Nat.xor_assoc, ← Nat.xor_assoc, Nat.xor_assoc (a / 2), Nat.xor_self, Nat.xor_zero]
theorem bit_even (a : Nat) : bit (2 * a) = a := by unfold bit; rw [if_neg (by omega)]; omega
/-- four steps at once -/
theorem bit4 (v : Nat) : bit (bit (bit (bit v))) = nib v := by
  have hv : v = (16 * (v / 16)) ^^^ (v % 16) := by
    have h := Nat.two_pow_add_eq_or_of_lt (i := 4) (b := v % 16) (by omega) (v / 16)
    have h2 : (2 ^ 4 * (v / 16)) &&& (v % 16) = 0 := by
      apply Nat.eq_of_testBit_eq
      intro j
      rw [Nat.testBit_and, Nat.zero_testBit]
      by_cases hj : j < 4
      · rw [Nat.testBit_two_pow_mul]; simp; omega
      · have : (v % 16).testBit j = false := Nat.testBit_lt_two_pow (Nat.lt_of_lt_of_le (by omega : v % 16 < 2 ^ 4) (Nat.pow_le_pow_right (by omega) (by omega)))
        rw [this]; simp
    apply Nat.eq_of_testBit_eq
    intro j
    have e : v = 2 ^ 4 * (v / 16) ||| v % 16 := by rw [← h]; omega
    have h3 := congrArg (fun x => Nat.testBit x j) h2
    simp only [Nat.testBit_and, Nat.zero_testBit] at h3
    rw [Nat.testBit_xor]
    have e' : v.testBit j = ((2 ^ 4 * (v / 16)).testBit j || (v % 16).testBit j) := by rw [← Nat.testBit_or, ← e]
    rw [e']
    show _ = ((2 ^ 4 * (v / 16)).testBit j ^^ (v % 16).testBit j)
    revert h3
    cases (2 ^ 4 * (v / 16)).testBit j <;> cases (v % 16).testBit j <;> simp
  have h16 : bit (bit (bit (bit (16 * (v / 16))))) = v / 16 := by
    rw [show 16 * (v / 16) = 2 * (2 * (2 * (2 * (v / 16)))) by omega, bit_even, bit_even, bit_even, bit_even]
  have hs : bit (bit (bit (bit (v % 16)))) = tab.getD (v % 16) 0 := by
    have : ∀ j : Fin 16, bit (bit (bit (bit j.val))) = tab.getD j.val 0 := by decide
    exact this ⟨v % 16, by omega⟩
  have e := congrArg (fun x => bit (bit (bit (bit x)))) hv
  simp only [bit_xor] at e
  rw [e, h16, hs]; rfl
theorem byte_eq (v c : Nat) : byte v c = bits8 (v ^^^ c) := by unfold byte bits8; rw [← bit4, ← bit4]
theorem fold_eq (v : Nat) (l : List UInt8) : fold v l = fold8 v l := by
  unfold fold fold8
  congr 1
  funext v c
  exact byte_eq v c.toNat
theorem compl {s : Nat} (h : s < 4294967296) : 4294967295 ^^^ s = 4294967295 - s := by
  have := Nat.xor_comm 4294967295 s
  rw [this]
  apply Nat.eq_of_testBit_eq
  intro j
  rw [Nat.testBit_xor]
  have h1 : (4294967295 : Nat) = 2 ^ 32 - 1 := by decide
  rw [h1, Nat.testBit_two_pow_sub_one]
  have h3 : (2 ^ 32 - 1 - s) = 2 ^ 32 - (s + 1) := by omega
  rw [h3, Nat.testBit_two_pow_sub_succ h]
  by_cases hj : j < 32
  · simp [hj]
  · have : s.testBit j = false := Nat.testBit_lt_two_pow (Nat.lt_of_lt_of_le h (by have := Nat.pow_le_pow_right (n := 2) (by omega) (Nat.le_of_not_lt hj); simpa using this))
    simp [hj, this]
end Go.Proofs.YtiaiioaiifaahaaDoor.Crc
