/-
  canon: the plain mathematics of the codes.
-/
import Derived.Test.YtdmmlpioaiammaaDoorCanon
import Derived.Test.YtdmmlpioaiammaaDoorBitMath
namespace Go.Proofs.YtdmmlpioaiammaaDoor

/-- the first code of each length -/
def nx (l : List Int) : Nat → Nat
  | 0 => 0
  | 1 => 0
  | i + 2 => 2 * (nx l (i + 1) + l.count ((i + 1 : Nat) : Int))
theorem nx_succ (l : List Int) (i : Nat) (h : 1 ≤ i) : nx l (i + 1) = 2 * (nx l i + l.count (i : Int)) := by
  cases i with
  | zero => omega
  | succ i => rfl
theorem psum_mono (l : List Int) (a b : Nat) (h : a ≤ b) : psum l a ≤ psum l b := by
  induction b with
  | zero =>
    obtain rfl : a = 0 := by omega
    exact Nat.le_refl _
  | succ b ih =>
    by_cases e : a = b + 1
    · subst e; exact Nat.le_refl _
    · have h1 := ih (by omega)
      have h2 : psum l (b + 1) = psum l b + l.count ((b + 1 : Nat) : Int) * 2 ^ (15 - (b + 1)) := rfl
      omega
theorem nx_psum (l : List Int) (i : Nat) (h : i + 1 ≤ 15) : nx l (i + 1) * 2 ^ (15 - (i + 1)) = psum l i := by
  induction i with
  | zero => simp [nx, psum]
  | succ i ih =>
    have h1 := ih (by omega)
    unfold psum
    rw [← h1, nx_succ l (i + 1) (by omega), show 15 - (i + 1) = (15 - (i + 1 + 1)) + 1 by omega, Nat.pow_succ]
    generalize 2 ^ (15 - (i + 1 + 1)) = z
    generalize nx l (i + 1) = a
    generalize List.count _ l = b
    rw [Nat.mul_right_comm, Nat.mul_add, Nat.mul_comm (2 * z) a, Nat.mul_comm (2 * z) b, Nat.mul_comm z 2]
theorem nx_cnt (l : List Int) (i : Nat) (h1 : 1 ≤ i) (h : i ≤ 15) (hs : psum l 15 ≤ 32768) : nx l i + l.count (i : Int) ≤ 2 ^ i := by
  obtain ⟨j, rfl⟩ : ∃ j, i = j + 1 := ⟨i - 1, by omega⟩
  have e1 := nx_psum l j h
  have e2 : psum l (j + 1) = psum l j + l.count ((j + 1 : Nat) : Int) * 2 ^ (15 - (j + 1)) := rfl
  have e3 := psum_mono l (j + 1) 15 h
  rw [← e1, ← Nat.add_mul] at e2
  have e4 : (nx l (j + 1) + l.count ((j + 1 : Nat) : Int)) * 2 ^ (15 - (j + 1)) ≤ 2 ^ (j + 1) * 2 ^ (15 - (j + 1)) := by
    rw [← e2, ← Nat.pow_add, show j + 1 + (15 - (j + 1)) = 15 by omega]
    have : (2 : Nat) ^ 15 = 32768 := rfl
    omega
  exact Nat.le_of_mul_le_mul_right e4 (Nat.pow_pos (by omega))
theorem nx_bound (l : List Int) (i : Nat) (h1 : 1 ≤ i) (h : i ≤ 15) (hs : psum l 15 ≤ 32768) : nx l i + l.count (i : Int) ≤ 32768 :=
  Nat.le_trans (nx_cnt l i h1 h hs) (Nat.le_trans (Nat.pow_le_pow_right (by omega) h) (by decide))

/-- the first codes of the lengths up to k, the others 0 -/
def nxTo (l : List Int) (k : Nat) : List Nat := (List.range 16).map fun i => if i ≤ k then nx l i else 0
theorem nxTo_get (l : List Int) (k i : Nat) (h : i < 16) : (nxTo l k)[i]? = some (if i ≤ k then nx l i else 0) := by simp [nxTo, h]
theorem nxTo_set (l : List Int) (k : Nat) (h : k + 1 < 16) : (nxTo l k).set (k + 1) (nx l (k + 1)) = nxTo l (k + 1) := by
  apply List.ext_getElem?
  intro i
  by_cases hi : i < 16
  · rw [List.getElem?_set, nxTo_get _ _ _ hi, nxTo_get _ _ _ hi]
    by_cases e : k + 1 = i
    · subst e; simp [nxTo, h]
    · rw [if_neg e]
      congr 1
      by_cases e2 : i ≤ k
      · rw [if_pos e2, if_pos (by omega)]
      · rw [if_neg e2, if_neg (by omega)]
  · rw [List.getElem?_eq_none (by simp [nxTo]; omega), List.getElem?_eq_none (by simp [nxTo]; omega)]
/-- the next codes behind the symbols M -/
def nxAt (l M : List Int) : List Nat := (List.range 16).map fun i => if i = 0 then 0 else nx l i + M.count (i : Int)
theorem nxAt_get (l M : List Int) (i : Nat) (h0 : 1 ≤ i) (h : i < 16) : (nxAt l M)[i]? = some (nx l i + M.count (i : Int)) := by simp [nxAt, h]; omega
theorem nxAt_nil (l : List Int) : nxTo l 15 = nxAt l [] := by
  unfold nxTo nxAt
  apply List.map_congr_left
  intro i hi
  have := List.mem_range.1 hi
  by_cases e : i = 0
  · subst e; simp [nx]
  · rw [if_pos (by omega), if_neg e]; simp
theorem nxAt_snoc (l M : List Int) (x : Int) (m : Nat) (hx : x = (m : Int)) (h1 : 1 ≤ m) (h : m < 16) : (nxAt l M).set m (nx l m + M.count x + 1) = nxAt l (M ++ [x]) := by
  apply List.ext_getElem?
  intro i
  by_cases hi : i < 16
  · by_cases h0 : i = 0
    · subst h0
      rw [List.getElem?_set, if_neg (by omega)]
      simp [nxAt]
    · rw [List.getElem?_set, nxAt_get _ _ _ (by omega) hi, nxAt_get _ _ _ (by omega) hi, List.count_append]
      by_cases e : m = i
      · subst e hx; simp [nxAt, h]; omega
      · rw [if_neg e, show List.count (i : Int) [x] = 0 from List.count_eq_zero.2 (by simp; omega)]
        simp
  · rw [List.getElem?_eq_none (by simp [nxAt]; omega), List.getElem?_eq_none (by simp [nxAt]; omega)]
theorem nxAt_skip (l M : List Int) (x : Int) (h : x ≤ 0) : nxAt l (M ++ [x]) = nxAt l M := by
  unfold nxAt
  apply List.map_congr_left
  intro i _
  by_cases h0 : i = 0
  · rw [if_pos h0, if_pos h0]
  · rw [if_neg h0, if_neg h0, List.count_append, show List.count (i : Int) [x] = 0 from List.count_eq_zero.2 (by simp; omega)]; simp
/-- the code of symbol i -/
def codeAt (l : List Int) (i : Nat) : Nat :=
  if 0 < l.getD i 0 then Bit.rev (l.getD i 0).toNat (nx l (l.getD i 0).toNat + (l.take i).count (l.getD i 0)) else 0
def codesTo (l : List Int) (k : Nat) : List Nat := (List.range l.length).map fun i => if i < k then codeAt l i else 0
theorem len_codesTo (l : List Int) (k : Nat) : (codesTo l k).length = l.length := by simp [codesTo]
theorem codesTo_get (l : List Int) (k i : Nat) (h : i < l.length) : (codesTo l k)[i]? = some (if i < k then codeAt l i else 0) := by simp [codesTo, h]
theorem codesTo_set (l : List Int) (k : Nat) (h : k < l.length) : (codesTo l k).set k (codeAt l k) = codesTo l (k + 1) := by
  apply List.ext_getElem?
  intro i
  by_cases hi : i < l.length
  · rw [List.getElem?_set, codesTo_get _ _ _ hi, codesTo_get _ _ _ hi]
    by_cases e : k = i
    · subst e; simp [len_codesTo, h]
    · rw [if_neg e]
      congr 1
      by_cases e2 : i < k
      · rw [if_pos e2, if_pos (by omega)]
      · rw [if_neg e2, if_neg (by omega)]
  · rw [List.getElem?_eq_none (by simp [codesTo]; omega), List.getElem?_eq_none (by simp [codesTo]; omega)]
theorem codesTo_zero (l : List Int) : codesTo l 0 = List.replicate l.length 0 := by
  apply List.ext_getElem?
  intro i
  by_cases hi : i < l.length
  · rw [codesTo_get _ _ _ hi]; simp [hi]
  · rw [List.getElem?_eq_none (by simp [codesTo]; omega), List.getElem?_eq_none (by simp; omega)]
theorem codesTo_skip (l : List Int) (k : Nat) (h : k < l.length) (h0 : codeAt l k = 0) : codesTo l (k + 1) = codesTo l k := by
  rw [← codesTo_set l k h, h0]
  apply List.ext_getElem?
  intro i
  rw [List.getElem?_set]
  split
  · next e => subst e; rw [codesTo_get _ _ _ h]; simp [len_codesTo, h]
  · rfl
def codesOf (l : List Int) : List Nat := (List.range l.length).map (codeAt l)
theorem codesTo_all (l : List Int) : codesTo l l.length = codesOf l := by
  unfold codesTo codesOf
  apply List.map_congr_left
  intro i hi
  rw [if_pos (List.mem_range.1 hi)]
end Go.Proofs.YtdmmlpioaiammaaDoor
