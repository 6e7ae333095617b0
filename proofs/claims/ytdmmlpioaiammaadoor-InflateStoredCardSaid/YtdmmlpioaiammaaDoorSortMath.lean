/-
  canon: the plain mathematics of the sorted symbols, and of the sums as the document has them.
-/
import Derived.Test.YtdmmlpioaiammaaDoorCanonMath
namespace Go.Proofs.YtdmmlpioaiammaaDoor

/-- the symbols below k of length n -/
def idxN (l : List Int) (n k : Nat) : List Nat := (List.range k).filter fun i => decide (l.getD i 0 = (n : Int))
/-- the symbols of the lengths 1 .. m -/
def srt (l : List Int) : Nat → List Nat
  | 0 => []
  | m + 1 => srt l m ++ idxN l (m + 1) l.length
theorem getD_of {l : List Int} {i : Nat} (h : i < l.length) : l.getD i 0 = l[i] := by rw [List.getD_eq_getElem?_getD, List.getElem?_eq_getElem h]; rfl
theorem idxN_succ (l : List Int) (n k : Nat) : idxN l n (k + 1) = idxN l n k ++ (if l.getD k 0 = (n : Int) then [k] else []) := by
  unfold idxN
  rw [List.range_succ, List.filter_append]
  congr 1
  by_cases h : l.getD k 0 = (n : Int)
  · rw [if_pos h]; simp only [List.filter_cons, List.filter_nil, h, decide_true, if_true]
  · rw [if_neg h]; simp only [List.filter_cons, List.filter_nil, h, decide_false]; rfl
theorem take_count_succ (l : List Int) (n : Int) (k : Nat) (h : k < l.length) : (l.take (k + 1)).count n = (l.take k).count n + if l.getD k 0 = n then 1 else 0 := by
  rw [List.take_succ_eq_append_getElem h, List.count_append, getD_of h]
  congr 1
  by_cases e : l[k] = n
  · rw [if_pos e, e]; simp
  · rw [if_neg e]; exact List.count_eq_zero.2 (by simp; exact fun h => e h.symm)
theorem len_idxN (l : List Int) (n k : Nat) (h : k ≤ l.length) : (idxN l n k).length = (l.take k).count (n : Int) := by
  induction k with
  | zero => simp [idxN]
  | succ k ih =>
    rw [idxN_succ, List.length_append, ih (by omega), take_count_succ l n k (by omega)]
    congr 1
    split <;> rfl
theorem len_srt (l : List Int) (m : Nat) : (srt l m).length = pcnt l m := by
  induction m with
  | zero => rfl
  | succ m ih =>
    unfold srt pcnt
    rw [List.length_append, ih, len_idxN l (m + 1) l.length (Nat.le_refl _), List.take_length]
theorem idxN_at (l : List Int) (n i k : Nat) (hi : i < k) (hk : k ≤ l.length) (h : l.getD i 0 = (n : Int)) : (idxN l n k)[(l.take i).count (n : Int)]? = some i := by
  induction k with
  | zero => omega
  | succ k ih =>
    rw [idxN_succ]
    by_cases e : i = k
    · subst e
      rw [List.getElem?_append_right (by rw [len_idxN l n i (by omega)]; exact Nat.le_refl _), len_idxN l n i (by omega), if_pos h]
      simp
    · have h1 := ih (by omega) (by omega)
      rw [List.getElem?_append_left (List.getElem?_eq_some_iff.1 h1).1]
      exact h1
/-- where a symbol stands -/
def rank (l : List Int) (i : Nat) : Nat := pcnt l ((l.getD i 0).toNat - 1) + (l.take i).count (l.getD i 0)
theorem srt_at (l : List Int) (m n i : Nat) (hi : i < l.length) (h : l.getD i 0 = (n : Int)) (h1 : 1 ≤ n) (hm : n ≤ m) : (srt l m)[pcnt l (n - 1) + (l.take i).count (n : Int)]? = some i := by
  induction m with
  | zero => omega
  | succ m ih =>
    unfold srt
    by_cases e : n = m + 1
    · subst e
      rw [List.getElem?_append_right (by rw [len_srt]; simp), len_srt, Nat.add_sub_cancel, Nat.add_sub_cancel_left]
      exact idxN_at l (m + 1) i l.length hi (Nat.le_refl _) h
    · have h2 := ih (by omega)
      rw [List.getElem?_append_left (List.getElem?_eq_some_iff.1 h2).1]
      exact h2
theorem srt_rank (l : List Int) (n i : Nat) (hi : i < l.length) (h : l.getD i 0 = (n : Int)) (h1 : 1 ≤ n) (hm : n ≤ 15) : (srt l 15)[rank l i]? = some i := by
  unfold rank
  rw [h, Int.toNat_natCast]
  exact srt_at l 15 n i hi h h1 hm
theorem count_at (l : List Int) (n j k : Nat) (hk : k ≤ l.length) (h : j < (l.take k).count (n : Int)) : ∃ i, i < k ∧ l.getD i 0 = (n : Int) ∧ (l.take i).count (n : Int) = j := by
  induction k with
  | zero => simp at h
  | succ k ih =>
    by_cases e : j < (l.take k).count (n : Int)
    · obtain ⟨i, h1, h2, h3⟩ := ih (by omega) e
      exact ⟨i, by omega, h2, h3⟩
    · rw [take_count_succ l n k (by omega)] at h
      by_cases e2 : l.getD k 0 = (n : Int)
      · rw [if_pos e2] at h
        exact ⟨k, by omega, e2, by omega⟩
      · rw [if_neg e2] at h; omega
theorem rank_of (l : List Int) (m p : Nat) (h : p < pcnt l m) : ∃ i n : Nat, i < l.length ∧ 1 ≤ n ∧ n ≤ m ∧ l.getD i 0 = (n : Int) ∧ p = pcnt l (n - 1) + (l.take i).count (n : Int) := by
  induction m with
  | zero => simp [pcnt] at h
  | succ m ih =>
    by_cases e : p < pcnt l m
    · obtain ⟨i, n, h1, h2, h3, h4⟩ := ih e
      exact ⟨i, n, h1, h2, by omega, h4⟩
    · unfold pcnt at h
      obtain ⟨i, h1, h2, h3⟩ := count_at l (m + 1) (p - pcnt l m) l.length (Nat.le_refl _) (by rw [List.take_length]; omega)
      exact ⟨i, m + 1, h1, by omega, by omega, h2, by rw [Nat.add_sub_cancel, h3]; omega⟩
/-- what stands at a place -/
theorem srt_place (l : List Int) (p : Nat) (h : p < pcnt l 15) : ∃ i n : Nat, i < l.length ∧ 1 ≤ n ∧ n ≤ 15 ∧ l.getD i 0 = (n : Int) ∧ p = rank l i ∧ (srt l 15)[p]? = some i := by
  obtain ⟨i, n, h1, h2, h3, h4, h5⟩ := rank_of l 15 p h
  refine ⟨i, n, h1, h2, h3, h4, ?_, ?_⟩
  · unfold rank; rw [h4, Int.toNat_natCast]; exact h5
  · rw [h5]; exact srt_at l 15 n i h1 h4 h2 h3
/-- the sorted symbols below k, noughts elsewhere -/
def srtTo (l : List Int) (k : Nat) : List Nat := (List.range (pcnt l 15)).map fun p => if (srt l 15).getD p 0 < k then (srt l 15).getD p 0 else 0
theorem len_srtTo (l : List Int) (k : Nat) : (srtTo l k).length = pcnt l 15 := by simp [srtTo]
theorem srtTo_get (l : List Int) (k p : Nat) (h : p < pcnt l 15) : (srtTo l k)[p]? = some (if (srt l 15).getD p 0 < k then (srt l 15).getD p 0 else 0) := by simp [srtTo, h]
theorem getD_some {l : List Nat} {p i : Nat} (h : l[p]? = some i) : l.getD p 0 = i := by rw [List.getD_eq_getElem?_getD, h]; rfl
theorem rank_lt (l : List Int) (n i : Nat) (hi : i < l.length) (h : l.getD i 0 = (n : Int)) (h1 : 1 ≤ n) (hm : n ≤ 15) : rank l i < pcnt l 15 := by
  have := srt_rank l n i hi h h1 hm
  rw [← len_srt]
  exact (List.getElem?_eq_some_iff.1 this).1
theorem srtTo_set (l : List Int) (k n : Nat) (hk : k < l.length) (h : l.getD k 0 = (n : Int)) (h1 : 1 ≤ n) (hm : n ≤ 15) : (srtTo l k).set (pcnt l (n - 1) + (l.take k).count (n : Int)) k = srtTo l (k + 1) := by
  have hr : pcnt l (n - 1) + (l.take k).count (n : Int) = rank l k := by unfold rank; rw [h, Int.toNat_natCast]
  rw [hr]
  have hs := srt_rank l n k hk h h1 hm
  apply List.ext_getElem?
  intro p
  by_cases hp : p < pcnt l 15
  · rw [List.getElem?_set, srtTo_get _ _ _ hp, srtTo_get _ _ _ hp, len_srtTo]
    by_cases e : rank l k = p
    · subst e
      rw [if_pos rfl, if_pos hp, getD_some hs, if_pos (by omega)]
    · rw [if_neg e]
      obtain ⟨i, m, g1, g2, g3, g4, g5, g6⟩ := srt_place l p hp
      rw [getD_some g6]
      have hne : i ≠ k := by rintro rfl; exact e g5.symm
      congr 1
      by_cases e2 : i < k
      · rw [if_pos e2, if_pos (by omega)]
      · rw [if_neg e2, if_neg (by omega)]
  · rw [List.getElem?_eq_none (by simp [len_srtTo]; omega), List.getElem?_eq_none (by simp [len_srtTo]; omega)]
theorem srtTo_skip (l : List Int) (k : Nat) (h : l.getD k 0 < 1 ∨ 15 < l.getD k 0) : srtTo l (k + 1) = srtTo l k := by
  apply List.ext_getElem?
  intro p
  by_cases hp : p < pcnt l 15
  · rw [srtTo_get _ _ _ hp, srtTo_get _ _ _ hp]
    obtain ⟨i, m, g1, g2, g3, g4, g5, g6⟩ := srt_place l p hp
    rw [getD_some g6]
    have hne : i ≠ k := by rintro rfl; omega
    congr 1
    by_cases e2 : i < k
    · rw [if_pos e2, if_pos (by omega)]
    · rw [if_neg e2, if_neg (by omega)]
  · rw [List.getElem?_eq_none (by simp [len_srtTo]; omega), List.getElem?_eq_none (by simp [len_srtTo]; omega)]
theorem srtTo_zero (l : List Int) : srtTo l 0 = List.replicate (pcnt l 15) 0 := by
  apply List.ext_getElem?
  intro i
  by_cases hi : i < pcnt l 15
  · rw [srtTo_get _ _ _ hi]; simp [hi]
  · rw [List.getElem?_eq_none (by simp [len_srtTo]; omega), List.getElem?_eq_none (by simp; omega)]
theorem srtTo_all (l : List Int) : srtTo l l.length = srt l 15 := by
  apply List.ext_getElem?
  intro p
  by_cases hp : p < pcnt l 15
  · rw [srtTo_get _ _ _ hp]
    obtain ⟨i, m, g1, g2, g3, g4, g5, g6⟩ := srt_place l p hp
    rw [getD_some g6, g6, if_pos g1]
  · rw [List.getElem?_eq_none (by simp [len_srtTo]; omega), List.getElem?_eq_none (by rw [len_srt]; omega)]
/-- the places: as far as m -/
def atTo (l : List Int) (m : Nat) : List Int := (List.range 17).map fun i => if i ≤ m then ((pcnt l (i - 1) : Nat) : Int) else 0
theorem atTo_get (l : List Int) (m i : Nat) (h : i < 17) : (atTo l m)[i]? = some (if i ≤ m then ((pcnt l (i - 1) : Nat) : Int) else 0) := by simp [atTo, h]
theorem atTo_set (l : List Int) (m : Nat) (h : m + 1 < 17) : (atTo l m).set (m + 1) ((pcnt l m : Nat) : Int) = atTo l (m + 1) := by
  apply List.ext_getElem?
  intro i
  by_cases hi : i < 17
  · rw [List.getElem?_set, atTo_get _ _ _ hi, atTo_get _ _ _ hi]
    by_cases e : m + 1 = i
    · subst e; simp [atTo, h]
    · rw [if_neg e]
      congr 1
      by_cases e2 : i ≤ m
      · rw [if_pos e2, if_pos (by omega)]
      · rw [if_neg e2, if_neg (by omega)]
  · rw [List.getElem?_eq_none (by simp [atTo]; omega), List.getElem?_eq_none (by simp [atTo]; omega)]
/-- the next places behind the symbols M -/
def atAt (l M : List Int) : List Int := (List.range 17).map fun i => if i = 0 ∨ i = 16 then ((pcnt l (i - 1) : Nat) : Int) else ((pcnt l (i - 1) + M.count (i : Int) : Nat) : Int)
theorem atAt_get (l M : List Int) (i : Nat) (h0 : 1 ≤ i) (h : i < 16) : (atAt l M)[i]? = some ((pcnt l (i - 1) + M.count (i : Int) : Nat) : Int) := by
  simp only [atAt, List.getElem?_map, List.getElem?_range (show i < 17 by omega), Option.map_some]
  rw [if_neg (by omega)]
theorem atAt_nil (l : List Int) : atTo l 16 = atAt l [] := by
  unfold atTo atAt
  apply List.map_congr_left
  intro i hi
  have := List.mem_range.1 hi
  rw [if_pos (by omega)]
  by_cases e : i = 0 ∨ i = 16
  · rw [if_pos e]
  · rw [if_neg e]; simp
theorem atAt_snoc (l M : List Int) (x : Int) (m : Nat) (hx : x = (m : Int)) (h1 : 1 ≤ m) (h : m < 16) : (atAt l M).set m ((pcnt l (m - 1) + M.count x + 1 : Nat) : Int) = atAt l (M ++ [x]) := by
  apply List.ext_getElem?
  intro i
  by_cases hi : i < 17
  · rw [List.getElem?_set]
    by_cases e : m = i
    · subst e hx
      rw [if_pos rfl, atAt_get _ _ _ h1 h, List.count_append]
      simp [atAt]; omega
    · rw [if_neg e]
      by_cases h0 : i = 0 ∨ i = 16
      · simp only [atAt, List.getElem?_map, List.getElem?_range hi, Option.map_some]
        rw [if_pos h0, if_pos h0]
      · rw [atAt_get _ _ _ (by omega) (by omega), atAt_get _ _ _ (by omega) (by omega), List.count_append, show List.count (i : Int) [x] = 0 from List.count_eq_zero.2 (by simp; omega)]
        simp
  · rw [List.getElem?_eq_none (by simp [atAt]; omega), List.getElem?_eq_none (by simp [atAt]; omega)]
theorem atAt_skip (l M : List Int) (x : Int) (h : x < 1 ∨ 15 < x) : atAt l (M ++ [x]) = atAt l M := by
  unfold atAt
  apply List.map_congr_left
  intro i hi
  have := List.mem_range.1 hi
  by_cases h0 : i = 0 ∨ i = 16
  · rw [if_pos h0, if_pos h0]
  · rw [if_neg h0, if_neg h0, List.count_append, show List.count (i : Int) [x] = 0 from List.count_eq_zero.2 (by simp; omega)]; simp

theorem psum_snoc (l : List Int) (x : Int) (m : Nat) : psum (l ++ [x]) m = psum l m + if 1 ≤ x ∧ x ≤ (m : Int) then 2 ^ (15 - x.toNat) else 0 := by
  induction m with
  | zero => simp [psum]; omega
  | succ m ih =>
    unfold psum
    rw [ih, List.count_append]
    by_cases e : x = ((m + 1 : Nat) : Int)
    · subst e
      rw [if_neg (by omega), if_pos (by omega), List.count_singleton_self, Int.toNat_natCast, Nat.add_mul, Nat.one_mul]
      omega
    · rw [show List.count ((m + 1 : Nat) : Int) [x] = 0 from List.count_eq_zero.2 (by simp; omega), Nat.add_zero]
      by_cases e2 : 1 ≤ x ∧ x ≤ (m : Int)
      · rw [if_pos e2, if_pos (by omega)]; omega
      · rw [if_neg e2, if_neg (by omega)]; omega
theorem pcnt_snoc (l : List Int) (x : Int) (m : Nat) : pcnt (l ++ [x]) m = pcnt l m + if 1 ≤ x ∧ x ≤ (m : Int) then 1 else 0 := by
  induction m with
  | zero => simp [pcnt]; omega
  | succ m ih =>
    unfold pcnt
    rw [ih, List.count_append]
    by_cases e : x = ((m + 1 : Nat) : Int)
    · subst e
      rw [if_neg (by omega), if_pos (by omega), List.count_singleton_self]
      omega
    · rw [show List.count ((m + 1 : Nat) : Int) [x] = 0 from List.count_eq_zero.2 (by simp; omega), Nat.add_zero]
      by_cases e2 : 1 ≤ x ∧ x ≤ (m : Int)
      · rw [if_pos e2, if_pos (by omega)]; omega
      · rw [if_neg e2, if_neg (by omega)]; omega
theorem psum_take_le (l : List Int) (k m : Nat) : psum (l.take k) m ≤ psum l m := by
  induction m with
  | zero => exact Nat.le_refl _
  | succ m ih =>
    unfold psum
    exact Nat.add_le_add ih (Nat.mul_le_mul_right _ ((List.take_sublist k l).count_le _))
theorem psum_rev (l : List Int) (m : Nat) : psum l.reverse m = psum l m := by
  induction m with
  | zero => rfl
  | succ m ih => unfold psum; rw [ih, List.count_reverse]
theorem pcnt_rev (l : List Int) (m : Nat) : pcnt l.reverse m = pcnt l m := by
  induction m with
  | zero => rfl
  | succ m ih => unfold pcnt; rw [ih, List.count_reverse]
theorem kindOf_rev (l : List Int) : kindOf l.reverse = kindOf l := by
  unfold kindOf
  rw [psum_rev, pcnt_rev, List.count_reverse, show rightB l.reverse = rightB l by unfold rightB; rw [List.all_reverse]]
theorem pcnt_mono (l : List Int) (a b : Nat) (h : a ≤ b) : pcnt l a ≤ pcnt l b := by
  induction b with
  | zero => obtain rfl : a = 0 := by omega
            exact Nat.le_refl _
  | succ b ih =>
    by_cases e : a = b + 1
    · subst e; exact Nat.le_refl _
    · have h1 := ih (by omega)
      have h2 : pcnt l (b + 1) = pcnt l b + l.count ((b + 1 : Nat) : Int) := rfl
      omega
theorem pcnt_take_len (l : List Int) (m k : Nat) (hk : k ≤ l.length) : pcnt (l.take k) m ≤ k := by
  induction k with
  | zero =>
    rw [List.take_zero]
    have : pcnt [] m ≤ m * ([] : List Int).length := pcnt_le [] m
    simpa using this
  | succ k ih =>
    have h1 := ih (by omega)
    rw [List.take_succ_eq_append_getElem (by omega), pcnt_snoc]
    split <;> omega
theorem pcnt_len (l : List Int) (m : Nat) : pcnt l m ≤ l.length := by
  have := pcnt_take_len l m l.length (Nat.le_refl _)
  rwa [List.take_length] at this
end Go.Proofs.YtdmmlpioaiammaaDoor
