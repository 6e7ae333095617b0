/-
  canon: the plain mathematics of the document's Codes: one behind the other.
-/
import Derived.Test.YtdmmlpioaiammaaDoorSorted
namespace Go.Proofs.YtdmmlpioaiammaaDoor

/-- what the document's Sorted has behind k symbols of the length n -/
def sk (l : List Int) (n k : Nat) : List Nat := srt l (n - 1) ++ idxN l n k
theorem sk_zero (l : List Int) (n : Nat) : sk l n 0 = srt l (n - 1) := by simp [sk, idxN]
theorem sk_all (l : List Int) (n : Nat) (h : 1 ≤ n) : sk l n l.length = sk l (n + 1) 0 := by
  obtain ⟨m, rfl⟩ : ∃ m, n = m + 1 := ⟨n - 1, by omega⟩
  rw [sk_zero]
  rfl
theorem sk_hit (l : List Int) (n k : Nat) (h : l.getD k 0 = (n : Int)) : sk l n (k + 1) = sk l n k ++ [k] := by
  unfold sk; rw [idxN_succ, if_pos h, List.append_assoc]
theorem sk_miss (l : List Int) (n k : Nat) (h : l.getD k 0 ≠ (n : Int)) : sk l n (k + 1) = sk l n k := by
  unfold sk; rw [idxN_succ, if_neg h, List.append_nil]
theorem len_sk (l : List Int) (n k : Nat) (h : 1 ≤ n) (hk : k ≤ l.length) : (sk l n k).length ≤ l.length := by
  obtain ⟨m, rfl⟩ : ∃ m, n = m + 1 := ⟨n - 1, by omega⟩
  unfold sk
  rw [List.length_append, len_srt, len_idxN l _ k hk, Nat.add_sub_cancel]
  have h1 : (l.take k).count ((m + 1 : Nat) : Int) ≤ l.count ((m + 1 : Nat) : Int) := (List.take_sublist k l).count_le _
  have h2 : pcnt l (m + 1) = pcnt l m + l.count ((m + 1 : Nat) : Int) := rfl
  have h3 := pcnt_len l (m + 1)
  omega
/-- the number that the document has behind p codes at m bits -/
def CInv (l : List Int) (p m code : Nat) : Prop := m ≤ 15 ∧ pcnt l (m - 1) ≤ p ∧ p ≤ pcnt l m ∧ code = nx l m + (p - pcnt l (m - 1))
theorem CInv.start (l : List Int) : CInv l 0 0 0 := ⟨by omega, by simp [pcnt], by simp, by simp [nx, pcnt]⟩
theorem CInv.more {l : List Int} {p m code n : Nat} (h : CInv l p m code) (hn : n ≤ 15) (hm : m < n) (hp : pcnt l (n - 1) ≤ p) : CInv l p (m + 1) (2 * code) := by
  obtain ⟨h1, h2, h3, h4⟩ := h
  have h5 := pcnt_mono l m (n - 1) (by omega)
  have h6 : p = pcnt l m := by omega
  refine ⟨by omega, by rw [Nat.add_sub_cancel]; omega, by have : pcnt l (m + 1) = pcnt l m + l.count ((m + 1 : Nat) : Int) := rfl; omega, ?_⟩
  rw [Nat.add_sub_cancel, h6, Nat.sub_self, Nat.add_zero, h4]
  cases m with
  | zero => subst h6; simp [nx, pcnt]
  | succ m =>
    rw [nx_succ l (m + 1) (by omega)]
    have : pcnt l (m + 1) = pcnt l m + l.count ((m + 1 : Nat) : Int) := rfl
    rw [Nat.add_sub_cancel]
    omega
theorem CInv.next {l : List Int} {p m code : Nat} (h : CInv l p m code) (hp : p < pcnt l m) : CInv l (p + 1) m (code + 1) := by
  obtain ⟨h1, h2, h3, h4⟩ := h
  exact ⟨h1, by omega, by omega, by omega⟩
theorem CInv.le {l : List Int} {p m code : Nat} (h : CInv l p m code) (hs : psum l 15 ≤ 32768) : code ≤ 32768 := by
  obtain ⟨h1, h2, h3, h4⟩ := h
  cases m with
  | zero => simp [nx, pcnt] at h3 h4; omega
  | succ m =>
    have := nx_bound l (m + 1) (by omega) h1 hs
    have h5 : pcnt l (m + 1) = pcnt l m + l.count ((m + 1 : Nat) : Int) := rfl
    rw [Nat.add_sub_cancel] at h4
    omega
/-- the codes of the symbols that stand below p -/
def outTo (l : List Int) (p : Nat) : List Nat := (List.range l.length).map fun i => if 0 < l.getD i 0 ∧ rank l i < p then codeAt l i else 0
theorem len_outTo (l : List Int) (p : Nat) : (outTo l p).length = l.length := by simp [outTo]
theorem outTo_get (l : List Int) (p i : Nat) (h : i < l.length) : (outTo l p)[i]? = some (if 0 < l.getD i 0 ∧ rank l i < p then codeAt l i else 0) := by simp [outTo, h]
theorem outTo_zero (l : List Int) : outTo l 0 = List.replicate l.length 0 := by
  apply List.ext_getElem?
  intro i
  by_cases hi : i < l.length
  · rw [outTo_get _ _ _ hi]; simp [hi]
  · rw [List.getElem?_eq_none (by simp [outTo]; omega), List.getElem?_eq_none (by simp; omega)]
theorem rank_inj (l : List Int) (hr : rightB l = true) (i j : Nat) (hi : i < l.length) (hj : j < l.length) (pi : 0 < l.getD i 0) (pj : 0 < l.getD j 0) (h : rank l i = rank l j) : i = j := by
  have a := right_at hr hi
  have b := right_at hr hj
  rw [← getD_of hi] at a
  rw [← getD_of hj] at b
  obtain ⟨n, hn⟩ := Int.eq_ofNat_of_zero_le a.1
  obtain ⟨m, hm⟩ := Int.eq_ofNat_of_zero_le b.1
  have e1 := srt_rank l n i hi hn (by omega) (by omega)
  have e2 := srt_rank l m j hj hm (by omega) (by omega)
  rw [h, e2] at e1
  injection e1 with e1
  exact e1.symm
theorem outTo_set (l : List Int) (hr : rightB l = true) (p s : Nat) (hs : s < l.length) (hp : 0 < l.getD s 0) (h : rank l s = p) : (outTo l p).set s (codeAt l s) = outTo l (p + 1) := by
  apply List.ext_getElem?
  intro i
  by_cases hi : i < l.length
  · rw [List.getElem?_set, outTo_get _ _ _ hi, outTo_get _ _ _ hi, len_outTo]
    by_cases e : s = i
    · subst e
      rw [if_pos rfl, if_pos hi, if_pos ⟨hp, by omega⟩]
    · rw [if_neg e]
      congr 1
      by_cases c : 0 < l.getD i 0 ∧ rank l i < p
      · rw [if_pos c, if_pos ⟨c.1, by omega⟩]
      · rw [if_neg c, if_neg]
        rintro ⟨c1, c2⟩
        exact e (rank_inj l hr s i hs hi hp c1 (by
          have : ¬ rank l i < p := fun h => c ⟨c1, h⟩
          omega))
  · rw [List.getElem?_eq_none (by simp [len_outTo]; omega), List.getElem?_eq_none (by simp [len_outTo]; omega)]
theorem outTo_all (l : List Int) (hr : rightB l = true) : outTo l (pcnt l 15) = codesOf l := by
  unfold outTo codesOf
  apply List.map_congr_left
  intro i hi
  have hi := List.mem_range.1 hi
  have a := right_at hr hi
  rw [← getD_of hi] at a
  by_cases c : 0 < l.getD i 0
  · obtain ⟨n, hn⟩ := Int.eq_ofNat_of_zero_le a.1
    rw [if_pos ⟨c, rank_lt l n i hi hn (by omega) (by omega)⟩]
  · rw [if_neg (fun h => c h.1)]
    unfold codeAt
    rw [if_neg c]
/-- what stands at p: its length, its place, its code -/
theorem place_at (l : List Int) (p : Nat) (h : p < pcnt l 15) : ∃ s n : Nat, s < l.length ∧ 1 ≤ n ∧ n ≤ 15 ∧ l.getD s 0 = (n : Int) ∧ (srt l 15)[p]? = some s ∧ rank l s = p ∧ pcnt l (n - 1) ≤ p ∧ p < pcnt l n ∧ ∀ code, CInv l p n code → codeAt l s = Bit.rev n code := by
  obtain ⟨s, n, h1, h2, h3, h4, h5, h6⟩ := srt_place l p h
  have hr : p = pcnt l (n - 1) + (l.take s).count (n : Int) := by rw [h5]; unfold rank; rw [h4, Int.toNat_natCast]
  refine ⟨s, n, h1, h2, h3, h4, h6, h5.symm, by omega, ?_, ?_⟩
  · obtain ⟨m, rfl⟩ : ∃ m, n = m + 1 := ⟨n - 1, by omega⟩
    have a := count_take_le l s h1
    rw [← getD_of h1, h4] at a
    have : pcnt l (m + 1) = pcnt l m + l.count ((m + 1 : Nat) : Int) := rfl
    rw [Nat.add_sub_cancel] at hr
    omega
  · rintro code ⟨_, _, _, e⟩
    rw [codeAt_eq l s n h1 (by rw [← getD_of h1]; exact h4) h2, e, hr, Nat.add_sub_cancel_left]
end Go.Proofs.YtdmmlpioaiammaaDoor
