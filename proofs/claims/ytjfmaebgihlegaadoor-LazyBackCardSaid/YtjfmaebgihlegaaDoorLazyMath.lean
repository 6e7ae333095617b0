/-
  lazy: the document's Longest, plain: a scan of all places is the walk along the chain.
-/
import Derived.Test.YtjfmaebgihlegaaDoorChainMath
namespace Go.Proofs.YtjfmaebgihlegaaDoor

def scanL (D : List UInt8) (i most : Nat) : Nat → Nat → Nat → Nat → Nat × Nat
  | 0, _, s, t => (s, t)
  | j + 1, d, s, t => if 32768 < i - j ∨ d = 0 then (s, t) else
      if kd D j = kd D i then (if s < sameF D j i most then scanL D i most j (d - 1) (sameF D j i most) (i - j) else scanL D i most j (d - 1) s t)
      else scanL D i most j d s t
theorem scanL_full (D : List UInt8) (i most j d s t : Nat) (h : most ≤ s) : scanL D i most j d s t = (s, t) := by
  induction j generalizing d with
  | zero => rfl
  | succ j ih =>
    unfold scanL
    split
    · rfl
    · split
      · rw [if_neg (by have := (sameF_is D j i most).1; omega)]
        exact ih _
      · exact ih _
theorem walkL_zero (D : List UInt8) (i most : Nat) (p : Int) (s t : Nat) : walkL D i most 0 p s t = (s, t) := rfl
theorem walkL_halt (D : List UInt8) (i most d : Nat) (p : Int) (s t : Nat) (h : p < 0 ∨ 32768 < (i : Int) - p ∨ most ≤ s) : walkL D i most d p s t = (s, t) := by
  cases d with
  | zero => rfl
  | succ d => unfold walkL; rw [if_pos h]
theorem scan_walk (D : List UInt8) (i most j d s t : Nat) (hj : j ≤ i) : scanL D i most j d s t = walkL D i most d (lastOf D (kd D i) j) s t := by
  induction j generalizing d s t with
  | zero =>
    rw [walkL_halt _ _ _ _ _ _ _ (by simp [lastOf])]
    rfl
  | succ j ih =>
    conv => lhs; unfold scanL
    by_cases hk : kd D j = kd D i
    · have hl : lastOf D (kd D i) (j + 1) = (j : Int) := by unfold lastOf; rw [if_pos hk]
      rw [hl, if_pos hk]
      cases d with
      | zero => rw [if_pos (.inr rfl), walkL_zero]
      | succ d =>
        by_cases hw : 32768 < i - j
        · rw [if_pos (.inl hw), walkL_halt _ _ _ _ _ _ _ (by omega)]
        · rw [if_neg (by omega), Nat.add_sub_cancel]
          by_cases hm : most ≤ s
          · rw [walkL_halt _ _ _ _ _ _ _ (by omega), if_neg (by have := (sameF_is D j i most).1; omega)]
            exact scanL_full D i most j d s t hm
          · have e : walkL D i most (d + 1) (j : Int) s t = if s < sameF D j i most then walkL D i most d (lastOf D (kd D i) j) (sameF D j i most) (i - j) else walkL D i most d (lastOf D (kd D i) j) s t := by
              conv => lhs; unfold walkL
              rw [if_neg (by omega), Int.toNat_natCast, hk]
            rw [e]
            split
            · exact ih _ _ _ (by omega)
            · exact ih _ _ _ (by omega)
    · have hl : lastOf D (kd D i) (j + 1) = lastOf D (kd D i) j := by conv => lhs; unfold lastOf; rw [if_neg hk]
      rw [hl, if_neg hk]
      by_cases hc : 32768 < i - j ∨ d = 0
      · rw [if_pos hc]
        rcases hc with hc | rfl
        · have hr := lastOf_range D (kd D i) j
          rw [walkL_halt _ _ _ _ _ _ _ (by omega)]
        · rw [walkL_zero]
      · rw [if_neg hc]
        exact ih _ _ _ (by omega)
theorem scan_long (D : List UInt8) (i depth : Nat) (h : i + 3 ≤ D.length) (hd : depth ≤ 32768) : scanL D i (mostAt D i) i depth 0 0 = longL D i depth := by
  rw [scan_walk D i _ i depth 0 0 (Nat.le_refl _)]
  unfold longL
  rw [if_pos h, Nat.min_eq_left hd]
theorem longL_short (D : List UInt8) (i depth : Nat) (h : ¬ i + 3 ≤ D.length) : longL D i depth = (0, 0) := by unfold longL; rw [if_neg h]
end Go.Proofs.YtjfmaebgihlegaaDoor
