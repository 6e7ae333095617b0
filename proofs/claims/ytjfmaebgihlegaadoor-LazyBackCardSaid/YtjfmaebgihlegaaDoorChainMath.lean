/-
  chains: the plain mathematics: three bytes, the last place with the same ones, how many bytes are alike, the longest match.
-/
namespace Go.Proofs.YtjfmaebgihlegaaDoor

/-- a byte as a number -/
def bt (D : List UInt8) (i : Nat) : Nat := (D.getD i 0).toNat
theorem bt_lt (D : List UInt8) (i : Nat) : bt D i < 256 := (D.getD i 0).toNat_lt
/-- three bytes -/
def kd (D : List UInt8) (i : Nat) : Nat := bt D i + 256 * bt D (i + 1) + 65536 * bt D (i + 2)
theorem kd_lt (D : List UInt8) (i : Nat) : kd D i < 4294967296 := by
  have := bt_lt D i; have := bt_lt D (i + 1); have := bt_lt D (i + 2); unfold kd; omega
theorem kd_eq {D : List UInt8} {i j : Nat} : kd D i = kd D j ↔ bt D i = bt D j ∧ bt D (i + 1) = bt D (j + 1) ∧ bt D (i + 2) = bt D (j + 2) := by
  have := bt_lt D i; have := bt_lt D (i + 1); have := bt_lt D (i + 2); have := bt_lt D j; have := bt_lt D (j + 1); have := bt_lt D (j + 2)
  unfold kd; omega
/-- the last place below i with these three bytes; -1 -/
def lastOf (D : List UInt8) (k : Nat) : Nat → Int
  | 0 => -1
  | i + 1 => if kd D i = k then (i : Int) else lastOf D k i
theorem lastOf_range (D : List UInt8) (k i : Nat) : -1 ≤ lastOf D k i ∧ lastOf D k i < (i : Int) := by
  induction i with
  | zero => simp [lastOf]
  | succ i ih => unfold lastOf; split <;> omega
theorem lastOf_key (D : List UInt8) (k i j : Nat) (h : lastOf D k i = (j : Int)) : kd D j = k ∧ j < i := by
  induction i with
  | zero => simp [lastOf] at h
  | succ i ih =>
    unfold lastOf at h
    split at h
    · next e => obtain rfl : i = j := by omega
                exact ⟨e, by omega⟩
    · have := ih h; exact ⟨this.1, by omega⟩
theorem lastOf_none (D : List UInt8) (k i j : Nat) (h : lastOf D k i = -1) (hj : j < i) : kd D j ≠ k := by
  induction i with
  | zero => omega
  | succ i ih =>
    unfold lastOf at h
    split at h
    · omega
    · next e =>
      by_cases c : j = i
      · subst c; exact e
      · exact ih h (by omega)
/-- of each place the one before it with the same bytes -/
def priorL (D : List UInt8) (m : Nat) : List Int := (List.range m).map fun i => lastOf D (kd D i) i
theorem len_priorL (D : List UInt8) (m : Nat) : (priorL D m).length = m := by simp [priorL]
theorem priorL_get (D : List UInt8) (m i : Nat) (h : i < m) : (priorL D m)[i]? = some (lastOf D (kd D i) i) := by simp [priorL, h]
theorem priorL_succ (D : List UInt8) (m : Nat) : priorL D (m + 1) = priorL D m ++ [lastOf D (kd D m) m] := by simp [priorL, List.range_succ]
/-- how many bytes from a and b on are alike, at most m -/
def sameF (D : List UInt8) (a b : Nat) : Nat → Nat
  | 0 => 0
  | m + 1 => if sameF D a b m = m ∧ bt D (a + m) = bt D (b + m) then m + 1 else sameF D a b m
theorem sameF_is (D : List UInt8) (a b m : Nat) : sameF D a b m ≤ m ∧ (∀ j, j < sameF D a b m → bt D (a + j) = bt D (b + j)) ∧ (sameF D a b m < m → bt D (a + sameF D a b m) ≠ bt D (b + sameF D a b m)) := by
  induction m with
  | zero => exact ⟨Nat.le_refl _, by simp [sameF], by simp [sameF]⟩
  | succ m ih =>
    obtain ⟨h1, h2, h3⟩ := ih
    unfold sameF
    split
    · next e =>
      refine ⟨Nat.le_refl _, fun j hj => ?_, fun h => by omega⟩
      by_cases c : j = m
      · subst c; exact e.2
      · exact h2 j (by omega)
    · next e =>
      refine ⟨by omega, h2, fun h => ?_⟩
      by_cases c : sameF D a b m = m
      · rw [c]
        exact fun h => e ⟨c, h⟩
      · exact h3 (by omega)
theorem sameF_eq (D : List UInt8) (a b m r : Nat) (h1 : r ≤ m) (h2 : ∀ j, j < r → bt D (a + j) = bt D (b + j)) (h3 : r < m → bt D (a + r) ≠ bt D (b + r)) : sameF D a b m = r := by
  obtain ⟨g1, g2, g3⟩ := sameF_is D a b m
  rcases Nat.lt_trichotomy (sameF D a b m) r with c | c | c
  · exact absurd (h2 _ c) (g3 (by omega))
  · exact c
  · exact absurd (g2 _ c) (h3 (by omega))
theorem sameF_three (D : List UInt8) (a b m : Nat) (hm : 3 ≤ m) : 3 ≤ sameF D a b m ↔ kd D a = kd D b := by
  obtain ⟨g1, g2, g3⟩ := sameF_is D a b m
  rw [kd_eq]
  constructor
  · intro h
    exact ⟨g2 0 (by omega), g2 1 (by omega), g2 2 (by omega)⟩
  · rintro ⟨e0, e1, e2⟩
    rcases Nat.lt_or_ge (sameF D a b m) 3 with c | c
    · exfalso
      have : sameF D a b m = 0 ∨ sameF D a b m = 1 ∨ sameF D a b m = 2 := by omega
      rcases this with z | z | z
      · rw [z] at g3; exact absurd e0 (g3 (by omega))
      · rw [z] at g3; exact absurd e1 (g3 (by omega))
      · rw [z] at g3; exact absurd e2 (g3 (by omega))
    · exact c
/-- the longest match along the chain: places, at most d of them, from p on -/
def walkL (D : List UInt8) (i most : Nat) : Nat → Int → Nat → Nat → Nat × Nat
  | 0, _, s, t => (s, t)
  | d + 1, p, s, t => if p < 0 ∨ 32768 < (i : Int) - p ∨ most ≤ s then (s, t) else
      if s < sameF D p.toNat i most then walkL D i most d (lastOf D (kd D p.toNat) p.toNat) (sameF D p.toNat i most) (i - p.toNat)
      else walkL D i most d (lastOf D (kd D p.toNat) p.toNat) s t
def mostAt (D : List UInt8) (i : Nat) : Nat := min 258 (D.length - i)
/-- what Longest tells -/
def longL (D : List UInt8) (i : Nat) (depth : Nat) : Nat × Nat :=
  if i + 3 ≤ D.length then walkL D i (mostAt D i) (min depth 32768) (lastOf D (kd D i) i) 0 0 else (0, 0)
/-- a match is one -/
def Match (D : List UInt8) (i s t : Nat) : Prop := (s = 0 ∧ t = 0) ∨ (3 ≤ s ∧ s ≤ mostAt D i ∧ 1 ≤ t ∧ t ≤ i ∧ t ≤ 32768 ∧ ∀ j, j < s → bt D (i - t + j) = bt D (i + j))
theorem walkL_match (D : List UInt8) (i : Nat) (hi : 3 ≤ mostAt D i) (d : Nat) (p : Int) (s t : Nat) (hp : p < (i : Int)) (hk : 0 ≤ p → kd D p.toNat = kd D i) (h : Match D i s t) : Match D i (walkL D i (mostAt D i) d p s t).1 (walkL D i (mostAt D i) d p s t).2 := by
  induction d generalizing p s t with
  | zero => exact h
  | succ d ih =>
    unfold walkL
    split
    · exact h
    · next hc =>
      have hp0 : 0 ≤ p := by omega
      obtain ⟨q, rfl⟩ := Int.eq_ofNat_of_zero_le hp0
      rw [Int.toNat_natCast] at *
      have hkq := hk hp0
      have hr := lastOf_range D (kd D q) q
      have hnext : lastOf D (kd D q) q < (i : Int) := by omega
      have hkn : 0 ≤ lastOf D (kd D q) q → kd D (lastOf D (kd D q) q).toNat = kd D i := fun h0 => by
        obtain ⟨z, hz⟩ := Int.eq_ofNat_of_zero_le h0
        rw [hz, Int.toNat_natCast]
        exact (lastOf_key D _ _ _ hz).1.trans hkq
      obtain ⟨g1, g2, g3⟩ := sameF_is D q i (mostAt D i)
      split
      · refine ih _ _ _ hnext hkn (.inr ⟨(sameF_three D q i _ hi).2 hkq, g1, by omega, by omega, by omega, fun j hj => ?_⟩)
        rw [show i - (i - q) = q by omega]
        exact g2 j hj
      · exact ih _ _ _ hnext hkn h
theorem walkL_ge (D : List UInt8) (i most : Nat) (d : Nat) (p : Int) (s t : Nat) : s ≤ (walkL D i most d p s t).1 := by
  induction d generalizing p s t with
  | zero => exact Nat.le_refl _
  | succ d ih =>
    unfold walkL
    split
    · exact Nat.le_refl _
    · split
      · exact Nat.le_trans (by omega) (ih _ _ _)
      · exact ih _ _ _
theorem longL_match (D : List UInt8) (i depth : Nat) : Match D i (longL D i depth).1 (longL D i depth).2 := by
  unfold longL
  split
  · next h =>
    have hr := lastOf_range D (kd D i) i
    refine walkL_match D i (by unfold mostAt; omega) _ _ 0 0 hr.2 (fun h0 => ?_) (.inl ⟨rfl, rfl⟩)
    obtain ⟨z, hz⟩ := Int.eq_ofNat_of_zero_le h0
    rw [hz, Int.toNat_natCast]
    exact (lastOf_key D _ _ _ hz).1
  · exact .inl ⟨rfl, rfl⟩
/-- nothing is missed of the place just ahead -/
theorem longL_none (D : List UInt8) (i depth : Nat) (h : (longL D i depth).1 = 0) : depth = 0 ∨ i = 0 ∨ D.length < i + 3 ∨ sameF D (i - 1) i 3 < 3 := by
  by_cases h0 : depth = 0
  · exact .inl h0
  by_cases h1 : i = 0
  · exact .inr (.inl h1)
  by_cases h2 : D.length < i + 3
  · exact .inr (.inr (.inl h2))
  right; right; right
  rcases Nat.lt_or_ge (sameF D (i - 1) i 3) 3 with c | c
  · exact c
  · exfalso
    have hk := (sameF_three D (i - 1) i 3 (Nat.le_refl _)).1 c
    have hl : lastOf D (kd D i) i = ((i - 1 : Nat) : Int) := by
      obtain ⟨j, rfl⟩ : ∃ j, i = j + 1 := ⟨i - 1, by omega⟩
      rw [Nat.add_sub_cancel] at hk ⊢
      unfold lastOf
      rw [if_pos hk]
    unfold longL at h
    rw [if_pos (by omega), hl] at h
    obtain ⟨d, hd⟩ : ∃ d, min depth 32768 = d + 1 := ⟨min depth 32768 - 1, by omega⟩
    rw [hd] at h
    unfold walkL at h
    rw [Int.toNat_natCast, if_neg (by unfold mostAt; omega)] at h
    have h3 : 3 ≤ sameF D (i - 1) i (mostAt D i) := (sameF_three D (i - 1) i _ (by unfold mostAt; omega)).2 hk
    rw [if_pos (by omega)] at h
    have := walkL_ge D i (mostAt D i) d (lastOf D (kd D (i - 1)) (i - 1)) (sameF D (i - 1) i (mostAt D i)) (i - (i - 1))
    omega
theorem bt_get {D : List UInt8} {i : Nat} (h : i < D.length) : bt D i = D[i].toNat := by unfold bt; rw [List.getD_eq_getElem?_getD, List.getElem?_eq_getElem h]; rfl
end Go.Proofs.YtjfmaebgihlegaaDoor
