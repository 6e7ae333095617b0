/-
  decode: the plain mathematics: which symbol bits begin with.
-/
import Derived.Test.YtdmmlpioaiammaaDoorPrefixMath
import Derived.Test.YtdmmlpioaiammaaDoorRefMath08
namespace Go.Proofs.YtdmmlpioaiammaaDoor

/-- the first n bits, the first one highest -/
def cv (L : List Bool) (n : Nat) : Nat := Bit.num (L.take n).reverse
theorem cv_zero (L : List Bool) : cv L 0 = 0 := by simp [cv, Bit.num]
theorem cv_succ (L : List Bool) (n : Nat) (h : n < L.length) : cv L (n + 1) = 2 * cv L n + L[n].toNat := by
  unfold cv
  rw [List.take_succ_eq_append_getElem h, List.reverse_append]
  simp only [List.reverse_cons, List.reverse_nil, List.nil_append, List.cons_append, Bit.num]
  omega
theorem cv_lt (L : List Bool) (n : Nat) (h : n ≤ L.length) : cv L n < 2 ^ n := by
  have := Bit.num_lt (L.take n).reverse
  rwa [List.length_reverse, List.length_take, Nat.min_eq_left h] at this
theorem cv_div (L : List Bool) (m d : Nat) (h : m + d ≤ L.length) : cv L m = cv L (m + d) / 2 ^ d := by
  induction d with
  | zero => simp
  | succ d ih =>
    rw [ih (by omega), ← Nat.add_assoc, cv_succ L (m + d) (by omega), Nat.pow_succ, Nat.mul_comm (2 ^ d) 2, ← Nat.div_div_eq_div_mul]
    congr 1
    have : (L[m + d]'(by omega)).toNat ≤ 1 := by cases L[m + d]'(by omega) <;> decide
    omega
/-- the next bit off a number -/
theorem num_take_cons (L : List Bool) (k n : Nat) (h : k < n) (hl : k < L.length) : Bit.num ((L.drop k).take (n - k)) = L[k].toNat + 2 * Bit.num ((L.drop (k + 1)).take (n - (k + 1))) := by
  rw [List.drop_eq_getElem_cons hl, show n - k = (n - (k + 1)) + 1 by omega, List.take_succ_cons]
  rfl
/-- bits that are a code's -/
theorem cv_code (L : List Bool) (n c : Nat) (h : n ≤ L.length) (hc : c < 2 ^ n) : cv L n = c ↔ L.take n = Bit.bitsN n (Bit.rev n c) := by
  have hl : (L.take n).length = n := by rw [List.length_take]; omega
  constructor
  · intro e
    have h1 := Bit.bitsN_num (L.take n).reverse
    rw [List.length_reverse, hl] at h1
    have h2 : Bit.num (L.take n) = Bit.rev n c := by
      rw [← e]
      unfold Bit.rev cv
      rw [h1, List.reverse_reverse]
    have h3 := Bit.bitsN_num (L.take n)
    rw [hl, h2] at h3
    exact h3.symm
  · intro e
    unfold cv
    rw [e]
    have := Bit.rev_rev n c
    rw [Nat.mod_eq_of_lt hc] at this
    unfold Bit.rev at this ⊢
    have h1 := Bit.bitsN_num (Bit.bitsN n c).reverse
    rw [List.length_reverse, Bit.length_bitsN] at h1
    rw [h1, List.reverse_reverse, Bit.num_bitsN, Nat.mod_eq_of_lt hc]

/-- the greatest of all -/
def mxOf (l : List Int) : Int := l.foldl max 0
theorem mx_snoc (l : List Int) (x : Int) : mxOf (l ++ [x]) = max (mxOf l) x := by simp [mxOf, List.foldl_append]
theorem mx_ge' (l : List Int) (a : Int) : a ≤ l.foldl max a ∧ ∀ x ∈ l, x ≤ l.foldl max a := by
  induction l generalizing a with
  | nil => exact ⟨Int.le_refl _, by simp⟩
  | cons y l ih =>
    obtain ⟨h1, h2⟩ := ih (max a y)
    rw [List.foldl_cons]
    refine ⟨by omega, fun x hx => ?_⟩
    rcases List.mem_cons.1 hx with rfl | hx
    · omega
    · exact h2 x hx
theorem mx_ge (l : List Int) {x : Int} (h : x ∈ l) : x ≤ mxOf l := (mx_ge' l 0).2 x h
theorem mx_nn (l : List Int) : 0 ≤ mxOf l := (mx_ge' l 0).1
theorem mx_mem' (l : List Int) (a : Int) : l.foldl max a = a ∨ l.foldl max a ∈ l := by
  induction l generalizing a with
  | nil => exact .inl rfl
  | cons y l ih =>
    rw [List.foldl_cons]
    rcases ih (max a y) with h | h
    · by_cases c : a ≤ y
      · rw [h, show max a y = y by omega]; exact .inr (by simp)
      · rw [h, show max a y = a by omega]; exact .inl rfl
    · exact .inr (List.mem_cons_of_mem _ h)
theorem mx_mem (l : List Int) : mxOf l = 0 ∨ mxOf l ∈ l := mx_mem' l 0
theorem right_mem {l : List Int} (h : rightB l = true) {x : Int} (hx : x ∈ l) : 0 ≤ x ∧ x ≤ 15 := by
  have := List.all_eq_true.1 h x hx
  simpa using this
theorem mx_le {l : List Int} (h : rightB l = true) : mxOf l ≤ 15 := by
  rcases mx_mem l with e | e
  · omega
  · exact (right_mem h e).2

/-- bits begin with the code of symbol s, of n bits -/
def Hit (l : List Int) (L : List Bool) (s n : Nat) : Prop := s < l.length ∧ l.getD s 0 = (n : Int) ∧ 1 ≤ n ∧ n ≤ 15 ∧ n ≤ L.length ∧ cv L n = plainCode l s n
/-- no code of up to m bits fits -/
def NoHit (l : List Int) (L : List Bool) (m : Nat) : Prop := ∀ k, 1 ≤ k → k ≤ m → nx l k + l.count (k : Int) ≤ cv L k
theorem NoHit.mono {l : List Int} {L : List Bool} {m k : Nat} (h : NoHit l L m) (hk : k ≤ m) : NoHit l L k := fun j h1 h2 => h j h1 (by omega)
theorem Hit.before {l : List Int} {L : List Bool} {s n : Nat} (h : Hit l L s n) : NoHit l L (n - 1) := by
  obtain ⟨h1, h2, h3, h4, h5, h6⟩ := h
  intro k k1 k2
  have hd := cv_div L k (n - k) (by omega)
  rw [show k + (n - k) = n by omega, h6] at hd
  rw [hd, Nat.le_div_iff_mul_le (Nat.two_pow_pos _)]
  have := nx_mono l k (n - k - 1) k1
  rw [show n - k - 1 + 1 = n - k by omega, show k + (n - k - 1) + 1 = n by omega] at this
  unfold plainCode
  omega
theorem getD_l {l : List Int} {s n : Nat} (hs : s < l.length) (h : l.getD s 0 = (n : Int)) : l[s] = (n : Int) := by rw [← getD_of hs]; exact h
theorem Hit.here {l : List Int} {L : List Bool} {s n : Nat} (h : Hit l L s n) (hsum : psum l 15 ≤ 32768) : cv L n < nx l n + l.count (n : Int) := by
  obtain ⟨h1, h2, h3, h4, h5, h6⟩ := h
  rw [h6]
  exact (plain_lt l hsum s n h1 (getD_l h1 h2) h3 h4).1
theorem Hit.place {l : List Int} {L : List Bool} {s n : Nat} (h : Hit l L s n) : nx l n ≤ cv L n ∧ (srt l 15)[pcnt l (n - 1) + cv L n - nx l n]? = some s := by
  obtain ⟨h1, h2, h3, h4, h5, h6⟩ := h
  rw [h6]
  unfold plainCode
  refine ⟨by omega, ?_⟩
  rw [show pcnt l (n - 1) + (nx l n + (l.take s).count (n : Int)) - nx l n = pcnt l (n - 1) + (l.take s).count (n : Int) by omega]
  exact srt_at l 15 n s h1 h2 h3 h4
/-- a hit where the number is below -/
theorem hit_of {l : List Int} {L : List Bool} {n : Nat} (h1 : 1 ≤ n) (h2 : n ≤ 15) (hl : n ≤ L.length) (hb : NoHit l L (n - 1)) (h : cv L n < nx l n + l.count (n : Int)) : ∃ s, Hit l L s n := by
  have hge : nx l n ≤ cv L n := by
    rcases Nat.lt_or_ge 1 n with hn | hn
    · have a := hb (n - 1) (by omega) (by omega)
      have b := cv_succ L (n - 1) (by omega)
      rw [show n - 1 + 1 = n by omega] at b
      have c := nx_succ l (n - 1) (by omega)
      rw [show n - 1 + 1 = n by omega] at c
      rw [b, c]
      omega
    · obtain rfl : n = 1 := by omega
      simp [nx]
  obtain ⟨s, s1, s2, s3⟩ := count_at l n (cv L n - nx l n) l.length (Nat.le_refl _) (by rw [List.take_length]; omega)
  exact ⟨s, s1, s2, h1, h2, hl, by unfold plainCode; rw [s3]; omega⟩
/-- each number below the sum is within a code -/
theorem covered (l : List Int) (P : Nat) (m : Nat) (hm : m ≤ 15) (h : P < psum l m) : ∃ s n : Nat, s < l.length ∧ l.getD s 0 = (n : Int) ∧ 1 ≤ n ∧ n ≤ 15 ∧ P / 2 ^ (15 - n) = plainCode l s n := by
  induction m with
  | zero => simp [psum] at h
  | succ m ih =>
    by_cases c : P < psum l m
    · exact ih (by omega) c
    · have e1 : psum l (m + 1) = psum l m + l.count ((m + 1 : Nat) : Int) * 2 ^ (15 - (m + 1)) := rfl
      have e2 := nx_psum l m hm
      have hz := Nat.two_pow_pos (15 - (m + 1))
      have hq : P / 2 ^ (15 - (m + 1)) < nx l (m + 1) + l.count ((m + 1 : Nat) : Int) := by
        rw [Nat.div_lt_iff_lt_mul hz, Nat.add_mul]
        omega
      have hq2 : nx l (m + 1) ≤ P / 2 ^ (15 - (m + 1)) := by
        rw [Nat.le_div_iff_mul_le hz]; omega
      obtain ⟨s, s1, s2, s3⟩ := count_at l (m + 1) (P / 2 ^ (15 - (m + 1)) - nx l (m + 1)) l.length (Nat.le_refl _) (by rw [List.take_length]; omega)
      exact ⟨s, m + 1, s1, s2, by omega, hm, by unfold plainCode; rw [s3]; omega⟩
/-- in a complete set all that fits no code is the beginning of one -/
theorem short_of {l : List Int} {L : List Bool} (hs : psum l 15 = 32768) (hL : L.length ≤ 15) (hn : NoHit l L L.length) : ∃ s n : Nat, s < l.length ∧ l.getD s 0 = (n : Int) ∧ 1 ≤ n ∧ n ≤ 15 ∧ L.length < n ∧ plainCode l s n / 2 ^ (n - L.length) = cv L L.length := by
  have hlt := cv_lt L L.length (Nat.le_refl _)
  have hP : cv L L.length * 2 ^ (15 - L.length) < psum l 15 := by
    rw [hs]
    have := Nat.mul_lt_mul_of_pos_right hlt (Nat.two_pow_pos (15 - L.length))
    rw [← Nat.pow_add, show L.length + (15 - L.length) = 15 by omega] at this
    exact this
  obtain ⟨s, n, h1, h2, h3, h4, h5⟩ := covered l _ 15 (by omega) hP
  rcases Nat.lt_or_ge L.length n with c | c
  · refine ⟨s, n, h1, h2, h3, h4, c, ?_⟩
    rw [← h5, Nat.div_div_eq_div_mul, ← Nat.pow_add, show 15 - n + (n - L.length) = 15 - L.length by omega, Nat.mul_div_cancel _ (Nat.two_pow_pos _)]
  · exfalso
    have a := hn n h3 c
    have b := cv_div L n (L.length - n) (by omega)
    rw [show n + (L.length - n) = L.length by omega] at b
    have d : cv L L.length * 2 ^ (15 - L.length) / 2 ^ (15 - n) = cv L L.length / 2 ^ (L.length - n) := by
      rw [show 15 - n = (15 - L.length) + (L.length - n) by omega, Nat.pow_add, ← Nat.div_div_eq_div_mul, Nat.mul_div_cancel _ (Nat.two_pow_pos _)]
    rw [d, ← b] at h5
    have e := (plain_lt l (by omega) s n h1 (getD_l h1 h2) h3 h4).1
    omega
/-- one of three -/
theorem next_three (l : List Int) (L : List Bool) (hr : rightB l = true) (M : Nat) (hM : mxOf l = (M : Int)) : (∃ s n, Hit l L s n) ∨ (L.length < M ∧ NoHit l L L.length) ∨ (M ≤ L.length ∧ NoHit l L M) := by
  have hM15 : M ≤ 15 := by have := mx_le hr; omega
  have key : ∀ k, k ≤ M → k ≤ L.length → (∃ s n, Hit l L s n) ∨ NoHit l L k := by
    intro k
    induction k with
    | zero => intro _ _; exact .inr (fun j h1 h2 => by omega)
    | succ k ih =>
      intro h1 h2
      rcases ih (by omega) (by omega) with h | h
      · exact .inl h
      · by_cases c : cv L (k + 1) < nx l (k + 1) + l.count ((k + 1 : Nat) : Int)
        · obtain ⟨s, hs⟩ := hit_of (n := k + 1) (by omega) (by omega) h2 h c
          exact .inl ⟨s, _, hs⟩
        · refine .inr (fun j h3 h4 => ?_)
          by_cases e : j = k + 1
          · subst e; omega
          · exact h j h3 (by omega)
  rcases Nat.lt_or_ge L.length M with c | c
  · rcases key L.length (by omega) (Nat.le_refl _) with h | h
    · exact .inl h
    · exact .inr (.inl ⟨c, h⟩)
  · rcases key M (Nat.le_refl _) c with h | h
    · exact .inl h
    · exact .inr (.inr ⟨c, h⟩)
theorem Hit.le_mx {l : List Int} {L : List Bool} {s n : Nat} (h : Hit l L s n) (M : Nat) (hM : mxOf l = (M : Int)) : n ≤ M := by
  have := mx_ge l (List.getElem_mem h.1)
  rw [getD_l h.1 h.2.1] at this
  omega
theorem Hit.unique {l : List Int} {L : List Bool} {s n t m : Nat} (hsum : psum l 15 ≤ 32768) (h : Hit l L s n) (g : Hit l L t m) : s = t ∧ n = m := by
  have hnm : n = m := by
    rcases Nat.lt_trichotomy n m with c | c | c
    · have a := g.before n h.2.2.1 (by omega)
      have b := h.here hsum
      omega
    · exact c
    · have a := h.before m g.2.2.1 (by omega)
      have b := g.here hsum
      omega
  subst hnm
  obtain ⟨_, a⟩ := h.place
  obtain ⟨_, b⟩ := g.place
  rw [a] at b
  injection b with b
  exact ⟨b, rfl⟩
end Go.Proofs.YtdmmlpioaiammaaDoor
