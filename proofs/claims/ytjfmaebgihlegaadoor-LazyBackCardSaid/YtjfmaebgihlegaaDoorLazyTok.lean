/-
  lazy: the tokens of a text, plain: what is decided at each place; the tokens stand for the text.
-/
import Derived.Test.YtjfmaebgihlegaaDoorLazyMath
import Derived.Test.YtjfmaebgihlegaaDoorTokMath
namespace Go.Proofs.YtjfmaebgihlegaaDoor

/-- how carefully -/
structure CareV where
  dep : Nat
  wait : Bool
  good : Nat
def lzWait (D : List UInt8) (c : CareV) (i : Nat) : Bool := c.wait && decide (3 ≤ (longL D i c.dep).1) && decide ((longL D i c.dep).1 < c.good) && decide ((longL D i c.dep).1 < (longL D (i + 1) c.dep).1)
def lzHit (D : List UInt8) (c : CareV) (i : Nat) : Bool := !lzWait D c i && decide (3 ≤ (longL D i c.dep).1)
def lzTok (D : List UInt8) (c : CareV) (i : Nat) : TokV := if lzHit D c i then ⟨0, ((longL D i c.dep).1 : Int), ((longL D i c.dep).2 : Int)⟩ else ⟨D.getD i 0, 0, 0⟩
def lzStep (D : List UInt8) (c : CareV) (i : Nat) : Nat := if lzHit D c i then (longL D i c.dep).1 else 1
def lzF (D : List UInt8) (c : CareV) : Nat → Nat → List TokV
  | 0, _ => []
  | n + 1, i => if i < D.length then lzTok D c i :: lzF D c n (i + lzStep D c i) else []
theorem lzF_end (D : List UInt8) (c : CareV) (n i : Nat) (h : D.length ≤ i) : lzF D c n i = [] := by
  cases n with
  | zero => rfl
  | succ n => unfold lzF; rw [if_neg (by omega)]
theorem lzF_succ (D : List UInt8) (c : CareV) (n i : Nat) (h : i < D.length) : lzF D c (n + 1) i = lzTok D c i :: lzF D c n (i + lzStep D c i) := by
  conv => lhs; unfold lzF
  rw [if_pos h]
theorem longL_fits (D : List UInt8) (i dep : Nat) : (longL D i dep).1 = 0 ∨ (i + (longL D i dep).1 ≤ D.length ∧ (longL D i dep).1 ≤ 258) := by
  rcases longL_match D i dep with ⟨h, _⟩ | ⟨_, h, _⟩
  · exact .inl h
  · right
    have : 0 < (longL D i dep).1 := by omega
    unfold mostAt at h; omega
theorem lzStep_ge (D : List UInt8) (c : CareV) (i : Nat) : 1 ≤ lzStep D c i := by
  unfold lzStep lzHit
  split
  · next h => simp only [Bool.and_eq_true, decide_eq_true_eq] at h; omega
  · omega
theorem lzStep_le (D : List UInt8) (c : CareV) (i : Nat) (h : i < D.length) : i + lzStep D c i ≤ D.length := by
  unfold lzStep lzHit
  split
  · next h1 => simp only [Bool.and_eq_true, decide_eq_true_eq] at h1; have := longL_fits D i c.dep; omega
  · omega
theorem len_lzF (D : List UInt8) (c : CareV) (n i : Nat) : (lzF D c n i).length ≤ D.length - i := by
  induction n generalizing i with
  | zero => exact Nat.zero_le _
  | succ n ih =>
    by_cases h : i < D.length
    · rw [lzF_succ D c n i h, List.length_cons]
      have h1 := ih (i + lzStep D c i)
      have h2 := lzStep_ge D c i
      omega
    · rw [lzF_end D c _ i (by omega)]; exact Nat.zero_le _
/-- the ways of a round -/
theorem lz_wait {D : List UInt8} {c : CareV} {i : Nat} (h1 : c.wait = true) (h2 : 3 ≤ (longL D i c.dep).1) (h3 : (longL D i c.dep).1 < c.good) (h4 : (longL D i c.dep).1 < (longL D (i + 1) c.dep).1) : lzTok D c i = ⟨D.getD i 0, 0, 0⟩ ∧ lzStep D c i = 1 := by
  have h : lzHit D c i = false := by unfold lzHit lzWait; simp [h1, h2, h3, h4]
  constructor
  · unfold lzTok; rw [h]; rfl
  · unfold lzStep; rw [h]; rfl
theorem lz_lit {D : List UInt8} {c : CareV} {i : Nat} (h2 : ¬ 3 ≤ (longL D i c.dep).1) : lzTok D c i = ⟨D.getD i 0, 0, 0⟩ ∧ lzStep D c i = 1 := by
  have h : lzHit D c i = false := by unfold lzHit; simp [h2]
  constructor
  · unfold lzTok; rw [h]; rfl
  · unfold lzStep; rw [h]; rfl
theorem lz_hit {D : List UInt8} {c : CareV} {i : Nat} (h2 : 3 ≤ (longL D i c.dep).1) (h : ¬ (c.wait = true ∧ (longL D i c.dep).1 < c.good ∧ (longL D i c.dep).1 < (longL D (i + 1) c.dep).1)) : lzTok D c i = ⟨0, ((longL D i c.dep).1 : Int), ((longL D i c.dep).2 : Int)⟩ ∧ lzStep D c i = (longL D i c.dep).1 := by
  have h : lzHit D c i = true := by
    unfold lzHit lzWait
    simp only [Bool.and_eq_true, Bool.not_eq_true', decide_eq_true_eq]
    refine ⟨?_, h2⟩
    rw [← Bool.not_eq_true]
    intro hh
    simp only [Bool.and_eq_true, decide_eq_true_eq] at hh
    exact h ⟨hh.1.1.1, hh.1.2, hh.2⟩
  constructor
  · unfold lzTok; rw [if_pos h]
  · unfold lzStep; rw [if_pos h]

/-- each may be -/
theorem lzTok_right (D : List UInt8) (c : CareV) (i : Nat) : Tok.right (lzTok D c i) = true ∧ Tok.size (lzTok D c i) = lzStep D c i := by
  unfold lzTok lzStep
  by_cases h : lzHit D c i = true
  · rw [if_pos h, if_pos h]
    have h3 : 3 ≤ (longL D i c.dep).1 := by unfold lzHit at h; simp at h; exact h.2
    rcases longL_match D i c.dep with ⟨h0, _⟩ | ⟨m1, m2, m3, m4, m5, m6⟩
    · omega
    have hm : mostAt D i ≤ 258 := by unfold mostAt; omega
    have hr : Tok.right ⟨0, ((longL D i c.dep).1 : Int), ((longL D i c.dep).2 : Int)⟩ = true := by
      unfold Tok.right
      rw [if_neg (by show ¬ ((longL D i c.dep).1 : Int) = 0; omega)]
      simp only [Bool.and_eq_true, decide_eq_true_eq, beq_iff_eq]
      refine ⟨⟨⟨⟨rfl, by omega⟩, by omega⟩, by omega⟩, by omega⟩
    refine ⟨hr, ?_⟩
    unfold Tok.size
    rw [if_pos hr, if_neg (by show ¬ ((longL D i c.dep).1 : Int) = 0; omega)]
    rfl
  · rw [if_neg h, if_neg h]
    exact ⟨rfl, rfl⟩
theorem lzF_sizes (D : List UInt8) (c : CareV) (n i : Nat) (hn : D.length ≤ i + n) (hi : i ≤ D.length) : Tok.sizes (lzF D c n i) = D.length - i := by
  induction n generalizing i with
  | zero => have : i = D.length := by omega
            subst this; simp [lzF, Tok.sizes]
  | succ n ih =>
    by_cases h : i < D.length
    · rw [lzF_succ D c n i h]
      have h1 := lzStep_ge D c i
      have h2 := lzStep_le D c i h
      have h3 := ih (i + lzStep D c i) (by omega) h2
      unfold Tok.sizes at h3 ⊢
      rw [List.map_cons, List.sum_cons, h3, (lzTok_right D c i).2]
      omega
    · rw [lzF_end D c _ i (by omega)]
      simp [Tok.sizes]; omega
theorem take_snocD (D : List UInt8) (i : Nat) (h : i < D.length) : D.take i ++ [D.getD i 0] = D.take (i + 1) := by
  rw [List.take_succ_eq_append_getElem h, List.getD_eq_getElem?_getD, List.getElem?_eq_getElem h]; rfl
theorem copyN_take (D : List UInt8) (i t s : Nat) (ht : 1 ≤ t) (hti : t ≤ i) (hs : i + s ≤ D.length) (h : ∀ j, j < s → bt D (i - t + j) = bt D (i + j)) : Tok.copyN (D.take i) t s = D.take (i + s) := by
  induction s with
  | zero => rfl
  | succ s ih =>
    have hi := ih (by omega) (fun j hj => h j (by omega))
    rw [Tok.copyN, hi, List.length_take, Nat.min_eq_left (by omega)]
    have e : (D.take (i + s)).getD (i + s - t) 0 = D.getD (i + s) 0 := by
      have h1 := h s (by omega)
      unfold bt at h1
      have h2 := UInt8.toNat_inj.1 h1
      rw [← h2, List.getD_eq_getElem?_getD, List.getElem?_take, if_pos (by omega), ← List.getD_eq_getElem?_getD]
      congr 1
      omega
    rw [e]
    exact take_snocD D (i + s) (by omega)
/-- the tokens stand for the text -/
theorem go_lzF (D : List UInt8) (c : CareV) (n i : Nat) (hn : D.length ≤ i + n) (hi : i ≤ D.length) : Tok.go (D.take i) (lzF D c n i) = (0, D) := by
  induction n generalizing i with
  | zero => have : i = D.length := by omega
            subst this; simp [lzF, Tok.go]
  | succ n ih =>
    by_cases h : i < D.length
    · rw [lzF_succ D c n i h]
      have h1 := lzStep_ge D c i
      have h2 := lzStep_le D c i h
      have h3 := ih (i + lzStep D c i) (by omega) h2
      obtain ⟨r1, r2⟩ := lzTok_right D c i
      rw [Tok.go, if_neg (by rw [r1]; simp)]
      by_cases hh : lzHit D c i = true
      · have h4 : 3 ≤ (longL D i c.dep).1 := by unfold lzHit at hh; simp at hh; exact hh.2
        have e1 : lzTok D c i = ⟨0, ((longL D i c.dep).1 : Int), ((longL D i c.dep).2 : Int)⟩ := by unfold lzTok; rw [if_pos hh]
        have e2 : lzStep D c i = (longL D i c.dep).1 := by unfold lzStep; rw [if_pos hh]
        rw [e2] at h3 h2
        rcases longL_match D i c.dep with ⟨h0, _⟩ | ⟨m1, m2, m3, m4, m5, m6⟩
        · omega
        rw [e1, e2]
        show (if ((longL D i c.dep).1 : Int) = 0 then _ else if _ then _ else _) = _
        rw [if_neg (by omega), if_neg (by simp only [List.length_take]; omega)]
        simp only [Int.toNat_natCast]
        rw [copyN_take D i _ _ m3 m4 h2 m6]
        exact h3
      · have e1 : lzTok D c i = ⟨D.getD i 0, 0, 0⟩ := by unfold lzTok; rw [if_neg hh]
        have e2 : lzStep D c i = 1 := by unfold lzStep; rw [if_neg hh]
        rw [e2] at h3
        rw [e1, e2, if_pos rfl, take_snocD D i h]
        exact h3
    · rw [lzF_end D c _ i (by omega)]
      have : i = D.length := by omega
      subst this; simp [Tok.go]
end Go.Proofs.YtjfmaebgihlegaaDoor
