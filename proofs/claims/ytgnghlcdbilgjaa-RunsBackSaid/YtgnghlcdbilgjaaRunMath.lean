/-
  Plain mathematics of runs: which runs a list of lengths is told by, how many they are. No program in sight.
-/
namespace Go.Proofs.Ytgnghlcdbilgjaa.Rn

structure RunV where
  sym : Int
  extra : Int
/-- how many lengths a symbol stands for, with nothing more -/
def least (s : Int) : Int := if s = 16 ∨ s = 17 then 3 else if s = 18 then 11 else 1
def sym (n : Int) (t : Nat) : Int := if n ≠ 0 ∧ 3 ≤ t then 16 else if n = 0 ∧ 11 ≤ t then 18 else if n = 0 ∧ 3 ≤ t then 17 else n
def most (n : Int) (t : Nat) : Nat := if n ≠ 0 ∧ 3 ≤ t then 6 else if n = 0 ∧ 11 ≤ t then 138 else if n = 0 ∧ 3 ≤ t then 10 else 1
theorem most_pos (n : Int) (t : Nat) : 1 ≤ most n t := by unfold most; split <;> (try split) <;> (try split) <;> omega
/-- the runs of one length, so many times, with so many rounds at most -/
def repF (n : Int) : Nat → Nat → List RunV
  | 0, _ => []
  | f + 1, t => if t = 0 then [] else ⟨sym n t, (min t (most n t) : Nat) - least (sym n t)⟩ :: repF n f (t - min t (most n t))
theorem repF_more (n : Int) : ∀ f g t, t ≤ f → t ≤ g → repF n f t = repF n g t
  | 0, 0, _, _, _ => rfl
  | 0, g + 1, t, h, _ => by
    obtain rfl : t = 0 := by omega
    simp [repF]
  | f + 1, 0, t, _, h => by
    obtain rfl : t = 0 := by omega
    simp [repF]
  | f + 1, g + 1, t, hf, hg => by
    rw [repF, repF]
    by_cases h0 : t = 0
    · simp [h0]
    · have := most_pos n t
      rw [if_neg h0, if_neg h0, repF_more n f g (t - min t (most n t)) (by omega) (by omega)]
def rep (n : Int) (t : Nat) : List RunV := repF n t t
theorem rep_nil (n : Int) : rep n 0 = [] := rfl
theorem rep_step (n : Int) (t : Nat) (h : 0 < t) : rep n t = ⟨sym n t, (min t (most n t) : Nat) - least (sym n t)⟩ :: rep n (t - min t (most n t)) := by
  unfold rep
  obtain ⟨s, rfl⟩ : ∃ s, t = s + 1 := ⟨t - 1, by omega⟩
  have := most_pos n (s + 1)
  rw [repF, if_neg (by omega), repF_more n s (s + 1 - min (s + 1) (most n (s + 1))) _ (by omega) (Nat.le_refl _)]
/-- the runs of a length that stands so many times in a row -/
def group (n : Int) (t : Nat) : List RunV := if n ≠ 0 then ⟨n, 0⟩ :: rep n (t - 1) else rep n t
/-- equal neighbours together -/
def grp : List Int → List (Int × Nat)
  | [] => []
  | x :: l => match grp l with
    | [] => [(x, 1)]
    | (y, k) :: r => if x = y then (y, k + 1) :: r else (x, 1) :: (y, k) :: r
def pack (l : List Int) : List RunV := (grp l).flatMap fun g => group g.1 g.2
theorem grp_head (x : Int) (l : List Int) : ∃ k r, grp (x :: l) = (x, k + 1) :: r := by
  rw [grp]
  cases h : grp l with
  | nil => exact ⟨0, [], rfl⟩
  | cons g r =>
    obtain ⟨y, k⟩ := g
    by_cases e : x = y
    · subst e; exact ⟨k, r, by simp⟩
    · exact ⟨0, (y, k) :: r, by simp [e]⟩
theorem grp_replicate (x : Int) (rest : List Int) (h : rest.head? ≠ some x) : ∀ k, grp (List.replicate (k + 1) x ++ rest) = (x, k + 1) :: grp rest
  | 0 => by
    show grp (x :: rest) = _
    rw [grp]
    cases rest with
    | nil => rfl
    | cons y r =>
      obtain ⟨k, s, hg⟩ := grp_head y r
      rw [hg]
      have : ¬ x = y := fun e => h (by rw [e]; rfl)
      simp [this]
  | k + 1 => by
    rw [List.replicate_succ, List.cons_append, grp, grp_replicate x rest h k]
    simp
theorem pack_replicate (x : Int) (rest : List Int) (h : rest.head? ≠ some x) (k : Nat) (hk : 1 ≤ k) : pack (List.replicate k x ++ rest) = group x k ++ pack rest := by
  obtain ⟨j, rfl⟩ : ∃ j, k = j + 1 := ⟨k - 1, by omega⟩
  unfold pack
  rw [grp_replicate x rest h j, List.flatMap_cons]
/-- how many runs -/
theorem rep_len_small (n : Int) (t : Nat) (h : t < 3) : (rep n t).length = t := by
  have hm : ∀ s, s < 3 → most n s = 1 := fun s hs => by unfold most; rw [if_neg (by omega), if_neg (by omega), if_neg (by omega)]
  match t, h with
  | 0, _ => rfl
  | 1, _ => rw [rep_step n 1 (by omega), hm 1 (by omega)]; rfl
  | 2, _ => rw [rep_step n 2 (by omega), hm 2 (by omega), List.length_cons, show 2 - min 2 1 = 1 by rfl, rep_step n 1 (by omega), hm 1 (by omega)]; rfl
theorem rep_len_le (n : Int) : ∀ f t, t ≤ f → (rep n t).length ≤ t
  | f, 0, _ => by simp [rep_nil]
  | 0, t + 1, h => by omega
  | f + 1, t + 1, h => by
    have := most_pos n (t + 1)
    rw [rep_step n (t + 1) (by omega), List.length_cons]
    have ih := rep_len_le n f (t + 1 - min (t + 1) (most n (t + 1))) (by omega)
    omega
theorem rep_len_save (n : Int) (t : Nat) (h : 3 ≤ t) : (rep n t).length + 2 ≤ t := by
  have hm : 3 ≤ most n t := by
    unfold most
    by_cases hn : n = 0
    · rw [if_neg (by simp [hn])]
      by_cases h11 : 11 ≤ t
      · rw [if_pos ⟨hn, h11⟩]; omega
      · rw [if_neg (by simp [h11]), if_pos ⟨hn, h⟩]; omega
    · rw [if_pos ⟨hn, h⟩]; omega
  rw [rep_step n t (by omega), List.length_cons]
  have ih := rep_len_le n _ (t - min t (most n t)) (Nat.le_refl _)
  omega
theorem rep_len_succ (n : Int) : ∀ f t, t ≤ f → (rep n (t + 1)).length ≤ (rep n t).length + 1
  | f, t, hf => by
    by_cases h : t + 1 < 3
    · rw [rep_len_small n (t + 1) h, rep_len_small n t (by omega)]; omega
    · have hm1 := most_pos n (t + 1)
      by_cases h2 : t < 3
      · have h3 := rep_len_save n (t + 1) (by omega)
        rw [rep_len_small n t h2]; omega
      · cases f with
        | zero => omega
        | succ f =>
          rw [rep_step n (t + 1) (by omega), rep_step n t (by omega), List.length_cons, List.length_cons]
          have hm : most n t ≤ most n (t + 1) ∧ (most n t = most n (t + 1) ∨ (t = 10 ∧ n = 0)) := by
            unfold most
            by_cases hn : n = 0
            · by_cases ht : 11 ≤ t
              · simp [hn, ht, show 11 ≤ t + 1 by omega]
              · by_cases h10 : t = 10
                · simp [hn, h10]
                · simp [hn, ht, show ¬ 11 ≤ t + 1 by omega, show 3 ≤ t by omega, show 3 ≤ t + 1 by omega]
            · simp [hn, show 3 ≤ t by omega, show 3 ≤ t + 1 by omega]
          rcases hm.2 with he | ⟨h10, hn⟩
          · rw [← he]
            by_cases hle : t < most n t
            · rw [show t + 1 - min (t + 1) (most n t) = 0 by omega]; simp [rep_nil]
            · have hp := most_pos n t
              rw [show t + 1 - min (t + 1) (most n t) = (t - min t (most n t)) + 1 by omega]
              have ih := rep_len_succ n f (t - min t (most n t)) (by omega)
              omega
          · subst h10 hn
            rw [show most 0 (10 + 1) = 138 by rfl, show 10 + 1 - min (10 + 1) 138 = 0 by rfl, rep_nil]; simp
theorem group_len_le (n : Int) (t : Nat) (h : 1 ≤ t) : (group n t).length ≤ t := by
  unfold group
  split
  · rw [List.length_cons]
    have := rep_len_le n _ (t - 1) (Nat.le_refl _)
    omega
  · exact rep_len_le n _ t (Nat.le_refl _)
theorem group_len_succ (n : Int) (t : Nat) (h : 1 ≤ t) : (group n (t + 1)).length ≤ (group n t).length + 1 := by
  unfold group
  split
  · rw [List.length_cons, List.length_cons]
    have := rep_len_succ n _ (t - 1) (Nat.le_refl _)
    rw [show t - 1 + 1 = t by omega] at this
    rw [show t + 1 - 1 = t by omega]; omega
  · exact rep_len_succ n _ t (Nat.le_refl _)
theorem pack_cons_le (x : Int) (l : List Int) : (pack (x :: l)).length ≤ (pack l).length + 1 := by
  unfold pack
  rw [grp]
  cases h : grp l with
  | nil =>
    have := group_len_le x 1 (by omega)
    simp only [List.flatMap_cons, List.flatMap_nil, List.length_append, List.length_nil]
    omega
  | cons g r =>
    obtain ⟨y, k⟩ := g
    by_cases e : x = y
    · subst e
      have hk : 1 ≤ k := by
        cases l with
        | nil => simp [grp] at h
        | cons z l =>
          obtain ⟨j, s, hg⟩ := grp_head z l
          rw [hg] at h
          injection h with h1 h2
          injection h1 with h3 h4
          omega
      have := group_len_succ x k hk
      simp only [if_true, List.flatMap_cons, List.length_append]
      omega
    · have := group_len_le x 1 (by omega)
      simp only [if_neg e, List.flatMap_cons, List.length_append]
      omega
theorem pack_len_le : ∀ l : List Int, (pack l).length ≤ l.length
  | [] => by simp [pack, grp]
  | x :: l => by
    have h1 := pack_cons_le x l
    have h2 := pack_len_le l
    rw [List.length_cons]; omega
theorem head_drop (l : List Int) : (l.dropWhile (· == 0)).head? ≠ some 0 := by
  induction l with
  | nil => simp
  | cons x l ih =>
    by_cases h : x = 0
    · subst h; simpa using ih
    · have hb : (x == 0) = false := by simpa using h
      simp [hb, h]
theorem zeros_front (l : List Int) : ∃ j, l = List.replicate j 0 ++ l.dropWhile (· == 0) := by
  induction l with
  | nil => exact ⟨0, rfl⟩
  | cons x l ih =>
    by_cases h : x = 0
    · subst h
      obtain ⟨j, hj⟩ := ih
      refine ⟨j + 1, ?_⟩
      rw [List.replicate_succ]
      simp only [List.cons_append, List.dropWhile_cons, beq_self_eq_true, if_true]
      rw [← hj]
    · have hb : (x == 0) = false := by simpa using h
      exact ⟨0, by simp [hb]⟩
theorem pack_zeros (n : Nat) (rest : List Int) (hn : 3 ≤ n) : (pack (List.replicate n 0 ++ rest)).length < (List.replicate n (0 : Int) ++ rest).length := by
  obtain ⟨j, hj⟩ := zeros_front rest
  have h1 := pack_replicate 0 (rest.dropWhile (· == 0)) (head_drop rest) (n + j) (by omega)
  have e : List.replicate n (0 : Int) ++ rest = List.replicate (n + j) 0 ++ rest.dropWhile (· == 0) := by
    conv => lhs; rw [hj]
    rw [← List.append_assoc, List.replicate_append_replicate]
  rw [e, h1]
  have h2 : (group 0 (n + j)).length + 2 ≤ n + j := by
    unfold group
    rw [if_neg (by simp)]
    exact rep_len_save 0 (n + j) (by omega)
  have h3 := pack_len_le (rest.dropWhile (· == 0))
  simp only [List.length_append, List.length_replicate]
  omega
theorem pack_front (b l : List Int) (h : (pack l).length < l.length) : (pack (b ++ l)).length < (b ++ l).length := by
  induction b with
  | nil => exact h
  | cons x b ih =>
    have := pack_cons_le x (b ++ l)
    simp only [List.cons_append, List.length_cons] at ih ⊢
    omega
theorem pack_shorter (b : List Int) (n : Nat) (rest : List Int) (hn : 3 ≤ n) : (pack (b ++ List.replicate n 0 ++ rest)).length < (b ++ List.replicate n (0 : Int) ++ rest).length := by
  rw [List.append_assoc]
  exact pack_front b _ (pack_zeros n rest hn)
end Go.Proofs.Ytgnghlcdbilgjaa.Rn
