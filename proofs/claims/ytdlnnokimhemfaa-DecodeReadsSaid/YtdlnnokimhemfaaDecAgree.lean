/-
  decode: the document's Next, plain, and that it agrees.
-/
import Derived.Test.YtdlnnokimhemfaaDecHit
namespace Go.Proofs.Ytdlnnokimhemfaa

/-- the bits of a symbol -/
def symBits (l : List Int) (s : Nat) : List Bool := Bit.bitsN (l.getD s 0).toNat (codeAt l s)
/-- are bits the beginning of others -/
def begB (c L : List Bool) : Bool := decide (L.take c.length = c)
theorem sym_eq (l : List Int) (s n : Nat) (h1 : s < l.length) (h2 : 1 ≤ n) (h4 : l.getD s 0 = (n : Int)) : symBits l s = Bit.bitsN n (Bit.rev n (plainCode l s n)) := by
  unfold symBits
  rw [h4, Int.toNat_natCast, codeAt_eq l s n h1 (getD_l h1 h4) h2]
  rfl
theorem len_sym (l : List Int) (s n : Nat) (h4 : l.getD s 0 = (n : Int)) : (symBits l s).length = n := by
  unfold symBits; rw [h4, Int.toNat_natCast, Bit.length_bitsN]
theorem beg_hit (l : List Int) (hsum : psum l 15 ≤ 32768) (L : List Bool) (s n : Nat) (h1 : s < l.length) (h2 : 1 ≤ n) (h3 : n ≤ 15) (h4 : l.getD s 0 = (n : Int)) : begB (symBits l s) L = true ↔ Hit l L s n := by
  have hp := plain_lt l hsum s n h1 (getD_l h1 h4) h2 h3
  unfold begB
  rw [decide_eq_true_eq, len_sym l s n h4, sym_eq l s n h1 h2 h4]
  constructor
  · intro h
    have hl := congrArg List.length h
    rw [List.length_take, Bit.length_bitsN] at hl
    exact ⟨h1, h4, h2, h3, by omega, (cv_code L n _ (by omega) hp.2).2 h⟩
  · rintro ⟨_, _, _, _, h5, h6⟩
    exact (cv_code L n _ h5 hp.2).1 h6
namespace Bit
theorem bitsN_mod (j v : Nat) : bitsN j (v % 2 ^ j) = bitsN j v := by
  have h := bitsN_num (bitsN j v)
  rw [length_bitsN, num_bitsN] at h
  exact h
end Bit
/-- a beginning of a code's bits -/
theorem beg_short (l : List Int) (L : List Bool) (s n : Nat) (h1 : s < l.length) (h2 : 1 ≤ n) (h4 : l.getD s 0 = (n : Int)) (hn : L.length ≤ n) (h : plainCode l s n / 2 ^ (n - L.length) = cv L L.length) : begB L (symBits l s) = true := by
  unfold begB
  rw [decide_eq_true_eq, sym_eq l s n h1 h2 h4]
  have e : n = L.length + (n - L.length) := by omega
  conv => lhs; rw [e, Bit.bitsN_append]
  rw [List.take_append_of_le_length (by rw [Bit.length_bitsN]; exact Nat.le_refl _), List.take_of_length_le (by rw [Bit.length_bitsN]; exact Nat.le_refl _), ← Bit.bitsN_mod, ← e, Bit.rev_mod n L.length _ hn, h]
  have := (cv_code L L.length (cv L L.length) (Nat.le_refl _) (cv_lt L _ (Nat.le_refl _))).1 rfl
  rw [List.take_length] at this
  exact this.symm
/-- is one of the first k codes begun by bits -/
def shortB (l : List Int) (L : List Bool) (k : Nat) : Bool := (List.range k).any fun i => decide (0 < l.getD i 0) && begB L (symBits l i)
theorem shortB_succ (l : List Int) (L : List Bool) (k : Nat) : shortB l L (k + 1) = (shortB l L k || (decide (0 < l.getD k 0) && begB L (symBits l k))) := by
  unfold shortB
  rw [List.range_succ, List.any_append]
  simp
theorem shortB_true {l : List Int} {L : List Bool} {k : Nat} : shortB l L k = true ↔ ∃ i, i < k ∧ 0 < l.getD i 0 ∧ begB L (symBits l i) = true := by
  unfold shortB
  rw [List.any_eq_true]
  constructor
  · rintro ⟨i, hi, h⟩
    rw [Bool.and_eq_true, decide_eq_true_eq] at h
    exact ⟨i, List.mem_range.1 hi, h.1, h.2⟩
  · rintro ⟨i, hi, h1, h2⟩
    exact ⟨i, List.mem_range.2 hi, by rw [Bool.and_eq_true, decide_eq_true_eq]; exact ⟨h1, h2⟩⟩
/-- what the document's Next tells -/
def RefIs (l : List Int) (L : List Bool) (sym bits code : Nat) : Prop :=
  (Hit l L sym bits ∧ code = 0) ∨ ((∀ s n, ¬ Hit l L s n) ∧ sym = 0 ∧ bits = 0 ∧ ((shortB l L l.length = true ∧ code = 4) ∨ (shortB l L l.length = false ∧ code = 26)))
theorem right_pos {l : List Int} (hr : rightB l = true) {i : Nat} (h : 0 < l.getD i 0) : ∃ n : Nat, i < l.length ∧ 1 ≤ n ∧ n ≤ 15 ∧ l.getD i 0 = (n : Int) := by
  have hi : i < l.length := by
    rcases Nat.lt_or_ge i l.length with c | c
    · exact c
    · rw [List.getD_eq_getElem?_getD, List.getElem?_eq_none c] at h
      simp at h
  have a := right_at hr hi
  rw [← getD_of hi] at a
  obtain ⟨n, hn⟩ := Int.eq_ofNat_of_zero_le a.1
  exact ⟨n, hi, by omega, by omega, hn⟩
theorem kind_cases {l : List Int} {which : Int} (h : mayOf l which = 0) : psum l 15 = 32768 ∨ mxOf l ≤ 1 := by
  have hk := may_kind h
  obtain ⟨hr, hs⟩ := kind_le3 hk.1
  have e : kindOf l = if 32768 < psum l 15 then 4 else if pcnt l 15 = 0 then 0 else if psum l 15 = 32768 then 3 else if pcnt l 15 = 1 ∧ l.count 1 = 1 then 1 else 2 := by unfold kindOf; rw [hr, if_neg (by simp)]
  by_cases c3 : psum l 15 = 32768
  · exact .inl c3
  · right
    rcases mx_mem l with z | z
    · omega
    · have hx := right_mem hr z
      obtain ⟨M, hM⟩ := Int.eq_ofNat_of_zero_le hx.1
      rw [hM] at z hx ⊢
      rcases Nat.lt_or_ge M 2 with c | c
      · omega
      · exfalso
        obtain ⟨m, rfl⟩ : ∃ m, M = m + 1 := ⟨M - 1, by omega⟩
        have a1 := pcnt_mono l (m + 1) 15 (by omega)
        have a2 : pcnt l (m + 1) = pcnt l m + l.count ((m + 1 : Nat) : Int) := rfl
        have a3 := pcnt_mono l 1 m (by omega)
        have a4 : pcnt l 1 = l.count 1 := by simp [pcnt]
        have a5 : 0 < l.count ((m + 1 : Nat) : Int) := List.count_pos_iff.2 z
        rw [if_neg (by omega), if_neg (by omega), if_neg c3] at e
        split at e
        · omega
        · omega
theorem agree {l : List Int} {which : Int} {L : List Bool} {M d sym bits code : Nat} {v : Go.Value} (hm : mayOf l which = 0) (hM : mxOf l = (M : Int)) (h : NextIs l L M v d) (g : RefIs l L sym bits code) :
    v = .tuple #[.int .i64 (sym : Int), .int .i64 (code : Int)] ∧ d = bits := by
  have hk := may_kind hm
  obtain ⟨hr, hsum⟩ := kind_le3 hk.1
  have hM15 : M ≤ 15 := by have := mx_le hr; omega
  rcases g with ⟨g1, rfl⟩ | ⟨g1, rfl, rfl, g2⟩
  · obtain ⟨e1, e2⟩ := h.of_hit g1 hsum hM
    exact ⟨e1, e2⟩
  · rcases h with ⟨s, n, h1, _⟩ | ⟨h1, h2, h3, h4⟩ | ⟨h1, h2, h3, h4⟩
    · exact absurd h1 (g1 s n)
    · rcases g2 with ⟨_, rfl⟩ | ⟨g2, _⟩
      · exact ⟨h3, h4⟩
      · exfalso
        rw [← Bool.not_eq_true] at g2
        apply g2
        rw [shortB_true]
        rcases kind_cases hm with c | c
        · obtain ⟨s, n, s1, s2, s3, s4, s5, s6⟩ := short_of (L := L) c (by omega) h2
          exact ⟨s, s1, by omega, beg_short l L s n s1 s3 s2 (by omega) s6⟩
        · have hL : L = [] := List.eq_nil_of_length_eq_zero (by omega)
          subst hL
          rcases mx_mem l with z | z
          · simp at h1; omega
          · obtain ⟨s, hs, hs2⟩ := List.getElem_of_mem z
            exact ⟨s, hs, by rw [getD_of hs, hs2]; simp at h1; omega, by simp [begB]⟩
    · rcases g2 with ⟨g2, _⟩ | ⟨_, rfl⟩
      · exfalso
        rw [shortB_true] at g2
        obtain ⟨s, s1, s2, s3⟩ := g2
        obtain ⟨n, n1, n2, n3, n4⟩ := right_pos hr s2
        have hb := s3
        unfold begB at hb
        rw [decide_eq_true_eq] at hb
        have hl := congrArg List.length hb
        rw [List.length_take, len_sym l s n n4] at hl
        have hnM : n ≤ M := by
          have := mx_ge l (List.getElem_mem n1)
          rw [getD_l n1 n4] at this
          omega
        have e : symBits l s = L := by
          rw [List.take_of_length_le (by rw [len_sym l s n n4]; omega)] at hb
          exact hb
        apply g1 s n
        rw [← beg_hit l hsum L s n n1 n2 n3 n4, e]
        simp [begB]
      · exact ⟨h3, h4⟩
end Go.Proofs.Ytdlnnokimhemfaa
