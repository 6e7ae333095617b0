/-
  Tokens as plain data, what they stand for, and the opening of a slice of tokens.
-/
import Derived.Test.YtjfmaebgihlegaaDoorProg
import Derived.Test.YtjfmaebgihlegaaDoorElems
import Derived.Test.YtjfmaebgihlegaaDoorAppendN
namespace Go.Proofs.YtjfmaebgihlegaaDoor
open Go.RowKit Go.ChangeShapes Go.WideShapes Go.ChangeAt

structure TokV where
  lit : UInt8
  len : Int
  dist : Int
def TokV.cells (t : TokV) : List Value := [.int .u8 (t.lit.toNat : Int), .int .i64 t.len, .int .i64 t.dist]
structure TokV.ok (t : TokV) : Prop where
  l1 : -9223372036854775808 ≤ t.len
  l2 : t.len ≤ 9223372036854775807
  d1 : -9223372036854775808 ≤ t.dist
  d2 : t.dist ≤ 9223372036854775807
theorem three {α : Type} {cs : List α} {a b c : α} (h : cs.length = 3) (h0 : cs[0]? = some a) (h1 : cs[1]? = some b) (h2 : cs[2]? = some c) : cs = [a, b, c] := by
  match cs, h with
  | [x, y, z], _ => simp at h0 h1 h2; rw [h0, h1, h2]
theorem open_toks {H : Type} {enc : TypeId × Value → H} {W : World} {a : Option Addr} {len cap : Nat} {d : DataW H} {p : List MemPlace}
    (h : DataW.Trod enc Tryd.prog W 0 (fun _ => true) true 31 (.slice a len cap) d p) :
    ∃ l : List TokV, len = l.length ∧ Sl W W.heap.size a (l.flatMap TokV.cells) ∧ (∀ o ∈ l, o.ok) ∧ len ≤ cap ∧ cap ≤ maxLen := by
  obtain ⟨l, h1, h2, h3, _, h5⟩ := open_elems (g := TokV.cells) (ok := TokV.ok) (k := 3) Tryd.underlying31 (by kernel_rfl) (by omega) (fun fuel cs x hcl ht => by
    have hf := open_fields Tryd.underlying48 (by kernel_rfl) hcl ht
    obtain ⟨v0, n0, y0, c0, t0⟩ := hf 0 _ rfl
    obtain ⟨v1, n1, y1, c1, t1⟩ := hf 1 _ rfl
    obtain ⟨v2, n2, y2, c2, t2⟩ := hf 2 _ rfl
    obtain ⟨z0, e0, _, w0⟩ := DataW.trod_int Tryd.underlying5 t0
    obtain ⟨z1, e1, _, w1⟩ := DataW.trod_int Tryd.underlying3 t1
    obtain ⟨z2, e2, _, w2⟩ := DataW.trod_int Tryd.underlying3 t2
    simp at e0 e1 e2
    subst e0 e1 e2
    have b0 := bounds_u8 w0
    have b1 := bounds_i64 w1
    have b2 := bounds_i64 w2
    obtain ⟨m0, rfl⟩ := Int.eq_ofNat_of_zero_le b0.1
    refine ⟨⟨UInt8.ofNat m0, z1, z2⟩, ?_, b1.1, b1.2, b2.1, b2.2⟩
    rw [three hcl c0 c1 c2]
    simp [TokV.cells, Nat.mod_eq_of_lt (show m0 < 256 by omega)]) h
  exact ⟨l, h1, h2, h3, h5⟩
theorem toks_at {W : World} {B : Nat} {a : Option Addr} {l : List TokV} (h : Sl W B a (l.flatMap TokV.cells)) {i : Nat} {o : TokV} (hi : l[i]? = some o) :
    ∃ b off, a = some ⟨b, off, none⟩ ∧ b < B ∧ W.cell? ⟨b, off + i * 3, none⟩ = some (.int .u8 (o.lit.toNat : Int)) ∧ W.cell? ⟨b, off + i * 3 + 1, none⟩ = some (.int .i64 o.len) ∧
      W.cell? ⟨b, off + i * 3 + 2, none⟩ = some (.int .i64 o.dist) := by
  have hlen : ∀ o ∈ l, (TokV.cells o).length = 3 := fun _ _ => rfl
  rcases h with h | ⟨b, off, ha, hb, hc⟩
  · have := flat_length hlen
    rw [h] at this
    have hl : l = [] := List.eq_nil_of_length_eq_zero (by simp at this; omega)
    rw [hl] at hi
    simp at hi
  · have hq : ∀ (j : Nat) (u : Value), j < 3 → o.cells[j]? = some u → W.cell? ⟨b, off + i * 3 + j, none⟩ = some u := fun j u hj hu => by
      have := hc _ _ ((flat_at hlen hi hj).trans hu)
      rw [show off + i * 3 + j = off + (3 * i + j) by omega]; exact this
    exact ⟨b, off, ha, hb, hq 0 _ (by omega) rfl, hq 1 _ (by omega) rfl, hq 2 _ (by omega) rfl⟩
theorem toks_len (l : List TokV) : (l.flatMap TokV.cells).length = l.length * 3 := by
  rw [flat_length (k := 3) (fun _ _ => rfl), Nat.mul_comm]
theorem toks_oneCell (l : List TokV) : ∀ u ∈ l.flatMap TokV.cells, u.oneCell' = true := by
  intro u hu
  obtain ⟨t, _, ht⟩ := List.mem_flatMap.1 hu
  simp only [TokV.cells, List.mem_cons, List.not_mem_nil, or_false] at ht
  rcases ht with rfl | rfl | rfl <;> rfl

namespace Tok
/-- may it be? -/
def right (t : TokV) : Bool := if t.len = 0 then decide (t.dist = 0) else (t.lit.toNat : Int) == 0 && decide (3 ≤ t.len) && decide (t.len ≤ 258) && decide (1 ≤ t.dist) && decide (t.dist ≤ 32768)
def size (t : TokV) : Nat := if right t then (if t.len = 0 then 1 else t.len.toNat) else 0
def sizes (l : List TokV) : Nat := (l.map size).sum
/-- n times the byte at a distance -/
def copyN (k : List UInt8) (d : Nat) : Nat → List UInt8
  | 0 => k
  | n + 1 => copyN k d n ++ [(copyN k d n).getD ((copyN k d n).length - d) 0]
theorem length_copyN (k : List UInt8) (d : Nat) : ∀ n, (copyN k d n).length = k.length + n
  | 0 => rfl
  | n + 1 => by rw [copyN, List.length_append, length_copyN k d n]; simp; omega
theorem copyN_pre (k : List UInt8) (d : Nat) : ∀ n, ∃ s, copyN k d n = k ++ s
  | 0 => ⟨[], by simp [copyN]⟩
  | n + 1 => by
    obtain ⟨s, hs⟩ := copyN_pre k d n
    exact ⟨s ++ [(copyN k d n).getD ((copyN k d n).length - d) 0], by rw [copyN, ← List.append_assoc, ← hs]⟩
/-- the code (0, 1, 27), and all bytes then (none, if it is an error) -/
def go (k : List UInt8) : List TokV → Nat × List UInt8
  | [] => (0, k)
  | t :: l => if right t = false then (1, []) else if t.len = 0 then go (k ++ [t.lit]) l else if (k.length : Int) < t.dist then (27, []) else go (copyN k t.dist.toNat t.len.toNat) l
theorem right_len {t : TokV} (h : right t = true) (h0 : ¬ t.len = 0) : 3 ≤ t.len ∧ t.len ≤ 258 ∧ 1 ≤ t.dist ∧ t.dist ≤ 32768 ∧ t.lit.toNat = 0 := by
  unfold right at h
  rw [if_neg h0] at h
  simp only [Bool.and_eq_true, beq_iff_eq, decide_eq_true_eq] at h
  omega
theorem size_le (t : TokV) : size t ≤ 258 := by
  unfold size
  split
  · rename_i h
    split
    · omega
    · rename_i h0; have := right_len h h0; omega
  · omega
theorem go_pre (k : List UInt8) : ∀ l, (go k l).1 = 0 → ∃ s, (go k l).2 = k ++ s := by
  intro l
  induction l generalizing k with
  | nil => exact fun _ => ⟨[], by simp [go]⟩
  | cons t l ih =>
    intro h
    rw [go] at h ⊢
    split at h
    · cases h
    · rename_i h1
      rw [if_neg h1]
      split at h
      · rename_i h2
        rw [if_pos h2]
        obtain ⟨s, hs⟩ := ih _ h
        exact ⟨t.lit :: s, by rw [hs, List.append_assoc]; rfl⟩
      · rename_i h2
        rw [if_neg h2]
        split at h
        · cases h
        · rename_i h3
          rw [if_neg h3]
          obtain ⟨s, hs⟩ := ih _ h
          obtain ⟨s2, hs2⟩ := copyN_pre k t.dist.toNat t.len.toNat
          exact ⟨s2 ++ s, by rw [hs, hs2, List.append_assoc]⟩
theorem go_err (k : List UInt8) : ∀ l, (go k l).1 ≠ 0 → (go k l).2 = [] := by
  intro l
  induction l generalizing k with
  | nil => exact fun h => absurd rfl h
  | cons t l ih =>
    intro h
    rw [go] at h ⊢
    split
    · rfl
    · rename_i h1
      rw [if_neg h1] at h
      split
      · rename_i h2
        rw [if_pos h2] at h
        exact ih _ h
      · rename_i h2
        rw [if_neg h2] at h
        split
        · rfl
        · rename_i h3
          rw [if_neg h3] at h
          exact ih _ h
theorem go_append (k : List UInt8) (l m : List TokV) : go k (l ++ m) = if (go k l).1 = 0 then go (go k l).2 m else go k l := by
  induction l generalizing k with
  | nil => simp [go]
  | cons t l ih =>
    rw [List.cons_append, go, go]
    by_cases h1 : right t = false
    · simp [h1]
    · simp only [if_neg h1]
      by_cases h2 : t.len = 0
      · simp only [if_pos h2]; exact ih _
      · simp only [if_neg h2]
        by_cases h3 : (k.length : Int) < t.dist
        · simp [h3]
        · simp only [if_neg h3]; exact ih _
theorem go_len (k : List UInt8) : ∀ l, (go k l).1 = 0 → (go k l).2.length = k.length + sizes l := by
  intro l
  induction l generalizing k with
  | nil => intro _; simp [go, sizes]
  | cons t l ih =>
    intro h
    rw [go] at h ⊢
    by_cases h1 : right t = false
    · rw [if_pos h1] at h; cases h
    · rw [if_neg h1] at h ⊢
      have hr : right t = true := by simpa using h1
      by_cases h2 : t.len = 0
      · rw [if_pos h2] at h ⊢
        rw [ih _ h]
        have : size t = 1 := by simp [size, hr, h2]
        simp only [sizes, List.map_cons, List.sum_cons, this, List.length_append, List.length_cons, List.length_nil]
        omega
      · rw [if_neg h2] at h ⊢
        by_cases h3 : (k.length : Int) < t.dist
        · rw [if_pos h3] at h; cases h
        · rw [if_neg h3] at h ⊢
          rw [ih _ h, length_copyN]
          have : size t = t.len.toNat := by simp [size, hr, h2]
          simp only [sizes, List.map_cons, List.sum_cons, this]
          omega
theorem sizes_le (l : List TokV) : sizes l ≤ 258 * l.length := by
  induction l with
  | nil => simp [sizes]
  | cons t l ih =>
    have := size_le t
    simp only [sizes, List.map_cons, List.sum_cons, List.length_cons] at ih ⊢
    omega
/-- what comes out -/
def out (k : List UInt8) (l : List TokV) : List UInt8 := (go k l).2.drop k.length
theorem out_err {k : List UInt8} {l : List TokV} (h : (go k l).1 ≠ 0) : out k l = [] := by simp [out, go_err k l h]
theorem out_ok {k : List UInt8} {l : List TokV} (h : (go k l).1 = 0) : (go k l).2 = k ++ out k l := by
  obtain ⟨s, hs⟩ := go_pre k l h
  simp [out, hs]
theorem out_len (k : List UInt8) (l : List TokV) : (out k l).length ≤ 258 * l.length := by
  by_cases h : (go k l).1 = 0
  · have h1 := go_len k l h
    have h2 := sizes_le l
    simp only [out, List.length_drop]
    omega
  · rw [out_err h]; simp
theorem out_size {k : List UInt8} {l : List TokV} (h : (go k l).1 = 0) : (out k l).length = sizes l := by
  have h1 := go_len k l h
  simp only [out, List.length_drop]
  omega
/-- one behind the other -/
theorem out_join {k : List UInt8} {l m : List TokV} (h : (go k l).1 = 0) (h2 : (go (k ++ out k l) m).1 = 0) : out k (l ++ m) = out k l ++ out (k ++ out k l) m := by
  have h3 := out_ok h
  have h4 : go k (l ++ m) = go (k ++ out k l) m := by rw [go_append, if_pos h, h3]
  have h5 := out_ok h2
  unfold out at *
  rw [h4, h5]
  simp
def lits (b : List UInt8) : List TokV := b.map fun c => ⟨c, 0, 0⟩
theorem go_lits (k b : List UInt8) : go k (lits b) = (0, k ++ b) := by
  induction b generalizing k with
  | nil => simp [lits, go]
  | cons c b ih =>
    have : lits (c :: b) = ⟨c, 0, 0⟩ :: lits b := rfl
    rw [this, go]
    have hr : right ⟨c, 0, 0⟩ = true := by simp [right]
    rw [hr]
    simp only [if_pos, Bool.true_eq_false, if_false]
    rw [ih]
    simp
end Tok
end Go.Proofs.YtjfmaebgihlegaaDoor
