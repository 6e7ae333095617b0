/-
  tokens in memory: the type's row, a row known whole.
-/
import Derived.Test.YtjfmaebgihlegaaDoorTokExpand
import Derived.OwnWalk
namespace Go.Proofs.YtjfmaebgihlegaaDoor
open Go.RowKit

theorem tokInfo : (Tryd.prog.info? 48).map (fun i => (i.zero, i.size, i.bytes)) = some (some (.agg #[.int .u8 0, .int .i64 0, .int .i64 0]), 3, 24) := by kernel_rfl
theorem whole_of_own {w : World} {base : Nat} {e : TypeId} {size g n : Nat} {xs : List Value} (h : w.ownsRow base e size (.slice (some ⟨g, 0, none⟩) n n) n xs) : Whole w g e xs.toArray := by
  rcases h.2 with ⟨hv, _⟩ | ⟨g', cap, cur, hv, _, hh, _, _, hsz, ht⟩
  · cases hv
  · injection hv with hA _ hc
    injection hA with hA
    injection hA with hg
    subst hg hc
    have : cur = xs.toArray := by
      rw [← ht, List.take_of_length_le (by simp [hsz])]
    unfold Whole
    rw [← this]; exact hh
namespace Tok
def nought : TokV := ⟨0, 0, 0⟩
theorem made (n : Nat) : (madeCells (Value.agg #[.int .u8 0, .int .i64 0, .int .i64 0]).cells (n * 3)).toList = (List.replicate n nought).flatMap TokV.cells := by
  have hl : ∀ o ∈ List.replicate n nought, (TokV.cells o).length = 3 := fun _ _ => rfl
  apply List.ext_getElem?
  intro q
  by_cases hq : q < n * 3
  · have h1 : ((List.replicate n nought).flatMap TokV.cells)[3 * (q / 3) + q % 3]? = (TokV.cells nought)[q % 3]? := flat_at hl (by rw [List.getElem?_replicate, if_pos (by omega)]) (by omega)
    rw [show 3 * (q / 3) + q % 3 = q by omega] at h1
    rw [h1]
    have h3 : q % 3 = 0 ∨ q % 3 = 1 ∨ q % 3 = 2 := by omega
    simp only [madeCells, Array.toList_map, Array.toList_range, List.getElem?_map, List.getElem?_range hq, Option.map_some]
    have hz : (Value.agg #[.int .u8 0, .int .i64 0, .int .i64 0]).cells.size = 3 := rfl
    rw [hz]
    rcases h3 with h3 | h3 | h3 <;> rw [h3] <;> rfl
  · rw [List.getElem?_eq_none (by simp [madeCells]; omega), List.getElem?_eq_none (by rw [flat_length hl]; simp; omega)]
theorem set_lit (A R : List TokV) (t : TokV) (c : UInt8) : ((A ++ t :: R).flatMap TokV.cells).toArray.setIfInBounds (A.length * 3) (.int .u8 (c.toNat : Int)) = ((A ++ ⟨c, t.len, t.dist⟩ :: R).flatMap TokV.cells).toArray := by
  have e : A.length * 3 = (A.flatMap TokV.cells).length := by rw [toks_len]
  rw [e]
  apply Array.ext'
  simp [List.flatMap_append, TokV.cells]
def half (b : List UInt8) (j : Nat) : List TokV := lits (b.take j) ++ List.replicate (b.length - j) nought
theorem half_succ (b : List UInt8) (j : Nat) (hj : j < b.length) : ((half b j).flatMap TokV.cells).toArray.setIfInBounds (j * 3) (.int .u8 (b[j].toNat : Int)) = ((half b (j + 1)).flatMap TokV.cells).toArray := by
  unfold half
  rw [show b.length - j = (b.length - (j + 1)) + 1 by omega, List.replicate_succ]
  have hl : (lits (b.take j)).length = j := by simp [lits]; omega
  have h := set_lit (lits (b.take j)) (List.replicate (b.length - (j + 1)) nought) nought b[j]
  rw [hl] at h
  rw [h, List.take_succ_eq_append_getElem hj]
  congr 2
  simp only [lits, List.map_append, List.map_cons, List.map_nil, List.append_assoc, List.cons_append, List.nil_append]
  rfl
theorem half_at (b : List UInt8) (j : Nat) (hj : j < b.length) : ((half b j).flatMap TokV.cells).toArray[j * 3]? = some (.int .u8 0) := by
  have hl : ∀ o ∈ half b j, (TokV.cells o).length = 3 := fun _ _ => rfl
  have hn : (half b j)[j]? = some nought := by
    unfold half
    have hl : (lits (b.take j)).length = j := by simp [lits]; omega
    rw [List.getElem?_append_right (by omega), hl, List.getElem?_replicate, if_pos (by omega)]
  have h1 := flat_at (k := 3) hl hn (j := 0) (by omega)
  rw [List.getElem?_toArray, Nat.mul_comm]
  exact h1
theorem len_lits (b : List UInt8) : (lits b).length = b.length := by simp [lits]
end Tok

end Go.Proofs.YtjfmaebgihlegaaDoor
