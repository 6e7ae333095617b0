/-
  The opening of a slice of pairs of numbers.
-/
import Derived.Test.YtcbginkbipefaaaProg
import Derived.Test.YtcbginkbipefaaaElems
import Derived.Lib.LaidTab
namespace Go.Proofs.Ytcbginkbipefaaa
open Go.RowKit Go.ChangeShapes Go.WideShapes Go.ChangeAt

structure PairV where
  k : Int
  x : Int
def PairV.cells (p : PairV) : List Value := [.int .i64 p.k, .int .i64 p.x]
structure PairV.ok (p : PairV) : Prop where
  k1 : -9223372036854775808 ≤ p.k
  k2 : p.k ≤ 9223372036854775807
  x1 : -9223372036854775808 ≤ p.x
  x2 : p.x ≤ 9223372036854775807
theorem arr_some {H : Type} {enc : TypeId × Value → H} {P : Program} {w : World} {base : Nat} {sp : Nat → Bool} {held : Bool} {fuel : Nat} {t e : TypeId} {n : Nat} {cs : List Value} {x : DataW H × List MemPlace} (ht : P.underlying t = some (.array n e))
    (h : DataW.trod enc P w base sp held fuel t cs = some x) {i : Nat} (hi : i < n) :
    ∃ m y, DataW.trod enc P w base sp held m e ((cs.drop (i * P.cellsOf e)).take (P.cellsOf e)) = some y := by
  match fuel, h with
  | 0, h => simp [DataW.trod] at h
  | m + 1, h =>
    simp only [DataW.trod, ht] at h
    split at h
    case isFalse => cases h
    case isTrue =>
      rw [Option.map_eq_some_iff] at h
      obtain ⟨ys, hys, _⟩ := h
      have hr : (List.range n)[i]? = some i := by rw [List.getElem?_range hi]
      obtain ⟨y, _, hy2⟩ := Lib.mapM_at hys i i hr
      exact ⟨m, y, hy2⟩
theorem two_of {α : Type} {cs : List α} (h : cs.length = 2) : ∃ a b, cs = [a, b] := by
  match cs, h with
  | [a, b], _ => exact ⟨a, b, rfl⟩
theorem open_pairs {H : Type} {enc : TypeId × Value → H} {W : World} {a : Option Addr} {len cap : Nat} {d : DataW H} {p : List MemPlace}
    (h : DataW.Trod enc Try.prog W 0 (fun _ => true) true 33 (.slice a len cap) d p) :
    ∃ l : List PairV, len = l.length ∧ Sl W W.heap.size a (l.flatMap PairV.cells) ∧ (∀ o ∈ l, o.ok) ∧ len ≤ cap ∧ cap ≤ maxLen := by
  obtain ⟨l, h1, h2, h3, _, h5⟩ := open_elems (g := PairV.cells) (ok := PairV.ok) (k := 2) Try.underlying33 (by kernel_rfl) (by omega) (fun fuel cs x hcl ht => by
    obtain ⟨v0, v1, rfl⟩ := two_of hcl
    obtain ⟨m0, y0, t0⟩ := arr_some Try.underlying36 ht (i := 0) (by omega)
    obtain ⟨m1, y1, t1⟩ := arr_some Try.underlying36 ht (i := 1) (by omega)
    rw [show Try.prog.cellsOf 3 = 1 by kernel_rfl] at t0 t1
    obtain ⟨z0, e0, _, w0⟩ := DataW.trod_int Try.underlying3 t0
    obtain ⟨z1, e1, _, w1⟩ := DataW.trod_int Try.underlying3 t1
    simp at e0 e1
    subst e0 e1
    have b0 := bounds_i64 w0
    have b1 := bounds_i64 w1
    exact ⟨⟨z0, z1⟩, rfl, b0.1, b0.2, b1.1, b1.2⟩) h
  exact ⟨l, h1, h2, h3, h5⟩
theorem pair_at {W : World} {B : Nat} {a : Option Addr} {l : List PairV} (h : Sl W B a (l.flatMap PairV.cells)) {i : Nat} {o : PairV} (hi : l[i]? = some o) :
    ∃ b off, a = some ⟨b, off, none⟩ ∧ b < B ∧ W.cell? ⟨b, off + i * 2, none⟩ = some (.int .i64 o.k) ∧ W.cell? ⟨b, off + i * 2 + 1, none⟩ = some (.int .i64 o.x) := by
  have hlen : ∀ o ∈ l, (PairV.cells o).length = 2 := fun _ _ => rfl
  rcases h with h | ⟨b, off, ha, hb, hc⟩
  · have := flat_length hlen
    rw [h] at this
    have hl : l = [] := List.eq_nil_of_length_eq_zero (by simp at this; omega)
    rw [hl] at hi
    simp at hi
  · have hq : ∀ (j : Nat) (u : Value), j < 2 → o.cells[j]? = some u → W.cell? ⟨b, off + i * 2 + j, none⟩ = some u := fun j u hj hu => by
      have := hc _ _ ((flat_at hlen hi hj).trans hu)
      rw [show off + i * 2 + j = off + (2 * i + j) by omega]; exact this
    exact ⟨b, off, ha, hb, hq 0 _ (by omega) rfl, hq 1 _ (by omega) rfl⟩
end Go.Proofs.Ytcbginkbipefaaa
