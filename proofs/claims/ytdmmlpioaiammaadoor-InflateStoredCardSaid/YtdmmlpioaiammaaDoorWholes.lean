/-
  Blocks known whole: a slice that was made of so many noughts; a row out of a block and back. No program in sight.
-/
import Derived.Test.YtdmmlpioaiammaaDoorAppend
import Derived.Laws.OwnMore
import Derived.Laws.MakeOwn
namespace Go.Proofs.YtdmmlpioaiammaaDoor
open Go.RowKit

theorem made_one {z : Value} (hz : z.cells = #[z]) (n : Nat) : madeCells z.cells (n * 1) = (List.replicate n z).toArray := by
  apply Array.ext'
  apply List.ext_getElem?
  intro q
  by_cases hq : q < n
  · simp [madeCells, hz, hq, Nat.mod_one]
  · rw [List.getElem?_eq_none (by simp [madeCells]; omega), List.getElem?_eq_none (by simp; omega)]
/-- make([]T, n), T of one cell -/
theorem run_make_wh {P : Program} {t e : TypeId} {i : TypeInfo} {z : Value} (ht : P.underlying t = some (.slice e)) (hi : P.info? e = some i) (hz : i.zero = some z) (h1 : i.size = 1) (hb : i.bytes ≤ 8) (hzc : z.cells = #[z])
    (n : Nat) (hn : n ≤ 1000000000) (w : World) :
    (Instr.makeSlice t (.int .i64 (n : Int)) (.int .i64 (n : Int))).run P w = .ok (.slice (some ⟨w.heap.size, 0, none⟩) n n) (w.alloc (.cells (List.replicate n z).toArray e)) := by
  have hb2 : i.bytes * n ≤ 8 * n := Nat.mul_le_mul_right _ hb
  have hb3 : (i.bytes : Int) * (n : Int) ≤ 281474976710656 := by
    have h : ((i.bytes * n : Nat) : Int) ≤ 281474976710656 := by omega
    rwa [Int.natCast_mul] at h
  have hr := run_make (P := P) w t e i z ht hi hz .i64 .i64 n n (by omega) (by omega) hb3 (by omega)
  simp only [Int.toNat_natCast] at hr
  rw [h1, made_one hzc] at hr
  exact hr
theorem own_of_wh {w : World} {base : Nat} {e : TypeId} {g n : Nat} {xs : List Value} (hw : Whole w g e xs.toArray) (hb : base ≤ g) (hl : xs.length = n) (hcm : n ≤ maxLen) : w.ownsRow base e 1 (.slice (some ⟨g, 0, none⟩) n n) n xs :=
  ⟨by omega, .inr ⟨g, n, xs.toArray, rfl, hb, hw, Nat.le_refl _, hcm, by simp [hl], by rw [Nat.mul_one, List.take_of_length_le (by simp [hl])]⟩⟩
theorem sl_of_wh {w : World} {g : Nat} {t : TypeId} {xs : List Value} (h : Whole w g t xs.toArray) : Sl w w.heap.size (some ⟨g, 0, none⟩) xs :=
  .inr ⟨g, 0, rfl, h.lt, fun i u hu => by rw [Nat.zero_add, h.cell i, List.getElem?_toArray]; exact hu⟩
end Go.Proofs.YtdmmlpioaiammaaDoor
