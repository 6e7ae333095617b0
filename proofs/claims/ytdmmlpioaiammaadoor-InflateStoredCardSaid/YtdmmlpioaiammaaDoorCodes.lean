/-
  canon: Codes.
-/
import Derived.Test.YtdmmlpioaiammaaDoorCanonMath
import Derived.Test.YtdmmlpioaiammaaDoorWholes
import Derived.Deep.RegionLaw
import Derived.Deep.RegionHeld3
namespace Go.Proofs.YtdmmlpioaiammaaDoor
open Go.RowKit

def u32sV (l : List Nat) : List Value := l.map fun v : Nat => Value.int .u32 (v : Int)
theorem len_u32sV (l : List Nat) : (u32sV l).length = l.length := by simp [u32sV]
theorem u32sV_set (l : List Nat) (k v : Nat) : u32sV (l.set k v) = (u32sV l).set k (.int .u32 (v : Int)) := by simp [u32sV, List.map_set]
theorem u32sV_get (l : List Nat) (k v : Nat) (h : l[k]? = some v) : (u32sV l)[k]? = some (.int .u32 (v : Int)) := by simp [u32sV, h]
theorem wpList_store_wh2 {P : Program} {ops : Array Oper} {rest : List Oper} {o : Oper} {a : Act} {w : World} {Q : Exit → Act → World → Prop} (hgd : o.guard = none) (ty : TypeId) (x y : Operand) (ho : o.op = .store ty x y)
    (g : Nat) (cells : Array Value) (hx : a.eval x = .pointer (some ⟨g, 0, none⟩)) (hy : a.eval y = .agg cells)
    (t : TypeId) (old : Array Value) (hg : Whole w g t old) (hi : (P.info? ty).map (·.size) = some cells.size)
    (hold : old.size = cells.size) (h1 : cells.all (·.oneCell') = true)
    (h : ∀ w', Whole w' g t cells → Fr (fun k => k = g) w w' → w'.heap.size = w.heap.size → wpList P ops Q rest (a.put o.dst undef) w') : wpList P ops Q (o :: rest) a w :=
  wpList_store_row hgd ty x y ho g cells hx hy t old hg hi hold h1 (h _ (setRow_heap w g _ _ t _ hg) ⟨rfl, rfl, rfl, by simp [World.setRow], fun k _ hn => setRow_other w g k _ hn⟩ (by simp [World.setRow]))
theorem kind_le3 {l : List Int} (h : kindOf l ≤ 3) : rightB l = true ∧ psum l 15 ≤ 32768 := by
  unfold kindOf at h
  by_cases h1 : rightB l = false
  · rw [if_pos h1] at h; omega
  · rw [if_neg h1] at h
    by_cases h2 : 32768 < psum l 15
    · rw [if_pos h2] at h; omega
    · exact ⟨by simpa using h1, by omega⟩
theorem right_at {l : List Int} (h : rightB l = true) {k : Nat} (hk : k < l.length) : 0 ≤ l[k] ∧ l[k] ≤ 15 := by
  have := List.all_eq_true.1 h l[k] (List.getElem_mem hk)
  simpa using this

/-- the arrays of Codes: many at p, next at p + 1 -/
theorem len_codesOf (l : List Int) : (codesOf l).length = l.length := by simp [codesOf]
theorem count_take_le (l : List Int) (k : Nat) (hk : k < l.length) : (l.take k).count l[k] + 1 ≤ l.count l[k] := by
  have h1 : (l.take (k + 1)).count l[k] ≤ l.count l[k] := (List.take_sublist (k + 1) l).count_le _
  rw [List.take_succ_eq_append_getElem hk, List.count_append, List.count_singleton_self] at h1
  exact h1
theorem codeAt_eq (l : List Int) (k m : Nat) (hk : k < l.length) (h : l[k] = (m : Int)) (hm : 1 ≤ m) : codeAt l k = Bit.rev m (nx l m + (l.take k).count (m : Int)) := by
  have e : l.getD k 0 = (m : Int) := by rw [List.getD_eq_getElem?_getD, List.getElem?_eq_getElem hk]; exact h
  unfold codeAt
  rw [e, if_pos (by omega), Int.toNat_natCast]
theorem codeAt_zero (l : List Int) (k : Nat) (hk : k < l.length) (h : ¬ 0 < l[k]) : codeAt l k = 0 := by
  have e : l.getD k 0 = l[k] := by rw [List.getD_eq_getElem?_getD, List.getElem?_eq_getElem hk]; rfl
  unfold codeAt
  rw [e, if_neg h]
end Go.Proofs.YtdmmlpioaiammaaDoor
