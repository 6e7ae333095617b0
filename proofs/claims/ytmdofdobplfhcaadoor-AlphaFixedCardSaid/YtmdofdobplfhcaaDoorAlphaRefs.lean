/-
  What the reference's tables and its Find are; the place in a table is unique.
-/
import Derived.Test.YtmdofdobplfhcaaDoorAlphaParts
namespace Go.Proofs.YtmdofdobplfhcaaDoor
open Go.RowKit

theorem lb_mono (i j : Nat) (hij : i < j) (hj : j < lenBases.length) : lenBases.getD i 0 < lenBases.getD j 0 := by
  have : ∀ i j : Fin 29, i < j → lenBases.getD i.val 0 < lenBases.getD j.val 0 := by decide
  have hj' : j < 29 := hj
  exact this ⟨i, by omega⟩ ⟨j, hj'⟩ hij
theorem db_mono (i j : Nat) (hij : i < j) (hj : j < distBases.length) : distBases.getD i 0 < distBases.getD j 0 := by
  have : ∀ i j : Fin 30, i < j → distBases.getD i.val 0 < distBases.getD j.val 0 := by decide
  have hj' : j < 30 := hj
  exact this ⟨i, by omega⟩ ⟨j, hj'⟩ hij
theorem place_le {l : List Int} (hm : ∀ i j, i < j → j < l.length → l.getD i 0 < l.getD j 0) {n : Int} {i j : Nat} (hi : AtPlace l n i) (hj : AtPlace l n j) : j ≤ i := by
  rcases Nat.lt_or_ge i j with h | h
  · have h1 := hi.2.2 (by have := hj.1; omega)
    have h2 := hj.2.1
    rcases Nat.eq_or_lt_of_le (show i + 1 ≤ j by omega) with h3 | h3
    · rw [h3] at h1; omega
    · have := hm (i + 1) j h3 hj.1; omega
  · exact h
theorem place_unique {l : List Int} (hm : ∀ i j, i < j → j < l.length → l.getD i 0 < l.getD j 0) {n : Int} {i j : Nat} (hi : AtPlace l n i) (hj : AtPlace l n j) : i = j :=
  Nat.le_antisymm (place_le hm hj hi) (place_le hm hi hj)

def TwoLists (xs ys : List Int) (w : World) (e : Ending) (w' : World) : Prop :=
  ∃ b1 b2 : Nat, e = .returned (.tuple #[.slice (some ⟨b1, 0, none⟩) xs.length xs.length, .slice (some ⟨b2, 0, none⟩) ys.length ys.length]) ∧ b1 < w'.heap.size ∧ b2 < w'.heap.size ∧
    (∀ i, i < xs.length → w'.cell? ⟨b1, i, none⟩ = some (.int .i64 (xs.getD i 0))) ∧ (∀ i, i < ys.length → w'.cell? ⟨b2, i, none⟩ = some (.int .i64 (ys.getD i 0))) ∧ Below w.heap.size w w'

def distBitsL : List Int := [0, 0, 0, 0, 1, 1, 2, 2, 3, 3, 4, 4, 5, 5, 6, 6, 7, 7, 8, 8, 9, 9, 10, 10, 11, 11, 12, 12, 13, 13]
theorem distBits_eq (i : Nat) (hi : i < 30) : distBitsL.getD i 0 = distBits i := by
  have : ∀ i : Fin 30, distBitsL.getD i.val 0 = distBits i.val := by decide
  exact this ⟨i, hi⟩

theorem cells_lit (w : World) (b : Nat) (hb : b = w.heap.size) (l : List Int) (t : TypeId) (i : Nat) (hi : i < l.length) : (w.alloc (.cells (l.map (Value.int .i64)).toArray t)).cell? ⟨b, i, none⟩ = some (.int .i64 (l.getD i 0)) := by
  subst hb
  rw [World.cell?_alloc_mark]
  simp [hi, List.getD_eq_getElem?_getD]

set_option maxRecDepth 100000 in
theorem ref_lengths (w : World) : Calls Tryd.prog 8 #[] w (TwoLists lenBases lenBits w) := by
  go_enter Tryd.func8, Tryd.ntmps8
  go_wp2
  go_ret2
  refine ⟨w.heap.size, w.heap.size + 1, rfl, by simp; omega, by simp, fun i hi => ?_, fun i hi => ?_, ((Below.refl _ _).alloc (Nat.le_refl _) _).alloc (by simp) _⟩
  · rw [World.cell?_alloc_lt _ _ _ (by simp)]
    exact cells_lit w _ rfl lenBases _ i hi
  · exact cells_lit (w.alloc _) _ (by simp) lenBits _ i hi

set_option maxRecDepth 100000 in
theorem ref_dists (w : World) : Calls Tryd.prog 9 #[] w (TwoLists distBases distBitsL w) := by
  go_enter Tryd.func9, Tryd.ntmps9
  go_wp2
  go_ret2
  refine ⟨w.heap.size, w.heap.size + 1, rfl, by simp; omega, by simp, fun i hi => ?_, fun i hi => ?_, ((Below.refl _ _).alloc (Nat.le_refl _) _).alloc (by simp) _⟩
  · rw [World.cell?_alloc_lt _ _ _ (by simp)]
    exact cells_lit w _ rfl distBases _ i hi
  · exact cells_lit (w.alloc _) _ (by simp) distBitsL _ i hi

/-- what Find returns -/
def FindIs (l : List Int) (n : Int) (i : Nat) (k : Nat) : Prop := (i = 0 ∧ ∀ j, j < k → n < l.getD j 0) ∨ (i < k ∧ l.getD i 0 ≤ n ∧ ∀ j, i < j → j < k → n < l.getD j 0)
theorem FindIs.place {l : List Int} {n : Int} {i : Nat} (h : FindIs l n i l.length) (h0 : l.getD 0 0 ≤ n) (hl : 0 < l.length) : AtPlace l n i := by
  rcases h with ⟨rfl, h⟩ | ⟨h1, h2, h3⟩
  · have := h 0 hl; omega
  · exact ⟨h1, h2, fun h => h3 _ (by omega) h⟩
theorem FindIs.yes {l : List Int} {n : Int} {i k : Nat} (_h : FindIs l n i k) (hk : l.getD k 0 ≤ n) : FindIs l n k (k + 1) := .inr ⟨by omega, hk, fun j h1 h2 => by omega⟩
theorem FindIs.no {l : List Int} {n : Int} {i k : Nat} (h : FindIs l n i k) (hk : n < l.getD k 0) : FindIs l n i (k + 1) := by
  rcases h with ⟨rfl, h⟩ | ⟨h1, h2, h3⟩
  · exact .inl ⟨rfl, fun j hj => by rcases Nat.lt_or_ge j k with h' | h'
                                    · exact h j h'
                                    · obtain rfl : j = k := by omega
                                      exact hk⟩
  · exact .inr ⟨by omega, h2, fun j hj hj2 => by rcases Nat.lt_or_ge j k with h' | h'
                                                 · exact h3 j hj h'
                                                 · obtain rfl : j = k := by omega
                                                   exact hk⟩
theorem FindIs.lt {l : List Int} {n : Int} {i : Nat} (h : FindIs l n i l.length) (hl : 0 < l.length) : i < l.length := by
  rcases h with ⟨rfl, _⟩ | ⟨h1, _⟩ <;> omega
def FindRes (l : List Int) (n : Int) (w : World) (e : Ending) (w' : World) : Prop := ∃ i : Nat, FindIs l n i l.length ∧ e = .returned (.int .i64 (i : Int)) ∧ w = w'

set_option maxHeartbeats 400000 in
theorem ref_find (l : List Int) (n : Int) (b : Nat) (c : Nat) (w : World) (hl : l.length ≤ 1000) (hc : ∀ i, i < l.length → w.cell? ⟨b, i, none⟩ = some (.int .i64 (l.getD i 0))) :
    Calls Tryd.prog 12 #[.slice (some ⟨b, 0, none⟩) l.length c, .int .i64 n] w (FindRes l n w) := by
  have HC := Lib.hid hc
  clear hc
  go_enter Tryd.func12, Tryd.ntmps12
  go_wp2
  go_loop [5, 6] (fun v i => ∃ k x : Nat, k ≤ l.length ∧ FindIs l n x k ∧ i = .int .i64 k ∧ v = .int .i64 x) (fun _ i => l.length - (intOf i).toNat)
  case atStart => exact ⟨0, 0, Nat.zero_le _, .inl ⟨rfl, by omega⟩, rfl, rfl⟩
  case round =>
    obtain ⟨k, x, hk, hx, rfl, rfl⟩ := hrel
    have HX := Lib.hid hx
    clear hx
    by_cases hlt : k < l.length
    · have c1 := HC.out k hlt
      have H1 := fun h => Lib.hid (HX.out.yes h)
      have H2 := fun h => Lib.hid (HX.out.no h)
      generalize l.getD k 0 = y at c1 H1 H2
      by_cases hy : y ≤ n
      · have H := H1 hy
        clear H1 H2
        go_wp2
        go_round
        case rel => exact ⟨k + 1, k, by omega, H.out, by go_num, rfl⟩
        case measure => simp [intOf]; omega
      · have H := H2 (by omega)
        clear H1 H2
        go_wp2
        go_round
        case rel => exact ⟨k + 1, x, by omega, H.out, by go_num, rfl⟩
        case measure => simp [intOf]; omega
    · obtain rfl : k = l.length := by omega
      go_wp2
      go_ret
      exact ⟨x, HX.out, rfl, rfl⟩
end Go.Proofs.YtmdofdobplfhcaaDoor
