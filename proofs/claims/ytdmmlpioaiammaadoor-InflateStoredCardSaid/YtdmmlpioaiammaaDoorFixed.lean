/-
  The fixed codes' lengths: contracts.
-/
import Derived.Test.YtdmmlpioaiammaaDoorWholes
import Derived.Test.YtdmmlpioaiammaaDoorClone
import Derived.OwnWalk
namespace Go.Proofs.YtdmmlpioaiammaaDoor
open Go.RowKit

def fixedLit (i : Nat) : Int := if i < 144 then 8 else if i < 256 then 9 else if i < 280 then 7 else 8
def fixedLits : List Int := (List.range 288).map fixedLit
def fixedDists : List Int := List.replicate 32 5
theorem intInfo : (Tryd.prog.info? 3).map (fun i => (i.zero, i.size, i.bytes)) = some (some (.int .i64 0), 1, 8) := by kernel_rfl

theorem set_prefix {l : List Int} {k : Nat} {f : Nat → Int} (h : ∀ i, i < k → l[i]? = some (f i)) (hk : k < l.length) : ∀ i, i < k + 1 → (l.set k (f k))[i]? = some (f i) := by
  intro i hi
  rw [List.getElem?_set]
  split
  · rename_i hik
    subst hik
    simp
  · exact h i (by omega)
theorem all_prefix {l : List Int} {n : Nat} {f : Nat → Int} (hl : l.length = n) (h : ∀ i, i < n → l[i]? = some (f i)) : l = (List.range n).map f := by
  apply List.ext_getElem?
  intro i
  by_cases hi : i < n
  · rw [h i hi]; simp [hi]
  · rw [List.getElem?_eq_none (by omega), List.getElem?_eq_none (by simp; omega)]
theorem intsV_set (l : List Int) (k : Nat) (v : Int) : intsV (l.set k v) = (intsV l).set k (.int .i64 v) := by simp [intsV, List.map_set]

theorem intsV_rep (n : Nat) (v : Int) : intsV (List.replicate n v) = List.replicate n (.int .i64 v) := by simp [intsV]

set_option maxRecDepth 100000 in
set_option maxHeartbeats 800000 in
theorem fixedLits_any (w : World) : Calls Tryd.prog 31 #[] w (Gives 3 (intsV fixedLits) w) := by
  obtain ⟨i0, hi0, hz0, hz1, hz2⟩ := info_parts intInfo
  obtain ⟨w1, hrun, hown1, hg1⟩ := run_make_full (P := Tryd.prog) w w.heap.size 39 3 i0 (.int .i64 0) 1 Tryd.underlying39 hi0 hz0 hz1 .i64 .i64 288 (by rw [hz2]; decide) (by decide) (Nat.le_refl _)
  have hc : (madeCells (Value.int .i64 0).cells (288 * 1)).toList = intsV (List.replicate 288 0) := by
    rw [show (Value.int .i64 0).cells = #[.int .i64 0] from rfl, toList_madeCells_one, intsV_rep]
  rw [hc] at hown1
  have hb1 : Below w.heap.size w w1 := (Below.refl _ _).grown hg1 (Nat.le_refl _) (by simp)
  have HO := Lib.hid hown1
  have HB := Lib.hid hb1
  clear hown1 hb1 hg1 hc hi0 hz0 hz1 hz2
  have HR : ∃ xs : List Int, xs.length = 288 ∧ (∀ i, i < 0 → xs[i]? = some (fixedLit i)) ∧ w1.ownsRow w.heap.size 3 1 (.slice (some ⟨w.heap.size, 0, none⟩) 288 288) 288 (intsV xs) := ⟨List.replicate 288 0, List.length_replicate, by omega, HO.out⟩
  have HR := Lib.hid HR
  clear HO
  have hrun' : (Instr.makeSlice 39 (.int .i64 288) (.int .i64 288)).run Tryd.prog w = .ok (.slice (some ⟨w.heap.size, 0, none⟩) 288 288) w1 := hrun
  clear hrun
  have hlt := HB.out.size
  go_enter Tryd.func31, Tryd.ntmps31
  go_wp2
  go_loopw [6] (fun i wr => ∃ (k : Nat) (xs : List Int), k ≤ 288 ∧ i = .int .i64 k ∧ xs.length = 288 ∧ (∀ i, i < k → xs[i]? = some (fixedLit i)) ∧ wr.ownsRow w.heap.size 3 1 (.slice (some ⟨w.heap.size, 0, none⟩) 288 288) 288 (intsV xs) ∧ Below w.heap.size w wr) (fun i _ => 288 - (intOf i).toNat)
  case atStart =>
    obtain ⟨xs, h1, h2, h3⟩ := HR.out
    exact ⟨0, xs, by omega, rfl, h1, h2, h3, HB.out⟩
  case round =>
    obtain ⟨k, xs, hk, rfl, hl, hp, hown, hbr⟩ := hrel
    by_cases hlt : k < 288
    · have hcell := hown.cellAt k (by omega)
      rw [show (intsV xs)[k]? = some (.int .i64 (xs[k]'(by omega))) by simp [intsV, hl, hlt]] at hcell
      have hfz := hown.frozenAt k
      obtain ⟨hst, hgr⟩ := hown.stored k (.int .i64 (fixedLit k))
      have HST : wr.setCell ⟨w.heap.size, k, none⟩ (.int .i64 (fixedLit k)) |>.ownsRow w.heap.size 3 1 (.slice (some ⟨w.heap.size, 0, none⟩) 288 288) 288 (intsV (xs.set k (fixedLit k))) := by rw [intsV_set]; exact hst
      have HST := Lib.hid HST
      have HP := Lib.hid (set_prefix hp (by omega))
      have HB2 := Lib.hid (Below.setCell (p := ⟨w.heap.size, k, none⟩) hbr (Nat.le_refl _) (.int .i64 (fixedLit k)))
      have hl2 : (xs.set k (fixedLit k)).length = 288 := by simp [hl]
      have HL2 := Lib.hid hl2
      generalize xs.set k (fixedLit k) = ys at HST HP HL2
      generalize xs[k]'(by omega) = old at hcell
      clear hst hgr hp hown hbr hl hl2
      have HF := Lib.hid (show fixedLit k = if k < 144 then 8 else if k < 256 then 9 else if k < 280 then 7 else 8 from rfl)
      by_cases c1 : k < 144
      · have t1 : decide ((k : Int) < 144) = true := by simp; omega
        have HF := Lib.hid (HF.out.trans (if_pos c1))
        go_wp2
        go_roundw
        case rel => exact ⟨k + 1, ys, by omega, by go_num, HL2.out, HP.out, by rw [← HF.out]; exact HST.out, by rw [← HF.out]; exact HB2.out⟩
        case measure => simp [intOf]; omega
      · by_cases c2 : k < 256
        · have HF := Lib.hid (HF.out.trans ((if_neg c1).trans (if_pos c2)))
          go_wp2
          go_roundw
          case rel => exact ⟨k + 1, ys, by omega, by go_num, HL2.out, HP.out, by rw [← HF.out]; exact HST.out, by rw [← HF.out]; exact HB2.out⟩
          case measure => simp [intOf]; omega
        · by_cases c3 : k < 280
          · have HF := Lib.hid (HF.out.trans ((if_neg c1).trans ((if_neg c2).trans (if_pos c3))))
            go_wp2
            go_roundw
            case rel => exact ⟨k + 1, ys, by omega, by go_num, HL2.out, HP.out, by rw [← HF.out]; exact HST.out, by rw [← HF.out]; exact HB2.out⟩
            case measure => simp [intOf]; omega
          · have HF := Lib.hid (HF.out.trans ((if_neg c1).trans ((if_neg c2).trans (if_neg c3))))
            go_wp2
            go_roundw
            case rel => exact ⟨k + 1, ys, by omega, by go_num, HL2.out, HP.out, by rw [← HF.out]; exact HST.out, by rw [← HF.out]; exact HB2.out⟩
            case measure => simp [intOf]; omega
    · obtain rfl : k = 288 := by omega
      have hx := all_prefix hl hp
      have HX := Lib.hid (show xs = fixedLits from hx)
      clear hx hp
      have HO := Lib.hid hown
      clear hown
      go_wp2
      go_ret
      exact gives_mk (by rw [len_intsV, ← HX.out]; exact hl) rfl (by rw [← HX.out]; exact HO.out) hbr

set_option maxRecDepth 100000 in
set_option maxHeartbeats 800000 in
theorem fixedDists_any (w : World) : Calls Tryd.prog 32 #[] w (Gives 3 (intsV fixedDists) w) := by
  obtain ⟨i0, hi0, hz0, hz1, hz2⟩ := info_parts intInfo
  obtain ⟨w1, hrun, hown1, hg1⟩ := run_make_full (P := Tryd.prog) w w.heap.size 39 3 i0 (.int .i64 0) 1 Tryd.underlying39 hi0 hz0 hz1 .i64 .i64 32 (by rw [hz2]; decide) (by decide) (Nat.le_refl _)
  have hc : (madeCells (Value.int .i64 0).cells (32 * 1)).toList = intsV (List.replicate 32 0) := by
    rw [show (Value.int .i64 0).cells = #[.int .i64 0] from rfl, toList_madeCells_one, intsV_rep]
  rw [hc] at hown1
  have hb1 : Below w.heap.size w w1 := (Below.refl _ _).grown hg1 (Nat.le_refl _) (by simp)
  have HO := Lib.hid hown1
  have HB := Lib.hid hb1
  clear hown1 hb1 hg1 hc hi0 hz0 hz1 hz2
  have HR : ∃ xs : List Int, xs.length = 32 ∧ (∀ i, i < 0 → xs[i]? = some ((fun _ => 5 : Nat → Int) i)) ∧ w1.ownsRow w.heap.size 3 1 (.slice (some ⟨w.heap.size, 0, none⟩) 32 32) 32 (intsV xs) := ⟨List.replicate 32 0, List.length_replicate, by omega, HO.out⟩
  have HR := Lib.hid HR
  clear HO
  have hrun' : (Instr.makeSlice 39 (.int .i64 32) (.int .i64 32)).run Tryd.prog w = .ok (.slice (some ⟨w.heap.size, 0, none⟩) 32 32) w1 := hrun
  clear hrun
  have hlt := HB.out.size
  go_enter Tryd.func32, Tryd.ntmps32
  go_wp2
  go_loopw [6] (fun i wr => ∃ (k : Nat) (xs : List Int), k ≤ 32 ∧ i = .int .i64 k ∧ xs.length = 32 ∧ (∀ i, i < k → xs[i]? = some ((fun _ => 5 : Nat → Int) i)) ∧ wr.ownsRow w.heap.size 3 1 (.slice (some ⟨w.heap.size, 0, none⟩) 32 32) 32 (intsV xs) ∧ Below w.heap.size w wr) (fun i _ => 32 - (intOf i).toNat)
  case atStart =>
    obtain ⟨xs, h1, h2, h3⟩ := HR.out
    exact ⟨0, xs, by omega, rfl, h1, h2, h3, HB.out⟩
  case round =>
    obtain ⟨k, xs, hk, rfl, hl, hp, hown, hbr⟩ := hrel
    by_cases hlt : k < 32
    · have hcell := hown.cellAt k (by omega)
      rw [show (intsV xs)[k]? = some (.int .i64 (xs[k]'(by omega))) by simp [intsV, hl, hlt]] at hcell
      have hfz := hown.frozenAt k
      obtain ⟨hst, hgr⟩ := hown.stored k (.int .i64 5)
      have HST : wr.setCell ⟨w.heap.size, k, none⟩ (.int .i64 5) |>.ownsRow w.heap.size 3 1 (.slice (some ⟨w.heap.size, 0, none⟩) 32 32) 32 (intsV (xs.set k 5)) := by rw [intsV_set]; exact hst
      have HST := Lib.hid HST
      have HP := Lib.hid (set_prefix (f := fun _ => 5) hp (by omega))
      have HB2 := Lib.hid (Below.setCell (p := ⟨w.heap.size, k, none⟩) hbr (Nat.le_refl _) (.int .i64 5))
      have hl2 : (xs.set k 5).length = 32 := by simp [hl]
      have HL2 := Lib.hid hl2
      generalize xs.set k 5 = ys at HST HP HL2
      generalize xs[k]'(by omega) = old at hcell
      clear hst hgr hp hown hbr hl hl2
      go_wp2
      go_roundw
      case rel => exact ⟨k + 1, ys, by omega, by go_num, HL2.out, HP.out, HST.out, HB2.out⟩
      case measure => simp [intOf]; omega
    · obtain rfl : k = 32 := by omega
      have hx := all_prefix hl hp
      have HX := Lib.hid (show xs = fixedDists by rw [hx]; decide)
      clear hx hp
      have HO := Lib.hid hown
      clear hown
      go_wp2
      go_ret
      exact gives_mk (by rw [len_intsV, ← HX.out]; exact hl) rfl (by rw [← HX.out]; exact HO.out) hbr
end Go.Proofs.YtdmmlpioaiammaaDoor
