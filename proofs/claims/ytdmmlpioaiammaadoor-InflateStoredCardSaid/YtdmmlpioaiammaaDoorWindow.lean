/-
  What the methods of window.Window do to a window: the last 32768 of all bytes that were put.
-/
import Derived.Test.YtdmmlpioaiammaaDoorProg
import Derived.Test.YtdmmlpioaiammaaDoorCopy
import Derived.Test.YtdmmlpioaiammaaDoorClone
import Derived.Test.YtdmmlpioaiammaaDoorStr
import Derived.OwnWalk
import Derived.StillTailTactics
import Derived.Deep.QuietTactic
import Derived.BigQuiet
import Derived.Deep.RegionHeld3
import Derived.Deep.RegionLaw
import Derived.RegionTactic
import Derived.BigRegion
namespace Go.Proofs.YtdmmlpioaiammaaDoor
open Go.RowKit

/-- a window at block p: all bytes that were put -/
def WinC (cs : List Value) (all : List UInt8) : Prop :=
  cs.length = 32769 ∧ cs[32768]? = some (.int .i64 (all.length : Int)) ∧ ∀ i, i < all.length → all.length ≤ i + 32768 → cs[i % 32768]? = some (.int .u8 ((all.getD i 0).toNat : Int))
def WinS (w : World) (p : Nat) (all : List UInt8) : Prop := ∃ cs : List Value, Whole w p 50 cs.toArray ∧ WinC cs all
theorem WinS.fr {S : Nat → Prop} {w w' : World} {p : Nat} {all : List UInt8} (h : WinS w p all) (hf : Fr S w w') (hn : ¬ S p) : WinS w' p all := by
  obtain ⟨cs, h1, h2⟩ := h
  exact ⟨cs, h1.fr hf hn, h2⟩
theorem WinS.lt {w : World} {p : Nat} {all : List UInt8} (h : WinS w p all) : p < w.heap.size := by
  obtain ⟨cs, h1, h2⟩ := h
  exact h1.lt
theorem WinS.drew {w : World} {p : Nat} {all : List UInt8} (h : WinS w p all) : WinS w.drew p all := h
theorem WinS.drewN {w : World} {p : Nat} {all : List UInt8} (h : WinS w p all) (n : Nat) : WinS (w.drewN n) p all := h

theorem getD_append_left' (a b : List UInt8) (i : Nat) (h : i < a.length) : (a ++ b).getD i 0 = a.getD i 0 := by
  simp [List.getD_eq_getElem?_getD, List.getElem?_append_left h]
theorem getD_append_right' (a b : List UInt8) (i : Nat) (h : a.length ≤ i) : (a ++ b).getD i 0 = b.getD (i - a.length) 0 := by
  simp [List.getD_eq_getElem?_getD, List.getElem?_append_right h]
/-- one byte more -/
theorem WinC.push {cs : List Value} {all : List UInt8} (h : WinC cs all) (c : UInt8) :
    WinC ((cs.set (all.length % 32768) (.int .u8 (c.toNat : Int))).set 32768 (.int .i64 ((all.length : Int) + 1))) (all ++ [c]) := by
  obtain ⟨h1, h2, h3⟩ := h
  refine ⟨by simp [h1], ?_, fun i hi hf => ?_⟩
  · rw [List.getElem?_set_self (by simp [h1])]; simp
  · simp only [List.length_append, List.length_cons, List.length_nil] at hi hf
    rw [List.getElem?_set_ne (by omega)]
    by_cases he : i = all.length
    · subst he
      rw [List.getElem?_set_self (by omega), getD_append_right' _ _ _ (Nat.le_refl _)]
      simp
    · rw [List.getElem?_set_ne (by omega), getD_append_left' _ _ _ (by omega)]
      exact h3 i (by omega) (by omega)
/-- many bytes more, up to the ring's end -/
theorem WinC.splice {cs : List Value} {all : List UInt8} (h : WinC cs all) (b : List UInt8) (hb : all.length % 32768 + b.length ≤ 32768) :
    WinC ((Go.splice cs (all.length % 32768) (bytesV b)).set 32768 (.int .i64 ((all.length : Int) + (b.length : Int)))) (all ++ b) := by
  obtain ⟨h1, h2, h3⟩ := h
  have hl : (bytesV b).length = b.length := len_bytesV b
  have hsl : (Go.splice cs (all.length % 32768) (bytesV b)).length = 32769 := by rw [length_splice _ _ _ (by omega)]; exact h1
  refine ⟨by simp [hsl], ?_, fun i hi hf => ?_⟩
  · rw [List.getElem?_set_self (by omega)]; simp
  · simp only [List.length_append] at hi hf
    rw [List.getElem?_set_ne (by omega), splice_get _ _ _ (by omega), hl]
    by_cases hlt : i < all.length
    · rw [getD_append_left' _ _ _ hlt]
      have h4 := h3 i hlt (by omega)
      by_cases h5 : i % 32768 < all.length % 32768
      · rw [if_pos h5]; exact h4
      · rw [if_neg h5, if_neg (by omega)]; exact h4
    · have hi2 : i - all.length < b.length := by omega
      rw [if_neg (by omega), if_pos (by omega), getD_append_right' _ _ _ (by omega), show i % 32768 - all.length % 32768 = i - all.length by omega]
      simp [bytesV, byteV, hi2]

noncomputable def winCells : List Value := match (Tryd.prog.info? 50).bind (·.zero) with | some z => z.cells.toList | none => []
theorem winBuild (W : World) : (zeroValue 50).run Tryd.prog W = .ok (.agg winCells.toArray) W := by kernel_rfl
theorem winCells_C : WinC winCells [] := by
  have h : ((Tryd.prog.info? 50).bind (·.zero)).map (fun z => (z.cells.size, z.cells[32768]?)) = some (32769, some (.int .i64 0)) := by kernel_rfl
  unfold winCells
  cases hz : (Tryd.prog.info? 50).bind (·.zero) with
  | none => rw [hz] at h; cases h
  | some z =>
    rw [hz] at h
    simp only [Option.map_some, Option.some.injEq, Prod.mk.injEq] at h
    refine ⟨by simpa using h.1, ?_, fun i hi => by simp at hi⟩
    have := h.2
    simpa using this
attribute [irreducible] winCells

theorem winNew_any (w : World) : Calls Tryd.prog 12 #[] w fun e w' => e = .returned (.pointer (some ⟨w.heap.size, 0, none⟩)) ∧ WinS w' w.heap.size [] ∧ Below w.heap.size w w' := by
  have hbd := winBuild
  have HC := Lib.hid winCells_C
  generalize winCells = cs at hbd HC
  go_enter Tryd.func12, Tryd.ntmps12
  go_wp2_with fail
  go_ret
  exact ⟨rfl, ⟨cs, Whole.new _ _ _, HC.out⟩, (Below.refl _ _).alloc (Nat.le_refl _) _⟩

theorem winLen_any (p : Nat) (all : List UInt8) (w : World) (hw : WinS w p all) : Calls Tryd.prog 46 #[.pointer (some ⟨p, 0, none⟩)] w fun e w' => e = .returned (.int .i64 ((min all.length 32768 : Nat) : Int)) ∧ w = w' := by
  obtain ⟨cs, h1, h2, h3, h4⟩ := hw
  have c0 := (h1.cell 32768).trans (by simpa using h3)
  have hm : ∀ W, (Builtin.min_ #[3, 3] 3 #[.int .i64 (all.length : Int), .int .i64 32768]).run Tryd.prog W = .ok (.int .i64 ((min all.length 32768 : Nat) : Int)) W := fun W => by
    have : ((min all.length 32768 : Nat) : Int) = if (32768 : Int) < (all.length : Int) then 32768 else (all.length : Int) := by split <;> omega
    rw [this]; simp [go_sem]
  generalize (min all.length 32768 : Nat) = m at hm
  clear h1 h2 h3 h4
  go_enter Tryd.func46, Tryd.ntmps46
  go_wp2_with fail
  go_ret
  exact ⟨rfl, rfl⟩
theorem winAll_any (p : Nat) (all : List UInt8) (w : World) (hw : WinS w p all) : Calls Tryd.prog 51 #[.pointer (some ⟨p, 0, none⟩)] w fun e w' => e = .returned (.int .i64 (all.length : Int)) ∧ w = w' := by
  obtain ⟨cs, h1, h2, h3, h4⟩ := hw
  have c0 := (h1.cell 32768).trans (by simpa using h3)
  clear h1 h2 h3 h4
  go_enter Tryd.func51, Tryd.ntmps51
  go_wp2_with fail
  go_ret
  exact ⟨rfl, rfl⟩

set_option maxRecDepth 100000 in
set_option maxHeartbeats 400000 in
theorem win_put (p : Nat) (all : List UInt8) (c : UInt8) (w : World) (hw : WinS w p all) (hn : all.length ≤ 1000000000) :
    Calls Tryd.prog 57 #[.pointer (some ⟨p, 0, none⟩), .int .u8 (c.toNat : Int)] w fun e w' => e = .returned (.tuple #[]) ∧ WinS w' p (all ++ [c]) ∧ Fr (fun k => k = p) w w' := by
  obtain ⟨cs, h1, hC⟩ := hw
  have c0 := (h1.cell 32768).trans (by simpa using hC.2.1)
  have hl := hC.1
  have hm32 : all.length % 32768 < 32768 := Nat.mod_lt _ (by omega)
  obtain ⟨v0, hv0⟩ : ∃ v0, cs[all.length % 32768]? = some v0 := ⟨_, List.getElem?_eq_getElem (by omega)⟩
  have c1 := (h1.cell (all.length % 32768)).trans (by simpa using hv0)
  have f1 := h1.frozen (all.length % 32768)
  have f0 := h1.frozen 32768
  have HP := Lib.hid (hC.push c)
  have HW := Lib.hid h1
  clear h1 hC hv0 hl
  generalize hnn : all.length = n at c0 c1 f1 hm32 hn HP
  clear hnn
  have e1 : (n : Int).tmod 32768 = ((n % 32768 : Nat) : Int) := by rw [Int.tmod_eq_emod_of_nonneg (Int.natCast_nonneg _)]; omega
  have e2 : (n : Int) % 32768 = ((n % 32768 : Nat) : Int) := by omega
  generalize n % 32768 = m at e1 e2 c1 f1 hm32 HP
  have g1 : (0 : Int) ≤ (m : Int) := Int.natCast_nonneg _
  have g2 : (m : Int) < 32768 := by omega
  have ne : ¬ m = 32768 := by omega
  have ne2 : ¬ 32768 = m := by omega
  generalize (c.toNat : Int) = x at HP
  go_enter Tryd.func57, Tryd.ntmps57
  go_wp2_with fail
  go_region
  go_wp2_with fail
  go_end0
  refine ⟨rfl, ⟨_, ?_, HP.out⟩, ((((Fr.refl (fun k => k = p) w).setCell (p := ⟨p, m, none⟩) (.inl rfl) _).setCell (p := ⟨p, 32768, none⟩) (.inl rfl) _).drew)⟩
  have h := ((HW.out.set_ m (.int .u8 x)).set_ 32768 (.int .i64 ((n : Int) + 1))).drew
  simpa using h

set_option maxRecDepth 100000 in
set_option maxHeartbeats 400000 in
theorem win_back (p : Nat) (all : List UInt8) (d : Nat) (w : World) (hw : WinS w p all) (hn : all.length ≤ 1000000000) (hd : 1 ≤ d) (hd2 : d ≤ all.length) (hd3 : d ≤ 32768) :
    Calls Tryd.prog 56 #[.pointer (some ⟨p, 0, none⟩), .int .i64 (d : Int)] w fun e w' => e = .returned (.int .u8 ((all.getD (all.length - d) 0).toNat : Int)) ∧ ∃ n, w' = w.drewN n := by
  obtain ⟨cs, h1, hC⟩ := hw
  have c0 := (h1.cell 32768).trans (by simpa using hC.2.1)
  have c1 := (h1.cell ((all.length - d) % 32768)).trans ((List.getElem?_toArray).trans (hC.2.2 (all.length - d) (by omega) (by omega)))
  have hm32 : (all.length - d) % 32768 < 32768 := Nat.mod_lt _ (by omega)
  clear h1 hC
  have e0 : IntKind.i64.wrap ((all.length : Int) - (d : Int)) = ((all.length - d : Nat) : Int) := by rw [IntWalk.i64_in _ (by omega)]; omega
  have e00 : (all.length : Int) - (d : Int) = ((all.length - d : Nat) : Int) := by omega
  have e1 : (((all.length - d : Nat)) : Int).tmod 32768 = (((all.length - d) % 32768 : Nat) : Int) := by rw [Int.tmod_eq_emod_of_nonneg (Int.natCast_nonneg _)]; omega
  have e2 : (((all.length - d : Nat)) : Int) % 32768 = (((all.length - d) % 32768 : Nat) : Int) := by omega
  have e3 : IntKind.i64.wrap (((all.length - d : Nat)) : Int) = (((all.length - d : Nat)) : Int) := IntWalk.i64_in _ (by omega)
  generalize (all.getD (all.length - d) 0).toNat = y at c1
  generalize (all.length - d) % 32768 = m at c1 hm32 e1 e2
  generalize all.length - d = q at e0 e00 e1 e2 e3
  have g1 : (0 : Int) ≤ (m : Int) := Int.natCast_nonneg _
  have g2 : (m : Int) < 32768 := by omega
  have e4 : IntKind.i64.wrap (m : Int) = (m : Int) := IntWalk.i64_in _ (by omega)
  go_enter Tryd.func56, Tryd.ntmps56
  go_wp2_with fail
  go_quiet (fail)
  go_wp2_with fail
  go_ret
  exact ⟨rfl, _, rfl⟩
end Go.Proofs.YtdmmlpioaiammaaDoor
