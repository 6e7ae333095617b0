/-
  bitin.Reader: At, Rest.
-/
import Derived.Test.YtdmmlpioaiammaaDoorBitin
import Derived.Test.YtdmmlpioaiammaaDoorClone
namespace Go.Proofs.YtdmmlpioaiammaaDoor
open Go.RowKit

/-- the bytes from the next whole one on -/
def restBytes (buf : List UInt8) (pos : Nat) : List UInt8 := buf.drop ((pos + 7) / 8)

set_option maxHeartbeats 800000 in
theorem rest_any (B p : Nat) (o : Value) (buf : List UInt8) (pos gone : Nat) (w : World) (h : RdS w B p o buf pos gone) (hb : buf.length ≤ 1000000000) :
    Calls Tryd.prog 15 #[.pointer (some ⟨p, 0, none⟩)] w (Gives 5 (bytesV (restBytes buf pos)) w) := by
  have c0 := h.cells.cell 0
  have c1 := h.cells.cell 1
  simp at c0 c1
  obtain ⟨A, c, rfl⟩ := own_form h.own
  have hle := h.le
  have hcap : buf.length ≤ c := by
    rcases h.own.2 with ⟨hv, hz⟩ | ⟨g, cap, cur, hv, _, _, hnc, _⟩
    · omega
    · injection hv with _ _ h3; omega
  have hsl := (Sl.of_own h.own).rest c ((pos + 7) / 8) (by rw [len_bytesV]; exact hcap)
  have hlt := h.cells.lt
  clear h
  obtain ⟨i0, hi0, hz0, hz1, hz2⟩ := info_parts byteInfoC
  have e1 : IntKind.i64.wrap ((pos : Int) + 7) = (pos : Int) + 7 := IntWalk.i64_in _ (by omega)
  have e2 : ((pos : Int) + 7) / 8 = (((pos + 7) / 8 : Nat) : Int) := by omega
  have e3 : ((pos : Int) + 7).tdiv 8 = (((pos + 7) / 8 : Nat) : Int) := by rw [Int.tdiv_eq_ediv_of_nonneg (by omega)]; exact e2
  have hfl : (pos + 7) / 8 ≤ buf.length := by omega
  have e4 : IntKind.i64.wrap (((pos + 7) / 8 : Nat) : Int) = (((pos + 7) / 8 : Nat) : Int) := IntWalk.i64_in _ (by omega)
  have hq := run_slice_from Tryd.underlying25 hi0 hz1 A buf.length c ((pos + 7) / 8) hfl
  have hlr : (restBytes buf pos).length = buf.length - (pos + 7) / 8 := by unfold restBytes; rw [List.length_drop]
  have hS : Sl w w.heap.size (restAt A c ((pos + 7) / 8)) (bytesV (restBytes buf pos)) := by
    unfold restBytes; rw [bytesV, List.map_drop]; exact hsl
  have CL := fun m => clone_any (restBytes buf pos) (restAt A c ((pos + 7) / 8)) (c - (pos + 7) / 8) w.heap.size (w.drewN m) (by omega) (hS.drewN m) (Nat.le_refl _)
  rw [hlr] at CL
  have HCL := fun m => Lib.hid (CL m)
  clear CL hS hlr hsl hi0 hz0 hz1 hz2
  have f0 : (0 : Int) ≤ (((pos + 7) / 8 : Nat) : Int) := Int.natCast_nonneg _
  have f1 : (((pos + 7) / 8 : Nat) : Int) ≤ (buf.length : Int) := by omega
  generalize (pos + 7) / 8 = f at e2 e3 e4 hq HCL hfl f0 f1
  go_enter Tryd.func15, Tryd.ntmps15
  go_wp2
  go_still_tail 11, (by kernel_rfl)
  go_wp2_with fail
  refine (HCL 1).out.mono ?_
  rintro e w1 ⟨A1, c1', rfl, hown, hbel⟩
  have HP : Hid (Gives 5 (bytesV (restBytes buf pos)) w (.returned (.slice A1 (bytesV (restBytes buf pos)).length c1')) w1) := ⟨A1, c1', rfl, hown, ⟨hbel.os, hbel.tape, hbel.output, hbel.size, hbel.block⟩⟩
  clear hown hbel
  go_wp2_with fail
  go_ret
  exact HP.out
end Go.Proofs.YtdmmlpioaiammaaDoor
