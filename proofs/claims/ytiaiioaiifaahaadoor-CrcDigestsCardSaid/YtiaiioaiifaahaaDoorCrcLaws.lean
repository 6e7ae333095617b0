/-
  The laws CrcSums and CrcLinear return true: walks.
-/
import Derived.Test.YtiaiioaiifaahaaDoorCrcRef
import Derived.Deep.QuietTactic
import Derived.BigQuiet
import Derived.Lib.SlBytesConst
namespace Go.Proofs.YtiaiioaiifaahaaDoor
open Go.RowKit

theorem Steps.below {w w' : World} (h : Steps w) (hb : Below w.heap.size w w') (hp : 0 < w.heap.size) : Steps w' := fun i hi => (hb.cell (p := ⟨0, i, none⟩) hp).trans (h i hi)
theorem Steps.alloc {w : World} (h : Steps w) (hp : 0 < w.heap.size) (o : Obj) : Steps (w.alloc o) := fun i hi => (World.cell?_alloc_lt w o _ hp).trans (h i hi)
theorem Steps.lt {w : World} (h : Steps w) : 0 < w.heap.size := by
  have h0 := h 0 (by omega)
  rcases Nat.lt_or_ge 0 w.heap.size with hlt | hge
  · exact hlt
  · simp [World.cell?, Array.getElem?_eq_none hge] at h0

def nine : List UInt8 := [49, 50, 51, 52, 53, 54, 55, 56, 57]
theorem nine_sum : Crc.update 0 nine = 3421780262 := by decide +kernel

set_option maxHeartbeats 400000 in
theorem awake_any (w : World) (ht : Steps w) :
    Calls Tryd.prog 6 #[] w fun e w' => e = .returned (.bool true) ∧ Below w.heap.size w w' := by
  have HT := Lib.hid ht
  have hlt := ht.lt
  clear ht
  have kc := fun (w : World) (C : Array Value) (n c : Nat) => Lib.run_convert_bytes_const (P := Tryd.prog) w 23 5 C n c Tryd.underlying23 Tryd.underlying5
  go_enter Tryd.func6, Tryd.ntmps6
  go_wp2_with fail
  refine (sum_any _ nine 9 (w.heap.size + 1) _ (by decide) (Sl.new_ _ _ _ _) (HT.out.alloc hlt _)).mono ?_
  rintro e w' ⟨rfl, rfl⟩
  rw [nine_sum]
  go_wp2_with fail
  go_ret
  exact ⟨rfl, (Below.refl _ _).alloc (Nat.le_refl _) _⟩

set_option maxHeartbeats 400000 in
theorem crcSums_walk (s : Nat) (a : Option Addr) (l : List UInt8) (cap : Nat) (w : World) (hs : s < 4294967296) (hl : l.length ≤ maxLen) (_lc : l.length ≤ cap) (hsl : Sl w w.heap.size a (bytesV l)) (ht : Steps w) :
    Calls Tryd.prog 3 #[.int .u32 (s : Int), .slice a l.length cap] w fun e w' => e = .returned (.bool true) ∧ Below w.heap.size w w' := by
  have HC := Lib.hid hsl
  have HT := Lib.hid ht
  have hlt := ht.lt
  clear hsl ht
  have HL := Lib.hid hl
  unfold maxLen at hl
  go_enter Tryd.func3, Tryd.ntmps3
  go_wp2_with fail
  refine (awake_any w HT.out).mono ?_
  rintro e w1 ⟨rfl, hb⟩
  have HT1 := Lib.hid (HT.out.below hb hlt)
  have HC1 := Lib.hid (HC.out.below hb (Nat.le_refl _))
  by_cases hk : 1000 < l.length
  · have hd : decide ((1000 : Int) < l.length) = true := by simp; omega
    go_wp2_with fail
    go_ret
    exact ⟨rfl, hb⟩
  · have hd : decide ((1000 : Int) < l.length) = false := by simp; omega
    go_wp2_with fail
    refine (update_any s a l cap _ _ HL.out hs HC1.out HT1.out).mono ?_
    rintro e w2 ⟨rfl, rfl⟩
    go_wp2_with fail
    refine (ref_update s a l cap _ _ HL.out hs HC1.out).mono ?_
    rintro e w2 ⟨rfl, rfl⟩
    go_wp2_with fail
    refine (sum_any a l cap _ _ HL.out HC1.out HT1.out).mono ?_
    rintro e w2 ⟨rfl, rfl⟩
    go_wp2_with fail
    refine (ref_update 0 a l cap _ _ HL.out (by decide) HC1.out).mono ?_
    rintro e w2 ⟨rfl, rfl⟩
    go_wp2_with fail
    go_ret
    exact ⟨rfl, hb⟩
end Go.Proofs.YtiaiioaiifaahaaDoor
