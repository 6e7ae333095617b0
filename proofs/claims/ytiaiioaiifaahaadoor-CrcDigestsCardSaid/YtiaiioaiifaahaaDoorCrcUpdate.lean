/-
  What crc.Update and crc.Sum compute, for every sum and every bytes: Crc.update. Condition: the table of four bits lies as the program lays it.
-/
import Derived.Test.YtiaiioaiifaahaaDoorProg
import Derived.Test.YtiaiioaiifaahaaDoorMem
import Derived.Test.YtiaiioaiifaahaaDoorCrcMath
namespace Go.Proofs.YtiaiioaiifaahaaDoor
open Go.RowKit

/-- The table's cells. -/
def Steps (w : World) : Prop := ∀ i, i < 16 → w.cell? ⟨0, i, none⟩ = some (.int .u32 ((Crc.tab.getD i 0 : Nat) : Int))

def stepsTab : List Int := [0, 498536548, 997073096, 651767980, 1994146192, 1802195444, 1303535960, 1342533948, 3988292384, 4027552580, 3604390888, 3412177804, 2607071920, 2262029012, 2685067896, 3183342108]
theorem steps_of {w : World} (h : ∀ i, i < stepsTab.length → w.cell? ⟨0, i, none⟩ = some (.int .u32 (stepsTab.getD i 0))) : Steps w := by
  intro i hi
  rw [h i hi]
  have : ∀ j : Fin 16, stepsTab.getD j.val 0 = ((Crc.tab.getD j.val 0 : Nat) : Int) := by decide
  rw [this ⟨i, hi⟩]

theorem compl_u32 (s : Nat) (hs : s < 4294967296) : bits .xor .u32 IntKind.u32.max (s : Int) = ((4294967295 ^^^ s : Nat) : Int) := by
  have : IntKind.u32.max = ((4294967295 : Nat) : Int) := by decide
  rw [this]
  exact u32_xor_nat _ _ (by decide) hs

set_option maxHeartbeats 400000 in
theorem update_any (s : Nat) (a : Option Addr) (l : List UInt8) (cap : Nat) (B : Nat) (w : World) (hl : l.length ≤ maxLen) (hs : s < 4294967296) (hsl : Sl w B a (bytesV l)) (ht : Steps w) :
    Calls Tryd.prog 7 #[.int .u32 (s : Int), .slice a l.length cap] w fun e w' => e = .returned (.int .u32 ((Crc.update s l : Nat) : Int)) ∧ w = w' := by
  unfold maxLen at hl
  have HC := Lib.hid hsl
  have HT := Lib.hid ht
  clear hsl ht
  have hv0 := compl_u32 s hs
  have hv0lt : 4294967295 ^^^ s < 4294967296 := Crc.x32 (by decide) hs
  have HF := Lib.hid (show Crc.fold (4294967295 ^^^ s) [] = 4294967295 ^^^ s from rfl)
  have HU := Lib.hid (show Crc.update s l = 4294967295 ^^^ Crc.fold (4294967295 ^^^ s) l from rfl)
  generalize 4294967295 ^^^ s = v0 at hv0 hv0lt HF HU
  go_enter Tryd.func7, Tryd.ntmps7
  go_wp2
  go_loop [5, 12] (fun v i => ∃ k x : Nat, k ≤ l.length ∧ x < 4294967296 ∧ x = Crc.fold v0 (l.take k) ∧ i = .int .i64 k ∧ v = .int .u32 x) (fun _ i => l.length - (intOf i).toNat)
  case atStart => exact ⟨0, v0, Nat.zero_le _, hv0lt, HF.out.symm, rfl, rfl⟩
  case round =>
    obtain ⟨k, x, hk, hx, hxe, rfl, rfl⟩ := hrel
    have HX := Lib.hid hxe
    clear hxe
    by_cases hlt : k < l.length
    · obtain ⟨b, off, rfl, _, hcell⟩ := HC.out.byte hlt
      have hstep := Crc.fold_snoc v0 (l.take k) l[k]
      rw [← List.take_succ_eq_append_getElem hlt, ← HX.out] at hstep
      have HS := Lib.hid hstep
      clear hstep
      have hc256 := u8_bound l[k]
      generalize l[k].toNat = c at hcell hc256 HS
      have e0 : (c : Int) % 4294967296 = c := by omega
      have e1 := u32_xor_nat x c hx (by omega)
      have l1 := Crc.x32 hx (show c < 4294967296 by omega)
      have HY := Lib.hid (show Crc.byte x c = Crc.nib (Crc.nib (x ^^^ c)) from rfl)
      generalize x ^^^ c = y at e1 l1 HY
      have e2 : bits .and .u32 (y : Int) 15 = ((y % 16 : Nat) : Int) := by have := u32_and_nat y 15 l1 (by decide); rw [nat_mask4] at this; exact this
      have i2 : y % 16 < 16 := by omega
      have c2 := HT.out (y % 16) i2
      have t2 := Crc.tab_lt (y % 16)
      have HZ := Lib.hid (show Crc.nib y = (y / 16) ^^^ Crc.tab.getD (y % 16) 0 from rfl)
      generalize Crc.tab.getD (y % 16) 0 = t at c2 t2 HZ
      generalize y % 16 = i at e2 i2 c2
      have e3 : bits .xor .u32 ((y : Int) / 16) (t : Int) = (((y / 16) ^^^ t : Nat) : Int) := by have := u32_xor_nat (y / 16) t (by omega) t2; simpa using this
      have l3 := Crc.x32 (show y / 16 < 4294967296 by omega) t2
      generalize (y / 16) ^^^ t = z at e3 l3 HZ
      rw [HZ.out] at HY
      clear HZ
      have e4 : bits .and .u32 (z : Int) 15 = ((z % 16 : Nat) : Int) := by have := u32_and_nat z 15 l3 (by decide); rw [nat_mask4] at this; exact this
      have i4 : z % 16 < 16 := by omega
      have c4 := HT.out (z % 16) i4
      have t4 := Crc.tab_lt (z % 16)
      have HZ := Lib.hid (show Crc.nib z = (z / 16) ^^^ Crc.tab.getD (z % 16) 0 from rfl)
      generalize Crc.tab.getD (z % 16) 0 = t' at c4 t4 HZ
      generalize z % 16 = j at e4 i4 c4
      have e5 : bits .xor .u32 ((z : Int) / 16) (t' : Int) = (((z / 16) ^^^ t' : Nat) : Int) := by have := u32_xor_nat (z / 16) t' (by omega) t4; simpa using this
      have l5 := Crc.x32 (show z / 16 < 4294967296 by omega) t4
      generalize (z / 16) ^^^ t' = q at e5 l5 HZ
      go_wp2
      go_round
      case rel => exact ⟨k + 1, q, by omega, l5, by rw [HS.out, HY.out, HZ.out], by go_num, rfl⟩
      case measure => simp [intOf]; omega
    · have hkl : k = l.length := by omega
      have hr := HX.out
      rw [hkl, List.take_length] at hr
      have e6 := compl_u32 x hx
      have HR := Lib.hid hr
      clear hkl hr
      go_wp2
      go_ret
      exact ⟨by rw [HU.out, ← HR.out]; rfl, rfl⟩

theorem sum_any (a : Option Addr) (l : List UInt8) (cap : Nat) (B : Nat) (w : World) (hl : l.length ≤ maxLen) (hsl : Sl w B a (bytesV l)) (ht : Steps w) :
    Calls Tryd.prog 9 #[.slice a l.length cap] w fun e w' => e = .returned (.int .u32 ((Crc.update 0 l : Nat) : Int)) ∧ w = w' := by
  go_enter Tryd.func9, Tryd.ntmps9
  go_wp2_with fail
  refine (update_any 0 a l cap B w hl (by decide) hsl ht).mono ?_
  rintro e w' ⟨rfl, rfl⟩
  go_wp2_with fail
  go_ret
  exact ⟨rfl, rfl⟩
end Go.Proofs.YtiaiioaiifaahaaDoor
