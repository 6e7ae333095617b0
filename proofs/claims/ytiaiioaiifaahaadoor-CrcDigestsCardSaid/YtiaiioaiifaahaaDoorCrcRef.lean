/-
  What punnetref04.Update computes, for every sum and every bytes: Crc.update, as crc.Update does.
-/
import Derived.Test.YtiaiioaiifaahaaDoorCrcUpdate
namespace Go.Proofs.YtiaiioaiifaahaaDoor
open Go.RowKit
namespace Crc
/-- n single steps -/
def steps (v : Nat) : Nat → Nat
  | 0 => v
  | n + 1 => bit (steps v n)
theorem steps_lt {v : Nat} (h : v < 4294967296) : ∀ n, steps v n < 4294967296
  | 0 => h
  | n + 1 => bit_lt (steps_lt h n)
theorem steps8 (v : Nat) : steps v 8 = bits8 v := rfl
end Crc

set_option maxHeartbeats 400000 in
theorem ref_update (s : Nat) (a : Option Addr) (l : List UInt8) (cap : Nat) (B : Nat) (w : World) (hl : l.length ≤ maxLen) (hs : s < 4294967296) (hsl : Sl w B a (bytesV l)) :
    Calls Tryd.prog 8 #[.int .u32 (s : Int), .slice a l.length cap] w fun e w' => e = .returned (.int .u32 ((Crc.update s l : Nat) : Int)) ∧ w = w' := by
  unfold maxLen at hl
  have HC := Lib.hid hsl
  clear hsl
  have hv0lt : 4294967295 ^^^ s < 4294967296 := Crc.x32 (by decide) hs
  have HF := Lib.hid (show Crc.fold8 (4294967295 ^^^ s) [] = 4294967295 ^^^ s from rfl)
  have HU := Lib.hid (show Crc.update s l = 4294967295 ^^^ Crc.fold8 (4294967295 ^^^ s) l by rw [← Crc.fold_eq]; rfl)
  have hv0 : (4294967295 : Int) - s = ((4294967295 ^^^ s : Nat) : Int) := by rw [Crc.compl hs]; omega
  generalize 4294967295 ^^^ s = v0 at hv0 hv0lt HF HU
  go_enter Tryd.func8, Tryd.ntmps8
  go_wp2
  go_loop [5, 6] (fun v i => ∃ k x : Nat, k ≤ l.length ∧ x < 4294967296 ∧ x = Crc.fold8 v0 (l.take k) ∧ i = .int .i64 k ∧ v = .int .u32 x) (fun _ i => l.length - (intOf i).toNat)
  case atStart => exact ⟨0, v0, Nat.zero_le _, hv0lt, HF.out.symm, rfl, rfl⟩
  case round =>
    obtain ⟨k, x, hk, hx, hxe, rfl, rfl⟩ := hrel
    have HX := Lib.hid hxe
    clear hxe
    by_cases hlt : k < l.length
    · obtain ⟨b, off, rfl, _, hcell⟩ := HC.out.byte hlt
      have hstep := Crc.fold8_snoc v0 (l.take k) l[k]
      rw [← List.take_succ_eq_append_getElem hlt, ← HX.out] at hstep
      have HS := Lib.hid hstep
      clear hstep
      have hc256 := u8_bound l[k]
      generalize l[k].toNat = c at hcell hc256 HS
      have e0 : (c : Int) % 4294967296 = c := by omega
      have e1 := u32_xor_nat x c hx (by omega)
      have l1 := Crc.x32 hx (show c < 4294967296 by omega)
      generalize x ^^^ c = y at e1 l1 HS
      go_wp2
      go_loop [5, 7] (fun v i => ∃ n z : Nat, n ≤ 8 ∧ z < 4294967296 ∧ z = Crc.steps y n ∧ i = .int .i64 n ∧ v = .int .u32 z) (fun _ i => 8 - (intOf i).toNat)
      case atStart => exact ⟨0, y, by omega, l1, rfl, rfl, rfl⟩
      case round =>
        obtain ⟨n, z, hn, hz, hze, rfl, rfl⟩ := hrel
        have HZ := Lib.hid hze
        clear hze
        by_cases hn8 : n < 8
        · by_cases hodd : z % 2 = 1
          · have t1 : ((z : Int) % 2 == 1) = true := by simp; omega
            have e3 : bits .xor .u32 ((z : Int) / 2) 3988292384 = (((z / 2) ^^^ 3988292384 : Nat) : Int) := by have := u32_xor_nat (z / 2) 3988292384 (by omega) (by decide); simpa using this
            have l3 := Crc.x32 (show z / 2 < 4294967296 by omega) (show 3988292384 < 4294967296 by decide)
            have HB := Lib.hid (show Crc.steps y (n + 1) = (z / 2) ^^^ 3988292384 by rw [Crc.steps, ← HZ.out, Crc.bit, if_pos hodd])
            generalize (z / 2) ^^^ 3988292384 = q at e3 l3 HB
            clear hodd
            go_wp2
            go_round
            case rel => exact ⟨n + 1, q, by omega, l3, HB.out.symm, by go_num, rfl⟩
            case measure => simp [intOf]; omega
          · have t1 : ((z : Int) % 2 == 1) = false := by simp; omega
            have HB := Lib.hid (show Crc.steps y (n + 1) = z / 2 by rw [Crc.steps, ← HZ.out, Crc.bit, if_neg hodd])
            clear hodd
            go_wp2
            go_round
            case rel => exact ⟨n + 1, z / 2, by omega, by omega, HB.out.symm, by go_num, by go_num⟩
            case measure => simp [intOf]; omega
        · have hz8 : z = Crc.fold8 v0 (l.take (k + 1)) := by
            have h8 : n = 8 := by omega
            rw [HS.out, HZ.out, h8]; rfl
          have HE := Lib.hid hz8
          clear hz8
          go_wp2
          go_round
          case rel => exact ⟨k + 1, z, by omega, hz, HE.out, by go_num, rfl⟩
          case measure => simp [intOf]; omega
    · have hkl : k = l.length := by omega
      have hr := HX.out
      rw [hkl, List.take_length] at hr
      have HR := Lib.hid hr
      have e6 : (4294967295 : Int) - x = ((4294967295 ^^^ x : Nat) : Int) := by rw [Crc.compl hx]; omega
      clear hkl hr
      go_wp2
      go_ret
      exact ⟨by rw [HU.out, ← HR.out]; rfl, rfl⟩
end Go.Proofs.YtiaiioaiifaahaaDoor
