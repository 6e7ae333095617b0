/-
  What bitout.Reverse computes (with math/bits.Reverse32).
-/
import Derived.Test.YtdlnnokimhemfaaProg
import Derived.Test.YtdlnnokimhemfaaMem
import Derived.Test.YtdlnnokimhemfaaBitMath
namespace Go.Proofs.Ytdlnnokimhemfaa
open Go.RowKit

theorem swap_u32 (k m v d : Nat) (hm : m < 4294967296) (hv : v < 4294967296) (hd : d = 2 ^ k) :
    bits .or .u32 (bits .and .u32 ((v : Int) / (d : Int)) (m : Int)) (bits .and .u32 (v : Int) (m : Int) * (d : Int) % 4294967296) = ((Bit.swap k m v : Nat) : Int) := by
  subst hd
  have h1 : ((v : Int) / ((2 ^ k : Nat) : Int)) = ((v / 2 ^ k : Nat) : Int) := by simp
  have hlt : v / 2 ^ k < 4294967296 := Nat.lt_of_le_of_lt (Nat.div_le_self _ _) hv
  rw [h1, u32_and_nat _ _ hlt hm, u32_and_nat _ _ hv hm]
  have h2 : (((v &&& m : Nat) : Int) * ((2 ^ k : Nat) : Int) % 4294967296) = (((v &&& m) * 2 ^ k % 4294967296 : Nat) : Int) := by simp
  rw [h2, u32_or_nat _ _ (Nat.and_lt_two_pow (n := 32) _ hm) (Nat.mod_lt _ (by decide))]
  rfl
theorem half_u32 (v : Nat) (hv : v < 4294967296) : bits .or .u32 ((v : Int) / 65536) ((v : Int) * 65536 % 4294967296) = ((Bit.half v : Nat) : Int) := by
  have h1 : ((v : Int) / 65536) = ((v / 2 ^ 16 : Nat) : Int) := by simp
  have h2 : ((v : Int) * 65536 % 4294967296) = ((v * 2 ^ 16 % 4294967296 : Nat) : Int) := by simp
  rw [h1, h2, u32_or_nat _ _ (by omega) (Nat.mod_lt _ (by decide))]
  rfl

set_option maxHeartbeats 400000 in
theorem reverse32_any (v : Nat) (w : World) (hv : v < 4294967296) :
    Calls Try.prog 40 #[.int .u32 (v : Int)] w fun e w' => e = .returned (.int .u32 ((Bit.r32 v : Nat) : Int)) ∧ w = w' := by
  have e1 := swap_u32 1 1431655765 v 2 (by decide) hv rfl
  have l1 := Bit.swap_lt 1 1431655765 v (by decide)
  have H1 := Lib.hid (show Bit.r32 v = Bit.half (Bit.swap 8 16711935 (Bit.swap 4 252645135 (Bit.swap 2 858993459 (Bit.swap 1 1431655765 v)))) from rfl)
  generalize Bit.swap 1 1431655765 v = x1 at e1 l1 H1
  have e2 := swap_u32 2 858993459 x1 4 (by decide) l1 rfl
  have l2 := Bit.swap_lt 2 858993459 x1 (by decide)
  generalize Bit.swap 2 858993459 x1 = x2 at e2 l2 H1
  have e3 := swap_u32 4 252645135 x2 16 (by decide) l2 rfl
  have l3 := Bit.swap_lt 4 252645135 x2 (by decide)
  generalize Bit.swap 4 252645135 x2 = x3 at e3 l3 H1
  have e4 := swap_u32 8 16711935 x3 256 (by decide) l3 rfl
  have l4 := Bit.swap_lt 8 16711935 x3 (by decide)
  generalize Bit.swap 8 16711935 x3 = x4 at e4 l4 H1
  have e5 := half_u32 x4 l4
  generalize Bit.half x4 = x5 at e5 H1
  simp only [Int.cast_ofNat_Int] at e1 e2 e3 e4 e5
  go_enter Try.func40, Try.ntmps40
  go_wp2
  go_ret
  exact ⟨by rw [H1.out]; rfl, rfl⟩

/-- how many bits a call of Reverse takes -/
def clamp (n : Int) : Nat := (max 0 (min n 32)).toNat

set_option maxHeartbeats 400000 in
theorem reverse_any (v : Nat) (n : Int) (w : World) (hv : v < 4294967296) (h1 : -9223372036854775808 ≤ n) (h2 : n ≤ 9223372036854775807) :
    Calls Try.prog 32 #[.int .u32 (v : Int), .int .i64 n] w fun e w' => e = .returned (.int .u32 ((Bit.rev (clamp n) v : Nat) : Int)) ∧ w = w' := by
  by_cases hlo : n ≤ 0
  · have hc : clamp n = 0 := by unfold clamp; omega
    have hr := Bit.r32_rev v 0 hv (by omega)
    have hx := Bit.r32_lt v
    have HR := Lib.hid (show Bit.rev (clamp n) v = 0 by rw [hc, ← hr]; simp only [Nat.sub_zero]; omega)
    have t1 : ¬ (32 : Int) < n := by omega
    have t2 : ¬ n > 0 := by omega
    clear hr hc
    have hR := Lib.hid (reverse32_any v w hv)
    generalize Bit.r32 v = x at hx hR
    go_enter Try.func32, Try.ntmps32
    go_wp2_with fail
    refine hR.out.mono ?_
    rintro e w' ⟨rfl, rfl⟩
    have hd : (x : Int) / 4294967296 = 0 := by omega
    go_wp2_with fail
    go_ret
    exact ⟨by rw [HR.out]; rfl, rfl⟩
  · by_cases hhi : 32 < n
    · have hc : clamp n = 32 := by unfold clamp; omega
      have hr := Bit.r32_rev v 32 hv (by omega)
      have HR := Lib.hid (show Bit.rev (clamp n) v = Bit.r32 v by rw [hc, ← hr]; simp)
      clear hr hc
      have hR := Lib.hid (reverse32_any v w hv)
      generalize Bit.r32 v = x at HR hR
      go_enter Try.func32, Try.ntmps32
      go_wp2_with fail
      refine hR.out.mono ?_
      rintro e w' ⟨rfl, rfl⟩
      go_wp2_with fail
      go_ret
      exact ⟨by rw [HR.out]; rfl, rfl⟩
    · obtain ⟨k, rfl⟩ : ∃ k : Nat, n = k := ⟨n.toNat, by omega⟩
      have hc : clamp k = k := by unfold clamp; omega
      have hr := Bit.r32_rev v k hv (by omega)
      have k0 : ((k : Int) > 0) := by omega
      have k32 : ¬ ((32 : Int) < (k : Int)) := by omega
      have hR := Lib.hid (reverse32_any v w hv)
      have HR := Lib.hid (show Bit.rev (clamp k) v = Bit.r32 v / 2 ^ (32 - k) by rw [hc, hr])
      clear hr hc
      generalize Bit.r32 v = x at HR hR
      have e1 : ((32 : Int) - (k : Int)) = ((32 - k : Nat) : Int) := by omega
      have hj : 32 - k ≤ 32 := by omega
      go_enter Try.func32, Try.ntmps32
      go_wp2_with fail
      refine hR.out.mono ?_
      rintro e w' ⟨rfl, rfl⟩
      go_wp2_with fail
      go_ret
      exact ⟨by rw [HR.out]; exact ret_int (by simp), rfl⟩
end Go.Proofs.Ytdlnnokimhemfaa
