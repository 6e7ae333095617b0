/-
  The page's example of layer 6 holds; the law BitoutReverse returns true: walks.
-/
import Derived.Test.YtpfihombncnmhaaBitout2
import Derived.Test.YtpfihombncnmhaaRef06
import Derived.Deep.RegionWith
namespace Go.Proofs.Ytpfihombncnmhaa
open Go.RowKit

theorem eight_bits (out : List UInt8) (r : List Bool) (h : Bit.ofBytes out ++ r = Bit.bitsN 3 2 ++ Bit.bitsN 5 22) (hr : r.length < 8) : out = [178] ∧ r = [] := by
  have hl := congrArg List.length h
  rw [List.length_append, Bit.length_ofBytes] at hl
  simp only [List.length_append, Bit.length_bitsN] at hl
  have hz : r = [] := List.eq_nil_of_length_eq_zero (by omega)
  subst hz
  refine ⟨?_, rfl⟩
  match out, (show out.length = 1 by simp at hl; omega) with
  | [c], _ =>
    rw [List.append_nil] at h
    have h1 : Bit.bitsN 8 c.toNat = Bit.bitsN 3 2 ++ Bit.bitsN 5 22 := by simpa [Bit.ofBytes] using h
    have h2 := congrArg Bit.num h1
    rw [Bit.num_bitsN, show Bit.num (Bit.bitsN 3 2 ++ Bit.bitsN 5 22) = 178 by decide] at h2
    have h3 := c.toNat_lt
    have h4 : c.toNat = 178 := by omega
    rw [show c = 178 from UInt8.toNat_inj.1 (by rw [h4]; rfl)]

set_option maxHeartbeats 800000 in
theorem awake6_any (w : World) : Calls Try.prog 7 #[] w fun e w' => e = .returned (.bool true) ∧ Below w.heap.size w w' := by
  go_enter Try.func7, Try.ntmps7
  go_wp2_with fail
  refine (bitoutNew_any w.heap.size w (Nat.le_refl _)).mono ?_
  rintro e w1 ⟨rfl, hws, hb1⟩
  have HW := Lib.hid hws
  have HB1 := Lib.hid hb1
  have hs1 := hb1.size
  clear hws hb1
  go_wp2_with fail
  refine (put_yes w.heap.size w.heap.size (.slice none 0 0) [] [] 0 2 3 w1 HW.out (by simp) (by omega) (by decide) (by decide) (by decide) (by simp)).mono ?_
  rintro e w2 ⟨o2, out2, r2, rfl, hb2, hr2, hws2, hob2, hfr2⟩
  have HB2 := Lib.hid (HB1.out.trans (hfr2.below hs1 (fun k hk h => by
    rcases h with h | h
    · omega
    · simp [Value.ownBlock] at h)))
  have HW2 := Lib.hid hws2
  have HE2 := Lib.hid hb2
  have HOB2 := Lib.hid hob2
  have ho2 : out2.length = 0 := by
    have hl := congrArg List.length hb2
    simp only [List.length_append, Bit.length_ofBytes, Bit.length_bitsN, List.length_nil] at hl
    omega
  have hs2 := HB2.out.size
  clear hws2 hb2 hob2 hfr2
  go_wp2_with fail
  refine (put_yes w.heap.size w.heap.size o2 out2 r2 3 22 5 w2 HW2.out hr2 (by omega) (by decide) (by decide) (by decide) (by omega)).mono ?_
  rintro e w3 ⟨o3, out3, r3, rfl, hb3, hr3, hws3, hob3, hfr3⟩
  have HB3 := Lib.hid (HB2.out.trans (hfr3.below hs2 (fun k hk h => by
    rcases h with h | h
    · omega
    · have := (HW2.out.own).lt k h.symm; omega)))
  have hbb : Bit.ofBytes out3 ++ r3 = Bit.bitsN 3 2 ++ Bit.bitsN 5 22 := by
    rw [hb3, ← List.append_assoc, HE2.out]; rfl
  obtain ⟨rfl, rfl⟩ := eight_bits out3 r3 hbb hr3
  have HW3 := Lib.hid hws3
  clear hb3 hbb hr3 hws3 hob3 hfr3
  go_wp2_with fail
  refine (take_any w.heap.size w.heap.size o3 [178] [] _ w3 HW3.out).mono ?_
  rintro e w4 ⟨rfl, _, hown, hfr4⟩
  have HB4 := Lib.hid (HB3.out.trans (hfr4.below HB3.out.size (fun k hk h => by omega)))
  obtain ⟨A, c, rfl⟩ := own_form hown
  obtain ⟨b, off, rfl, _, hcell⟩ := (Sl.of_own hown).byte (l := [178]) (k := 0) (by simp)
  simp at hcell
  clear hown hfr4
  go_wp2_with fail
  go_ret
  exact ⟨rfl, HB4.out⟩

set_option maxHeartbeats 800000 in
theorem bitoutReverse_walk (v : Nat) (n : Int) (w : World) (hv : v < 4294967296) (h1 : -9223372036854775808 ≤ n) (h2 : n ≤ 9223372036854775807) :
    Calls Try.prog 3 #[.int .u32 (v : Int), .int .i64 n] w fun e w' => e = .returned (.bool true) ∧ Below w.heap.size w w' := by
  obtain ⟨k, hk⟩ : ∃ k, k = clamp n := ⟨_, rfl⟩
  have hk32 : k ≤ 32 := by rw [hk]; unfold clamp; omega
  have hkn : (if (32 : Int) < (if (0 : Int) > n then 0 else n) then (32 : Int) else (if (0 : Int) > n then 0 else n)) = (k : Int) := by
    rw [hk]; unfold clamp; split <;> split <;> omega
  have hm1 : ∀ W, (Builtin.max_ #[3, 3] 3 #[.int .i64 n, .int .i64 0]).run Try.prog W = .ok (.int .i64 (if (0 : Int) > n then 0 else n)) W := fun W => by simp [go_sem]
  have hm2 : ∀ W, (Builtin.min_ #[3, 3] 3 #[.int .i64 (if (0 : Int) > n then 0 else n), .int .i64 32]).run Try.prog W = .ok (.int .i64 (k : Int)) W := fun W => by rw [← hkn]; simp [go_sem]
  generalize (if (0 : Int) > n then 0 else n) = nn at hm1 hm2
  have R1 := fun W => Lib.hid (reverse_any v n W hv h1 h2)
  have R2 := fun W => Lib.hid (refReverse_any v n W hv h1 h2)
  have hr1 : Bit.rev (clamp n) v < 4294967296 := by
    have := Bit.rev_lt (clamp n) v
    have h3 : (2 ^ clamp n : Nat) ≤ 2 ^ 32 := Nat.pow_le_pow_right (by omega) (by rw [← hk]; exact hk32)
    omega
  have R3 := fun W => Lib.hid (reverse_any (Bit.rev (clamp n) v) n W hr1 h1 h2)
  have HRR := Bit.rev_rev (clamp n) v
  rw [HRR, ← hk] at R3
  rw [← hk] at R1 R2
  generalize Bit.rev k v = x at R1 R2 R3
  clear hk hkn HRR hr1
  go_enter Try.func3, Try.ntmps3
  go_wp2_with fail
  refine (awake6_any w).mono ?_
  rintro e w1 ⟨rfl, hb1⟩
  have HB1 := Lib.hid hb1
  clear hb1
  go_wp2_with fail
  refine (R1 w1).out.mono ?_
  rintro e w2 ⟨rfl, rfl⟩
  go_wp2_with fail
  have e1 : IntKind.u64.wrap (((v % 2 ^ k : Nat)) : Int) = ((v % 2 ^ k : Nat) : Int) := by
    have : v % 2 ^ k ≤ v := Nat.mod_le _ _
    rw [IntKind.wrap_u64]; omega
  have e2 : IntKind.u64.wrap (v : Int) = v := by rw [IntKind.wrap_u64]; omega
  have e3 : IntKind.u64.wrap ((2 : Int) ^ k) = ((2 ^ k : Nat) : Int) := by
    have h3 : (2 ^ k : Nat) ≤ 2 ^ 32 := Nat.pow_le_pow_right (by omega) hk32
    rw [IntKind.wrap_u64, show (2 : Int) ^ k = ((2 ^ k : Nat) : Int) by simp]
    exact Int.emod_eq_of_lt (Int.natCast_nonneg _) (by omega)
  have e4 : (v : Int) % ((2 ^ k : Nat) : Int) = ((v % 2 ^ k : Nat) : Int) := by simp
  have e5 : (v : Int).tmod ((2 ^ k : Nat) : Int) = ((v % 2 ^ k : Nat) : Int) := by
    rw [Int.tmod_eq_emod_of_nonneg (Int.natCast_nonneg _)]; exact e4
  have hp : ((2 ^ k : Nat) : Int) ≠ 0 := by have : 1 ≤ 2 ^ k := Nat.one_le_two_pow; omega
  have hp2 : (((2 ^ k : Nat) : Int) == 0) = false := by simpa using hp
  have hp3 : ¬ (2 ^ k : Nat) = 0 := by have : 1 ≤ 2 ^ k := Nat.one_le_two_pow; omega
  have hp4 : (1 : Int) ≤ ((2 ^ k : Nat) : Int) := by have : 1 ≤ 2 ^ k := Nat.one_le_two_pow; omega
  generalize (v % 2 ^ k : Nat) = y at e1 e4 e5 R3
  generalize (2 ^ k : Nat) = q at e3 e4 e5 hp hp2 hp3 hp4
  have ek : IntKind.u64.wrap (k : Int) = k := by rw [IntKind.wrap_u64]; omega
  have k0 : (0 : Int) ≤ (k : Int) := Int.natCast_nonneg _
  go_region_held3 (fun w' => w1.heap.size ≤ w'.heap.size) (first | exact Nat.le_refl _ | exact hb3.size | (exact Nat.le_trans hb3.size (Nat.le_refl _)))
    (first | (go_at_call 9; (with_reducible refine (R2 _).out.mono ?_); rintro e w3 ⟨rfl, hb3⟩) | (go_at_call 8; (with_reducible refine (R3 _).out.mono ?_); rintro e w4 ⟨rfl, rfl⟩))
  go_wp2
  go_ret
  exact ⟨rfl, HB1.out.drew.trans (hb3.mono HB1.out.size)⟩
end Go.Proofs.Ytpfihombncnmhaa
