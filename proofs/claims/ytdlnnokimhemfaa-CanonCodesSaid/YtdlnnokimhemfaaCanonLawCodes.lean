/-
  The law CanonCodes returns true: walk.
-/
import Derived.Test.YtdlnnokimhemfaaCanonAwake
import Derived.Test.YtdlnnokimhemfaaPrefixMath
import Derived.Test.YtdlnnokimhemfaaRef08
import Derived.Test.YtdlnnokimhemfaaRef08K
namespace Go.Proofs.Ytdlnnokimhemfaa
open Go.RowKit

theorem codes_at {l : List Int} {i : Nat} (h : i < l.length) : (codesOf l)[i]? = some (codeAt l i) := by simp [codesOf, h]
theorem own_u32 {w : World} {base : Nat} {l : List Int} {A : Option Addr} {c i : Nat} (h : w.ownsRow base 29 1 (.slice A l.length c) l.length (u32sV (codesOf l))) (hi : i < l.length) :
    ∃ g, A = some ⟨g, 0, none⟩ ∧ w.cell? ⟨g, i, none⟩ = some (.int .u32 ((codeAt l i : Nat) : Int)) := by
  obtain ⟨g, cap, hv, _, hlt⟩ := h.form (by omega)
  injection hv with hA
  subst hA
  refine ⟨g, rfl, ?_⟩
  have := h.cells (g := g) rfl i _ (u32sV_get _ _ _ (codes_at hi))
  rcases Nat.eq_zero_or_pos i with rfl | hi
  · simpa [Addr.add] using this
  · simpa [Addr.add, show i ≠ 0 by omega] using this

set_option maxHeartbeats 2000000 in
theorem canonCodes_wrong (a : Option Addr) (l : List Int) (cap : Nat) (w : World) (h4 : l.length ≤ 400) (hsl : Sl w w.heap.size a (intsV l)) (hk : kindOf l = 5) :
    Calls Try.prog 4 #[.slice a l.length cap] w fun e w' => e = .returned (.bool true) ∧ Below w.heap.size w w' := by
  have HS := Lib.hid hsl
  have HK := Lib.hid hk
  have t1 : decide ((400 : Int) < (l.length : Int)) = false := decide_eq_false (by omega)
  have t2 : decide (400 < l.length) = false := decide_eq_false (by omega)
  obtain ⟨kd, hkd⟩ : ∃ kd, kd = kindOf l := ⟨_, rfl⟩
  have HKD := Lib.hid hkd
  clear hsl hk
  go_enter Try.func4, Try.ntmps4
  clear hkd
  go_wp2_with fail
  (with_reducible refine (awake08_any w).mono ?_)
  rintro e w1 ⟨rfl, hb1⟩
  have HB1 := Lib.hid hb1
  have hs1 := hb1.size
  have RK := Lib.hid (refKind_any l a cap w.heap.size w1 (by omega) (HS.out.below hb1 (Nat.le_refl _)))
  have CO := Lib.hid (codes_wrong l a cap w.heap.size w1 (by omega) (HS.out.below hb1 (Nat.le_refl _)) hs1 HK.out)
  clear hb1
  go_wp2_with fail
  (with_reducible refine RK.out.mono ?_)
  rintro e w1' ⟨rfl, rfl⟩
  clear RK
  rw [← HKD.out]
  go_wp2_with fail
  (with_reducible refine CO.out.mono ?_)
  rintro e w2 ⟨rfl, hb2⟩
  have HB2 := Lib.hid (HB1.out.trans (hb2.mono hs1))
  have hs2 := hb2.size
  have KA := Lib.hid (kind_any l a cap w.heap.size w2 (by omega) (HS.out.below HB2.out (Nat.le_refl _)) HB2.out.size)
  rw [← HKD.out] at KA
  clear hb2 CO
  have tk : (kd != kd) = false := by simp
  go_wp2_with fail
  (with_reducible refine KA.out.mono ?_)
  rintro e w3 ⟨rfl, hb3⟩
  have HB3 := Lib.hid (HB2.out.trans (hb3.mono HB2.out.size))
  have hs3 := hb3.size
  have S1 := Lib.hid (sorted_any l a cap w.heap.size w3 (by omega) (HS.out.below HB3.out (Nat.le_refl _)) HB3.out.size)
  clear hb3 KA
  go_wp2_with fail
  (with_reducible refine S1.out.mono ?_)
  rintro e w4 ⟨A4, c4, rfl, ho4, hb4⟩
  have HB4 := Lib.hid (HB3.out.trans (hb4.mono HB3.out.size))
  have hs4 := hb4.size
  have HSL4 := Lib.hid (Sl.of_own ho4)
  have S2 := Lib.hid (refSorted_any l a cap w.heap.size w4 (by omega) (HS.out.below HB4.out (Nat.le_refl _)) HB4.out.size)
  clear hb4 S1 ho4
  rw [len_intsV]
  go_wp2_with fail
  (with_reducible refine S2.out.mono ?_)
  rintro e w5 ⟨A5, c5, rfl, ho5, hb5⟩
  have HB5 := Lib.hid (HB4.out.trans (hb5.mono HB4.out.size))
  have hs5 := hb5.size
  rw [len_intsV]
  have hul : (up (srt l 15)).length ≤ maxLen := by rw [len_up, len_srt]; have := pcnt_len l 15; unfold maxLen; omega
  have IN := Lib.hid (ints_same (up (srt l 15)) (up (srt l 15)) A4 A5 c4 c5 w4.heap.size w5.heap.size w5 hul hul (HSL4.out.below hb5 (Nat.le_refl _)) (Sl.of_own ho5))
  rw [decide_eq_true rfl] at IN
  generalize (up (srt l 15)).length = UL at IN
  clear hb5 S2 ho5 hul
  go_wp2_with fail
  (with_reducible refine IN.out.mono ?_)
  rintro e w6 ⟨rfl, n6, rfl⟩
  clear IN tk
  have hkd2 := HKD.out
  rw [HK.out] at hkd2
  subst hkd2
  go_wp2_with fail
  go_ret
  exact ⟨rfl, below_drewN HB5.out n6⟩

set_option maxHeartbeats 2000000 in
theorem canonCodes_over (a : Option Addr) (l : List Int) (cap : Nat) (w : World) (h4 : l.length ≤ 400) (hsl : Sl w w.heap.size a (intsV l)) (hk : kindOf l = 4) :
    Calls Try.prog 4 #[.slice a l.length cap] w fun e w' => e = .returned (.bool true) ∧ Below w.heap.size w w' := by
  have HS := Lib.hid hsl
  have HK := Lib.hid hk
  have t1 : decide ((400 : Int) < (l.length : Int)) = false := decide_eq_false (by omega)
  have t2 : decide (400 < l.length) = false := decide_eq_false (by omega)
  obtain ⟨kd, hkd⟩ : ∃ kd, kd = kindOf l := ⟨_, rfl⟩
  have HKD := Lib.hid hkd
  clear hsl hk
  go_enter Try.func4, Try.ntmps4
  clear hkd
  go_wp2_with fail
  (with_reducible refine (awake08_any w).mono ?_)
  rintro e w1 ⟨rfl, hb1⟩
  have HB1 := Lib.hid hb1
  have hs1 := hb1.size
  have RK := Lib.hid (refKind_any l a cap w.heap.size w1 (by omega) (HS.out.below hb1 (Nat.le_refl _)))
  have CO := Lib.hid (codes_over l a cap w.heap.size w1 (by omega) (HS.out.below hb1 (Nat.le_refl _)) hs1 HK.out)
  clear hb1
  go_wp2_with fail
  (with_reducible refine RK.out.mono ?_)
  rintro e w1' ⟨rfl, rfl⟩
  clear RK
  rw [← HKD.out]
  go_wp2_with fail
  (with_reducible refine CO.out.mono ?_)
  rintro e w2 ⟨rfl, hb2⟩
  have HB2 := Lib.hid (HB1.out.trans (hb2.mono hs1))
  have hs2 := hb2.size
  have KA := Lib.hid (kind_any l a cap w.heap.size w2 (by omega) (HS.out.below HB2.out (Nat.le_refl _)) HB2.out.size)
  rw [← HKD.out] at KA
  clear hb2 CO
  have tk : (kd != kd) = false := by simp
  go_wp2_with fail
  (with_reducible refine KA.out.mono ?_)
  rintro e w3 ⟨rfl, hb3⟩
  have HB3 := Lib.hid (HB2.out.trans (hb3.mono HB2.out.size))
  have hs3 := hb3.size
  have S1 := Lib.hid (sorted_any l a cap w.heap.size w3 (by omega) (HS.out.below HB3.out (Nat.le_refl _)) HB3.out.size)
  clear hb3 KA
  go_wp2_with fail
  (with_reducible refine S1.out.mono ?_)
  rintro e w4 ⟨A4, c4, rfl, ho4, hb4⟩
  have HB4 := Lib.hid (HB3.out.trans (hb4.mono HB3.out.size))
  have hs4 := hb4.size
  have HSL4 := Lib.hid (Sl.of_own ho4)
  have S2 := Lib.hid (refSorted_any l a cap w.heap.size w4 (by omega) (HS.out.below HB4.out (Nat.le_refl _)) HB4.out.size)
  clear hb4 S1 ho4
  rw [len_intsV]
  go_wp2_with fail
  (with_reducible refine S2.out.mono ?_)
  rintro e w5 ⟨A5, c5, rfl, ho5, hb5⟩
  have HB5 := Lib.hid (HB4.out.trans (hb5.mono HB4.out.size))
  have hs5 := hb5.size
  rw [len_intsV]
  have hul : (up (srt l 15)).length ≤ maxLen := by rw [len_up, len_srt]; have := pcnt_len l 15; unfold maxLen; omega
  have IN := Lib.hid (ints_same (up (srt l 15)) (up (srt l 15)) A4 A5 c4 c5 w4.heap.size w5.heap.size w5 hul hul (HSL4.out.below hb5 (Nat.le_refl _)) (Sl.of_own ho5))
  rw [decide_eq_true rfl] at IN
  generalize (up (srt l 15)).length = UL at IN
  clear hb5 S2 ho5 hul
  go_wp2_with fail
  (with_reducible refine IN.out.mono ?_)
  rintro e w6 ⟨rfl, n6, rfl⟩
  clear IN tk
  have hkd2 := HKD.out
  rw [HK.out] at hkd2
  subst hkd2
  go_wp2_with fail
  go_ret
  exact ⟨rfl, below_drewN HB5.out n6⟩

set_option maxHeartbeats 2000000 in
theorem canonCodes_ok (a : Option Addr) (l : List Int) (cap : Nat) (w : World) (h4 : l.length ≤ 400) (hsl : Sl w w.heap.size a (intsV l)) (hk : kindOf l ≤ 3) :
    Calls Try.prog 4 #[.slice a l.length cap] w fun e w' => e = .returned (.bool true) ∧ Below w.heap.size w w' := by
  have HS := Lib.hid hsl
  have HK := Lib.hid hk
  have t1 : decide ((400 : Int) < (l.length : Int)) = false := decide_eq_false (by omega)
  have t2 : decide (400 < l.length) = false := decide_eq_false (by omega)
  obtain ⟨kd, hkd⟩ : ∃ kd, kd = kindOf l := ⟨_, rfl⟩
  have HKD := Lib.hid hkd
  clear hsl hk
  go_enter Try.func4, Try.ntmps4
  clear hkd
  go_wp2_with fail
  (with_reducible refine (awake08_any w).mono ?_)
  rintro e w1 ⟨rfl, hb1⟩
  have HB1 := Lib.hid hb1
  have hs1 := hb1.size
  have RK := Lib.hid (refKind_any l a cap w.heap.size w1 (by omega) (HS.out.below hb1 (Nat.le_refl _)))
  have CO := Lib.hid (codes_ok l a cap w.heap.size w1 (by omega) (HS.out.below hb1 (Nat.le_refl _)) hs1 HK.out)
  clear hb1
  go_wp2_with fail
  (with_reducible refine RK.out.mono ?_)
  rintro e w1' ⟨rfl, rfl⟩
  clear RK
  rw [← HKD.out]
  go_wp2_with fail
  (with_reducible refine CO.out.mono ?_)
  rintro e w2 ⟨A, c, rfl, hown, hb2⟩
  have HB2 := Lib.hid (HB1.out.trans (hb2.mono hs1))
  have hs2 := hb2.size
  have KA := Lib.hid (kind_any l a cap w.heap.size w2 (by omega) (HS.out.below HB2.out (Nat.le_refl _)) HB2.out.size)
  rw [← HKD.out] at KA
  clear hb2 CO
  rw [len_codesOf] at hown ⊢
  have HO2 := Lib.hid hown
  clear hown
  have tk : (kd != kd) = false := by simp
  go_wp2_with fail
  (with_reducible refine KA.out.mono ?_)
  rintro e w3 ⟨rfl, hb3⟩
  have HB3 := Lib.hid (HB2.out.trans (hb3.mono HB2.out.size))
  have hs3 := hb3.size
  have HO3 := Lib.hid (own_keep HO2.out (w' := w3) (fun g hg => hb3.block g (HO2.out.lt g hg).2))
  have S1 := Lib.hid (sorted_any l a cap w.heap.size w3 (by omega) (HS.out.below HB3.out (Nat.le_refl _)) HB3.out.size)
  clear hb3 KA
  go_wp2_with fail
  (with_reducible refine S1.out.mono ?_)
  rintro e w4 ⟨A4, c4, rfl, ho4, hb4⟩
  have HB4 := Lib.hid (HB3.out.trans (hb4.mono HB3.out.size))
  have hs4 := hb4.size
  have HSL4 := Lib.hid (Sl.of_own ho4)
  have HO4 := Lib.hid (own_keep HO3.out (w' := w4) (fun g hg => hb4.block g (HO3.out.lt g hg).2))
  have S2 := Lib.hid (refSorted_any l a cap w.heap.size w4 (by omega) (HS.out.below HB4.out (Nat.le_refl _)) HB4.out.size)
  clear hb4 S1 ho4
  rw [len_intsV]
  go_wp2_with fail
  (with_reducible refine S2.out.mono ?_)
  rintro e w5 ⟨A5, c5, rfl, ho5, hb5⟩
  have HB5 := Lib.hid (HB4.out.trans (hb5.mono HB4.out.size))
  have hs5 := hb5.size
  have HO5 := Lib.hid (own_keep HO4.out (w' := w5) (fun g hg => hb5.block g (HO4.out.lt g hg).2))
  rw [len_intsV]
  have hul : (up (srt l 15)).length ≤ maxLen := by rw [len_up, len_srt]; have := pcnt_len l 15; unfold maxLen; omega
  have IN := Lib.hid (ints_same (up (srt l 15)) (up (srt l 15)) A4 A5 c4 c5 w4.heap.size w5.heap.size w5 hul hul (HSL4.out.below hb5 (Nat.le_refl _)) (Sl.of_own ho5))
  rw [decide_eq_true rfl] at IN
  generalize (up (srt l 15)).length = UL at IN
  clear hb5 S2 ho5 hul
  go_wp2_with fail
  (with_reducible refine IN.out.mono ?_)
  rintro e w6 ⟨rfl, n6, rfl⟩
  clear IN tk
  have RC := Lib.hid (refCodes_any l a cap w.heap.size (w5.drewN n6) (by omega) ((HS.out.below HB5.out (Nat.le_refl _)).drewN n6) HB5.out.size HK.out)
  have hk3 := HK.out
  rw [← HKD.out] at hk3
  have tg : decide (4 ≤ kd) = false := decide_eq_false (by omega)
  clear hk3
  go_wp2_with fail
  (with_reducible refine RC.out.mono ?_)
  rintro e w7 ⟨A7, c7, rfl, ho7, hb7⟩
  have hlen : (u32sV (codesOf l)).length = l.length := by rw [len_u32sV, len_codesOf]
  rw [hlen] at ho7 ⊢
  clear hlen
  have HB7 := Lib.hid (HB5.out.trans (show Below w.heap.size w5 w7 from ⟨hb7.os, hb7.tape, hb7.output, hb7.size, fun k hk => hb7.block k (Nat.lt_of_lt_of_le hk HB5.out.size)⟩))
  have HOA := Lib.hid (own_keep HO5.out (w' := w7) (fun g hg => hb7.block g (HO5.out.lt g hg).2))
  have HOB := Lib.hid ho7
  clear hb7 ho7 RC
  go_wp2_with fail
  go_loopw [7] (fun i wr => ∃ k : Nat, k ≤ l.length ∧ i = .int .i64 (k : Int) ∧ ∃ n, wr = w7.drewN n) (fun i _ => l.length - (intOf i).toNat)
  case atStart => exact ⟨0, by omega, rfl, 0, rfl⟩
  case round =>
    obtain ⟨k, hk, rfl, q, rfl⟩ := hrel
    by_cases hlt : k < l.length
    · have k0 : (0 : Int) ≤ (k : Int) := Int.natCast_nonneg _
      have k1 : (k : Int) < (l.length : Int) := by omega
      obtain ⟨g, rfl, hd1⟩ := own_u32 HOA.out hlt
      obtain ⟨g', rfl, hd2⟩ := own_u32 HOB.out hlt
      generalize codeAt l k = cd at hd1 hd2
      go_wp2_with fail
      go_quiet (fail)
      go_wp2_with fail
      go_roundw
      case rel => exact ⟨k + 1, by omega, by go_num, _, rfl⟩
      case measure => simp [intOf]; omega
    · obtain rfl : k = l.length := by omega
      go_wp2_with fail
      go_ret
      exact ⟨rfl, below_drewN HB7.out q⟩

theorem canonCodes_walk (a : Option Addr) (l : List Int) (cap : Nat) (w : World) (hl : l.length ≤ maxLen) (_hlc : l.length ≤ cap) (_hrg : ∀ x ∈ l, -9223372036854775808 ≤ x ∧ x ≤ 9223372036854775807) (hsl : Sl w w.heap.size a (intsV l)) :
    Calls Try.prog 4 #[.slice a l.length cap] w fun e w' => e = .returned (.bool true) ∧ Below w.heap.size w w' := by
  unfold maxLen at hl
  by_cases h4 : l.length ≤ 400
  case neg =>
    clear hsl _hrg
    have t1 : decide ((400 : Int) < (l.length : Int)) = true := decide_eq_true (by omega)
    have t2 : decide (400 < l.length) = true := decide_eq_true (by omega)
    go_enter Try.func4, Try.ntmps4
    go_wp2_with fail
    (with_reducible refine (awake08_any w).mono ?_)
    rintro e w1 ⟨rfl, hb1⟩
    go_wp2_with fail
    go_ret
    exact ⟨rfl, hb1⟩
  rcases kind_le5 l with hk | hk | hk
  · exact canonCodes_wrong a l cap w h4 hsl hk
  · exact canonCodes_over a l cap w h4 hsl hk
  · exact canonCodes_ok a l cap w h4 hsl hk.2
end Go.Proofs.Ytdlnnokimhemfaa
