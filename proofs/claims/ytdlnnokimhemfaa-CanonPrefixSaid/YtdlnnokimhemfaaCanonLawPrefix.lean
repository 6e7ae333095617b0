/-
  The law CanonPrefix returns true: walk.
-/
import Derived.Test.YtdlnnokimhemfaaCanonAwake
import Derived.Test.YtdlnnokimhemfaaPrefixMath
namespace Go.Proofs.Ytdlnnokimhemfaa
open Go.RowKit

theorem codes_at {l : List Int} {i : Nat} (h : i < l.length) : (codesOf l)[i]? = some (codeAt l i) := by simp [codesOf, h]
theorem own_u32 {w : World} {base : Nat} {l : List Int} {A : Option Addr} {c i : Nat} (h : w.ownsRow base 29 1 (.slice A l.length c) l.length (u32sV (codesOf l))) (hi : i < l.length) :
    ∃ g, A = some ⟨g, 0, none⟩ ∧ w.cell? ⟨g, i, none⟩ = some (.int .u32 ((codeAt l i : Nat) : Int)) := by
  obtain ⟨g, cap, hv, _, hlt⟩ := h.form (by omega)
  injection hv with hA
  subst hA
  refine ⟨g, rfl, ?_⟩
  have := h.cells (g := g) rfl i _ (u32sV_get _ _ _ (codes_at hi))
  rcases Nat.eq_zero_or_pos i with rfl | hi
  · simpa [Addr.add] using this
  · simpa [Addr.add, show i ≠ 0 by omega] using this

set_option maxHeartbeats 2000000 in
theorem canonPrefix_walk (a : Option Addr) (l : List Int) (cap : Nat) (w : World) (hl : l.length ≤ maxLen) (_hlc : l.length ≤ cap) (_hrg : ∀ x ∈ l, -9223372036854775808 ≤ x ∧ x ≤ 9223372036854775807) (hsl : Sl w w.heap.size a (intsV l)) :
    Calls Try.prog 3 #[.slice a l.length cap] w fun e w' => e = .returned (.bool true) ∧ Below w.heap.size w w' := by
  unfold maxLen at hl
  have HS := Lib.hid hsl
  clear hsl _hrg
  by_cases h4 : l.length ≤ 60
  case neg =>
    have t1 : decide ((60 : Int) < (l.length : Int)) = true := decide_eq_true (by omega)
    have t2 : decide (60 < l.length) = true := decide_eq_true (by omega)
    go_enter Try.func3, Try.ntmps3
    go_wp2_with fail
    (with_reducible refine (awake08_any w).mono ?_)
    rintro e w1 ⟨rfl, hb1⟩
    go_wp2_with fail
    go_ret
    exact ⟨rfl, hb1⟩
  have t1 : decide ((60 : Int) < (l.length : Int)) = false := decide_eq_false (by omega)
  have t2 : decide (60 < l.length) = false := decide_eq_false (by omega)
  rcases kind_le5 l with hk | hk | hk
  · go_enter Try.func3, Try.ntmps3
    have HK := Lib.hid hk
    clear hk
    go_wp2_with fail
    (with_reducible refine (awake08_any w).mono ?_)
    rintro e w1 ⟨rfl, hb1⟩
    have HB1 := Lib.hid hb1
    have CO := Lib.hid (codes_wrong l a cap w.heap.size w1 (by omega) (HS.out.below hb1 (Nat.le_refl _)) hb1.size HK.out)
    have hs1 := hb1.size
    clear hb1
    go_wp2_with fail
    (with_reducible refine CO.out.mono ?_)
    rintro e w2 ⟨rfl, hb2⟩
    have HB2 := Lib.hid (HB1.out.trans (hb2.mono hs1))
    have KA := Lib.hid (kind_any l a cap w.heap.size w2 (by omega) (HS.out.below HB2.out (Nat.le_refl _)) HB2.out.size)
    rw [HK.out] at KA
    clear hb2 CO
    go_wp2_with fail
    (with_reducible refine KA.out.mono ?_)
    rintro e w3 ⟨rfl, hb3⟩
    have HB3 := Lib.hid (HB2.out.trans (hb3.mono HB2.out.size))
    clear hb3
    go_wp2_with fail
    go_ret
    exact ⟨rfl, HB3.out⟩
  · go_enter Try.func3, Try.ntmps3
    have HK := Lib.hid hk
    clear hk
    go_wp2_with fail
    (with_reducible refine (awake08_any w).mono ?_)
    rintro e w1 ⟨rfl, hb1⟩
    have HB1 := Lib.hid hb1
    have CO := Lib.hid (codes_over l a cap w.heap.size w1 (by omega) (HS.out.below hb1 (Nat.le_refl _)) hb1.size HK.out)
    have hs1 := hb1.size
    clear hb1
    go_wp2_with fail
    (with_reducible refine CO.out.mono ?_)
    rintro e w2 ⟨rfl, hb2⟩
    have HB2 := Lib.hid (HB1.out.trans (hb2.mono hs1))
    have KA := Lib.hid (kind_any l a cap w.heap.size w2 (by omega) (HS.out.below HB2.out (Nat.le_refl _)) HB2.out.size)
    rw [HK.out] at KA
    clear hb2 CO
    go_wp2_with fail
    (with_reducible refine KA.out.mono ?_)
    rintro e w3 ⟨rfl, hb3⟩
    have HB3 := Lib.hid (HB2.out.trans (hb3.mono HB2.out.size))
    clear hb3
    go_wp2_with fail
    go_ret
    exact ⟨rfl, HB3.out⟩
  obtain ⟨hrt, hsum⟩ := kind_le3 hk.2
  have HRT := Lib.hid hrt
  have HSUM := Lib.hid hsum
  have HK := Lib.hid hk.2
  clear hk hrt hsum
  go_enter Try.func3, Try.ntmps3
  go_wp2_with fail
  (with_reducible refine (awake08_any w).mono ?_)
  rintro e w1 ⟨rfl, hb1⟩
  have HB1 := Lib.hid hb1
  have CO := Lib.hid (codes_ok l a cap w.heap.size w1 (by omega) (HS.out.below hb1 (Nat.le_refl _)) hb1.size HK.out)
  have hs1 := hb1.size
  clear hb1
  go_wp2_with fail
  (with_reducible refine CO.out.mono ?_)
  rintro e w2 ⟨A, c, rfl, hown, hb2⟩
  rw [len_codesOf] at hown ⊢
  have HB2 := Lib.hid (HB1.out.trans (hb2.mono hs1))
  have HO := Lib.hid hown
  have HS2 := Lib.hid (HS.out.below HB2.out (Nat.le_refl _))
  clear hb2 CO hown
  go_wp2_with fail
  go_loopw [5, 6] (fun i _ wr => ∃ j : Nat, j ≤ l.length ∧ i = .int .i64 (j : Int) ∧ ∃ n, wr = w2.drewN n) (fun i _ _ => l.length - (intOf i).toNat)
  case atStart => exact ⟨0, by omega, rfl, 0, rfl⟩
  case round =>
    obtain ⟨j, hj, rfl, q, rfl⟩ := hrel
    by_cases hlt : j < l.length
    · have j0 : (0 : Int) ≤ (j : Int) := Int.natCast_nonneg _
      have j1 : (j : Int) < (l.length : Int) := by omega
      go_wp2_with fail
      go_loopw [6] (fun i wr => ∃ k : Nat, k ≤ l.length ∧ i = .int .i64 (k : Int) ∧ ∃ n, wr = w2.drewN n) (fun i _ => l.length - (intOf i).toNat)
      case atStart => exact ⟨0, by omega, rfl, _, rfl⟩
      case round =>
        obtain ⟨k, hk, rfl, q2, rfl⟩ := hrel
        by_cases hlt2 : k < l.length
        · have k0 : (0 : Int) ≤ (k : Int) := Int.natCast_nonneg _
          have k1 : (k : Int) < (l.length : Int) := by omega
          obtain ⟨b, off, rfl, _, hcj⟩ := HS2.out.int hlt
          obtain ⟨b', off', e2, _, hck⟩ := HS2.out.int hlt2
          injection e2 with e2
          injection e2 with f2 g2
          subst f2 g2
          obtain ⟨g, rfl, hdj⟩ := own_u32 HO.out hlt
          obtain ⟨g', e3, hdk⟩ := own_u32 HO.out hlt2
          injection e3 with e3
          injection e3 with f3
          subst f3
          by_cases hjk : j = k
          · have tn : ((j : Int) != (k : Int)) = false := by rw [hjk]; simp
            have tn2 : (j != k) = false := by rw [hjk]; simp
            clear hjk hcj hck hdj hdk
            go_wp2_with fail
            go_quiet (fail)
            go_wp2_with fail
            go_roundw
            case rel => exact ⟨k + 1, by omega, by go_num, _, rfl⟩
            case measure => simp [intOf]; omega
          · have tn : ((j : Int) != (k : Int)) = true := bne_iff_ne.2 (by omega)
            have tn2 : (j != k) = true := bne_iff_ne.2 hjk
            obtain ⟨hx0, hx1⟩ := right_at HRT.out hlt
            obtain ⟨hy0, hy1⟩ := right_at HRT.out hlt2
            obtain ⟨n, hn⟩ := Int.eq_ofNat_of_zero_le hx0
            obtain ⟨m, hm⟩ := Int.eq_ofNat_of_zero_le hy0
            have HN := Lib.hid hn
            have HM := Lib.hid hm
            rw [hn] at hcj hx1
            rw [hm] at hck hy1
            have n0 : (0 : Int) ≤ (n : Int) := Int.natCast_nonneg _
            have m0 : (0 : Int) ≤ (m : Int) := Int.natCast_nonneg _
            clear hx0 hy0 hn hm
            by_cases hp : 0 < n
            · have tp : decide (0 < n) = true := decide_eq_true hp
              have tp2 : decide ((0 : Int) < (n : Int)) = true := decide_eq_true (by omega)
              by_cases hle : n ≤ m
              · have tl : decide (n ≤ m) = true := decide_eq_true hle
                have tl2 : decide ((n : Int) ≤ (m : Int)) = true := decide_eq_true (by omega)
                have hpf := prefix_free l HSUM.out j k n m hlt hlt2 HN.out HM.out hp hle (by omega) hjk
                have hc1 : codeAt l j < 32768 := by
                  rw [codeAt_eq l j n hlt HN.out hp]
                  exact Nat.lt_of_lt_of_le (Bit.rev_lt n _) (Nat.pow_le_pow_right (n := 2) (j := 15) (by omega) (by omega))
                have hc2 : codeAt l k < 32768 := by
                  rw [codeAt_eq l k m hlt2 HM.out (by omega)]
                  exact Nat.lt_of_lt_of_le (Bit.rev_lt m _) (Nat.pow_le_pow_right (n := 2) (j := 15) (by omega) (by omega))
                generalize codeAt l j = cj at hdj hpf hc1
                generalize codeAt l k = ck at hdk hpf hc2
                have hpw : 2 ^ n ≤ 2 ^ 15 := Nat.pow_le_pow_right (by omega) (by omega)
                have hpp := Nat.two_pow_pos n
                have hP1 : (2 : Int) ^ n = ((2 ^ n : Nat) : Int) := by simp
                generalize 2 ^ n = P at hpw hpp hP1 hpf
                have hr : ck % P ≤ ck := Nat.mod_le _ _
                have hP3 : ((P : Int) == 0) = false := beq_eq_false_iff_ne.2 (by omega)
                have hP5 : decide ((P : Int) = 0) = false := decide_eq_false (by omega)
                have hP4 : (ck : Int).tmod (P : Int) = ((ck % P : Nat) : Int) := by rw [Int.tmod_eq_emod_of_nonneg (by omega)]; simp
                have hP6 : (ck : Int) % (P : Int) = ((ck % P : Nat) : Int) := by simp
                have hP2 : IntKind.u32.wrap (P : Int) = (P : Int) := by rw [IntKind.wrap_u32]; omega
                have hP7 : (P : Int) % 4294967296 = (P : Int) := by omega
                generalize ck % P = r at hr hP4 hP6 hpf
                have te : ((r : Int) == (cj : Int)) = false := beq_eq_false_iff_ne.2 (by omega)
                have te2 : (r == cj) = false := beq_eq_false_iff_ne.2 hpf
                clear hjk hpf
                go_wp2_with fail
                go_quiet (fail)
                go_wp2_with fail
                go_roundw
                case rel => exact ⟨k + 1, by omega, by go_num, _, rfl⟩
                case measure => simp [intOf]; omega
              · have tl : decide (n ≤ m) = false := decide_eq_false hle
                have tl2 : decide ((n : Int) ≤ (m : Int)) = false := decide_eq_false (by omega)
                clear hjk hdj hdk
                go_wp2_with fail
                go_quiet (fail)
                go_wp2_with fail
                go_roundw
                case rel => exact ⟨k + 1, by omega, by go_num, _, rfl⟩
                case measure => simp [intOf]; omega
            · have tp : decide (0 < n) = false := decide_eq_false hp
              have tp2 : decide ((0 : Int) < (n : Int)) = false := decide_eq_false (by omega)
              clear hjk hck hdj hdk
              go_wp2_with fail
              go_quiet (fail)
              go_wp2_with fail
              go_roundw
              case rel => exact ⟨k + 1, by omega, by go_num, _, rfl⟩
              case measure => simp [intOf]; omega
        · obtain rfl : k = l.length := by omega
          go_wp2_with fail
          go_roundw
          case rel => exact ⟨j + 1, by omega, by go_num, _, rfl⟩
          case measure => simp [intOf]; omega
    · obtain rfl : j = l.length := by omega
      go_wp2_with fail
      go_ret
      exact ⟨rfl, below_drewN HB2.out q⟩
end Go.Proofs.Ytdlnnokimhemfaa
