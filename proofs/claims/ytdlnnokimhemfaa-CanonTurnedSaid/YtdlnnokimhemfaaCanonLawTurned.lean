/-
  The law CanonTurned returns true: walk.
-/
import Derived.Test.YtdlnnokimhemfaaCanonAwake
import Derived.Test.YtdlnnokimhemfaaSorted
namespace Go.Proofs.Ytdlnnokimhemfaa
open Go.RowKit

theorem ints_snoc' (l : List Int) (b : Int) : intsV (l ++ [b]) = intsV l ++ [.int .i64 b] := by simp [intsV]
theorem rev_take_succ (l : List Int) (k j : Nat) (h : j + k + 1 = l.length) : l.reverse.take (k + 1) = l.reverse.take k ++ [l[j]] := by
  rw [List.take_succ_eq_append_getElem (by simp; omega)]
  congr 1
  rw [List.getElem_reverse]
  congr 2
  omega
def BackRel (w : World) (l : List Int) (k : Nat) (v : Value) (wr : World) : Prop :=
  wr.ownsRow w.heap.size 3 1 v k (intsV (l.reverse.take k)) ∧ Below w.heap.size w wr

set_option maxHeartbeats 2000000 in
theorem canonTurned_walk (a : Option Addr) (l : List Int) (cap : Nat) (w : World) (hl : l.length ≤ maxLen) (_hlc : l.length ≤ cap) (_hrg : ∀ x ∈ l, -9223372036854775808 ≤ x ∧ x ≤ 9223372036854775807) (hsl : Sl w w.heap.size a (intsV l)) :
    Calls Try.prog 5 #[.slice a l.length cap] w fun e w' => e = .returned (.bool true) ∧ Below w.heap.size w w' := by
  unfold maxLen at hl
  have HS := Lib.hid hsl
  clear hsl _hrg
  by_cases h4 : l.length ≤ 400
  case neg =>
    have t1 : decide ((400 : Int) < (l.length : Int)) = true := decide_eq_true (by omega)
    have t2 : decide (400 < l.length) = true := decide_eq_true (by omega)
    go_enter Try.func5, Try.ntmps5
    go_wp2_with fail
    (with_reducible refine (awake08_any w).mono ?_)
    rintro e w1 ⟨rfl, hb1⟩
    go_wp2_with fail
    go_ret
    exact ⟨rfl, hb1⟩
  have t1 : decide ((400 : Int) < (l.length : Int)) = false := decide_eq_false (by omega)
  have t2 : decide (400 < l.length) = false := decide_eq_false (by omega)
  obtain ⟨i0, hi0, hz0, hz1, hz2⟩ := info_parts intInfoS
  have Hi0 := Lib.hid hi0
  have Hz0 := Lib.hid hz0
  have Hz1 := Lib.hid hz1
  have Hz2 := Lib.hid hz2
  clear hi0 hz0 hz1 hz2
  go_enter Try.func5, Try.ntmps5
  go_wp2_with fail
  (with_reducible refine (awake08_any w).mono ?_)
  rintro e w1 ⟨rfl, hb1⟩
  have HB1 := Lib.hid hb1
  clear hb1
  go_wp2_with fail
  go_loopw [3, 4] (fun v i wr => ∃ k : Nat, k ≤ l.length ∧ i = .int .i64 ((l.length : Int) - 1 - (k : Int)) ∧ BackRel w l k v wr) (fun _ i _ => (intOf i + 1).toNat)
  case atStart => exact ⟨0, by omega, by go_num, by rw [List.take_zero]; exact World.ownsRow_nil _ _ _ _, HB1.out⟩
  case round =>
    obtain ⟨k, hk, rfl, hown, hbr⟩ := hrel
    clear HB1
    have hbs := hbr.size
    by_cases hlt : k < l.length
    · obtain ⟨j, hj⟩ : ∃ j, j + k + 1 = l.length := ⟨l.length - 1 - k, by omega⟩
      obtain ⟨b, off, rfl, _, hcell⟩ := (HS.out.below hbr (Nat.le_refl _)).int (show j < l.length by omega)
      have HT := Lib.hid (rev_take_succ l k j hj)
      generalize l[j] = x at hcell HT
      have HOW := Lib.hid hown
      rw [show (l.length : Int) - 1 - (k : Int) = (j : Int) by omega]
      have k0 : (0 : Int) ≤ (j : Int) := Int.natCast_nonneg _
      have k1 : (j : Int) < (l.length : Int) := by omega
      have HJ := Lib.hid hj
      have hjl : j < l.length := by omega
      have HBR := Lib.hid hbr
      generalize l.reverse.take k = M at HT HOW
      clear hown hbr hj
      go_wp2_with (at_builtin; refine wpList_append_sl _ rfl _ _ _ rfl w.heap.size 3 i0 _ 8 Try.underlying22 Hi0.out Hz0.out Hz1.out Hz2.out rfl _ k (intsV M) rfl (HOW.out.alloc _) (wr.heap.size + 1) (some ⟨wr.heap.size, 0, none⟩) 1 1 [.int .i64 x] rfl rfl (Sl.new_ _ _ _ _) (int64s_oneCell [x]) (by unfold maxLen; omega) (by omega) (by simp; omega) ?_; intro v3 w3 hown3 hgrow3 hat3; have HN := Lib.hid (show BackRel w l (k + 1) v3 w3 from ⟨by rw [HT.out, ints_snoc']; exact hown3, own_below (HOW.out.alloc _) hgrow3 (Nat.le_refl _) (by simp; omega) (HBR.out.alloc hbs _)⟩); clear hown3 hgrow3 hat3)
      go_roundw
      case rel => exact ⟨k + 1, by omega, by have := HJ.out; go_num, HN.out⟩
      case measure => simp [intOf]
    · obtain rfl : k = l.length := by omega
      rw [show (l.length : Int) - 1 - (l.length : Int) = -1 by omega]
      rw [List.take_of_length_le (by simp)] at hown
      obtain ⟨A, c, rfl⟩ := own_form hown
      have HOW := Lib.hid hown
      have HBR := Lib.hid hbr
      have K1 := Lib.hid (kind_any l a cap w.heap.size wr (by omega) (HS.out.below hbr (Nat.le_refl _)) hbs)
      have HRL := Lib.hid (show l.reverse.length = l.length by simp)
      clear hown hbr
      go_wp2_with fail
      (with_reducible refine K1.out.mono ?_)
      rintro e w2 ⟨rfl, hb2⟩
      have HB2 := Lib.hid (HBR.out.trans (hb2.mono hbs))
      have hs2 := hb2.size
      have K2 := Lib.hid (kind_any l.reverse A c wr.heap.size w2 (by rw [HRL.out]; omega) ((Sl.of_own HOW.out).below hb2 (Nat.le_refl _)) hs2)
      rw [kindOf_rev, HRL.out] at K2
      have HSB := Lib.hid ((Sl.of_own HOW.out).below hb2 (Nat.le_refl _))
      clear hb2 K1
      go_wp2_with fail
      (with_reducible refine K2.out.mono ?_)
      rintro e w3 ⟨rfl, hb3⟩
      have HB3 := Lib.hid (HB2.out.trans (hb3.mono (by omega)))
      have hs3 := hb3.size
      have S1 := Lib.hid (sorted_any l a cap w.heap.size w3 (by omega) (HS.out.below HB3.out (Nat.le_refl _)) (by omega))
      have HSC := Lib.hid (HSB.out.below (B := wr.heap.size) hb3 hs2)
      clear hb3 K2
      have te : (kindOf l == kindOf l) = true := by simp
      generalize kindOf l = kd at te
      go_wp2_with fail
      (with_reducible refine S1.out.mono ?_)
      rintro e w4 ⟨A4, c4, rfl, ho4, hb4⟩
      have HB4 := Lib.hid (HB3.out.trans (hb4.mono (by omega)))
      have hs4 := hb4.size
      have S2 := Lib.hid (sorted_any l.reverse A c wr.heap.size w4 (by rw [HRL.out]; omega) (HSC.out.below hb4 (by omega)) (by omega))
      rw [HRL.out] at S2
      clear hb4 S1 ho4
      have hn4 : (intsV (up (srt l 15))).length = pcnt l 15 := by rw [len_intsV, len_up, len_srt]
      have hn5 : (intsV (up (srt l.reverse 15))).length = pcnt l 15 := by rw [len_intsV, len_up, len_srt, pcnt_rev]
      rw [hn4]
      have HN5 := Lib.hid hn5
      clear hn4 hn5
      go_wp2_with fail
      (with_reducible refine S2.out.mono ?_)
      rintro e w5 ⟨A5, c5, rfl, ho5, hb5⟩
      rw [HN5.out]
      have HB5 := Lib.hid (HB4.out.trans (hb5.mono (by omega)))
      clear hb5 ho5 S2
      generalize pcnt l 15 = T
      go_wp2_with fail
      go_ret
      exact ⟨by simp, HB5.out⟩
end Go.Proofs.Ytdlnnokimhemfaa
