/-
  The document's Kind of layer 8.
-/
import Derived.Test.YtdlnnokimhemfaaRefMath08
namespace Go.Proofs.Ytdlnnokimhemfaa
open Go.RowKit

theorem right_take (l : List Int) (k : Nat) (hk : k < l.length) (h : rightB (l.take k) = true) (hx : 0 ≤ l[k] ∧ l[k] ≤ 15) : rightB (l.take (k + 1)) = true := by
  rw [List.take_succ_eq_append_getElem hk, rightB_snoc, h]; simp [hx.1, hx.2]
theorem kind_wrong (l : List Int) (k : Nat) (hk : k < l.length) (hx : l[k] < 0 ∨ 15 < l[k]) : kindOf l = 5 := by
  unfold kindOf
  rw [if_pos]
  cases h : rightB l
  · rfl
  · have := right_at h hk; omega
theorem kind_right (l : List Int) (h : rightB l = true) : kindOf l = if 32768 < psum l 15 then 4 else if pcnt l 15 = 0 then 0 else if psum l 15 = 32768 then 3 else if pcnt l 15 = 1 ∧ l.count 1 = 1 then 1 else 2 := by
  unfold kindOf; rw [h, if_neg (by simp)]
/-- the sums behind k symbols -/
def KSum (l : List Int) (k s n o : Nat) : Prop := s = psum (l.take k) 15 ∧ n = pcnt (l.take k) 15 ∧ o = (l.take k).count 1
theorem KSum.hit {l : List Int} {k s n o : Nat} (h : KSum l k s n o) (hk : k < l.length) (m d : Nat) (hm : l[k] = (m : Int)) (h1 : 2 ≤ m) (hd : m + d = 15) : KSum l (k + 1) (s + 2 ^ d) (n + 1) o := by
  obtain ⟨rfl, rfl, rfl⟩ := h
  unfold KSum
  rw [List.take_succ_eq_append_getElem hk, psum_snoc, pcnt_snoc, List.count_append, hm, if_pos (by omega), if_pos (by omega), Int.toNat_natCast, show 15 - m = d by omega, show List.count 1 [(m : Int)] = 0 from List.count_eq_zero.2 (by simp; omega)]
  exact ⟨rfl, rfl, rfl⟩
theorem KSum.one {l : List Int} {k s n o : Nat} (h : KSum l k s n o) (hk : k < l.length) (hm : l[k] = 1) : KSum l (k + 1) (s + 16384) (n + 1) (o + 1) := by
  obtain ⟨rfl, rfl, rfl⟩ := h
  unfold KSum
  rw [List.take_succ_eq_append_getElem hk, psum_snoc, pcnt_snoc, List.count_append, hm, if_pos (by decide), if_pos (by decide)]
  exact ⟨rfl, rfl, rfl⟩
theorem KSum.none {l : List Int} {k s n o : Nat} (h : KSum l k s n o) (hk : k < l.length) (hm : l[k] = 0) : KSum l (k + 1) s n o := by
  obtain ⟨rfl, rfl, rfl⟩ := h
  unfold KSum
  rw [List.take_succ_eq_append_getElem hk, psum_snoc, pcnt_snoc, List.count_append, hm, if_neg (by decide), if_neg (by decide)]
  exact ⟨rfl, rfl, rfl⟩
theorem KSum.le {l : List Int} {k s n o : Nat} (h : KSum l k s n o) : s ≤ psum l 15 ∧ n ≤ k ∧ o ≤ k := by
  obtain ⟨rfl, rfl, rfl⟩ := h
  refine ⟨psum_take_le l k 15, Nat.le_trans (pcnt_len _ _) (by simp; omega), Nat.le_trans List.count_le_length (by simp; omega)⟩

set_option maxHeartbeats 4000000 in
theorem refKind_any (l : List Int) (a : Option Addr) (c B : Nat) (w : World) (hl : l.length ≤ 1000000) (hs : Sl w B a (intsV l)) :
    Calls Try.prog 11 #[.slice a l.length c] w fun e w' => e = .returned (.int .i64 (kindOf l)) ∧ w = w' := by
  have HS := Lib.hid hs
  clear hs
  go_enter Try.func11, Try.ntmps11
  go_wp2_with fail
  go_loop [6] (fun i => ∃ k : Nat, k ≤ l.length ∧ i = .int .i64 (k : Int) ∧ rightB (l.take k) = true) (fun i => l.length - (intOf i).toNat)
  case atStart => exact ⟨0, by omega, rfl, rfl⟩
  case round =>
    obtain ⟨k, hk, rfl, hrt⟩ := hrel
    have HRT := Lib.hid hrt
    clear hrt
    by_cases hlt : k < l.length
    · obtain ⟨b, off, rfl, _, hcell⟩ := HS.out.int hlt
      have k0 : (0 : Int) ≤ (k : Int) := Int.natCast_nonneg _
      have k1 : (k : Int) < (l.length : Int) := by omega
      by_cases h0 : l[k] < 0
      · have HK := Lib.hid (kind_wrong l k hlt (.inl h0))
        generalize l[k] = x at hcell h0
        have t0 : decide (x < 0) = true := decide_eq_true h0
        go_wp2_with fail
        go_ret
        exact ⟨by rw [HK.out]; rfl, rfl⟩
      · by_cases h1 : 15 < l[k]
        · have HK := Lib.hid (kind_wrong l k hlt (.inr h1))
          generalize l[k] = x at hcell h0 h1
          have t0 : decide (x < 0) = false := decide_eq_false h0
          have t1 : decide (15 < x) = true := decide_eq_true h1
          go_wp2_with fail
          go_ret
          exact ⟨by rw [HK.out]; rfl, rfl⟩
        · have HN := Lib.hid (right_take l k hlt HRT.out (by omega))
          generalize l[k] = x at hcell h0 h1
          have t0 : decide (x < 0) = false := decide_eq_false h0
          have t1 : decide (15 < x) = false := decide_eq_false h1
          go_wp2_with fail
          go_round
          case rel => exact ⟨k + 1, by omega, by go_num, HN.out⟩
          case measure => simp [intOf]; omega
    · obtain rfl : k = l.length := by omega
      have hr := HRT.out
      rw [List.take_length] at hr
      have HR := Lib.hid hr
      have HKR := Lib.hid (kind_right l hr)
      have hps := psum_le l 15 (by omega)
      clear hr HRT
      go_wp2_with fail
      go_loop [3, 4, 5, 7] (fun s n o i => ∃ k S N O : Nat, k ≤ l.length ∧ KSum l k S N O ∧ s = .int .i64 (S : Int) ∧ n = .int .i64 (N : Int) ∧ o = .int .i64 (O : Int) ∧ i = .int .i64 (k : Int)) (fun _ _ _ i => l.length - (intOf i).toNat)
      case atStart => exact ⟨0, 0, 0, 0, by omega, ⟨by simp [psum], by simp [pcnt], by simp⟩, rfl, rfl, rfl, rfl⟩
      case round =>
        obtain ⟨k, S, N, O, hk, hsum, rfl, rfl, rfl, rfl⟩ := hrel
        obtain ⟨b1, b2, b3⟩ := hsum.le
        have HSU := Lib.hid hsum
        clear hsum
        by_cases hlt : k < l.length
        · have k0 : (0 : Int) ≤ (k : Int) := Int.natCast_nonneg _
          have k1 : (k : Int) < (l.length : Int) := by omega
          by_cases hS : S ≤ 32768
          · have tS : decide ((S : Int) ≤ 32768) = true := decide_eq_true (by omega)
            obtain ⟨b, off, rfl, _, hcell⟩ := HS.out.int hlt
            obtain ⟨hx0, hx1⟩ := right_at HR.out hlt
            obtain ⟨m, hm⟩ := Int.eq_ofNat_of_zero_le hx0
            have HM := Lib.hid hm
            rw [hm] at hcell hx1
            clear hx0 hm
            have m0 : (0 : Int) ≤ (m : Int) := Int.natCast_nonneg _
            by_cases e0 : m = 0
            · subst e0
              have HN := Lib.hid (HSU.out.none hlt HM.out)
              rw [show ((0 : Nat) : Int) = 0 from rfl] at hcell
              go_wp2_with fail
              go_round
              case rel => exact ⟨k + 1, S, N, O, by omega, HN.out, rfl, rfl, rfl, by go_num⟩
              case measure => simp [intOf]; omega
            · by_cases e1 : m = 1
              · subst e1
                have HN := Lib.hid (HSU.out.one hlt HM.out)
                rw [show ((1 : Nat) : Int) = 1 from rfl] at hcell
                go_wp2_with fail
                go_round
                case rel => exact ⟨k + 1, S + 16384, N + 1, O + 1, by omega, HN.out, by go_num, by go_num, by go_num, by go_num⟩
                case measure => simp [intOf]; omega
              · obtain ⟨d, hd⟩ : ∃ d, m + d = 15 := ⟨15 - m, by omega⟩
                have HN := Lib.hid (HSU.out.hit hlt m d HM.out (by omega) hd)
                have hd2 : (15 : Int) - (m : Int) = (d : Int) := by omega
                have tp : decide (0 < m) = true := decide_eq_true (by omega)
                have tp2 : decide ((0 : Int) < (m : Int)) = true := decide_eq_true (by omega)
                have te : ((m : Int) == 1) = false := beq_eq_false_iff_ne.2 (by omega)
                have hd3 : d ≤ 13 := by omega
                have hpw : 2 ^ d ≤ 2 ^ 13 := Nat.pow_le_pow_right (by omega) hd3
                have hP1 : (2 : Int) ^ d = ((2 ^ d : Nat) : Int) := by simp
                generalize 2 ^ d = P at hpw hP1 HN
                clear hd e0 e1
                go_wp2_with fail
                go_round
                case rel => exact ⟨k + 1, S + P, N + 1, O, by omega, HN.out, by go_num, by go_num, rfl, by go_num⟩
                case measure => simp [intOf]; omega
          · have tS : decide ((S : Int) ≤ 32768) = false := decide_eq_false (by omega)
            have tS2 : decide ((32768 : Int) < (S : Int)) = true := decide_eq_true (by omega)
            have HE := Lib.hid (HKR.out.trans (if_pos (by omega)))
            go_wp2_with fail
            go_ret
            exact ⟨by rw [HE.out]; rfl, rfl⟩
        · obtain rfl : k = l.length := by omega
          have hsu := HSU.out
          unfold KSum at hsu
          rw [List.take_length] at hsu
          obtain ⟨e1, e2, e3⟩ := hsu
          have HK := Lib.hid HKR.out
          rw [← e1, ← e2, ← e3] at HK
          clear e1 e2 e3 HSU HKR
          by_cases e1 : 32768 < S
          · have t1 : decide ((32768 : Int) < (S : Int)) = true := decide_eq_true (by omega)
            have HE := Lib.hid (HK.out.trans (if_pos e1))
            go_wp2_with fail
            go_ret
            exact ⟨by rw [HE.out]; rfl, rfl⟩
          have t1 : decide ((32768 : Int) < (S : Int)) = false := decide_eq_false (by omega)
          have HK2 := Lib.hid (HK.out.trans (if_neg e1))
          by_cases e2 : N = 0
          · have HE := Lib.hid (HK2.out.trans (if_pos e2))
            subst e2
            go_wp2_with fail
            go_ret
            exact ⟨by rw [HE.out]; rfl, rfl⟩
          have t2 : ((N : Int) == 0) = false := beq_eq_false_iff_ne.2 (by omega)
          have HK3 := Lib.hid (HK2.out.trans (if_neg e2))
          by_cases e3 : S = 32768
          · have HE := Lib.hid (HK3.out.trans (if_pos e3))
            subst e3
            go_wp2_with fail
            go_ret
            exact ⟨by rw [HE.out]; rfl, rfl⟩
          have t3 : ((S : Int) == 32768) = false := beq_eq_false_iff_ne.2 (by omega)
          have HK4 := Lib.hid (HK3.out.trans (if_neg e3))
          clear HK HK2 HK3
          by_cases e4 : N = 1
          · subst e4
            by_cases e5 : O = 1
            · have HE := Lib.hid (HK4.out.trans (if_pos ⟨rfl, e5⟩))
              subst e5
              go_wp2_with fail
              go_ret
              exact ⟨by rw [HE.out]; rfl, rfl⟩
            · have t5 : ((O : Int) == 1) = false := beq_eq_false_iff_ne.2 (by omega)
              have HE := Lib.hid (HK4.out.trans (if_neg (fun h => e5 h.2)))
              go_wp2_with fail
              go_ret
              exact ⟨by rw [HE.out]; rfl, rfl⟩
          · have t4 : ((N : Int) == 1) = false := beq_eq_false_iff_ne.2 (by omega)
            have HE := Lib.hid (HK4.out.trans (if_neg (fun h => e4 h.1)))
            go_wp2_with fail
            go_ret
            exact ⟨by rw [HE.out]; rfl, rfl⟩
end Go.Proofs.Ytdlnnokimhemfaa
