/-
  The law DecodeReads returns true: walk.
-/
import Derived.Test.YtdlnnokimhemfaaDecRef
import Derived.Test.YtdlnnokimhemfaaRefBits
namespace Go.Proofs.Ytdlnnokimhemfaa
open Go.RowKit

theorem boolInfoD : (Try.prog.info? 4).map (fun i => (i.zero, i.size, i.bytes)) = some (some (.bool false), 1, 1) := by kernel_rfl
theorem decodeReads_big (a : Option Addr) (l : List Int) (cap : Nat) (which : Int) (b : Option Addr) (bs : List UInt8) (d : Nat) (w : World) (hl : l.length ≤ maxLen) (hm : bs.length ≤ maxLen) (hbig : 60 < l.length ∨ 12 < bs.length) :
    Calls Try.prog 6 #[.slice a l.length cap, .int .i64 which, .slice b bs.length d] w fun e w' => e = .returned (.bool true) ∧ Below w.heap.size w w' := by
  unfold maxLen at hl hm
  by_cases h4 : 60 < l.length
  · have t1 : decide ((60 : Int) < (l.length : Int)) = true := decide_eq_true (by omega)
    have t2 : decide (60 < l.length) = true := decide_eq_true (by omega)
    clear hbig
    go_enter Try.func6, Try.ntmps6
    go_wp2_with fail
    (with_reducible refine (awake09_any w).mono ?_)
    rintro e w1 ⟨rfl, hb1⟩
    go_wp2_with fail
    go_ret
    exact ⟨rfl, hb1⟩
  · have t1 : decide ((60 : Int) < (l.length : Int)) = false := decide_eq_false (by omega)
    have t2 : decide (60 < l.length) = false := decide_eq_false (by omega)
    have t3 : decide ((12 : Int) < (bs.length : Int)) = true := decide_eq_true (by omega)
    have t4 : decide (12 < bs.length) = true := decide_eq_true (by omega)
    clear hbig
    go_enter Try.func6, Try.ntmps6
    go_wp2_with fail
    (with_reducible refine (awake09_any w).mono ?_)
    rintro e w1 ⟨rfl, hb1⟩
    go_wp2_with fail
    go_ret
    exact ⟨rfl, hb1⟩

set_option maxRecDepth 100000 in
set_option maxHeartbeats 1000000 in
theorem decodeReads_no (a : Option Addr) (l : List Int) (cap : Nat) (which : Int) (b : Option Addr) (bs : List UInt8) (d : Nat) (w : World) (h1 : l.length ≤ 60) (h2 : bs.length ≤ 12) (hsl : Sl w w.heap.size a (intsV l)) (hm : mayOf l which ≠ 0) :
    Calls Try.prog 6 #[.slice a l.length cap, .int .i64 which, .slice b bs.length d] w fun e w' => e = .returned (.bool true) ∧ Below w.heap.size w w' := by
  have t1 : decide ((60 : Int) < (l.length : Int)) = false := decide_eq_false (by omega)
  have t2 : decide (60 < l.length) = false := decide_eq_false (by omega)
  have t3 : decide ((12 : Int) < (bs.length : Int)) = false := decide_eq_false (by omega)
  have t4 : decide (12 < bs.length) = false := decide_eq_false (by omega)
  have HS := Lib.hid hsl
  have HM := Lib.hid hm
  obtain ⟨v, hv⟩ : ∃ v, v = mayOf l which := ⟨_, rfl⟩
  have HV := Lib.hid hv
  have t5 : (v != 0) = true := by rw [hv]; exact bne_iff_ne.2 hm
  have t6 : (v != v) = false := by simp
  clear hsl hm hv
  go_enter Try.func6, Try.ntmps6
  go_wp2_with fail
  (with_reducible refine (awake09_any w).mono ?_)
  rintro e w1 ⟨rfl, hb1⟩
  have HB1 := Lib.hid hb1
  have NW := Lib.hid (decNew_no l which a cap w.heap.size w1 (by omega) (HS.out.below hb1 (Nat.le_refl _)) hb1.size HM.out)
  rw [← HV.out] at NW
  clear hb1
  go_wp2_with fail
  (with_reducible refine NW.out.mono ?_)
  rintro e w2 ⟨rfl, hb2⟩
  have HB2 := Lib.hid (HB1.out.trans (hb2.mono HB1.out.size))
  have RM := Lib.hid (refMay_any l which a cap w.heap.size w2 (by omega) (HS.out.below HB2.out (Nat.le_refl _)))
  have MA := Lib.hid (may_any l which a cap w.heap.size w2 (by omega) (HS.out.below HB2.out (Nat.le_refl _)) HB2.out.size)
  rw [← HV.out] at RM MA
  clear hb2 NW HM
  go_wp2_with fail
  (with_reducible refine RM.out.mono ?_)
  rintro e w3 ⟨rfl, rfl⟩
  go_wp2_with fail
  (with_reducible refine MA.out.mono ?_)
  rintro e w4 ⟨rfl, hb4⟩
  have HB4 := Lib.hid (HB2.out.trans (hb4.mono HB2.out.size))
  clear hb4 RM MA
  go_wp2_with fail
  go_ret
  exact ⟨rfl, HB4.out⟩

/-- while symbols are read -/
def ReRel (w5 : World) (p : Nat) (v : Value) (wr : World) : Prop :=
  ∃ B o buf pos gone A c, RdS wr B p o buf pos gone ∧ buf.length ≤ 12 ∧ v = .slice A (left buf pos).length c ∧ (left buf pos).length ≤ c ∧ Sl wr w5.heap.size A (boolsV (left buf pos)) ∧ Fr (fun x => w5.heap.size ≤ x) w5 wr
theorem RefIs.le {l : List Int} {L : List Bool} {sym bits code : Nat} (h : RefIs l L sym bits code) : bits ≤ L.length ∧ (code = 0 ∨ code = 4 ∨ code = 26) ∧ sym ≤ l.length := by
  rcases h with ⟨h1, h2⟩ | ⟨_, h2, h3, h4⟩
  · exact ⟨h1.2.2.2.2.1, .inl h2, Nat.le_of_lt h1.1⟩
  · exact ⟨by omega, by omega, by omega⟩
theorem max0 (x : Int) (h : 0 ≤ x) : (if x < 0 then 0 else x) = x := by rw [if_neg (by omega)]

set_option maxRecDepth 100000 in
set_option maxHeartbeats 4000000 in
theorem decodeReads_yes (a : Option Addr) (l : List Int) (cap : Nat) (which : Int) (b : Option Addr) (bs : List UInt8) (d : Nat) (w : World) (h1 : l.length ≤ 60) (h2 : bs.length ≤ 12) (hsl : Sl w w.heap.size a (intsV l)) (hsb : Sl w w.heap.size b (bytesV bs)) (hm : mayOf l which = 0) :
    Calls Try.prog 6 #[.slice a l.length cap, .int .i64 which, .slice b bs.length d] w fun e w' => e = .returned (.bool true) ∧ Below w.heap.size w w' := by
  have t1 : decide ((60 : Int) < (l.length : Int)) = false := decide_eq_false (by omega)
  have t2 : decide (60 < l.length) = false := decide_eq_false (by omega)
  have t3 : decide ((12 : Int) < (bs.length : Int)) = false := decide_eq_false (by omega)
  have t4 : decide (12 < bs.length) = false := decide_eq_false (by omega)
  have HS := Lib.hid hsl
  have HSB := Lib.hid hsb
  have HM := Lib.hid hm
  have HK := Lib.hid (may_kind hm).1
  have HRT := Lib.hid (kind_le3 (may_kind hm).1).1
  obtain ⟨M, hM⟩ := mx_nat l
  have HMX := Lib.hid hM
  have hM15 : M ≤ 15 := by have := mx_le (kind_le3 (may_kind hm).1).1; omega
  obtain ⟨T, hTT⟩ : ∃ T, T = pcnt l 15 := ⟨_, rfl⟩
  have hTl := pcnt_len l 15
  rw [← hTT] at hTl
  have HTT := Lib.hid hTT
  obtain ⟨i0, hi0, hz0, hz1, hz2⟩ := info_parts boolInfoD
  have HSF := Lib.hid (fun (A : Option Addr) (len c k : Nat) (hk : k ≤ len) W => run_slice_from Try.underlying42 hi0 hz1 A len c k hk W)
  clear hsl hsb hm hM hTT hi0 hz0 hz1 hz2
  go_enter Try.func6, Try.ntmps6
  go_wp2_with fail
  (with_reducible refine (awake09_any w).mono ?_)
  rintro e w1 ⟨rfl, hb1⟩
  have HB1 := Lib.hid hb1
  have hs1 := hb1.size
  have NW := Lib.hid (decNew_yes l which a cap w.heap.size w1 (by omega) (HS.out.below hb1 (Nat.le_refl _)) hb1.size HM.out)
  clear hb1
  go_wp2_with fail
  (with_reducible refine NW.out.mono ?_)
  rintro e w2 ⟨pt, rfl, hTab, hb2⟩
  have HB2 := Lib.hid (HB1.out.trans (hb2.mono hs1))
  have hs2 := HB2.out.size
  have HTAB := Lib.hid hTab
  have RM := Lib.hid (refMay_any l which a cap w.heap.size w2 (by omega) (HS.out.below HB2.out (Nat.le_refl _)))
  have MA := Lib.hid (may_any l which a cap w.heap.size w2 (by omega) (HS.out.below HB2.out (Nat.le_refl _)) hs2)
  rw [HM.out] at RM MA
  clear hb2 hTab NW
  go_wp2_with fail
  (with_reducible refine RM.out.mono ?_)
  rintro e w3' ⟨rfl, rfl⟩
  go_wp2_with fail
  (with_reducible refine MA.out.mono ?_)
  rintro e w3 ⟨rfl, hb3⟩
  have HB3 := Lib.hid (HB2.out.trans (hb3.mono hs2))
  have hs3 := HB3.out.size
  have hs23 := hb3.size
  have HTAB3 := Lib.hid (HTAB.out.below hb3)
  have MO := Lib.hid (decMost_any l M _ _ pt w3 HTAB3.out HMX.out)
  have LE := Lib.hid (decLen_any l _ _ pt w3 HTAB3.out)
  rw [← HTT.out] at LE
  have RB := Lib.hid (refBits_any bs b d w.heap.size w3 (by omega) (HSB.out.below HB3.out (Nat.le_refl _)) hs3)
  have HS3 := Lib.hid (HS.out.below HB3.out (Nat.le_refl _))
  clear hb3 RM MA HTAB
  go_wp2_with fail
  go_loop [10, 11, 12] (fun x y i => ∃ k X : Nat, k ≤ l.length ∧ mxOf (l.take k) = (X : Int) ∧ x = .int .i64 (X : Int) ∧ y = .int .i64 ((pcnt (l.take k) 15 : Nat) : Int) ∧ i = .int .i64 (k : Int)) (fun _ _ i => l.length - (intOf i).toNat)
  case atStart => exact ⟨0, 0, by omega, by simp [mxOf], rfl, by simp [pcnt], rfl⟩
  case round =>
    obtain ⟨k, X, hk, hX, rfl, rfl, rfl⟩ := hrel
    have HXX := Lib.hid hX
    have hpc := pcnt_take_len l 15 k hk
    by_cases hlt : k < l.length
    · have k0 : (0 : Int) ≤ (k : Int) := Int.natCast_nonneg _
      have k1 : (k : Int) < (l.length : Int) := by omega
      have hx := right_at HRT.out hlt
      have HTK := Lib.hid (show l.take (k + 1) = l.take k ++ [l[k]] from List.take_succ_eq_append_getElem hlt)
      rw [← getD_of hlt] at hx HTK
      obtain ⟨n, hn⟩ := Int.eq_ofNat_of_zero_le hx.1
      obtain ⟨b0, o0, rfl, hb0, hc0⟩ := sl_int_at HS3.out hlt hn
      rw [hn] at hx HTK
      have n0 : (0 : Int) ≤ (n : Int) := Int.natCast_nonneg _
      have X0 : (0 : Int) ≤ (X : Int) := Int.natCast_nonneg _
      have hmx : mxOf (l.take (k + 1)) = ((max X n : Nat) : Int) := by rw [HTK.out, mx_snoc, hX]; omega
      have hpn : pcnt (l.take (k + 1)) 15 = pcnt (l.take k) 15 + if 1 ≤ (n : Int) ∧ (n : Int) ≤ 15 then 1 else 0 := by rw [HTK.out, pcnt_snoc]; rfl
      have HMXN := Lib.hid hmx
      have HPN := Lib.hid hpn
      generalize pcnt (l.take k) 15 = P at hpc HPN
      clear hX hn hmx hpn
      by_cases e0 : n = 0
      · subst e0
        rw [show ((0 : Nat) : Int) = 0 from rfl] at hc0
        have HP2 := Lib.hid (show pcnt (l.take (k + 1)) 15 = P by rw [HPN.out]; simp)
        have tz : ¬ (X : Int) < 0 := by omega
        have tz2 : decide ((X : Int) < 0) = false := decide_eq_false tz
        go_wp2_with fail
        go_round
        case rel => exact ⟨k + 1, X, by omega, by rw [HMXN.out]; simp, by first | rfl | (simp) , by rw [HP2.out], by go_num⟩
        case measure => simp [intOf]; omega
      · have tp : decide (0 < n) = true := decide_eq_true (by omega)
        have HP2 := Lib.hid (HPN.out.trans (by rw [if_pos (by omega)]))
        by_cases hc : X < n
        · have tc : decide (X < n) = true := decide_eq_true hc
          go_wp2_with fail
          go_round
          case rel => exact ⟨k + 1, n, by omega, by rw [HMXN.out]; omega, by first | rfl | (simp [hc]), by rw [HP2.out]; go_num, by go_num⟩
          case measure => simp [intOf]; omega
        · have tc : decide (X < n) = false := decide_eq_false hc
          go_wp2_with fail
          go_round
          case rel => exact ⟨k + 1, X, by omega, by rw [HMXN.out]; omega, by first | rfl | (simp [hc]), by rw [HP2.out]; go_num, by go_num⟩
          case measure => simp [intOf]; omega
    · obtain rfl : k = l.length := by omega
      rw [List.take_length] at hX ⊢
      have hXM : X = M := by have := HMX.out; omega
      rw [hXM, ← HTT.out]
      clear hX hXM HXX hpc
      go_wp2_with fail
      (with_reducible refine MO.out.mono ?_)
      rintro e w4' ⟨rfl, rfl⟩
      go_wp2_with fail
      (with_reducible refine LE.out.mono ?_)
      rintro e w4' ⟨rfl, rfl⟩
      clear MO LE
      go_wp2_with fail
      (with_reducible refine RB.out.mono ?_)
      rintro e w4 ⟨A4, c4, rfl, ho4, hb4⟩
      rw [len_boolsV, Bit.length_ofBytes'] at ho4 ⊢
      have HB4 := Lib.hid (HB3.out.trans (hb4.mono hs3))
      have hs34 := hb4.size
      have hs4 := HB4.out.size
      have HTAB4 := Lib.hid (HTAB3.out.below (hb4.mono hs23))
      have hcap4 := own_cap ho4
      have HSL4 := Lib.hid (Sl.of_own ho4)
      have IN := Lib.hid (bitinNew_any w4.heap.size w4 (Nat.le_refl _))
      clear ho4 hb4 RB HTAB3
      go_wp2_with fail
      (with_reducible refine IN.out.mono ?_)
      rintro e w5 ⟨rfl, hr5, hb5⟩
      obtain ⟨p, hp⟩ : ∃ p, p = w4.heap.size := ⟨_, rfl⟩
      have HP := Lib.hid hp
      have hs5 := hb5.size
      have HF5 := Lib.hid (Fr.of_below hb5 (fun x => w4.heap.size ≤ x))
      have hB5 := HB4.out.trans (hb5.mono hs4)
      have FE := Lib.hid (feed_plain w4.heap.size w4.heap.size (.slice none 0 0) [] 0 0 bs b d w.heap.size w5 hr5 (by simp) (by omega) (by omega) (HSB.out.below hB5 (Nat.le_refl _)) (.inl (by decide)))
      have HSL5 := Lib.hid (HSL4.out.below hb5 (Nat.le_refl _))
      rw [← hp] at FE hs4 hs34 ⊢
      clear hr5 hb5 hB5 IN hp
      go_wp2_with fail
      (with_reducible refine FE.out.mono ?_)
      rintro e w6 ⟨o6, buf, pos, gone, rfl, hleft, _, hr6, hbl6, _, hf6⟩
      have hleft' : left buf pos = Bit.ofBytes bs := by rw [hleft]; rfl
      have hf6' : Fr (fun x => w4.heap.size ≤ x) w5 w6 := hf6.mono (fun x _ h => by
        rcases h with h | h
        · rw [← HP.out]; omega
        · simp [Value.ownBlock] at h)
      have HR0 := Lib.hid (show ReRel w4 p (.slice A4 (8 * bs.length) c4) w6 from by
        refine ⟨p, o6, buf, pos, gone, A4, c4, hr6, by simp at hbl6; omega, by rw [hleft', Bit.length_ofBytes'], by rw [hleft', Bit.length_ofBytes']; exact hcap4, ?_, HF5.out.trans hf6' (fun x _ h => h)⟩
        rw [hleft']
        refine HSL5.out.keep fun q hq => ?_
        exact hf6'.cell (by omega) (by show ¬ w4.heap.size ≤ q.block; omega))
      clear hleft hleft' hr6 hbl6 hf6 hf6' FE
      obtain ⟨LL, hLL⟩ : ∃ LL, LL = 8 * bs.length := ⟨_, rfl⟩
      rw [← hLL] at HR0 ⊢
      clear hLL
      go_wp2_with fail
      go_loopw [13, 15, 16, 17, 18, 19, 20] (fun v i _ _ _ _ _ wr => ∃ k : Nat, k ≤ 100 ∧ i = .int .i64 (k : Int) ∧ ReRel w4 p v wr) (fun _ i _ _ _ _ _ _ => 100 - (intOf i).toNat)
      case atStart => exact ⟨0, by omega, rfl, HR0.out⟩
      case round =>
        obtain ⟨k, hk, rfl, B, o, buf, pos, gone, A, c, hR, hbl, rfl, hLc, hSL, hfr⟩ := hrel
        clear HR0
        have hsr := hfr.size
        rw [← HP.out] at hsr
        have hfB := hfr.below (B := w.heap.size) (by rw [← HP.out]; exact hs4) (fun x hx h => by rw [← HP.out] at h; omega)
        have HBR := Lib.hid (HB4.out.trans hfB)
        clear hfB
        by_cases hlt : k < 100
        · have k0 : (0 : Int) ≤ (k : Int) := Int.natCast_nonneg _
          have k1 : decide ((k : Int) < 100) = true := decide_eq_true (by omega)
          have hLl := length_left buf pos
          obtain ⟨L, hL⟩ : ∃ L, L = left buf pos := ⟨_, rfl⟩
          have HL := Lib.hid hL
          rw [← hL] at hLc hSL hLl ⊢
          have hL96 : L.length ≤ 96 := by omega
          have RN := Lib.hid (refNext_any l L a A cap c w.heap.size w4.heap.size wr (by omega) (by omega) (HS.out.below HBR.out (Nat.le_refl _)) HBR.out.size hSL (by rw [← HP.out]; exact hsr) HK.out)
          have HRR := Lib.hid hR
          have HFR := Lib.hid hfr
          have HSL := Lib.hid hSL
          have hpl := hR.cells.lt
          clear hR hSL hfr hL hLl
          go_wp2_with fail
          (with_reducible refine RN.out.mono ?_)
          rintro e w7 ⟨sym, bits, code, hri, rfl, hb7⟩
          obtain ⟨ble, hcode, hsyl⟩ := hri.le
          have hR7 : RdS w7 B p o buf pos gone := HRR.out.fr (Fr.of_below hb7 (fun _ => False)) id (fun _ _ => id)
          have hfr7 := HFR.out.trans (Fr.of_below hb7 (fun x => w4.heap.size ≤ x)) (fun x _ h => h)
          have hT7 := HTAB4.out.fr (hfr7.mono (T := fun x => w2.heap.size ≤ x) (fun x _ h => by rw [← HP.out] at h; omega))
          have NX := Lib.hid (next_any l M _ w2.heap.size pt B p o buf pos gone w7 hT7 hR7 (by omega) (by omega) HK.out (by omega) HMX.out)
          have HSL7 := Lib.hid (HSL.out.below (C := wr.heap.size) hb7 (by rw [← HP.out]; exact hsr))
          have HFR7 := Lib.hid hfr7
          have HRI := Lib.hid hri
          have hw7 := hfr7.size
          clear hR7 hfr7 hT7 RN hri hb7
          go_wp2_with fail
          (with_reducible refine NX.out.mono ?_)
          rintro e w8 ⟨v, dd, hni, rfl, hR8, hf8⟩
          rw [← HL.out] at hni
          obtain ⟨hv, hd⟩ := agree HM.out HMX.out hni HRI.out
          subst hv hd
          have hfr8 := HFR7.out.trans hf8 (fun x _ h => by rw [← HP.out]; omega)
          have LA := Lib.hid (left_any B p o buf (pos + dd) gone w8 hR8 (by omega))
          have hl8 : left buf (pos + dd) = L.drop dd := by rw [left_drop, HL.out]
          rw [hl8, List.length_drop] at LA
          have HSL8 := Lib.hid (show Sl w8 w4.heap.size A (boolsV L) from HSL7.out.keep fun q hq => hf8.cell (by omega) (by show ¬ q.block = p; have := HP.out; omega))
          have HR8 := Lib.hid hR8
          have HFR8 := Lib.hid hfr8
          have HL8 := Lib.hid hl8
          have hfB := hfr8.below (B := w.heap.size) (by rw [← HP.out]; exact hs4) (fun x hx h => by rw [← HP.out] at h; omega)
          have HB8 := Lib.hid (HB4.out.trans hfB)
          obtain ⟨q, hq⟩ : ∃ q, q = L.length - dd := ⟨_, rfl⟩
          rw [← hq] at LA
          have e1 : (L.length : Int) - (dd : Int) = (q : Int) := by omega
          have d1 : q ≤ 96 := by omega
          have HQ := Lib.hid hq
          have HSFD := Lib.hid (HSF.out A L.length c dd ble)
          clear hni hR8 hf8 hfr8 hl8 hfB NX hq
          go_wp2_with fail
          (with_reducible refine LA.out.mono ?_)
          rintro e w9 ⟨rfl, m9, rfl⟩
          clear LA
          rcases hcode with rfl | rfl | rfl
          · have sf := HSFD.out
            rw [← HQ.out] at sf
            have HNX := Lib.hid (show ReRel w4 p (.slice (restAt A c dd) q (c - dd)) (w8.drewN m9) from by
              refine ⟨B, o, buf, pos + dd, gone, restAt A c dd, c - dd, HR8.out.drewN m9, hbl, by rw [HL8.out, List.length_drop, ← HQ.out], by rw [HL8.out, List.length_drop]; omega, ?_, HFR8.out.drewN m9⟩
              have h := HSL8.out.rest c dd (by rw [len_boolsV]; exact hLc)
              rw [HL8.out]
              have e : boolsV (L.drop dd) = (boolsV L).drop dd := by simp [boolsV, List.map_drop]
              rw [e]
              exact h.drewN m9)
            rw [show ((0 : Nat) : Int) = 0 from rfl]
            go_wp2_with fail
            go_roundw
            case rel => exact ⟨k + 1, by omega, by go_num, HNX.out⟩
            case measure => simp [intOf]; omega
          · rw [show ((4 : Nat) : Int) = 4 from rfl]
            clear HSFD
            go_wp2_with fail
            go_ret
            exact ⟨rfl, below_drewN HB8.out m9⟩
          · rw [show ((26 : Nat) : Int) = 26 from rfl]
            clear HSFD
            go_wp2_with fail
            go_ret
            exact ⟨rfl, below_drewN HB8.out m9⟩
        · obtain rfl : k = 100 := by omega
          rw [show ((100 : Nat) : Int) = 100 from rfl]
          clear hR hSL hfr
          generalize (left buf pos).length = ll at hLc
          go_wp2_with fail
          go_ret
          exact ⟨rfl, HBR.out⟩

theorem decodeReads_walk (a : Option Addr) (l : List Int) (cap : Nat) (which : Int) (b : Option Addr) (bs : List UInt8) (d : Nat) (w : World) (hl : l.length ≤ maxLen) (_hlc : l.length ≤ cap) (_hrg : ∀ x ∈ l, -9223372036854775808 ≤ x ∧ x ≤ 9223372036854775807) (hsl : Sl w w.heap.size a (intsV l)) (_h1 : -9223372036854775808 ≤ which) (_h2 : which ≤ 9223372036854775807) (hm : bs.length ≤ maxLen) (_hmc : bs.length ≤ d) (hsb : Sl w w.heap.size b (bytesV bs)) :
    Calls Try.prog 6 #[.slice a l.length cap, .int .i64 which, .slice b bs.length d] w fun e w' => e = .returned (.bool true) ∧ Below w.heap.size w w' := by
  by_cases hbig : 60 < l.length ∨ 12 < bs.length
  · exact decodeReads_big a l cap which b bs d w hl hm hbig
  · by_cases h0 : mayOf l which = 0
    · exact decodeReads_yes a l cap which b bs d w (by omega) (by omega) hsl hsb h0
    · exact decodeReads_no a l cap which b bs d w (by omega) (by omega) hsl h0
end Go.Proofs.Ytdlnnokimhemfaa
