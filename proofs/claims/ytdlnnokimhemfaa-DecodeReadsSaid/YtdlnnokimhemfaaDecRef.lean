/-
  The document's May, begins and Next of layer 9.
-/
import Derived.Test.YtdlnnokimhemfaaDecAgree
import Derived.Test.YtdlnnokimhemfaaRef08
import Derived.Test.YtdlnnokimhemfaaRef08K
namespace Go.Proofs.Ytdlnnokimhemfaa
open Go.RowKit

set_option maxHeartbeats 1000000 in
theorem refMay_any (l : List Int) (which : Int) (a : Option Addr) (c B : Nat) (w : World) (hl : l.length ≤ 1000000) (hs : Sl w B a (intsV l)) :
    Calls Try.prog 18 #[.slice a l.length c, .int .i64 which] w fun e w' => e = .returned (.int .i64 (mayOf l which)) ∧ w = w' := by
  have KA := Lib.hid (refKind_any l a c B w hl hs)
  have HM := Lib.hid (show mayOf l which = if kindOf l = 5 then 23 else if kindOf l = 4 then 24 else if kindOf l = 3 then 0 else if kindOf l = 1 ∧ 1 ≤ which then 0 else if kindOf l = 0 ∧ 2 ≤ which then 0 else 25 from rfl)
  generalize mayOf l which = res at HM
  have h6 := kind_six l
  generalize kindOf l = kd at KA HM h6
  clear hs
  rcases h6 with rfl | rfl | rfl | rfl | rfl | rfl
  · by_cases hw : 2 ≤ which
    · have t1 : decide (2 ≤ which) = true := decide_eq_true hw
      have HE := Lib.hid (show res = 0 by rw [HM.out]; simp [hw])
      clear HM
      go_enter Try.func18, Try.ntmps18
      go_wp2_with fail
      (with_reducible refine KA.out.mono ?_)
      rintro e w1 ⟨rfl, rfl⟩
      go_wp2_with fail
      go_ret
      exact ⟨by rw [HE.out]; rfl, rfl⟩
    · have t1 : decide (2 ≤ which) = false := decide_eq_false hw
      have HE := Lib.hid (show res = 25 by rw [HM.out]; simp [hw])
      clear HM
      go_enter Try.func18, Try.ntmps18
      go_wp2_with fail
      (with_reducible refine KA.out.mono ?_)
      rintro e w1 ⟨rfl, rfl⟩
      go_wp2_with fail
      go_ret
      exact ⟨by rw [HE.out]; rfl, rfl⟩
  · by_cases hw : 1 ≤ which
    · have t1 : decide (1 ≤ which) = true := decide_eq_true hw
      have HE := Lib.hid (show res = 0 by rw [HM.out]; simp [hw])
      clear HM
      go_enter Try.func18, Try.ntmps18
      go_wp2_with fail
      (with_reducible refine KA.out.mono ?_)
      rintro e w1 ⟨rfl, rfl⟩
      go_wp2_with fail
      go_ret
      exact ⟨by rw [HE.out]; rfl, rfl⟩
    · have t1 : decide (1 ≤ which) = false := decide_eq_false hw
      have HE := Lib.hid (show res = 25 by rw [HM.out]; simp [hw])
      clear HM
      go_enter Try.func18, Try.ntmps18
      go_wp2_with fail
      (with_reducible refine KA.out.mono ?_)
      rintro e w1 ⟨rfl, rfl⟩
      go_wp2_with fail
      go_ret
      exact ⟨by rw [HE.out]; rfl, rfl⟩
  · have HE := Lib.hid (show res = 25 by rw [HM.out]; simp)
    clear HM
    go_enter Try.func18, Try.ntmps18
    go_wp2_with fail
    (with_reducible refine KA.out.mono ?_)
    rintro e w1 ⟨rfl, rfl⟩
    go_wp2_with fail
    go_ret
    exact ⟨by rw [HE.out]; rfl, rfl⟩
  · have HE := Lib.hid (show res = 0 by rw [HM.out]; simp)
    clear HM
    go_enter Try.func18, Try.ntmps18
    go_wp2_with fail
    (with_reducible refine KA.out.mono ?_)
    rintro e w1 ⟨rfl, rfl⟩
    go_wp2_with fail
    go_ret
    exact ⟨by rw [HE.out]; rfl, rfl⟩
  · have HE := Lib.hid (show res = 24 by rw [HM.out]; simp)
    clear HM
    go_enter Try.func18, Try.ntmps18
    go_wp2_with fail
    (with_reducible refine KA.out.mono ?_)
    rintro e w1 ⟨rfl, rfl⟩
    go_wp2_with fail
    go_ret
    exact ⟨by rw [HE.out]; rfl, rfl⟩
  · have HE := Lib.hid (show res = 23 by rw [HM.out]; simp)
    clear HM
    go_enter Try.func18, Try.ntmps18
    go_wp2_with fail
    (with_reducible refine KA.out.mono ?_)
    rintro e w1 ⟨rfl, rfl⟩
    go_wp2_with fail
    go_ret
    exact ⟨by rw [HE.out]; rfl, rfl⟩
theorem take_alike {c L : List Bool} (h : ∀ i, i < c.length → c[i]? = L[i]?) : begB c L = true := by
  unfold begB
  rw [decide_eq_true_eq]
  apply List.ext_getElem?
  intro i
  rw [List.getElem?_take]
  by_cases hi : i < c.length
  · rw [if_pos hi, h i hi]
  · rw [if_neg hi, List.getElem?_eq_none (by omega)]
theorem take_unlike {c L : List Bool} {k : Nat} (hc : k < c.length) (hL : k < L.length) (h : c[k] ≠ L[k]) : begB c L = false := by
  unfold begB
  rw [decide_eq_false_iff_not]
  intro e
  have := congrArg (fun l => l[k]?) e
  simp only [List.getElem?_take, if_pos hc, List.getElem?_eq_getElem hc, List.getElem?_eq_getElem hL] at this
  injection this with this
  exact h this.symm
theorem take_longer {c L : List Bool} (h : L.length < c.length) : begB c L = false := by
  unfold begB
  rw [decide_eq_false_iff_not]
  intro e
  have := congrArg List.length e
  rw [List.length_take] at this
  omega
set_option maxHeartbeats 1000000 in
theorem begins_any (c L : List Bool) (a b : Option Addr) (d f B C : Nat) (w : World) (hm : L.length ≤ maxLen) (ha : Sl w B a (boolsV c)) (hb : Sl w C b (boolsV L)) :
    Calls Try.prog 35 #[.slice a c.length d, .slice b L.length f] w fun e w' => e = .returned (.bool (begB c L)) ∧ ∃ n, w' = w.drewN n := by
  unfold maxLen at hm
  have HA := Lib.hid ha
  have HM := Lib.hid hb
  clear ha hb
  by_cases hlen : L.length < c.length
  · have HU := Lib.hid (take_longer hlen)
    have t1 : decide (L.length < c.length) = true := decide_eq_true hlen
    have t2 : decide ((L.length : Int) < (c.length : Int)) = true := decide_eq_true (by omega)
    go_enter Try.func35, Try.ntmps35
    go_wp2_with fail
    go_ret
    exact ⟨by rw [HU.out]; rfl, 0, rfl⟩
  · have t1 : decide (L.length < c.length) = false := decide_eq_false hlen
    have t2 : decide ((L.length : Int) < (c.length : Int)) = false := decide_eq_false (by omega)
    go_enter Try.func35, Try.ntmps35
    go_wp2_with fail
    go_loopw [5] (fun i wr => ∃ k : Nat, k ≤ c.length ∧ i = .int .i64 k ∧ (∀ i, i < k → c[i]? = L[i]?) ∧ ∃ n, wr = w.drewN n) (fun i _ => c.length - (intOf i).toNat)
    case atStart => exact ⟨0, Nat.zero_le _, rfl, by omega, 0, rfl⟩
    case round =>
      obtain ⟨k, hk, rfl, hp, q, rfl⟩ := hrel
      have HP := Lib.hid hp
      clear hp
      by_cases hlt : k < c.length
      · have hltm : k < L.length := by omega
        obtain ⟨b1, o1, rfl, _, c1⟩ := HA.out.bool hlt
        obtain ⟨b2, o2, rfl, _, c2⟩ := HM.out.bool hltm
        have k0 : (0 : Int) ≤ (k : Int) := Int.natCast_nonneg _
        have k1 : (k : Int) < (c.length : Int) := by omega
        have k2 : (k : Int) < (L.length : Int) := by omega
        by_cases he : c[k] = L[k]
        · have HN := Lib.hid (show ∀ i, i < k + 1 → c[i]? = L[i]? from fun i hi => by
            rcases Nat.lt_or_ge i k with h | h
            · exact HP.out i h
            · obtain rfl : i = k := by omega
              rw [List.getElem?_eq_getElem hlt, List.getElem?_eq_getElem hltm, he])
          rw [← he] at c2
          generalize c[k] = x at c1 c2
          clear he
          go_wp2_with fail
          go_quiet (fail)
          go_wp2_with fail
          go_roundw
          case rel => exact ⟨k + 1, by omega, by go_num, HN.out, _, rfl⟩
          case measure => simp [intOf]; omega
        · have HU := Lib.hid (take_unlike hlt hltm he)
          generalize c[k] = x at c1 he
          generalize L[k] = y at c2 he
          have te : (x != y) = true := bne_iff_ne.2 he
          cases x <;> cases y <;> simp at he
          all_goals
            go_wp2_with fail
            go_quiet (fail)
            go_wp2_with fail
            go_ret
            exact ⟨by rw [HU.out]; rfl, _, World.drewN_drewN _ _ _⟩
      · obtain rfl : k = c.length := by omega
        have HU := Lib.hid (take_alike HP.out)
        go_wp2_with fail
        go_ret
        exact ⟨by rw [HU.out]; rfl, _, rfl⟩

theorem codes_at {l : List Int} {i : Nat} (h : i < l.length) : (codesOf l)[i]? = some (codeAt l i) := by simp [codesOf, h]
theorem own_u32 {w : World} {base : Nat} {l : List Int} {A : Option Addr} {c i : Nat} (h : w.ownsRow base 29 1 (.slice A l.length c) l.length (u32sV (codesOf l))) (hi : i < l.length) :
    ∃ g, A = some ⟨g, 0, none⟩ ∧ base ≤ g ∧ g < w.heap.size ∧ w.cell? ⟨g, i, none⟩ = some (.int .u32 ((codeAt l i : Nat) : Int)) := by
  obtain ⟨g, cap, hv, hb, hlt⟩ := h.form (by omega)
  injection hv with hA
  subst hA
  refine ⟨g, rfl, hb, hlt, ?_⟩
  have := h.cells (g := g) rfl i _ (u32sV_get _ _ _ (codes_at hi))
  rcases Nat.eq_zero_or_pos i with rfl | hi
  · simpa [Addr.add] using this
  · simpa [Addr.add, show i ≠ 0 by omega] using this
/-- no code of the first k symbols fits -/
def NoneTo (l : List Int) (L : List Bool) (k : Nat) : Prop := ∀ i, i < k → 0 < l.getD i 0 → begB (symBits l i) L = false
theorem none_all {l : List Int} {L : List Bool} (hsum : psum l 15 ≤ 32768) (h : NoneTo l L l.length) : ∀ s n, ¬ Hit l L s n := by
  intro s n hh
  have a := h s hh.1 (by rw [hh.2.1]; have := hh.2.2.1; omega)
  have b := (beg_hit l hsum L s n hh.1 hh.2.2.1 hh.2.2.2.1 hh.2.1).2 hh
  rw [a] at b
  cases b
theorem NoneTo.skip {l : List Int} {L : List Bool} {k : Nat} (h : NoneTo l L k) (h0 : ¬ 0 < l.getD k 0) : NoneTo l L (k + 1) := fun i hi hp => by
  by_cases e : i = k
  · subst e; exact absurd hp h0
  · exact h i (by omega) hp
theorem NoneTo.more {l : List Int} {L : List Bool} {k : Nat} (h : NoneTo l L k) (h0 : begB (symBits l k) L = false) : NoneTo l L (k + 1) := fun i hi hp => by
  by_cases e : i = k
  · subst e; exact h0
  · exact h i (by omega) hp
def RefNextPost (l : List Int) (L : List Bool) (w : World) (e : Ending) (w' : World) : Prop :=
  ∃ sym bits code : Nat, RefIs l L sym bits code ∧ e = .returned (.tuple #[.int .i64 (sym : Int), .int .i64 (bits : Int), .int .i64 (code : Int)]) ∧ Below w.heap.size w w'
def RNRel (w w2 : World) (l : List Int) (L : List Bool) (k : Nat) (s : Value) (wr : World) : Prop :=
  NoneTo l L k ∧ s = .bool (shortB l L k) ∧ Below w.heap.size w wr ∧ Below w2.heap.size w2 wr

set_option maxRecDepth 100000 in
set_option maxHeartbeats 4000000 in
theorem refNext_any (l : List Int) (L : List Bool) (a b : Option Addr) (c d B C : Nat) (w : World) (hl : l.length ≤ 1000) (hL : L.length ≤ 1000000) (hs : Sl w B a (intsV l)) (hB : B ≤ w.heap.size) (hbs : Sl w C b (boolsV L)) (hC : C ≤ w.heap.size) (hk : kindOf l ≤ 3) :
    Calls Try.prog 25 #[.slice a l.length c, .slice b L.length d] w (RefNextPost l L w) := by
  obtain ⟨hrt, hsum⟩ := kind_le3 hk
  have HRT := Lib.hid hrt
  have HSUM := Lib.hid hsum
  have HS := Lib.hid hs
  have HSB := Lib.hid hbs
  have RC := Lib.hid (refCodes_any l a c B w (by omega) hs hB hk)
  clear hs hbs hrt hsum hk
  go_enter Try.func25, Try.ntmps25
  go_wp2_with fail
  (with_reducible refine RC.out.mono ?_)
  rintro e w2 ⟨A, c2, rfl, ho2, hb2⟩
  have hlen : (u32sV (codesOf l)).length = l.length := by rw [len_u32sV, len_codesOf]
  rw [hlen] at ho2 ⊢
  have HO := Lib.hid ho2
  have hs2 := hb2.size
  have HR0 := Lib.hid (show RNRel w w2 l L 0 (.bool false) w2 from ⟨fun i hi => by omega, rfl, hb2, Below.refl _ _⟩)
  clear ho2 hb2 RC hlen
  go_wp2_with fail
  go_loopw [8, 9, 10] (fun s i _ wr => ∃ k : Nat, k ≤ l.length ∧ i = .int .i64 (k : Int) ∧ RNRel w w2 l L k s wr) (fun _ i _ _ => l.length - (intOf i).toNat)
  case atStart => exact ⟨0, by omega, rfl, HR0.out⟩
  case round =>
    obtain ⟨k, hk, rfl, hno, rfl, hbr, hbr2⟩ := hrel
    clear HR0
    have HNO := Lib.hid hno
    have HBR := Lib.hid hbr
    have HBR2 := Lib.hid hbr2
    have hsr := hbr2.size
    have hsr1 := hbr.size
    clear hno
    by_cases hlt : k < l.length
    · have k0 : (0 : Int) ≤ (k : Int) := Int.natCast_nonneg _
      have k1 : (k : Int) < (l.length : Int) := by omega
      have hx := right_at HRT.out hlt
      rw [← getD_of hlt] at hx
      obtain ⟨n, hn⟩ := Int.eq_ofNat_of_zero_le hx.1
      obtain ⟨b0, o0, rfl, hb0, hc0⟩ := sl_int_at (HS.out.below hbr hB) hlt hn
      have hSu := shortB_succ l L k
      have HN := Lib.hid hn
      rw [hn] at hx
      clear hn
      by_cases h0 : n = 0
      · subst h0
        rw [show decide (0 < l.getD k 0) = false by rw [HN.out]; decide, Bool.false_and, Bool.or_false] at hSu
        have HNX := Lib.hid (show RNRel w w2 l L (k + 1) (.bool (shortB l L k)) wr from ⟨HNO.out.skip (by rw [HN.out]; decide), by rw [hSu], HBR.out, HBR2.out⟩)
        rw [show ((0 : Nat) : Int) = 0 from rfl] at hc0
        generalize shortB l L k = sb at HNX
        clear hSu hbr hbr2
        go_wp2_with fail
        go_roundw
        case rel => exact ⟨k + 1, by omega, by go_num, HNX.out⟩
        case measure => simp [intOf]; omega
      · obtain ⟨g, rfl, hg1, hg2, hcd⟩ := own_u32 HO.out hlt
        have hcd' := (hbr2.cell (p := ⟨g, k, none⟩) hg2).trans hcd
        have hn1 : 1 ≤ n := by omega
        have te : ((n : Int) == 0) = false := beq_eq_false_iff_ne.2 (by omega)
        have hcl : codeAt l k < 4294967296 := by
          rw [codeAt_eq l k n hlt (getD_l hlt HN.out) hn1]
          exact Nat.lt_of_lt_of_le (Bit.rev_lt n _) (Nat.le_trans (Nat.pow_le_pow_right (n := 2) (j := 15) (by omega) (by omega)) (by decide))
        have hsy : symBits l k = Bit.bitsN n (codeAt l k) := by unfold symBits; rw [HN.out, Int.toNat_natCast]
        rw [show decide (0 < l.getD k 0) = true by rw [HN.out]; simp; omega, Bool.true_and] at hSu
        have PU := Lib.hid (refPut_any [] none 0 0 (codeAt l k) (n : Int) (wr.drewN 1) (by simp) (by omega) hcl Sl.nil (Nat.zero_le _))
        rw [List.nil_append, Int.toNat_natCast, ← hsy] at PU
        have hsl : (symBits l k).length = n := len_sym l k n HN.out
        have HBH := Lib.hid (fun h => (beg_hit l HSUM.out L k n hlt hn1 (by omega) HN.out).1 h)
        have HSU := Lib.hid hSu
        obtain ⟨sy, hsye⟩ : ∃ sy, sy = symBits l k := ⟨_, rfl⟩
        rw [← hsye] at PU hsl HBH HSU
        have HSYE := Lib.hid hsye
        clear hsye
        generalize codeAt l k = cd at hcd' PU hcl
        clear hcd hSu hsy hbr hbr2 h0
        go_wp2_with fail
        go_still_tail 8, (by kernel_rfl)
        go_wp2_with fail
        (refine PU.out.mono ?_)
        rintro e w3 ⟨A3, c3, rfl, ho3, hb3⟩
        rw [len_boolsV] at ho3 ⊢
        have hb3' : Below wr.heap.size wr w3 := ⟨hb3.os, hb3.tape, hb3.output, hb3.size, hb3.block⟩
        have HB3 := Lib.hid (HBR.out.trans (hb3'.mono hsr1))
        have HB32 := Lib.hid (HBR2.out.trans (hb3'.mono hsr))
        have hc3 := (hb3'.cell (p := ⟨b0, o0 + k, none⟩) (by show b0 < wr.heap.size; omega)).trans hc0
        have HSL3 := Lib.hid (Sl.of_own ho3)
        have HSB3 := Lib.hid (HSB.out.below HB3.out hC)
        have BE := Lib.hid (begins_any sy L A3 b c3 d w3.heap.size C w3 (by unfold maxLen; omega) HSL3.out HSB3.out)
        have HSLN := Lib.hid hsl
        rw [hsl] at BE ⊢
        clear ho3 hb3 hb3' PU hc0 hcd' hsl
        cases hbg : begB sy L
        · rw [hbg] at BE
          have HNN := Lib.hid (HNO.out.more (k := k) (by rw [← HSYE.out]; exact hbg))
          clear hbg
          go_wp2_with fail
          (with_reducible refine BE.out.mono ?_)
          rintro e w4 ⟨rfl, m4, rfl⟩
          clear BE
          cases hsb : shortB l L k
          · rw [hsb, Bool.false_or] at HSU
            have BE2 := Lib.hid (begins_any L sy b A3 d c3 C w3.heap.size (w3.drewN m4) (by rw [HSLN.out]; unfold maxLen; omega) (HSB3.out.drewN m4) (HSL3.out.drewN m4))
            rw [← HSU.out, HSLN.out] at BE2
            clear hsb
            go_wp2_with fail
            (with_reducible refine BE2.out.mono ?_)
            rintro e w5 ⟨rfl, m5, rfl⟩
            clear BE2
            have HNX := Lib.hid (show RNRel w w2 l L (k + 1) (.bool (shortB l L (k + 1))) ((w3.drewN m4).drewN m5) from ⟨HNN.out, rfl, below_drewN (below_drewN HB3.out m4) m5, below_drewN (below_drewN HB32.out m4) m5⟩)
            rw [World.drewN_drewN] at HNX
            generalize shortB l L (k + 1) = sb at HNX
            go_wp2_with fail
            go_roundw
            case rel => exact ⟨k + 1, by omega, by go_num, HNX.out⟩
            case measure => simp [intOf]; omega
          · rw [hsb, Bool.true_or] at HSU
            have HNX := Lib.hid (show RNRel w w2 l L (k + 1) (.bool true) (w3.drewN m4) from ⟨HNN.out, by rw [HSU.out], below_drewN HB3.out m4, below_drewN HB32.out m4⟩)
            clear hsb
            go_wp2_with fail
            go_roundw
            case rel => exact ⟨k + 1, by omega, by go_num, HNX.out⟩
            case measure => simp [intOf]; omega
        · rw [hbg] at BE
          have HHIT := Lib.hid (HBH.out hbg)
          generalize shortB l L k = sb
          clear hbg
          go_wp2_with fail
          (with_reducible refine BE.out.mono ?_)
          rintro e w4 ⟨rfl, m4, rfl⟩
          clear BE
          go_wp2_with fail
          go_quiet (fail)
          go_wp2_with fail
          go_ret3
          exact ⟨k, n, 0, .inl ⟨HHIT.out, rfl⟩, rfl, below_drewN (below_drewN HB3.out _) _⟩
    · obtain rfl : k = l.length := by omega
      have HNH := Lib.hid (none_all HSUM.out HNO.out)
      clear hbr hbr2
      cases hsb : shortB l L l.length
      · have HX := Lib.hid (show RefIs l L 0 0 26 from .inr ⟨HNH.out, rfl, rfl, .inr ⟨hsb, rfl⟩⟩)
        clear hsb
        go_wp2_with fail
        go_ret3
        exact ⟨0, 0, 26, HX.out, rfl, HBR.out⟩
      · have HX := Lib.hid (show RefIs l L 0 0 4 from .inr ⟨HNH.out, rfl, rfl, .inl ⟨hsb, rfl⟩⟩)
        clear hsb
        go_wp2_with fail
        go_ret3
        exact ⟨0, 0, 4, HX.out, rfl, HBR.out⟩
end Go.Proofs.Ytdlnnokimhemfaa
