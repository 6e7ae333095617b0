/-
  The law DecodeBack returns true: walk.
-/
import Derived.Test.YtdlnnokimhemfaaDecHit
import Derived.Test.YtdlnnokimhemfaaBitout2
namespace Go.Proofs.Ytdlnnokimhemfaa
open Go.RowKit

theorem codes_at {l : List Int} {i : Nat} (h : i < l.length) : (codesOf l)[i]? = some (codeAt l i) := by simp [codesOf, h]
theorem own_u32 {w : World} {base : Nat} {l : List Int} {A : Option Addr} {c i : Nat} (h : w.ownsRow base 29 1 (.slice A l.length c) l.length (u32sV (codesOf l))) (hi : i < l.length) :
    ∃ g, A = some ⟨g, 0, none⟩ ∧ base ≤ g ∧ g < w.heap.size ∧ w.cell? ⟨g, i, none⟩ = some (.int .u32 ((codeAt l i : Nat) : Int)) := by
  obtain ⟨g, cap, hv, hb, hlt⟩ := h.form (by omega)
  injection hv with hA
  subst hA
  refine ⟨g, rfl, hb, hlt, ?_⟩
  have := h.cells (g := g) rfl i _ (u32sV_get _ _ _ (codes_at hi))
  rcases Nat.eq_zero_or_pos i with rfl | hi
  · simpa [Addr.add] using this
  · simpa [Addr.add, show i ≠ 0 by omega] using this
/-- the bits of a symbol -/
def symBits (l : List Int) (s : Nat) : List Bool := Bit.bitsN (l.getD s 0).toNat (codeAt l s)
/-- the symbol that a number picks -/
def picked (l : List Int) (b : UInt8) : Nat := (srt l 15).getD (b.toNat % pcnt l 15) 0
def allBits (l : List Int) (bs : List UInt8) : List Bool := bs.flatMap fun b => symBits l (picked l b)
theorem allBits_take (l : List Int) (bs : List UInt8) (k : Nat) (h : k < bs.length) : allBits l (bs.take (k + 1)) = allBits l (bs.take k) ++ symBits l (picked l bs[k]) := by
  unfold allBits
  rw [List.take_succ_eq_append_getElem h, List.flatMap_append]
  simp
theorem allBits_drop (l : List Int) (bs : List UInt8) (k : Nat) (h : k < bs.length) : allBits l (bs.drop k) = symBits l (picked l bs[k]) ++ allBits l (bs.drop (k + 1)) := by
  unfold allBits
  rw [List.drop_eq_getElem_cons h, List.flatMap_cons]
theorem picked_at (l : List Int) (b : UInt8) (hT : 0 < pcnt l 15) : ∃ n : Nat, picked l b < l.length ∧ 1 ≤ n ∧ n ≤ 15 ∧ l.getD (picked l b) 0 = (n : Int) ∧ (srt l 15)[b.toNat % pcnt l 15]? = some (picked l b) ∧ b.toNat % pcnt l 15 < pcnt l 15 := by
  have hlt := Nat.mod_lt b.toNat hT
  obtain ⟨s, n, h1, h2, h3, h4, h5, h6⟩ := srt_place l _ hlt
  have e : picked l b = s := by unfold picked; exact getD_some h6
  exact ⟨n, by rw [e]; exact h1, h2, h3, by rw [e]; exact h4, by rw [e]; exact h6, hlt⟩
theorem hit_sym (l : List Int) (hsum : psum l 15 ≤ 32768) (s n : Nat) (h1 : s < l.length) (h2 : 1 ≤ n) (h3 : n ≤ 15) (h4 : l.getD s 0 = (n : Int)) (R : List Bool) : Hit l (symBits l s ++ R) s n ∧ (symBits l s ++ R).drop n = R ∧ symBits l s = Bit.bitsN n (codeAt l s) ∧ (symBits l s).length = n := by
  have e : symBits l s = Bit.bitsN n (codeAt l s) := by unfold symBits; rw [h4, Int.toNat_natCast]
  have hl : (symBits l s).length = n := by rw [e, Bit.length_bitsN]
  refine ⟨⟨h1, h4, h2, h3, by rw [List.length_append]; omega, ?_⟩, ?_, e, hl⟩
  · have hp := plain_lt l hsum s n h1 (getD_l h1 h4) h2 h3
    rw [cv_code _ n _ (by rw [List.length_append]; omega) hp.2, List.take_append_of_le_length (by omega), List.take_of_length_le (by omega), e, codeAt_eq l s n h1 (getD_l h1 h4) h2]
    rfl
  · rw [List.drop_append_of_le_length (by omega), List.drop_of_length_le (by omega), List.nil_append]
theorem code_lt (l : List Int) (s n : Nat) (h1 : s < l.length) (h2 : 1 ≤ n) (h3 : n ≤ 15) (h4 : l.getD s 0 = (n : Int)) : codeAt l s < 32768 := by
  rw [codeAt_eq l s n h1 (getD_l h1 h4) h2]
  exact Nat.lt_of_lt_of_le (Bit.rev_lt n _) (Nat.pow_le_pow_right (n := 2) (j := 15) (by omega) h3)
theorem kind_some {l : List Int} (h : mayOf l 1 = 0) : 0 < pcnt l 15 := by
  have hk := (may_kind h)
  rcases hk.2 with e | e | e
  · have := kind_right' l hk.1
    rcases Nat.eq_zero_or_pos (pcnt l 15) with z | z
    · rw [this] at e
      split at e
      · omega
      · omega
    · exact z
  · have := kind_right' l hk.1
    rcases Nat.eq_zero_or_pos (pcnt l 15) with z | z
    · rw [this] at e
      split at e
      · omega
      · omega
    · exact z
  · exfalso
    unfold mayOf at h
    rw [e] at h
    simp at h
where
  kind_right' (l : List Int) (h : kindOf l ≤ 3) : kindOf l = if 32768 < psum l 15 then 4 else if pcnt l 15 = 0 then 0 else if psum l 15 = 32768 then 3 else if pcnt l 15 = 1 ∧ l.count 1 = 1 then 1 else 2 := by
    unfold kindOf; rw [(kind_le3 h).1, if_neg (by simp)]

/-- while symbols are written -/
def PRel (w4 : World) (l : List Int) (bs : List UInt8) (k : Nat) (wr : World) : Prop :=
  ∃ o out r len, WrS wr w4.heap.size w4.heap.size o out r len ∧ r.length < 8 ∧ Bit.ofBytes out ++ r = allBits l (bs.take k) ∧ len ≤ 15 * k ∧ Fr (fun x => w4.heap.size ≤ x) w4 wr
/-- while they are read -/
def GRel (w4 : World) (l : List Int) (bs : List UInt8) (p : Nat) (k : Nat) (wr : World) : Prop :=
  ∃ B o buf pos gone R, RdS wr B p o buf pos gone ∧ buf.length ≤ 1000 ∧ left buf pos = allBits l (bs.drop k) ++ R ∧ R.length < 8 ∧ Fr (fun x => w4.heap.size ≤ x) w4 wr
theorem len_bits_bytes {out : List UInt8} {r : List Bool} {n : Nat} {X : List Bool} (h : Bit.ofBytes out ++ r = X) (hn : X.length ≤ n) : 8 * out.length ≤ n := by
  have := congrArg List.length h
  rw [List.length_append, Bit.length_ofBytes] at this
  omega
theorem len_all (l : List Int) (hT : 0 < pcnt l 15) (bs : List UInt8) : (allBits l bs).length ≤ 15 * bs.length := by
  induction bs with
  | nil => simp [allBits]
  | cons b bs ih =>
    obtain ⟨n, h1, h2, h3, h4, h5, h6⟩ := picked_at l b hT
    have : (symBits l (picked l b)).length = n := by unfold symBits; rw [h4, Int.toNat_natCast, Bit.length_bitsN]
    unfold allBits at ih ⊢
    rw [List.flatMap_cons, List.length_append, List.length_cons]
    omega

theorem decodeBack_big (a : Option Addr) (l : List Int) (cap : Nat) (b : Option Addr) (bs : List UInt8) (d : Nat) (w : World) (hl : l.length ≤ maxLen) (hm : bs.length ≤ maxLen) (hbig : 60 < l.length ∨ 100 < bs.length) :
    Calls Try.prog 7 #[.slice a l.length cap, .slice b bs.length d] w fun e w' => e = .returned (.bool true) ∧ Below w.heap.size w w' := by
  unfold maxLen at hl hm
  by_cases h4 : 60 < l.length
  · have t1 : decide ((60 : Int) < (l.length : Int)) = true := decide_eq_true (by omega)
    have t2 : decide (60 < l.length) = true := decide_eq_true (by omega)
    clear hbig
    go_enter Try.func7, Try.ntmps7
    go_wp2_with fail
    (with_reducible refine (awake09_any w).mono ?_)
    rintro e w1 ⟨rfl, hb1⟩
    go_wp2_with fail
    go_ret
    exact ⟨rfl, hb1⟩
  · have t1 : decide ((60 : Int) < (l.length : Int)) = false := decide_eq_false (by omega)
    have t2 : decide (60 < l.length) = false := decide_eq_false (by omega)
    have t3 : decide ((100 : Int) < (bs.length : Int)) = true := decide_eq_true (by omega)
    have t4 : decide (100 < bs.length) = true := decide_eq_true (by omega)
    clear hbig
    go_enter Try.func7, Try.ntmps7
    go_wp2_with fail
    (with_reducible refine (awake09_any w).mono ?_)
    rintro e w1 ⟨rfl, hb1⟩
    go_wp2_with fail
    go_ret
    exact ⟨rfl, hb1⟩

set_option maxRecDepth 100000 in
set_option maxHeartbeats 1000000 in
theorem decodeBack_no (a : Option Addr) (l : List Int) (cap : Nat) (b : Option Addr) (bs : List UInt8) (d : Nat) (w : World) (h1 : l.length ≤ 60) (h2 : bs.length ≤ 100) (hsl : Sl w w.heap.size a (intsV l)) (hm : mayOf l 1 ≠ 0) :
    Calls Try.prog 7 #[.slice a l.length cap, .slice b bs.length d] w fun e w' => e = .returned (.bool true) ∧ Below w.heap.size w w' := by
  have t1 : decide ((60 : Int) < (l.length : Int)) = false := decide_eq_false (by omega)
  have t2 : decide (60 < l.length) = false := decide_eq_false (by omega)
  have t3 : decide ((100 : Int) < (bs.length : Int)) = false := decide_eq_false (by omega)
  have t4 : decide (100 < bs.length) = false := decide_eq_false (by omega)
  have HS := Lib.hid hsl
  have HM := Lib.hid hm
  have t5 : (mayOf l 1 != 0) = true := bne_iff_ne.2 hm
  clear hsl hm
  go_enter Try.func7, Try.ntmps7
  go_wp2_with fail
  (with_reducible refine (awake09_any w).mono ?_)
  rintro e w1 ⟨rfl, hb1⟩
  have HB1 := Lib.hid hb1
  have NW := Lib.hid (decNew_no l 1 a cap w.heap.size w1 (by omega) (HS.out.below hb1 (Nat.le_refl _)) hb1.size HM.out)
  clear hb1
  generalize mayOf l 1 = v at t5 NW
  go_wp2_with fail
  (with_reducible refine NW.out.mono ?_)
  rintro e w2 ⟨rfl, hb2⟩
  have HB2 := Lib.hid (HB1.out.trans (hb2.mono HB1.out.size))
  clear hb2 NW HM
  go_wp2_with fail
  go_ret
  exact ⟨rfl, HB2.out⟩

set_option maxRecDepth 100000 in
set_option maxHeartbeats 4000000 in
theorem decodeBack_yes (a : Option Addr) (l : List Int) (cap : Nat) (b : Option Addr) (bs : List UInt8) (d : Nat) (w : World) (h1 : l.length ≤ 60) (h2 : bs.length ≤ 100) (hsl : Sl w w.heap.size a (intsV l)) (hsb : Sl w w.heap.size b (bytesV bs)) (hm : mayOf l 1 = 0) :
    Calls Try.prog 7 #[.slice a l.length cap, .slice b bs.length d] w fun e w' => e = .returned (.bool true) ∧ Below w.heap.size w w' := by
  have t1 : decide ((60 : Int) < (l.length : Int)) = false := decide_eq_false (by omega)
  have t2 : decide (60 < l.length) = false := decide_eq_false (by omega)
  have t3 : decide ((100 : Int) < (bs.length : Int)) = false := decide_eq_false (by omega)
  have t4 : decide (100 < bs.length) = false := decide_eq_false (by omega)
  have HS := Lib.hid hsl
  have HSB := Lib.hid hsb
  have HM := Lib.hid hm
  have HK := Lib.hid (may_kind hm).1
  have HSUM := Lib.hid (kind_le3 (may_kind hm).1).2
  have hT := kind_some hm
  have HT := Lib.hid hT
  clear hsl hsb hm
  obtain ⟨T, hTT⟩ : ∃ T, T = pcnt l 15 := ⟨_, rfl⟩
  have hTl := pcnt_len l 15
  rw [← hTT] at hT hTl
  have HTT := Lib.hid hTT
  have HLS := Lib.hid (show (intsV (up (srt l 15))).length = T by rw [len_intsV, len_up, len_srt, hTT])
  have t6 : ((T : Int) == 0) = false := beq_eq_false_iff_ne.2 (by omega)
  have t7 : (T == 0) = false := beq_eq_false_iff_ne.2 (by omega)
  have t8 : decide ((T : Int) = 0) = false := decide_eq_false (by omega)
  have T0 : (0 : Int) < (T : Int) := by omega
  clear hTT
  go_enter Try.func7, Try.ntmps7
  go_wp2_with fail
  (with_reducible refine (awake09_any w).mono ?_)
  rintro e w1 ⟨rfl, hb1⟩
  have HB1 := Lib.hid hb1
  have hs1 := hb1.size
  have NW := Lib.hid (decNew_yes l 1 a cap w.heap.size w1 (by omega) (HS.out.below hb1 (Nat.le_refl _)) hb1.size HM.out)
  clear hb1
  go_wp2_with fail
  (with_reducible refine NW.out.mono ?_)
  rintro e w2 ⟨pt, rfl, hTab, hb2⟩
  have HB2 := Lib.hid (HB1.out.trans (hb2.mono hs1))
  have hs2 := HB2.out.size
  have HTAB := Lib.hid hTab
  have CO := Lib.hid (codes_ok l a cap w.heap.size w2 (by omega) (HS.out.below HB2.out (Nat.le_refl _)) hs2 HK.out)
  clear hb2 hTab NW
  go_wp2_with fail
  (with_reducible refine CO.out.mono ?_)
  rintro e w3 ⟨A3, c3, rfl, ho3, hb3⟩
  rw [len_codesOf] at ho3 ⊢
  have HB3 := Lib.hid (HB2.out.trans (hb3.mono hs2))
  have hs3 := HB3.out.size
  have hs23 := hb3.size
  have HO3 := Lib.hid ho3
  have HTAB3 := Lib.hid (HTAB.out.below hb3)
  have SO := Lib.hid (sorted_any l a cap w.heap.size w3 (by omega) (HS.out.below HB3.out (Nat.le_refl _)) hs3)
  clear hb3 ho3 CO
  go_wp2_with fail
  (with_reducible refine SO.out.mono ?_)
  rintro e w4 ⟨A4, c4, rfl, ho4, hb4⟩
  rw [HLS.out] at ho4 ⊢
  have HB4 := Lib.hid (HB3.out.trans (hb4.mono hs3))
  have hs4 := HB4.out.size
  have hs34 := hb4.size
  have HO4 := Lib.hid ho4
  have HO34 := Lib.hid (own_keep HO3.out (w' := w4) (fun g hg => hb4.block g (HO3.out.lt g hg).2))
  have HTAB4 := Lib.hid (HTAB3.out.below (hb4.mono hs23))
  have BN := Lib.hid (bitoutNew_any w4.heap.size w4 (Nat.le_refl _))
  clear hb4 ho4 SO HO3 HTAB HTAB3
  go_wp2_with fail
  (with_reducible refine BN.out.mono ?_)
  rintro e w5 ⟨rfl, hw5, hb5⟩
  have HP0 := Lib.hid (show PRel w4 l bs 0 w5 from ⟨_, [], [], 0, hw5, by simp, by simp [allBits, Bit.ofBytes], by simp, Fr.of_below hb5 _⟩)
  clear hw5 hb5 BN
  obtain ⟨W, hW⟩ : ∃ W, W = w4.heap.size := ⟨_, rfl⟩
  have HW := Lib.hid hW
  rw [← hW] at hs4 hs34 ⊢
  clear hW
  go_wp2_with fail
  go_loopw [11, 12] (fun i _ wr => ∃ k : Nat, k ≤ bs.length ∧ i = .int .i64 (k : Int) ∧ PRel w4 l bs k wr) (fun i _ _ => bs.length - (intOf i).toNat)
  case atStart => exact ⟨0, by omega, rfl, HP0.out⟩
  case round =>
    obtain ⟨k, hk, rfl, o, out, r, len, hw, hr, hbits, hlen, hfr⟩ := hrel
    clear HP0
    have HFR := Lib.hid hfr
    have HWR := Lib.hid hw
    have HBI := Lib.hid hbits
    have hsr := hfr.size
    rw [← HW.out] at hsr
    have hfB := hfr.below (B := w.heap.size) (by rw [← HW.out]; exact hs4) (fun x hx h => by rw [← HW.out] at h; omega)
    have HBR := Lib.hid (HB4.out.trans hfB)
    clear hfB
    by_cases hlt : k < bs.length
    · have k0 : (0 : Int) ≤ (k : Int) := Int.natCast_nonneg _
      have k1 : (k : Int) < (bs.length : Int) := by omega
      obtain ⟨b1, o1, rfl, _, hcb⟩ := (HSB.out.below HBR.out (Nat.le_refl _)).byte hlt
      obtain ⟨n, p1, p2, p3, p4, p5, p6⟩ := picked_at l bs[k] HT.out
      obtain ⟨q1, q2, q3, q4⟩ := hit_sym l HSUM.out _ n p1 p2 p3 p4 []
      have hcl := code_lt l _ n p1 p2 p3 p4
      have HALL := Lib.hid (allBits_take l bs k hlt)
      rw [q3] at HALL
      rw [← HTT.out] at p5 p6
      obtain ⟨g4, rfl, hg4, hg4l, hc4⟩ := own_int_at HO4.out (up_get _ _ _ p5)
      obtain ⟨g3, rfl, hg3, hg3l, hc3⟩ := own_u32 HO34.out p1
      obtain ⟨b0, o0, rfl, hb0, hc0⟩ := sl_int_at (HS.out.below HBR.out (Nat.le_refl _)) p1 p4
      have hd4 := (hfr.cell (p := ⟨g4, bs[k].toNat % T, none⟩) hg4l (by show ¬ w4.heap.size ≤ g4; omega)).trans hc4
      have hd3 := (hfr.cell (p := ⟨g3, picked l bs[k], none⟩) hg3l (by show ¬ w4.heap.size ≤ g3; omega)).trans hc3
      have hub := u8_bound bs[k]
      have hmod : ((bs[k].toNat : Int)).tmod (T : Int) = ((bs[k].toNat % T : Nat) : Int) := by rw [Int.tmod_eq_emod_of_nonneg (by omega)]; simp
      have hmod2 : ((bs[k].toNat : Int)) % (T : Int) = ((bs[k].toNat % T : Nat) : Int) := by simp
      generalize picked l bs[k] = s at p1 hd3 hc0 HALL hcl hd4
      generalize codeAt l s = cd at hd3 HALL hcl
      generalize bs[k].toNat = bv at hcb hub hmod hmod2 hd4 p6
      generalize bv % T = y at hmod hmod2 hd4 p6
      have s0 : (0 : Int) ≤ (s : Int) := Int.natCast_nonneg _
      have s1 : (s : Int) < (l.length : Int) := by omega
      have y0 : (0 : Int) ≤ (y : Int) := Int.natCast_nonneg _
      have y1 : (y : Int) < (T : Int) := by omega
      have hol := len_bits_bytes hbits (len_all l HT.out (bs.take k))
      have hol2 : (bs.take k).length ≤ 100 := by rw [List.length_take]; omega
      have PY := Lib.hid (put_yes w4.heap.size w4.heap.size o out r len cd n (wr.drewN 1) ⟨hw.cells.drewN 1, hw.own, hw.apart⟩ hr (by rw [← HW.out]; exact hsr) (by omega) (by omega) (by omega) (by omega))
      rw [← HW.out] at PY
      clear hc4 hc3 p5 q1 q2 q3 q4 hw hbits hfr
      go_wp2_with fail
      go_still_tail 9, (by kernel_rfl)
      go_wp2_with fail
      (refine PY.out.mono ?_)
      rintro e w6 ⟨o', out', r', rfl, hbits', hr', hw', ho', hf6⟩
      have HN := Lib.hid (show PRel w4 l bs (k + 1) w6 from ⟨o', out', r', len + n, by rw [← HW.out]; exact hw', hr', by rw [hbits', HALL.out, ← HBI.out, List.append_assoc], by omega, (HFR.out.drewN 1).trans hf6 (fun x hx hh => by
        rcases hh with hh | hh
        · rw [← HW.out]; omega
        · exact (HWR.out.own.lt x hh.symm).1)⟩)
      clear hbits' hr' hw' ho' hf6 PY
      go_wp2_with fail
      go_roundw
      case rel => exact ⟨k + 1, by omega, by go_num, HN.out⟩
      case measure => simp [intOf]; omega
    · obtain rfl : k = bs.length := by omega
      rw [List.take_length] at hbits
      obtain ⟨wo, hwo⟩ : ∃ wo : World, wo = wr := ⟨_, rfl⟩
      subst hwo
      have hol := len_bits_bytes hbits (len_all l HT.out bs)
      have hbl : (Bit.ofBytes out ++ r).length ≤ 1500 := by rw [hbits]; have := len_all l HT.out bs; omega
      have IN := Lib.hid (bitinNew_any wo.heap.size wo (Nat.le_refl _))
      have HBI2 := Lib.hid hbits
      have hWl := hw.cells.lt
      clear hw hbits hfr HBI
      go_wp2_with fail
      (with_reducible refine IN.out.mono ?_)
      rintro e w6 ⟨rfl, hr6, hb6⟩
      have hs6 := hb6.size
      have hr6l := hr6.cells.lt
      obtain ⟨p, hp⟩ : ∃ p, p = wo.heap.size := ⟨_, rfl⟩
      have hwr6 : WrS w6 w4.heap.size w4.heap.size o out r len := ⟨HWR.out.cells.below hb6 hWl, own_keep HWR.out.own (fun g hg => hb6.block g (HWR.out.own.lt g hg).2), HWR.out.apart⟩
      have FI := Lib.hid (finish_any w4.heap.size w4.heap.size o out r len w6 hwr6 hr (by omega) (by omega) (by omega))
      have HFR6 := Lib.hid (HFR.out.trans (Fr.of_below hb6 (fun x => w4.heap.size ≤ x)) (fun x _ h => h))
      have HOL := Lib.hid (show ∀ g, o.ownBlock = some g → g < p ∧ w4.heap.size ≤ g from fun g hg => by rw [hp]; exact ⟨(HWR.out.own.lt g hg).2, (HWR.out.own.lt g hg).1⟩)
      have HR6 := Lib.hid hr6
      rw [← hp] at HR6 hWl hr6l ⊢
      rw [← HW.out] at FI hWl
      clear hr6 hb6 hwr6 IN hp
      go_wp2_with fail
      (with_reducible refine FI.out.mono ?_)
      rintro e w7 ⟨o7, out7, rfl, hb7, _, ho7, _, hf7⟩
      obtain ⟨a7, c7, rfl⟩ := own_form ho7
      have hf7' : Fr (fun x => x = w4.heap.size ∨ some x = o.ownBlock) w6 w7 := by rw [← HW.out]; exact hf7
      have hR7 : RdS w7 p p (.slice none 0 0) [] 0 0 := HR6.out.fr hf7' (by
        rintro (h | h)
        · rw [← HW.out] at h; omega
        · have := HOL.out p h.symm; omega) (by simp [Value.ownBlock])
      have HFR7 := Lib.hid (HFR6.out.trans hf7' (fun x _ h => by
        rcases h with h | h
        · omega
        · exact (HOL.out x h.symm).2))
      have hs7 := hf7'.size
      have hlen7 : (Bit.ofBytes out7).length = 8 * out7.length := Bit.length_ofBytes out7
      have hlb7 : out7.length ≤ 1000 := by
        rw [hb7, ← List.append_assoc, List.length_append, Bit.length_bitsN] at hlen7
        omega
      have FE := Lib.hid (feed_plain p p (.slice none 0 0) [] 0 0 out7 a7 c7 w7.heap.size w7 hR7 (by simp) (by omega) (by omega) (Sl.of_own ho7) (.inl (by decide)))
      have HB7 := Lib.hid hb7
      have hpw7 := hR7.cells.lt
      clear hb7 ho7 hf7 hf7' hR7 FI hlen7
      go_wp2_with fail
      (with_reducible refine FE.out.mono ?_)
      rintro e w8 ⟨o8, buf, pos, gone, rfl, hleft, _, hr8, hbl8, _, hf8⟩
      have hleft' : left buf pos = allBits l (bs.drop 0) ++ Bit.bitsN ((8 - r.length) % 8) 0 := by
        rw [hleft, show left [] 0 = [] from rfl, List.nil_append, HB7.out, ← List.append_assoc, HBI2.out]; rfl
      have HG0 := Lib.hid (show GRel w4 l bs p 0 w8 from ⟨p, o8, buf, pos, gone, _, hr8, by simp at hbl8; omega, hleft', by rw [Bit.length_bitsN]; omega, HFR7.out.trans hf8 (fun x _ h => by
        rcases h with h | h
        · rw [← HW.out]; omega
        · simp [Value.ownBlock] at h)⟩)
      clear hleft hleft' hr8 hbl8 hf8 FE HB7 HBI2
      rename_i wr0
      go_wp2_with fail
      go_loopw [14, 15, 16] (fun i _ _ wr => ∃ k : Nat, k ≤ bs.length ∧ i = .int .i64 (k : Int) ∧ GRel w4 l bs p k wr) (fun i _ _ _ => bs.length - (intOf i).toNat)
      case atStart => exact ⟨0, by omega, rfl, HG0.out⟩
      case round =>
        obtain ⟨k, hk, rfl, B, o9, buf, pos, gone, R, hR, hbl9, hleft, hRl, hfr⟩ := hrel
        clear HG0
        have HFR9 := Lib.hid hfr
        have HRR := Lib.hid hR
        have HLF := Lib.hid hleft
        have hsr := hfr.size
        rw [← HW.out] at hsr
        have hfB := hfr.below (B := w.heap.size) (by rw [← HW.out]; exact hs4) (fun x hx h => by rw [← HW.out] at h; omega)
        have HBR := Lib.hid (HB4.out.trans hfB)
        clear hfB
        by_cases hlt : k < bs.length
        · have k0 : (0 : Int) ≤ (k : Int) := Int.natCast_nonneg _
          have k1 : (k : Int) < (bs.length : Int) := by omega
          obtain ⟨b1, o1, rfl, _, hcb⟩ := (HSB.out.below HBR.out (Nat.le_refl _)).byte hlt
          obtain ⟨n, p1, p2, p3, p4, p5, p6⟩ := picked_at l bs[k] HT.out
          rw [allBits_drop l bs k hlt, List.append_assoc] at hleft
          obtain ⟨q1, q2, q3, q4⟩ := hit_sym l HSUM.out _ n p1 p2 p3 p4 (allBits l (bs.drop (k + 1)) ++ R)
          rw [← hleft] at q1 q2
          rw [← HTT.out] at p5 p6
          obtain ⟨g4, rfl, hg4, hg4l, hc4⟩ := own_int_at HO4.out (up_get _ _ _ p5)
          have hT9 := HTAB4.out.fr (hfr.mono (T := fun x => w2.heap.size ≤ x) (fun x _ h => by omega))
          have NX := Lib.hid (next_hit l _ n _ w2.heap.size pt B p o9 buf pos gone wr hT9 hR (by omega) (by omega) HK.out (by omega) q1)
          have HLN := Lib.hid (show left buf (pos + n) = allBits l (bs.drop (k + 1)) ++ R by rw [left_drop]; exact q2)
          have hub := u8_bound bs[k]
          have hmod : ((bs[k].toNat : Int)).tmod (T : Int) = ((bs[k].toNat % T : Nat) : Int) := by rw [Int.tmod_eq_emod_of_nonneg (by omega)]; simp
          have hmod2 : ((bs[k].toNat : Int)) % (T : Int) = ((bs[k].toNat % T : Nat) : Int) := by simp
          generalize picked l bs[k] = s at NX hc4
          have HCB := Lib.hid (HSB.out.byte hlt)
          clear hR hleft hfr q1 q2 q3 q4 p5 hT9 p4 hcb
          go_wp2_with fail
          (with_reducible refine NX.out.mono ?_)
          rintro e w10 ⟨rfl, hr10, hf10⟩
          have hfr10 := HFR9.out.trans hf10 (fun x _ h => by rw [← HW.out]; omega)
          have HN := Lib.hid (show GRel w4 l bs p (k + 1) w10 from ⟨B, o9, buf, pos + n, gone, R, hr10, hbl9, HLN.out, hRl, hfr10⟩)
          have hd4 := (hfr10.cell (p := ⟨g4, bs[k].toNat % T, none⟩) hg4l (by show ¬ w4.heap.size ≤ g4; omega)).trans hc4
          have hfB := hfr10.below (B := w.heap.size) (by rw [← HW.out]; exact hs4) (fun x hx h => by rw [← HW.out] at h; omega)
          obtain ⟨b1', o1', e1, _, hcb⟩ := (HSB.out.below (HB4.out.trans hfB) (Nat.le_refl _)).byte hlt
          injection e1 with e1
          injection e1 with f1 g1
          subst f1 g1
          generalize bs[k].toNat = bv at hcb hub hmod hmod2 hd4 p6
          generalize bv % T = y at hmod hmod2 hd4 p6
          have y0 : (0 : Int) ≤ (y : Int) := Int.natCast_nonneg _
          have y1 : (y : Int) < (T : Int) := by omega
          clear hr10 hf10 hfr10 hfB NX HCB hc4
          go_wp2_with fail
          go_roundw
          case rel => exact ⟨k + 1, by omega, by go_num, HN.out⟩
          case measure => simp [intOf]; omega
        · obtain rfl : k = bs.length := by omega
          have hll : (left buf pos).length < 8 := by rw [hleft, List.drop_of_length_le (Nat.le_refl _)]; simpa [allBits] using hRl
          have LA := Lib.hid (left_any B p o9 buf pos gone wr hR (by omega))
          generalize (left buf pos).length = ll at hll LA
          have t9 : decide ((ll : Int) < 8) = true := decide_eq_true (by omega)
          clear hR hleft hfr HLF
          go_wp2_with fail
          (with_reducible refine LA.out.mono ?_)
          rintro e w10 ⟨rfl, m, rfl⟩
          go_wp2_with fail
          go_ret
          exact ⟨rfl, below_drewN HBR.out m⟩

theorem decodeBack_walk (a : Option Addr) (l : List Int) (cap : Nat) (b : Option Addr) (bs : List UInt8) (d : Nat) (w : World) (hl : l.length ≤ maxLen) (_hlc : l.length ≤ cap) (_hrg : ∀ x ∈ l, -9223372036854775808 ≤ x ∧ x ≤ 9223372036854775807) (hsl : Sl w w.heap.size a (intsV l)) (hm : bs.length ≤ maxLen) (_hmc : bs.length ≤ d) (hsb : Sl w w.heap.size b (bytesV bs)) :
    Calls Try.prog 7 #[.slice a l.length cap, .slice b bs.length d] w fun e w' => e = .returned (.bool true) ∧ Below w.heap.size w w' := by
  by_cases hbig : 60 < l.length ∨ 100 < bs.length
  · exact decodeBack_big a l cap b bs d w hl hm hbig
  · by_cases h0 : mayOf l 1 = 0
    · exact decodeBack_yes a l cap b bs d w (by omega) (by omega) hsl hsb h0
    · exact decodeBack_no a l cap b bs d w (by omega) (by omega) hsl h0
end Go.Proofs.Ytdlnnokimhemfaa
