/-
  The page's example of layer 5 holds; the law BitinPieces returns true: walks.
-/
import Derived.Test.YtpfihombncnmhaaPieces
namespace Go.Proofs.Ytpfihombncnmhaa
open Go.RowKit

theorem str_gives {w w1 : World} {A : Option Addr} {l : List UInt8} {c : Nat} (h : w1.ownsRow w.heap.size 5 1 (.slice A (bytesV l).length c) (bytesV l).length (bytesV l)) (W : World) (hb : Below w1.heap.size w1 W) :
    (convert 32 9 (.slice A l.length c)).run Try.prog W = .ok (.string (strOf l)) W :=
  run_str W w1.heap.size _ _ 5 A l c Try.underlying32 Try.underlying5 Try.underlying9 ((Sl.of_own h).below hb (Nat.le_refl _))

set_option maxHeartbeats 800000 in
theorem awake5_any (w : World) : Calls Try.prog 26 #[] w fun e w' => e = .returned (.bool true) ∧ Below w.heap.size w w' := by
  go_enter Try.func26, Try.ntmps26
  go_wp2_with fail
  refine (bitinNew_any w.heap.size w (Nat.le_refl _)).mono ?_
  rintro e w1 ⟨rfl, hrd, hb1⟩
  have HR := Lib.hid hrd
  have HB1 := Lib.hid hb1
  have hs1 := hb1.size
  have hp1 := hrd.cells.lt
  clear hrd hb1
  go_wp2_with fail
  have hR2 : RdS (w1.alloc (.cells #[.int .u8 178] 5)) w.heap.size w.heap.size (.slice none 0 0) [] 0 0 := ⟨HR.out.cells.alloc _, World.ownsRow_nil _ _ _ _, HR.out.apart, HR.out.le⟩
  refine (feed_plain w.heap.size w.heap.size (.slice none 0 0) [] 0 0 [178] _ 1 (w1.heap.size + 1) _ hR2 (by simp) (by simp) (by simp; omega) (Sl.new_ w1 #[.int .u8 178] 5 (0, 0)) (.inl rfl)).mono ?_
  rintro e w2 ⟨o', buf', pos', gone', rfl, hl, ha, hr, hlen, ho, hfr⟩
  have hBel : Below w.heap.size w w2 := (HB1.out.alloc hs1 _).trans (hfr.below (by simp; omega) fun k hk h => by
    rcases h with h | h
    · omega
    · simp [Value.ownBlock] at h)
  have HBel := Lib.hid hBel
  have HR2 := Lib.hid hr
  have hl8 : left buf' pos' = Bit.ofBytes [178] := by rw [hl]; rfl
  have n1 : Bit.num ((left buf' pos').take 3) = 2 := by rw [hl8]; decide
  have n2 : Bit.num ((left buf' (pos' + 3)).take 5) = 22 := by rw [left_drop, hl8]; decide
  have m1 : 3 ≤ (left buf' pos').length := by rw [hl8]; decide
  have m2 : 5 ≤ (left buf' (pos' + 3)).length := by rw [left_drop, hl8]; decide
  have hbl : buf'.length ≤ 1000000000000 := by simp at hlen; omega
  have N1 := Lib.hid n1
  have N2 := Lib.hid n2
  clear hl ha hr hlen ho hfr hBel hl8 n1 n2
  go_wp2_with fail
  refine (bits_yes w.heap.size w.heap.size o' buf' pos' gone' 3 w2 HR2.out hbl (by decide) m1).mono ?_
  rintro e w3 ⟨rfl, hr3, hfr3⟩
  rw [N1.out]
  have HR3 := Lib.hid hr3
  have HB3 := Lib.hid (HBel.out.trans (hfr3.below HBel.out.size fun k hk h => by omega))
  clear hr3 hfr3
  go_wp2_with fail
  refine (bits_yes w.heap.size w.heap.size o' buf' (pos' + 3) gone' 5 w3 HR3.out hbl (by decide) m2).mono ?_
  rintro e w4 ⟨rfl, hr4, hfr4⟩
  rw [N2.out]
  have HB4 := Lib.hid (HB3.out.trans (hfr4.below HB3.out.size fun k hk h => by omega))
  clear hr4 hfr4
  go_wp2_with fail
  go_ret
  exact ⟨rfl, HB4.out⟩

set_option maxRecDepth 100000 in
set_option maxHeartbeats 2000000 in
theorem bitinPieces_walk (a0 : Option Addr) (l0 : List UInt8) (cap0 : Nat) (a1 : Option Addr) (l1 : List UInt8) (cap1 : Nat) (a2 : Option Addr) (l2 : List UInt8) (cap2 : Nat) (w : World)
    (hl0 : l0.length ≤ maxLen) (lc0 : l0.length ≤ cap0) (hsl0 : Sl w w.heap.size a0 (bytesV l0)) (hl1 : l1.length ≤ maxLen) (lc1 : l1.length ≤ cap1) (hsl1 : Sl w w.heap.size a1 (bytesV l1)) (hl2 : l2.length ≤ maxLen) (lc2 : l2.length ≤ cap2) (hsl2 : Sl w w.heap.size a2 (bytesV l2)) :
    Calls Try.prog 6 #[.slice a0 l0.length cap0, .slice a1 l1.length cap1, .slice a2 l2.length cap2] w fun e w' => e = .returned (.bool true) ∧ Below w.heap.size w w' := by
  unfold maxLen at hl0 hl1 hl2
  have HS0 := Lib.hid hsl0
  have HS1 := Lib.hid hsl1
  have HS2 := Lib.hid hsl2
  clear hsl0 hsl1 hsl2
  obtain ⟨i0, hi0, hz0, hz1, hz2⟩ := info_parts byteInfoC
  have Hi0 := Lib.hid hi0
  have Hz1 := Lib.hid hz1
  clear hi0 hz0 hz1 hz2
  by_cases hfew : l0.length ≤ 200 ∧ l2.length ≤ 100 ∧ l1.length ≤ 100
  · obtain ⟨few0, few2, few1⟩ := hfew
    have t1 : decide ((200 : Int) < (l0.length : Int)) = false := by simp; omega
    have t2 : decide ((100 : Int) < (l2.length : Int)) = false := by simp; omega
    have t3 : decide ((100 : Int) < (l1.length : Int)) = false := by simp; omega
    go_enter Try.func6, Try.ntmps6
    go_wp2_with fail
    refine (awake5_any w).mono ?_
    rintro e w1 ⟨rfl, hb1⟩
    have HB1 := Lib.hid hb1
    have hs1 := hb1.size
    clear hb1
    go_wp2_with fail
    refine (bitinNew_any w.heap.size w1 hs1).mono ?_
    rintro e w2 ⟨rfl, hrd1, hb2⟩
    have HB2 := Lib.hid (HB1.out.trans (hb2.mono hs1))
    have HR1 := Lib.hid hrd1
    have hs2 := hrd1.cells.lt
    clear hrd1 hb2
    go_wp2_with fail
    refine (bitinNew_any w.heap.size w2 (by omega)).mono ?_
    rintro e w3 ⟨rfl, hrd2, hb3⟩
    have HB3 := Lib.hid (HB2.out.trans (hb3.mono (by omega)))
    have hR1 : RdS w3 w.heap.size w1.heap.size (.slice none 0 0) [] 0 0 := HR1.out.fr (Fr.of_below hb3 (fun _ => False)) id (fun _ _ => id)
    have HR1 := Lib.hid hR1
    have HR2 := Lib.hid hrd2
    have hs3 := hrd2.cells.lt
    clear hrd2 hb3 hR1
    go_wp2_with fail
    refine (feed_any w.heap.size w1.heap.size (.slice none 0 0) [] 0 0 l0 a0 cap0 w.heap.size w3 HR1.out (by simp) (by omega) (by omega) (by omega) (HS0.out.below HB3.out (Nat.le_refl _)) (Nat.le_refl _) hs1).mono ?_
    rintro e w4 ⟨o1, b1, q1, g1, rfl, hl, ha, hr, hlen, ho, hfr⟩
    have hT : Two w w4 w.heap.size w1.heap.size w2.heap.size o1 b1 q1 g1 (.slice none 0 0) [] 0 0 l0 := by
      have hg0 : ∀ g, o1.ownBlock = some g → w3.heap.size ≤ g := by
        rcases ho with ho | ho
        · intro g hg; rw [ho] at hg; simp [Value.ownBlock] at hg
        · exact ho
      refine ⟨hr, HR2.out.fr hfr (fun hh => ?_) (fun g hg => by simp [Value.ownBlock] at hg), by rw [hl], by omega, by omega, fun hh => ?_, by simp [Value.ownBlock], fun g _ => by simp [Value.ownBlock], HB3.out.trans (hfr.below (by omega) fun k hk hh => ?_), hs1, by omega, Nat.le_refl _, by simp at hlen; omega, by omega⟩
      · rcases hh with hh | hh
        · omega
        · simp [Value.ownBlock] at hh
      · have := hg0 _ hh; omega
      · rcases hh with hh | hh
        · omega
        · simp [Value.ownBlock] at hh
    have HT := Lib.hid hT
    clear hl ha hr hlen ho hfr hT
    go_wp2_with fail
    go_loopw [9, 10] (fun v i wr => ∃ (k : Nat) (A : Option Addr) (c : Nat) (rest : List UInt8) (o1 : Value) (b1 : List UInt8) (q1 g1 : Nat) (o2 : Value) (b2 : List UInt8) (q2 g2 : Nat), k ≤ l2.length ∧ i = .int .i64 k ∧ v = .slice A rest.length c ∧ rest.length ≤ c ∧ rest.length ≤ 200 ∧ Sl wr w.heap.size A (bytesV rest) ∧ b2.length ≤ 400 * k ∧ Two w wr w.heap.size w1.heap.size w2.heap.size o1 b1 q1 g1 o2 b2 q2 g2 rest) (fun _ i _ => l2.length - (intOf i).toNat)
    case atStart => exact ⟨0, a0, cap0, l0, o1, b1, q1, g1, _, [], 0, 0, Nat.zero_le _, rfl, rfl, lc0, few0, HS0.out.below HT.out.bel (Nat.le_refl _), by simp, HT.out⟩
    case round =>
      obtain ⟨k, A, c, rest, o1, b1, q1, g1, o2, b2, q2, g2, hk, rfl, rfl, hrc, hr200, hslr, hb2l, hT⟩ := hrel
      have HSR := Lib.hid hslr
      have HT := Lib.hid hT
      clear hslr hT
      by_cases hlt : k < l2.length
      · have c2cell := ((HS2.out.below HT.out.bel (Nat.le_refl _)).byte hlt)
        obtain ⟨bb, oo, rfl, _, hcell⟩ := c2cell
        have hkk : l2[k].toNat % 33 ≤ 32 := by omega
        have c256 := u8_bound l2[k]
        have ek : ((l2[k].toNat : Int) % 33) = ((l2[k].toNat % 33 : Nat) : Int) := by omega
        generalize l2[k].toNat % 33 = kk at hkk ek
        generalize l2[k].toNat = cc at hcell ek c256
        by_cases hcut : k < l1.length
        · have tc : decide ((k : Int) < (l1.length : Int)) = true := by simp; omega
          have tc' : decide (k < l1.length) = true := by simp; omega
          obtain ⟨bb1, oo1, rfl, _, hcell1⟩ := ((HS1.out.below HT.out.bel (Nat.le_refl _)).byte hcut)
          have c2561 := u8_bound l1[k]
          have ek1 : ((l1[k].toNat : Int) % 9) = ((l1[k].toNat % 9 : Nat) : Int) := by omega
          obtain ⟨at_, hat⟩ : ∃ at_, at_ = min (l1[k].toNat % 9) rest.length := ⟨_, rfl⟩
          have hat8 : at_ ≤ 8 := by omega
          have hatr : at_ ≤ rest.length := by omega
          have hmin : ∀ W, (Builtin.min_ #[3, 3] 3 #[.int .i64 ((l1[k].toNat % 9 : Nat) : Int), .int .i64 (rest.length : Int)]).run Try.prog W = .ok (.int .i64 (at_ : Int)) W := fun W => by
            have : (at_ : Int) = if (rest.length : Int) < ((l1[k].toNat % 9 : Nat) : Int) then (rest.length : Int) else ((l1[k].toNat % 9 : Nat) : Int) := by split <;> omega
            rw [this]; simp [go_sem]
          clear hat
          generalize l1[k].toNat % 9 = cc9 at ek1 hmin
          generalize l1[k].toNat = cc1 at hcell1 ek1 c2561
          have hq1 := run_slice_to Try.underlying32 Hi0.out A rest.length c at_ (by omega)
          have hq2 := run_slice_from Try.underlying32 Hi0.out Hz1.out A rest.length c at_ hatr
          have hlt_ : (rest.take at_).length = at_ := by rw [List.length_take]; omega
          have hld_ : (rest.drop at_).length = rest.length - at_ := List.length_drop
          have HST := Lib.hid (show Sl wr w.heap.size A (bytesV (rest.take at_)) by rw [bytesV, List.map_take]; exact HSR.out.take at_)
          have HSD := Lib.hid (show Sl wr w.heap.size (restAt A c at_) (bytesV (rest.drop at_)) by rw [bytesV, List.map_drop]; exact HSR.out.rest c at_ (by rw [len_bytesV]; omega))
          have hg2 := HT.out.gone
          have hwB := Nat.le_trans HT.out.bw HT.out.bel.size
          have HSP := Lib.hid (show rest = rest.take at_ ++ rest.drop at_ by rw [List.take_append_drop])
          generalize hrt : rest.take at_ = rt at hlt_ HST HSP
          generalize hrd : rest.drop at_ = rd at hld_ HSD HSP
          clear hrt hrd
          generalize restAt A c at_ = A3 at hq2 HSD
          have FD := Lib.hid (feed_any w.heap.size w2.heap.size o2 b2 q2 g2 rt A c w.heap.size wr HT.out.r2 (by omega) (by omega) hwB (by omega) HST.out (Nat.le_refl _) HT.out.bp2)
          rw [hlt_] at FD
          have HLD := Lib.hid hld_
          have hrd200 : rd.length ≤ 200 := by omega
          have hrdc : rd.length ≤ c - at_ := by omega
          have hq2' := hq2
          rw [← hld_] at hq2'
          have HLT := Lib.hid hlt_
          clear hq2 hlt_ hld_
          go_wp2_with fail
          refine FD.out.mono ?_
          intro e wX hX
          obtain ⟨rfl, -, o2, b2, q2, g2, hT2, hlb, -, hbX⟩ := HT.out.feed HSP.out hX
          have HT := Lib.hid hT2
          have HSR := Lib.hid (HSD.out.below hbX (Nat.le_refl _))
          have hb2b : b2.length ≤ 400 * k + 8 := by have := HLT.out; omega
          clear hT2 hlb hbX hX HST HSD FD HSP HLT HLD
          obtain ⟨WL0, hWL0⟩ : ∃ W, W = wX := ⟨_, rfl⟩
          subst hWL0
          have hb2m : b2.length ≤ 1000000000000 := by omega
          go_wp2_with fail
          refine (left_any w.heap.size w2.heap.size o2 b2 q2 g2 _ HT.out.r2 hb2m).mono ?_
          rintro e wL ⟨rfl, mL, rfl⟩
          obtain ⟨WW, hWW⟩ : ∃ WW, WW = WL0.drewN mL := ⟨_, rfl⟩
          have HT := Lib.hid (HT.out.drewN mL)
          have HSR := Lib.hid (HSR.out.drewN mL)
          rw [← hWW] at HT HSR ⊢
          clear hWW
          by_cases hneed : (left b2 q2).length < kk
          · have tn : decide (((left b2 q2).length : Int) < (kk : Int)) = true := by simp; omega
            have tn' : decide ((left b2 q2).length < kk) = true := by simp; omega
            generalize hLL : (left b2 q2).length = LL at tn tn' hneed
            clear hLL
            have hg2 := HT.out.gone
            have hwB := Nat.le_trans HT.out.bw HT.out.bel.size
            go_wp2_with fail
            refine (feed_any w.heap.size w2.heap.size o2 b2 q2 g2 rd A3 _ w.heap.size WW HT.out.r2 (by omega) (by omega) hwB (by omega) HSR.out (Nat.le_refl _) HT.out.bp2).mono ?_
            intro e wF hF
            obtain ⟨rfl, -, o2, b2, q2, g2, hT2, hlb, -, -⟩ := HT.out.feed (rest' := []) (by simp) hF
            have HT := Lib.hid hT2
            have HNEED : Hid (kk ≤ (left b1 q1).length → kk ≤ (left b2 q2).length) := fun h => by
              have := hT2.len
              simp at this
              omega
            have HSR : Hid (Sl wF w.heap.size none (bytesV [])) := Sl.nil
            have hb2l : b2.length ≤ 400 * (k + 1) := by omega
            clear hT2 hF
            go_wp2_with fail
            by_cases hall : kk ≤ (left b1 q1).length
            · have hn2 : kk ≤ (left b2 q2).length := HNEED.out hall
              have N1 := Lib.hid (HT.out.num hn2)
              have hb1l := HT.out.few
              have hg2 := HT.out.gone
              have hg1 := HT.out.tot
              have hrr := Lib.hid HT.out.r1
              go_wp2_with fail
              refine (bits_yes w.heap.size w1.heap.size o1 b1 q1 g1 kk _ hrr.out (by omega) (by omega) hall).mono ?_
              intro e wA hA
              obtain ⟨hmid, hbelA⟩ := HT.out.mid hA
              have HA := Lib.hid hA
              have HMID := Lib.hid hmid
              obtain ⟨rfl, -, -⟩ := hA
              rw [N1.out]
              clear hmid hbelA
              go_wp2_with fail
              refine (bits_yes w.heap.size w2.heap.size o2 b2 q2 g2 kk wA HMID.out (by omega) (by omega) hn2).mono ?_
              intro e wB hB
              have HT2 := Lib.hid (HT.out.both HA.out hB hn2)
              obtain ⟨rfl, -, hfrB⟩ := hB
              have hbelB := HT2.out.bel
              have HSR3 := Lib.hid (show Sl wB w.heap.size none (bytesV []) from (HSR.out.below (HT.out.mid HA.out).2 (Nat.le_refl _)).below (hfrB.below (Nat.le_trans HT.out.bel.size (HT.out.mid HA.out).2.size) fun x hx hh => by omega) (Nat.le_refl _))
              generalize Bit.num ((left b2 q2).take kk) = zz
              have hg2' := HT2.out.gone
              have AT1 := fun m => Lib.hid (at_any w.heap.size w1.heap.size o1 b1 (q1 + kk) g1 (wB.drewN m) (HT2.out.r1.drewN m) (by omega) (by omega))
              have AT2 := fun m => Lib.hid (at_any w.heap.size w2.heap.size o2 b2 (q2 + kk) g2 (wB.drewN m) (HT2.out.r2.drewN m) (by omega) (by omega))
              have hsm := HT2.out.same
              rw [hsm] at AT1
              generalize 8 * g2 + (q2 + kk) = aa at AT1 AT2
              clear hsm hfrB hbelB
              go_wp2_with fail
              refine (AT1 0).out.mono ?_
              rintro e wC ⟨rfl, m1, rfl⟩
              go_wp2_with fail
              refine (AT2 _).out.mono ?_
              rintro e wC ⟨rfl, m2, rfl⟩
              go_wp2_with fail
              go_roundw
              case rel => exact ⟨k + 1, none, _, [], o1, b1, q1 + kk, g1, o2, b2, q2 + kk, g2, by omega, by go_num, rfl, by simp, by simp, HSR3.out.drewN _, by omega, HT2.out.drewN _⟩
              case measure => simp [intOf]; omega
            · have hlen := HT.out.len
              have hb1l := HT.out.few
              have hg2 := HT.out.gone
              have hg1 := HT.out.tot
              go_wp2_with fail
              refine (bits_no w.heap.size w1.heap.size o1 b1 q1 g1 kk _ HT.out.r1 (by omega) (by omega) (by omega)).mono ?_
              rintro e wA ⟨rfl, m1, rfl⟩
              go_wp2_with fail
              refine (bits_no w.heap.size w2.heap.size o2 b2 q2 g2 kk _ (HT.out.r2.drewN m1) (by omega) (by omega) (by omega)).mono ?_
              rintro e wA ⟨rfl, m2, rfl⟩
              have AT1 := fun m => Lib.hid (at_any w.heap.size w1.heap.size o1 b1 q1 g1 (wF.drewN m) (HT.out.r1.drewN m) (by omega) (by omega))
              have AT2 := fun m => Lib.hid (at_any w.heap.size w2.heap.size o2 b2 q2 g2 (wF.drewN m) (HT.out.r2.drewN m) (by omega) (by omega))
              have hsm := HT.out.same
              rw [hsm] at AT1
              generalize 8 * g2 + q2 = aa at AT1 AT2
              clear hsm
              go_wp2_with fail
              refine (AT1 _).out.mono ?_
              rintro e wC ⟨rfl, m3, rfl⟩
              go_wp2_with fail
              refine (AT2 _).out.mono ?_
              rintro e wC ⟨rfl, m4, rfl⟩
              go_wp2_with fail
              go_roundw
              case rel => exact ⟨k + 1, none, _, [], o1, b1, q1, g1, o2, b2, q2, g2, by omega, by go_num, rfl, by simp, by simp, HSR.out.drewN _, by omega, HT.out.drewN _⟩
              case measure => simp [intOf]; omega

          · have tn : decide (((left b2 q2).length : Int) < (kk : Int)) = false := by simp; omega
            have tn' : decide ((left b2 q2).length < kk) = false := by simp; omega
            have HNEED : Hid (kk ≤ (left b1 q1).length → kk ≤ (left b2 q2).length) := fun _ => by omega
            generalize hLL : (left b2 q2).length = LL at tn tn'
            clear hLL
            have hb2l : b2.length ≤ 400 * (k + 1) := by omega
            by_cases hall : kk ≤ (left b1 q1).length
            · have hn2 : kk ≤ (left b2 q2).length := HNEED.out hall
              have N1 := Lib.hid (HT.out.num hn2)
              have hb1l := HT.out.few
              have hg2 := HT.out.gone
              have hg1 := HT.out.tot
              have hrr := Lib.hid HT.out.r1
              go_wp2_with fail
              refine (bits_yes w.heap.size w1.heap.size o1 b1 q1 g1 kk _ hrr.out (by omega) (by omega) hall).mono ?_
              intro e wA hA
              obtain ⟨hmid, hbelA⟩ := HT.out.mid hA
              have HA := Lib.hid hA
              have HMID := Lib.hid hmid
              obtain ⟨rfl, -, -⟩ := hA
              rw [N1.out]
              clear hmid hbelA
              go_wp2_with fail
              refine (bits_yes w.heap.size w2.heap.size o2 b2 q2 g2 kk wA HMID.out (by omega) (by omega) hn2).mono ?_
              intro e wB hB
              have HT2 := Lib.hid (HT.out.both HA.out hB hn2)
              obtain ⟨rfl, -, hfrB⟩ := hB
              have hbelB := HT2.out.bel
              have HSR3 := Lib.hid (show Sl wB w.heap.size A3 (bytesV rd) from (HSR.out.below (HT.out.mid HA.out).2 (Nat.le_refl _)).below (hfrB.below (Nat.le_trans HT.out.bel.size (HT.out.mid HA.out).2.size) fun x hx hh => by omega) (Nat.le_refl _))
              generalize Bit.num ((left b2 q2).take kk) = zz
              have hg2' := HT2.out.gone
              have AT1 := fun m => Lib.hid (at_any w.heap.size w1.heap.size o1 b1 (q1 + kk) g1 (wB.drewN m) (HT2.out.r1.drewN m) (by omega) (by omega))
              have AT2 := fun m => Lib.hid (at_any w.heap.size w2.heap.size o2 b2 (q2 + kk) g2 (wB.drewN m) (HT2.out.r2.drewN m) (by omega) (by omega))
              have hsm := HT2.out.same
              rw [hsm] at AT1
              generalize 8 * g2 + (q2 + kk) = aa at AT1 AT2
              clear hsm hfrB hbelB
              go_wp2_with fail
              refine (AT1 0).out.mono ?_
              rintro e wC ⟨rfl, m1, rfl⟩
              go_wp2_with fail
              refine (AT2 _).out.mono ?_
              rintro e wC ⟨rfl, m2, rfl⟩
              go_wp2_with fail
              go_roundw
              case rel => exact ⟨k + 1, A3, _, rd, o1, b1, q1 + kk, g1, o2, b2, q2 + kk, g2, by omega, by go_num, rfl, hrdc, hrd200, HSR3.out.drewN _, by omega, HT2.out.drewN _⟩
              case measure => simp [intOf]; omega
            · have hlen := HT.out.len
              have hb1l := HT.out.few
              have hg2 := HT.out.gone
              have hg1 := HT.out.tot
              go_wp2_with fail
              refine (bits_no w.heap.size w1.heap.size o1 b1 q1 g1 kk _ HT.out.r1 (by omega) (by omega) (by omega)).mono ?_
              rintro e wA ⟨rfl, m1, rfl⟩
              go_wp2_with fail
              refine (bits_no w.heap.size w2.heap.size o2 b2 q2 g2 kk _ (HT.out.r2.drewN m1) (by omega) (by omega) (by omega)).mono ?_
              rintro e wA ⟨rfl, m2, rfl⟩
              have AT1 := fun m => Lib.hid (at_any w.heap.size w1.heap.size o1 b1 q1 g1 (WW.drewN m) (HT.out.r1.drewN m) (by omega) (by omega))
              have AT2 := fun m => Lib.hid (at_any w.heap.size w2.heap.size o2 b2 q2 g2 (WW.drewN m) (HT.out.r2.drewN m) (by omega) (by omega))
              have hsm := HT.out.same
              rw [hsm] at AT1
              generalize 8 * g2 + q2 = aa at AT1 AT2
              clear hsm
              go_wp2_with fail
              refine (AT1 _).out.mono ?_
              rintro e wC ⟨rfl, m3, rfl⟩
              go_wp2_with fail
              refine (AT2 _).out.mono ?_
              rintro e wC ⟨rfl, m4, rfl⟩
              go_wp2_with fail
              go_roundw
              case rel => exact ⟨k + 1, A3, _, rd, o1, b1, q1, g1, o2, b2, q2, g2, by omega, by go_num, rfl, hrdc, hrd200, HSR.out.drewN _, by omega, HT.out.drewN _⟩
              case measure => simp [intOf]; omega


        · have tc : decide ((k : Int) < (l1.length : Int)) = false := by simp; omega
          have tc' : decide (k < l1.length) = false := by simp; omega
          obtain ⟨WL0, hWL0⟩ : ∃ W, W = wr := ⟨_, rfl⟩
          subst hWL0
          have hb2m : b2.length ≤ 1000000000000 := by omega
          go_wp2_with fail
          refine (left_any w.heap.size w2.heap.size o2 b2 q2 g2 _ HT.out.r2 hb2m).mono ?_
          rintro e wL ⟨rfl, mL, rfl⟩
          obtain ⟨WW, hWW⟩ : ∃ WW, WW = WL0.drewN mL := ⟨_, rfl⟩
          have HT := Lib.hid (HT.out.drewN mL)
          have HSR := Lib.hid (HSR.out.drewN mL)
          rw [← hWW] at HT HSR ⊢
          clear hWW
          by_cases hneed : (left b2 q2).length < kk
          · have tn : decide (((left b2 q2).length : Int) < (kk : Int)) = true := by simp; omega
            have tn' : decide ((left b2 q2).length < kk) = true := by simp; omega
            generalize hLL : (left b2 q2).length = LL at tn tn' hneed
            clear hLL
            have hg2 := HT.out.gone
            have hwB := Nat.le_trans HT.out.bw HT.out.bel.size
            go_wp2_with fail
            refine (feed_any w.heap.size w2.heap.size o2 b2 q2 g2 rest A _ w.heap.size WW HT.out.r2 (by omega) (by omega) hwB (by omega) HSR.out (Nat.le_refl _) HT.out.bp2).mono ?_
            intro e wF hF
            obtain ⟨rfl, -, o2, b2, q2, g2, hT2, hlb, -, -⟩ := HT.out.feed (rest' := []) (by simp) hF
            have HT := Lib.hid hT2
            have HNEED : Hid (kk ≤ (left b1 q1).length → kk ≤ (left b2 q2).length) := fun h => by
              have := hT2.len
              simp at this
              omega
            have HSR : Hid (Sl wF w.heap.size none (bytesV [])) := Sl.nil
            have hb2l : b2.length ≤ 400 * (k + 1) := by omega
            clear hT2 hF
            go_wp2_with fail
            by_cases hall : kk ≤ (left b1 q1).length
            · have hn2 : kk ≤ (left b2 q2).length := HNEED.out hall
              have N1 := Lib.hid (HT.out.num hn2)
              have hb1l := HT.out.few
              have hg2 := HT.out.gone
              have hg1 := HT.out.tot
              have hrr := Lib.hid HT.out.r1
              go_wp2_with fail
              refine (bits_yes w.heap.size w1.heap.size o1 b1 q1 g1 kk _ hrr.out (by omega) (by omega) hall).mono ?_
              intro e wA hA
              obtain ⟨hmid, hbelA⟩ := HT.out.mid hA
              have HA := Lib.hid hA
              have HMID := Lib.hid hmid
              obtain ⟨rfl, -, -⟩ := hA
              rw [N1.out]
              clear hmid hbelA
              go_wp2_with fail
              refine (bits_yes w.heap.size w2.heap.size o2 b2 q2 g2 kk wA HMID.out (by omega) (by omega) hn2).mono ?_
              intro e wB hB
              have HT2 := Lib.hid (HT.out.both HA.out hB hn2)
              obtain ⟨rfl, -, hfrB⟩ := hB
              have hbelB := HT2.out.bel
              have HSR3 := Lib.hid (show Sl wB w.heap.size none (bytesV []) from (HSR.out.below (HT.out.mid HA.out).2 (Nat.le_refl _)).below (hfrB.below (Nat.le_trans HT.out.bel.size (HT.out.mid HA.out).2.size) fun x hx hh => by omega) (Nat.le_refl _))
              generalize Bit.num ((left b2 q2).take kk) = zz
              have hg2' := HT2.out.gone
              have AT1 := fun m => Lib.hid (at_any w.heap.size w1.heap.size o1 b1 (q1 + kk) g1 (wB.drewN m) (HT2.out.r1.drewN m) (by omega) (by omega))
              have AT2 := fun m => Lib.hid (at_any w.heap.size w2.heap.size o2 b2 (q2 + kk) g2 (wB.drewN m) (HT2.out.r2.drewN m) (by omega) (by omega))
              have hsm := HT2.out.same
              rw [hsm] at AT1
              generalize 8 * g2 + (q2 + kk) = aa at AT1 AT2
              clear hsm hfrB hbelB
              go_wp2_with fail
              refine (AT1 0).out.mono ?_
              rintro e wC ⟨rfl, m1, rfl⟩
              go_wp2_with fail
              refine (AT2 _).out.mono ?_
              rintro e wC ⟨rfl, m2, rfl⟩
              go_wp2_with fail
              go_roundw
              case rel => exact ⟨k + 1, none, _, [], o1, b1, q1 + kk, g1, o2, b2, q2 + kk, g2, by omega, by go_num, rfl, by simp, by simp, HSR3.out.drewN _, by omega, HT2.out.drewN _⟩
              case measure => simp [intOf]; omega
            · have hlen := HT.out.len
              have hb1l := HT.out.few
              have hg2 := HT.out.gone
              have hg1 := HT.out.tot
              go_wp2_with fail
              refine (bits_no w.heap.size w1.heap.size o1 b1 q1 g1 kk _ HT.out.r1 (by omega) (by omega) (by omega)).mono ?_
              rintro e wA ⟨rfl, m1, rfl⟩
              go_wp2_with fail
              refine (bits_no w.heap.size w2.heap.size o2 b2 q2 g2 kk _ (HT.out.r2.drewN m1) (by omega) (by omega) (by omega)).mono ?_
              rintro e wA ⟨rfl, m2, rfl⟩
              have AT1 := fun m => Lib.hid (at_any w.heap.size w1.heap.size o1 b1 q1 g1 (wF.drewN m) (HT.out.r1.drewN m) (by omega) (by omega))
              have AT2 := fun m => Lib.hid (at_any w.heap.size w2.heap.size o2 b2 q2 g2 (wF.drewN m) (HT.out.r2.drewN m) (by omega) (by omega))
              have hsm := HT.out.same
              rw [hsm] at AT1
              generalize 8 * g2 + q2 = aa at AT1 AT2
              clear hsm
              go_wp2_with fail
              refine (AT1 _).out.mono ?_
              rintro e wC ⟨rfl, m3, rfl⟩
              go_wp2_with fail
              refine (AT2 _).out.mono ?_
              rintro e wC ⟨rfl, m4, rfl⟩
              go_wp2_with fail
              go_roundw
              case rel => exact ⟨k + 1, none, _, [], o1, b1, q1, g1, o2, b2, q2, g2, by omega, by go_num, rfl, by simp, by simp, HSR.out.drewN _, by omega, HT.out.drewN _⟩
              case measure => simp [intOf]; omega

          · have tn : decide (((left b2 q2).length : Int) < (kk : Int)) = false := by simp; omega
            have tn' : decide ((left b2 q2).length < kk) = false := by simp; omega
            have HNEED : Hid (kk ≤ (left b1 q1).length → kk ≤ (left b2 q2).length) := fun _ => by omega
            generalize hLL : (left b2 q2).length = LL at tn tn'
            clear hLL
            have hb2l : b2.length ≤ 400 * (k + 1) := by omega
            by_cases hall : kk ≤ (left b1 q1).length
            · have hn2 : kk ≤ (left b2 q2).length := HNEED.out hall
              have N1 := Lib.hid (HT.out.num hn2)
              have hb1l := HT.out.few
              have hg2 := HT.out.gone
              have hg1 := HT.out.tot
              have hrr := Lib.hid HT.out.r1
              go_wp2_with fail
              refine (bits_yes w.heap.size w1.heap.size o1 b1 q1 g1 kk _ hrr.out (by omega) (by omega) hall).mono ?_
              intro e wA hA
              obtain ⟨hmid, hbelA⟩ := HT.out.mid hA
              have HA := Lib.hid hA
              have HMID := Lib.hid hmid
              obtain ⟨rfl, -, -⟩ := hA
              rw [N1.out]
              clear hmid hbelA
              go_wp2_with fail
              refine (bits_yes w.heap.size w2.heap.size o2 b2 q2 g2 kk wA HMID.out (by omega) (by omega) hn2).mono ?_
              intro e wB hB
              have HT2 := Lib.hid (HT.out.both HA.out hB hn2)
              obtain ⟨rfl, -, hfrB⟩ := hB
              have hbelB := HT2.out.bel
              have HSR3 := Lib.hid (show Sl wB w.heap.size A (bytesV rest) from (HSR.out.below (HT.out.mid HA.out).2 (Nat.le_refl _)).below (hfrB.below (Nat.le_trans HT.out.bel.size (HT.out.mid HA.out).2.size) fun x hx hh => by omega) (Nat.le_refl _))
              generalize Bit.num ((left b2 q2).take kk) = zz
              have hg2' := HT2.out.gone
              have AT1 := fun m => Lib.hid (at_any w.heap.size w1.heap.size o1 b1 (q1 + kk) g1 (wB.drewN m) (HT2.out.r1.drewN m) (by omega) (by omega))
              have AT2 := fun m => Lib.hid (at_any w.heap.size w2.heap.size o2 b2 (q2 + kk) g2 (wB.drewN m) (HT2.out.r2.drewN m) (by omega) (by omega))
              have hsm := HT2.out.same
              rw [hsm] at AT1
              generalize 8 * g2 + (q2 + kk) = aa at AT1 AT2
              clear hsm hfrB hbelB
              go_wp2_with fail
              refine (AT1 0).out.mono ?_
              rintro e wC ⟨rfl, m1, rfl⟩
              go_wp2_with fail
              refine (AT2 _).out.mono ?_
              rintro e wC ⟨rfl, m2, rfl⟩
              go_wp2_with fail
              go_roundw
              case rel => exact ⟨k + 1, A, _, rest, o1, b1, q1 + kk, g1, o2, b2, q2 + kk, g2, by omega, by go_num, rfl, hrc, hr200, HSR3.out.drewN _, by omega, HT2.out.drewN _⟩
              case measure => simp [intOf]; omega
            · have hlen := HT.out.len
              have hb1l := HT.out.few
              have hg2 := HT.out.gone
              have hg1 := HT.out.tot
              go_wp2_with fail
              refine (bits_no w.heap.size w1.heap.size o1 b1 q1 g1 kk _ HT.out.r1 (by omega) (by omega) (by omega)).mono ?_
              rintro e wA ⟨rfl, m1, rfl⟩
              go_wp2_with fail
              refine (bits_no w.heap.size w2.heap.size o2 b2 q2 g2 kk _ (HT.out.r2.drewN m1) (by omega) (by omega) (by omega)).mono ?_
              rintro e wA ⟨rfl, m2, rfl⟩
              have AT1 := fun m => Lib.hid (at_any w.heap.size w1.heap.size o1 b1 q1 g1 (WW.drewN m) (HT.out.r1.drewN m) (by omega) (by omega))
              have AT2 := fun m => Lib.hid (at_any w.heap.size w2.heap.size o2 b2 q2 g2 (WW.drewN m) (HT.out.r2.drewN m) (by omega) (by omega))
              have hsm := HT.out.same
              rw [hsm] at AT1
              generalize 8 * g2 + q2 = aa at AT1 AT2
              clear hsm
              go_wp2_with fail
              refine (AT1 _).out.mono ?_
              rintro e wC ⟨rfl, m3, rfl⟩
              go_wp2_with fail
              refine (AT2 _).out.mono ?_
              rintro e wC ⟨rfl, m4, rfl⟩
              go_wp2_with fail
              go_roundw
              case rel => exact ⟨k + 1, A, _, rest, o1, b1, q1, g1, o2, b2, q2, g2, by omega, by go_num, rfl, hrc, hr200, HSR.out.drewN _, by omega, HT.out.drewN _⟩
              case measure => simp [intOf]; omega



      · obtain rfl : k = l2.length := by omega
        have hg2 := HT.out.gone
        have hb1l := HT.out.few
        have hwB := Nat.le_trans HT.out.bw HT.out.bel.size
        go_wp2_with fail
        refine (feed_any w.heap.size w2.heap.size o2 b2 q2 g2 rest A _ w.heap.size wr HT.out.r2 (by omega) (by omega) hwB (by omega) HSR.out (Nat.le_refl _) HT.out.bp2).mono ?_
        intro e wF hF
        obtain ⟨rfl, -, o2, b2, q2, g2, hT2, hlb, -, -⟩ := HT.out.feed (rest' := []) (by simp) hF
        have HT := Lib.hid hT2
        have hb2l : b2.length ≤ 400 * (l2.length + 1) := by omega
        have hsame : left b1 q1 = left b2 q2 := by have := hT2.bits; simpa [Bit.ofBytes] using this
        have hrest : restBytes b1 q1 = restBytes b2 q2 := rest_same hsame hT2.same
        have LF1 := fun W (h : Two w W w.heap.size w1.heap.size w2.heap.size o1 b1 q1 g1 o2 b2 q2 g2 []) => Lib.hid (left_any w.heap.size w1.heap.size o1 b1 q1 g1 W h.r1 (by omega))
        have LF2 := fun W (h : Two w W w.heap.size w1.heap.size w2.heap.size o1 b1 q1 g1 o2 b2 q2 g2 []) => Lib.hid (left_any w.heap.size w2.heap.size o2 b2 q2 g2 W h.r2 (by omega))
        rw [hsame] at LF1
        generalize hll : (left b2 q2).length = ll at LF1 LF2
        have RS1 := fun W (h : Two w W w.heap.size w1.heap.size w2.heap.size o1 b1 q1 g1 o2 b2 q2 g2 []) => Lib.hid (rest_any w.heap.size w1.heap.size o1 b1 q1 g1 W h.r1 (by omega))
        have RS2 := fun W (h : Two w W w.heap.size w1.heap.size w2.heap.size o1 b1 q1 g1 o2 b2 q2 g2 []) => Lib.hid (rest_any w.heap.size w2.heap.size o2 b2 q2 g2 W h.r2 (by omega))
        rw [hrest] at RS1
        generalize restBytes b2 q2 = rb at RS1 RS2
        have hT0 := HT.out
        clear hll hsame hrest hT2 hF hlb
        go_wp2_with fail
        go_region_law ((go_simp; first | ((go_at_call 25; (with_reducible refine (LF1 _ (by first | exact hT0.drew | exact hT0.drewN _ | exact Two.grow (hT0.drewN _) hbR)).out.mono ?_); rintro e wL ⟨rfl, m, rfl⟩)) | ((go_at_call 25; (with_reducible refine (LF2 _ (by first | exact hT0.drew | exact hT0.drewN _ | exact Two.grow (hT0.drewN _) hbR)).out.mono ?_); rintro e wL ⟨rfl, m, rfl⟩)) | ((go_at_call 28; (with_reducible refine (RS1 _ (by first | exact hT0.drew | exact hT0.drewN _ | exact Two.grow (hT0.drewN _) hbR)).out.mono ?_); rintro e wR1 ⟨A1, c1', rfl, hown1, hbR⟩; have s1 := str_gives hown1; rw [len_bytesV]; have s1' := s1 _ (Below.refl _ _))) | ((go_at_call 28; (with_reducible refine (RS2 _ (by first | exact hT0.drew | exact hT0.drewN _ | exact Two.grow (hT0.drewN _) hbR)).out.mono ?_); rintro e wR2 ⟨A2, c2', rfl, hown2, hbR2⟩; have s2 := str_gives hown2; rw [len_bytesV]; have s2' := s2 _ (Below.refl _ _); have s1'' := s1 _ hbR2))))
        all_goals (go_wp2; go_ret; exact ⟨rfl, (((hT0.drewN _).grow hbR).grow hbR2).bel⟩)

  · obtain ⟨d1, t1⟩ : ∃ d, decide ((200 : Int) < (l0.length : Int)) = d := ⟨_, rfl⟩
    obtain ⟨d2, t2⟩ : ∃ d, decide ((100 : Int) < (l2.length : Int)) = d := ⟨_, rfl⟩
    obtain ⟨d3, t3⟩ : ∃ d, decide ((100 : Int) < (l1.length : Int)) = d := ⟨_, rfl⟩
    have hd : d1 = true ∨ d2 = true ∨ d3 = true := by
      rw [← t1, ← t2, ← t3]; simp; omega
    clear hfew
    cases d1 <;> cases d2 <;> cases d3 <;> first | (simp at hd; done) | (
      clear hd
      go_enter Try.func6, Try.ntmps6
      go_wp2_with fail
      refine (awake5_any w).mono ?_
      rintro e w1 ⟨rfl, hb1⟩
      have HB1 := Lib.hid hb1
      clear hb1
      go_wp2_with fail
      go_ret
      exact ⟨rfl, HB1.out⟩)
end Go.Proofs.Ytpfihombncnmhaa
