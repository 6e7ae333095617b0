/-
  The law BitoutPlays returns true: walk.
-/
import Derived.Test.YtpfihombncnmhaaPlays
import Derived.Test.YtpfihombncnmhaaBitoutLawReverse
namespace Go.Proofs.Ytpfihombncnmhaa
open Go.RowKit

set_option maxRecDepth 100000 in
set_option maxHeartbeats 4000000 in
theorem bitoutPlays_walk (a : Option Addr) (l : List OpV) (cap : Nat) (w : World) (hl : l.length ≤ maxLen) (_hlc : l.length ≤ cap) (hok : ∀ o ∈ l, o.ok w) (hsl : Sl w w.heap.size a (l.flatMap OpV.cells)) :
    Calls Try.prog 4 #[.slice a l.length cap] w fun e w' => e = .returned (.bool true) ∧ Below w.heap.size w w' := by
  unfold maxLen at hl
  have HS := Lib.hid hsl
  have HK := Lib.hid hok
  clear hsl hok
  obtain ⟨i0, hi0, hz0, hz1, hz2⟩ := info_parts byteInfoR
  have Hi0 := Lib.hid hi0
  have Hz0 := Lib.hid hz0
  have Hz1 := Lib.hid hz1
  have Hz2 := Lib.hid hz2
  clear hi0 hz0 hz1 hz2
  by_cases few : l.length ≤ 60
  · have t1 : decide ((60 : Int) < (l.length : Int)) = false := by simp; omega
    go_enter Try.func4, Try.ntmps4
    go_wp2_with fail
    refine (awake6_any w).mono ?_
    rintro e w1 ⟨rfl, hb1⟩
    have HB1 := Lib.hid hb1
    have hs1 := hb1.size
    clear hb1
    go_wp2_with fail
    refine (bitoutNew_any w.heap.size w1 hs1).mono ?_
    rintro e w2 ⟨rfl, hw2, hb2⟩
    have HB2 := Lib.hid (HB1.out.trans (hb2.mono hs1))
    have HP2 := Lib.hid (show PM w2 w.heap.size w1.heap.size (.slice none 0 0) [] [] 0 (.slice none 0 0) [] (.slice none 0 0) [] from
      ⟨hw2, by simp, hs1, HB2.out.size, World.ownsRow_nil _ _ _ _, World.ownsRow_nil _ _ _ _, by simp [Value.ownBlock], by simp [Value.ownBlock], by simp [Value.ownBlock], by simp [Value.ownBlock], by simp [Value.ownBlock]⟩)
    clear hw2 hb2
    go_wp2_with fail
    go_loopw [3, 4, 5, 6] (fun pw va vo i wr => ∃ (k p : Nat) (o : Value) (x : List UInt8) (r : List Bool) (all : List Bool) (out : List UInt8), k ≤ l.length ∧ i = .int .i64 k ∧ pw = .pointer (some ⟨p, 0, none⟩) ∧ PM wr w.heap.size p o x r all.length va all vo out ∧ Bit.ofBytes (out ++ x) ++ r = all ∧ all.length ≤ 1000 * k ∧ Below w.heap.size w wr) (fun _ _ _ i _ => l.length - (intOf i).toNat)
    case atStart => exact ⟨0, _, _, [], [], [], [], Nat.zero_le _, rfl, rfl, HP2.out, rfl, by simp, HB2.out⟩
    case round =>
      obtain ⟨k, p, o, x, r, all, out, hk, rfl, rfl, hpm, hbits, hal0, hbel⟩ := hrel
      obtain ⟨A, c, rfl⟩ := own_form hpm.ownA
      obtain ⟨Ao, co, rfl⟩ := own_form hpm.ownO
      have hr := hpm.hr
      have HP0 := Lib.hid hpm
      have HBI := Lib.hid hbits
      have HB := Lib.hid hbel
      have hxl : x.length + out.length ≤ 60000 := by
        have h := congrArg List.length hbits
        rw [List.length_append, Bit.length_ofBytes', List.length_append] at h
        omega
      clear hpm hbits hbel
      by_cases hlt : k < l.length
      · obtain ⟨x0, hx0⟩ : ∃ x0, l[k]? = some x0 := ⟨_, List.getElem?_eq_getElem hlt⟩
        obtain ⟨b, off, rfl, hbB, q0, q1, q2, q3⟩ := ops_at (HS.out.below HB.out (Nat.le_refl _)) hx0
        have hxo := HK.out x0 (List.mem_of_getElem? hx0)
        have hv := hxo.v1
        have hn1 := hxo.n1
        have hn2 := hxo.n2
        have HSD := Lib.hid hxo.sl
        clear hx0 hxo
        generalize x0.v = vv at hv q2
        generalize x0.n = nn at hn1 hn2 q1
        generalize x0.kind = kk at q0
        generalize x0.data = dd at q3 HSD
        generalize x0.a = xa at q3 HSD
        generalize x0.cap = xc at q3
        clear x0
        have hbw := HB.out.size
        have HPA := fun W (hb : Below wr.heap.size wr W) => Lib.hid (HP0.out.below hb)
        have k0 : (0 : Int) ≤ (k : Int) := Int.natCast_nonneg _
        have k1 : (k : Int) < (l.length : Int) := by omega
        by_cases hd100 : dd.length ≤ 100
        · have t2 : decide ((100 : Int) < (dd.length : Int)) = false := by simp; omega
          by_cases z0 : kk = 0
          · subst z0
            by_cases hin : 0 ≤ nn ∧ nn ≤ 32
            · obtain ⟨n, rfl⟩ := Int.eq_ofNat_of_zero_le hin.1
              have hn32 : n ≤ 32 := by omega
              have u1 : decide ((0 : Int) ≤ (n : Int)) = true := by simp
              have u2 : decide ((n : Int) ≤ 32) = true := by simp; omega
              go_wp2_with fail
              refine (put_yes w.heap.size p o x r all.length vv n _ (HPA _ ((Below.refl _ _).alloc (Nat.le_refl _) _)).out.wr hr (by simp; omega) hv hn32 (by omega) (by omega)).mono ?_
              rintro e w3 ⟨o', x', r', rfl, hbits', hr', hw', ho', hfr⟩
              have hP3 := (HPA _ ((Below.refl _ _).alloc (Nat.le_refl _) _)).out.put hw' hr' ho' hfr
              have hW := (Whole.new wr 34 _).fr hfr (HP0.out.new (Nat.le_refl _))
              have d1 := hW.cell 1
              have d2 := hW.cell 2
              simp at d1 d2
              have HB3 := Lib.hid ((HB.out.alloc hbw _).trans (hfr.below (B := w.heap.size) (by simp; omega) (fun y hy => HP0.out.far hy)))
              have hs3 := HB3.out.size
              have RP := Lib.hid (refPut_any all A c w3.heap.size vv n w3 (by omega) (by omega) hv (Sl.of_own hP3.ownA) (Nat.le_refl _))
              have HP3 := Lib.hid hP3
              have HBITS := Lib.hid hbits'
              clear hP3 hbits' hw' ho' hfr hW HB
              go_wp2_with fail
              refine RP.out.mono ?_
              rintro e w4 ⟨A4, c4, rfl, hown4, hb4⟩
              rw [len_boolsV] at hown4 ⊢
              have HP := Lib.hid (show PM w4 w.heap.size p o' x' r' (all ++ Bit.bitsN (n : Int).toNat vv).length (.slice A4 (all ++ Bit.bitsN (n : Int).toNat vv).length c4) (all ++ Bit.bitsN (n : Int).toNat vv) (.slice Ao out.length co) out by
                have h := HP3.out.bits hb4 hown4
                rw [show (all ++ Bit.bitsN (n : Int).toNat vv).length = all.length + n by rw [List.length_append, Bit.length_bitsN]; simp] at h ⊢
                exact h)
              have HB := Lib.hid (HB3.out.trans (hb4.mono hs3))
              have HBI := Lib.hid (show Bit.ofBytes (out ++ x') ++ r' = all ++ Bit.bitsN (n : Int).toNat vv by
                rw [← HBI.out, Bit.ofBytes_append', Bit.ofBytes_append', List.append_assoc, HBITS.out]
                simp)
              have hal : (all ++ Bit.bitsN (n : Int).toNat vv).length ≤ 1000 * (k + 1) := by rw [List.length_append, Bit.length_bitsN]; simp; omega
              clear hown4 hb4 HP3 HB3 HBITS RP
              generalize all ++ Bit.bitsN (n : Int).toNat vv = all2 at HP HBI hal ⊢

              go_wp2_with fail
              refine (len_any w.heap.size _ _ _ _ _ _ HP.out.wr).mono ?_
              rintro e w9 ⟨rfl, rfl⟩
              go_wp2_with fail
              go_roundw
              case rel => exact ⟨k + 1, _, _, _, _, _, _, by omega, by go_num, rfl, HP.out, HBI.out, hal, HB.out⟩
              case measure => simp [intOf]; omega
            · generalize dd.length = xl at q3 t2
              have PN := Lib.hid (fun W => put_no ⟨p, 0, none⟩ vv nn W (by omega))
              obtain ⟨b1, u1⟩ : ∃ d, decide ((0 : Int) ≤ nn) = d := ⟨_, rfl⟩
              obtain ⟨b2, u2⟩ : ∃ d, decide (nn ≤ (32 : Int)) = d := ⟨_, rfl⟩
              have hd : b1 = false ∨ b2 = false := by rw [← u1, ← u2]; simp; omega
              clear hin
              have HP := HPA _ ((Below.refl _ _).alloc (Nat.le_refl _) (.cells #[.int .i64 0, .int .i64 nn, .int .u32 (vv : Int), .slice xa xl xc] 34))
              have HB := Lib.hid (HB.out.alloc hbw (.cells #[.int .i64 0, .int .i64 nn, .int .u32 (vv : Int), .slice xa xl xc] 34))
              have hal : all.length ≤ 1000 * (k + 1) := by omega
              cases b1 <;> cases b2 <;> first | (simp at hd; done) | (
                clear hd
                go_wp2_with fail
                refine (PN.out _).mono ?_
                rintro e w3 ⟨rfl, rfl⟩
                go_wp2_with fail
                refine (len_any w.heap.size _ _ _ _ _ _ HP.out.wr).mono ?_
                rintro e w9 ⟨rfl, rfl⟩
                go_wp2_with fail
                go_roundw
                case rel => exact ⟨k + 1, _, _, _, _, _, _, by omega, by go_num, rfl, HP.out, HBI.out, hal, HB.out⟩
                case measure => simp [intOf]; omega)
          have f0 : (kk == 0) = false := by simpa using z0
          by_cases z1 : kk = 1
          · subst z1
            go_wp2_with fail
            refine (refAlign_any all A c wr.heap.size _ (by omega) (Sl.alloc (Sl.of_own HP0.out.ownA) (Nat.le_refl _) _) (by simp)).mono ?_
            rintro e w3 ⟨A3, c3, rfl, hown3, hb3⟩
            rw [len_boolsV] at hown3 ⊢
            have HP3 := Lib.hid ((HPA _ ((Below.refl _ _).alloc (Nat.le_refl _) _)).out.bits hb3 hown3)
            have HB3 := Lib.hid ((HB.out.alloc hbw _).trans (hb3.mono (by simp; omega)))
            have hs3 := HB3.out.size
            have AL := Lib.hid (align_any w.heap.size p o x r all.length w3 HP3.out.wr hr hs3 (by omega) (by omega))
            have e1 : IntKind.i64.wrap (((padded all).length : Int) - (all.length : Int)) = (((8 - r.length) % 8 : Nat) : Int) := by
              have h := congrArg List.length HBI.out
              rw [List.length_append, Bit.length_ofBytes'] at h
              rw [padded_len, IntWalk.i64_in _ (by omega)]; omega
            have e2 : ((padded all).length : Int) - (all.length : Int) = (((8 - r.length) % 8 : Nat) : Int) := by
              have h := congrArg List.length HBI.out
              rw [List.length_append, Bit.length_ofBytes'] at h
              rw [padded_len]; omega
            have hpl : (padded all).length ≤ all.length + 7 := by rw [padded_len]; omega
            have HL := Lib.hid (show all.length + (8 - r.length) % 8 = (padded all).length by omega)
            have HE := Lib.hid (padded_eq all (out ++ x) r HBI.out hr)
            clear hown3 hb3 HB
            generalize hpq : padded all = all2 at HP3 e1 e2 hpl HL HE ⊢
            clear hpq
            generalize hm : (8 - r.length) % 8 = m at e1 e2 HL
            have HM := Lib.hid hm
            clear hm
            go_wp2_with fail
            refine AL.out.mono ?_
            rintro e w4 ⟨o', x', rfl, hbits', hw', ho', hfr⟩
            have HP := Lib.hid (show PM w4 w.heap.size p o' x' [] all2.length (.slice A3 all2.length c3) all2 (.slice Ao out.length co) out by
              have h := HP3.out.put hw' (by simp) ho' hfr
              rw [HM.out, HL.out] at h; exact h)
            have HB := Lib.hid (HB3.out.trans (hfr.below hs3 (fun y hy => HP3.out.far hy)))
            have HBI := Lib.hid (show Bit.ofBytes (out ++ x') ++ [] = all2 by
              rw [HE.out, Bit.ofBytes_append', Bit.ofBytes_append', hbits', List.append_nil, List.append_assoc])
            have hal : all2.length ≤ 1000 * (k + 1) := by omega
            rw [HM.out]
            clear hbits' hw' ho' hfr AL HP3 HB3 HE

            go_wp2_with fail
            refine (len_any w.heap.size _ _ _ _ _ _ HP.out.wr).mono ?_
            rintro e w9 ⟨rfl, rfl⟩
            go_wp2_with fail
            go_roundw
            case rel => exact ⟨k + 1, _, _, _, _, _, _, by omega, by go_num, rfl, HP.out, HBI.out, hal, HB.out⟩
            case measure => simp [intOf]; omega
          have f1 : (kk == 1) = false := by simpa using z1
          by_cases z2 : kk = 2
          · subst z2
            go_wp2_with fail
            refine (bytes_any w.heap.size p o x r all.length dd xa xc w.heap.size _ (HPA _ ((Below.refl _ _).alloc (Nat.le_refl _) _)).out.wr hr (by simp; omega) (by omega) (by omega) (by omega) (HSD.out.below (HB.out.alloc hbw _) (Nat.le_refl _)) (Nat.le_refl _) HP0.out.bp).mono ?_
            rintro e w3 ⟨o', x', rfl, hbits', hw', ho', hfr⟩
            have hP3 := (HPA _ ((Below.refl _ _).alloc (Nat.le_refl _) _)).out.put hw' (by simp) ho' hfr
            have hW := (Whole.new wr 34 _).fr hfr (HP0.out.new (Nat.le_refl _))
            have d3 := hW.cell 3
            simp at d3
            have hwl := hW.lt
            have HB3 := Lib.hid ((HB.out.alloc hbw _).trans (hfr.below (B := w.heap.size) (by simp; omega) (fun y hy => HP0.out.far hy)))
            have hs3 := HB3.out.size
            have AL := fun W (hb : Below w3.heap.size w3 W) => Lib.hid (refAlign_any all A c w3.heap.size W (by omega) ((Sl.of_own hP3.ownA).below hb (Nat.le_refl _)) hb.size)
            have BI := fun W (hb : Below w3.heap.size w3 W) => Lib.hid (refBits_any dd xa xc w.heap.size W (by omega) (HSD.out.below (HB3.out.trans (hb.mono hs3)) (Nat.le_refl _)) (Nat.le_trans hs3 hb.size))
            have KC : ∀ W, Below w3.heap.size w3 W → W.cell? ⟨wr.heap.size, 3, none⟩ = some (.slice xa dd.length xc) := fun W hb => (hb.cell (p := ⟨wr.heap.size, 3, none⟩) hwl).trans d3
            have KC := Lib.hid KC
            have HP3 := Lib.hid hP3
            have HBITS := Lib.hid hbits'
            have hpl : (padded all).length ≤ all.length + 7 := by rw [padded_len]; omega
            have hob : (Bit.ofBytes dd).length ≤ 800 := by rw [Bit.length_ofBytes']; omega
            have HE := Lib.hid (padded_eq all (out ++ x) r HBI.out hr)
            have HLN := Lib.hid (show all.length + (8 - r.length) % 8 + 8 * dd.length = (padded all ++ Bit.ofBytes dd).length by
              have h := congrArg List.length HBI.out
              rw [List.length_append, Bit.length_ofBytes'] at h
              rw [List.length_append, padded_len, Bit.length_ofBytes']; omega)
            have B1 := Lib.hid (show Below w3.heap.size w3 w3.drew from below_drewN (Below.refl w3.heap.size w3) 1)
            clear hP3 hbits' hw' ho' hfr hW HB
            generalize padded all = pa at AL hpl HE HLN
            generalize Bit.ofBytes dd = pb at BI hob HLN HBITS
            obtain ⟨j0, hj0, hy0, hy1, hy2⟩ := info_parts boolInfo
            have Hj0 := Lib.hid hj0
            have Hy0 := Lib.hid hy0
            have Hy1 := Lib.hid hy1
            have Hy2 := Lib.hid hy2
            clear hj0 hy0 hy1 hy2
            go_wp2_with fail
            go_region_law ((first
              | ((refine step_append_sl (by rfl) _ _ _ (by rfl) w3.heap.size 4 j0 _ 1 Try.underlying31 Hj0.out Hy0.out Hy1.out Hy2.out rfl _ pa.length (boolsV pa) (by rfl) HOA.out _ _ pb.length _ (boolsV pb) (len_boolsV pb) (by rfl) HSB.out (bools_oneCell _) (by unfold maxLen; omega) (by omega) BX.out.size ?_; intro v5 w5 hown5 hgrow5 hat5))
              | (go_simp; first
                | ((go_at_call 13; (with_reducible refine (AL _ (by first | exact B1.out | exact BX.out)).out.mono ?_); rintro e wA ⟨A4, c4, rfl, hown4, hb4⟩; rw [len_boolsV] at hown4 ⊢; (try have HSB := Lib.hid (HSB.out.below hb4 (Nat.le_refl _))); have BX := Lib.hid ((show Below w3.heap.size w3 _ from (by first | exact BX.out | exact B1.out)).trans (hb4.mono (by first | exact BX.out.size | exact B1.out.size))); have HOA := Lib.hid (own_base hown4 (by first | exact BX.out.size | exact B1.out.size)); have kc := KC.out _ BX.out))
                | ((go_at_call 16; (with_reducible refine (BI _ (by first | exact B1.out | exact BX.out)).out.mono ?_); rintro e wB ⟨A5, c5, rfl, hown5, hb5⟩; rw [len_boolsV] at hown5 ⊢; (try have HOA := Lib.hid (own_fr HOA.out (Fr.of_below hb5 (fun _ => False)) (fun _ _ => id))); have BX := Lib.hid ((show Below w3.heap.size w3 _ from (by first | exact BX.out | exact B1.out)).trans (hb5.mono (by first | exact BX.out.size | exact B1.out.size))); have HSB := Lib.hid (Sl.of_own hown5))))))
            all_goals
              obtain ⟨all2, hall2⟩ : ∃ a2, a2 = pa ++ pb := ⟨_, rfl⟩
              have hl2 : pa.length + pb.length = all2.length := by rw [hall2, List.length_append]
              rw [hl2] at hown5
              rw [← bools_append, ← hall2] at hown5
              obtain ⟨A6, c6, rfl⟩ := own_form hown5
              have hb6 : Below w3.heap.size w3 w5 := own_below HOA.out hgrow5 (Nat.le_refl _) BX.out.size BX.out
              have HP := Lib.hid (show PM w5 w.heap.size p o' x' [] all2.length (.slice A6 all2.length c6) all2 (.slice Ao out.length co) out by
                have h := HP3.out.bits hb6 hown5
                rw [HLN.out, ← hall2] at h; exact h)
              have HB := Lib.hid (HB3.out.trans (hb6.mono hs3))
              have HBI := Lib.hid (show Bit.ofBytes (out ++ x') ++ [] = all2 by
                rw [hall2, HE.out, Bit.ofBytes_append', Bit.ofBytes_append', HBITS.out, List.append_nil]
                simp only [List.append_assoc])
              have hal : all2.length ≤ 1000 * (k + 1) := by omega
              clear hall2 hl2 hown5 hgrow5 hat5 hb6 HOA HSB BX AL BI KC HP3 HB3 HBITS HE HLN
              go_wp2_with fail
              refine (len_any w.heap.size _ _ _ _ _ _ HP.out.wr).mono ?_
              rintro e w9 ⟨rfl, rfl⟩
              go_wp2_with fail
              go_roundw
              case rel => exact ⟨k + 1, _, _, _, _, _, _, by omega, by go_num, rfl, HP.out, HBI.out, hal, HB.out⟩
              case measure => simp [intOf]; omega
          have f2 : (kk == 2) = false := by simpa using z2
          by_cases z3 : kk = 3
          · subst z3
            obtain ⟨Ax, cx, rfl⟩ := own_form HP0.out.wr.own
            go_wp2_with fail
            refine (take_any w.heap.size p _ x r all.length _ (HPA _ ((Below.refl _ _).alloc (Nat.le_refl _) _)).out.wr).mono ?_
            rintro e w3 ⟨rfl, hw', hown3, hfr⟩
            have HP3 := Lib.hid ((HPA _ ((Below.refl _ _).alloc (Nat.le_refl _) _)).out.put hw' hr (.inr (by simp [Value.ownBlock])) (hfr.mono (fun _ _ h => .inl h)))
            have HB3 := Lib.hid ((HB.out.alloc hbw _).trans (hfr.below (B := w.heap.size) (by simp; omega) (fun y hy hh => HP0.out.far hy (.inl hh))))
            have HX := Lib.hid (Sl.of_own hown3)
            clear hw' hown3 hfr HB
            go_wp2_with (at_builtin; refine wpList_append_sl _ rfl _ _ _ rfl w.heap.size 5 i0 _ 1 Try.underlying32 Hi0.out Hz0.out Hz1.out Hz2.out rfl _ out.length (bytesV out) rfl HP3.out.ownO w3.heap.size Ax x.length cx (bytesV x) (len_bytesV x) rfl HX.out (bytes_oneCell x) (by unfold maxLen; omega) (by omega) HB3.out.size ?_; intro v4 w4 hown4 hgrow4 hat4; have hP4 := HP3.out.tookApp hgrow4 hown4 hat4; have HB4 := Lib.hid (own_below HP3.out.ownO hgrow4 (Nat.le_refl _) HB3.out.size HB3.out); (obtain ⟨out2, hout2⟩ : ∃ a2, a2 = out ++ x := ⟨_, rfl⟩); have hl2 : out.length + x.length = out2.length := (by rw [hout2, List.length_append]); rw [hl2] at hown4; rw [← hout2] at hP4; obtain ⟨A4, c4, rfl⟩ := own_form hown4; have HP4 := Lib.hid hP4; have HO2 := Lib.hid hout2; clear hout2 hown4 hgrow4 hat4 hP4)
            have hs4 := HB4.out.size
            have HWT := Lib.hid (show Bit.pack (all.take (all.length / 8 * 8)) = out2 by rw [← whole_take all (out ++ x) r HBI.out hr, ← HO2.out, Bit.pack_ofBytes])
            obtain ⟨q, hq⟩ : ∃ q, q = all.length / 8 := ⟨_, rfl⟩
            have e1 : (all.length : Int).tdiv 8 = (q : Int) := by rw [Int.tdiv_eq_ediv_of_nonneg (Int.natCast_nonneg _)]; omega
            have e2 : (all.length : Int) / 8 = (q : Int) := by omega
            have hq8 : q * 8 ≤ all.length := by omega
            rw [← hq] at HWT
            clear hq
            obtain ⟨m, hm⟩ : ∃ m, m = q * 8 := ⟨_, rfl⟩
            have e3 : IntKind.i64.wrap ((q : Int) * 8) = (m : Int) := by rw [IntWalk.i64_in _ (by omega)]; omega
            have e4 : (q : Int) * 8 = (m : Int) := by omega
            have e5 : IntKind.i64.wrap (q : Int) = (q : Int) := IntWalk.i64_in _ (by omega)
            have e6 : IntKind.i64.wrap (m : Int) = (m : Int) := IntWalk.i64_in _ (by omega)
            have g1 : (0 : Int) ≤ (m : Int) := Int.natCast_nonneg _
            rw [← hm] at HWT hq8
            clear hm
            have hac := own_cap HP4.out.ownA
            have g2 : (m : Int) ≤ (c : Int) := by omega
            obtain ⟨j0, hj0, hy0, hy1, hy2⟩ := info_parts boolInfo
            have hsl := run_slice_to Try.underlying31 hj0 A all.length c m (by omega)
            clear hj0 hy0 hy1 hy2
            have PK := fun W (hb : Below w4.heap.size w4 W) => Lib.hid (show Calls Try.prog 18 #[.slice A m c] W (Gives 5 (bytesV out2) W) by
              have h := pack_any (all.take m) A c w4.heap.size W (by rw [List.length_take]; omega) (by rw [List.length_take]; omega) (by
                have h1 := ((Sl.of_own HP4.out.ownA).below hb (Nat.le_refl _)).take m
                simpa [boolsV, List.map_take] using h1) hb.size
              rw [HWT.out, List.length_take, Nat.min_eq_left hq8] at h
              exact h)
            have S1 := Lib.hid (fun W (hb : Below w4.heap.size w4 W) => run_str (P := Try.prog) W w4.heap.size 32 9 5 A4 out2 c4 Try.underlying32 Try.underlying5 Try.underlying9 ((Sl.of_own HP4.out.ownO).below hb (Nat.le_refl _)))
            have B1 := Lib.hid (show Below w4.heap.size w4 w4.drew from below_drewN (Below.refl w4.heap.size w4) 1)
            have r0 := S1.out _ B1.out
            have hal : all.length ≤ 1000 * (k + 1) := by omega
            go_region_law ((go_simp; first | ((go_at_call 18; (with_reducible refine (PK _ B1.out).out.mono ?_); rintro e wP ⟨A5, c5, rfl, hown5, hb5⟩; have BP := Lib.hid (B1.out.trans (hb5.mono B1.out.size)); have r1 := S1.out _ BP.out; have r2 := run_str (P := Try.prog) wP wP.heap.size 32 9 5 A5 out2 c5 Try.underlying32 Try.underlying5 Try.underlying9 (Sl.of_own hown5); rw [len_bytesV]))))
            all_goals
              have HP := Lib.hid (HP4.out.below BP.out)
              have HB := Lib.hid (HB4.out.trans (BP.out.mono hs4))
              have HBI := Lib.hid (show Bit.ofBytes (out2 ++ []) ++ r = all by rw [List.append_nil, HO2.out, HBI.out])
              clear r1 r2 r0 hown5 hb5 PK S1 BP HP4 HB4
              go_wp2_with fail
              refine (len_any w.heap.size _ _ _ _ _ _ HP.out.wr).mono ?_
              rintro e w9 ⟨rfl, rfl⟩
              go_wp2_with fail
              go_roundw
              case rel => exact ⟨k + 1, _, _, _, _, _, _, by omega, by go_num, rfl, HP.out, HBI.out, hal, HB.out⟩
              case measure => simp [intOf]; omega
          have f3 : (kk == 3) = false := by simpa using z3
          by_cases z4 : kk = 4
          · subst z4
            go_wp2_with fail
            refine (wrClone_any w.heap.size p o x r all.length _ (HPA _ ((Below.refl _ _).alloc (Nat.le_refl _) _)).out.wr (by simp; omega) (by omega)).mono ?_
            rintro e w3 ⟨p', o', rfl, hw3, hp3, ho3, hb3⟩
            have HC := Lib.hid (fun W hf => (HPA _ ((Below.refl _ _).alloc (Nat.le_refl _) _)).out.clone (w2 := W) hb3 hw3 hp3 ho3 hf)
            have HB3 := Lib.hid ((HB.out.alloc hbw _).trans (hb3.mono (by simp; omega)))
            have hs3 := HB3.out.size
            have PY := Lib.hid (put_yes w.heap.size p o x r all.length 255 9 w3 ((HPA _ ((Below.refl _ _).alloc (Nat.le_refl _) _)).out.below hb3).wr hr hs3 (by decide) (by decide) (by omega) (by omega))
            clear hw3 hp3 ho3 hb3 HB
            go_wp2_with fail
            refine PY.out.mono ?_
            rintro e w4 ⟨o4, x4, r4, rfl, -, -, -, -, hfr⟩
            have HP := Lib.hid (HC.out w4 hfr)
            have HB := Lib.hid (HB3.out.trans (hfr.below hs3 (fun y hy => HP0.out.far hy)))
            have hal : all.length ≤ 1000 * (k + 1) := by omega
            clear hfr HC PY HB3

            go_wp2_with fail
            refine (len_any w.heap.size _ _ _ _ _ _ HP.out.wr).mono ?_
            rintro e w9 ⟨rfl, rfl⟩
            go_wp2_with fail
            go_roundw
            case rel => exact ⟨k + 1, _, _, _, _, _, _, by omega, by go_num, rfl, HP.out, HBI.out, hal, HB.out⟩
            case measure => simp [intOf]; omega
          have f4 : (kk == 4) = false := by simpa using z4
          clear z0 z1 z2 z3 z4
          have HP := HPA _ ((Below.refl _ _).alloc (Nat.le_refl _) (.cells #[.int .i64 kk, .int .i64 nn, .int .u32 (vv : Int), .slice xa dd.length xc] 34))
          have HB := Lib.hid (HB.out.alloc hbw (.cells #[.int .i64 kk, .int .i64 nn, .int .u32 (vv : Int), .slice xa dd.length xc] 34))
          have hal : all.length ≤ 1000 * (k + 1) := by omega

          go_wp2_with fail
          refine (len_any w.heap.size _ _ _ _ _ _ HP.out.wr).mono ?_
          rintro e w9 ⟨rfl, rfl⟩
          go_wp2_with fail
          go_roundw
          case rel => exact ⟨k + 1, _, _, _, _, _, _, by omega, by go_num, rfl, HP.out, HBI.out, hal, HB.out⟩
          case measure => simp [intOf]; omega
        · have t2 : decide ((100 : Int) < (dd.length : Int)) = true := by simp; omega
          go_wp2_with fail
          go_ret
          exact ⟨rfl, HB.out.alloc hbw _⟩
      · obtain rfl : k = l.length := by omega
        have hbw := HB.out.size
        go_wp2_with fail
        refine (finish_any w.heap.size p o x r all.length _ HP0.out.wr hr hbw (by omega) (by omega)).mono ?_
        rintro e w3 ⟨o', x', rfl, hbits', hw', hown3, ho', hfr⟩
        obtain ⟨Ax, cx, rfl⟩ := own_form hown3
        have HP3 := Lib.hid (HP0.out.put hw' (by simp) (.inr (by simp [Value.ownBlock])) hfr)
        have HB3 := Lib.hid (HB.out.trans (hfr.below hbw (fun y hy => HP0.out.far hy)))
        have HX := Lib.hid (Sl.of_own hown3)
        have HBITS := Lib.hid hbits'
        have hx1 : x'.length ≤ x.length + 1 := by
          have h := congrArg List.length hbits'
          simp only [List.length_append, Bit.length_ofBytes', Bit.length_bitsN] at h
          omega
        clear hbits' hw' hown3 ho' hfr HB
        go_wp2_with (at_builtin; refine wpList_append_sl _ rfl _ _ _ rfl w.heap.size 5 i0 _ 1 Try.underlying32 Hi0.out Hz0.out Hz1.out Hz2.out rfl _ out.length (bytesV out) rfl HP3.out.ownO w3.heap.size Ax x'.length cx (bytesV x') (len_bytesV x') rfl HX.out (bytes_oneCell x') (by unfold maxLen; omega) (by omega) HB3.out.size ?_; intro v4 w4 hown4 hgrow4 hat4; have hP4 := HP3.out.tookApp hgrow4 hown4 hat4; have HB4 := Lib.hid (own_below HP3.out.ownO hgrow4 (Nat.le_refl _) HB3.out.size HB3.out); (obtain ⟨out2, hout2⟩ : ∃ a2, a2 = out ++ x' := ⟨_, rfl⟩); have hl2 : out.length + x'.length = out2.length := (by rw [hout2, List.length_append]); rw [hl2] at hown4; rw [← hout2] at hP4; obtain ⟨A4, c4, rfl⟩ := own_form hown4; have HP4 := Lib.hid hP4; have HO2 := Lib.hid hout2; clear hout2 hown4 hgrow4 hat4 hP4)
        have hs4 := HB4.out.size
        have HWT := Lib.hid (show Bit.pack all = out2 by
          have h1 : padded all = Bit.ofBytes (out ++ x') := by rw [padded_eq all (out ++ x) r HBI.out hr, Bit.ofBytes_append' out x, Bit.ofBytes_append' out x', HBITS.out, List.append_assoc]
          rw [← Bit.pack_padded, h1, Bit.pack_ofBytes, HO2.out])
        have hac := own_cap HP4.out.ownA
        have PK := fun W (hb : Below w4.heap.size w4 W) => Lib.hid (show Calls Try.prog 18 #[.slice A all.length c] W (Gives 5 (bytesV out2) W) by
          have h := pack_any all A c w4.heap.size W (by omega) hac ((Sl.of_own HP4.out.ownA).below hb (Nat.le_refl _)) hb.size
          rw [HWT.out] at h
          exact h)
        have S1 := Lib.hid (fun W (hb : Below w4.heap.size w4 W) => run_str (P := Try.prog) W w4.heap.size 32 9 5 A4 out2 c4 Try.underlying32 Try.underlying5 Try.underlying9 ((Sl.of_own HP4.out.ownO).below hb (Nat.le_refl _)))
        have B1 := Lib.hid (show Below w4.heap.size w4 w4.drew from below_drewN (Below.refl w4.heap.size w4) 1)
        have r0 := S1.out _ B1.out
        have TK := fun W (hb : Below w4.heap.size w4 W) => Lib.hid (take_any w.heap.size p _ _ _ _ W (HP4.out.below hb).wr)
        go_region_law ((go_simp; first | ((go_at_call 18; (with_reducible refine (PK _ B1.out).out.mono ?_); rintro e wP ⟨A5, c5, rfl, hown5, hb5⟩; have BP := Lib.hid (B1.out.trans (hb5.mono B1.out.size)); have r1 := S1.out _ BP.out; have r2 := run_str (P := Try.prog) wP wP.heap.size 32 9 5 A5 out2 c5 Try.underlying32 Try.underlying5 Try.underlying9 (Sl.of_own hown5); rw [len_bytesV])) | ((go_at_call 17; (with_reducible refine (TK _ BP.out).out.mono ?_); rintro e wT ⟨rfl, -, -, hfrT⟩))))
        all_goals
          go_wp2_with fail
          go_ret
          exact ⟨rfl, (HB4.out.trans (BP.out.mono hs4)).trans (hfrT.below (Nat.le_trans hs4 BP.out.size) (fun y hy hh => HP4.out.far hy (.inl hh)))⟩
  · have t1 : decide ((60 : Int) < (l.length : Int)) = true := by simp; omega
    go_enter Try.func4, Try.ntmps4
    go_wp2_with fail
    refine (awake6_any w).mono ?_
    rintro e w1 ⟨rfl, hb1⟩
    have HB1 := Lib.hid hb1
    clear hb1
    go_wp2_with fail
    go_ret
    exact ⟨rfl, HB1.out⟩
end Go.Proofs.Ytpfihombncnmhaa
