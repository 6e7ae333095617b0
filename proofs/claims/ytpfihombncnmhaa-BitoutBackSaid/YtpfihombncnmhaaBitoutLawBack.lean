/-
  The law BitoutBack returns true: walk.
-/
import Derived.Test.YtpfihombncnmhaaOps
import Derived.Test.YtpfihombncnmhaaPieces
import Derived.Test.YtpfihombncnmhaaBitoutLawReverse
namespace Go.Proofs.Ytpfihombncnmhaa
open Go.RowKit

set_option maxRecDepth 100000 in
set_option maxHeartbeats 2000000 in
theorem bitoutBack_walk (a : Option Addr) (l : List OpV) (cap : Nat) (w : World) (hl : l.length ≤ maxLen) (_hlc : l.length ≤ cap) (hok : ∀ o ∈ l, o.ok w) (hsl : Sl w w.heap.size a (l.flatMap OpV.cells)) :
    Calls Try.prog 5 #[.slice a l.length cap] w fun e w' => e = .returned (.bool true) ∧ Below w.heap.size w w' := by
  unfold maxLen at hl
  have HS := Lib.hid hsl
  have HK := Lib.hid hok
  clear hsl hok
  by_cases few : l.length ≤ 100
  · have t1 : decide ((100 : Int) < (l.length : Int)) = false := by simp; omega
    go_enter Try.func5, Try.ntmps5
    go_wp2_with fail
    refine (awake6_any w).mono ?_
    rintro e w1 ⟨rfl, hb1⟩
    have HB1 := Lib.hid hb1
    have hs1 := hb1.size
    clear hb1
    go_wp2_with fail
    refine (bitoutNew_any w.heap.size w1 hs1).mono ?_
    rintro e w2 ⟨rfl, hw2, hb2⟩
    have HB2 := Lib.hid (HB1.out.trans (hb2.mono hs1))
    have HW := Lib.hid hw2
    clear hw2 hb2
    go_wp2_with fail
    go_loopw [4] (fun i wr => ∃ (k : Nat) (o : Value) (out : List UInt8) (r : List Bool) (len : Nat), k ≤ l.length ∧ i = .int .i64 k ∧ Bit.ofBytes out ++ r = opsBits (l.take k) ∧ r.length < 8 ∧ WrS wr w.heap.size w1.heap.size o out r len ∧ len ≤ 32 * k ∧ Below w.heap.size w wr) (fun i _ => l.length - (intOf i).toNat)
    case atStart => exact ⟨0, _, [], [], 0, Nat.zero_le _, rfl, rfl, by simp, HW.out, by simp, HB2.out⟩
    case round =>
      obtain ⟨k, o, out, r, len, hk, rfl, hbits, hr, hwr, hlen, hbel⟩ := hrel
      have hol : out.length ≤ 400 := by
        have h1 := congrArg List.length hbits
        have h2 := opsBits_len (l.take k)
        rw [List.length_append, Bit.length_ofBytes'] at h1
        rw [List.length_take] at h2
        omega
      have hBw := hbel.size
      have HB := Lib.hid hbel
      have HW := Lib.hid hwr
      have HBI := Lib.hid hbits
      clear hbel hwr hbits
      by_cases hlt : k < l.length
      · obtain ⟨x, hx⟩ : ∃ x, l[k]? = some x := ⟨_, List.getElem?_eq_getElem hlt⟩
        obtain ⟨b, off, rfl, hbB, x0, x1, x2, x3⟩ := ops_at (HS.out.below HB.out (Nat.le_refl _)) hx
        have hxo := HK.out x (List.mem_of_getElem? hx)
        have HX := Lib.hid hx
        have hv := hxo.v1
        have hn1 := hxo.n1
        have hn2 := hxo.n2
        clear hx hxo
        generalize hvv : x.v = vv at hv x2
        generalize hnn : x.n = nn at hn1 hn2 x1
        have HBX := Lib.hid (show x.bits = if 0 ≤ nn ∧ nn ≤ 32 then Bit.bitsN nn.toNat vv else [] by unfold OpV.bits; rw [hvv, hnn])
        clear hvv hnn
        by_cases hin : 0 ≤ nn ∧ nn ≤ 32
        · obtain ⟨n, rfl⟩ := Int.eq_ofNat_of_zero_le hin.1
          have hn32 : n ≤ 32 := by omega
          have PY := Lib.hid (put_yes w.heap.size w1.heap.size o out r len vv n (wr.drewN 1) ⟨HW.out.cells.drewN 1, HW.out.own, HW.out.apart⟩ hr (by exact hBw) hv hn32 (by omega) (by omega))
          go_wp2_with fail
          go_still_tail 11, (by kernel_rfl)
          go_wp2_with fail
          refine PY.out.mono ?_
          rintro e w3 ⟨o', out', r', rfl, hbits', hr', hw', ho', hfr⟩
          have HW' := Lib.hid hw'
          have HBITS := Lib.hid (show Bit.ofBytes out' ++ r' = opsBits (l.take (k + 1)) by
            rw [opsBits_take HX.out, ← HBI.out, HBX.out, if_pos hin, hbits', List.append_assoc]
            simp)
          have HB' := Lib.hid ((below_drewN HB.out 1).trans (hfr.below hBw fun x hx hh => by
            rcases hh with hh | hh
            · omega
            · have := HW.out.own.lt x hh.symm
              omega))
          clear hbits' hw' ho' hfr PY
          go_wp2_with fail
          go_roundw
          case rel => exact ⟨k + 1, o', out', r', len + n, by omega, by go_num, HBITS.out, hr', HW'.out, by omega, HB'.out⟩
          case measure => simp [intOf]; omega
        · have PN := Lib.hid (put_no ⟨w1.heap.size, 0, none⟩ vv nn (wr.drewN 1) (by omega))
          go_wp2_with fail
          go_still_tail 11, (by kernel_rfl)
          go_wp2_with fail
          refine PN.out.mono ?_
          rintro e w3 ⟨rfl, rfl⟩
          have HBITS := Lib.hid (show Bit.ofBytes out ++ r = opsBits (l.take (k + 1)) by
            rw [opsBits_take HX.out, ← HBI.out, HBX.out, if_neg hin, List.append_nil])
          go_wp2_with fail
          go_roundw
          case rel => exact ⟨k + 1, o, out, r, len, by omega, by go_num, HBITS.out, hr, ⟨HW.out.cells.drewN 1, HW.out.own, HW.out.apart⟩, by omega, below_drewN HB.out 1⟩
          case measure => simp [intOf]; omega
      · obtain rfl : k = l.length := by omega
        obtain ⟨wo, hwo⟩ : ∃ W, W = wr := ⟨_, rfl⟩
        subst hwo
        have hw1 := HW.out.cells.lt
        go_wp2_with fail
        refine (bitinNew_any w.heap.size wo hBw).mono ?_
        rintro e w3 ⟨rfl, hrd, hb3⟩
        have HR := Lib.hid hrd
        have HB3 := Lib.hid hb3
        have hs3 := hb3.size
        have hW3 : WrS w3 w.heap.size w1.heap.size o out r len := ⟨HW.out.cells.fr (Fr.of_below hb3 (fun _ => False)) id, own_fr HW.out.own (Fr.of_below hb3 (fun _ => False)) (fun _ _ => id), HW.out.apart⟩
        have FN := Lib.hid (finish_any w.heap.size w1.heap.size o out r len w3 hW3 hr (by omega) (by omega) (by omega))
        clear hrd hb3 hW3
        go_wp2_with fail
        refine FN.out.mono ?_
        rintro e w4 ⟨o4, out4, rfl, hbits4, hw4, hown4, ho4, hfr4⟩
        obtain ⟨A4, c4, rfl⟩ := own_form hown4
        have hout4 : out4.length ≤ 500 := by
          have h1 := congrArg List.length hbits4
          simp only [List.length_append, Bit.length_ofBytes', Bit.length_bitsN] at h1
          omega
        have hR4 : RdS w4 w.heap.size wo.heap.size (.slice none 0 0) [] 0 0 := HR.out.fr hfr4 (fun hh => by
          rcases hh with hh | hh
          · omega
          · have := (HW.out.own.lt _ hh.symm).2; omega) (fun g hg => by simp [Value.ownBlock] at hg)
        have HB4 := Lib.hid ((HB.out.trans (HB3.out.mono hBw)).trans (hfr4.below (by omega) fun x hx hh => by
            rcases hh with hh | hh
            · omega
            · have := HW.out.own.lt x hh.symm
              omega))
        have hlt4 := hR4.cells.lt
        have FD := Lib.hid (feed_plain w.heap.size wo.heap.size (.slice none 0 0) [] 0 0 out4 A4 c4 w4.heap.size w4 hR4 (by simp) (by omega) (by omega) (Sl.of_own hown4) (.inl rfl))
        have HBITS4 := Lib.hid (show Bit.ofBytes out4 = opsBits l ++ Bit.bitsN ((8 - r.length) % 8) 0 by
          rw [hbits4, ← List.append_assoc, HBI.out, List.take_length])
        clear hbits4 hw4 hown4 ho4 hfr4 hR4 FN
        go_wp2_with fail
        refine FD.out.mono ?_
        rintro e w5 ⟨o5, b5, q5, g5, rfl, hl5, -, hr5, hlen5, -, hfr5⟩
        have hbb : b5.length ≤ 500 := by simp at hlen5; omega
        have HL5 := Lib.hid (show left b5 q5 = opsBits (l.drop 0) ++ Bit.bitsN ((8 - r.length) % 8) 0 by
          rw [hl5, HBITS4.out]; rfl)
        have HR5 := Lib.hid hr5
        have HB5 := Lib.hid (HB4.out.trans (hfr5.below (by omega) fun x hx hh => by
            rcases hh with hh | hh
            · omega
            · simp [Value.ownBlock] at hh))
        have hs5 := HB5.out.size
        clear hl5 hr5 hlen5 hfr5 FD
        obtain ⟨pad, hpad⟩ : ∃ pad, pad = Bit.bitsN ((8 - r.length) % 8) 0 := ⟨_, rfl⟩
        have hpl : pad.length < 8 := by rw [hpad, Bit.length_bitsN]; omega
        rw [← hpad] at HL5
        clear hpad HBITS4
        go_wp2_with fail
        go_loopw [6] (fun i ws => ∃ (j : Nat) (q : Nat), j ≤ l.length ∧ i = .int .i64 j ∧ left b5 q = opsBits (l.drop j) ++ pad ∧ RdS ws w.heap.size wo.heap.size o5 b5 q g5 ∧ Below w.heap.size w ws) (fun i _ => l.length - (intOf i).toNat)
        case atStart => exact ⟨0, q5, Nat.zero_le _, rfl, HL5.out, HR5.out, HB5.out⟩
        case round =>
          obtain ⟨j, q, hj, rfl, hlq, hrq, hbq⟩ := hrel
          have HLQ := Lib.hid hlq
          have HRQ := Lib.hid hrq
          have HBQ := Lib.hid hbq
          have hsq := hbq.size
          clear hlq hrq hbq
          by_cases hlt2 : j < l.length
          · obtain ⟨x, hx⟩ : ∃ x, l[j]? = some x := ⟨_, List.getElem?_eq_getElem hlt2⟩
            obtain ⟨b, off, rfl, hbB, x0, x1, x2, x3⟩ := ops_at (HS.out.below HBQ.out (Nat.le_refl _)) hx
            have hxo := HK.out x (List.mem_of_getElem? hx)
            have HX := Lib.hid hx
            have hv := hxo.v1
            have hn1 := hxo.n1
            have hn2 := hxo.n2
            clear hx hxo x0 x3
            generalize hvv : x.v = vv at hv x2
            generalize hnn : x.n = nn at hn1 hn2 x1
            have HBX := Lib.hid (show x.bits = if 0 ≤ nn ∧ nn ≤ 32 then Bit.bitsN nn.toNat vv else [] by unfold OpV.bits; rw [hvv, hnn])
            have HVV := Lib.hid hvv.symm
            have HNN := Lib.hid hnn.symm
            clear hvv hnn
            by_cases hin : 0 ≤ nn ∧ nn ≤ 32
            · obtain ⟨n, rfl⟩ := Int.eq_ofNat_of_zero_le hin.1
              have hn32 : n ≤ 32 := by omega
              have u1 : decide ((n : Int) < 0) = false := by simp
              have u2 : decide ((32 : Int) < (n : Int)) = false := by simp; omega
              have hxb : x.bits = Bit.bitsN n vv := by rw [HBX.out, if_pos hin]; rfl
              have hlq : left b5 q = Bit.bitsN n vv ++ (opsBits (l.drop (j + 1)) ++ pad) := by rw [HLQ.out, opsBits_drop HX.out, hxb, List.append_assoc]
              have hln : n ≤ (left b5 q).length := by rw [hlq, List.length_append, Bit.length_bitsN]; omega
              have BY := Lib.hid (bits_yes w.heap.size wo.heap.size o5 b5 q g5 n _ HRQ.out (by omega) hn32 hln)
              have HNUM := Lib.hid (show Bit.num ((left b5 q).take n) = vv % 2 ^ n by
                rw [hlq, List.take_left' (Bit.length_bitsN n vv), Bit.num_bitsN])
              have HNEXT := Lib.hid (show left b5 (q + n) = opsBits (l.drop (j + 1)) ++ pad by
                rw [left_drop, hlq, List.drop_left' (Bit.length_bitsN n vv)])
              clear hxb hlq
              go_wp2_with fail
              refine BY.out.mono ?_
              rintro e w6 ⟨rfl, hr6, hfr6⟩
              have HR6 := Lib.hid hr6
              have HB6 := Lib.hid (HBQ.out.trans (hfr6.below (by omega) fun x hx hh => by omega))
              obtain ⟨b', off', heq, -, -, y1, y2, -⟩ := ops_at (HS.out.below HB6.out (Nat.le_refl _)) HX.out
              rw [HNUM.out]
              clear hr6 hfr6 BY
              obtain ⟨rfl, rfl⟩ : b = b' ∧ off = off' := by simpa using heq
              clear heq
              have y1' : w6.cell? ⟨b, off + j * 4 + 1, none⟩ = some (.int .i64 (n : Int)) := by
                rw [y1, ← HNN.out]
              have y2' : w6.cell? ⟨b, off + j * 4 + 2, none⟩ = some (.int .u32 (vv : Int)) := by
                rw [y2, ← HVV.out]
              clear y1 y2
              have e1 : IntKind.u64.wrap (((vv % 2 ^ n : Nat)) : Int) = ((vv % 2 ^ n : Nat) : Int) := by
                have : vv % 2 ^ n ≤ vv := Nat.mod_le _ _
                rw [IntKind.wrap_u64]; omega
              have e2 : IntKind.u64.wrap (vv : Int) = vv := by rw [IntKind.wrap_u64]; omega
              have e3 : IntKind.u64.wrap ((2 : Int) ^ n) = ((2 ^ n : Nat) : Int) := Bit.pow_u64 n hn32
              have e4 : (vv : Int) % ((2 ^ n : Nat) : Int) = ((vv % 2 ^ n : Nat) : Int) := by simp
              have e5 : (vv : Int).tmod ((2 ^ n : Nat) : Int) = ((vv % 2 ^ n : Nat) : Int) := by
                rw [Int.tmod_eq_emod_of_nonneg (Int.natCast_nonneg _)]; exact e4
              have hp : ((2 ^ n : Nat) : Int) ≠ 0 := by have : 1 ≤ 2 ^ n := Nat.one_le_two_pow; omega
              have hp2 : (((2 ^ n : Nat) : Int) == 0) = false := by simpa using hp
              have hp3 : ¬ (2 ^ n : Nat) = 0 := by have : 1 ≤ 2 ^ n := Nat.one_le_two_pow; omega
              have hp4 : (1 : Int) ≤ ((2 ^ n : Nat) : Int) := by have : 1 ≤ 2 ^ n := Nat.one_le_two_pow; omega
              generalize (vv % 2 ^ n : Nat) = y at e1 e4 e5
              generalize (2 ^ n : Nat) = qq at e3 e4 e5 hp hp2 hp3 hp4
              have ek : IntKind.u64.wrap (n : Int) = n := by rw [IntKind.wrap_u64]; omega
              have k0 : (0 : Int) ≤ (n : Int) := Int.natCast_nonneg _
              go_wp2_with fail
              go_quiet (fail)
              go_wp2_with fail
              go_roundw
              case rel => exact ⟨j + 1, q + n, by omega, by go_num, HNEXT.out, HR6.out.drewN _, below_drewN HB6.out _⟩
              case measure => simp [intOf]; omega
            · obtain ⟨d1, u1⟩ : ∃ d, decide (nn < 0) = d := ⟨_, rfl⟩
              obtain ⟨d2, u2⟩ : ∃ d, decide ((32 : Int) < nn) = d := ⟨_, rfl⟩
              have hd : d1 = true ∨ d2 = true := by rw [← u1, ← u2]; simp; omega
              have HNEXT := Lib.hid (show left b5 q = opsBits (l.drop (j + 1)) ++ pad by
                rw [HLQ.out, opsBits_drop HX.out, HBX.out, if_neg hin]; rfl)
              clear hin
              cases d1 <;> cases d2 <;> first | (simp at hd; done) | (
                clear hd
                go_wp2_with fail
                go_roundw
                case rel => exact ⟨j + 1, q, by omega, by go_num, HNEXT.out, HRQ.out, HBQ.out⟩
                case measure => simp [intOf]; omega)
          · obtain rfl : j = l.length := by omega
            have hll : (left b5 q).length < 8 := by
              rw [HLQ.out, List.drop_length]; simpa [opsBits] using hpl
            have LF := Lib.hid (left_any w.heap.size wo.heap.size o5 b5 q g5 _ HRQ.out (by omega))
            generalize (left b5 q).length = ll at hll LF
            have tl : decide ((ll : Int) < 8) = true := by simp; omega
            go_wp2_with fail
            refine LF.out.mono ?_
            rintro e w6 ⟨rfl, m, rfl⟩
            go_wp2_with fail
            go_ret
            exact ⟨rfl, below_drewN HBQ.out m⟩
  · have t1 : decide ((100 : Int) < (l.length : Int)) = true := by simp; omega
    go_enter Try.func5, Try.ntmps5
    go_wp2_with fail
    refine (awake6_any w).mono ?_
    rintro e w1 ⟨rfl, hb1⟩
    have HB1 := Lib.hid hb1
    clear hb1
    go_wp2_with fail
    go_ret
    exact ⟨rfl, HB1.out⟩
end Go.Proofs.Ytpfihombncnmhaa
