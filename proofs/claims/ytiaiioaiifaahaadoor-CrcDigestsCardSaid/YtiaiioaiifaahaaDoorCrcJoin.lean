/-
  What crc.multiply, shift, Combine and the methods of crc.Digest compute; the reference's Join.
-/
import Derived.Test.YtiaiioaiifaahaaDoorCrcJoinMath
import Derived.Test.YtiaiioaiifaahaaDoorCrcLaws
import Derived.Test.YtiaiioaiifaahaaDoorAppend
import Derived.Deep.LoopGhost
import Derived.Deep.RegionHeld3
import Derived.StillTailTactics
import Derived.Deep.RegionLaw
import Derived.Deep.QuietTactic
import Derived.BigQuiet
import Derived.RegionTactic
import Derived.BigRegion
import Derived.Laws.BitsLemmas
namespace Go.Proofs.YtiaiioaiifaahaaDoor
open Go.RowKit

theorem byteInfoJ : (Tryd.prog.info? 5).map (fun i => (i.zero, i.size, i.bytes)) = some (some (.int .u8 0), 1, 1) := by kernel_rfl
theorem i64_and1 (r : Nat) (hr : r < 9223372036854775808) : bits .and .i64 (r : Int) 1 = ((r % 2 : Nat) : Int) := by
  have h1 : (BitVec.ofInt 64 1).toNat = 2 ^ 1 - 1 := by decide
  have key : (BitVec.ofInt 64 (r : Int) &&& BitVec.ofInt 64 1).toNat = ((r : Int) % ((2 ^ 64 : Nat) : Int)).toNat % 2 ^ 1 := by
    rw [BitVec.toNat_and, BitVec.toNat_ofInt, h1, Nat.and_two_pow_sub_one_eq_mod]
  show IntKind.i64.wrap ((BitVec.ofInt 64 (r : Int) &&& BitVec.ofInt 64 1).toNat : Nat) = _
  rw [key, IntKind.wrap_i64]
  omega

set_option maxHeartbeats 1000000 in
theorem multiply_any (a b : Nat) (w : World) (ha : a < 4294967296) (hb : b < 4294967296) :
    Calls Tryd.prog 17 #[.int .u32 (a : Int), .int .u32 (b : Int)] w fun e w' => e = .returned (.int .u32 ((Crc.mul a b 32 : Nat) : Int)) ∧ w = w' := by
  have H0 := Lib.hid (Crc.left_zero a ha)
  go_enter Tryd.func17, Tryd.ntmps17
  go_wp2_with fail
  go_loopg [0, 1, 5] 32 (fun g av bv pv wr => w = wr ∧ ∃ k x y z : Nat, g = 32 - k ∧ k ≤ 32 ∧ x = Crc.left a k ∧ y = Crc.steps b k ∧ z = Crc.mul a b k ∧ x < 4294967296 ∧ y < 4294967296 ∧ z < 4294967296 ∧ av = .int .u32 (x : Int) ∧ bv = .int .u32 (y : Int) ∧ pv = .int .u32 (z : Int))
  case atStart => exact ⟨rfl, 0, a, b, 0, rfl, by omega, H0.out.symm, rfl, rfl, ha, hb, by omega, rfl, rfl, rfl⟩
  case round =>
    obtain ⟨rfl, k, x, y, z, hg, hk, hx, hy, hz, lx, ly, lz, rfl, rfl, rfl⟩ := hrel
    have HG := Lib.hid hg
    have HX := Lib.hid hx
    have HY := Lib.hid hy
    have HZ := Lib.hid hz
    clear hg hx hy hz
    by_cases h0 : x = 0
    · have HR := Lib.hid (show Crc.mul a b 32 = z by
        have h := Crc.mul_rest a b k hk (by rw [← HX.out]; exact h0) (32 - k) (by omega)
        rw [show k + (32 - k) = 32 by omega] at h
        rw [h, HZ.out])
      subst h0
      go_wp2_with fail
      go_ret
      exact ⟨by rw [HR.out]; rfl, rfl⟩
    · have hk31 : k ≤ 31 := by
        rcases Nat.lt_or_ge k 32 with h | h
        · omega
        · have hk32 : k = 32 := by omega
          have := HX.out
          rw [hk32, Crc.left_all] at this
          exact absurd this h0
      have t1 : ((x : Int) != 0) = true := by rw [bne_iff_ne]; omega
      have hand : bits .and .u32 (x : Int) 2147483648 = ((x &&& 2147483648 : Nat) : Int) := u32_and_nat x 2147483648 lx (by decide)
      rw [Crc.top_and x, HX.out, Crc.left_top a k hk31, ← HX.out] at hand
      have e1 : IntKind.u32.wrap ((x : Int) * 2) = ((x * 2 % 4294967296 : Nat) : Int) := by rw [IntKind.wrap_u32]; omega
      have e1' : ((x : Int) * 2) % 4294967296 = ((x * 2 % 4294967296 : Nat) : Int) := by omega
      have HL := Lib.hid (show x * 2 % 4294967296 = Crc.left a (k + 1) by rw [HX.out, Crc.left_succ])
      have ll : x * 2 % 4294967296 < 4294967296 := Nat.mod_lt _ (by decide)
      have e2 : bits .and .u32 (y : Int) 1 = ((y % 2 : Nat) : Int) := by have h := u32_and_nat y 1 ly (by decide); rw [nat_mask1] at h; exact h
      have e3 : bits .xor .u32 (z : Int) (y : Int) = ((z ^^^ y : Nat) : Int) := u32_xor_nat z y lz ly
      have l3 := Crc.x32 lz ly
      have e4 : bits .xor .u32 ((y : Int) / 2) 3988292384 = ((y / 2 ^^^ 3988292384 : Nat) : Int) := by have h := u32_xor_nat (y / 2) 3988292384 (by omega) (by decide); simpa using h
      have l4 := Crc.x32 (show y / 2 < 4294967296 by omega) (show 3988292384 < 4294967296 by decide)
      have HB1 := Lib.hid (show y % 2 = 1 → Crc.steps b (k + 1) = y / 2 ^^^ 3988292384 from fun h => by rw [Crc.steps, ← HY.out, Crc.bit, if_pos h])
      have HB0 := Lib.hid (show y % 2 = 0 → Crc.steps b (k + 1) = y / 2 from fun h => by rw [Crc.steps, ← HY.out, Crc.bit, if_neg (by omega)])
      have HMt := Lib.hid (show a.testBit (31 - k) = true → Crc.mul a b (k + 1) = z ^^^ y from fun h => by rw [Crc.mul, ← HZ.out, ← HY.out, h, if_pos rfl])
      have HMf := Lib.hid (show a.testBit (31 - k) = false → Crc.mul a b (k + 1) = z from fun h => by rw [Crc.mul, ← HZ.out, ← HY.out, h, if_neg (by simp), Nat.xor_zero])
      have lhalf : y / 2 < 4294967296 := by omega
      clear h0
      generalize x * 2 % 4294967296 = x2 at e1 e1' HL ll
      generalize z ^^^ y = zy at e3 l3 HMt
      generalize y / 2 ^^^ 3988292384 = yp at e4 l4 HB1
      have hy01 : y % 2 = 0 ∨ y % 2 = 1 := by omega
      cases hbt : a.testBit (31 - k) with
      | true =>
        have HM := Lib.hid (HMt.out hbt)
        rw [hbt, if_pos rfl] at hand
        clear hbt
        rcases hy01 with hy0 | hy0
        · rw [hy0] at e2
          have HB := Lib.hid (HB0.out hy0)
          clear hy0
          go_wp2_with fail
          go_roundg (32 - (k + 1))
          case measure => rw [HG.out]; omega
          case rel => exact ⟨rfl, k + 1, x2, y / 2, _, rfl, by omega, HL.out, HB.out.symm, HM.out.symm, ll, lhalf, l3, rfl, by go_num, rfl⟩
        · rw [hy0] at e2
          have HB := Lib.hid (HB1.out hy0)
          clear hy0
          go_wp2_with fail
          go_roundg (32 - (k + 1))
          case measure => rw [HG.out]; omega
          case rel => exact ⟨rfl, k + 1, x2, yp, _, rfl, by omega, HL.out, HB.out.symm, HM.out.symm, ll, l4, l3, rfl, rfl, rfl⟩
      | false =>
        have HM := Lib.hid (HMf.out hbt)
        rw [hbt, if_neg (by simp)] at hand
        clear hbt
        rcases hy01 with hy0 | hy0
        · rw [hy0] at e2
          have HB := Lib.hid (HB0.out hy0)
          clear hy0
          go_wp2_with fail
          go_roundg (32 - (k + 1))
          case measure => rw [HG.out]; omega
          case rel => exact ⟨rfl, k + 1, x2, y / 2, _, rfl, by omega, HL.out, HB.out.symm, HM.out.symm, ll, lhalf, lz, rfl, by go_num, rfl⟩
        · rw [hy0] at e2
          have HB := Lib.hid (HB1.out hy0)
          clear hy0
          go_wp2_with fail
          go_roundg (32 - (k + 1))
          case measure => rw [HG.out]; omega
          case rel => exact ⟨rfl, k + 1, x2, yp, _, rfl, by omega, HL.out, HB.out.symm, HM.out.symm, ll, l4, lz, rfl, rfl, rfl⟩

theorem step8 : Crc.steps 2147483648 8 = 8388608 := by decide +kernel
set_option maxHeartbeats 1000000 in
theorem shift_any (v n : Nat) (w : World) (hv : v < 4294967296) (hn : n ≤ 1000000000000) :
    Calls Tryd.prog 16 #[.int .u32 (v : Int), .int .i64 (n : Int)] w fun e w' => e = .returned (.int .u32 ((Crc.steps v (8 * n) : Nat) : Int)) ∧ w = w' := by
  go_enter Tryd.func16, Tryd.ntmps16
  go_wp2_with fail
  go_loopw [0, 1, 5] (fun vv nv pv wr => w = wr ∧ ∃ m q r x y : Nat, m + q * r = n ∧ r ≤ n ∧ x = Crc.steps v (8 * m) ∧ y = Crc.steps 2147483648 (8 * q) ∧ x < 4294967296 ∧ y < 4294967296 ∧ vv = .int .u32 (x : Int) ∧ nv = .int .i64 (r : Int) ∧ pv = .int .u32 (y : Int)) (fun _ nv _ _ => (intOf nv).toNat)
  case atStart => exact ⟨rfl, 0, 1, n, v, 8388608, by omega, by omega, rfl, step8.symm, hv, by omega, rfl, rfl, rfl⟩
  case round =>
    obtain ⟨rfl, m, q, r, x, y, hmq, hr, hx, hy, lx, ly, rfl, rfl, rfl⟩ := hrel
    have HQ := Lib.hid hmq
    have HX := Lib.hid hx
    have HY := Lib.hid hy
    clear hmq hx hy
    by_cases h0 : 0 < r
    · have e1 : bits .and .i64 (r : Int) 1 = ((r % 2 : Nat) : Int) := i64_and1 r (by omega)
      have hmd : r = 2 * (r / 2) + r % 2 := by omega
      have MY := Lib.hid (multiply_any y y w ly ly)
      rw [show Crc.mul y y 32 = Crc.steps 2147483648 (8 * (2 * q)) by
        have h := Crc.mul_steps y ly (8 * q)
        rw [← HY.out] at h
        rw [h]
        conv => lhs; rw [HY.out]
        rw [← Crc.steps_add]
        congr 1; omega] at MY
      have l2 : Crc.steps 2147483648 (8 * (2 * q)) < 4294967296 := Crc.steps_lt (by decide) _
      obtain ⟨y2, hy2⟩ : ∃ y2, y2 = Crc.steps 2147483648 (8 * (2 * q)) := ⟨_, rfl⟩
      rw [← hy2] at MY l2
      have HY2 := Lib.hid hy2
      clear hy2
      have hr2 : r % 2 = 0 ∨ r % 2 = 1 := by omega
      rcases hr2 with hr2 | hr2
      · rw [hr2] at e1
        have HQ2 := Lib.hid (show m + 2 * q * (r / 2) = n by
          rw [← HQ.out]
          conv => rhs; rw [hmd, hr2, Nat.add_zero]
          rw [Nat.mul_comm 2 q, Nat.mul_assoc])
        clear hmd hr2
        go_wp2_with fail
        (with_reducible refine MY.out.mono ?_)
        rintro e w2 ⟨rfl, rfl⟩
        go_wp2_with fail
        go_roundw
        case rel => exact ⟨trivial, m, 2 * q, r / 2, x, y2, HQ2.out, by omega, HX.out, HY2.out, lx, l2, rfl, by go_num, rfl⟩
        case measure => simp [intOf]; omega
      · rw [hr2] at e1
        have HQ2 := Lib.hid (show (m + q) + 2 * q * (r / 2) = n by
          rw [← HQ.out]
          conv => rhs; rw [hmd, hr2]
          rw [Nat.mul_add, Nat.mul_one, Nat.mul_comm 2 q, Nat.mul_assoc]; omega)
        have MX := Lib.hid (multiply_any y x w ly lx)
        rw [show Crc.mul y x 32 = Crc.steps v (8 * (m + q)) by
          have h := Crc.mul_steps x lx (8 * q)
          rw [← HY.out] at h
          rw [h, HX.out, ← Crc.steps_add]
          congr 1; omega] at MX
        have l3 : Crc.steps v (8 * (m + q)) < 4294967296 := Crc.steps_lt hv _
        obtain ⟨x2, hx2⟩ : ∃ x2, x2 = Crc.steps v (8 * (m + q)) := ⟨_, rfl⟩
        rw [← hx2] at MX l3
        have HX2 := Lib.hid hx2
        clear hx2 hmd hr2
        go_wp2_with fail
        (with_reducible refine MX.out.mono ?_)
        rintro e w2 ⟨rfl, rfl⟩
        go_wp2_with fail
        (with_reducible refine MY.out.mono ?_)
        rintro e w2 ⟨rfl, rfl⟩
        go_wp2_with fail
        go_roundw
        case rel => exact ⟨trivial, m + q, 2 * q, r / 2, x2, y2, HQ2.out, by omega, HX2.out, HY2.out, l3, l2, rfl, by go_num, rfl⟩
        case measure => simp [intOf]; omega
    · obtain rfl : r = 0 := by omega
      have HR := Lib.hid (show Crc.steps v (8 * n) = x by rw [HX.out, ← HQ.out, Nat.mul_zero, Nat.add_zero])
      go_wp2_with fail
      go_ret
      exact ⟨by rw [HR.out]; rfl, rfl⟩

theorem combine_any (f s n : Nat) (w : World) (hf : f < 4294967296) (hs : s < 4294967296) (hn : n ≤ 1000000000000) :
    Calls Tryd.prog 15 #[.int .u32 (f : Int), .int .u32 (s : Int), .int .i64 (n : Int)] w fun e w' => e = .returned (.int .u32 ((Crc.steps f (8 * n) ^^^ s : Nat) : Int)) ∧ w = w' := by
  have SH := Lib.hid (shift_any f n w hf hn)
  have l1 := Crc.steps_lt hf (8 * n)
  have e1 := u32_xor_nat (Crc.steps f (8 * n)) s l1 hs
  generalize Crc.steps f (8 * n) ^^^ s = z at e1
  generalize Crc.steps f (8 * n) = y at e1 SH l1
  go_enter Tryd.func15, Tryd.ntmps15
  go_wp2_with fail
  (with_reducible refine SH.out.mono ?_)
  rintro e w2 ⟨rfl, rfl⟩
  go_wp2_with fail
  go_ret
  exact ⟨rfl, rfl⟩

/-- a digest at block p -/
def DigS (w : World) (p s n : Nat) : Prop := Whole w p 31 #[.int .u32 (s : Int), .int .i64 (n : Int)]
theorem digWrite_any (p s n : Nat) (l : List UInt8) (a : Option Addr) (c B : Nat) (w : World) (hd : DigS w p s n) (hs : s < 4294967296) (hn : n ≤ 1000000000) (hl : l.length ≤ 1000000000) (hsl : Sl w B a (bytesV l)) (ht : Steps w) :
    Calls Tryd.prog 11 #[.pointer (some ⟨p, 0, none⟩), .slice a l.length c] w fun e w' => e = .returned (.tuple #[]) ∧ DigS w' p (Crc.update s l) (n + l.length) ∧ Fr (fun k => k = p) w w' := by
  have c0 := Whole.cell hd 0
  have c1 := Whole.cell hd 1
  have f0 := Whole.frozen hd 0
  have f1 := Whole.frozen hd 1
  simp at c0 c1
  have HD := Lib.hid (show Whole w p 31 #[.int .u32 (s : Int), .int .i64 (n : Int)] from hd)
  have UP := Lib.hid (update_any s a l c B w (by unfold maxLen; omega) hs hsl ht)
  clear hd hsl ht
  generalize hu : Crc.update s l = u at UP
  clear hu
  go_enter Tryd.func11, Tryd.ntmps11
  go_wp2_with fail
  (with_reducible refine UP.out.mono ?_)
  rintro e w2 ⟨rfl, rfl⟩
  go_wp2_with fail
  go_end0
  refine ⟨rfl, ?_, ((Fr.refl (fun k => k = p) w).setCell (p := ⟨p, 0, none⟩) (.inl rfl) _).setCell (p := ⟨p, 1, none⟩) (.inl rfl) _⟩
  have h := (HD.out.set_ 0 (.int .u32 (u : Int))).set_ 1 (.int .i64 ((n : Int) + (l.length : Int)))
  unfold DigS
  simpa using h
theorem digSum_any (p s n : Nat) (w : World) (hd : DigS w p s n) : Calls Tryd.prog 13 #[.pointer (some ⟨p, 0, none⟩)] w fun e w' => e = .returned (.int .u32 (s : Int)) ∧ w = w' := by
  have c0 := Whole.cell hd 0
  simp at c0
  clear hd
  go_enter Tryd.func13, Tryd.ntmps13
  go_wp2_with fail
  go_ret
  exact ⟨rfl, rfl⟩
theorem digLen_any (p s n : Nat) (w : World) (hd : DigS w p s n) : Calls Tryd.prog 14 #[.pointer (some ⟨p, 0, none⟩)] w fun e w' => e = .returned (.int .i64 (n : Int)) ∧ w = w' := by
  have c1 := Whole.cell hd 1
  simp at c1
  clear hd
  go_enter Tryd.func14, Tryd.ntmps14
  go_wp2_with fail
  go_ret
  exact ⟨rfl, rfl⟩
set_option maxRecDepth 100000 in
set_option maxHeartbeats 400000 in
theorem digJoin_any (p s n s2 n2 : Nat) (w : World) (hd : DigS w p s n) (hs : s < 4294967296) (hs2 : s2 < 4294967296) (hn : n ≤ 1000000000) (hn2 : n2 ≤ 1000000000) :
    Calls Tryd.prog 12 #[.pointer (some ⟨p, 0, none⟩), .agg #[.int .u32 (s2 : Int), .int .i64 (n2 : Int)]] w fun e w' => e = .returned (.tuple #[]) ∧ DigS w' p (Crc.steps s (8 * n2) ^^^ s2) (n + n2) ∧ Fr (fun k => k = p) w w' := by
  have hpl := Whole.lt hd
  obtain ⟨W, hW, hA, hN, hF⟩ : ∃ W, w.alloc (.cells #[.int .u32 (s2 : Int), .int .i64 (n2 : Int)] 31) = W ∧ Whole W p 31 #[.int .u32 (s : Int), .int .i64 (n : Int)] ∧ Whole W w.heap.size 31 #[.int .u32 (s2 : Int), .int .i64 (n2 : Int)] ∧ Fr (fun k => k = p) w W :=
    ⟨_, rfl, Whole.alloc hd _, Whole.new w _ _, (Fr.refl (fun k => k = p) w).alloc _⟩
  have HW := Lib.hid hW
  have HA := Lib.hid hA
  have HF := Lib.hid hF
  have CB := fun W => Lib.hid (combine_any s s2 n2 W hs hs2 (by omega))
  generalize Crc.steps s (8 * n2) ^^^ s2 = z at CB
  have hne : ¬ p = w.heap.size := by omega
  have hne2 : ¬ w.heap.size = p := by omega
  have d0 := hA.cell 0
  have d1 := hA.cell 1
  have f0 := hA.frozen 0
  have f1 := hA.frozen 1
  have a0 := hN.cell 0
  have a1 := hN.cell 1
  simp at d0 d1 a0 a1
  clear hd hA hN hF hW
  go_enter Tryd.func12, Tryd.ntmps12
  go_wp2_with fail
  rw [HW.out]
  have KEY := Lib.hid (show ∃ V, (W.setCell ⟨p, 0, none⟩ (.int .u32 (z : Int))).drew = V ∧ Whole V p 31 #[.int .u32 (z : Int), .int .i64 (n : Int)] ∧ V.cell? ⟨w.heap.size, 1, none⟩ = some (.int .i64 (n2 : Int)) ∧ Fr (fun k => k = p) w V from
    ⟨_, rfl, by have h := (HA.out.set_ 0 (.int .u32 (z : Int))).drew; simpa using h, (World.cell?_setCell_other W ⟨p, 0, none⟩ ⟨w.heap.size, 1, none⟩ _ (fun e => by injection e with e1 e2; omega)).trans a1, (HF.out.setCell (p := ⟨p, 0, none⟩) (.inl rfl) _).drew⟩)
  go_region_law ((go_simp; first | ((go_at_call 15; (with_reducible refine (CB _).out.mono ?_); rintro e w2 ⟨rfl, rfl⟩))))
  all_goals
    go_wp2_with fail
    obtain ⟨V, hV, hA2, hN2, hF2⟩ := KEY.out
    have HA2 := Lib.hid hA2
    have HF2 := Lib.hid hF2
    have x1 := hA2.cell 1
    have y1 := hA2.frozen 1
    simp at x1
    rw [hV]
    clear hV hA2 hF2 d0 d1 f0 f1 a0 a1 KEY
    go_region
    go_wp2_with fail
    go_end0
    refine ⟨rfl, ?_, (HF2.out.setCell (p := ⟨p, 1, none⟩) (.inl rfl) _).drew⟩
    have h := (HA2.out.set_ 1 (.int .i64 ((n : Int) + (n2 : Int)))).drew
    unfold DigS
    simpa using h

/-- the reference's Join -/
theorem refJoin_any (x y : List UInt8) (a b : Option Addr) (c d B : Nat) (w : World) (hx : x.length ≤ 1000000000) (hy : y.length ≤ 1000000000) (hsx : Sl w B a (bytesV x)) (hsy : Sl w B b (bytesV y)) (hB : B ≤ w.heap.size) :
    Calls Tryd.prog 10 #[.slice a x.length c, .slice b y.length d] w (Gives 5 (bytesV (x ++ y)) w) := by
  have HX := Lib.hid hsx
  have HY := Lib.hid hsy
  clear hsx hsy
  obtain ⟨i0, hi0, hz0, hz1, hz2⟩ := info_parts byteInfoJ
  have Hi0 := Lib.hid hi0
  have Hz0 := Lib.hid hz0
  have Hz1 := Lib.hid hz1
  have Hz2 := Lib.hid hz2
  clear hi0 hz0 hz1 hz2
  go_enter Tryd.func10, Tryd.ntmps10
  go_wp2_with (first
    | (at_builtin; refine wpList_append_sl _ rfl (.tmp 5) (.tmp 6) _ rfl w.heap.size 5 i0 _ 1 Tryd.underlying23 Hi0.out Hz0.out Hz1.out Hz2.out rfl _ 0 [] rfl (World.ownsRow_lit w #[] 0 (Nat.le_refl _) (by decide) rfl) B a x.length c (bytesV x) (len_bytesV x) rfl (HX.out.alloc hB _) (bytes_oneCell x) (by unfold maxLen; omega) (by omega) (by simp) ?_; intro v1 w1 hown1 hgrow1 hat1; have HB1 := Lib.hid (own_below (World.ownsRow_lit (base := w.heap.size) (e := 5) (size := 1) w #[] 0 (Nat.le_refl _) (by decide) rfl) hgrow1 (Nat.le_refl _) (by simp) ((Below.refl _ _).alloc (Nat.le_refl _) _)); rw [Nat.zero_add, List.nil_append] at hown1; have HO1 := Lib.hid hown1; clear hown1 hgrow1 hat1)
    | (at_builtin; refine wpList_append_sl _ rfl (.tmp 7) (.tmp 8) _ rfl w.heap.size 5 i0 _ 1 Tryd.underlying23 Hi0.out Hz0.out Hz1.out Hz2.out rfl _ x.length (bytesV x) rfl HO1.out B b y.length d (bytesV y) (len_bytesV y) rfl (HY.out.below HB1.out hB) (bytes_oneCell y) (by unfold maxLen; omega) (by omega) HB1.out.size ?_; intro v2 w2 hown2 hgrow2 hat2; have HB2 := Lib.hid (own_below HO1.out hgrow2 (Nat.le_refl _) HB1.out.size HB1.out); obtain ⟨A2, c2, rfl⟩ := own_form hown2; have HO2 := Lib.hid hown2; clear hown2 hgrow2 hat2))
  go_ret
  exact gives_mk (n := x.length + y.length) (by rw [len_bytesV, List.length_append]) rfl (by rw [bytes_append]; exact HO2.out) HB2.out
end Go.Proofs.YtiaiioaiifaahaaDoor
