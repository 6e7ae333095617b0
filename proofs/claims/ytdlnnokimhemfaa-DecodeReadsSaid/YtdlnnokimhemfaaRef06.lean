/-
  What the reference's Put and Reverse of layer 6 compute: lists of bits.
-/
import Derived.Test.YtdlnnokimhemfaaProg
import Derived.Test.YtdlnnokimhemfaaAppend
import Derived.Test.YtdlnnokimhemfaaBitMath
import Derived.Test.YtdlnnokimhemfaaReverse
import Derived.Deep.QuietTactic
import Derived.BigQuiet
import Derived.Deep.LoopGhost
namespace Go.Proofs.Ytdlnnokimhemfaa
open Go.RowKit

theorem boolInfo : (Try.prog.info? 4).map (fun i => (i.zero, i.size, i.bytes)) = some (some (.bool false), 1, 1) := by kernel_rfl

namespace Bit
theorem bitsN_succ (k v : Nat) : bitsN (k + 1) v = bitsN k v ++ [v / 2 ^ k % 2 == 1] := by
  rw [bitsN_append k 1 v]; rfl
end Bit

set_option maxHeartbeats 800000 in
theorem refPut_any (l : List Bool) (a : Option Addr) (c B v : Nat) (n : Int) (w : World) (hl : l.length ≤ 1000000000) (hn : n ≤ 1000) (hv : v < 4294967296) (hsl : Sl w B a (boolsV l)) (hBw : B ≤ w.heap.size) :
    Calls Try.prog 34 #[.slice a l.length c, .int .u32 (v : Int), .int .i64 n] w (Gives 4 (boolsV (l ++ Bit.bitsN n.toNat v)) w) := by
  have HC := Lib.hid hsl
  clear hsl
  obtain ⟨i0, hi0, hz0, hz1, hz2⟩ := info_parts boolInfo
  have Hi0 := Lib.hid hi0
  have Hz0 := Lib.hid hz0
  have Hz1 := Lib.hid hz1
  have Hz2 := Lib.hid hz2
  clear hi0 hz0 hz1 hz2
  go_enter Try.func34, Try.ntmps34
  go_wp2_with (at_builtin; refine wpList_append_sl _ rfl _ _ _ rfl w.heap.size 4 i0 _ 1 Try.underlying42 Hi0.out Hz0.out Hz1.out Hz2.out rfl _ 0 [] rfl (World.ownsRow_lit w #[] 0 (Nat.le_refl _) (by decide) rfl) B a l.length c (boolsV l) (len_boolsV l) rfl (HC.out.alloc hBw _) (bools_oneCell l) (by unfold maxLen; omega) (by omega) (by simp) ?_; intro v1 w1 hown1 hgrow1 hat1)
  have hb1 : Below w.heap.size w w1 := own_below (World.ownsRow_lit (base := w.heap.size) (e := 4) (size := 1) w #[] 0 (Nat.le_refl _) (by decide) rfl) hgrow1 (Nat.le_refl _) (by simp) ((Below.refl _ _).alloc (Nat.le_refl _) _)
  have HO1 := Lib.hid hown1
  have HB1 := Lib.hid hb1
  clear hown1 hgrow1 hat1 hb1
  have HV := Lib.hid (show v / 2 ^ 0 = v by simp)
  go_loopw [1, 7, 8] (fun s o i wr => ∃ k x : Nat, ((k : Int) ≤ n ∨ k = 0) ∧ k ≤ n.toNat ∧ x < 4294967296 ∧ x = v / 2 ^ k ∧ s = .int .u32 x ∧ i = .int .i64 k ∧ wr.ownsRow w.heap.size 4 1 o (l.length + k) (boolsV (l ++ Bit.bitsN k v)) ∧ Below w.heap.size w wr) (fun _ _ i _ => (n - intOf i).toNat)
  case atStart =>
    refine ⟨0, v, .inr rfl, by omega, hv, HV.out.symm, rfl, rfl, ?_, HB1.out⟩
    have h := HO1.out
    simpa [Bit.bitsN] using h
  case round =>
    obtain ⟨k, x, hk, hkn, hx, hxe, rfl, rfl, hown, hbr⟩ := hrel
    have HX := Lib.hid hxe
    clear hxe
    have hbs := hbr.size
    by_cases hlt : (k : Int) < n
    · have HS := Lib.hid (show boolsV (l ++ Bit.bitsN (k + 1) v) = boolsV (l ++ Bit.bitsN k v) ++ [.bool (x % 2 == 1)] by
        rw [Bit.bitsN_succ, ← List.append_assoc, bools_snoc, ← HX.out])
      have HX2 := Lib.hid (show x / 2 = v / 2 ^ (k + 1) by rw [HX.out, Nat.div_div_eq_div_mul, Nat.pow_succ])
      have eb : ((x : Int) % 2 == 1) = (x % 2 == 1) := by
        rw [Bool.eq_iff_iff, beq_iff_eq, beq_iff_eq]; omega
      have eb2 : ((x : Int) / 2) = ((x / 2 : Nat) : Int) := by omega
      have lx2 : x / 2 < 4294967296 := by omega
      generalize boolsV (l ++ Bit.bitsN k v) = xs at hown HS
      generalize (x % 2 == 1) = bb at HS eb
      generalize x / 2 = y at eb2 lx2 HX2
      go_wp2_with (at_builtin; refine wpList_append_lies _ rfl _ _ _ rfl w.heap.size 4 i0 _ 1 1 Try.underlying42 Hi0.out Hz0.out Hz1.out Hz2.out rfl (by omega) _ (l.length + k) xs rfl (hown.alloc _) ⟨wr.heap.size, 0, none⟩ 1 1 [.bool bb] rfl rfl (World.news_of_block (cs := #[.bool bb]) (t := 4) (fr := (0, 0)) (heap_alloc_new wr _)) (by simp [Value.oneCell']) (by omega) (by unfold maxLen; omega) (by omega) (by simp; omega) (wr.heap.size + 1) (by simp) ?_; intro gg cap ww hown1 hgrow hat hlt1)
      have HO := Lib.hid hown1
      have HB := Lib.hid (own_below (hown.alloc _) hgrow (Nat.le_refl _) (by simp; omega) (hbr.alloc hbs _))
      clear hown1 hgrow hown hbr
      go_wp2
      go_roundw
      case rel => exact ⟨k + 1, y, .inl (by omega), by omega, lx2, HX2.out, rfl, by go_num, by rw [HS.out]; exact HO.out, HB.out⟩
      case measure => simp [intOf]; omega
    · have hkk : n.toNat = k := by omega
      obtain ⟨A, cc, rfl⟩ := own_form hown
      have HO := Lib.hid hown
      clear hown
      have HK := Lib.hid hkk
      clear hkk
      go_wp2
      go_ret
      exact gives_mk (by rw [len_boolsV, List.length_append, Bit.length_bitsN, HK.out]) rfl (by rw [HK.out]; exact HO.out) hbr

namespace Bit
/-- bits read from the first one on, each time doubled -/
theorem num_reverse_snoc (l : List Bool) (b : Bool) : num (l ++ [b]).reverse = num l.reverse * 2 + b.toNat := by
  rw [List.reverse_append]
  simp only [List.reverse_cons, List.reverse_nil, List.nil_append, List.cons_append, num]
  omega
end Bit

set_option maxHeartbeats 800000 in
theorem refReverse_any (v : Nat) (n : Int) (w : World) (hv : v < 4294967296) (h1 : -9223372036854775808 ≤ n) (h2 : n ≤ 9223372036854775807) :
    Calls Try.prog 33 #[.int .u32 (v : Int), .int .i64 n] w fun e w' => e = .returned (.int .u32 ((Bit.rev (clamp n) v : Nat) : Int)) ∧ Below w.heap.size w w' := by
  obtain ⟨k, hk⟩ : ∃ k, k = clamp n := ⟨_, rfl⟩
  have hk32 : k ≤ 32 := by rw [hk]; unfold clamp; omega
  have hkn : (if (32 : Int) < (if (0 : Int) > n then 0 else n) then (32 : Int) else (if (0 : Int) > n then 0 else n)) = (k : Int) := by
    rw [hk]; unfold clamp; split <;> split <;> omega
  have hm1 : ∀ W, (Builtin.max_ #[3, 3] 3 #[.int .i64 n, .int .i64 0]).run Try.prog W = .ok (.int .i64 (if (0 : Int) > n then 0 else n)) W := fun W => by simp [go_sem]
  have hm2 : ∀ W, (Builtin.min_ #[3, 3] 3 #[.int .i64 (if (0 : Int) > n then 0 else n), .int .i64 32]).run Try.prog W = .ok (.int .i64 (k : Int)) W := fun W => by rw [← hkn]; simp [go_sem]
  generalize (if (0 : Int) > n then 0 else n) = nn at hm1 hm2
  rw [← hk]
  clear hk hkn
  go_enter Try.func33, Try.ntmps33
  go_wp2_with fail
  refine (refPut_any [] none 0 0 v k w (by simp) (by omega) hv Sl.nil (Nat.zero_le _)).mono ?_
  rintro e w1 ⟨A, c, rfl, hown, hb⟩
  rw [Int.toNat_natCast, List.nil_append] at hown ⊢
  rw [len_boolsV, Bit.length_bitsN] at hown ⊢
  have HC := Lib.hid (Sl.of_own hown)
  have HL := Lib.hid (Bit.length_bitsN k v)
  have HR := Lib.hid (show Bit.rev k v = Bit.num (Bit.bitsN k v).reverse from rfl)
  clear hown
  generalize Bit.bitsN k v = l at HC HL HR
  have hll : k ≤ l.length := by rw [HL.out]; omega
  have hll2 : l.length ≤ k := by rw [HL.out]; omega
  go_wp2
  go_loop [6, 7] (fun o i => ∃ j x : Nat, j ≤ k ∧ x = Bit.num (l.take j).reverse ∧ x < 4294967296 ∧ x < 2 ^ j ∧ i = .int .i64 j ∧ o = .int .u32 x) (fun _ i => k - (intOf i).toNat)
  case atStart => exact ⟨0, 0, Nat.zero_le _, rfl, by decide, by decide, rfl, rfl⟩
  case round =>
    obtain ⟨j, x, hj, hx, hxl, hxp, rfl, rfl⟩ := hrel
    have HX := Lib.hid hx
    have HP := Lib.hid hxp
    clear hx hxp
    by_cases hlt : j < k
    · have hjl : j < l.length := by omega
      obtain ⟨b, off, rfl, _, hcell⟩ := HC.out.bool hjl
      have hsn := Bit.num_reverse_snoc (l.take j) l[j]
      rw [← List.take_succ_eq_append_getElem hjl, ← HX.out] at hsn
      have HS := Lib.hid hsn
      clear hsn
      have hp := HP.out
      have hp2 : (2 ^ (j + 1) : Nat) ≤ 2 ^ 32 := Nat.pow_le_pow_right (by omega) (by omega)
      rw [Nat.pow_succ] at hp2
      have hx2 : x * 2 + 1 < 4294967296 := by omega
      clear hp hp2
      cases hbv : l[j]
      · rw [hbv] at hcell HS
        clear hbv
        go_wp2
        go_round
        case rel => exact ⟨j + 1, x * 2, by omega, by rw [HS.out]; simp, by omega, by have := HP.out; rw [Nat.pow_succ]; omega, by go_num, by go_num⟩
        case measure => simp [intOf]; omega
      · rw [hbv] at hcell HS
        clear hbv
        go_wp2
        go_round
        case rel => exact ⟨j + 1, x * 2 + 1, by omega, by rw [HS.out]; simp, by omega, by have := HP.out; rw [Nat.pow_succ]; omega, by go_num, by go_num⟩
        case measure => simp [intOf]; omega
    · obtain rfl : j = k := by omega
      have hx := HX.out
      rw [List.take_of_length_le hll2] at hx
      have HE := Lib.hid hx
      clear hx
      go_wp2
      go_ret
      exact ⟨by rw [HR.out, ← HE.out]; rfl, hb⟩
end Go.Proofs.Ytdlnnokimhemfaa
