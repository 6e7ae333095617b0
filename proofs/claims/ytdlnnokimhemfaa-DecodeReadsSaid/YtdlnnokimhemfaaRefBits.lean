/-
  What the reference's Bits of layer 5 computes.
-/
import Derived.Test.YtdlnnokimhemfaaRef06
import Derived.Test.YtdlnnokimhemfaaBitin
namespace Go.Proofs.Ytdlnnokimhemfaa
open Go.RowKit

set_option maxHeartbeats 800000 in
theorem refBits_any (l : List UInt8) (a : Option Addr) (c B : Nat) (w : World) (hl : l.length ≤ 1000000000) (hsl : Sl w B a (bytesV l)) (hBw : B ≤ w.heap.size) :
    Calls Try.prog 22 #[.slice a l.length c] w (Gives 4 (boolsV (Bit.ofBytes l)) w) := by
  have HC := Lib.hid hsl
  clear hsl
  obtain ⟨i0, hi0, hz0, hz1, hz2⟩ := info_parts boolInfo
  have Hi0 := Lib.hid hi0
  have Hz0 := Lib.hid hz0
  have Hz1 := Lib.hid hz1
  have Hz2 := Lib.hid hz2
  clear hi0 hz0 hz1 hz2
  go_enter Try.func22, Try.ntmps22
  go_wp2_with fail
  go_loopw [3, 4] (fun o i wr => ∃ j : Nat, j ≤ l.length ∧ i = .int .i64 j ∧ wr.ownsRow w.heap.size 4 1 o (8 * j) (boolsV (Bit.ofBytes (l.take j))) ∧ Below w.heap.size w wr) (fun _ i _ => l.length - (intOf i).toNat)
  case atStart => exact ⟨0, by omega, rfl, World.ownsRow_nil _ _ _ _, Below.refl _ _⟩
  case round =>
    obtain ⟨j, hj, rfl, hown, hbr⟩ := hrel
    obtain ⟨wo, hwo⟩ : ∃ W, W = wr := ⟨_, rfl⟩
    subst hwo
    have HO := Lib.hid hown
    have HB := Lib.hid hbr
    clear hown hbr
    by_cases hlt : j < l.length
    · obtain ⟨bb, oo, rfl, _, hcell⟩ := ((HC.out.below HB.out hBw).byte hlt)
      have HBY := Lib.hid (show Bit.ofBytes (l.take (j + 1)) = Bit.ofBytes (l.take j) ++ Bit.bitsN 8 l[j].toNat by
        rw [List.take_succ_eq_append_getElem hlt, Bit.ofBytes_append', show Bit.ofBytes [l[j]] = Bit.bitsN 8 l[j].toNat by simp [Bit.ofBytes]])
      have hc256 := u8_bound l[j]
      generalize l[j].toNat = cc at hcell HBY hc256
      generalize Bit.ofBytes (l.take j) = pre at HO HBY
      go_wp2_with fail
      go_loopw [3, 5, 6] (fun o s i wr => ∃ k x : Nat, k ≤ 8 ∧ x < 256 ∧ x = cc / 2 ^ k ∧ s = .int .u8 x ∧ i = .int .i64 k ∧ wr.ownsRow w.heap.size 4 1 o (8 * j + k) (boolsV (pre ++ Bit.bitsN k cc)) ∧ Below w.heap.size w wr) (fun _ _ i _ => 8 - (intOf i).toNat)
      case atStart =>
        refine ⟨0, cc, by omega, by omega, by simp, rfl, rfl, ?_, HB.out⟩
        have h := HO.out
        simpa [Bit.bitsN] using h
      case round =>
        obtain ⟨k, x, hk, hx, hxe, rfl, rfl, hown, hbr⟩ := hrel
        have HX := Lib.hid hxe
        clear hxe
        have hbs := hbr.size
        by_cases hlt2 : k < 8
        · have HS := Lib.hid (show boolsV (pre ++ Bit.bitsN (k + 1) cc) = boolsV (pre ++ Bit.bitsN k cc) ++ [.bool (x % 2 == 1)] by
            rw [Bit.bitsN_succ, ← List.append_assoc, bools_snoc, ← HX.out])
          have HX2 := Lib.hid (show x / 2 = cc / 2 ^ (k + 1) by rw [HX.out, Nat.div_div_eq_div_mul, Nat.pow_succ])
          have eb : ((x : Int) % 2 == 1) = (x % 2 == 1) := by
            rw [Bool.eq_iff_iff, beq_iff_eq, beq_iff_eq]; omega
          have eb2 : ((x : Int) / 2) = ((x / 2 : Nat) : Int) := by omega
          have lx2 : x / 2 < 256 := by omega
          generalize boolsV (pre ++ Bit.bitsN k cc) = xs at hown HS
          generalize (x % 2 == 1) = b1 at HS eb
          generalize x / 2 = y at eb2 lx2 HX2
          go_wp2_with (at_builtin; refine wpList_append_lies _ rfl _ _ _ rfl w.heap.size 4 i0 _ 1 1 Try.underlying42 Hi0.out Hz0.out Hz1.out Hz2.out rfl (by omega) _ (8 * j + k) xs rfl (hown.alloc _) ⟨wr.heap.size, 0, none⟩ 1 1 [.bool b1] rfl rfl (World.news_of_block (cs := #[.bool b1]) (t := 4) (fr := (0, 0)) (heap_alloc_new wr _)) (by simp [Value.oneCell']) (by omega) (by unfold maxLen; omega) (by omega) (by simp; omega) (wr.heap.size + 1) (by simp) ?_; intro gg cap ww hown1 hgrow hat hlt1)
          have HO' := Lib.hid hown1
          have HB' := Lib.hid (own_below (hown.alloc _) hgrow (Nat.le_refl _) (by simp; omega) (hbr.alloc hbs _))
          clear hown1 hgrow hown hbr
          go_wp2
          go_roundw
          case rel => exact ⟨k + 1, y, by omega, lx2, HX2.out, rfl, by go_num, by rw [HS.out]; exact HO'.out, HB'.out⟩
          case measure => simp [intOf]; omega
        · obtain rfl : k = 8 := by omega
          have HO' := Lib.hid hown
          clear hown
          go_wp2_with fail
          go_roundw
          case rel => exact ⟨j + 1, by omega, by go_num, by rw [HBY.out]; exact HO'.out, hbr⟩
          case measure => simp [intOf]; omega
    · obtain rfl : j = l.length := by omega
      have hown := HO.out
      rw [List.take_length] at hown
      obtain ⟨A, cc, rfl⟩ := own_form hown
      have HO := Lib.hid hown
      clear hown
      go_wp2
      go_ret
      exact gives_mk (by rw [len_boolsV, Bit.length_ofBytes']) rfl HO.out HB.out
end Go.Proofs.Ytdlnnokimhemfaa
