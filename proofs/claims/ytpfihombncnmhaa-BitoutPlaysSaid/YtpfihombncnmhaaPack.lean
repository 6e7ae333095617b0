/-
  What the reference's Pack (layer 5) computes.
-/
import Derived.Test.YtpfihombncnmhaaRef05
import Derived.Test.YtpfihombncnmhaaClone
namespace Go.Proofs.Ytpfihombncnmhaa
open Go.RowKit

namespace Bit
theorem length_pack (l : List Bool) : (pack l).length = (l.length + 7) / 8 := by simp [pack]
def packAt (l : List Bool) (j : Nat) : Nat := num ((l.drop (8 * j)).take 8)
theorem packAt_lt (l : List Bool) (j : Nat) : packAt l j < 256 := by
  have h := num_lt ((l.drop (8 * j)).take 8)
  have h2 : (2 : Nat) ^ ((l.drop (8 * j)).take 8).length ≤ 2 ^ 8 := Nat.pow_le_pow_right (by omega) (by simp; omega)
  unfold packAt
  omega
theorem pack_take (l : List Bool) (j : Nat) (hj : j < (l.length + 7) / 8) : (pack l).take (j + 1) = (pack l).take j ++ [UInt8.ofNat (packAt l j)] := by
  have hlt : j < (pack l).length := by rw [length_pack]; exact hj
  rw [List.take_succ_eq_append_getElem hlt]
  congr 2
  simp [pack, packAt]
end Bit

set_option maxHeartbeats 800000 in
theorem pack_any (l : List Bool) (a : Option Addr) (c B : Nat) (w : World) (hl : l.length ≤ 1000000000) (hlc : l.length ≤ c) (hsl : Sl w B a (boolsV l)) (hBw : B ≤ w.heap.size) :
    Calls Try.prog 18 #[.slice a l.length c] w (Gives 5 (bytesV (Bit.pack l)) w) := by
  have HC := Lib.hid hsl
  clear hsl
  obtain ⟨i0, hi0, hz0, hz1, hz2⟩ := info_parts byteInfoC
  have Hi0 := Lib.hid hi0
  have Hz0 := Lib.hid hz0
  have Hz1 := Lib.hid hz1
  have Hz2 := Lib.hid hz2
  clear hi0 hz0 hz1 hz2
  obtain ⟨j0, hj0, hy0, hy1, hy2⟩ := info_parts boolInfo
  have Hj0 := Lib.hid hj0
  have Hy1 := Lib.hid hy1
  clear hj0 hy0 hy1 hy2
  go_enter Try.func18, Try.ntmps18
  go_wp2_with fail
  go_loopw [3, 4] (fun o i wr => ∃ j : Nat, j ≤ (l.length + 7) / 8 ∧ i = .int .i64 ((8 * j : Nat) : Int) ∧ wr.ownsRow w.heap.size 5 1 o j (bytesV ((Bit.pack l).take j)) ∧ Below w.heap.size w wr) (fun _ i _ => l.length - (intOf i).toNat)
  case atStart => exact ⟨0, by omega, rfl, World.ownsRow_nil _ _ _ _, Below.refl _ _⟩
  case round =>
    obtain ⟨j, hj, rfl, hown, hbr⟩ := hrel
    have hbs := hbr.size
    by_cases hlt : 8 * j < l.length
    · have hj1 : j < (l.length + 7) / 8 := by omega
      have HT := Lib.hid (show bytesV ((Bit.pack l).take (j + 1)) = bytesV ((Bit.pack l).take j) ++ [.int .u8 ((Bit.packAt l j : Nat) : Int)] by
        rw [Bit.pack_take l j hj1, bytes_snoc]
        congr 3
        have := Bit.packAt_lt l j
        simp; omega)
      have hx256 := Bit.packAt_lt l j
      obtain ⟨m, hm⟩ : ∃ m, m = min (8 * j + 8) l.length := ⟨_, rfl⟩
      have hmin : ∀ W, (Builtin.min_ #[3, 3] 3 #[.int .i64 ((8 * (j + 1) : Nat) : Int), .int .i64 (l.length : Int)]).run Try.prog W = .ok (.int .i64 (m : Int)) W := fun W => by
        have : (m : Int) = if (l.length : Int) < ((8 * (j + 1) : Nat) : Int) then (l.length : Int) else ((8 * (j + 1) : Nat) : Int) := by split <;> omega
        rw [this]; simp [go_sem]
      have hq := run_slice_fromto Try.underlying31 Hj0.out Hy1.out a l.length c (8 * j) m (by omega) (by omega)
      have hln : ((l.drop (8 * j)).take 8).length = m - 8 * j := by simp; omega
      have hS : Sl wr B (restAt a c (8 * j)) (boolsV ((l.drop (8 * j)).take 8)) := by
        have h1 := ((HC.out.below hbr hBw).rest c (8 * j) (by rw [len_boolsV]; exact hlc)).take 8
        simpa [boolsV, List.map_take, List.map_drop] using h1
      have NB := number_any ((l.drop (8 * j)).take 8) (restAt a c (8 * j)) (c - 8 * j) B wr (by omega) hS
      rw [hln] at NB
      have HNB := Lib.hid (show Calls Try.prog 30 #[.slice (restAt a c (8 * j)) (m - 8 * j) (c - 8 * j)] wr fun e w' => e = .returned (.int .u64 ((Bit.packAt l j : Nat) : Int)) ∧ wr = w' from NB)
      clear NB hS hln
      have t1 : decide (((8 * j : Nat) : Int) < (l.length : Int)) = true := by simp; omega
      have t2 : decide (8 * j < l.length) = true := by simp; omega
      have e2 : IntKind.i64.wrap (((8 * j : Nat) : Int) + 8) = ((8 * (j + 1) : Nat) : Int) := by rw [IntWalk.i64_in _ (by omega)]; omega
      have h8 : 8 * j ≤ 1000000000 := by omega
      generalize bytesV ((Bit.pack l).take j) = xs at hown HT
      generalize Bit.packAt l j = x at HT hx256 HNB
      have ex : IntKind.u8.wrap (x : Int) = x := by rw [IntKind.wrap_u8]; omega
      generalize restAt a c (8 * j) = a2 at hq HNB
      generalize m - 8 * j = m2 at hq HNB
      generalize c - 8 * j = c2 at hq HNB
      have HM := Lib.hid (show l.length - 8 * (j + 1) < l.length - 8 * j by omega)
      obtain ⟨j9, hj9⟩ : ∃ j9, j9 = 8 * (j + 1) := ⟨_, rfl⟩
      rw [← hj9] at e2 HM hmin
      have HJ9 := Lib.hid hj9
      clear hj9 hm
      generalize 8 * j = j8 at t1 t2 e2 hq h8 HM ⊢
      go_wp2_with fail
      refine HNB.out.mono ?_
      rintro e w2 ⟨rfl, rfl⟩
      go_wp2_with (at_builtin; refine wpList_append_lies _ rfl _ _ _ rfl w.heap.size 5 i0 _ 1 1 Try.underlying32 Hi0.out Hz0.out Hz1.out Hz2.out rfl (by omega) _ j xs rfl (hown.alloc _) ⟨wr.heap.size, 0, none⟩ 1 1 [.int .u8 x] rfl rfl (World.news_of_block (cs := #[.int .u8 x]) (t := 5) (fr := (0, 0)) (heap_alloc_new wr _)) (by simp [Value.oneCell']) (by omega) (by unfold maxLen; omega) (by omega) (by simp; omega) (wr.heap.size + 1) (by simp) ?_; intro gg cap ww hown1 hgrow hat hlt1)
      have HO' := Lib.hid hown1
      have HB' := Lib.hid (own_below (hown.alloc _) hgrow (Nat.le_refl _) (by simp; omega) (hbr.alloc hbs _))
      clear hown1 hgrow hown hbr
      go_wp2
      go_roundw
      case rel => exact ⟨j + 1, by omega, by rw [← HJ9.out], by rw [HT.out]; exact HO'.out, HB'.out⟩
      case measure => simpa [intOf] using HM.out
    · obtain rfl : j = (l.length + 7) / 8 := by omega
      have hown2 : wr.ownsRow w.heap.size 5 1 u3 ((l.length + 7) / 8) (bytesV (Bit.pack l)) := by
        rw [List.take_of_length_le (by rw [Bit.length_pack]; omega)] at hown; exact hown
      obtain ⟨A, cc, rfl⟩ := own_form hown2
      have HO := Lib.hid hown2
      have HLN := Lib.hid (show (bytesV (Bit.pack l)).length = (l.length + 7) / 8 by rw [len_bytesV, Bit.length_pack])
      have t1 : decide (((8 * ((l.length + 7) / 8) : Nat) : Int) < (l.length : Int)) = false := by simp; omega
      have t2 : decide (8 * ((l.length + 7) / 8) < l.length) = false := by simp; omega
      clear hown hown2
      generalize (l.length + 7) / 8 = jj at HO HLN t1 t2 ⊢
      generalize 8 * jj = j8 at t1 t2 ⊢
      go_wp2_with fail
      go_ret
      exact gives_mk HLN.out rfl HO.out hbr
end Go.Proofs.Ytpfihombncnmhaa
