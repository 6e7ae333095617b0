/-
  What the references' Align (layer 6), Bits, Number and Pack (layer 5) compute.
-/
import Derived.Test.YtpfihombncnmhaaRef06
import Derived.Test.YtpfihombncnmhaaBitin
namespace Go.Proofs.Ytpfihombncnmhaa
open Go.RowKit

/-- noughts up to a whole byte -/
def padded (l : List Bool) : List Bool := l ++ List.replicate ((8 - l.length % 8) % 8) false
theorem padded_len (l : List Bool) : (padded l).length = l.length + (8 - l.length % 8) % 8 := by simp [padded]

set_option maxHeartbeats 800000 in
theorem refAlign_any (l : List Bool) (a : Option Addr) (c B : Nat) (w : World) (hl : l.length ≤ 1000000000) (hsl : Sl w B a (boolsV l)) (hBw : B ≤ w.heap.size) :
    Calls Try.prog 13 #[.slice a l.length c] w (Gives 4 (boolsV (padded l)) w) := by
  have HC := Lib.hid hsl
  clear hsl
  obtain ⟨i0, hi0, hz0, hz1, hz2⟩ := info_parts boolInfo
  have Hi0 := Lib.hid hi0
  have Hz0 := Lib.hid hz0
  have Hz1 := Lib.hid hz1
  have Hz2 := Lib.hid hz2
  clear hi0 hz0 hz1 hz2
  go_enter Try.func13, Try.ntmps13
  go_wp2_with (at_builtin; refine wpList_append_sl _ rfl _ _ _ rfl w.heap.size 4 i0 _ 1 Try.underlying31 Hi0.out Hz0.out Hz1.out Hz2.out rfl _ 0 [] rfl (World.ownsRow_lit w #[] 0 (Nat.le_refl _) (by decide) rfl) B a l.length c (boolsV l) (len_boolsV l) rfl (HC.out.alloc hBw _) (bools_oneCell l) (by unfold maxLen; omega) (by omega) (by simp) ?_; intro v1 w1 hown1 hgrow1 hat1)
  have hb1 : Below w.heap.size w w1 := own_below (World.ownsRow_lit (base := w.heap.size) (e := 4) (size := 1) w #[] 0 (Nat.le_refl _) (by decide) rfl) hgrow1 (Nat.le_refl _) (by simp) ((Below.refl _ _).alloc (Nat.le_refl _) _)
  have HO1 := Lib.hid hown1
  have HB1 := Lib.hid hb1
  clear hown1 hgrow1 hat1 hb1
  obtain ⟨m, hm⟩ : ∃ m, m = (8 - l.length % 8) % 8 := ⟨_, rfl⟩
  go_loopw [3] (fun o wr => ∃ k : Nat, k ≤ m ∧ wr.ownsRow w.heap.size 4 1 o (l.length + k) (boolsV (l ++ List.replicate k false)) ∧ Below w.heap.size w wr) (fun o _ => match o with | .slice _ n _ => l.length + m - n | _ => 0)
  case atStart =>
    refine ⟨0, by omega, ?_, HB1.out⟩
    have h := HO1.out
    simpa using h
  case round =>
    obtain ⟨k, hkm, hown, hbr⟩ := hrel
    obtain ⟨A, cc, rfl⟩ := own_form hown
    have hbs := hbr.size
    by_cases hlt : k < m
    · have HS := Lib.hid (show boolsV (l ++ List.replicate (k + 1) false) = boolsV (l ++ List.replicate k false) ++ [.bool false] by
        rw [List.replicate_succ', ← List.append_assoc, bools_snoc])
      have tt : decide ((((l.length + k : Nat) : Int) % 8) = 0) = false := by simp; omega
      have tt2 : ¬ (((l.length + k : Nat) : Int) % 8) = 0 := by omega
      generalize boolsV (l ++ List.replicate k false) = xs at hown HS
      obtain ⟨nn, hnn⟩ : ∃ nn, nn = l.length + k := ⟨_, rfl⟩
      rw [← hnn] at hown tt tt2 ⊢
      have hn9 : nn ≤ 1000000008 := by omega
      go_wp2_with (at_builtin; refine wpList_append_lies _ rfl _ _ _ rfl w.heap.size 4 i0 _ 1 1 Try.underlying31 Hi0.out Hz0.out Hz1.out Hz2.out rfl (by omega) _ nn xs rfl (hown.alloc _) ⟨wr.heap.size, 0, none⟩ 1 1 [.bool false] rfl rfl (World.news_of_block (cs := #[.bool false]) (t := 4) (fr := (0, 0)) (heap_alloc_new wr _)) (by simp [Value.oneCell']) (by omega) (by unfold maxLen; omega) (by omega) (by simp; omega) (wr.heap.size + 1) (by simp) ?_; intro gg cap ww hown1 hgrow hat hlt1)
      have HO := Lib.hid hown1
      have HB := Lib.hid (own_below (hown.alloc _) hgrow (Nat.le_refl _) (by simp; omega) (hbr.alloc hbs _))
      clear hown1 hgrow hown hbr
      go_wp2
      go_roundw
      case rel => exact ⟨k + 1, by omega, by have h := HO.out; rw [hnn] at h; rw [HS.out]; exact h, HB.out⟩
      case measure => simp; omega
    · obtain rfl : k = m := by omega
      have tt : decide ((((l.length + k : Nat) : Int) % 8) = 0) = true := by simp; omega
      have tt2 : (((l.length + k : Nat) : Int) % 8) = 0 := by omega
      have HP := Lib.hid (show padded l = l ++ List.replicate k false by rw [padded, hm])
      obtain ⟨nn, hnn⟩ : ∃ nn, nn = l.length + k := ⟨_, rfl⟩
      rw [← hnn] at hown tt tt2 ⊢
      have HO := Lib.hid hown
      clear hown
      go_wp2
      go_ret
      exact gives_mk (by rw [HP.out, len_boolsV, List.length_append, List.length_replicate, hnn]) rfl (by rw [HP.out]; exact HO.out) hbr

set_option maxHeartbeats 800000 in
theorem refBits_any (l : List UInt8) (a : Option Addr) (c B : Nat) (w : World) (hl : l.length ≤ 1000000000) (hsl : Sl w B a (bytesV l)) (hBw : B ≤ w.heap.size) :
    Calls Try.prog 16 #[.slice a l.length c] w (Gives 4 (boolsV (Bit.ofBytes l)) w) := by
  have HC := Lib.hid hsl
  clear hsl
  obtain ⟨i0, hi0, hz0, hz1, hz2⟩ := info_parts boolInfo
  have Hi0 := Lib.hid hi0
  have Hz0 := Lib.hid hz0
  have Hz1 := Lib.hid hz1
  have Hz2 := Lib.hid hz2
  clear hi0 hz0 hz1 hz2
  go_enter Try.func16, Try.ntmps16
  go_wp2_with fail
  go_loopw [3, 4] (fun o i wr => ∃ j : Nat, j ≤ l.length ∧ i = .int .i64 j ∧ wr.ownsRow w.heap.size 4 1 o (8 * j) (boolsV (Bit.ofBytes (l.take j))) ∧ Below w.heap.size w wr) (fun _ i _ => l.length - (intOf i).toNat)
  case atStart => exact ⟨0, by omega, rfl, World.ownsRow_nil _ _ _ _, Below.refl _ _⟩
  case round =>
    obtain ⟨j, hj, rfl, hown, hbr⟩ := hrel
    obtain ⟨wo, hwo⟩ : ∃ W, W = wr := ⟨_, rfl⟩
    subst hwo
    have HO := Lib.hid hown
    have HB := Lib.hid hbr
    clear hown hbr
    by_cases hlt : j < l.length
    · obtain ⟨bb, oo, rfl, _, hcell⟩ := ((HC.out.below HB.out hBw).byte hlt)
      have HBY := Lib.hid (show Bit.ofBytes (l.take (j + 1)) = Bit.ofBytes (l.take j) ++ Bit.bitsN 8 l[j].toNat by
        rw [List.take_succ_eq_append_getElem hlt, Bit.ofBytes_append', show Bit.ofBytes [l[j]] = Bit.bitsN 8 l[j].toNat by simp [Bit.ofBytes]])
      have hc256 := u8_bound l[j]
      generalize l[j].toNat = cc at hcell HBY hc256
      generalize Bit.ofBytes (l.take j) = pre at HO HBY
      go_wp2_with fail
      go_loopw [3, 5, 6] (fun o s i wr => ∃ k x : Nat, k ≤ 8 ∧ x < 256 ∧ x = cc / 2 ^ k ∧ s = .int .u8 x ∧ i = .int .i64 k ∧ wr.ownsRow w.heap.size 4 1 o (8 * j + k) (boolsV (pre ++ Bit.bitsN k cc)) ∧ Below w.heap.size w wr) (fun _ _ i _ => 8 - (intOf i).toNat)
      case atStart =>
        refine ⟨0, cc, by omega, by omega, by simp, rfl, rfl, ?_, HB.out⟩
        have h := HO.out
        simpa [Bit.bitsN] using h
      case round =>
        obtain ⟨k, x, hk, hx, hxe, rfl, rfl, hown, hbr⟩ := hrel
        have HX := Lib.hid hxe
        clear hxe
        have hbs := hbr.size
        by_cases hlt2 : k < 8
        · have HS := Lib.hid (show boolsV (pre ++ Bit.bitsN (k + 1) cc) = boolsV (pre ++ Bit.bitsN k cc) ++ [.bool (x % 2 == 1)] by
            rw [Bit.bitsN_succ, ← List.append_assoc, bools_snoc, ← HX.out])
          have HX2 := Lib.hid (show x / 2 = cc / 2 ^ (k + 1) by rw [HX.out, Nat.div_div_eq_div_mul, Nat.pow_succ])
          have eb : ((x : Int) % 2 == 1) = (x % 2 == 1) := by
            rw [Bool.eq_iff_iff, beq_iff_eq, beq_iff_eq]; omega
          have eb2 : ((x : Int) / 2) = ((x / 2 : Nat) : Int) := by omega
          have lx2 : x / 2 < 256 := by omega
          generalize boolsV (pre ++ Bit.bitsN k cc) = xs at hown HS
          generalize (x % 2 == 1) = b1 at HS eb
          generalize x / 2 = y at eb2 lx2 HX2
          go_wp2_with (at_builtin; refine wpList_append_lies _ rfl _ _ _ rfl w.heap.size 4 i0 _ 1 1 Try.underlying31 Hi0.out Hz0.out Hz1.out Hz2.out rfl (by omega) _ (8 * j + k) xs rfl (hown.alloc _) ⟨wr.heap.size, 0, none⟩ 1 1 [.bool b1] rfl rfl (World.news_of_block (cs := #[.bool b1]) (t := 4) (fr := (0, 0)) (heap_alloc_new wr _)) (by simp [Value.oneCell']) (by omega) (by unfold maxLen; omega) (by omega) (by simp; omega) (wr.heap.size + 1) (by simp) ?_; intro gg cap ww hown1 hgrow hat hlt1)
          have HO' := Lib.hid hown1
          have HB' := Lib.hid (own_below (hown.alloc _) hgrow (Nat.le_refl _) (by simp; omega) (hbr.alloc hbs _))
          clear hown1 hgrow hown hbr
          go_wp2
          go_roundw
          case rel => exact ⟨k + 1, y, by omega, lx2, HX2.out, rfl, by go_num, by rw [HS.out]; exact HO'.out, HB'.out⟩
          case measure => simp [intOf]; omega
        · obtain rfl : k = 8 := by omega
          have HO' := Lib.hid hown
          clear hown
          go_wp2_with fail
          go_roundw
          case rel => exact ⟨j + 1, by omega, by go_num, by rw [HBY.out]; exact HO'.out, hbr⟩
          case measure => simp [intOf]; omega
    · obtain rfl : j = l.length := by omega
      have hown := HO.out
      rw [List.take_length] at hown
      obtain ⟨A, cc, rfl⟩ := own_form hown
      have HO := Lib.hid hown
      clear hown
      go_wp2
      go_ret
      exact gives_mk (by rw [len_boolsV, Bit.length_ofBytes']) rfl HO.out HB.out

set_option maxHeartbeats 800000 in
theorem number_any (l : List Bool) (a : Option Addr) (c B : Nat) (w : World) (hl : l.length ≤ 60) (hsl : Sl w B a (boolsV l)) :
    Calls Try.prog 30 #[.slice a l.length c] w fun e w' => e = .returned (.int .u64 ((Bit.num l : Nat) : Int)) ∧ w = w' := by
  have HC := Lib.hid hsl
  clear hsl
  go_enter Try.func30, Try.ntmps30
  go_wp2_with fail
  go_loopw [3, 4] (fun v i wr => w = wr ∧ ∃ j : Nat, j ≤ l.length ∧ i = .int .i64 ((j : Int) - 1) ∧ v = .int .u64 ((Bit.num (l.drop j) : Nat) : Int)) (fun _ i _ => (intOf i + 1).toNat)
  case atStart => exact ⟨rfl, l.length, Nat.le_refl _, rfl, by rw [List.drop_length]; rfl⟩
  case round =>
    obtain ⟨rfl, j, hj, rfl, rfl⟩ := hrel
    by_cases h0 : 0 < j
    · obtain ⟨i, rfl⟩ : ∃ i, j = i + 1 := ⟨j - 1, by omega⟩
      obtain ⟨bb, oo, rfl, _, hcell⟩ := HC.out.bool (k := i) (by omega)
      have hN : Bit.num (l.drop i) = l[i].toNat + 2 * Bit.num (l.drop (i + 1)) := by
        rw [List.drop_eq_getElem_cons (by omega)]; rfl
      have HN := Lib.hid hN
      have hlt := Bit.num_lt (l.drop (i + 1))
      have hp : (2 : Nat) ^ (l.drop (i + 1)).length ≤ 2 ^ 59 := Nat.pow_le_pow_right (by omega) (by simp; omega)
      clear hN
      generalize Bit.num (l.drop (i + 1)) = x at HN hlt
      have hx : x < 2 ^ 59 := by omega
      clear hlt hp
      have ei : ((i + 1 : Nat) : Int) - 1 = (i : Int) := by omega
      have i1 : (0 : Int) ≤ (i : Int) := by omega
      have e1 : IntKind.u64.wrap ((x : Int) * 2) = ((2 * x : Nat) : Int) := by rw [IntKind.wrap_u64]; omega
      have e2 : IntKind.u64.wrap (((2 * x : Nat) : Int) + 1) = ((2 * x + 1 : Nat) : Int) := by rw [IntKind.wrap_u64]; omega
      rw [ei]
      generalize l[i] = bit at hcell HN
      generalize 2 * x = y at e1 e2 HN
      cases bit with
      | true =>
        go_wp2_with fail
        go_roundw
        case rel => exact ⟨trivial, i, by omega, rfl, by rw [HN.out, Nat.add_comm]; rfl⟩
        case measure => simp [intOf]
      | false =>
        go_wp2_with fail
        go_roundw
        case rel => exact ⟨trivial, i, by omega, rfl, by rw [HN.out, Nat.add_comm]; rfl⟩
        case measure => simp [intOf]
    · obtain rfl : j = 0 := by omega
      rw [List.drop_zero]
      generalize hx : Bit.num l = x
      have HX := Lib.hid hx
      clear hx
      go_wp2_with fail
      go_ret
      exact ⟨by rw [HX.out]; rfl, rfl⟩
end Go.Proofs.Ytpfihombncnmhaa
