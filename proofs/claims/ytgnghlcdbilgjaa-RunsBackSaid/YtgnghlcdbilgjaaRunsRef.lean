/-
  runs.extend at any symbol; the reference's Bits and Add where a run may be; runs.Unpack of such runs.
-/
import Derived.Test.YtgnghlcdbilgjaaRunsBackMath
namespace Go.Proofs.Ytgnghlcdbilgjaa
open Go.RowKit

theorem extend_any (B : Nat) (l : List Int) (s e most : Int) (A : Option Addr) (c : Nat) (w : World) (h0 : 0 ≤ s) (h18 : s ≤ 18) (hl : l.length ≤ 1000000000) (hB : B ≤ w.heap.size) (hown : w.ownsRow B 3 1 (.slice A l.length c) l.length (intsV l)) :
    Calls Try.prog 13 #[.slice A l.length c, .agg #[.int .i64 s, .int .i64 e], .int .i64 most] w (ExtPost B l s e most w) := by
  by_cases h15 : s ≤ 15
  · exact ext_small B l s e most A c w h0 h15 hl hB hown
  · by_cases h16 : s = 16
    · subst h16; exact ext_again B l e most A c w hl hB hown
    · by_cases h17 : s = 17
      · subst h17; exact ext_zeros B l e most A c w hl hB hown
      · obtain rfl : s = 18 := by omega
        exact ext_many B l e most A c w hl hB hown

theorem refBits_small (s : Int) (w : World) (h0 : 0 ≤ s) (h15 : s ≤ 15) : Calls Try.prog 12 #[.int .i64 s] w fun e w' => e = .returned (.int .i64 0) ∧ w = w' := by
  have t1 : decide (s < 0) = false := decide_eq_false (by omega)
  have t2 : decide (18 < s) = false := decide_eq_false (by omega)
  have t3 : decide (s < 16) = true := decide_eq_true (by omega)
  go_enter Try.func12, Try.ntmps12
  go_wp2
  go_ret
  exact ⟨rfl, rfl⟩
theorem refBits_16 (w : World) : Calls Try.prog 12 #[.int .i64 16] w fun e w' => e = .returned (.int .i64 2) ∧ w = w' := by
  go_enter Try.func12, Try.ntmps12
  go_wp2
  go_ret
  exact ⟨rfl, rfl⟩
theorem refBits_17 (w : World) : Calls Try.prog 12 #[.int .i64 17] w fun e w' => e = .returned (.int .i64 3) ∧ w = w' := by
  go_enter Try.func12, Try.ntmps12
  go_wp2
  go_ret
  exact ⟨rfl, rfl⟩
theorem refBits_18 (w : World) : Calls Try.prog 12 #[.int .i64 18] w fun e w' => e = .returned (.int .i64 7) ∧ w = w' := by
  go_enter Try.func12, Try.ntmps12
  go_wp2
  go_ret
  exact ⟨rfl, rfl⟩

def AddPost (l : List Int) (s e most : Int) (w : World) (en : Ending) (w' : World) : Prop :=
  ∃ A c, en = .returned (.tuple #[.slice A (Rn.ext l s e most).length c, .bool true]) ∧ w'.ownsRow w.heap.size 3 1 (.slice A (Rn.ext l s e most).length c) (Rn.ext l s e most).length (intsV (Rn.ext l s e most)) ∧ Below w.heap.size w w'

set_option maxRecDepth 100000 in
set_option maxHeartbeats 1000000 in
theorem refAdd_small (l : List Int) (s e most : Int) (a : Option Addr) (c B : Nat) (w : World) (hs0 : 0 ≤ s) (hs1 : s ≤ 15) (hl : l.length ≤ 1000000) (hmay : Rn.may l s e most = true) (hsl : Sl w B a (intsV l)) (hB : B ≤ w.heap.size) :
    Calls Try.prog 7 #[.slice a l.length c, .int .i64 s, .int .i64 e, .int .i64 most] w (AddPost l s e most w) := by
  obtain ⟨i0, hi0, hz0, hz1, hz2⟩ := info_parts intInfoC
  have Hi0 := Lib.hid hi0
  have Hz0 := Lib.hid hz0
  have Hz1 := Lib.hid hz1
  have Hz2 := Lib.hid hz2
  clear hi0 hz0 hz1 hz2
  obtain ⟨he0, heT, hne, hfit⟩ := of_decide_eq_true hmay
  rw [show Rn.two s = 1 by unfold Rn.two; rw [if_pos ⟨hs0, hs1⟩]] at heT
  rw [show Rn.least s = 1 by unfold Rn.least; rw [if_neg (by omega), if_neg (by omega)]] at hfit
  have HS := Lib.hid hsl
  clear hsl
  have q1 : (s == 16) = false := by rw [beq_eq_false_iff_ne]; omega
  have q2 : (s == 17) = false := by rw [beq_eq_false_iff_ne]; omega
  have q3 : (s == 18) = false := by rw [beq_eq_false_iff_ne]; omega
  obtain rfl : e = 0 := by omega
  have HX := Lib.hid (Rn.ext_of hmay 1 s (by rw [show Rn.least s = 1 by unfold Rn.least; rw [if_neg (by omega), if_neg (by omega)]]; rfl) (by unfold Rn.again; rw [if_pos hs1]))
  have hfit2 : (l.length : Int) + 1 ≤ most := by omega
  clear hne hmay hfit
  go_enter Try.func7, Try.ntmps7
  go_wp2_with fail
  refine (refBits_small s w hs0 hs1).mono ?_
  rintro en w1 ⟨rfl, rfl⟩
  go_wp2_with (at_builtin; refine wpList_append_sl _ rfl (.tmp 59) (.tmp 60) _ rfl w.heap.size 3 i0 _ 8 Try.underlying22 Hi0.out Hz0.out Hz1.out Hz2.out rfl _ 0 [] rfl (World.ownsRow_lit w #[] 0 (Nat.le_refl _) (by decide) rfl) B _ l.length c (intsV l) (len_intsV l) rfl (HS.out.alloc hB _) (int64s_oneCell l) (by unfold maxLen; omega) (by omega) (by simp) ?_; intro v1 w1 hown1 hgrow1 hat1; have HB1 := Lib.hid (own_below (World.ownsRow_lit (base := w.heap.size) (e := 3) (size := 1) w #[] 0 (Nat.le_refl _) (by decide) rfl) hgrow1 (Nat.le_refl _) (by simp) ((Below.refl _ _).alloc (Nat.le_refl _) _)); rw [Nat.zero_add, List.nil_append] at hown1; have HO1 := Lib.hid hown1; clear hown1 hgrow1 hat1)
  go_loopw [13, 14] (fun lv i wr => ∃ j : Nat, j ≤ 1 ∧ i = .int .i64 j ∧ wr.ownsRow w.heap.size 3 1 lv (l.length + j) (intsV (l ++ List.replicate j s)) ∧ Below w.heap.size w wr) (fun _ i _ => 1 - (intOf i).toNat)
  case atStart => exact ⟨0, Nat.zero_le _, rfl, by simpa using HO1.out, HB1.out⟩
  case round =>
    obtain ⟨j, hj, rfl, hown, hbr⟩ := hrel
    have hbs := hbr.size
    by_cases hlt : j < 1
    · have HSN := Lib.hid (show intsV (l ++ List.replicate (j + 1) s) = intsV (l ++ List.replicate j s) ++ [.int .i64 s] by
        rw [List.replicate_succ', ← List.append_assoc, ints_snoc])
      generalize intsV (l ++ List.replicate j s) = xs at hown HSN
      go_wp2_with (at_builtin; refine wpList_append_lies _ rfl (.tmp 67) (.tmp 69) _ rfl w.heap.size 3 i0 _ 1 8 Try.underlying22 Hi0.out Hz0.out Hz1.out Hz2.out rfl (by omega) _ (l.length + j) xs rfl (hown.alloc _) ⟨wr.heap.size, 0, none⟩ 1 1 [.int .i64 s] rfl rfl (World.news_of_block (cs := #[.int .i64 s]) (t := 3) (fr := (0, 0)) (heap_alloc_new wr _)) (by simp [Value.oneCell']) (by omega) (by unfold maxLen; omega) (by omega) (by simp; omega) (wr.heap.size + 1) (by simp) ?_; intro gg cap ww hown1 hgrow hat hlt1; have HO4 := Lib.hid hown1; have HB4 := Lib.hid (own_below (hown.alloc _) hgrow (Nat.le_refl _) (by simp; omega) (hbr.alloc hbs _)); clear hown1 hgrow hat hown hbr)
      go_roundw
      case rel => exact ⟨j + 1, by omega, by go_num, by rw [HSN.out]; exact HO4.out, HB4.out⟩
      case measure => simp [intOf]; omega
    · obtain rfl : j = 1 := by omega
      obtain ⟨lt, hlt2⟩ : ∃ lt, lt = l.length + 1 := ⟨_, rfl⟩
      rw [← hlt2] at hown
      obtain ⟨A5, c5, rfl⟩ := own_form hown
      have u4 : decide (most < (lt : Int)) = false := decide_eq_false (by omega)
      have HO5 := Lib.hid hown
      have HB5 := Lib.hid hbr
      have HLT := Lib.hid hlt2
      clear hown hbr hlt2
      go_wp2_with fail
      go_ret2
      refine ⟨A5, c5, by rw [HX.out, List.length_append, List.length_replicate, ← HLT.out]; rfl, ?_, HB5.out⟩
      rw [HX.out, List.length_append, List.length_replicate, ← HLT.out]
      exact HO5.out

set_option maxRecDepth 100000 in
set_option maxHeartbeats 1000000 in
theorem refAdd_again (l : List Int) (e most : Int) (a : Option Addr) (c B : Nat) (w : World) (hl : l.length ≤ 1000000) (hmay : Rn.may l 16 e most = true) (hsl : Sl w B a (intsV l)) (hB : B ≤ w.heap.size) :
    Calls Try.prog 7 #[.slice a l.length c, .int .i64 16, .int .i64 e, .int .i64 most] w (AddPost l 16 e most w) := by
  obtain ⟨i0, hi0, hz0, hz1, hz2⟩ := info_parts intInfoC
  have Hi0 := Lib.hid hi0
  have Hz0 := Lib.hid hz0
  have Hz1 := Lib.hid hz1
  have Hz2 := Lib.hid hz2
  clear hi0 hz0 hz1 hz2
  obtain ⟨he0, heT, hne, hfit⟩ := of_decide_eq_true hmay
  rw [show Rn.two 16 = 4 by rfl] at heT
  rw [show Rn.least 16 = 3 by rfl] at hfit
  have HS := Lib.hid hsl
  clear hsl
  have hnl : l ≠ [] := fun h => hne ⟨rfl, h⟩
  have hlp : 0 < l.length := List.length_pos_iff.2 hnl
  obtain ⟨b1, off, rfl, hb1, hcell⟩ := HS.out.int (k := l.length - 1) (by omega)
  have HLA := Lib.hid (show l.getLastD 0 = l[l.length - 1]'(by omega) by rw [List.getLastD_eq_getLast?, List.getLast?_eq_getElem?, List.getElem?_eq_getElem (by omega)]; rfl)
  generalize l[l.length - 1]'(by omega) = y at hcell HLA
  have tl : ((l.length : Int) == 0) = false := by rw [beq_eq_false_iff_ne]; omega
  have tl2 : (l.length == 0) = false := by rw [beq_eq_false_iff_ne]; omega
  have kk : (0 : Int) ≤ (l.length : Int) - 1 := by omega
  obtain ⟨tm, htm⟩ := Int.eq_ofNat_of_zero_le (show 0 ≤ 3 + e by omega)
  have HX := Lib.hid (Rn.ext_of hmay tm y (by rw [show Rn.least 16 = 3 by rfl]; exact htm) (by unfold Rn.again; rw [if_neg (by omega), if_pos rfl]; exact HLA.out))
  have e1 : IntKind.i64.wrap (3 + e) = (tm : Int) := by rw [IntWalk.i64_in _ (by omega)]; exact htm
  have u1 : decide (e < 0) = false := decide_eq_false (by omega)
  have u2 : decide ((4 : Int) ≤ e) = false := decide_eq_false (by omega)
  have htb : tm ≤ 200 := by omega
  have hfit2 : (l.length : Int) + (tm : Int) ≤ most := by omega
  clear hne hmay hfit
  go_enter Try.func7, Try.ntmps7
  go_wp2_with fail
  refine (refBits_16 w).mono ?_
  rintro en w1 ⟨rfl, rfl⟩
  go_wp2_with (at_builtin; refine wpList_append_sl _ rfl (.tmp 59) (.tmp 60) _ rfl w.heap.size 3 i0 _ 8 Try.underlying22 Hi0.out Hz0.out Hz1.out Hz2.out rfl _ 0 [] rfl (World.ownsRow_lit w #[] 0 (Nat.le_refl _) (by decide) rfl) B _ l.length c (intsV l) (len_intsV l) rfl (HS.out.alloc hB _) (int64s_oneCell l) (by unfold maxLen; omega) (by omega) (by simp) ?_; intro v1 w1 hown1 hgrow1 hat1; have HB1 := Lib.hid (own_below (World.ownsRow_lit (base := w.heap.size) (e := 3) (size := 1) w #[] 0 (Nat.le_refl _) (by decide) rfl) hgrow1 (Nat.le_refl _) (by simp) ((Below.refl _ _).alloc (Nat.le_refl _) _)); rw [Nat.zero_add, List.nil_append] at hown1; have HO1 := Lib.hid hown1; clear hown1 hgrow1 hat1)
  go_loopw [13, 14] (fun lv i wr => ∃ j : Nat, j ≤ tm ∧ i = .int .i64 j ∧ wr.ownsRow w.heap.size 3 1 lv (l.length + j) (intsV (l ++ List.replicate j y)) ∧ Below w.heap.size w wr) (fun _ i _ => tm - (intOf i).toNat)
  case atStart => exact ⟨0, Nat.zero_le _, rfl, by simpa using HO1.out, HB1.out⟩
  case round =>
    obtain ⟨j, hj, rfl, hown, hbr⟩ := hrel
    have hbs := hbr.size
    by_cases hlt : j < tm
    · have HSN := Lib.hid (show intsV (l ++ List.replicate (j + 1) y) = intsV (l ++ List.replicate j y) ++ [.int .i64 y] by
        rw [List.replicate_succ', ← List.append_assoc, ints_snoc])
      generalize intsV (l ++ List.replicate j y) = xs at hown HSN
      go_wp2_with (at_builtin; refine wpList_append_lies _ rfl (.tmp 67) (.tmp 69) _ rfl w.heap.size 3 i0 _ 1 8 Try.underlying22 Hi0.out Hz0.out Hz1.out Hz2.out rfl (by omega) _ (l.length + j) xs rfl (hown.alloc _) ⟨wr.heap.size, 0, none⟩ 1 1 [.int .i64 y] rfl rfl (World.news_of_block (cs := #[.int .i64 y]) (t := 3) (fr := (0, 0)) (heap_alloc_new wr _)) (by simp [Value.oneCell']) (by omega) (by unfold maxLen; omega) (by omega) (by simp; omega) (wr.heap.size + 1) (by simp) ?_; intro gg cap ww hown1 hgrow hat hlt1; have HO4 := Lib.hid hown1; have HB4 := Lib.hid (own_below (hown.alloc _) hgrow (Nat.le_refl _) (by simp; omega) (hbr.alloc hbs _)); clear hown1 hgrow hat hown hbr)
      go_roundw
      case rel => exact ⟨j + 1, by omega, by go_num, by rw [HSN.out]; exact HO4.out, HB4.out⟩
      case measure => simp [intOf]; omega
    · obtain rfl : j = tm := by omega
      obtain ⟨lt, hlt2⟩ : ∃ lt, lt = l.length + j := ⟨_, rfl⟩
      rw [← hlt2] at hown
      obtain ⟨A5, c5, rfl⟩ := own_form hown
      have u4 : decide (most < (lt : Int)) = false := decide_eq_false (by omega)
      have HO5 := Lib.hid hown
      have HB5 := Lib.hid hbr
      have HLT := Lib.hid hlt2
      clear hown hbr hlt2
      go_wp2_with fail
      go_ret2
      refine ⟨A5, c5, by rw [HX.out, List.length_append, List.length_replicate, ← HLT.out]; rfl, ?_, HB5.out⟩
      rw [HX.out, List.length_append, List.length_replicate, ← HLT.out]
      exact HO5.out

set_option maxRecDepth 100000 in
set_option maxHeartbeats 1000000 in
theorem refAdd_zeros (l : List Int) (e most : Int) (a : Option Addr) (c B : Nat) (w : World) (hl : l.length ≤ 1000000) (hmay : Rn.may l 17 e most = true) (hsl : Sl w B a (intsV l)) (hB : B ≤ w.heap.size) :
    Calls Try.prog 7 #[.slice a l.length c, .int .i64 17, .int .i64 e, .int .i64 most] w (AddPost l 17 e most w) := by
  obtain ⟨i0, hi0, hz0, hz1, hz2⟩ := info_parts intInfoC
  have Hi0 := Lib.hid hi0
  have Hz0 := Lib.hid hz0
  have Hz1 := Lib.hid hz1
  have Hz2 := Lib.hid hz2
  clear hi0 hz0 hz1 hz2
  obtain ⟨he0, heT, hne, hfit⟩ := of_decide_eq_true hmay
  rw [show Rn.two 17 = 8 by rfl] at heT
  rw [show Rn.least 17 = 3 by rfl] at hfit
  have HS := Lib.hid hsl
  clear hsl
  obtain ⟨tm, htm⟩ := Int.eq_ofNat_of_zero_le (show 0 ≤ 3 + e by omega)
  have HX := Lib.hid (Rn.ext_of hmay tm 0 (by rw [show Rn.least 17 = 3 by rfl]; exact htm) (by rfl))
  have e1 : IntKind.i64.wrap (3 + e) = (tm : Int) := by rw [IntWalk.i64_in _ (by omega)]; exact htm
  have u1 : decide (e < 0) = false := decide_eq_false (by omega)
  have u2 : decide ((8 : Int) ≤ e) = false := decide_eq_false (by omega)
  have htb : tm ≤ 200 := by omega
  have hfit2 : (l.length : Int) + (tm : Int) ≤ most := by omega
  clear hne hmay hfit
  go_enter Try.func7, Try.ntmps7
  go_wp2_with fail
  refine (refBits_17 w).mono ?_
  rintro en w1 ⟨rfl, rfl⟩
  go_wp2_with (at_builtin; refine wpList_append_sl _ rfl (.tmp 59) (.tmp 60) _ rfl w.heap.size 3 i0 _ 8 Try.underlying22 Hi0.out Hz0.out Hz1.out Hz2.out rfl _ 0 [] rfl (World.ownsRow_lit w #[] 0 (Nat.le_refl _) (by decide) rfl) B _ l.length c (intsV l) (len_intsV l) rfl (HS.out.alloc hB _) (int64s_oneCell l) (by unfold maxLen; omega) (by omega) (by simp) ?_; intro v1 w1 hown1 hgrow1 hat1; have HB1 := Lib.hid (own_below (World.ownsRow_lit (base := w.heap.size) (e := 3) (size := 1) w #[] 0 (Nat.le_refl _) (by decide) rfl) hgrow1 (Nat.le_refl _) (by simp) ((Below.refl _ _).alloc (Nat.le_refl _) _)); rw [Nat.zero_add, List.nil_append] at hown1; have HO1 := Lib.hid hown1; clear hown1 hgrow1 hat1)
  go_loopw [13, 14] (fun lv i wr => ∃ j : Nat, j ≤ tm ∧ i = .int .i64 j ∧ wr.ownsRow w.heap.size 3 1 lv (l.length + j) (intsV (l ++ List.replicate j 0)) ∧ Below w.heap.size w wr) (fun _ i _ => tm - (intOf i).toNat)
  case atStart => exact ⟨0, Nat.zero_le _, rfl, by simpa using HO1.out, HB1.out⟩
  case round =>
    obtain ⟨j, hj, rfl, hown, hbr⟩ := hrel
    have hbs := hbr.size
    by_cases hlt : j < tm
    · have HSN := Lib.hid (show intsV (l ++ List.replicate (j + 1) 0) = intsV (l ++ List.replicate j 0) ++ [.int .i64 0] by
        rw [List.replicate_succ', ← List.append_assoc, ints_snoc])
      generalize intsV (l ++ List.replicate j 0) = xs at hown HSN
      go_wp2_with (at_builtin; refine wpList_append_lies _ rfl (.tmp 67) (.tmp 69) _ rfl w.heap.size 3 i0 _ 1 8 Try.underlying22 Hi0.out Hz0.out Hz1.out Hz2.out rfl (by omega) _ (l.length + j) xs rfl (hown.alloc _) ⟨wr.heap.size, 0, none⟩ 1 1 [.int .i64 0] rfl rfl (World.news_of_block (cs := #[.int .i64 0]) (t := 3) (fr := (0, 0)) (heap_alloc_new wr _)) (by simp [Value.oneCell']) (by omega) (by unfold maxLen; omega) (by omega) (by simp; omega) (wr.heap.size + 1) (by simp) ?_; intro gg cap ww hown1 hgrow hat hlt1; have HO4 := Lib.hid hown1; have HB4 := Lib.hid (own_below (hown.alloc _) hgrow (Nat.le_refl _) (by simp; omega) (hbr.alloc hbs _)); clear hown1 hgrow hat hown hbr)
      go_roundw
      case rel => exact ⟨j + 1, by omega, by go_num, by rw [HSN.out]; exact HO4.out, HB4.out⟩
      case measure => simp [intOf]; omega
    · obtain rfl : j = tm := by omega
      obtain ⟨lt, hlt2⟩ : ∃ lt, lt = l.length + j := ⟨_, rfl⟩
      rw [← hlt2] at hown
      obtain ⟨A5, c5, rfl⟩ := own_form hown
      have u4 : decide (most < (lt : Int)) = false := decide_eq_false (by omega)
      have HO5 := Lib.hid hown
      have HB5 := Lib.hid hbr
      have HLT := Lib.hid hlt2
      clear hown hbr hlt2
      go_wp2_with fail
      go_ret2
      refine ⟨A5, c5, by rw [HX.out, List.length_append, List.length_replicate, ← HLT.out]; rfl, ?_, HB5.out⟩
      rw [HX.out, List.length_append, List.length_replicate, ← HLT.out]
      exact HO5.out

set_option maxRecDepth 100000 in
set_option maxHeartbeats 1000000 in
theorem refAdd_many (l : List Int) (e most : Int) (a : Option Addr) (c B : Nat) (w : World) (hl : l.length ≤ 1000000) (hmay : Rn.may l 18 e most = true) (hsl : Sl w B a (intsV l)) (hB : B ≤ w.heap.size) :
    Calls Try.prog 7 #[.slice a l.length c, .int .i64 18, .int .i64 e, .int .i64 most] w (AddPost l 18 e most w) := by
  obtain ⟨i0, hi0, hz0, hz1, hz2⟩ := info_parts intInfoC
  have Hi0 := Lib.hid hi0
  have Hz0 := Lib.hid hz0
  have Hz1 := Lib.hid hz1
  have Hz2 := Lib.hid hz2
  clear hi0 hz0 hz1 hz2
  obtain ⟨he0, heT, hne, hfit⟩ := of_decide_eq_true hmay
  rw [show Rn.two 18 = 128 by rfl] at heT
  rw [show Rn.least 18 = 11 by rfl] at hfit
  have HS := Lib.hid hsl
  clear hsl
  obtain ⟨tm, htm⟩ := Int.eq_ofNat_of_zero_le (show 0 ≤ 11 + e by omega)
  have HX := Lib.hid (Rn.ext_of hmay tm 0 (by rw [show Rn.least 18 = 11 by rfl]; exact htm) (by rfl))
  have e1 : IntKind.i64.wrap (11 + e) = (tm : Int) := by rw [IntWalk.i64_in _ (by omega)]; exact htm
  have u1 : decide (e < 0) = false := decide_eq_false (by omega)
  have u2 : decide ((128 : Int) ≤ e) = false := decide_eq_false (by omega)
  have htb : tm ≤ 200 := by omega
  have hfit2 : (l.length : Int) + (tm : Int) ≤ most := by omega
  clear hne hmay hfit
  go_enter Try.func7, Try.ntmps7
  go_wp2_with fail
  refine (refBits_18 w).mono ?_
  rintro en w1 ⟨rfl, rfl⟩
  go_wp2_with (at_builtin; refine wpList_append_sl _ rfl (.tmp 59) (.tmp 60) _ rfl w.heap.size 3 i0 _ 8 Try.underlying22 Hi0.out Hz0.out Hz1.out Hz2.out rfl _ 0 [] rfl (World.ownsRow_lit w #[] 0 (Nat.le_refl _) (by decide) rfl) B _ l.length c (intsV l) (len_intsV l) rfl (HS.out.alloc hB _) (int64s_oneCell l) (by unfold maxLen; omega) (by omega) (by simp) ?_; intro v1 w1 hown1 hgrow1 hat1; have HB1 := Lib.hid (own_below (World.ownsRow_lit (base := w.heap.size) (e := 3) (size := 1) w #[] 0 (Nat.le_refl _) (by decide) rfl) hgrow1 (Nat.le_refl _) (by simp) ((Below.refl _ _).alloc (Nat.le_refl _) _)); rw [Nat.zero_add, List.nil_append] at hown1; have HO1 := Lib.hid hown1; clear hown1 hgrow1 hat1)
  go_loopw [13, 14] (fun lv i wr => ∃ j : Nat, j ≤ tm ∧ i = .int .i64 j ∧ wr.ownsRow w.heap.size 3 1 lv (l.length + j) (intsV (l ++ List.replicate j 0)) ∧ Below w.heap.size w wr) (fun _ i _ => tm - (intOf i).toNat)
  case atStart => exact ⟨0, Nat.zero_le _, rfl, by simpa using HO1.out, HB1.out⟩
  case round =>
    obtain ⟨j, hj, rfl, hown, hbr⟩ := hrel
    have hbs := hbr.size
    by_cases hlt : j < tm
    · have HSN := Lib.hid (show intsV (l ++ List.replicate (j + 1) 0) = intsV (l ++ List.replicate j 0) ++ [.int .i64 0] by
        rw [List.replicate_succ', ← List.append_assoc, ints_snoc])
      generalize intsV (l ++ List.replicate j 0) = xs at hown HSN
      go_wp2_with (at_builtin; refine wpList_append_lies _ rfl (.tmp 67) (.tmp 69) _ rfl w.heap.size 3 i0 _ 1 8 Try.underlying22 Hi0.out Hz0.out Hz1.out Hz2.out rfl (by omega) _ (l.length + j) xs rfl (hown.alloc _) ⟨wr.heap.size, 0, none⟩ 1 1 [.int .i64 0] rfl rfl (World.news_of_block (cs := #[.int .i64 0]) (t := 3) (fr := (0, 0)) (heap_alloc_new wr _)) (by simp [Value.oneCell']) (by omega) (by unfold maxLen; omega) (by omega) (by simp; omega) (wr.heap.size + 1) (by simp) ?_; intro gg cap ww hown1 hgrow hat hlt1; have HO4 := Lib.hid hown1; have HB4 := Lib.hid (own_below (hown.alloc _) hgrow (Nat.le_refl _) (by simp; omega) (hbr.alloc hbs _)); clear hown1 hgrow hat hown hbr)
      go_roundw
      case rel => exact ⟨j + 1, by omega, by go_num, by rw [HSN.out]; exact HO4.out, HB4.out⟩
      case measure => simp [intOf]; omega
    · obtain rfl : j = tm := by omega
      obtain ⟨lt, hlt2⟩ : ∃ lt, lt = l.length + j := ⟨_, rfl⟩
      rw [← hlt2] at hown
      obtain ⟨A5, c5, rfl⟩ := own_form hown
      have u4 : decide (most < (lt : Int)) = false := decide_eq_false (by omega)
      have HO5 := Lib.hid hown
      have HB5 := Lib.hid hbr
      have HLT := Lib.hid hlt2
      clear hown hbr hlt2
      go_wp2_with fail
      go_ret2
      refine ⟨A5, c5, by rw [HX.out, List.length_append, List.length_replicate, ← HLT.out]; rfl, ?_, HB5.out⟩
      rw [HX.out, List.length_append, List.length_replicate, ← HLT.out]
      exact HO5.out

theorem refAdd_any (l : List Int) (s e most : Int) (a : Option Addr) (c B : Nat) (w : World) (h0 : 0 ≤ s) (h18 : s ≤ 18) (hl : l.length ≤ 1000000) (hmay : Rn.may l s e most = true) (hsl : Sl w B a (intsV l)) (hB : B ≤ w.heap.size) :
    Calls Try.prog 7 #[.slice a l.length c, .int .i64 s, .int .i64 e, .int .i64 most] w (AddPost l s e most w) := by
  by_cases h15 : s ≤ 15
  · exact refAdd_small l s e most a c B w h0 h15 hl hmay hsl hB
  · by_cases h16 : s = 16
    · subst h16; exact refAdd_again l e most a c B w hl hmay hsl hB
    · by_cases h17 : s = 17
      · subst h17; exact refAdd_zeros l e most a c B w hl hmay hsl hB
      · obtain rfl : s = 18 := by omega
        exact refAdd_many l e most a c B w hl hmay hsl hB
end Go.Proofs.Ytgnghlcdbilgjaa
