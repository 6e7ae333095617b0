/-
  The law LazyBack returns true: walk. Condition: the levels' table lies as the program text lays it.
-/
import Derived.Test.YtjfmaebgihlegaaDoorLazyLawTokens
import Derived.Test.YtjfmaebgihlegaaDoorTokRefExpand
namespace Go.Proofs.YtjfmaebgihlegaaDoor
open Go.RowKit Go.Maps

theorem expand_got {k : List UInt8} {l : List TokV} {w w' : World} {e : Ending} {o : List UInt8} (ho : Tok.out k l = o) (hn : (Tok.go k l).1 = 0) (h : ExpandPost k l w e w') :
    ∃ A c, e = .returned (.tuple #[.slice A o.length c, .int .i64 0]) ∧ Sl w' w'.heap.size A (bytesV o) ∧ Below w.heap.size w w' := by
  obtain ⟨A, c, h1, h2, _, h4⟩ := h
  rw [ho] at h1 h2
  rw [hn] at h1
  exact ⟨A, c, h1, h2, h4⟩
theorem back_go (K X : List UInt8) (c : CareV) : (Tok.go K (lzF (K ++ X) c ((K ++ X).length - K.length) K.length)).1 = 0 ∧ Tok.out K (lzF (K ++ X) c ((K ++ X).length - K.length) K.length) = X := by
  have h := go_lzF (K ++ X) c ((K ++ X).length - K.length) K.length (by simp) (by simp)
  rw [List.take_left] at h
  unfold Tok.out
  rw [h]
  simp
theorem few2 {n m : Nat} (h : ¬ (n ≤ 400 ∧ m ≤ 400)) : (decide ((400 : Int) < (n : Int)) = true ∧ decide (400 < n) = true) ∨ (decide ((400 : Int) < (n : Int)) = false ∧ decide (400 < n) = false ∧ decide ((400 : Int) < (m : Int)) = true ∧ decide (400 < m) = true) := by
  by_cases c : n ≤ 400
  · exact .inr ⟨decide_eq_false (by omega), decide_eq_false (by omega), decide_eq_true (by omega), decide_eq_true (by omega)⟩
  · exact .inl ⟨decide_eq_true (by omega), decide_eq_true (by omega)⟩

set_option maxRecDepth 100000 in
set_option maxHeartbeats 8000000 in
theorem lazyBack_walk (a : Option Addr) (K : List UInt8) (ka : Nat) (b : Option Addr) (X : List UInt8) (xa : Nat) (lv : Nat) (w : World) (hl1 : K.length ≤ maxLen) (hlk : K.length ≤ ka) (hsk : Sl w w.heap.size a (bytesV K))
    (hl2 : X.length ≤ maxLen) (_hlx : X.length ≤ xa) (hsx : Sl w w.heap.size b (bytesV X)) (hlv : lv < 256) (hc : CaresIs w) :
    Calls Tryd.prog 4 #[.slice a K.length ka, .slice b X.length xa, .int .u8 (lv : Int)] w fun e w' => e = .returned (.bool true) ∧ Below w.heap.size w w' := by
  unfold maxLen at hl1 hl2
  have HK := Lib.hid hsk
  have HX := Lib.hid hsx
  have HC := Lib.hid hc
  clear hsk hsx hc
  by_cases h4 : K.length ≤ 400 ∧ X.length ≤ 400
  case neg =>
    rcases few2 h4 with ⟨t1, t2⟩ | ⟨t1, t2, t3, t4⟩
    · clear h4
      go_enter Tryd.func4, Tryd.ntmps4
      go_wp2_with fail
      (with_reducible refine (awake16_any w HC.out).mono ?_)
      rintro e w1 ⟨rfl, hb1⟩
      go_wp2_with fail
      go_ret
      exact ⟨rfl, hb1⟩
    · clear h4
      go_enter Tryd.func4, Tryd.ntmps4
      go_wp2_with fail
      (with_reducible refine (awake16_any w HC.out).mono ?_)
      rintro e w1 ⟨rfl, hb1⟩
      go_wp2_with fail
      go_ret
      exact ⟨rfl, hb1⟩
  obtain ⟨hk4, hx4⟩ := h4
  have t1 : decide ((400 : Int) < (K.length : Int)) = false := decide_eq_false (by omega)
  have t2 : decide (400 < K.length) = false := decide_eq_false (by omega)
  have t3 : decide ((400 : Int) < (X.length : Int)) = false := decide_eq_false (by omega)
  have t4 : decide (400 < X.length) = false := decide_eq_false (by omega)
  have hmod : ((lv : Int)).tmod 10 = ((lv % 10 : Nat) : Int) := by rw [Int.tmod_eq_emod_of_nonneg (by omega)]; simp
  have hmod2 : ((lv : Int)) % 10 = ((lv % 10 : Nat) : Int) := by simp
  have hn : lv % 10 < 10 := Nat.mod_lt _ (by omega)
  generalize lv % 10 = n at hmod hmod2 hn
  obtain ⟨i0, hi0, hz0, hz1, hz2⟩ := info_parts byteInfoC
  have Hi0 := Lib.hid hi0
  have Hz0 := Lib.hid hz0
  have Hz1 := Lib.hid hz1
  have Hz2 := Lib.hid hz2
  clear hi0 hz0 hz1 hz2
  go_enter Tryd.func4, Tryd.ntmps4
  go_wp2_with fail
  (with_reducible refine (awake16_any w HC.out).mono ?_)
  rintro e w1 ⟨rfl, hb1⟩
  have HB1 := Lib.hid hb1
  have hs1 := hb1.size
  have HLIT := Lib.hid (World.ownsRow_lit (base := w1.heap.size) (e := 5) (size := 1) w1 #[] 0 (Nat.le_refl _) (by decide) rfl)
  have HBA := Lib.hid (hb1.alloc hs1 (.cells #[] 5))
  clear hb1
  go_wp2_with (first
    | (at_builtin; refine wpList_append_sl _ rfl (.tmp 24) (.tmp 25) _ rfl w1.heap.size 5 i0 _ 1 Tryd.underlying22 Hi0.out Hz0.out Hz1.out Hz2.out rfl _ 0 [] rfl HLIT.out w.heap.size a K.length ka (bytesV K) (len_bytesV K) rfl (HK.out.below HBA.out (Nat.le_refl _)) (bytes_oneCell K) (by unfold maxLen; omega) (by omega) (by simp) ?_; intro v5 w5 hown5 hgrow5 hat5; simp only [Nat.zero_add, List.nil_append] at hown5; obtain ⟨A5, c5, rfl⟩ := own_form hown5; have HB5 := Lib.hid (own_below HLIT.out hgrow5 hs1 (by simp; omega) HBA.out); have HO5 := Lib.hid hown5; have hs5 : w1.heap.size ≤ w5.heap.size := (by have := hgrow5.size; simp at this; omega); clear hown5 hgrow5 hat5)
    | (at_builtin; refine wpList_append_sl _ rfl (.tmp 26) (.tmp 27) _ rfl w1.heap.size 5 i0 _ 1 Tryd.underlying22 Hi0.out Hz0.out Hz1.out Hz2.out rfl (.slice A5 K.length c5) K.length (bytesV K) rfl HO5.out w.heap.size b X.length xa (bytesV X) (len_bytesV X) rfl (HX.out.below HB5.out (Nat.le_refl _)) (bytes_oneCell X) (by unfold maxLen; omega) (by omega) hs5 ?_; intro v6 w6 hown6 hgrow6 hat6; obtain ⟨A6, c6, rfl⟩ := own_form hown6; have HB6 := Lib.hid (own_below HO5.out hgrow6 hs1 (Nat.le_trans hs1 hs5) HB5.out); have HO6 := Lib.hid hown6; clear hown6 hgrow6 hat6))
  have hlen : (K ++ X).length = K.length + X.length := List.length_append
  have TK := tokens_any (K ++ X) A6 c6 w6.heap.size K.length n w6 (by omega) (by have h := HO6.out; rw [← bytes_append] at h; exact Sl.of_own h) (Nat.le_refl _) (by omega) hn (HC.out.below HB6.out)
  obtain ⟨bg1, bg2⟩ := back_go K X (careAt n)
  have hRl := len_lzF (K ++ X) (careAt n) ((K ++ X).length - K.length) K.length
  have hRz := lzF_sizes (K ++ X) (careAt n) ((K ++ X).length - K.length) K.length (by omega) (by omega)
  generalize lzF (K ++ X) (careAt n) ((K ++ X).length - K.length) K.length = R at TK bg1 bg2 hRl hRz
  rw [hlen] at TK hRl hRz
  have hRl2 : R.length ≤ X.length := by omega
  rw [Nat.add_sub_cancel_left] at hRz
  have BG1 := Lib.hid bg1
  have BG2 := Lib.hid bg2
  have HRZ := Lib.hid hRz
  have HTK := Lib.hid TK
  clear TK bg1 bg2 hRz hlen hRl HLIT HBA
  (refine HTK.out.mono ?_)
  rintro e w7 ⟨A7, c7, rfl, ho7, hb7⟩
  have HB7 := Lib.hid (HB6.out.trans (hb7.mono HB6.out.size))
  have HS7 := Lib.hid (Sl.of_ownN ho7)
  have EX := Lib.hid (expand_any K R a A7 ka c7 w7.heap.size w7 (by omega) (by omega) hlk ((HK.out.below HB7.out (Nat.le_refl _)).more HB7.out.size) HS7.out (Nat.le_refl _))
  clear ho7 hb7 HTK HO6 HO5
  go_wp2_with fail
  (refine EX.out.mono ?_)
  intro e w8 hex
  obtain ⟨A8, c8, rfl, hs8, hb8⟩ := expand_got BG2.out BG1.out hex
  have HB8 := Lib.hid (HB7.out.trans (hb8.mono HB7.out.size))
  have HS8 := Lib.hid hs8
  have HS7b := Lib.hid ((HS7.out.below hb8 (Nat.le_refl _)).more hb8.size)
  clear hex hs8 hb8 EX HS7
  go_wp2_with fail
  (refine (refs_gives A7 c7 w8 (by omega) HS7b.out).mono ?_)
  rintro e w9 ⟨A9, c9, rfl, hs9, hb9⟩
  have HB9 := Lib.hid (HB8.out.trans (hb9.mono HB8.out.size))
  have HS8b := Lib.hid ((HS8.out.below hb9 (Nat.le_refl _)).more hb9.size)
  have HS7c := Lib.hid ((HS7b.out.below hb9 (Nat.le_refl _)).more hb9.size)
  have EX := Lib.hid (refExpand_any K R a A9 ka c9 w9.heap.size w9 (by omega) (by omega) ((HK.out.below HB9.out (Nat.le_refl _)).more HB9.out.size) hs9 (Nat.le_refl _))
  clear hs9 hb9 HS8 HS7b
  go_wp2_with fail
  (refine EX.out.mono ?_)
  intro e w10 hex
  obtain ⟨A10, c10, rfl, hs10, hb10⟩ := expand_got BG2.out BG1.out hex
  have HB10 := Lib.hid (HB9.out.trans (hb10.mono HB9.out.size))
  have HS8c := Lib.hid ((HS8b.out.below hb10 (Nat.le_refl _)).more hb10.size)
  have HS7d := Lib.hid ((HS7c.out.below hb10 (Nat.le_refl _)).more hb10.size)
  have r1 := run_str (P := Tryd.prog) w10 w10.heap.size 22 9 5 A8 X c8 Tryd.underlying22 Tryd.underlying5 Tryd.underlying9 HS8c.out
  have r2 := run_str (P := Tryd.prog) w10 w10.heap.size 22 9 5 A10 X c10 Tryd.underlying22 Tryd.underlying5 Tryd.underlying9 hs10
  have r3 := run_str (P := Tryd.prog) w10 w10.heap.size 22 9 5 b X xa Tryd.underlying22 Tryd.underlying5 Tryd.underlying9 ((HX.out.below HB10.out (Nat.le_refl _)).more HB10.out.size)
  generalize strOf X = sx at r1 r2 r3
  have SZ := sizes_any R A7 c7 w10.heap.size w10 (by omega) HS7d.out (Nat.le_refl _)
  rw [HRZ.out] at SZ
  have HSZ := Lib.hid SZ
  have u1 : decide (R.length ≤ X.length) = true := decide_eq_true hRl2
  clear hex hs10 hb10 EX HS8b HS7c SZ
  go_wp2_with fail
  (refine HSZ.out.mono ?_)
  rintro e w11 ⟨rfl, hb11⟩
  have HB11 := Lib.hid (HB10.out.trans (hb11.mono HB10.out.size))
  clear hb11
  go_wp2_with fail
  go_ret
  exact ⟨by simp, HB11.out⟩
end Go.Proofs.YtjfmaebgihlegaaDoor
