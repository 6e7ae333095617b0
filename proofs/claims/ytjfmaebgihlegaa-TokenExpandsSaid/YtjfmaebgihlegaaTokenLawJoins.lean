/-
  The law TokenJoins returns true: walk.
-/
import Derived.Test.YtjfmaebgihlegaaTokLits
namespace Go.Proofs.Ytjfmaebgihlegaa
open Go.RowKit

theorem strOf_append (a b : List UInt8) : strOf a ++ strOf b = strOf (a ++ b) := by
  apply ByteArray.ext
  simp [strOf]
theorem strOf_size (l : List UInt8) : (strOf l).size = l.length := by simp [strOf, ByteArray.size]
theorem few_both {n m : Nat} (h1 : n ≤ 1000) (h2 : m ≤ 100) : (decide (n ≤ 1000) && decide (m ≤ 100)) = true := by simp [h1, h2]
theorem few_none {n m : Nat} (h : ¬ (n ≤ 1000 ∧ m ≤ 100)) : (decide (n ≤ 1000) && decide (m ≤ 100)) = false := by
  by_cases h1 : n ≤ 1000
  · have h2 : ¬ m ≤ 100 := fun h2 => h ⟨h1, h2⟩
    simp [h2]
  · simp [h1]
/-- what Expand says, read -/
theorem expand_read {k : List UInt8} {l : List TokV} {w w' : World} {e : Ending} {o : List UInt8} {n : Nat} (ho : Tok.out k l = o) (hn : (Tok.go k l).1 = n) (h : ExpandPost k l w e w') :
    ∃ A c, e = .returned (.tuple #[.slice A o.length c, .int .i64 (n : Int)]) ∧ Sl w' w'.heap.size A (bytesV o) ∧ o.length ≤ c ∧ Below w.heap.size w w' := by
  subst ho hn
  exact h

set_option maxRecDepth 100000 in
set_option maxHeartbeats 4000000 in
theorem tokenJoins_walk (a : Option Addr) (k : List UInt8) (c : Nat) (b1 : Option Addr) (l : List TokV) (c1 : Nat) (b2 : Option Addr) (m : List TokV) (c2 : Nat) (w : World)
    (_h1 : k.length ≤ maxLen) (hkc : k.length ≤ c) (hsk : Sl w w.heap.size a (bytesV k)) (_h2 : l.length ≤ maxLen) (_h3 : l.length ≤ c1) (_hl : ∀ o ∈ l, o.ok) (hsl : Sl w w.heap.size b1 (l.flatMap TokV.cells))
    (_h4 : m.length ≤ maxLen) (_h5 : m.length ≤ c2) (_hm : ∀ o ∈ m, o.ok) (hsm : Sl w w.heap.size b2 (m.flatMap TokV.cells)) :
    Calls Try.prog 3 #[.slice a k.length c, .slice b1 l.length c1, .slice b2 m.length c2] w fun e w' => e = .returned (.bool true) ∧ Below w.heap.size w w' := by
  have HK := Lib.hid hsk
  have HL := Lib.hid hsl
  have HM := Lib.hid hsm
  clear hsk hsl hsm _h1 _h2 _h3 _h4 _h5 _hl _hm
  have FW1 := Lib.hid (fun W => few_any k.length l.length a b1 c c1 W)
  have FW2 := Lib.hid (fun W => few_any k.length m.length a b2 c c2 W)
  by_cases f1 : k.length ≤ 1000 ∧ l.length ≤ 100
  case neg =>
    have FN := Lib.hid (few_none f1)
    clear f1
    go_enter Try.func3, Try.ntmps3
    go_wp2_with fail
    refine (awake14_any w).mono ?_
    rintro e w1 ⟨rfl, hb1⟩
    go_wp2_with fail
    refine (FW1.out _).mono ?_
    rintro e w2 ⟨rfl, rfl⟩
    rw [FN.out]
    go_wp2_with fail
    go_ret
    exact ⟨rfl, hb1⟩
  by_cases f2 : k.length ≤ 1000 ∧ m.length ≤ 100
  case neg =>
    have FN1 := Lib.hid (few_both f1.1 f1.2)
    have FN := Lib.hid (few_none f2)
    clear f1 f2
    go_enter Try.func3, Try.ntmps3
    go_wp2_with fail
    refine (awake14_any w).mono ?_
    rintro e w1 ⟨rfl, hb1⟩
    go_wp2_with fail
    refine (FW1.out _).mono ?_
    rintro e w2 ⟨rfl, rfl⟩
    rw [FN1.out]
    go_wp2_with fail
    refine (FW2.out _).mono ?_
    rintro e w2 ⟨rfl, rfl⟩
    rw [FN.out]
    go_wp2_with fail
    go_ret
    exact ⟨rfl, hb1⟩
  have FN1 := Lib.hid (few_both f1.1 f1.2)
  have FN2 := Lib.hid (few_both f2.1 f2.2)
  obtain ⟨hk1, hl1⟩ := f1
  obtain ⟨-, hm1⟩ := f2
  obtain ⟨i0, hi0, hz0, hz1, hz2⟩ := info_parts tokInfo
  have Hi0 := Lib.hid hi0
  have Hz0 := Lib.hid hz0
  have Hz1 := Lib.hid hz1
  have Hz2 := Lib.hid hz2
  clear hi0 hz0 hz1 hz2
  obtain ⟨j0, hj0, hy0, hy1, hy2⟩ := info_parts byteInfoC
  have Hj0 := Lib.hid hj0
  have Hy0 := Lib.hid hy0
  have Hy1 := Lib.hid hy1
  have Hy2 := Lib.hid hy2
  clear hj0 hy0 hy1 hy2
  go_enter Try.func3, Try.ntmps3
  go_wp2_with fail
  refine (awake14_any w).mono ?_
  rintro e w1 ⟨rfl, hb1⟩
  have HB1 := Lib.hid hb1
  clear hb1
  go_wp2_with fail
  refine (FW1.out _).mono ?_
  rintro e w2 ⟨rfl, rfl⟩
  rw [FN1.out]
  go_wp2_with fail
  refine (FW2.out _).mono ?_
  rintro e w2 ⟨rfl, rfl⟩
  rw [FN2.out]
  clear FW1 FW2 FN1 FN2
  go_wp2_with fail
  refine (literals_any k a c w.heap.size w1 (by omega) (HK.out.below HB1.out (Nat.le_refl _)) HB1.out.size).mono ?_
  rintro e w2 ⟨A2, d2, rfl, hs2, hb2⟩
  have HB2 := Lib.hid (HB1.out.trans (hb2.mono HB1.out.size))
  have EX := expand_any [] (Tok.lits k) none A2 0 d2 w2.heap.size w2 (by simp) (by rw [Tok.len_lits]; omega) (by simp) Sl.nil hs2 (Nat.le_refl _)
  rw [Tok.len_lits] at EX
  have HEX := Lib.hid EX
  clear EX hs2 hb2
  go_wp2_with fail
  refine HEX.out.mono ?_
  intro e w3 hE
  obtain ⟨A3, d3, rfl, hs3, -, hb3⟩ := expand_read (o := k) (n := 0) (by simp [Tok.out, Tok.go_lits]) (by rw [Tok.go_lits]) hE
  have HB3 := Lib.hid (HB2.out.trans (hb3.mono HB2.out.size))
  have r1 := run_str (P := Try.prog) w3 w3.heap.size 22 9 5 A3 k d3 Try.underlying22 Try.underlying5 Try.underlying9 hs3
  have r2 := run_str (P := Try.prog) w3 w.heap.size 22 9 5 a k c Try.underlying22 Try.underlying5 Try.underlying9 (HK.out.below HB3.out (Nat.le_refl _))
  rw [show ((0 : Nat) : Int) = 0 from rfl]
  clear hE hs3 hb3 HEX
  have hs3 := HB3.out.size
  go_wp2_with (first
    | (at_builtin; refine wpList_append_sz _ rfl (.tmp 44) (.tmp 45) _ rfl w.heap.size 36 i0 _ 3 24 Try.underlying23 Hi0.out Hz0.out Hz1.out Hz2.out rfl (by omega) _ 0 [] rfl (World.ownsRow_lit w3 #[] 0 hs3 (by decide) rfl) w.heap.size b1 l.length c1 (l.flatMap TokV.cells) (toks_len l) rfl ((HL.out.below HB3.out (Nat.le_refl _)).alloc hs3 _) (toks_oneCell l) (by unfold maxLen; omega) (by omega) (by simp; omega) ?_; intro v4 w4 hown4 hgrow4 hat4; have HB4 := Lib.hid (own_below (World.ownsRow_lit (base := w.heap.size) (e := 36) (size := 3) w3 #[] 0 hs3 (by decide) rfl) hgrow4 (Nat.le_refl _) (by simp; omega) (HB3.out.alloc hs3 _)); rw [Nat.zero_add, List.nil_append] at hown4; have HO4 := Lib.hid hown4; clear hown4 hgrow4 hat4)
    | (at_builtin; refine wpList_append_sz _ rfl (.tmp 46) (.tmp 47) _ rfl w.heap.size 36 i0 _ 3 24 Try.underlying23 Hi0.out Hz0.out Hz1.out Hz2.out rfl (by omega) _ l.length (l.flatMap TokV.cells) rfl HO4.out w.heap.size b2 m.length c2 (m.flatMap TokV.cells) (toks_len m) rfl (HM.out.below HB4.out (Nat.le_refl _)) (toks_oneCell m) (by unfold maxLen; omega) (by omega) HB4.out.size ?_; intro v5 w5 hown5 hgrow5 hat5; have HB5 := Lib.hid (own_below HO4.out hgrow5 (Nat.le_refl _) HB4.out.size HB4.out); obtain ⟨A5, d5, rfl⟩ := own_form hown5; have HO5 := Lib.hid hown5; clear hown5 hgrow5 hat5))
  have HSLM := Lib.hid (show Sl w5 w5.heap.size A5 ((l ++ m).flatMap TokV.cells) by
    have h := Sl.of_ownN HO5.out
    rw [← List.flatMap_append] at h
    exact h)
  have EX2 := expand_any k (l ++ m) a A5 c d5 w5.heap.size w5 (by omega) (by simp; omega) hkc ((HK.out.below HB5.out (Nat.le_refl _)).more HB5.out.size) HSLM.out (Nat.le_refl _)
  rw [show (l ++ m).length = l.length + m.length by simp] at EX2
  have HEX := Lib.hid EX2
  clear EX2 HO5 HO4 HSLM r1 r2
  (with_reducible refine HEX.out.mono ?_)
  rintro e w6 ⟨A6, d6, rfl, hs6, -, hb6⟩
  have HB6 := Lib.hid (HB5.out.trans (hb6.mono HB5.out.size))
  have HS6 := Lib.hid hs6
  clear hs6 hb6 HEX
  have EX3 := Lib.hid (expand_any k l a b1 c c1 w.heap.size w6 (by omega) (by omega) hkc (HK.out.below HB6.out (Nat.le_refl _)) (HL.out.below HB6.out (Nat.le_refl _)) HB6.out.size)
  have hol := Tok.out_len k l
  by_cases hg : (Tok.go k l).1 = 0
  · have HKO := Lib.hid (Tok.out_ok hg)
    have HCD := Lib.hid (show (Tok.go k (l ++ m)).1 = (Tok.go (k ++ Tok.out k l) m).1 by rw [Tok.go_append, if_pos hg, HKO.out])
    have HG := Lib.hid hg
    clear hg
    go_wp2_with fail
    (with_reducible refine EX3.out.mono ?_)
    intro e w7 hE
    obtain ⟨A7, d7, rfl, hs7, -, hb7⟩ := expand_read (o := Tok.out k l) (n := 0) rfl HG.out hE
    have HB7 := Lib.hid (HB6.out.trans (hb7.mono HB6.out.size))
    have HS7 := Lib.hid hs7
    have HS67 := Lib.hid (HS6.out.below hb7 (Nat.le_refl _))
    have HB67 := Lib.hid hb7
    have h7 := HB7.out.size
    rw [show ((0 : Nat) : Int) = 0 from rfl]
    clear hE hs7 hb7 EX3 HS6
    obtain ⟨o1, ho1⟩ : ∃ o1, o1 = Tok.out k l := ⟨_, rfl⟩
    rw [← ho1] at HS7 hol HCD ⊢
    have HO1 := Lib.hid ho1
    clear ho1
    go_wp2_with (first
      | (at_builtin; refine wpList_append_sl _ rfl (.tmp 64) (.tmp 65) _ rfl w7.heap.size 5 j0 _ 1 Try.underlying22 Hj0.out Hy0.out Hy1.out Hy2.out rfl _ 0 [] rfl (World.ownsRow_lit w7 #[] 0 (Nat.le_refl _) (by decide) rfl) w.heap.size a k.length c (bytesV k) (len_bytesV k) rfl ((HK.out.below HB7.out (Nat.le_refl _)).alloc h7 _) (bytes_oneCell k) (by unfold maxLen; omega) (by omega) (by simp) ?_; intro v8 w8 hown8 hgrow8 hat8; have HB78 := Lib.hid (own_below (World.ownsRow_lit (base := w7.heap.size) (e := 5) (size := 1) w7 #[] 0 (Nat.le_refl _) (by decide) rfl) hgrow8 (Nat.le_refl _) (by simp) ((Below.refl w7.heap.size w7).alloc (Nat.le_refl _) _)); have HS78 := Lib.hid (HS7.out.below HB78.out (Nat.le_refl _)); rw [Nat.zero_add, List.nil_append] at hown8; have HO8 := Lib.hid hown8; clear hown8 hgrow8 hat8)
      | (at_builtin; refine wpList_append_sl _ rfl (.tmp 66) (.tmp 67) _ rfl w7.heap.size 5 j0 _ 1 Try.underlying22 Hj0.out Hy0.out Hy1.out Hy2.out rfl _ k.length (bytesV k) rfl HO8.out w7.heap.size A7 o1.length d7 (bytesV o1) (len_bytesV o1) rfl HS78.out (bytes_oneCell o1) (by unfold maxLen; omega) (by omega) HB78.out.size ?_; intro v9 w9 hown9 hgrow9 hat9; obtain ⟨A9, d9, rfl⟩ := own_form hown9; have HB79 := Lib.hid (own_below HO8.out hgrow9 (Nat.le_refl _) HB78.out.size HB78.out); have HO9 := Lib.hid hown9; clear hown9 hgrow9 hat9))
    have HB9 := Lib.hid (HB7.out.trans (HB79.out.mono h7))
    have EX4 := expand_any (k ++ o1) m A9 b2 d9 c2 w9.heap.size w9 (by rw [List.length_append]; omega) (by omega) (by rw [List.length_append]; exact own_cap HO9.out) (by rw [bytes_append]; exact Sl.of_own HO9.out) ((HM.out.below HB9.out (Nat.le_refl _)).more HB9.out.size) (Nat.le_refl _)
    rw [List.length_append] at EX4
    have HEX := Lib.hid EX4
    clear EX4
    (with_reducible refine HEX.out.mono ?_)
    rintro e w10 ⟨A10, d10, rfl, hs10, -, hb10⟩
    have HB710 := Lib.hid (HB79.out.trans (hb10.mono HB79.out.size))
    have HB10 := Lib.hid (HB7.out.trans (HB710.out.mono h7))
    have HS10 := Lib.hid hs10
    clear hs10 hb10 HEX HO9
    rw [HCD.out]
    by_cases hh : (Tok.go (k ++ o1) m).1 = 0
    · have r6 := run_str (P := Try.prog) w10 w6.heap.size 22 9 5 A6 _ d6 Try.underlying22 Try.underlying5 Try.underlying9 (HS67.out.below HB710.out HB67.out.size)
      have r7 := run_str (P := Try.prog) w10 w7.heap.size 22 9 5 A7 _ d7 Try.underlying22 Try.underlying5 Try.underlying9 (HS7.out.below HB710.out (Nat.le_refl _))
      have r10 := run_str (P := Try.prog) w10 w10.heap.size 22 9 5 A10 _ d10 Try.underlying22 Try.underlying5 Try.underlying9 HS10.out
      have hj : strOf o1 ++ strOf (Tok.out (k ++ o1) m) = strOf (Tok.out k (l ++ m)) := by
        rw [strOf_append, HO1.out, Tok.out_join HG.out (by rw [← HO1.out]; exact hh)]
      rw [hh, show ((0 : Nat) : Int) = 0 from rfl]
      clear hh
      have hsz : (strOf o1).size + (strOf (Tok.out (k ++ o1) m)).size ≤ 100000 := by
        have h2 := Tok.out_len (k ++ o1) m
        rw [strOf_size, strOf_size]; omega
      generalize Tok.out (k ++ o1) m = o2 at r10 hj hsz ⊢
      generalize Tok.out k (l ++ m) = o3 at r6 hj ⊢
      generalize strOf o1 = s1 at r7 hj hsz
      generalize strOf o2 = s2 at r10 hj hsz
      generalize strOf o3 = s3 at r6 hj
      subst hj
      have hsz2 : ¬ 9223372036854775807 < s1.size + s2.size := by omega
      go_wp2_with fail
      go_ret
      exact ⟨rfl, HB10.out⟩
    · generalize hn : (Tok.go (k ++ o1) m).1 = n at hh
      have tn : ((n : Int) != 0) = true := by simp; omega
      have tn2 : ((n : Int) == 0) = false := by simp; omega
      clear hn hh
      generalize (Tok.out (k ++ o1) m).length = ol
      generalize (Tok.out k (l ++ m)).length = ol2
      go_wp2_with fail
      go_ret
      exact ⟨rfl, HB10.out⟩
  · have HCD := Lib.hid (show (Tok.go k (l ++ m)).1 = (Tok.go k l).1 by rw [Tok.go_append, if_neg hg])
    have HG := Lib.hid hg
    clear hg
    go_wp2_with fail
    (with_reducible refine EX3.out.mono ?_)
    intro e w7 hE
    obtain ⟨A7, d7, rfl, -, -, hb7⟩ := hE
    have HB7 := Lib.hid (HB6.out.trans (hb7.mono HB6.out.size))
    clear hb7 EX3
    rw [HCD.out]
    generalize hn : (Tok.go k l).1 = n at HG
    have tn : ((n : Int) != 0) = true := by have h := HG.out; simp; omega
    have tn2 : ((n : Int) == 0) = false := by have h := HG.out; simp; omega
    clear hn HCD HG
    generalize (Tok.out k l).length = ol
    generalize (Tok.out k (l ++ m)).length = ol2
    go_wp2_with fail
    go_ret
    exact ⟨rfl, HB7.out⟩
end Go.Proofs.Ytjfmaebgihlegaa
