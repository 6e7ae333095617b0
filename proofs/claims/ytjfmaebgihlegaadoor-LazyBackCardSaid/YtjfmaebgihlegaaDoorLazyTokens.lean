/-
  lazy.Tokens: its contract. Condition: the levels' table lies as the program text lays it.
-/
import Derived.Test.YtjfmaebgihlegaaDoorLazyParse2
import Derived.OwnWalk
import Derived.StillTailTactics
namespace Go.Proofs.YtjfmaebgihlegaaDoor
open Go.RowKit Go.Maps

set_option maxHeartbeats 1000000 in
theorem tokens_noLevel (A : Option Addr) (n C : Nat) (fr lv : Int) (w : World) (hl : lv < 0 ∨ 10 ≤ lv) :
    Calls Tryd.prog 8 #[.slice A n C, .int .i64 fr, .int .i64 lv] w fun e w' => e = .returned (.tuple #[.slice none 0 0, .int .i64 1]) ∧ Below w.heap.size w w' := by
  have LV := level_out lv w hl
  unfold careV noCare at LV
  simp only at LV
  have HLV := Lib.hid LV
  clear LV hl
  go_enter Tryd.func8, Tryd.ntmps8
  go_wp2_with fail
  (with_reducible refine HLV.out.mono ?_)
  rintro e w1 ⟨rfl, hb1⟩
  have HB := Lib.hid hb1
  clear hb1 HLV
  go_wp2_with fail
  go_ret2
  exact ⟨rfl, HB.out.alloc HB.out.size _⟩
set_option maxHeartbeats 1000000 in
theorem tokens_noFrom (A : Option Addr) (len C n : Nat) (fr : Int) (w : World) (hn : n < 10) (hc : CaresIs w) (hlm : len ≤ maxLen) (hf : fr < 0 ∨ (len : Int) < fr) :
    Calls Tryd.prog 8 #[.slice A len C, .int .i64 fr, .int .i64 (n : Int)] w fun e w' => e = .returned (.tuple #[.slice none 0 0, .int .i64 1]) ∧ Below w.heap.size w w' := by
  have LV := level_in n w hn hc
  unfold careV at LV
  generalize careAt n = c at LV
  obtain ⟨cd, cw, cg⟩ := c
  simp only at LV
  have HLV := Lib.hid LV
  unfold maxLen at hlm
  clear LV hc
  rcases hf with hf | hf
  · have t1 : decide (fr < 0) = true := decide_eq_true hf
    go_enter Tryd.func8, Tryd.ntmps8
    go_wp2_with fail
    (with_reducible refine HLV.out.mono ?_)
    rintro e w1 ⟨rfl, hb1⟩
    have HB := Lib.hid hb1
    clear hb1 HLV
    go_wp2_with fail
    go_ret2
    exact ⟨rfl, HB.out.alloc HB.out.size _⟩
  · have t1 : decide (fr < 0) = false := decide_eq_false (by omega)
    have t2 : decide ((len : Int) < fr) = true := decide_eq_true hf
    go_enter Tryd.func8, Tryd.ntmps8
    go_wp2_with fail
    (with_reducible refine HLV.out.mono ?_)
    rintro e w1 ⟨rfl, hb1⟩
    have HB := Lib.hid hb1
    clear hb1 HLV
    go_wp2_with fail
    go_ret2
    exact ⟨rfl, HB.out.alloc HB.out.size _⟩

def GivesT2 (E : TypeId) (l : List TokV) (w : World) (e : Ending) (w' : World) : Prop :=
  ∃ A c, e = .returned (.tuple #[.slice A l.length c, .int .i64 0]) ∧ w'.ownsRow w.heap.size E 3 (.slice A l.length c) l.length (l.flatMap TokV.cells) ∧ Below w.heap.size w w'
set_option maxRecDepth 100000 in
set_option maxHeartbeats 4000000 in
theorem tokens_some (D : List UInt8) (A : Option Addr) (C B i0 n : Nat) (w : World) (hl : D.length ≤ 1000) (hs : Sl w B A (bytesV D)) (hB : B ≤ w.heap.size) (hi : i0 ≤ D.length) (hn : n < 10) (hn0 : 0 < n) (hc : CaresIs w) :
    Calls Tryd.prog 8 #[.slice A D.length C, .int .i64 (i0 : Int), .int .i64 (n : Int)] w (GivesT2 48 (lzF D (careAt n) (D.length - i0) i0) w) := by
  have LV := level_in n w hn hc
  obtain ⟨i1, hi1, hy0, hy1, hy2⟩ := info_parts byteInfoC
  have hsl := run_slice_from Tryd.underlying22 hi1 hy1 A D.length C 0 (by omega)
  have hra : restAt A C 0 = A := by
    unfold restAt
    split
    · rfl
    · cases A with
      | none => rfl
      | some a => simp [Addr.add]
  rw [hra, show ((0 : Nat) : Int) = 0 from rfl, Nat.sub_zero, Nat.sub_zero] at hsl
  have hmax : ∀ W, (Builtin.max_ #[3, 3] 3 #[.int .i64 0, .int .i64 ((i0 : Int) - 32768)]).run Tryd.prog W = .ok (.int .i64 0) W := fun W => by
    have e : (0 : Int) = if (i0 : Int) - 32768 > 0 then (i0 : Int) - 32768 else 0 := by split <;> omega
    conv => rhs; rw [e]
    simp [go_sem]
  have PA := Lib.hid (fun W (hb : Below w.heap.size w W) => parse_any D A C B i0 (careAt n) W (by omega) (hs.below hb hB) (Nat.le_trans hB hb.size) hi (by have := careAt_le n; omega) (by have := careAt_le n; omega))
  have HCS := Lib.hid hc
  unfold careV at LV PA
  obtain ⟨R, hR⟩ : ∃ R, R = lzF D (careAt n) (D.length - i0) i0 := ⟨_, rfl⟩
  rw [← hR] at PA ⊢
  generalize careAt n = c at LV PA hR
  obtain ⟨cd, cw, cg⟩ := c
  simp only at LV PA
  have HLV := Lib.hid LV
  have t1 : decide ((i0 : Int) < 0) = false := decide_eq_false (by omega)
  have t2 : decide (D.length < i0) = false := decide_eq_false (by omega)
  have t3 : ((n : Int) == 0) = false := beq_eq_false_iff_ne.2 (by omega)
  have i0' : (0 : Int) ≤ (i0 : Int) := Int.natCast_nonneg _
  have hir : (i0 : Int) ≤ 1000 := by omega
  clear LV hc hi1 hy0 hy1 hy2 hra hR hs
  go_enter Tryd.func8, Tryd.ntmps8
  go_wp2_with fail
  (with_reducible refine HLV.out.mono ?_)
  rintro e w1 ⟨rfl, hb1⟩
  have HB := Lib.hid (hb1.alloc hb1.size (.cells #[.int .i64 (cd : Int), .bool cw, .int .i64 (cg : Int)] 25))
  clear hb1 HLV
  go_upto_region 13 with (fail)
  obtain ⟨W, hW⟩ : ∃ W, w1.alloc (.cells #[.int .i64 (cd : Int), .bool cw, .int .i64 (cg : Int)] 25) = W := ⟨_, rfl⟩
  obtain ⟨N, hN⟩ : ∃ N, w1.heap.size = N := ⟨_, rfl⟩
  have hM : Whole W N 25 #[.int .i64 (cd : Int), .bool cw, .int .i64 (cg : Int)] := by rw [← hW, ← hN]; exact Whole.new _ _ _
  have m0 := hM.cell 0
  have m1 := hM.cell 1
  have m2 := hM.cell 2
  simp at m0 m1 m2
  rw [hW] at HB
  rw [hW, hN]
  clear hW hN hM
  have PB := Lib.hid (fun m => PA.out (W.drewN m) (below_drewN HB.out m))
  clear PA
  go_still_tail 7, (by kernel_rfl)
  go_wp2_with fail
  refine (PB.out 1).mono ?_
  rintro e w2 ⟨A2, c2, rfl, ho2, hb2⟩
  have hbs := HB.out.size
  have HO := Lib.hid (own_base ho2 (show w.heap.size ≤ (W.drewN 1).heap.size from hbs))
  have HB2 := Lib.hid ((below_drewN HB.out 1).trans (hb2.mono hbs))
  clear ho2 hb2 PB
  go_wp2_with fail
  go_ret2
  exact ⟨A2, c2, rfl, HO.out, HB2.out⟩

theorem lz_zero (D : List UInt8) (i : Nat) : ¬ 3 ≤ (longL D i 0).1 := by
  unfold longL
  split
  · rw [Nat.zero_min, walkL_zero]; simp
  · simp
theorem careAt_zero : careAt 0 = ⟨0, false, 0⟩ := rfl
set_option maxRecDepth 100000 in
set_option maxHeartbeats 4000000 in
theorem tokens_zero (D : List UInt8) (A : Option Addr) (C B i0 : Nat) (w : World) (hl : D.length ≤ 1000) (hs : Sl w B A (bytesV D)) (hB : B ≤ w.heap.size) (hi : i0 ≤ D.length) (hc : CaresIs w) :
    Calls Tryd.prog 8 #[.slice A D.length C, .int .i64 (i0 : Int), .int .i64 0] w (GivesT2 48 (lzF D (careAt 0) (D.length - i0) i0) w) := by
  have LV := level_in 0 w (by omega) hc
  rw [careAt_zero, show ((0 : Nat) : Int) = 0 from rfl] at LV
  rw [careAt_zero]
  unfold careV at LV
  simp only at LV
  obtain ⟨ti, hi0, hz0, hz1, hz2⟩ := info_parts tokInfo
  have Hi0 := Lib.hid hi0
  have Hz0 := Lib.hid hz0
  have Hz1 := Lib.hid hz1
  have Hz2 := Lib.hid hz2
  have HS := Lib.hid hs
  obtain ⟨R, hR⟩ : ∃ R, R = lzF D ⟨0, false, 0⟩ (D.length - i0) i0 := ⟨_, rfl⟩
  have hRl : R.length ≤ D.length - i0 := by rw [hR]; exact len_lzF D ⟨0, false, 0⟩ (D.length - i0) i0
  have HR := Lib.hid hR
  rw [← hR]
  have HLV := Lib.hid LV
  obtain ⟨nn, hnn⟩ : ∃ nn, nn = D.length - i0 := ⟨_, rfl⟩
  have e1 : (D.length : Int) - (i0 : Int) = (nn : Int) := by omega
  have hnn2 : i0 + nn = D.length := by omega
  rw [← hnn] at hRl
  have HNN := Lib.hid hnn
  have t1 : decide ((i0 : Int) < 0) = false := decide_eq_false (by omega)
  have t2 : decide (D.length < i0) = false := decide_eq_false (by omega)
  have i0' : (0 : Int) ≤ (i0 : Int) := Int.natCast_nonneg _
  have hir : (i0 : Int) ≤ 1000 := by omega
  have Hz3 := Lib.hid (show ti.bytes * nn ≤ 281474976710656 by rw [hz2]; omega)
  clear LV hc hi0 hz0 hz1 hz2 hs hR hnn
  go_enter Tryd.func8, Tryd.ntmps8
  go_wp2_with fail
  (with_reducible refine HLV.out.mono ?_)
  rintro e w1 ⟨rfl, hb1⟩
  have hs1 := hb1.size
  have HB := Lib.hid (hb1.alloc hb1.size (.cells #[.int .i64 0, .bool false, .int .i64 0] 25))
  clear hb1 HLV
  go_wp2_with (at_make; refine wpList_make_own _ rfl _ _ _ rfl w.heap.size 48 ti _ 3 Tryd.underlying31 Hi0.out Hz0.out Hz1.out .i64 .i64 _ nn rfl rfl rfl Hz3.out (by unfold maxLen; omega) (by simp; omega) ?_; intro w2 hown2 hgrow2)
  have HO2 := Lib.hid hown2
  have HB2 := Lib.hid (HB.out.grown hgrow2 (by simp; omega) (fun k hk => by cases hk))
  clear hown2 hgrow2 HB
  go_wp2_with fail
  go_loopw [10, 41] (fun v k wr => ∃ (j m : Nat) (L : List TokV), k = .int .i64 (j : Int) ∧ j ≤ nn ∧ wr.ownsRow w.heap.size 48 3 v L.length (L.flatMap TokV.cells) ∧ Below w.heap.size w wr ∧ L ++ lzF D ⟨0, false, 0⟩ m (i0 + j) = R ∧ D.length ≤ i0 + j + m) (fun _ k _ => nn - (intOf k).toNat)
  case atStart => exact ⟨0, nn, [], rfl, Nat.zero_le _, by simpa using HO2.out, HB2.out, by rw [HR.out, ← HNN.out]; rfl, by omega⟩
  case round =>
    obtain ⟨j, m, L, rfl, hj, hown, hbr, hLR, hm⟩ := hrel
    clear HR HO2 HB2
    obtain ⟨A9, c9, rfl⟩ := own_form hown
    have hsw := hbr.size
    have hLl : L.length ≤ D.length := by have := congrArg List.length hLR; rw [List.length_append] at this; omega
    have j0 : (0 : Int) ≤ (j : Int) := Int.natCast_nonneg _
    by_cases hlt : j < nn
    case neg =>
      have hL : L = R := by rw [← hLR, lzF_end _ _ _ _ (by omega), List.append_nil]
      have t0 : decide (j < nn) = false := decide_eq_false hlt
      have HO := Lib.hid hown
      have HB := Lib.hid hbr
      subst hL
      clear hown hbr hLR hlt
      go_wp2_with fail
      go_ret2
      exact ⟨A9, c9, rfl, HO.out, HB.out⟩
    have t0 : decide (j < nn) = true := decide_eq_true hlt
    obtain ⟨m, rfl⟩ : ∃ m', m = m' + 1 := ⟨m - 1, by omega⟩
    have hlt' : i0 + j < D.length := by omega
    obtain ⟨bb, off, rfl, hbB, dcell⟩ := (HS.out.below hbr hB).byte hlt'
    have hlit : D.getD (i0 + j) 0 = D[i0 + j] := by rw [List.getD_eq_getElem?_getD, List.getElem?_eq_getElem hlt']; rfl
    have HE := Lib.hid (lz_lit (D := D) (c := ⟨0, false, 0⟩) (i := i0 + j) (lz_zero D (i0 + j)))
    rw [hlit] at HE
    have HNX := Lib.hid (fun (tk : TokV) (sz : Nat) e1 e2 => lz_next (tk := tk) (sz := sz) hLR hlt' e1 e2)
    obtain ⟨ij, hij⟩ : ∃ ij, ij = i0 + j := ⟨_, rfl⟩
    have hij2 : ij < D.length := by omega
    obtain ⟨lit, hl2⟩ : ∃ lit, lit = D[i0 + j] := ⟨_, rfl⟩
    rw [← hl2] at dcell HE
    rw [← hij] at dcell HE
    obtain ⟨x, hx⟩ : ∃ x : Int, x = (lit.toNat : Int) := ⟨_, rfl⟩
    rw [← hx] at dcell
    have HX := Lib.hid hx
    have HIJ := Lib.hid hij
    have v1 : IntKind.i64.wrap ((i0 : Int) + (j : Int)) = (ij : Int) := by rw [IntWalk.i64_in _ (by omega)]; omega
    have v2 : (i0 : Int) + (j : Int) = (ij : Int) := by omega
    have ij0 : (0 : Int) ≤ (ij : Int) := Int.natCast_nonneg _
    have ij1 : (ij : Int) < (D.length : Int) := by omega
    have HO := Lib.hid hown
    have HB := Lib.hid hbr
    clear hlit hLR hl2 hx hij hown hbr
    go_wp2_with (at_builtin; refine wpList_append_sz _ rfl _ _ _ rfl w.heap.size 48 ti _ 3 24 Tryd.underlying31 Hi0.out Hz0.out Hz1.out Hz2.out rfl (by omega) (.slice A9 L.length c9) L.length (L.flatMap TokV.cells) rfl (HO.out.alloc _) _ (some ⟨wr.heap.size, 0, none⟩) 1 1 [.int .u8 x, .int .i64 0, .int .i64 0] rfl rfl (Sl.new_ _ _ _ _) (by simp [Value.oneCell']) (by unfold maxLen; omega) (by omega) (by simp; omega) ?_; intro v7 w7 hown7 hgrow7 hat7; have HB7 := Lib.hid (own_below (HO.out.alloc _) hgrow7 (Nat.le_refl _) (by simp; omega) (HB.out.alloc hsw _)); have HO7 := Lib.hid (tok_own (lit := lit) hown7 HX.out); clear hown7 hgrow7 hat7)
    go_roundw
    case rel => exact ⟨j + 1, m, L ++ [⟨lit, 0, 0⟩], by go_num, by omega, by have h := HO7.out; simpa using h, HB7.out, by have h := HNX.out ⟨lit, 0, 0⟩ 1 (by rw [← HIJ.out]; exact HE.out.1) (by rw [← HIJ.out]; exact HE.out.2); rw [Nat.add_assoc] at h; exact h, by omega⟩
    case measure => simp [intOf]; omega
theorem tokens_any (D : List UInt8) (A : Option Addr) (C B i0 n : Nat) (w : World) (hl : D.length ≤ 1000) (hs : Sl w B A (bytesV D)) (hB : B ≤ w.heap.size) (hi : i0 ≤ D.length) (hn : n < 10) (hc : CaresIs w) :
    Calls Tryd.prog 8 #[.slice A D.length C, .int .i64 (i0 : Int), .int .i64 (n : Int)] w (GivesT2 48 (lzF D (careAt n) (D.length - i0) i0) w) := by
  by_cases h0 : n = 0
  · subst h0
    exact tokens_zero D A C B i0 w hl hs hB hi hc
  · exact tokens_some D A C B i0 n w hl hs hB hi hn (by omega) hc
end Go.Proofs.YtjfmaebgihlegaaDoor
