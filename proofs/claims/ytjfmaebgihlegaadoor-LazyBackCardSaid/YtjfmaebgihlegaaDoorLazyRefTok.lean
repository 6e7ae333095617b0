/-
  The document's answer of layer 16: Tokens.
-/
import Derived.Test.YtjfmaebgihlegaaDoorLazyRef16
import Derived.Test.YtjfmaebgihlegaaDoorLazyParse2
namespace Go.Proofs.YtjfmaebgihlegaaDoor
open Go.RowKit Go.Maps

set_option maxRecDepth 100000 in
set_option maxHeartbeats 8000000 in
theorem refTokens_any (D : List UInt8) (A : Option Addr) (C B i0 : Nat) (c : CareV) (w : World) (hl : D.length ≤ 1000000) (hs : Sl w B A (bytesV D)) (hB : B ≤ w.heap.size) (hi : i0 ≤ D.length) (hd : c.dep ≤ 32768) (hgd : c.good ≤ 100000) :
    Calls Tryd.prog 9 #[.slice A D.length C, .int .i64 (i0 : Int), careA c] w (GivesT 39 (lzF D c (D.length - i0) i0) w) := by
  obtain ⟨ti, hi0, hz0, hz1, hz2⟩ := info_parts refTokInfo
  have Hi0 := Lib.hid hi0
  have Hz0 := Lib.hid hz0
  have Hz1 := Lib.hid hz1
  have Hz2 := Lib.hid hz2
  have HS := Lib.hid hs
  obtain ⟨R, hR⟩ : ∃ R, R = lzF D c (D.length - i0) i0 := ⟨_, rfl⟩
  have hRl : R.length ≤ D.length := by rw [hR]; have := len_lzF D c (D.length - i0) i0; omega
  have HR := Lib.hid hR
  rw [← hR]
  obtain ⟨cd, cw, cg⟩ := c
  simp only at hd hgd
  clear hi0 hz0 hz1 hz2 hs hR
  unfold careA
  simp only
  go_enter Tryd.func9, Tryd.ntmps9
  go_wp2_with fail
  go_loopw [7, 8] (fun v p wr => ∃ (i n : Nat) (L : List TokV), p = .int .i64 (i : Int) ∧ wr.ownsRow (w.heap.size + 1) 39 3 v L.length (L.flatMap TokV.cells) ∧ Whole wr w.heap.size 28 #[.int .i64 (cd : Int), .int .i64 (cg : Int), .int .i64 (w01 cw)] ∧ Below w.heap.size w wr ∧ L ++ lzF D ⟨cd, cw, cg⟩ n i = R ∧ i ≤ D.length ∧ D.length ≤ i + n) (fun _ p _ => D.length - (intOf p).toNat)
  case atStart => exact ⟨i0, D.length - i0, [], rfl, World.ownsRow_nil _ _ _ _, Whole.new _ _ _, below_alloc _ _, by rw [HR.out]; rfl, hi, by omega⟩
  case round =>
    obtain ⟨i, n, L, rfl, hown, hwh, hbr, hLR, hil, hin⟩ := hrel
    clear HR hi
    obtain ⟨A9, c9, rfl⟩ := own_form hown
    have hsw := hbr.size
    have hLl : L.length ≤ D.length := by have := congrArg List.length hLR; rw [List.length_append] at this; omega
    have i0' : (0 : Int) ≤ (i : Int) := Int.natCast_nonneg _
    by_cases hlt : i < D.length
    case neg =>
      have hL : L = R := by rw [← hLR, lzF_end _ _ _ _ (by omega), List.append_nil]
      have t0 : decide (i < D.length) = false := decide_eq_false hlt
      have HO := Lib.hid (own_base hown (Nat.le_succ w.heap.size))
      have HB := Lib.hid hbr
      subst hL
      clear hown hwh hbr hLR hlt
      go_wp2_with fail
      go_ret
      exact ⟨A9, c9, rfl, HO.out, HB.out⟩
    have t0 : decide (i < D.length) = true := decide_eq_true hlt
    obtain ⟨m, rfl⟩ : ∃ m, n = m + 1 := ⟨n - 1, by omega⟩
    have HNX := Lib.hid (fun (tk : TokV) (sz : Nat) e1 e2 => lz_next (tk := tk) (sz := sz) hLR hlt e1 e2)
    obtain ⟨bb, off, rfl, hbB, dcell⟩ := (HS.out.below hbr hB).byte hlt
    have hlit : D.getD i 0 = D[i] := by rw [List.getD_eq_getElem?_getD, List.getElem?_eq_getElem hlt]; rfl
    obtain ⟨lit, hlt2⟩ : ∃ lit, lit = D[i] := ⟨_, rfl⟩
    rw [← hlt2] at dcell hlit
    have HWT := Lib.hid (fun h1 h2 h3 h4 => lz_wait (D := D) (c := ⟨cd, cw, cg⟩) (i := i) h1 h2 h3 h4)
    have HLT := Lib.hid (fun h1 => lz_lit (D := D) (c := ⟨cd, cw, cg⟩) (i := i) h1)
    have HHT := Lib.hid (fun h1 h2 => lz_hit (D := D) (c := ⟨cd, cw, cg⟩) (i := i) h1 h2)
    have HFI := Lib.hid (longL_fits D i cd)
    rw [hlit] at HWT HLT
    simp only at HWT HLT HHT
    have LO := Lib.hid (refLongest_any D (some ⟨bb, off, none⟩) C B i cd wr (HS.out.below hbr hB) hl hil hd)
    have LN := Lib.hid (fun m => refLongest_any D (some ⟨bb, off, none⟩) C B (i + 1) cd (wr.drewN m) ((HS.out.below hbr hB).drewN m) hl (by omega) hd)
    rw [show ((i + 1 : Nat) : Int) = (i : Int) + 1 by omega] at LN
    generalize hs1 : (longL D i cd).1 = s at HWT HLT HHT HFI LO
    generalize ht1 : (longL D i cd).2 = t at HHT LO
    generalize hs2 : (longL D (i + 1) cd).1 = s' at HWT HHT LN
    generalize ht2 : (longL D (i + 1) cd).2 = t' at LN
    obtain ⟨x, hx⟩ : ∃ x : Int, x = (lit.toNat : Int) := ⟨_, rfl⟩
    rw [← hx] at dcell
    have HX := Lib.hid hx
    have i1 : (i : Int) < (D.length : Int) := by omega
    have c0 := hwh.cell 0
    have c1 := hwh.cell 1
    have c2 := hwh.cell 2
    simp at c0 c1 c2
    have HO := Lib.hid hown
    have HB := Lib.hid hbr
    have HW := Lib.hid hwh
    have hfit := HFI.out
    clear hlit hlt2 hx hLR hs1 ht1 hs2 ht2 hown hbr hwh HFI
    by_cases hA : cw = true ∧ 3 ≤ s ∧ s < cg
    · obtain ⟨rfl, a2, a3⟩ := hA
      have t1 : decide ((3 : Int) ≤ (s : Int)) = true := decide_eq_true (by omega)
      have t1' : decide ((s : Int) < 3) = false := decide_eq_false (by omega)
      have t2 : decide (s < cg) = true := decide_eq_true a3
      rw [show w01 true = 1 from rfl] at c2 HW
      go_wp2_with fail
      (with_reducible refine LO.out.mono ?_)
      rintro e w5 ⟨rfl, n5, rfl⟩
      clear LO
      go_wp2_with fail
      (with_reducible refine (LN.out _).mono ?_)
      rintro e w6 ⟨rfl, n6, rfl⟩
      rw [World.drewN_drewN]
      clear LN
      by_cases hss : s < s'
      · have t3 : decide (s < s') = true := decide_eq_true hss
        have HE := Lib.hid (HWT.out (by trivial) a2 a3 hss)
        obtain ⟨V, hV⟩ : ∃ V, wr.drewN (n5 + n6) = V := ⟨_, rfl⟩
        have HOV := Lib.hid (show V.ownsRow (w.heap.size + 1) 39 3 (.slice A9 L.length c9) L.length (L.flatMap TokV.cells) by rw [← hV]; exact HO.out)
        have HBV := Lib.hid (show Below w.heap.size w V by rw [← hV]; exact below_drewN HB.out _)
        have HWV := Lib.hid (show Whole V w.heap.size 28 _ by rw [← hV]; exact HW.out.drewN _)
        have hsV := HBV.out.size
        have hlV := HWV.out.lt
        have dcV : V.cell? ⟨bb, off + i, none⟩ = some (.int .u8 x) := by rw [← hV]; exact dcell
        have c0V := HWV.out.cell 0
        have c1V := HWV.out.cell 1
        have c2V := HWV.out.cell 2
        simp at c0V c1V c2V
        rw [hV]
        clear hV dcell c0 c1 c2
        go_wp2_with (at_builtin; refine wpList_append_sz _ rfl _ _ _ rfl (w.heap.size + 1) 39 ti _ 3 24 Tryd.underlying35 Hi0.out Hz0.out Hz1.out Hz2.out rfl (by omega) (.slice A9 L.length c9) L.length (L.flatMap TokV.cells) rfl (HOV.out.alloc _) _ (some ⟨V.heap.size, 0, none⟩) 1 1 [.int .u8 x, .int .i64 0, .int .i64 0] rfl rfl (Sl.new_ _ _ _ _) (by simp [Value.oneCell']) (by unfold maxLen; omega) (by omega) (by simp; omega) ?_; intro v9 w9 hown9 hgrow9 hat9; have HB9 := Lib.hid (own_below (HOV.out.alloc _) hgrow9 (Nat.le_succ _) (by simp; omega) (HBV.out.alloc hsV _)); have HW9 := Lib.hid ((HWV.out.alloc _).grown hgrow9 (fun e => by have := (HOV.out.lt _ e).1; omega)); have HO9 := Lib.hid (tok_own (lit := lit) hown9 HX.out); clear hown9 hgrow9 hat9)
        go_roundw
        case rel => exact ⟨i + 1, m, L ++ [⟨lit, 0, 0⟩], by go_num, by have h := HO9.out; simpa using h, HW9.out, HB9.out, HNX.out _ _ HE.out.1 HE.out.2, by omega, by omega⟩
        case measure => simp [intOf]; omega
      · have t3 : decide (s < s') = false := decide_eq_false hss
        have HE := Lib.hid (HHT.out a2 (fun h => hss (by first | exact h.2.2 | exact h.2)))
        obtain ⟨V, hV⟩ : ∃ V, wr.drewN (n5 + n6) = V := ⟨_, rfl⟩
        have HOV := Lib.hid (show V.ownsRow (w.heap.size + 1) 39 3 (.slice A9 L.length c9) L.length (L.flatMap TokV.cells) by rw [← hV]; exact HO.out)
        have HBV := Lib.hid (show Below w.heap.size w V by rw [← hV]; exact below_drewN HB.out _)
        have HWV := Lib.hid (show Whole V w.heap.size 28 _ by rw [← hV]; exact HW.out.drewN _)
        have hsV := HBV.out.size
        have hlV := HWV.out.lt
        have dcV : V.cell? ⟨bb, off + i, none⟩ = some (.int .u8 x) := by rw [← hV]; exact dcell
        have c0V := HWV.out.cell 0
        have c1V := HWV.out.cell 1
        have c2V := HWV.out.cell 2
        simp at c0V c1V c2V
        rw [hV]
        clear hV dcell c0 c1 c2
        go_wp2_with (at_builtin; refine wpList_append_sz _ rfl _ _ _ rfl (w.heap.size + 1) 39 ti _ 3 24 Tryd.underlying35 Hi0.out Hz0.out Hz1.out Hz2.out rfl (by omega) (.slice A9 L.length c9) L.length (L.flatMap TokV.cells) rfl (HOV.out.alloc _) _ (some ⟨V.heap.size, 0, none⟩) 1 1 [.int .u8 0, .int .i64 (s : Int), .int .i64 (t : Int)] rfl rfl (Sl.new_ _ _ _ _) (by simp [Value.oneCell']) (by unfold maxLen; omega) (by omega) (by simp; omega) ?_; intro v9 w9 hown9 hgrow9 hat9; have HB9 := Lib.hid (own_below (HOV.out.alloc _) hgrow9 (Nat.le_succ _) (by simp; omega) (HBV.out.alloc hsV _)); have HW9 := Lib.hid ((HWV.out.alloc _).grown hgrow9 (fun e => by have := (HOV.out.lt _ e).1; omega)); have HO9 := Lib.hid (tok_own (lit := 0) hown9 (show (0 : Int) = (((0 : UInt8).toNat : Nat) : Int) from rfl)); clear hown9 hgrow9 hat9)
        go_roundw
        case rel => exact ⟨i + s, m, L ++ [⟨0, (s : Int), (t : Int)⟩], by go_num, by have h := HO9.out; simpa using h, HW9.out, HB9.out, HNX.out _ _ HE.out.1 HE.out.2, by omega, by omega⟩
        case measure => simp [intOf]; omega
    · have hA2 : cw = false ∨ (cw = true ∧ ¬ 3 ≤ s) ∨ (cw = true ∧ 3 ≤ s ∧ ¬ s < cg) := by
        cases cw with
        | false => exact .inl rfl
        | true => by_cases h3 : 3 ≤ s
                  · exact .inr (.inr ⟨rfl, h3, fun h => hA ⟨rfl, h3, h⟩⟩)
                  · exact .inr (.inl ⟨rfl, h3⟩)
      have HHT2 := Lib.hid (fun (h3 : 3 ≤ s) => HHT.out h3 (fun h => hA (by first | exact ⟨h.1, h3, h.2.1⟩ | simp_all)))
      clear hA HWT HHT LN
      by_cases h3 : 3 ≤ s
      · have t1 : decide ((3 : Int) ≤ (s : Int)) = true := decide_eq_true (by omega)
        have t1' : decide ((s : Int) < 3) = false := decide_eq_false (by omega)
        have HE := Lib.hid (HHT2.out h3)
        clear HHT2 HLT
        have hA3 : cw = false ∨ (cw = true ∧ ¬ s < cg) := by
          rcases hA2 with h | h | h
          · exact .inl h
          · exact absurd h3 h.2
          · exact .inr ⟨h.1, h.2.2⟩
        clear hA2
        by_cases hg : s < cg
        · have t2 : decide (s < cg) = true := decide_eq_true hg
          obtain rfl : cw = false := hA3.resolve_right (fun h => h.2 hg)
          rw [show w01 false = 0 from rfl] at c2 HW
          clear hA3
          go_wp2_with fail
          (with_reducible refine LO.out.mono ?_)
          rintro e w5 ⟨rfl, n5, rfl⟩
          clear LO
          obtain ⟨V, hV⟩ : ∃ V, wr.drewN n5 = V := ⟨_, rfl⟩
          have HOV := Lib.hid (show V.ownsRow (w.heap.size + 1) 39 3 (.slice A9 L.length c9) L.length (L.flatMap TokV.cells) by rw [← hV]; exact HO.out)
          have HBV := Lib.hid (show Below w.heap.size w V by rw [← hV]; exact below_drewN HB.out _)
          have HWV := Lib.hid (show Whole V w.heap.size 28 _ by rw [← hV]; exact HW.out.drewN _)
          have hsV := HBV.out.size
          have hlV := HWV.out.lt
          have dcV : V.cell? ⟨bb, off + i, none⟩ = some (.int .u8 x) := by rw [← hV]; exact dcell
          have c0V := HWV.out.cell 0
          have c1V := HWV.out.cell 1
          have c2V := HWV.out.cell 2
          simp at c0V c1V c2V
          rw [hV]
          clear hV dcell c0 c1 c2
          go_wp2_with (at_builtin; refine wpList_append_sz _ rfl _ _ _ rfl (w.heap.size + 1) 39 ti _ 3 24 Tryd.underlying35 Hi0.out Hz0.out Hz1.out Hz2.out rfl (by omega) (.slice A9 L.length c9) L.length (L.flatMap TokV.cells) rfl (HOV.out.alloc _) _ (some ⟨V.heap.size, 0, none⟩) 1 1 [.int .u8 0, .int .i64 (s : Int), .int .i64 (t : Int)] rfl rfl (Sl.new_ _ _ _ _) (by simp [Value.oneCell']) (by unfold maxLen; omega) (by omega) (by simp; omega) ?_; intro v9 w9 hown9 hgrow9 hat9; have HB9 := Lib.hid (own_below (HOV.out.alloc _) hgrow9 (Nat.le_succ _) (by simp; omega) (HBV.out.alloc hsV _)); have HW9 := Lib.hid ((HWV.out.alloc _).grown hgrow9 (fun e => by have := (HOV.out.lt _ e).1; omega)); have HO9 := Lib.hid (tok_own (lit := 0) hown9 (show (0 : Int) = (((0 : UInt8).toNat : Nat) : Int) from rfl)); clear hown9 hgrow9 hat9)
          go_roundw
          case rel => exact ⟨i + s, m, L ++ [⟨0, (s : Int), (t : Int)⟩], by go_num, by have h := HO9.out; simpa using h, HW9.out, HB9.out, HNX.out _ _ HE.out.1 HE.out.2, by omega, by omega⟩
          case measure => simp [intOf]; omega
        · have t2 : decide (s < cg) = false := decide_eq_false hg
          clear hA3
          generalize w01 cw = wz at c2 HW
          go_wp2_with fail
          (with_reducible refine LO.out.mono ?_)
          rintro e w5 ⟨rfl, n5, rfl⟩
          clear LO
          obtain ⟨V, hV⟩ : ∃ V, wr.drewN n5 = V := ⟨_, rfl⟩
          have HOV := Lib.hid (show V.ownsRow (w.heap.size + 1) 39 3 (.slice A9 L.length c9) L.length (L.flatMap TokV.cells) by rw [← hV]; exact HO.out)
          have HBV := Lib.hid (show Below w.heap.size w V by rw [← hV]; exact below_drewN HB.out _)
          have HWV := Lib.hid (show Whole V w.heap.size 28 _ by rw [← hV]; exact HW.out.drewN _)
          have hsV := HBV.out.size
          have hlV := HWV.out.lt
          have dcV : V.cell? ⟨bb, off + i, none⟩ = some (.int .u8 x) := by rw [← hV]; exact dcell
          have c0V := HWV.out.cell 0
          have c1V := HWV.out.cell 1
          have c2V := HWV.out.cell 2
          simp at c0V c1V c2V
          rw [hV]
          clear hV dcell c0 c1 c2
          go_wp2_with (at_builtin; refine wpList_append_sz _ rfl _ _ _ rfl (w.heap.size + 1) 39 ti _ 3 24 Tryd.underlying35 Hi0.out Hz0.out Hz1.out Hz2.out rfl (by omega) (.slice A9 L.length c9) L.length (L.flatMap TokV.cells) rfl (HOV.out.alloc _) _ (some ⟨V.heap.size, 0, none⟩) 1 1 [.int .u8 0, .int .i64 (s : Int), .int .i64 (t : Int)] rfl rfl (Sl.new_ _ _ _ _) (by simp [Value.oneCell']) (by unfold maxLen; omega) (by omega) (by simp; omega) ?_; intro v9 w9 hown9 hgrow9 hat9; have HB9 := Lib.hid (own_below (HOV.out.alloc _) hgrow9 (Nat.le_succ _) (by simp; omega) (HBV.out.alloc hsV _)); have HW9 := Lib.hid ((HWV.out.alloc _).grown hgrow9 (fun e => by have := (HOV.out.lt _ e).1; omega)); have HO9 := Lib.hid (tok_own (lit := 0) hown9 (show (0 : Int) = (((0 : UInt8).toNat : Nat) : Int) from rfl)); clear hown9 hgrow9 hat9)
          go_roundw
          case rel => exact ⟨i + s, m, L ++ [⟨0, (s : Int), (t : Int)⟩], by go_num, by have h := HO9.out; simpa using h, HW9.out, HB9.out, HNX.out _ _ HE.out.1 HE.out.2, by omega, by omega⟩
          case measure => simp [intOf]; omega
      · have t1 : decide ((3 : Int) ≤ (s : Int)) = false := decide_eq_false (by omega)
        have t1' : decide ((s : Int) < 3) = true := decide_eq_true (by omega)
        have HE := Lib.hid (HLT.out h3)
        clear HHT2 HLT hA2
        generalize w01 cw = wz at c2 HW
        go_wp2_with fail
        (with_reducible refine LO.out.mono ?_)
        rintro e w5 ⟨rfl, n5, rfl⟩
        clear LO
        obtain ⟨V, hV⟩ : ∃ V, wr.drewN n5 = V := ⟨_, rfl⟩
        have HOV := Lib.hid (show V.ownsRow (w.heap.size + 1) 39 3 (.slice A9 L.length c9) L.length (L.flatMap TokV.cells) by rw [← hV]; exact HO.out)
        have HBV := Lib.hid (show Below w.heap.size w V by rw [← hV]; exact below_drewN HB.out _)
        have HWV := Lib.hid (show Whole V w.heap.size 28 _ by rw [← hV]; exact HW.out.drewN _)
        have hsV := HBV.out.size
        have hlV := HWV.out.lt
        have dcV : V.cell? ⟨bb, off + i, none⟩ = some (.int .u8 x) := by rw [← hV]; exact dcell
        have c0V := HWV.out.cell 0
        have c1V := HWV.out.cell 1
        have c2V := HWV.out.cell 2
        simp at c0V c1V c2V
        rw [hV]
        clear hV dcell c0 c1 c2
        go_wp2_with (at_builtin; refine wpList_append_sz _ rfl _ _ _ rfl (w.heap.size + 1) 39 ti _ 3 24 Tryd.underlying35 Hi0.out Hz0.out Hz1.out Hz2.out rfl (by omega) (.slice A9 L.length c9) L.length (L.flatMap TokV.cells) rfl (HOV.out.alloc _) _ (some ⟨V.heap.size, 0, none⟩) 1 1 [.int .u8 x, .int .i64 0, .int .i64 0] rfl rfl (Sl.new_ _ _ _ _) (by simp [Value.oneCell']) (by unfold maxLen; omega) (by omega) (by simp; omega) ?_; intro v9 w9 hown9 hgrow9 hat9; have HB9 := Lib.hid (own_below (HOV.out.alloc _) hgrow9 (Nat.le_succ _) (by simp; omega) (HBV.out.alloc hsV _)); have HW9 := Lib.hid ((HWV.out.alloc _).grown hgrow9 (fun e => by have := (HOV.out.lt _ e).1; omega)); have HO9 := Lib.hid (tok_own (lit := lit) hown9 HX.out); clear hown9 hgrow9 hat9)
        go_roundw
        case rel => exact ⟨i + 1, m, L ++ [⟨lit, 0, 0⟩], by go_num, by have h := HO9.out; simpa using h, HW9.out, HB9.out, HNX.out _ _ HE.out.1 HE.out.2, by omega, by omega⟩
        case measure => simp [intOf]; omega
end Go.Proofs.YtjfmaebgihlegaaDoor
