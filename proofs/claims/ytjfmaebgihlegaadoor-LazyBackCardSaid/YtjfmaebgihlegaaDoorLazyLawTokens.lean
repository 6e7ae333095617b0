/-
  The law LazyTokens returns true: walk. Condition: the levels' table lies as the program text lays it.
-/
import Derived.Test.YtjfmaebgihlegaaDoorLazyTokens
import Derived.Test.YtjfmaebgihlegaaDoorLazyRefTok
import Derived.Lib.SlBytesConst
namespace Go.Proofs.YtjfmaebgihlegaaDoor
open Go.RowKit Go.Maps

set_option maxRecDepth 100000 in
set_option maxHeartbeats 2000000 in
theorem sameToks_any (l : List TokV) (a b : Option Addr) (c d B : Nat) (w : World) (hl : l.length ≤ 1000000) (ha : Sl w B a (l.flatMap TokV.cells)) (hb : Sl w B b (l.flatMap TokV.cells)) :
    Calls Tryd.prog 14 #[.slice a l.length c, .slice b l.length d] w fun e w' => e = .returned (.bool true) ∧ ∃ n, w' = w.drewN n := by
  have HA := Lib.hid ha
  have HM := Lib.hid hb
  clear ha hb
  go_enter Tryd.func14, Tryd.ntmps14
  go_wp2_with fail
  go_loopw [5] (fun i wr => ∃ k : Nat, k ≤ l.length ∧ i = .int .i64 k ∧ ∃ n, wr = w.drewN n) (fun i _ => l.length - (intOf i).toNat)
  case atStart => exact ⟨0, Nat.zero_le _, rfl, 0, rfl⟩
  case round =>
    obtain ⟨k, hk, rfl, q, rfl⟩ := hrel
    by_cases hlt : k < l.length
    · have hx := List.getElem?_eq_getElem hlt
      obtain ⟨b1, o1, rfl, _, p0, p1, p2⟩ := toks_at HA.out hx
      obtain ⟨b2, o2, rfl, _, q0, q1, q2⟩ := toks_at HM.out hx
      generalize l[k] = t at p0 p1 p2 q0 q1 q2
      obtain ⟨lit, len, dist⟩ := t
      simp only [] at p0 p1 p2 q0 q1 q2
      clear hx
      generalize (lit.toNat : Int) = x at p0 q0
      have k0 : (0 : Int) ≤ (k : Int) := Int.natCast_nonneg _
      have k1 : (k : Int) < (l.length : Int) := by omega
      have t0 : decide (k < l.length) = true := decide_eq_true hlt
      go_wp2_with fail
      go_quiet (fail)
      go_wp2_with fail
      go_roundw
      case rel => exact ⟨k + 1, by omega, by go_num, _, rfl⟩
      case measure => simp [intOf]; omega
    · obtain rfl : k = l.length := by omega
      go_wp2_with fail
      go_ret
      exact ⟨rfl, _, rfl⟩

theorem waking16 : lzF ([97, 97, 97, 97] : List UInt8) (careAt 1) (([97, 97, 97, 97] : List UInt8).length - 0) 0 = [⟨97, 0, 0⟩, ⟨0, 3, 1⟩] := by rfl
set_option maxHeartbeats 1000000 in
theorem awake16_any (w : World) (hc : CaresIs w) : Calls Tryd.prog 5 #[] w fun e w' => e = .returned (.bool true) ∧ Below w.heap.size w w' := by
  have kc := fun (w : World) (C : Array Value) (n c : Nat) => Lib.run_convert_bytes_const (P := Tryd.prog) w 22 5 C n c Tryd.underlying22 Tryd.underlying5
  have TK := tokens_any [97, 97, 97, 97] (some ⟨w.heap.size, 0, none⟩) 4 (w.heap.size + 1) 0 1 (w.alloc (.cells #[.int .u8 97, .int .u8 97, .int .u8 97, .int .u8 97] 5 (4, 5))) (by decide) (Sl.new_ w _ _ _) (by simp) (by simp) (by omega) (hc.below (below_alloc _ _))
  rw [waking16] at TK
  have HTK := Lib.hid TK
  clear TK hc
  go_enter Tryd.func5, Tryd.ntmps5
  go_wp2_with fail
  (refine HTK.out.mono ?_)
  rintro e w1 ⟨A1, c1, rfl, ho1, hb1⟩
  have HB1 := Lib.hid ((below_alloc w _).trans (hb1.mono (by simp)))
  have hs1 := Sl.of_ownN ho1
  have SM := Lib.hid (sameToks_any [⟨97, 0, 0⟩, ⟨0, 3, 1⟩] A1 (some ⟨w1.heap.size, 0, none⟩) c1 2 (w1.heap.size + 1) (w1.alloc (.cells #[.int .u8 97, .int .i64 0, .int .i64 0, .int .u8 0, .int .i64 3, .int .i64 1] 48)) (by decide) ((hs1.alloc (Nat.le_refl _) _).more (Nat.le_succ _)) (Sl.new_ _ _ _ _))
  simp only [List.length_cons, List.length_nil, Nat.zero_add, Nat.reduceAdd] at SM ⊢
  clear ho1 hb1 hs1 HTK kc
  go_wp2_with fail
  (refine SM.out.mono ?_)
  rintro e w2 ⟨rfl, n2, rfl⟩
  go_wp2_with fail
  go_ret
  exact ⟨rfl, below_drewN (HB1.out.alloc HB1.out.size _) n2⟩

theorem refs_gives {l : List TokV} (a : Option Addr) (c : Nat) (w : World) (hl : l.length ≤ 1000000) (hs : Sl w w.heap.size a (l.flatMap TokV.cells)) :
    Calls Tryd.prog 10 #[.slice a l.length c] w fun e w' => ∃ A c', e = .returned (.slice A l.length c') ∧ Sl w' w'.heap.size A (l.flatMap TokV.cells) ∧ Below w.heap.size w w' :=
  (refs_any l a c w.heap.size w hl hs (Nat.le_refl _)).mono fun _ _ ⟨A, c', h1, h2, h3⟩ => ⟨A, c', h1, Sl.of_ownN h2, h3⟩

set_option maxRecDepth 100000 in
set_option maxHeartbeats 8000000 in
theorem lazyTokens_walk (a : Option Addr) (D : List UInt8) (cap : Nat) (fr lv : Int) (w : World) (hl : D.length ≤ maxLen) (_hlc : D.length ≤ cap) (hsl : Sl w w.heap.size a (bytesV D))
    (hf1 : -9223372036854775808 ≤ fr) (hf2 : fr ≤ 9223372036854775807) (hv1 : -9223372036854775808 ≤ lv) (hv2 : lv ≤ 9223372036854775807) (hc : CaresIs w) :
    Calls Tryd.prog 3 #[.slice a D.length cap, .int .i64 fr, .int .i64 lv] w fun e w' => e = .returned (.bool true) ∧ Below w.heap.size w w' := by
  unfold maxLen at hl
  have HS := Lib.hid hsl
  have HC := Lib.hid hc
  clear hsl hc
  by_cases h4 : D.length ≤ 250
  case neg =>
    have t1 : decide ((250 : Int) < (D.length : Int)) = true := decide_eq_true (by omega)
    have t2 : decide (250 < D.length) = true := decide_eq_true (by omega)
    go_enter Tryd.func3, Tryd.ntmps3
    go_wp2_with fail
    (with_reducible refine (awake16_any w HC.out).mono ?_)
    rintro e w1 ⟨rfl, hb1⟩
    go_wp2_with fail
    go_ret
    exact ⟨rfl, hb1⟩
  have t1 : decide ((250 : Int) < (D.length : Int)) = false := decide_eq_false (by omega)
  have t2 : decide (250 < D.length) = false := decide_eq_false (by omega)
  by_cases hlv : lv < 0 ∨ 10 ≤ lv
  · have TK := Lib.hid (fun W (_ : CaresIs W) => tokens_noLevel a D.length cap fr lv W hlv)
    have LV := Lib.hid (fun W (_ : CaresIs W) => level_out lv W hlv)
    have RL := Lib.hid (fun W => refLevel_out lv W hlv)
    unfold careV noCare at LV
    unfold careA noCare at RL
    simp only [Int.natCast_zero, show w01 false = 0 from rfl] at LV RL
    clear hlv
    go_enter Tryd.func3, Tryd.ntmps3
    go_wp2_with fail
    (with_reducible refine (awake16_any w HC.out).mono ?_)
    rintro e w1 ⟨rfl, hb1⟩
    have HB1 := Lib.hid hb1
    have LV1 := Lib.hid (LV.out w1 (HC.out.below hb1))
    clear hb1
    go_wp2_with fail
    (refine LV1.out.mono ?_)
    rintro e w2 ⟨rfl, hb2⟩
    have HB2 := Lib.hid (HB1.out.trans (hb2.mono HB1.out.size))
    clear hb2 LV1
    go_wp2_with fail
    obtain ⟨W2, hW2⟩ : ∃ W, w2.alloc (.cells #[.int .i64 0, .bool false, .int .i64 0] 25) = W := ⟨_, rfl⟩
    obtain ⟨N7, hN7⟩ : ∃ N, w2.heap.size = N := ⟨_, rfl⟩
    have hM7 : Whole W2 N7 25 #[.int .i64 0, .bool false, .int .i64 0] := by rw [← hW2, ← hN7]; exact Whole.new _ _ _
    have hBW2 : Below w.heap.size w W2 := by rw [← hW2]; exact HB2.out.alloc HB2.out.size _
    rw [hW2, hN7]
    clear hW2 hN7
    (refine (RL.out W2).mono ?_)
    rintro e w3 ⟨rfl, hb3⟩
    have HB3 := Lib.hid (hBW2.trans (hb3.mono hBW2.size))
    have hM7b := hM7.below hb3 hM7.lt
    clear hb3 hM7 hBW2
    go_upto_region 7 with (fail)
    obtain ⟨W4, hW4⟩ : ∃ W, w3.alloc (.cells #[.int .i64 0, .int .i64 0, .int .i64 0] 28) = W := ⟨_, rfl⟩
    obtain ⟨N9, hN9⟩ : ∃ N, w3.heap.size = N := ⟨_, rfl⟩
    have hM9 : Whole W4 N9 28 #[.int .i64 0, .int .i64 0, .int .i64 0] := by rw [← hW4, ← hN9]; exact Whole.new _ _ _
    have hM7c : Whole W4 N7 25 #[.int .i64 0, .bool false, .int .i64 0] := by rw [← hW4]; exact hM7b.alloc _
    have HB4 := Lib.hid (show Below w.heap.size w W4 by rw [← hW4]; exact HB3.out.alloc HB3.out.size _)
    rw [hW4, hN9]
    have m0 := hM7c.cell 0
    have m1 := hM7c.cell 1
    have m2 := hM7c.cell 2
    have n0 := hM9.cell 0
    have n1 := hM9.cell 1
    have n2 := hM9.cell 2
    simp at m0 m1 m2 n0 n1 n2
    have HM9 := Lib.hid hM9
    clear hW4 hN9 hM9 hM7b hM7c
    go_wp2_with fail
    (refine (TK.out W4 (HC.out.below HB4.out)).mono ?_)
    rintro e w5 ⟨rfl, hb5⟩
    have HB5 := Lib.hid (HB4.out.trans (hb5.mono HB4.out.size))
    clear hb5
    go_wp2_with fail
    go_ret
    exact ⟨rfl, HB5.out⟩
  obtain ⟨n, rfl⟩ := Int.eq_ofNat_of_zero_le (show 0 ≤ lv by omega)
  have hn : n < 10 := by omega
  have LV := Lib.hid (fun W h => level_in n W hn h)
  have RL := Lib.hid (fun W => refLevel_in n W hn)
  have hcl := careAt_le n
  by_cases hfr : fr < 0 ∨ (D.length : Int) < fr
  · have TK := Lib.hid (fun W h => tokens_noFrom a D.length cap n fr W hn h (by unfold maxLen; omega) hfr)
    unfold careV at LV
    unfold careA at RL
    generalize careAt n = c at LV RL hcl
    obtain ⟨cd, cw, cg⟩ := c
    simp only at LV RL hcl
    have hfr2 : (fr < 0 ∧ decide (fr < 0) = true) ∨ (¬ fr < 0 ∧ decide (fr < 0) = false ∧ decide ((D.length : Int) < fr) = true) := by
      by_cases h : fr < 0
      · exact .inl ⟨h, decide_eq_true h⟩
      · exact .inr ⟨h, decide_eq_false h, decide_eq_true (by omega)⟩
    clear hfr hlv
    cases cw with
    | false =>
      rw [show w01 false = 0 from rfl] at RL
      rcases hfr2 with ⟨f0, f1⟩ | ⟨f0, f1, f2⟩
      · skip
        go_enter Tryd.func3, Tryd.ntmps3
        go_wp2_with fail
        (with_reducible refine (awake16_any w HC.out).mono ?_)
        rintro e w1 ⟨rfl, hb1⟩
        have HB1 := Lib.hid hb1
        have LV1 := Lib.hid (LV.out w1 (HC.out.below hb1))
        clear hb1
        go_wp2_with fail
        (refine LV1.out.mono ?_)
        rintro e w2 ⟨rfl, hb2⟩
        have HB2 := Lib.hid (HB1.out.trans (hb2.mono HB1.out.size))
        clear hb2 LV1
        go_wp2_with fail
        obtain ⟨W2, hW2⟩ : ∃ W, w2.alloc (.cells #[.int .i64 (cd : Int), .bool false, .int .i64 (cg : Int)] 25) = W := ⟨_, rfl⟩
        obtain ⟨N7, hN7⟩ : ∃ N, w2.heap.size = N := ⟨_, rfl⟩
        have hM7 : Whole W2 N7 25 #[.int .i64 (cd : Int), .bool false, .int .i64 (cg : Int)] := by rw [← hW2, ← hN7]; exact Whole.new _ _ _
        have hBW2 : Below w.heap.size w W2 := by rw [← hW2]; exact HB2.out.alloc HB2.out.size _
        rw [hW2, hN7]
        clear hW2 hN7
        (refine (RL.out W2).mono ?_)
        rintro e w3 ⟨rfl, hb3⟩
        have HB3 := Lib.hid (hBW2.trans (hb3.mono hBW2.size))
        have hM7b := hM7.below hb3 hM7.lt
        clear hb3 hM7 hBW2
        go_upto_region 7 with (fail)
        obtain ⟨W4, hW4⟩ : ∃ W, w3.alloc (.cells #[.int .i64 (cd : Int), .int .i64 (cg : Int), .int .i64 0] 28) = W := ⟨_, rfl⟩
        obtain ⟨N9, hN9⟩ : ∃ N, w3.heap.size = N := ⟨_, rfl⟩
        have hM9 : Whole W4 N9 28 #[.int .i64 (cd : Int), .int .i64 (cg : Int), .int .i64 0] := by rw [← hW4, ← hN9]; exact Whole.new _ _ _
        have hM7c : Whole W4 N7 25 #[.int .i64 (cd : Int), .bool false, .int .i64 (cg : Int)] := by rw [← hW4]; exact hM7b.alloc _
        have HB4 := Lib.hid (show Below w.heap.size w W4 by rw [← hW4]; exact HB3.out.alloc HB3.out.size _)
        rw [hW4, hN9]
        have m0 := hM7c.cell 0
        have m1 := hM7c.cell 1
        have m2 := hM7c.cell 2
        have n0 := hM9.cell 0
        have n1 := hM9.cell 1
        have n2 := hM9.cell 2
        simp at m0 m1 m2 n0 n1 n2
        have HM9 := Lib.hid hM9
        clear hW4 hN9 hM9 hM7b hM7c
        go_wp2_with fail
        (refine (TK.out W4 (HC.out.below HB4.out)).mono ?_)
        rintro e w5 ⟨rfl, hb5⟩
        have HB5 := Lib.hid (HB4.out.trans (hb5.mono HB4.out.size))
        clear hb5
        go_wp2_with fail
        go_ret
        exact ⟨rfl, HB5.out⟩
      · skip
        go_enter Tryd.func3, Tryd.ntmps3
        go_wp2_with fail
        (with_reducible refine (awake16_any w HC.out).mono ?_)
        rintro e w1 ⟨rfl, hb1⟩
        have HB1 := Lib.hid hb1
        have LV1 := Lib.hid (LV.out w1 (HC.out.below hb1))
        clear hb1
        go_wp2_with fail
        (refine LV1.out.mono ?_)
        rintro e w2 ⟨rfl, hb2⟩
        have HB2 := Lib.hid (HB1.out.trans (hb2.mono HB1.out.size))
        clear hb2 LV1
        go_wp2_with fail
        obtain ⟨W2, hW2⟩ : ∃ W, w2.alloc (.cells #[.int .i64 (cd : Int), .bool false, .int .i64 (cg : Int)] 25) = W := ⟨_, rfl⟩
        obtain ⟨N7, hN7⟩ : ∃ N, w2.heap.size = N := ⟨_, rfl⟩
        have hM7 : Whole W2 N7 25 #[.int .i64 (cd : Int), .bool false, .int .i64 (cg : Int)] := by rw [← hW2, ← hN7]; exact Whole.new _ _ _
        have hBW2 : Below w.heap.size w W2 := by rw [← hW2]; exact HB2.out.alloc HB2.out.size _
        rw [hW2, hN7]
        clear hW2 hN7
        (refine (RL.out W2).mono ?_)
        rintro e w3 ⟨rfl, hb3⟩
        have HB3 := Lib.hid (hBW2.trans (hb3.mono hBW2.size))
        have hM7b := hM7.below hb3 hM7.lt
        clear hb3 hM7 hBW2
        go_upto_region 7 with (fail)
        obtain ⟨W4, hW4⟩ : ∃ W, w3.alloc (.cells #[.int .i64 (cd : Int), .int .i64 (cg : Int), .int .i64 0] 28) = W := ⟨_, rfl⟩
        obtain ⟨N9, hN9⟩ : ∃ N, w3.heap.size = N := ⟨_, rfl⟩
        have hM9 : Whole W4 N9 28 #[.int .i64 (cd : Int), .int .i64 (cg : Int), .int .i64 0] := by rw [← hW4, ← hN9]; exact Whole.new _ _ _
        have hM7c : Whole W4 N7 25 #[.int .i64 (cd : Int), .bool false, .int .i64 (cg : Int)] := by rw [← hW4]; exact hM7b.alloc _
        have HB4 := Lib.hid (show Below w.heap.size w W4 by rw [← hW4]; exact HB3.out.alloc HB3.out.size _)
        rw [hW4, hN9]
        have m0 := hM7c.cell 0
        have m1 := hM7c.cell 1
        have m2 := hM7c.cell 2
        have n0 := hM9.cell 0
        have n1 := hM9.cell 1
        have n2 := hM9.cell 2
        simp at m0 m1 m2 n0 n1 n2
        have HM9 := Lib.hid hM9
        clear hW4 hN9 hM9 hM7b hM7c
        go_wp2_with fail
        (refine (TK.out W4 (HC.out.below HB4.out)).mono ?_)
        rintro e w5 ⟨rfl, hb5⟩
        have HB5 := Lib.hid (HB4.out.trans (hb5.mono HB4.out.size))
        clear hb5
        go_wp2_with fail
        go_ret
        exact ⟨rfl, HB5.out⟩
    | true =>
      rw [show w01 true = 1 from rfl] at RL
      rcases hfr2 with ⟨f0, f1⟩ | ⟨f0, f1, f2⟩
      · skip
        go_enter Tryd.func3, Tryd.ntmps3
        go_wp2_with fail
        (with_reducible refine (awake16_any w HC.out).mono ?_)
        rintro e w1 ⟨rfl, hb1⟩
        have HB1 := Lib.hid hb1
        have LV1 := Lib.hid (LV.out w1 (HC.out.below hb1))
        clear hb1
        go_wp2_with fail
        (refine LV1.out.mono ?_)
        rintro e w2 ⟨rfl, hb2⟩
        have HB2 := Lib.hid (HB1.out.trans (hb2.mono HB1.out.size))
        clear hb2 LV1
        go_wp2_with fail
        obtain ⟨W2, hW2⟩ : ∃ W, w2.alloc (.cells #[.int .i64 (cd : Int), .bool true, .int .i64 (cg : Int)] 25) = W := ⟨_, rfl⟩
        obtain ⟨N7, hN7⟩ : ∃ N, w2.heap.size = N := ⟨_, rfl⟩
        have hM7 : Whole W2 N7 25 #[.int .i64 (cd : Int), .bool true, .int .i64 (cg : Int)] := by rw [← hW2, ← hN7]; exact Whole.new _ _ _
        have hBW2 : Below w.heap.size w W2 := by rw [← hW2]; exact HB2.out.alloc HB2.out.size _
        rw [hW2, hN7]
        clear hW2 hN7
        (refine (RL.out W2).mono ?_)
        rintro e w3 ⟨rfl, hb3⟩
        have HB3 := Lib.hid (hBW2.trans (hb3.mono hBW2.size))
        have hM7b := hM7.below hb3 hM7.lt
        clear hb3 hM7 hBW2
        go_upto_region 7 with (fail)
        obtain ⟨W4, hW4⟩ : ∃ W, w3.alloc (.cells #[.int .i64 (cd : Int), .int .i64 (cg : Int), .int .i64 1] 28) = W := ⟨_, rfl⟩
        obtain ⟨N9, hN9⟩ : ∃ N, w3.heap.size = N := ⟨_, rfl⟩
        have hM9 : Whole W4 N9 28 #[.int .i64 (cd : Int), .int .i64 (cg : Int), .int .i64 1] := by rw [← hW4, ← hN9]; exact Whole.new _ _ _
        have hM7c : Whole W4 N7 25 #[.int .i64 (cd : Int), .bool true, .int .i64 (cg : Int)] := by rw [← hW4]; exact hM7b.alloc _
        have HB4 := Lib.hid (show Below w.heap.size w W4 by rw [← hW4]; exact HB3.out.alloc HB3.out.size _)
        rw [hW4, hN9]
        have m0 := hM7c.cell 0
        have m1 := hM7c.cell 1
        have m2 := hM7c.cell 2
        have n0 := hM9.cell 0
        have n1 := hM9.cell 1
        have n2 := hM9.cell 2
        simp at m0 m1 m2 n0 n1 n2
        have HM9 := Lib.hid hM9
        clear hW4 hN9 hM9 hM7b hM7c
        go_wp2_with fail
        (refine (TK.out W4 (HC.out.below HB4.out)).mono ?_)
        rintro e w5 ⟨rfl, hb5⟩
        have HB5 := Lib.hid (HB4.out.trans (hb5.mono HB4.out.size))
        clear hb5
        go_wp2_with fail
        go_ret
        exact ⟨rfl, HB5.out⟩
      · skip
        go_enter Tryd.func3, Tryd.ntmps3
        go_wp2_with fail
        (with_reducible refine (awake16_any w HC.out).mono ?_)
        rintro e w1 ⟨rfl, hb1⟩
        have HB1 := Lib.hid hb1
        have LV1 := Lib.hid (LV.out w1 (HC.out.below hb1))
        clear hb1
        go_wp2_with fail
        (refine LV1.out.mono ?_)
        rintro e w2 ⟨rfl, hb2⟩
        have HB2 := Lib.hid (HB1.out.trans (hb2.mono HB1.out.size))
        clear hb2 LV1
        go_wp2_with fail
        obtain ⟨W2, hW2⟩ : ∃ W, w2.alloc (.cells #[.int .i64 (cd : Int), .bool true, .int .i64 (cg : Int)] 25) = W := ⟨_, rfl⟩
        obtain ⟨N7, hN7⟩ : ∃ N, w2.heap.size = N := ⟨_, rfl⟩
        have hM7 : Whole W2 N7 25 #[.int .i64 (cd : Int), .bool true, .int .i64 (cg : Int)] := by rw [← hW2, ← hN7]; exact Whole.new _ _ _
        have hBW2 : Below w.heap.size w W2 := by rw [← hW2]; exact HB2.out.alloc HB2.out.size _
        rw [hW2, hN7]
        clear hW2 hN7
        (refine (RL.out W2).mono ?_)
        rintro e w3 ⟨rfl, hb3⟩
        have HB3 := Lib.hid (hBW2.trans (hb3.mono hBW2.size))
        have hM7b := hM7.below hb3 hM7.lt
        clear hb3 hM7 hBW2
        go_upto_region 7 with (fail)
        obtain ⟨W4, hW4⟩ : ∃ W, w3.alloc (.cells #[.int .i64 (cd : Int), .int .i64 (cg : Int), .int .i64 1] 28) = W := ⟨_, rfl⟩
        obtain ⟨N9, hN9⟩ : ∃ N, w3.heap.size = N := ⟨_, rfl⟩
        have hM9 : Whole W4 N9 28 #[.int .i64 (cd : Int), .int .i64 (cg : Int), .int .i64 1] := by rw [← hW4, ← hN9]; exact Whole.new _ _ _
        have hM7c : Whole W4 N7 25 #[.int .i64 (cd : Int), .bool true, .int .i64 (cg : Int)] := by rw [← hW4]; exact hM7b.alloc _
        have HB4 := Lib.hid (show Below w.heap.size w W4 by rw [← hW4]; exact HB3.out.alloc HB3.out.size _)
        rw [hW4, hN9]
        have m0 := hM7c.cell 0
        have m1 := hM7c.cell 1
        have m2 := hM7c.cell 2
        have n0 := hM9.cell 0
        have n1 := hM9.cell 1
        have n2 := hM9.cell 2
        simp at m0 m1 m2 n0 n1 n2
        have HM9 := Lib.hid hM9
        clear hW4 hN9 hM9 hM7b hM7c
        go_wp2_with fail
        (refine (TK.out W4 (HC.out.below HB4.out)).mono ?_)
        rintro e w5 ⟨rfl, hb5⟩
        have HB5 := Lib.hid (HB4.out.trans (hb5.mono HB4.out.size))
        clear hb5
        go_wp2_with fail
        go_ret
        exact ⟨rfl, HB5.out⟩
  · obtain ⟨i0, rfl⟩ := Int.eq_ofNat_of_zero_le (show 0 ≤ fr by omega)
    have hi : i0 ≤ D.length := by omega
    have TK := Lib.hid (fun W (hb : Below w.heap.size w W) => tokens_any D a cap w.heap.size i0 n W (by omega) (HS.out.below hb (Nat.le_refl _)) hb.size hi hn (HC.out.below hb))
    have RT := Lib.hid (fun W (hb : Below w.heap.size w W) => refTokens_any D a cap w.heap.size i0 (careAt n) W (by omega) (HS.out.below hb (Nat.le_refl _)) hb.size hi (by omega) (by omega))
    have hRl : (lzF D (careAt n) (D.length - i0) i0).length ≤ 1000000 := by have := len_lzF D (careAt n) (D.length - i0) i0; omega
    unfold careV at LV
    unfold careA at RL RT
    generalize lzF D (careAt n) (D.length - i0) i0 = R at TK RT hRl
    generalize careAt n = c at LV RL RT hcl
    obtain ⟨cd, cw, cg⟩ := c
    simp only at LV RL RT hcl
    have f1 : decide ((i0 : Int) < 0) = false := decide_eq_false (by omega)
    have f2 : decide (D.length < i0) = false := decide_eq_false (by omega)
    have i0' : (0 : Int) ≤ (i0 : Int) := Int.natCast_nonneg _
    clear hfr hlv
    cases cw with
    | false =>
      rw [show w01 false = 0 from rfl] at RL RT
      go_enter Tryd.func3, Tryd.ntmps3
      go_wp2_with fail
      (with_reducible refine (awake16_any w HC.out).mono ?_)
      rintro e w1 ⟨rfl, hb1⟩
      have HB1 := Lib.hid hb1
      have LV1 := Lib.hid (LV.out w1 (HC.out.below hb1))
      clear hb1
      go_wp2_with fail
      (refine LV1.out.mono ?_)
      rintro e w2 ⟨rfl, hb2⟩
      have HB2 := Lib.hid (HB1.out.trans (hb2.mono HB1.out.size))
      clear hb2 LV1
      go_wp2_with fail
      obtain ⟨W2, hW2⟩ : ∃ W, w2.alloc (.cells #[.int .i64 (cd : Int), .bool false, .int .i64 (cg : Int)] 25) = W := ⟨_, rfl⟩
      obtain ⟨N7, hN7⟩ : ∃ N, w2.heap.size = N := ⟨_, rfl⟩
      have hM7 : Whole W2 N7 25 #[.int .i64 (cd : Int), .bool false, .int .i64 (cg : Int)] := by rw [← hW2, ← hN7]; exact Whole.new _ _ _
      have hBW2 : Below w.heap.size w W2 := by rw [← hW2]; exact HB2.out.alloc HB2.out.size _
      rw [hW2, hN7]
      clear hW2 hN7
      (refine (RL.out W2).mono ?_)
      rintro e w3 ⟨rfl, hb3⟩
      have HB3 := Lib.hid (hBW2.trans (hb3.mono hBW2.size))
      have hM7b := hM7.below hb3 hM7.lt
      clear hb3 hM7 hBW2
      go_upto_region 7 with (fail)
      obtain ⟨W4, hW4⟩ : ∃ W, w3.alloc (.cells #[.int .i64 (cd : Int), .int .i64 (cg : Int), .int .i64 0] 28) = W := ⟨_, rfl⟩
      obtain ⟨N9, hN9⟩ : ∃ N, w3.heap.size = N := ⟨_, rfl⟩
      have hM9 : Whole W4 N9 28 #[.int .i64 (cd : Int), .int .i64 (cg : Int), .int .i64 0] := by rw [← hW4, ← hN9]; exact Whole.new _ _ _
      have hM7c : Whole W4 N7 25 #[.int .i64 (cd : Int), .bool false, .int .i64 (cg : Int)] := by rw [← hW4]; exact hM7b.alloc _
      have HB4 := Lib.hid (show Below w.heap.size w W4 by rw [← hW4]; exact HB3.out.alloc HB3.out.size _)
      rw [hW4, hN9]
      have m0 := hM7c.cell 0
      have m1 := hM7c.cell 1
      have m2 := hM7c.cell 2
      have n0 := hM9.cell 0
      have n1 := hM9.cell 1
      have n2 := hM9.cell 2
      simp at m0 m1 m2 n0 n1 n2
      have HM9 := Lib.hid hM9
      clear hW4 hN9 hM9 hM7b hM7c
      go_wp2_with fail
      (refine (TK.out W4 HB4.out).mono ?_)
      rintro e w5 ⟨A5, c5, rfl, ho5, hb5⟩
      have HB5 := Lib.hid (HB4.out.trans (hb5.mono HB4.out.size))
      have HS5 := Lib.hid (Sl.of_ownN ho5)
      have hM9b := HM9.out.below hb5 HM9.out.lt
      have n0 := hM9b.cell 0
      have n1 := hM9b.cell 1
      have n2 := hM9b.cell 2
      simp at n0 n1 n2
      clear ho5 hb5 hM9b
      go_wp2_with fail
      (refine (RT.out w5 HB5.out).mono ?_)
      rintro e w6 ⟨A6, c6, rfl, ho6, hb6⟩
      have HB6 := Lib.hid (HB5.out.trans (hb6.mono HB5.out.size))
      have HS6 := Lib.hid (Sl.of_ownN ho6)
      have HS5b := Lib.hid (HS5.out.below hb6 (Nat.le_refl _))
      have hs56 := hb6.size
      clear ho6 hb6 HS5
      go_wp2_with fail
      (refine (refs_gives A5 c5 w6 hRl (HS5b.out.more hs56)).mono ?_)
      rintro e w7 ⟨A7, c7, rfl, hs7, hb7⟩
      have HB7 := Lib.hid (HB6.out.trans (hb7.mono HB6.out.size))
      have HS7 := Lib.hid hs7
      have HS6b := Lib.hid (HS6.out.below hb7 (Nat.le_refl _))
      clear hs7 hb7 HS6
      go_wp2_with fail
      go_loopw [15] (fun i wr => ∃ k : Nat, k ≤ R.length ∧ i = .int .i64 k ∧ ∃ n, wr = w7.drewN n) (fun i _ => R.length - (intOf i).toNat)
      case atStart => exact ⟨0, Nat.zero_le _, rfl, 0, rfl⟩
      case round =>
        obtain ⟨k, hk, rfl, q, rfl⟩ := hrel
        by_cases hlt : k < R.length
        · have hx := List.getElem?_eq_getElem hlt
          obtain ⟨b1, o1, rfl, _, p0, p1, p2⟩ := toks_at HS7.out hx
          obtain ⟨b2, o2, rfl, _, q0, q1, q2⟩ := toks_at HS6b.out hx
          generalize R[k] = t at p0 p1 p2 q0 q1 q2
          obtain ⟨lit, len, dist⟩ := t
          simp only [] at p0 p1 p2 q0 q1 q2
          clear hx
          generalize (lit.toNat : Int) = x at p0 q0
          have k0 : (0 : Int) ≤ (k : Int) := Int.natCast_nonneg _
          have k1 : (k : Int) < (R.length : Int) := by omega
          have t0 : decide (k < R.length) = true := decide_eq_true hlt
          go_wp2_with fail
          go_quiet (fail)
          go_wp2_with fail
          go_roundw
          case rel => exact ⟨k + 1, by omega, by go_num, _, rfl⟩
          case measure => simp [intOf]; omega
        · obtain rfl : k = R.length := by omega
          have t0 : decide (R.length < R.length) = false := decide_eq_false (by omega)
          go_wp2_with fail
          go_ret
          exact ⟨rfl, below_drewN HB7.out _⟩
    | true =>
      rw [show w01 true = 1 from rfl] at RL RT
      go_enter Tryd.func3, Tryd.ntmps3
      go_wp2_with fail
      (with_reducible refine (awake16_any w HC.out).mono ?_)
      rintro e w1 ⟨rfl, hb1⟩
      have HB1 := Lib.hid hb1
      have LV1 := Lib.hid (LV.out w1 (HC.out.below hb1))
      clear hb1
      go_wp2_with fail
      (refine LV1.out.mono ?_)
      rintro e w2 ⟨rfl, hb2⟩
      have HB2 := Lib.hid (HB1.out.trans (hb2.mono HB1.out.size))
      clear hb2 LV1
      go_wp2_with fail
      obtain ⟨W2, hW2⟩ : ∃ W, w2.alloc (.cells #[.int .i64 (cd : Int), .bool true, .int .i64 (cg : Int)] 25) = W := ⟨_, rfl⟩
      obtain ⟨N7, hN7⟩ : ∃ N, w2.heap.size = N := ⟨_, rfl⟩
      have hM7 : Whole W2 N7 25 #[.int .i64 (cd : Int), .bool true, .int .i64 (cg : Int)] := by rw [← hW2, ← hN7]; exact Whole.new _ _ _
      have hBW2 : Below w.heap.size w W2 := by rw [← hW2]; exact HB2.out.alloc HB2.out.size _
      rw [hW2, hN7]
      clear hW2 hN7
      (refine (RL.out W2).mono ?_)
      rintro e w3 ⟨rfl, hb3⟩
      have HB3 := Lib.hid (hBW2.trans (hb3.mono hBW2.size))
      have hM7b := hM7.below hb3 hM7.lt
      clear hb3 hM7 hBW2
      go_upto_region 7 with (fail)
      obtain ⟨W4, hW4⟩ : ∃ W, w3.alloc (.cells #[.int .i64 (cd : Int), .int .i64 (cg : Int), .int .i64 1] 28) = W := ⟨_, rfl⟩
      obtain ⟨N9, hN9⟩ : ∃ N, w3.heap.size = N := ⟨_, rfl⟩
      have hM9 : Whole W4 N9 28 #[.int .i64 (cd : Int), .int .i64 (cg : Int), .int .i64 1] := by rw [← hW4, ← hN9]; exact Whole.new _ _ _
      have hM7c : Whole W4 N7 25 #[.int .i64 (cd : Int), .bool true, .int .i64 (cg : Int)] := by rw [← hW4]; exact hM7b.alloc _
      have HB4 := Lib.hid (show Below w.heap.size w W4 by rw [← hW4]; exact HB3.out.alloc HB3.out.size _)
      rw [hW4, hN9]
      have m0 := hM7c.cell 0
      have m1 := hM7c.cell 1
      have m2 := hM7c.cell 2
      have n0 := hM9.cell 0
      have n1 := hM9.cell 1
      have n2 := hM9.cell 2
      simp at m0 m1 m2 n0 n1 n2
      have HM9 := Lib.hid hM9
      clear hW4 hN9 hM9 hM7b hM7c
      go_wp2_with fail
      (refine (TK.out W4 HB4.out).mono ?_)
      rintro e w5 ⟨A5, c5, rfl, ho5, hb5⟩
      have HB5 := Lib.hid (HB4.out.trans (hb5.mono HB4.out.size))
      have HS5 := Lib.hid (Sl.of_ownN ho5)
      have hM9b := HM9.out.below hb5 HM9.out.lt
      have n0 := hM9b.cell 0
      have n1 := hM9b.cell 1
      have n2 := hM9b.cell 2
      simp at n0 n1 n2
      clear ho5 hb5 hM9b
      go_wp2_with fail
      (refine (RT.out w5 HB5.out).mono ?_)
      rintro e w6 ⟨A6, c6, rfl, ho6, hb6⟩
      have HB6 := Lib.hid (HB5.out.trans (hb6.mono HB5.out.size))
      have HS6 := Lib.hid (Sl.of_ownN ho6)
      have HS5b := Lib.hid (HS5.out.below hb6 (Nat.le_refl _))
      have hs56 := hb6.size
      clear ho6 hb6 HS5
      go_wp2_with fail
      (refine (refs_gives A5 c5 w6 hRl (HS5b.out.more hs56)).mono ?_)
      rintro e w7 ⟨A7, c7, rfl, hs7, hb7⟩
      have HB7 := Lib.hid (HB6.out.trans (hb7.mono HB6.out.size))
      have HS7 := Lib.hid hs7
      have HS6b := Lib.hid (HS6.out.below hb7 (Nat.le_refl _))
      clear hs7 hb7 HS6
      go_wp2_with fail
      go_loopw [15] (fun i wr => ∃ k : Nat, k ≤ R.length ∧ i = .int .i64 k ∧ ∃ n, wr = w7.drewN n) (fun i _ => R.length - (intOf i).toNat)
      case atStart => exact ⟨0, Nat.zero_le _, rfl, 0, rfl⟩
      case round =>
        obtain ⟨k, hk, rfl, q, rfl⟩ := hrel
        by_cases hlt : k < R.length
        · have hx := List.getElem?_eq_getElem hlt
          obtain ⟨b1, o1, rfl, _, p0, p1, p2⟩ := toks_at HS7.out hx
          obtain ⟨b2, o2, rfl, _, q0, q1, q2⟩ := toks_at HS6b.out hx
          generalize R[k] = t at p0 p1 p2 q0 q1 q2
          obtain ⟨lit, len, dist⟩ := t
          simp only [] at p0 p1 p2 q0 q1 q2
          clear hx
          generalize (lit.toNat : Int) = x at p0 q0
          have k0 : (0 : Int) ≤ (k : Int) := Int.natCast_nonneg _
          have k1 : (k : Int) < (R.length : Int) := by omega
          have t0 : decide (k < R.length) = true := decide_eq_true hlt
          go_wp2_with fail
          go_quiet (fail)
          go_wp2_with fail
          go_roundw
          case rel => exact ⟨k + 1, by omega, by go_num, _, rfl⟩
          case measure => simp [intOf]; omega
        · obtain rfl : k = R.length := by omega
          have t0 : decide (R.length < R.length) = false := decide_eq_false (by omega)
          go_wp2_with fail
          go_ret
          exact ⟨rfl, below_drewN HB7.out _⟩
end Go.Proofs.YtjfmaebgihlegaaDoor
