/-
  runs.Add at a repetition, the page's example; the law RunsShorter returns true: walk.
-/
import Derived.Test.YtgnghlcdbilgjaaRunsExt
import Derived.Test.YtgnghlcdbilgjaaRunsPack
import Derived.Test.YtgnghlcdbilgjaaInts
import Derived.Deep.RegionHeld3
import Derived.OwnWalk
namespace Go.Proofs.Ytgnghlcdbilgjaa
open Go.RowKit

set_option maxRecDepth 100000 in
set_option maxHeartbeats 600000 in
theorem add_again (l : List Int) (e most : Int) (a : Option Addr) (c B : Nat) (w : World) (hl : l.length ≤ 1000000) (hmay : Rn.may l 16 e most = true) (hsl : Sl w B a (intsV l)) (hB : B ≤ w.heap.size) :
    Calls Try.prog 10 #[.slice a l.length c, .agg #[.int .i64 16, .int .i64 e], .int .i64 most] w fun en w' => ∃ A c', en = .returned (.tuple #[.slice A (Rn.ext l 16 e most).length c', .int .i64 0]) ∧ w'.ownsRow w.heap.size 3 1 (.slice A (Rn.ext l 16 e most).length c') (Rn.ext l 16 e most).length (intsV (Rn.ext l 16 e most)) ∧ Below w.heap.size w w' := by
  obtain ⟨W, hW, hN, hBW⟩ : ∃ W, w.alloc (.cells #[.int .i64 16, .int .i64 e] 32) = W ∧ Whole W w.heap.size 32 #[.int .i64 16, .int .i64 e] ∧ Below w.heap.size w W :=
    ⟨_, rfl, Whole.new w _ _, (Below.refl _ _).alloc (Nat.le_refl _) _⟩
  have HW := Lib.hid hW
  have HBW := Lib.hid hBW
  have hsW := hBW.size
  have CL := fun V (hb : Below W.heap.size W V) => Lib.hid (cloneI_any l a c B V (by omega) ((hsl.below hBW hB).below hb (by omega)) (by have := hb.size; omega))
  have EX := fun A3 c3 V (ho : V.ownsRow W.heap.size 3 1 (.slice A3 l.length c3) l.length (intsV l)) (hs : W.heap.size ≤ V.heap.size) => Lib.hid (ext_again W.heap.size l e most A3 c3 V (by omega) hs ho)
  have KC := Lib.hid (fun V (hb : Below W.heap.size W V) => (show V.cell? ⟨w.heap.size, 0, none⟩ = some (.int .i64 16) ∧ V.cell? ⟨w.heap.size, 1, none⟩ = some (.int .i64 e) from
    ⟨(hb.cell (p := ⟨w.heap.size, 0, none⟩) hN.lt).trans (by have h := hN.cell 0; simpa using h), (hb.cell (p := ⟨w.heap.size, 1, none⟩) hN.lt).trans (by have h := hN.cell 1; simpa using h)⟩))
  have B1 := Lib.hid (show Below W.heap.size W W.drew from below_drewN (Below.refl W.heap.size W) 1)
  obtain ⟨c0, c1⟩ := KC.out W (Below.refl _ _)
  have HMAY := Lib.hid hmay
  clear hW hN hBW hsl hmay
  go_enter Try.func10, Try.ntmps10
  go_wp2_with fail
  rw [HW.out]
  go_region_held3 (fun V => V.cell? ⟨w.heap.size, 0, none⟩ = some (.int .i64 16) ∧ V.cell? ⟨w.heap.size, 1, none⟩ = some (.int .i64 e)) (first | exact ⟨c0, c1⟩ | exact KC.out _ BX.out)
    (first
      | ((go_at_call 14; (with_reducible refine (CL _ B1.out).out.mono ?_); rintro e2 w3 ⟨A3, c3, rfl, hown3, hb3⟩; rw [len_intsV] at hown3 ⊢; have BX := Lib.hid (B1.out.trans hb3)))
      | ((go_at_call 13; (with_reducible refine (EX _ _ _ hown3 BX.out.size).out.mono ?_); rintro e2 w4 ⟨A4, c4, rfl, hown4, hb4⟩; have BX := Lib.hid (BX.out.trans hb4))))
  rw [HMAY.out] at *
  have HO4 := Lib.hid (own_base hown4 hsW)
  have HB4 := Lib.hid (HBW.out.trans (BX.out.mono hsW))
  clear hown3 hown4 hb3 hb4 BX
  go_wp2_with fail
  go_ret2
  exact ⟨A4, c4, rfl, HO4.out, HB4.out⟩

theorem waking11 : Rn.ext [7] 16 0 9 = [7, 7, 7, 7] := by decide
set_option maxRecDepth 100000 in
set_option maxHeartbeats 400000 in
theorem awake11_any (w : World) : Calls Try.prog 5 #[] w fun e w' => e = .returned (.bool true) ∧ Below w.heap.size w w' := by
  go_enter Try.func5, Try.ntmps5
  go_wp2_with fail
  refine (add_again [7] 0 9 _ 1 (w.heap.size + 1) _ (by simp) (by decide) (Sl.new_ w _ _ _) (by simp)).mono ?_
  rintro e w1 ⟨A, c, rfl, hown, hb⟩
  rw [waking11] at hown ⊢
  have HB := Lib.hid (((Below.refl w.heap.size w).alloc (Nat.le_refl _) _).trans (hb.mono (by simp)))
  have hs := HB.out.size
  have IN := Lib.hid (ints_same [7, 7, 7, 7] [7, 7, 7, 7] A (some ⟨w1.heap.size, 0, none⟩) c 4 w1.heap.size (w1.heap.size + 1) (w1.alloc (.cells #[.int .i64 7, .int .i64 7, .int .i64 7, .int .i64 7] 3)) (by decide) (by decide) ((Sl.of_own hown).alloc (Nat.le_refl _) _) (Sl.new_ w1 _ _ _))
  rw [show decide (([7, 7, 7, 7] : List Int) = [7, 7, 7, 7]) = true by decide] at IN
  rw [show ([7, 7, 7, 7] : List Int).length = 4 from rfl] at IN ⊢
  clear hown hb
  go_wp2_with fail
  refine IN.out.mono ?_
  rintro e w2 ⟨rfl, n, rfl⟩
  go_wp2_with fail
  go_ret
  exact ⟨rfl, below_drewN (HB.out.alloc hs _) n⟩

theorem madeI (n : Nat) : (madeCells (Value.int .i64 0).cells (n * 1)).toList = intsV (List.replicate n 0) := by
  apply List.ext_getElem?
  intro q
  by_cases hq : q < n
  · simp [madeCells, intsV, Value.cells, hq, Nat.mod_one]
  · rw [List.getElem?_eq_none (by simp [madeCells]; omega), List.getElem?_eq_none (by simp [intsV]; omega)]
theorem zeros_ok (n : Nat) : (List.replicate n (0 : Int)).all okLen = true := by
  rw [List.all_eq_true]
  intro x hx
  rw [List.eq_of_mem_replicate hx]; rfl
theorem ints_append (l m : List Int) : intsV (l ++ m) = intsV l ++ intsV m := by simp [intsV]

set_option maxRecDepth 100000 in
set_option maxHeartbeats 2000000 in
theorem runsShorter_walk (xa : Option Addr) (x : List Int) (c : Nat) (ya : Option Addr) (y : List Int) (d n : Nat) (w : World) (hxm : x.length ≤ maxLen) (_hxc : x.length ≤ c) (_hx : ∀ z ∈ x, -9223372036854775808 ≤ z ∧ z ≤ 9223372036854775807) (hsx : Sl w w.heap.size xa (intsV x)) (hym : y.length ≤ maxLen) (_hyd : y.length ≤ d) (_hy : ∀ z ∈ y, -9223372036854775808 ≤ z ∧ z ≤ 9223372036854775807) (hsy : Sl w w.heap.size ya (intsV y)) (hn : n < 256) :
    Calls Try.prog 3 #[.slice xa x.length c, .slice ya y.length d, .int .u8 (n : Int)] w fun e w' => e = .returned (.bool true) ∧ Below w.heap.size w w' := by
  unfold maxLen at hxm hym
  have HX := Lib.hid hsx
  have HY := Lib.hid hsy
  clear hsx hsy _hx _hy
  by_cases h1 : x.length ≤ 100
  case neg =>
    have t1 : decide ((100 : Int) < (x.length : Int)) = true := decide_eq_true (by omega)
    go_enter Try.func3, Try.ntmps3
    go_wp2_with fail
    refine (awake11_any w).mono ?_
    rintro e w1 ⟨rfl, hb1⟩
    go_wp2_with fail
    go_ret
    exact ⟨rfl, hb1⟩
  have t1 : decide ((100 : Int) < (x.length : Int)) = false := decide_eq_false (by omega)
  by_cases h2 : y.length ≤ 100
  case neg =>
    have t2 : decide ((100 : Int) < (y.length : Int)) = true := decide_eq_true (by omega)
    go_enter Try.func3, Try.ntmps3
    go_wp2_with fail
    refine (awake11_any w).mono ?_
    rintro e w1 ⟨rfl, hb1⟩
    go_wp2_with fail
    go_ret
    exact ⟨rfl, hb1⟩
  have t2 : decide ((100 : Int) < (y.length : Int)) = false := decide_eq_false (by omega)
  by_cases h3 : 11 ≤ n
  case neg =>
    have t3 : decide ((n : Int) < 11) = true := decide_eq_true (by omega)
    go_enter Try.func3, Try.ntmps3
    go_wp2_with fail
    refine (awake11_any w).mono ?_
    rintro e w1 ⟨rfl, hb1⟩
    go_wp2_with fail
    go_ret
    exact ⟨rfl, hb1⟩
  have t3 : decide ((n : Int) < 11) = false := decide_eq_false (by omega)
  obtain ⟨i0, hi0, hz0, hz1, hz2⟩ := info_parts intInfoC
  have Hi0 := Lib.hid hi0
  have Hz0 := Lib.hid hz0
  have Hz1 := Lib.hid hz1
  have Hz2 := Lib.hid hz2
  have Hz3 := Lib.hid (show i0.bytes * n ≤ 281474976710656 by rw [hz2]; omega)
  clear hi0 hz0 hz1 hz2
  have hps := Rn.pack_zeros n [] (by omega)
  rw [List.append_nil, List.length_replicate] at hps
  have hpa := Rn.pack_shorter x n y (by omega)
  have HPA := Lib.hid hpa
  go_enter Try.func3, Try.ntmps3
  go_wp2_with fail
  refine (awake11_any w).mono ?_
  rintro e w1 ⟨rfl, hb1⟩
  have HB1 := Lib.hid hb1
  have hs1 := hb1.size
  clear hb1 hpa
  go_wp2_with (at_make; refine wpList_make_full _ rfl _ _ _ rfl w.heap.size 3 i0 _ 1 Try.underlying22 Hi0.out Hz0.out Hz1.out .i64 .i64 _ _ n rfl rfl rfl rfl Hz3.out (by unfold maxLen; omega) hs1 ?_; intro w2 hown2 hgrow2; rw [madeI] at hown2; have HO2 := Lib.hid hown2; have HB2 := Lib.hid (HB1.out.grown hgrow2 hs1 (fun k hk => by cases hk)); clear hown2 hgrow2)
  have hs2 := HB2.out.size
  have PK := pack_ok (List.replicate n 0) (some ⟨w1.heap.size, 0, none⟩) n w2.heap.size w2 (by simp; omega) (zeros_ok n) (Sl.of_own HO2.out) (Nat.le_refl _)
  rw [List.length_replicate] at PK
  have HPK := Lib.hid PK
  clear PK
  (with_reducible refine HPK.out.mono ?_)
  rintro e w3 ⟨A3, c3, rfl, -, hb3⟩
  have HB3 := Lib.hid (HB2.out.trans (hb3.mono hs2))
  have hs3 := HB3.out.size
  have HZ3 := Lib.hid ((Sl.of_own HO2.out).below hb3 (Nat.le_refl _))
  have h23 := hb3.size
  clear hb3 HPK
  have t4 : decide ((((Rn.pack (List.replicate n 0)).length : Nat) : Int) < (n : Int)) = true := decide_eq_true (by omega)
  have t4' : decide ((Rn.pack (List.replicate n 0)).length < n) = true := decide_eq_true hps
  generalize (Rn.pack (List.replicate n 0)).length = pl at t4 t4' ⊢
  clear hps
  go_wp2_with (first
    | (at_builtin; refine wpList_append_sl _ rfl (.tmp 35) (.tmp 36) _ rfl w3.heap.size 3 i0 _ 8 Try.underlying22 Hi0.out Hz0.out Hz1.out Hz2.out rfl _ 0 [] rfl (World.ownsRow_lit w3 #[] 0 (Nat.le_refl _) (by decide) rfl) w.heap.size xa x.length c (intsV x) (len_intsV x) rfl ((HX.out.below HB3.out (Nat.le_refl _)).alloc hs3 _) (int64s_oneCell x) (by unfold maxLen; omega) (by omega) (by simp) ?_; intro v4 w4 hown4 hgrow4 hat4; have B34 := Lib.hid (own_below (World.ownsRow_lit (base := w3.heap.size) (e := 3) (size := 1) w3 #[] 0 (Nat.le_refl _) (by decide) rfl) hgrow4 (Nat.le_refl _) (by simp) ((Below.refl w3.heap.size w3).alloc (Nat.le_refl _) _)); rw [Nat.zero_add, List.nil_append] at hown4; have HO4 := Lib.hid hown4; clear hown4 hgrow4 hat4)
    | (at_builtin; refine wpList_append_sl _ rfl (.tmp 37) (.tmp 38) _ rfl w3.heap.size 3 i0 _ 8 Try.underlying22 Hi0.out Hz0.out Hz1.out Hz2.out rfl _ x.length (intsV x) rfl HO4.out w2.heap.size _ n n (intsV (List.replicate n 0)) (by rw [len_intsV, List.length_replicate]) rfl (HZ3.out.below B34.out h23) (int64s_oneCell _) (by unfold maxLen; omega) (by omega) B34.out.size ?_; intro v5 w5 hown5 hgrow5 hat5; have B35 := Lib.hid (own_below HO4.out hgrow5 (Nat.le_refl _) B34.out.size B34.out); have HO5 := Lib.hid hown5; clear hown5 hgrow5 hat5)
    | (at_builtin; refine wpList_append_sl _ rfl (.tmp 39) (.tmp 40) _ rfl w3.heap.size 3 i0 _ 8 Try.underlying22 Hi0.out Hz0.out Hz1.out Hz2.out rfl _ (x.length + n) (intsV x ++ intsV (List.replicate n 0)) rfl HO5.out w.heap.size ya y.length d (intsV y) (len_intsV y) rfl ((HY.out.below HB3.out (Nat.le_refl _)).below B35.out hs3) (int64s_oneCell y) (by unfold maxLen; omega) (by omega) B35.out.size ?_; intro v6 w6 hown6 hgrow6 hat6; have B36 := Lib.hid (own_below HO5.out hgrow6 (Nat.le_refl _) B35.out.size B35.out); (obtain ⟨al, hal⟩ : ∃ al, x.length + n + y.length = al := ⟨_, rfl⟩); rw [hal] at hown6; have HAL := Lib.hid hal; clear hal; obtain ⟨A6, c6, rfl⟩ := own_form hown6; have HO6 := Lib.hid hown6; clear hown6 hgrow6 hat6))
  have HB6 := Lib.hid (HB3.out.trans (B36.out.mono hs3))
  have hs6 := HB6.out.size
  have hll : (x ++ List.replicate n 0 ++ y).length = al := by rw [← HAL.out, List.length_append, List.length_append, List.length_replicate]
  have hal6 : al ≤ 500 := by have := HAL.out; omega
  have HS6 := Lib.hid (show Sl w6 w6.heap.size A6 (intsV (x ++ List.replicate n 0 ++ y)) by
    have h := Sl.of_own HO6.out
    rw [← ints_append, ← ints_append] at h; exact h)
  have hpl := HPA.out
  rw [hll] at hpl
  by_cases hok : (x ++ List.replicate n 0 ++ y).all okLen = true
  · have PK := pack_ok (x ++ List.replicate n 0 ++ y) A6 c6 w6.heap.size w6 (by omega) hok HS6.out (Nat.le_refl _)
    rw [hll] at PK
    have HPK := Lib.hid PK
    clear PK hll hok
    (with_reducible refine HPK.out.mono ?_)
    rintro e w7 ⟨A7, c7, rfl, -, hb7⟩
    have HB7 := Lib.hid (HB6.out.trans (hb7.mono hs6))
    clear hb7 HPK
    have t5 : decide (((Rn.pack (x ++ List.replicate n 0 ++ y)).length : Int) < (al : Int)) = true := decide_eq_true (by omega)
    have t5' : decide ((Rn.pack (x ++ List.replicate n 0 ++ y)).length < al) = true := decide_eq_true hpl
    generalize (Rn.pack (x ++ List.replicate n 0 ++ y)).length = pl2 at t5 t5' ⊢
    clear hpl
    go_wp2_with fail
    go_ret
    exact ⟨rfl, HB7.out⟩
  · have PK := pack_bad (x ++ List.replicate n 0 ++ y) A6 c6 w6.heap.size w6 (by omega) (by simpa using hok) HS6.out
    rw [hll] at PK
    have HPK := Lib.hid PK
    clear PK hll hok hpl
    (with_reducible refine HPK.out.mono ?_)
    rintro e w7 ⟨rfl, rfl⟩
    go_wp2_with fail
    go_ret
    exact ⟨rfl, HB6.out⟩
end Go.Proofs.Ytgnghlcdbilgjaa
