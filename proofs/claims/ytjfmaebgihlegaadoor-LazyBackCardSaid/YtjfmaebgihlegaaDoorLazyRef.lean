/-
  The document's Longest of layer 15, where all places ahead are known.
-/
import Derived.Test.YtjfmaebgihlegaaDoorChainRef
import Derived.Test.YtjfmaebgihlegaaDoorLazyMath
namespace Go.Proofs.YtjfmaebgihlegaaDoor
open Go.RowKit Go.Maps

theorem same3 (D : List UInt8) (j i : Nat) : sameF D j i 3 < 3 ↔ kd D j ≠ kd D i := by
  have := sameF_three D j i 3 (Nat.le_refl _)
  have h := (sameF_is D j i 3).1
  constructor
  · intro h1 h2; have := this.2 h2; omega
  · intro h1
    rcases Nat.lt_or_ge (sameF D j i 3) 3 with c | c
    · exact c
    · exact absurd (this.1 c) h1
theorem refLongest_none (D : List UInt8) (A : Option Addr) (C i : Nat) (k d : Int) (w : World) (hl : D.length ≤ 1000000) (hi : i ≤ D.length) (h3 : ¬ i + 3 ≤ D.length) :
    Calls Tryd.prog 16 #[.slice A D.length C, .int .i64 k, .int .i64 (i : Int), .int .i64 d] w fun e w' => e = .returned (.tuple #[.int .i64 0, .int .i64 0]) ∧ w = w' := by
  have t1 : decide ((i : Int) < 0) = false := decide_eq_false (by omega)
  have t2 : decide ((D.length : Int) - 3 < (i : Int)) = true := decide_eq_true (by omega)
  have t3 : (D.length : Int) - 3 < (i : Int) := by omega
  go_enter Tryd.func16, Tryd.ntmps16
  go_wp2_with fail
  go_ret2
  exact ⟨rfl, rfl⟩
def ScanRel (D : List UInt8) (i most : Nat) (r : Nat × Nat) (depth : Nat) (j l s t : Nat) : Prop := scanL D i most j (depth - l) s t = r ∧ j ≤ i ∧ l ≤ depth ∧ s ≤ 258 ∧ t ≤ i

set_option maxRecDepth 100000 in
set_option maxHeartbeats 4000000 in
theorem refLongest_some (D : List UInt8) (A : Option Addr) (C B i depth : Nat) (w : World) (hs : Sl w B A (bytesV D)) (hl : D.length ≤ 1000000) (h3 : i + 3 ≤ D.length) (hd : depth ≤ 32768) :
    Calls Tryd.prog 16 #[.slice A D.length C, .int .i64 (i : Int), .int .i64 (i : Int), .int .i64 (depth : Int)] w fun e w' => e = .returned (.tuple #[.int .i64 ((longL D i depth).1 : Int), .int .i64 ((longL D i depth).2 : Int)]) ∧ ∃ n, w' = w.drewN n := by
  have HS := Lib.hid hs
  clear hs
  have HSL := Lib.hid (scan_long D i depth h3 hd)
  obtain ⟨r, hr⟩ : ∃ r, r = longL D i depth := ⟨_, rfl⟩
  rw [← hr] at HSL ⊢
  obtain ⟨most, hmost⟩ : ∃ most, most = mostAt D i := ⟨_, rfl⟩
  have hm2 : most ≤ 258 := by rw [hmost]; unfold mostAt; omega
  have HMO := Lib.hid hmost
  rw [← hmost] at HSL
  have HST := Lib.hid (show ScanRel D i most r depth i 0 0 0 from ⟨by rw [Nat.sub_zero]; exact HSL.out, by omega, by omega, by omega, by omega⟩)
  have t1 : decide ((i : Int) < 0) = false := decide_eq_false (by omega)
  have t2 : decide ((D.length : Int) - 3 < (i : Int)) = false := decide_eq_false (by omega)
  have t3 : ¬ (D.length : Int) - 3 < (i : Int) := by omega
  have i0 : (0 : Int) ≤ (i : Int) := Int.natCast_nonneg _
  have hmin2 : ∀ W, (Builtin.min_ #[3, 3] 3 #[.int .i64 (depth : Int), .int .i64 32768]).run Tryd.prog W = .ok (.int .i64 (depth : Int)) W := fun W => by
    simp [go_sem, show ¬ (32768 : Int) < (depth : Int) by omega]
  have hmin1 : ∀ W, (Builtin.min_ #[3, 3] 3 #[.int .i64 (i : Int), .int .i64 (i : Int)]).run Tryd.prog W = .ok (.int .i64 (i : Int)) W := fun W => by
    simp [go_sem]
  clear hr hmost
  go_enter Tryd.func16, Tryd.ntmps16
  go_wp2_with fail
  go_loopw [10, 11, 12, 13, 14] (fun v10 v11 v12 v13 _ wr => ∃ (j l s t : Nat), ScanRel D i most r depth j l s t ∧ v10 = .int .i64 (s : Int) ∧ v11 = .int .i64 (t : Int) ∧ v12 = .int .i64 (l : Int) ∧ v13 = .int .i64 ((j : Int) - 1) ∧ ∃ n, wr = w.drewN n) (fun _ _ _ v13 _ _ => (intOf v13 + 1).toNat)
  case atStart => exact ⟨i, 0, 0, 0, HST.out, rfl, rfl, rfl, rfl, 0, rfl⟩
  case round =>
    obtain ⟨j, l, s, t, hR, rfl, rfl, rfl, rfl, n, rfl⟩ := hrel
    clear HST hmin1
    obtain ⟨r1, r2, r3, r4, r5⟩ := hR
    have HR1 := Lib.hid r1
    clear r1
    cases j with
    | zero =>
      have HE := Lib.hid (show (s, t) = r from HR1.out)
      rw [show ((0 : Nat) : Int) - 1 = -1 from rfl]
      go_wp2_with fail
      go_ret2
      exact ⟨by rw [← HE.out]; rfl, _, rfl⟩
    | succ j =>
      rw [show ((j + 1 : Nat) : Int) - 1 = (j : Int) by omega]
      have j0 : (0 : Int) ≤ (j : Int) := Int.natCast_nonneg _
      have t4 : decide ((0 : Int) ≤ (j : Int)) = true := decide_eq_true j0
      obtain ⟨df, hdf⟩ : ∃ df, df = i - j := ⟨_, rfl⟩
      have e4 : (i : Int) - (j : Int) = (df : Int) := by omega
      by_cases hw : df ≤ 32768
      case neg =>
        have t5 : decide ((df : Int) ≤ 32768) = false := decide_eq_false (by omega)
        have HE := Lib.hid (show (s, t) = r by rw [← HR1.out]; unfold scanL; rw [if_pos (by omega)])
        go_wp2_with fail
        go_ret2
        exact ⟨by rw [← HE.out]; rfl, _, rfl⟩
      have t5 : decide ((df : Int) ≤ 32768) = true := decide_eq_true (by omega)
      by_cases hld : l < depth
      case neg =>
        have t6 : decide (l < depth) = false := decide_eq_false hld
        have HE := Lib.hid (show (s, t) = r by rw [← HR1.out]; unfold scanL; rw [if_pos (by omega)])
        go_wp2_with fail
        go_ret2
        exact ⟨by rw [← HE.out]; rfl, _, rfl⟩
      have t6 : decide (l < depth) = true := decide_eq_true hld
      have S3 := Lib.hid (fun m => refSame_any D A C B j i 3 3 (w.drewN m) (HS.out.drewN m) hl (by omega) (by omega) (by omega) (by omega))
      have SM := Lib.hid (fun m => refSame_any D A C B j i 258 most (w.drewN m) (HS.out.drewN m) hl (by omega) (by omega) (by omega) (by rw [HMO.out]; unfold mostAt; omega))
      have h33 := same3 D j i
      have HSS := Lib.hid (sameF_is D j i most).1
      by_cases hk : kd D j = kd D i
      · have hs3 : ¬ sameF D j i 3 < 3 := fun h => (h33.1 h) hk
        generalize sameF D j i 3 = sf at S3 hs3
        have t7 : decide ((sf : Int) < 3) = false := decide_eq_false (by omega)
        have t8 : ¬ (sf : Int) < 3 := by omega
        have HST2 := Lib.hid (show (if s < sameF D j i most then scanL D i most j (depth - (l + 1)) (sameF D j i most) (i - j) else scanL D i most j (depth - (l + 1)) s t) = r by
          rw [← HR1.out]
          conv => rhs; unfold scanL
          rw [if_neg (show ¬ (32768 < i - j ∨ depth - l = 0) by omega), if_pos hk, show depth - l - 1 = depth - (l + 1) by omega])
        have hsl := HSS.out
        generalize sameF D j i most = sm at SM HST2 hsl
        clear h33 hk hs3 hdf
        go_wp2_with fail
        (refine (S3.out _).mono ?_)
        rintro e w1 ⟨rfl, n1, rfl⟩
        rw [World.drewN_drewN]
        go_wp2_with fail
        (refine (SM.out _).mono ?_)
        rintro e w2 ⟨rfl, n2, rfl⟩
        rw [World.drewN_drewN]
        by_cases hn : s < sm
        · have t9 : decide (s < sm) = true := decide_eq_true hn
          have HN := Lib.hid (HST2.out.symm.trans (if_pos hn)).symm
          go_wp2_with fail
          go_roundw
          case rel => exact ⟨j, l + 1, sm, i - j, ⟨HN.out, by omega, by omega, by omega, by omega⟩, rfl, by go_num, by go_num, by go_num, _, rfl⟩
          case measure => simp [intOf]
        · have t9 : decide (s < sm) = false := decide_eq_false hn
          have HN := Lib.hid (HST2.out.symm.trans (if_neg hn)).symm
          go_wp2_with fail
          go_roundw
          case rel => exact ⟨j, l + 1, s, t, ⟨HN.out, by omega, by omega, r4, r5⟩, rfl, rfl, by go_num, by go_num, _, rfl⟩
          case measure => simp [intOf]
      · have hs3 : sameF D j i 3 < 3 := h33.2 hk
        generalize sameF D j i 3 = sf at S3 hs3
        have t7 : decide ((sf : Int) < 3) = true := decide_eq_true (by omega)
        have HN := Lib.hid (show scanL D i most j (depth - l) s t = r by
          rw [← HR1.out]
          conv => rhs; unfold scanL
          rw [if_neg (show ¬ (32768 < i - j ∨ depth - l = 0) by omega), if_neg hk])
        clear h33 hk SM hdf
        go_wp2_with fail
        (refine (S3.out _).mono ?_)
        rintro e w1 ⟨rfl, n1, rfl⟩
        rw [World.drewN_drewN]
        go_wp2_with fail
        go_roundw
        case rel => exact ⟨j, l, s, t, ⟨HN.out, by omega, by omega, r4, r5⟩, rfl, rfl, rfl, by go_num, _, rfl⟩
        case measure => simp [intOf]
end Go.Proofs.YtjfmaebgihlegaaDoor
