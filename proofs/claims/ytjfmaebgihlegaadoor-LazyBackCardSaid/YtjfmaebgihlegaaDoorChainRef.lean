/-
  The document's Same of layer 15.
-/
import Derived.Test.YtjfmaebgihlegaaDoorChain3
namespace Go.Proofs.YtjfmaebgihlegaaDoor
open Go.RowKit Go.Maps

theorem sl_bt {w : World} {B : Nat} {a : Option Addr} {D : List UInt8} (h : Sl w B a (bytesV D)) {k : Nat} (hk : k < D.length) :
    ∃ b off, a = some ⟨b, off, none⟩ ∧ w.cell? ⟨b, off + k, none⟩ = some (.int .u8 (bt D k : Int)) := by
  obtain ⟨b, off, h1, _, h3⟩ := h.byte hk
  exact ⟨b, off, h1, by rw [h3, bt_get hk]⟩

set_option maxRecDepth 100000 in
set_option maxHeartbeats 4000000 in
theorem refSame_any (D : List UInt8) (A : Option Addr) (C B a b m M : Nat) (w : World) (hs : Sl w B A (bytesV D)) (hl : D.length ≤ 1000000) (ha : a < D.length) (hb : b < D.length) (hm : m ≤ 1000000) (hM : M = min m (min (D.length - a) (D.length - b))) :
    Calls Tryd.prog 26 #[.slice A D.length C, .int .i64 (a : Int), .int .i64 (b : Int), .int .i64 (m : Int)] w fun e w' => e = .returned (.int .i64 (sameF D a b M : Int)) ∧ ∃ n, w' = w.drewN n := by
  have HS := Lib.hid hs
  clear hs
  obtain ⟨na, hna⟩ : ∃ na, na = D.length - a := ⟨_, rfl⟩
  obtain ⟨nb, hnb⟩ : ∃ nb, nb = D.length - b := ⟨_, rfl⟩
  have v1 : IntKind.i64.wrap ((D.length : Int) - (a : Int)) = (na : Int) := by rw [IntWalk.i64_in _ (by omega)]; omega
  have v2 : IntKind.i64.wrap ((D.length : Int) - (b : Int)) = (nb : Int) := by rw [IntWalk.i64_in _ (by omega)]; omega
  have hMM : M ≤ m ∧ M ≤ na ∧ M ≤ nb ∧ (M = m ∨ M = na ∨ M = nb) := by rw [hM, hna, hnb]; omega
  obtain ⟨m1, m2, m3, m4⟩ := hMM
  have hxa : a + na = D.length := by omega
  have hxb : b + nb = D.length := by omega
  have a0 : (0 : Int) ≤ (a : Int) := Int.natCast_nonneg _
  have b0 : (0 : Int) ≤ (b : Int) := Int.natCast_nonneg _
  have t1 : decide ((0 : Int) ≤ (a : Int)) = true := decide_eq_true a0
  have t2 : decide ((0 : Int) ≤ (b : Int)) = true := decide_eq_true b0
  have t3 : decide (a < D.length) = true := decide_eq_true ha
  have t4 : decide (b < D.length) = true := decide_eq_true hb
  clear hM hna hnb
  go_enter Tryd.func26, Tryd.ntmps26
  go_wp2_with fail
  go_loopw [9] (fun i wr => ∃ k : Nat, k ≤ M ∧ i = .int .i64 (k : Int) ∧ (∀ j, j < k → bt D (a + j) = bt D (b + j)) ∧ ∃ n, wr = w.drewN n) (fun i _ => M - (intOf i).toNat)
  case atStart => exact ⟨0, by omega, rfl, by omega, 0, rfl⟩
  case round =>
    obtain ⟨k, hk, rfl, hp, n, rfl⟩ := hrel
    have HP := Lib.hid hp
    have k0 : (0 : Int) ≤ (k : Int) := Int.natCast_nonneg _
    clear hp
    by_cases hlt : k < M
    · obtain ⟨bb, off, rfl, d1⟩ := sl_bt HS.out (show a + k < D.length by omega)
      obtain ⟨bb', off', e2, d3⟩ := sl_bt HS.out (show b + k < D.length by omega)
      injection e2 with e2
      injection e2 with f2 g2
      subst f2 g2
      have t5 : decide (k < m) = true := decide_eq_true (by omega)
      have t6 : decide (k < na) = true := decide_eq_true (by omega)
      have t7 : decide (k < nb) = true := decide_eq_true (by omega)
      obtain ⟨ak, hak⟩ : ∃ ak, ak = a + k := ⟨_, rfl⟩
      obtain ⟨bk, hbk⟩ : ∃ bk, bk = b + k := ⟨_, rfl⟩
      have v3 : IntKind.i64.wrap ((a : Int) + (k : Int)) = (ak : Int) := by rw [IntWalk.i64_in _ (by omega)]; omega
      have v4 : IntKind.i64.wrap ((b : Int) + (k : Int)) = (bk : Int) := by rw [IntWalk.i64_in _ (by omega)]; omega
      have x0 : (0 : Int) ≤ (ak : Int) := Int.natCast_nonneg _
      have x1 : (ak : Int) < (D.length : Int) := by omega
      have x2 : (0 : Int) ≤ (bk : Int) := Int.natCast_nonneg _
      have x3 : (bk : Int) < (D.length : Int) := by omega
      by_cases he : bt D (a + k) = bt D (b + k)
      · have HN := Lib.hid (show ∀ j, j < k + 1 → bt D (a + j) = bt D (b + j) from fun j hj => by
          by_cases e : j = k
          · subst e; exact he
          · exact HP.out j (by omega))
        rw [← he] at d3
        rw [← hak] at d1 d3
        rw [← hbk] at d3
        generalize bt D ak = x at d1 d3
        clear he hak hbk hxa hxb
        go_wp2_with fail
        go_quiet (fail)
        clear v1 v2 v3 v4
        go_wp2_with fail
        go_roundw
        case rel => exact ⟨k + 1, by omega, by go_num, HN.out, _, rfl⟩
        case measure => simp [intOf]; omega
      · have HE := Lib.hid (sameF_eq D a b M k (by omega) HP.out (fun _ => he))
        rw [← hak] at d1 he
        rw [← hbk] at d3 he
        generalize bt D ak = x at d1 he
        generalize bt D bk = y at d3 he
        have te : ((x : Int) == (y : Int)) = false := beq_eq_false_iff_ne.2 (by omega)
        have te2 : (x == y) = false := beq_eq_false_iff_ne.2 he
        clear he hak hbk hxa hxb
        go_wp2_with fail
        go_quiet (fail)
        clear v1 v2 v3 v4
        go_wp2_with fail
        go_ret
        exact ⟨by rw [HE.out]; rfl, _, World.drewN_drewN _ _ _⟩
    · obtain rfl : k = M := by omega
      have HE := Lib.hid (sameF_eq D a b k k (by omega) HP.out (fun h => by omega))
      clear hxa hxb
      by_cases c1 : k < m
      · have t5 : decide (k < m) = true := decide_eq_true c1
        by_cases c2 : k < na
        · have t6 : decide (k < na) = true := decide_eq_true c2
          have t7 : decide (k < nb) = false := decide_eq_false (by omega)
          go_wp2_with fail
          go_quiet (fail)
          clear v1 v2
          go_wp2_with fail
          go_ret
          exact ⟨by rw [HE.out]; rfl, _, World.drewN_drewN _ _ _⟩
        · have t6 : decide (k < na) = false := decide_eq_false c2
          go_wp2_with fail
          go_quiet (fail)
          clear v1 v2
          go_wp2_with fail
          go_ret
          exact ⟨by rw [HE.out]; rfl, _, World.drewN_drewN _ _ _⟩
      · have t5 : decide (k < m) = false := decide_eq_false c1
        go_wp2_with fail
        go_quiet (fail)
        clear v1 v2
        go_wp2_with fail
        go_ret
        exact ⟨by rw [HE.out]; rfl, _, World.drewN_drewN _ _ _⟩
end Go.Proofs.YtjfmaebgihlegaaDoor
