/-
  chains.Finder: Same, Longest.
-/
import Derived.Test.YtjfmaebgihlegaaDoorChain2
namespace Go.Proofs.YtjfmaebgihlegaaDoor
open Go.RowKit Go.Maps

theorem FindM.prior {w : World} {B q : Nat} {D : List UInt8} {known j : Nat} {X : Nat → Prop} (h : FindM w B q D known j X) {i : Nat} (hi : i < learnt D j) : ∃ g c, w.cell? ⟨q + 1, 3, none⟩ = some (.slice (some ⟨g, 0, none⟩) (learnt D j) c) ∧ w.cell? ⟨g, i, none⟩ = some (.int .i64 (lastOf D (kd D i) i)) := by
  obtain ⟨A, c, A2, c2, h1, h2, h3, h4, _⟩ := h.ex
  obtain ⟨g, cap, hv, hb, hlt⟩ := h4.form (by omega)
  injection hv with hA
  subst hA
  refine ⟨g, c2, by rw [h1.cell 3]; rfl, ?_⟩
  have := h4.cells (g := g) rfl i (.int .i64 (lastOf D (kd D i) i)) (by simp [intsV, priorL_get D _ i hi])
  rcases Nat.eq_zero_or_pos i with rfl | hi
  · simpa [Addr.add] using this
  · simpa [Addr.add, show i ≠ 0 by omega] using this
theorem same_slice {w : World} {p : Addr} {g g' n c c' : Nat} (h : w.cell? p = some (.slice (some ⟨g, 0, none⟩) n c)) (h' : w.cell? p = some (.slice (some ⟨g', 0, none⟩) n c')) : g = g' ∧ c = c' := by
  rw [h] at h'
  injection h' with h'
  injection h' with h1 _ h2
  injection h1 with h1
  injection h1 with h1
  exact ⟨h1, h2⟩
theorem FindM.data {w : World} {B q : Nat} {D : List UInt8} {known j : Nat} {X : Nat → Prop} (h : FindM w B q D known j X) : ∃ A c, w.cell? ⟨q + 1, 0, none⟩ = some (.slice A D.length c) := by
  obtain ⟨A, c, A2, c2, h1, h2, h3, h4, _⟩ := h.ex
  exact ⟨A, c, by rw [h1.cell 0]; rfl⟩

set_option maxRecDepth 100000 in
set_option maxHeartbeats 2000000 in
theorem same_any (B q : Nat) (D : List UInt8) (known j a b m : Nat) {X : Nat → Prop} (w : World) (h : FindM w B q D known j X) (hl : D.length ≤ 1000000) (ha : a + m ≤ D.length) (hb : b + m ≤ D.length) :
    Calls Tryd.prog 29 #[.pointer (some ⟨q + 1, 0, none⟩), .int .i64 (a : Int), .int .i64 (b : Int), .int .i64 (m : Int)] w fun e w' => e = .returned (.int .i64 (sameF D a b m : Int)) ∧ ∃ n, w' = w.drewN n := by
  have HF := Lib.hid h
  obtain ⟨A, c, c0⟩ := h.data
  obtain ⟨na, hna⟩ : ∃ na, na = D.length - a := ⟨_, rfl⟩
  obtain ⟨nb, hnb⟩ : ∃ nb, nb = D.length - b := ⟨_, rfl⟩
  have v1 : IntKind.i64.wrap ((D.length : Int) - (a : Int)) = (na : Int) := by rw [IntWalk.i64_in _ (by omega)]; omega
  have v2 : IntKind.i64.wrap ((D.length : Int) - (b : Int)) = (nb : Int) := by rw [IntWalk.i64_in _ (by omega)]; omega
  have hmin : ∀ W, (Builtin.min_ #[3, 3, 3] 3 #[.int .i64 (m : Int), .int .i64 (na : Int), .int .i64 (nb : Int)]).run Tryd.prog W = .ok (.int .i64 (m : Int)) W := fun W => by
    simp [go_sem, show ¬ (na < m) by omega, show ¬ (nb < m) by omega]
  have a0 : (0 : Int) ≤ (a : Int) := Int.natCast_nonneg _
  have b0 : (0 : Int) ≤ (b : Int) := Int.natCast_nonneg _
  have t1 : decide ((a : Int) < 0) = false := decide_eq_false (by omega)
  have t2 : decide ((b : Int) < 0) = false := decide_eq_false (by omega)
  clear hna hnb h
  go_enter Tryd.func29, Tryd.ntmps29
  go_wp2_with fail
  go_quiet (fail)
  go_wp2_with fail
  clear v1 v2 hmin
  go_loopw [9] (fun i wr => ∃ k : Nat, k ≤ m ∧ i = .int .i64 (k : Int) ∧ (∀ j, j < k → bt D (a + j) = bt D (b + j)) ∧ ∃ n, wr = w.drewN n) (fun i _ => m - (intOf i).toNat)
  case atStart => exact ⟨0, by omega, rfl, by omega, _, rfl⟩
  case round =>
    obtain ⟨k, hk, rfl, hp, n, rfl⟩ := hrel
    have HP := Lib.hid hp
    have k0 : (0 : Int) ≤ (k : Int) := Int.natCast_nonneg _
    clear hp
    by_cases hlt : k < m
    · obtain ⟨g, c1, d0, d1⟩ := HF.out.byte (show a + k < D.length by omega)
      obtain ⟨g', c2, d2, d3⟩ := HF.out.byte (show b + k < D.length by omega)
      obtain ⟨rfl, rfl⟩ := same_slice d0 d2
      have t3 : decide (k < m) = true := decide_eq_true hlt
      obtain ⟨ak, hak⟩ : ∃ ak, ak = a + k := ⟨_, rfl⟩
      obtain ⟨bk, hbk⟩ : ∃ bk, bk = b + k := ⟨_, rfl⟩
      have v1 : IntKind.i64.wrap ((a : Int) + (k : Int)) = (ak : Int) := by rw [IntWalk.i64_in _ (by omega)]; omega
      have v2 : IntKind.i64.wrap ((b : Int) + (k : Int)) = (bk : Int) := by rw [IntWalk.i64_in _ (by omega)]; omega
      have x0 : (0 : Int) ≤ (ak : Int) := Int.natCast_nonneg _
      have x1 : (ak : Int) < (D.length : Int) := by omega
      have x2 : (0 : Int) ≤ (bk : Int) := Int.natCast_nonneg _
      have x3 : (bk : Int) < (D.length : Int) := by omega
      by_cases he : bt D (a + k) = bt D (b + k)
      · have HN := Lib.hid (show ∀ j, j < k + 1 → bt D (a + j) = bt D (b + j) from fun j hj => by
          by_cases e : j = k
          · subst e; exact he
          · exact HP.out j (by omega))
        rw [← he] at d3
        rw [← hak] at d1 d3
        rw [← hbk] at d3
        generalize bt D ak = x at d1 d3
        clear c0 d2 he hak hbk
        go_wp2_with fail
        go_quiet (fail)
        go_wp2_with fail
        go_roundw
        case rel => exact ⟨k + 1, by omega, by go_num, HN.out, _, rfl⟩
        case measure => simp [intOf]; omega
      · have HE := Lib.hid (sameF_eq D a b m k (by omega) HP.out (fun _ => he))
        rw [← hak] at d1 he
        rw [← hbk] at d3 he
        generalize bt D ak = x at d1 he
        generalize bt D bk = y at d3 he
        have te : ((x : Int) == (y : Int)) = false := beq_eq_false_iff_ne.2 (by omega)
        have te2 : (x == y) = false := beq_eq_false_iff_ne.2 he
        clear c0 d2 he hak hbk
        go_wp2_with fail
        go_quiet (fail)
        go_wp2_with fail
        go_ret
        exact ⟨by rw [HE.out]; rfl, _, World.drewN_drewN _ _ _⟩
    · obtain rfl : k = m := by omega
      have HE := Lib.hid (sameF_eq D a b k k (by omega) HP.out (fun h => by omega))
      have t3 : decide (k < k) = false := decide_eq_false (by omega)
      have t4 : ¬ (k : Int) < (k : Int) := by omega
      go_wp2_with fail
      go_quiet (fail)
      go_wp2_with fail
      go_ret
      exact ⟨by rw [HE.out]; rfl, _, World.drewN_drewN _ _ _⟩

theorem walkL_stop (D : List UInt8) (i most d : Nat) (p : Int) (s t : Nat) (h : d = 0 ∨ p < 0 ∨ 32768 < (i : Int) - p ∨ most ≤ s) : walkL D i most d p s t = (s, t) := by
  cases d with
  | zero => rfl
  | succ d =>
    unfold walkL
    rw [if_pos (by omega)]
theorem walkL_hit (D : List UInt8) (i most d q : Nat) (s t : Nat) (h : ¬ (32768 < (i : Int) - (q : Int) ∨ most ≤ s)) (hs : s < sameF D q i most) : walkL D i most (d + 1) (q : Int) s t = walkL D i most d (lastOf D (kd D q) q) (sameF D q i most) (i - q) := by
  conv => lhs; unfold walkL
  rw [if_neg (by omega), Int.toNat_natCast, if_pos hs]
theorem walkL_miss (D : List UInt8) (i most d q : Nat) (s t : Nat) (h : ¬ (32768 < (i : Int) - (q : Int) ∨ most ≤ s)) (hs : ¬ s < sameF D q i most) : walkL D i most (d + 1) (q : Int) s t = walkL D i most d (lastOf D (kd D q) q) s t := by
  conv => lhs; unfold walkL
  rw [if_neg (by omega), Int.toNat_natCast, if_neg hs]
def LongRel (D : List UInt8) (i most : Nat) (r : Nat × Nat) (d : Nat) (p : Int) (s t : Nat) : Prop := walkL D i most d p s t = r ∧ -1 ≤ p ∧ p < (i : Int) ∧ s ≤ most ∧ t ≤ i

set_option maxRecDepth 100000 in
set_option maxHeartbeats 1000000 in
theorem longest_none (B q : Nat) (D : List UInt8) (known j i : Nat) (depth : Int) {X : Nat → Prop} (w : World) (h : FindM w B q D known j X) (hi : i ≤ D.length) (h3 : D.length < i + 3) :
    Calls Tryd.prog 25 #[.pointer (some ⟨q + 1, 0, none⟩), .int .i64 (i : Int), .int .i64 depth] w fun e w' => e = .returned (.tuple #[.int .i64 0, .int .i64 0]) ∧ ∃ n, w' = w.drewN n := by
  obtain ⟨A, c, c0⟩ := h.data
  obtain ⟨ni, hni⟩ : ∃ ni, ni = D.length - i := ⟨_, rfl⟩
  have e1 : (D.length : Int) - (i : Int) = (ni : Int) := by omega
  have d1 : ni ≤ 2 := by omega
  have t0 : decide ((i : Int) < 0) = false := decide_eq_false (by omega)
  have i0 : (0 : Int) ≤ (i : Int) := Int.natCast_nonneg _
  have t1 : (ni : Int) < 258 := by omega
  have t2 : decide ((ni : Int) < 3) = true := decide_eq_true (by omega)
  have t3 : ¬ (258 : Int) < (ni : Int) := by omega
  clear h hni
  go_enter Tryd.func25, Tryd.ntmps25
  go_wp2_with fail
  go_ret2
  exact ⟨rfl, 0, rfl⟩

set_option maxRecDepth 100000 in
set_option maxHeartbeats 4000000 in
theorem longest_some (B q : Nat) (D : List UInt8) (known i depth : Nat) {X : Nat → Prop} (w : World) (h : FindM w B q D known i X) (hl : D.length ≤ 1000000) (h3 : i + 3 ≤ D.length) (hd : depth ≤ 32768) :
    Calls Tryd.prog 25 #[.pointer (some ⟨q + 1, 0, none⟩), .int .i64 (i : Int), .int .i64 (depth : Int)] w fun e w' => e = .returned (.tuple #[.int .i64 ((longL D i depth).1 : Int), .int .i64 ((longL D i depth).2 : Int)]) ∧ ∃ n, w' = w.drewN n := by
  have HF := Lib.hid h
  obtain ⟨A, c, c0⟩ := h.data
  obtain ⟨A1, c1, A2, c2, h1, h2, h3', h4, _⟩ := h.ex
  have e1 := (learnt_succ D i h3).1
  have c3 := h1.cell 3
  simp at c3
  rw [e1] at c3
  obtain ⟨ni, hni⟩ : ∃ ni, ni = D.length - i := ⟨_, rfl⟩
  have e2 : (D.length : Int) - (i : Int) = (ni : Int) := by omega
  obtain ⟨most, hmost⟩ : ∃ most, most = mostAt D i := ⟨_, rfl⟩
  have hm1 : 3 ≤ most := by rw [hmost]; unfold mostAt; omega
  have hm2 : most ≤ 258 := by rw [hmost]; unfold mostAt; omega
  have hm3 : i + most ≤ D.length := by rw [hmost]; unfold mostAt; omega
  have hmin : ∀ W, (Builtin.min_ #[3, 3] 3 #[.int .i64 258, .int .i64 (ni : Int)]).run Tryd.prog W = .ok (.int .i64 (most : Int)) W := fun W => by
    by_cases cc : ni < 258
    · have : most = ni := by rw [hmost]; unfold mostAt; omega
      simp [go_sem, show (ni : Int) < 258 by omega, this]
    · have : most = 258 := by rw [hmost]; unfold mostAt; omega
      simp [go_sem, show ¬ (ni : Int) < 258 by omega, this]
  have hmin2 : ∀ W, (Builtin.min_ #[3, 3] 3 #[.int .i64 (depth : Int), .int .i64 32768]).run Tryd.prog W = .ok (.int .i64 (depth : Int)) W := fun W => by
    simp [go_sem, show ¬ (32768 : Int) < (depth : Int) by omega]
  have t0 : decide ((i : Int) < 0) = false := decide_eq_false (by omega)
  have i0 : (0 : Int) ≤ (i : Int) := Int.natCast_nonneg _
  have t2 : decide ((most : Int) < 3) = false := decide_eq_false (by omega)
  have t3 : decide (i < i) = false := decide_eq_false (by omega)
  have TH := Lib.hid (three_any B q D known i i w h hl h3)
  have NE := Lib.hid (fun n => nearest_any B q D known i (kd D i) (w.drewN n) (h.drewN n) (kd_lt D i))
  rw [e1] at NE
  have hr := lastOf_range D (kd D i) i
  have HLR := Lib.hid (show LongRel D i most (longL D i depth) depth (lastOf D (kd D i) i) 0 0 from by
    refine ⟨?_, hr.1, hr.2, by omega, by omega⟩
    unfold longL
    rw [if_pos h3, hmost, Nat.min_eq_left hd])
  have HE1 := Lib.hid e1
  generalize longL D i depth = r at HLR
  generalize lastOf D (kd D i) i = p0 at NE HLR hr
  generalize kd D i = kk at TH NE
  clear h h1 h2 h3' h4 e1 hni hmost
  go_enter Tryd.func25, Tryd.ntmps25
  go_wp2_with fail
  (with_reducible refine TH.out.mono ?_)
  rintro e w1 ⟨rfl, n1, rfl⟩
  have NE1 := Lib.hid (NE.out n1)
  clear TH NE
  go_wp2_with fail
  (with_reducible refine NE1.out.mono ?_)
  rintro e w2 ⟨rfl, rfl⟩
  clear NE1
  go_wp2_with fail
  clear hmin hmin2 e2 c3
  go_loopw [2, 9, 10, 11, 12] (fun v2 v9 v10 v11 _ wr => ∃ (d : Nat) (p : Int) (s t : Nat), LongRel D i most r d p s t ∧ d ≤ 32768 ∧ v2 = .int .i64 (d : Int) ∧ v9 = .int .i64 p ∧ v10 = .int .i64 (s : Int) ∧ v11 = .int .i64 (t : Int) ∧ ∃ n, wr = w.drewN n) (fun v2 _ _ _ _ _ => (intOf v2).toNat)
  case atStart => exact ⟨depth, p0, 0, 0, HLR.out, hd, rfl, rfl, rfl, rfl, _, rfl⟩
  case round =>
    obtain ⟨d, p, s, t, hR, hd2, rfl, rfl, rfl, rfl, n, rfl⟩ := hrel
    clear HLR
    obtain ⟨r1, r2, r3, r4, r5⟩ := hR
    have HR1 := Lib.hid r1
    clear r1
    have d0 : (0 : Int) ≤ (d : Int) := Int.natCast_nonneg _
    have s0 : (0 : Int) ≤ (s : Int) := Int.natCast_nonneg _
    by_cases hp : 0 ≤ p
    case neg =>
      have t4 : decide (0 ≤ p) = false := decide_eq_false hp
      have HS := Lib.hid ((walkL_stop D i most d p s t (.inr (.inl (by omega)))).symm.trans HR1.out)
      go_wp2_with fail
      go_ret2
      exact ⟨by rw [← HS.out]; rfl, _, rfl⟩
    obtain ⟨pp, rfl⟩ := Int.eq_ofNat_of_zero_le hp
    have t4 : decide ((0 : Int) ≤ (pp : Int)) = true := decide_eq_true hp
    obtain ⟨df, hdf⟩ : ∃ df, df = i - pp := ⟨_, rfl⟩
    have e4 : (i : Int) - (pp : Int) = (df : Int) := by omega
    by_cases hw : df ≤ 32768
    case neg =>
      have t5 : decide ((df : Int) ≤ 32768) = false := decide_eq_false (by omega)
      have HS := Lib.hid ((walkL_stop D i most d pp s t (.inr (.inr (.inl (by omega))))).symm.trans HR1.out)
      go_wp2_with fail
      go_ret2
      exact ⟨by rw [← HS.out]; rfl, _, rfl⟩
    have t5 : decide ((df : Int) ≤ 32768) = true := decide_eq_true (by omega)
    by_cases hd0 : 0 < d
    case neg =>
      have t6 : decide (0 < d) = false := decide_eq_false hd0
      have HS := Lib.hid ((walkL_stop D i most d pp s t (.inl (by omega))).symm.trans HR1.out)
      go_wp2_with fail
      go_ret2
      exact ⟨by rw [← HS.out]; rfl, _, rfl⟩
    have t6 : decide (0 < d) = true := decide_eq_true hd0
    by_cases hsm : s < most
    case neg =>
      have t7 : decide (s < most) = false := decide_eq_false hsm
      have HS := Lib.hid ((walkL_stop D i most d pp s t (.inr (.inr (.inr (by omega))))).symm.trans HR1.out)
      go_wp2_with fail
      go_ret2
      exact ⟨by rw [← HS.out]; rfl, _, rfl⟩
    have t7 : decide (s < most) = true := decide_eq_true hsm
    obtain ⟨dd, rfl⟩ : ∃ dd, d = dd + 1 := ⟨d - 1, by omega⟩
    have hpi : pp < i := by omega
    obtain ⟨g, c3, b0, b1⟩ := HF.out.byte (show pp + s < D.length by omega)
    obtain ⟨g', c4, b2, b3⟩ := HF.out.byte (show i + s < D.length by omega)
    obtain ⟨rfl, rfl⟩ := same_slice b0 b2
    obtain ⟨g2, c5, p1, p2⟩ := HF.out.prior (i := pp) (by rw [HE1.out]; exact hpi)
    rw [HE1.out] at p1
    have hlr := lastOf_range D (kd D pp) pp
    have SA := Lib.hid (fun m => same_any B q D known i pp i most (w.drewN m) (HF.out.drewN m) hl (by omega) hm3)
    obtain ⟨g1, g2', g3⟩ := sameF_is D pp i most
    have HHIT := Lib.hid (fun h => (walkL_hit D i most dd pp s t (by omega) h).symm.trans HR1.out)
    have HMISS := Lib.hid (fun h => (walkL_miss D i most dd pp s t (by omega) h).symm.trans HR1.out)
    have HG2 := Lib.hid g2'
    generalize lastOf D (kd D pp) pp = pn at p2 hlr HHIT HMISS
    obtain ⟨ps, hps⟩ : ∃ ps, ps = pp + s := ⟨_, rfl⟩
    obtain ⟨is_, his⟩ : ∃ is_, is_ = i + s := ⟨_, rfl⟩
    have v1 : IntKind.i64.wrap ((pp : Int) + (s : Int)) = (ps : Int) := by rw [IntWalk.i64_in _ (by omega)]; omega
    have v2 : IntKind.i64.wrap ((i : Int) + (s : Int)) = (is_ : Int) := by rw [IntWalk.i64_in _ (by omega)]; omega
    have y0 : (0 : Int) ≤ (ps : Int) := Int.natCast_nonneg _
    have y1 : (ps : Int) < (D.length : Int) := by omega
    have y2 : (0 : Int) ≤ (is_ : Int) := Int.natCast_nonneg _
    have y3 : (is_ : Int) < (D.length : Int) := by omega
    have z0 : (0 : Int) ≤ (pp : Int) := Int.natCast_nonneg _
    have z1 : (pp : Int) < (i : Int) := by omega
    have e5 : ((dd + 1 : Nat) : Int) - 1 = (dd : Int) := by omega
    clear g2' g3 c0 b2
    by_cases he : bt D (pp + s) = bt D (i + s)
    · rw [← he] at b3
      rw [← hps] at b1 b3
      rw [← his] at b3
      generalize bt D ps = x at b1 b3
      clear he hps his hdf
      generalize hsf : sameF D pp i most = sf at SA HHIT HMISS g1
      have HSF := Lib.hid hsf
      clear hsf
      obtain ⟨d1, hd1⟩ : ∃ d1, d1 = dd + 1 := ⟨_, rfl⟩
      rw [← hd1] at e5 t6 d0 ⊢
      have hd1' : d1 ≤ 32768 := by omega
      have hd3 : dd < d1 := by omega
      clear hd1 hd2 hd0
      go_wp2_with fail
      go_quiet (fail)
      clear v1 v2
      go_wp2_with fail
      (with_reducible refine (SA.out _).mono ?_)
      rintro e w5 ⟨rfl, n5, rfl⟩
      rw [World.drewN_drewN]
      by_cases hn : s < sf
      · have t8 : decide (s < sf) = true := decide_eq_true hn
        have HN := Lib.hid (HHIT.out hn)
        go_wp2_with fail
        go_roundw
        case rel => exact ⟨dd, pn, sf, i - pp, ⟨HN.out, hlr.1, by omega, g1, by omega⟩, by omega, by go_num, rfl, rfl, by go_num, _, rfl⟩
        case measure => simp [intOf]; omega
      · have t8 : decide (s < sf) = false := decide_eq_false hn
        have HN := Lib.hid (HMISS.out hn)
        go_wp2_with fail
        go_roundw
        case rel => exact ⟨dd, pn, s, t, ⟨HN.out, hlr.1, by omega, r4, r5⟩, by omega, by go_num, rfl, rfl, rfl, _, rfl⟩
        case measure => simp [intOf]; omega
    · have HN := Lib.hid (HMISS.out (fun h => he (HG2.out s h)))
      rw [← hps] at b1 he
      rw [← his] at b3 he
      generalize bt D ps = x at b1 he
      generalize bt D is_ = y at b3 he
      have te : ((x : Int) == (y : Int)) = false := beq_eq_false_iff_ne.2 (by omega)
      have te2 : (x == y) = false := beq_eq_false_iff_ne.2 he
      obtain ⟨d1, hd1⟩ : ∃ d1, d1 = dd + 1 := ⟨_, rfl⟩
      rw [← hd1] at e5 t6 d0 ⊢
      have hd1' : d1 ≤ 32768 := by omega
      have hd3 : dd < d1 := by omega
      clear he hps his hdf hd1 hd2 hd0
      go_wp2_with fail
      go_quiet (fail)
      clear v1 v2
      go_wp2_with fail
      go_roundw
      case rel => exact ⟨dd, pn, s, t, ⟨HN.out, hlr.1, by omega, r4, r5⟩, by omega, by go_num, rfl, rfl, rfl, _, rfl⟩
      case measure => simp [intOf]; omega
end Go.Proofs.YtjfmaebgihlegaaDoor
