/-
  runs.Unpack of runs that may be; the law RunsBack returns true: walk.
-/
import Derived.Test.YtgnghlcdbilgjaaRunsRef
namespace Go.Proofs.Ytgnghlcdbilgjaa
open Go.RowKit

theorem runs_at {W : World} {B : Nat} {a : Option Addr} {l : List Rn.RunV} (h : Sl W B a (runsV l)) {i : Nat} {o : Rn.RunV} (hi : l[i]? = some o) :
    ∃ b off, a = some ⟨b, off, none⟩ ∧ b < B ∧ W.cell? ⟨b, off + i * 2, none⟩ = some (.int .i64 o.sym) ∧ W.cell? ⟨b, off + i * 2 + 1, none⟩ = some (.int .i64 o.extra) := by
  have hil : i < l.length := (List.getElem?_eq_some_iff.1 hi).1
  have key : ∀ (m : List Rn.RunV) (i : Nat) (o : Rn.RunV), m[i]? = some o → (runsV m)[2 * i]? = some (.int .i64 o.sym) ∧ (runsV m)[2 * i + 1]? = some (.int .i64 o.extra) := by
    intro m
    induction m with
    | nil => intro i o h; simp at h
    | cons r m ih =>
      intro i o h
      have e : runsV (r :: m) = .int .i64 r.sym :: .int .i64 r.extra :: runsV m := by simp [runsV, Rn.RunV.cells]
      rw [e]
      cases i with
      | zero => simp at h; subst h; exact ⟨rfl, rfl⟩
      | succ i =>
        have := ih i o (by simpa using h)
        rw [show 2 * (i + 1) = 2 * i + 1 + 1 by omega]
        exact ⟨by simpa using this.1, by simpa using this.2⟩
  obtain ⟨k1, k2⟩ := key l i o hi
  rcases h with h | ⟨b, off, ha, hb, hc⟩
  · rw [h] at k1; simp at k1
  · refine ⟨b, off, ha, hb, ?_, ?_⟩
    · rw [show off + i * 2 = off + 2 * i by omega]; exact hc _ _ k1
    · rw [show off + i * 2 + 1 = off + (2 * i + 1) by omega]; exact hc _ _ k2
theorem good_at {most : Int} {l l' : List Int} {rs : List Rn.RunV} {k : Nat} {r : Rn.RunV} (h : Rn.Good most l (rs.drop k) l') (hr : rs[k]? = some r) :
    0 ≤ r.sym ∧ r.sym ≤ 18 ∧ Rn.may l r.sym r.extra most = true ∧ Rn.Good most (Rn.ext l r.sym r.extra most) (rs.drop (k + 1)) l' := by
  have hk : k < rs.length := (List.getElem?_eq_some_iff.1 hr).1
  have he : rs[k] = r := by rw [List.getElem?_eq_getElem hk] at hr; injection hr
  rw [List.drop_eq_getElem_cons hk, he] at h
  cases h with
  | cons _ _ _ _ h0 h1 hm h => exact ⟨h0, h1, hm, h⟩
theorem good_end {most : Int} {l l' : List Int} (h : Rn.Good most l [] l') : l = l' := by cases h; rfl
theorem may_len {l : List Int} {s e most : Int} (h : Rn.may l s e most = true) : ((Rn.ext l s e most).length : Int) ≤ most := by
  obtain ⟨h1, h2, h3, h4⟩ := of_decide_eq_true h
  have hb := least_bd s
  unfold Rn.ext
  rw [if_pos h, List.length_append, List.length_replicate]
  omega

set_option maxRecDepth 100000 in
set_option maxHeartbeats 1000000 in
theorem unpack_good (rs : List Rn.RunV) (l : List Int) (a : Option Addr) (c B : Nat) (w : World) (hg : Rn.Good l.length [] rs l) (hr : rs.length ≤ 1000000) (hl : l.length ≤ 1000000) (hsl : Sl w B a (runsV rs)) (hB : B ≤ w.heap.size) :
    Calls Try.prog 8 #[.slice a rs.length c, .int .i64 (l.length : Int)] w fun e w' => ∃ A c', e = .returned (.tuple #[.slice A l.length c', .int .i64 0]) ∧ Sl w' w'.heap.size A (intsV l) ∧ Below w.heap.size w w' := by
  have HS := Lib.hid hsl
  have HG := Lib.hid hg
  clear hsl hg
  go_enter Try.func8, Try.ntmps8
  go_wp2_with fail
  go_loopw [6, 13] (fun lv i wr => ∃ (k : Nat) (q : List Int), k ≤ rs.length ∧ i = .int .i64 k ∧ wr.ownsRow w.heap.size 3 1 lv q.length (intsV q) ∧ Rn.Good l.length q (rs.drop k) l ∧ q.length ≤ l.length ∧ Below w.heap.size w wr) (fun _ i _ => rs.length - (intOf i).toNat)
  case atStart => exact ⟨0, [], by omega, rfl, World.ownsRow_nil _ _ _ _, by simpa using HG.out, by simp, Below.refl _ _⟩
  case round =>
    obtain ⟨k, q, hk, rfl, hown, hgo, hql, hbr⟩ := hrel
    obtain ⟨A2, c2, rfl⟩ := own_form hown
    have hbs := hbr.size
    have HO := Lib.hid hown
    have HGO := Lib.hid hgo
    have HB := Lib.hid hbr
    clear hown hgo hbr
    by_cases hlt : k < rs.length
    · have hx : rs[k]? = some rs[k] := List.getElem?_eq_getElem hlt
      obtain ⟨b, off, rfl, hbB, q0, q1⟩ := runs_at (HS.out.below HB.out hB) hx
      obtain ⟨g0, g1, g2, g3⟩ := good_at HGO.out hx
      generalize rs[k] = r at q0 q1 g0 g1 g2 g3
      obtain ⟨s, ex⟩ := r
      simp only [] at q0 q1 g0 g1 g2 g3
      have hel := may_len g2
      have EX := fun V (ho : V.ownsRow w.heap.size 3 1 (.slice A2 q.length c2) q.length (intsV q)) (hs : w.heap.size ≤ V.heap.size) => Lib.hid (extend_any w.heap.size q s ex l.length A2 c2 V g0 g1 (by omega) hs ho)
      have HG3 := Lib.hid g3
      have HMAY := Lib.hid g2
      clear hx g0 g1 g2 g3
      go_wp2_with fail
      (with_reducible refine (EX _ (HO.out.alloc _) (by simp; omega)).out.mono ?_)
      rintro e w2 ⟨A3, c3, rfl, hown3, hb3⟩
      rw [HMAY.out]
      have HO3 := Lib.hid hown3
      have HB3 := Lib.hid ((HB.out.alloc hbs _).trans hb3)
      clear hown3 hb3
      go_wp2_with fail
      go_roundw
      case rel => exact ⟨k + 1, _, by omega, by go_num, HO3.out, HG3.out, by omega, HB3.out⟩
      case measure => simp [intOf]; omega
    · have hq : q = l := by
        have h := HGO.out
        rw [List.drop_of_length_le (by omega)] at h
        exact good_end h
      subst hq
      have HSL := Lib.hid (Sl.of_own HO.out)
      go_wp2_with fail
      go_ret2
      exact ⟨A2, c2, rfl, HSL.out, HB.out⟩

set_option maxRecDepth 100000 in
set_option maxHeartbeats 2000000 in
theorem runsBack_walk (a : Option Addr) (l : List Int) (c : Nat) (w : World) (hlm : l.length ≤ maxLen) (_hlc : l.length ≤ c) (_hl : ∀ z ∈ l, -9223372036854775808 ≤ z ∧ z ≤ 9223372036854775807) (hsl : Sl w w.heap.size a (intsV l)) :
    Calls Try.prog 4 #[.slice a l.length c] w fun e w' => e = .returned (.bool true) ∧ Below w.heap.size w w' := by
  unfold maxLen at hlm
  have HS := Lib.hid hsl
  clear hsl _hl
  by_cases h5 : l.length ≤ 500
  case neg =>
    have t1 : decide ((500 : Int) < (l.length : Int)) = true := decide_eq_true (by omega)
    go_enter Try.func4, Try.ntmps4
    go_wp2_with fail
    refine (awake11_any w).mono ?_
    rintro e w1 ⟨rfl, hb1⟩
    go_wp2_with fail
    go_ret
    exact ⟨rfl, hb1⟩
  have t1 : decide ((500 : Int) < (l.length : Int)) = false := decide_eq_false (by omega)
  by_cases hok : l.all okLen = true
  case neg =>
    have hbad : l.all okLen = false := by simpa using hok
    obtain ⟨j, x, hj, hx, hbef⟩ := first_bad l hbad
    have hjl : j < l.length := (List.getElem?_eq_some_iff.1 hj).1
    have HJ := Lib.hid hj
    have HX := Lib.hid hx
    have HBF := Lib.hid hbef
    have HBAD := Lib.hid hbad
    clear hok hj hx hbef hbad
    go_enter Try.func4, Try.ntmps4
    go_wp2_with fail
    refine (awake11_any w).mono ?_
    rintro e w1 ⟨rfl, hb1⟩
    have HB1 := Lib.hid hb1
    clear hb1
    go_wp2_with fail
    (with_reducible refine (pack_bad l a c w.heap.size w1 (by omega) HBAD.out (HS.out.below HB1.out (Nat.le_refl _))).mono ?_)
    rintro e w2 ⟨rfl, rfl⟩
    go_wp2_with fail
    go_loopw [5] (fun i wr => w1 = wr ∧ ∃ k : Nat, k ≤ j ∧ i = .int .i64 k) (fun i _ => l.length - (intOf i).toNat)
    case atStart => exact ⟨rfl, 0, by omega, rfl⟩
    case round =>
      obtain ⟨rfl, k, hk, rfl⟩ := hrel
      have hkl : k < l.length := by omega
      obtain ⟨b, off, rfl, _, hcell⟩ := (HS.out.below HB1.out (Nat.le_refl _)).int hkl
      have k0 : (0 : Int) ≤ (k : Int) := Int.natCast_nonneg _
      have k1 : (k : Int) < (l.length : Int) := by omega
      by_cases hlt : k < j
      · have hokk := okLen_iff.1 (HBF.out k _ hlt (List.getElem?_eq_getElem hkl))
        generalize l[k] = y at hcell hokk
        have t2 : decide (y < 0) = false := decide_eq_false (by omega)
        have t3 : decide (15 < y) = false := decide_eq_false (by omega)
        go_wp2_with fail
        go_roundw
        case rel => exact ⟨trivial, k + 1, by omega, by go_num⟩
        case measure => simp [intOf]; omega
      · obtain rfl : k = j := by omega
        have hxe : l[k] = x := by have h := HJ.out; rw [List.getElem?_eq_getElem hkl] at h; injection h
        have hno : ¬ (0 ≤ x ∧ x ≤ 15) := fun h => by have := HX.out; rw [okLen_iff.2 h] at this; cases this
        rw [hxe] at hcell
        clear hxe
        by_cases h0 : x < 0
        · have t2 : decide (x < 0) = true := decide_eq_true h0
          clear hno
          go_wp2_with fail
          go_ret
          exact ⟨rfl, HB1.out⟩
        · have t2 : decide (x < 0) = false := decide_eq_false h0
          have t3 : decide (15 < x) = true := decide_eq_true (by omega)
          clear hno
          go_wp2_with fail
          go_ret
          exact ⟨rfl, HB1.out⟩
  have HOK := Lib.hid (fun (k : Nat) (hk : k < l.length) => okLen_iff.1 (List.all_eq_true.1 hok l[k] (List.getElem_mem hk)))
  have HGP := Lib.hid (Rn.good_pack l (fun x hx => okLen_iff.1 (List.all_eq_true.1 hok x hx)))
  have hpl := Rn.pack_len_le l
  have HAL := Lib.hid hok
  clear hok
  go_enter Try.func4, Try.ntmps4
  go_wp2_with fail
  refine (awake11_any w).mono ?_
  rintro e w1 ⟨rfl, hb1⟩
  have HB1 := Lib.hid hb1
  have hs1 := hb1.size
  clear hb1
  go_wp2_with fail
  (with_reducible refine (pack_ok l a c w.heap.size w1 (by omega) HAL.out (HS.out.below HB1.out (Nat.le_refl _)) hs1).mono ?_)
  rintro e w2 ⟨A2, c2, rfl, hown2, hb2⟩
  have HB2 := Lib.hid (HB1.out.trans (hb2.mono hs1))
  have HR2 := Lib.hid (Sl.of_ownN hown2)
  have hs2 := HB2.out.size
  clear hown2 hb2
  generalize hrs : Rn.pack l = rs at HGP hpl HR2 ⊢
  clear hrs
  go_wp2_with fail
  go_loopw [5] (fun i wr => w2 = wr ∧ ∃ k : Nat, k ≤ l.length ∧ i = .int .i64 k) (fun i _ => l.length - (intOf i).toNat)
  case atStart => exact ⟨rfl, 0, by omega, rfl⟩
  case round =>
    obtain ⟨rfl, k, hk, rfl⟩ := hrel
    by_cases hlt : k < l.length
    · obtain ⟨b, off, rfl, _, hcell⟩ := (HS.out.below HB2.out (Nat.le_refl _)).int hlt
      have hy := HOK.out k hlt
      generalize l[k] = y at hcell hy
      have t2 : decide (y < 0) = false := decide_eq_false (by omega)
      have t3 : decide (15 < y) = false := decide_eq_false (by omega)
      have k0 : (0 : Int) ≤ (k : Int) := Int.natCast_nonneg _
      have k1 : (k : Int) < (l.length : Int) := by omega
      clear hy
      go_wp2_with fail
      go_roundw
      case rel => exact ⟨trivial, k + 1, by omega, by go_num⟩
      case measure => simp [intOf]; omega
    · have tk : decide ((k : Int) < (l.length : Int)) = false := decide_eq_false (by omega)
      have tk2 : decide (k < l.length) = false := decide_eq_false hlt
      clear hk
      go_wp2_with fail
      go_loopw [6, 7] (fun bv i wr => ∃ (k : Nat) (q : List Int) (A : Option Addr) (cq : Nat), k ≤ rs.length ∧ i = .int .i64 k ∧ bv = .slice A q.length cq ∧ Sl wr wr.heap.size A (intsV q) ∧ Rn.Good l.length q (rs.drop k) l ∧ q.length ≤ l.length ∧ Below w2.heap.size w2 wr) (fun _ i _ => rs.length - (intOf i).toNat)
      case atStart => exact ⟨0, [], none, 0, by omega, rfl, rfl, Sl.nil, by simpa using HGP.out, by simp, Below.refl _ _⟩
      case round =>
        obtain ⟨m, q, A, cq, hm, rfl, rfl, hsq, hgo, hql, hbr⟩ := hrel
        have HSQ := Lib.hid hsq
        have HGO := Lib.hid hgo
        have HB := Lib.hid hbr
        have hbs := hbr.size
        clear hsq hgo hbr
        by_cases hmr : m < rs.length
        · have hx : rs[m]? = some rs[m] := List.getElem?_eq_getElem hmr
          obtain ⟨b, off, rfl, hbB, q0, q1⟩ := runs_at (HR2.out.below HB.out (Nat.le_refl _)) hx
          obtain ⟨g0, g1, g2, g3⟩ := good_at HGO.out hx
          generalize rs[m] = r at q0 q1 g0 g1 g2 g3
          obtain ⟨s, ex⟩ := r
          simp only [] at q0 q1 g0 g1 g2 g3
          have hel := may_len g2
          have AD := Lib.hid (refAdd_any q s ex l.length A cq wr.heap.size wr.drew g0 g1 (by omega) g2 HSQ.out.drew (Nat.le_refl _))
          have HG3 := Lib.hid g3
          have hbw : b < wr.heap.size := by omega
          clear hx g0 g1 g2 g3
          have k0 : (0 : Int) ≤ (m : Int) := Int.natCast_nonneg _
          have k1 : (m : Int) < (rs.length : Int) := by omega
          go_wp2_with fail
          go_region_held3 (fun V => V.cell? ⟨b, off + m * 2, none⟩ = some (.int .i64 s) ∧ V.cell? ⟨b, off + m * 2 + 1, none⟩ = some (.int .i64 ex))
            (first | exact ⟨q0, q1⟩ | exact ⟨(hb3.cell (p := ⟨b, off + m * 2, none⟩) hbw).trans q0, (hb3.cell (p := ⟨b, off + m * 2 + 1, none⟩) hbw).trans q1⟩)
            ((go_at_call 7; (with_reducible refine AD.out.mono ?_); rintro e w3 ⟨A3, c3, rfl, hown3, hb3⟩))
          have HS3 := Lib.hid (Sl.of_own hown3)
          have HB3 := Lib.hid ((show Below w2.heap.size w2 wr.drew from below_drewN HB.out 1).trans (hb3.mono hbs))
          clear hown3 hb3 AD
          go_wp2_with fail
          go_roundw
          case rel => exact ⟨m + 1, _, A3, c3, by omega, by go_num, rfl, HS3.out, HG3.out, by omega, HB3.out⟩
          case measure => simp [intOf]; omega
        · have hq : q = l := by
            have h := HGO.out
            rw [List.drop_of_length_le (by omega)] at h
            exact good_end h
          have HQ := Lib.hid (show intsV q = intsV l by rw [hq])
          have hqln : q.length = l.length := by rw [hq]
          clear hq
          rw [hqln]
          rw [HQ.out] at HSQ
          have HB0 := Lib.hid (HB2.out.trans (HB.out.mono hs2))
          have UP := Lib.hid (unpack_good rs l A2 c2 w2.heap.size wr HGP.out (by omega) (by omega) (HR2.out.below HB.out (Nat.le_refl _)) hbs)
          clear hqln hql
          go_wp2_with fail
          (with_reducible refine UP.out.mono ?_)
          rintro e w4 ⟨A4, c4, rfl, hs4, hb4⟩
          have HB4 := Lib.hid (HB0.out.trans (hb4.mono (Nat.le_trans hs2 hbs)))
          have HS4 := Lib.hid hs4
          have HSA := Lib.hid (HSQ.out.below hb4 (Nat.le_refl _))
          have tq : decide ((rs.length : Int) ≤ (l.length : Int)) = true := decide_eq_true (by omega)
          have tq2 : decide (rs.length ≤ l.length) = true := decide_eq_true hpl
          have I1 := Lib.hid (ints_same l l A a cq c wr.heap.size w.heap.size w4 (by unfold maxLen; omega) (by unfold maxLen; omega) HSA.out (HS.out.below HB4.out (Nat.le_refl _)))
          rw [show decide (l = l) = true from decide_eq_true rfl] at I1
          have I2 := fun (n : Nat) => Lib.hid (ints_same l l A4 a c4 c w4.heap.size w.heap.size (w4.drewN n) (by unfold maxLen; omega) (by unfold maxLen; omega) (HS4.out.drewN n) ((HS.out.below HB4.out (Nat.le_refl _)).drewN n))
          rw [show decide (l = l) = true from decide_eq_true rfl] at I2
          clear hs4 hb4 UP
          go_wp2_with fail
          (with_reducible refine I1.out.mono ?_)
          rintro e w5 ⟨rfl, n5, rfl⟩
          go_wp2_with fail
          (with_reducible refine (I2 _).out.mono ?_)
          rintro e w6 ⟨rfl, n6, rfl⟩
          go_wp2_with fail
          go_ret
          exact ⟨rfl, below_drewN HB4.out _⟩
end Go.Proofs.Ytgnghlcdbilgjaa
