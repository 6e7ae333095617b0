/-
  What runs.Bits and extend compute.
-/
import Derived.Test.YtgnghlcdbilgjaaRuns
import Derived.Test.YtgnghlcdbilgjaaCloneI
namespace Go.Proofs.Ytgnghlcdbilgjaa
open Go.RowKit

namespace Rn
def bitsOf (s : Int) : Int := if 0 ≤ s ∧ s ≤ 15 then 0 else if s = 16 then 2 else if s = 17 then 3 else if s = 18 then 7 else -1
def two (s : Int) : Int := if 0 ≤ s ∧ s ≤ 15 then 1 else if s = 16 then 4 else if s = 17 then 8 else if s = 18 then 128 else 0
/-- the length that a run repeats -/
def again (l : List Int) (s : Int) : Int := if s ≤ 15 then s else if s = 16 then l.getLastD 0 else 0
/-- lengths with a run behind; may it be? -/
def may (l : List Int) (s e most : Int) : Bool := decide (0 ≤ e ∧ e < two s ∧ ¬ (s = 16 ∧ l = []) ∧ (l.length : Int) + (least s + e) ≤ most)
def ext (l : List Int) (s e most : Int) : List Int := if may l s e most then l ++ List.replicate (least s + e).toNat (again l s) else l
end Rn

theorem bits_any (s : Int) (w : World) : Calls Try.prog 16 #[.int .i64 s] w fun e w' => e = .returned (.int .i64 (Rn.bitsOf s)) ∧ w = w' := by
  by_cases h0 : 0 ≤ s ∧ s ≤ 15
  · have t1 : decide ((0 : Int) ≤ s) = true := decide_eq_true h0.1
    have t2 : decide (s ≤ 15) = true := decide_eq_true h0.2
    have HB := Lib.hid (show Rn.bitsOf s = 0 by unfold Rn.bitsOf; rw [if_pos h0])
    clear h0
    go_enter Try.func16, Try.ntmps16
    go_wp2
    go_ret
    exact ⟨by rw [HB.out]; rfl, rfl⟩
  by_cases h1 : s = 16
  · subst h1
    go_enter Try.func16, Try.ntmps16
    go_wp2
    go_ret
    exact ⟨rfl, rfl⟩
  by_cases h2 : s = 17
  · subst h2
    go_enter Try.func16, Try.ntmps16
    go_wp2
    go_ret
    exact ⟨rfl, rfl⟩
  by_cases h3 : s = 18
  · subst h3
    go_enter Try.func16, Try.ntmps16
    go_wp2
    go_ret
    exact ⟨rfl, rfl⟩
  have HB := Lib.hid (show Rn.bitsOf s = -1 by unfold Rn.bitsOf; rw [if_neg h0, if_neg h1, if_neg h2, if_neg h3])
  have t1 : (s == 16) = false := by simpa using h1
  have t2 : (s == 17) = false := by simpa using h2
  have t3 : (s == 18) = false := by simpa using h3
  by_cases h4 : 0 ≤ s
  · have t4 : decide ((0 : Int) ≤ s) = true := decide_eq_true h4
    have t5 : decide (s ≤ 15) = false := decide_eq_false (fun h => h0 ⟨h4, h⟩)
    clear h0 h1 h2 h3
    go_enter Try.func16, Try.ntmps16
    go_wp2
    go_ret
    exact ⟨by rw [HB.out]; rfl, rfl⟩
  · have t4 : decide ((0 : Int) ≤ s) = false := decide_eq_false h4
    clear h0 h1 h2 h3
    go_enter Try.func16, Try.ntmps16
    go_wp2
    go_ret
    exact ⟨by rw [HB.out]; rfl, rfl⟩

def ExtPost (B : Nat) (l : List Int) (s e most : Int) (w : World) (en : Ending) (w' : World) : Prop :=
  ∃ A c, en = .returned (.tuple #[.slice A (Rn.ext l s e most).length c, .bool (Rn.may l s e most)]) ∧ w'.ownsRow B 3 1 (.slice A (Rn.ext l s e most).length c) (Rn.ext l s e most).length (intsV (Rn.ext l s e most)) ∧ Below B w w'
theorem ext_no {B : Nat} {l : List Int} {s e most : Int} {w w' : World} {A : Option Addr} {c : Nat} (h : Rn.may l s e most = false) (ho : w'.ownsRow B 3 1 (.slice A l.length c) l.length (intsV l)) (hb : Below B w w') : ExtPost B l s e most w (.returned (.tuple #[.slice A l.length c, .bool false])) w' := by
  have he : Rn.ext l s e most = l := by unfold Rn.ext; rw [if_neg (by simp [h])]
  exact ⟨A, c, by rw [he, h], by rw [he]; exact ho, hb⟩
theorem ints_snoc (l : List Int) (x : Int) : intsV (l ++ [x]) = intsV l ++ [.int .i64 x] := by simp [intsV]

theorem own_int {w : World} {base : Nat} {e : TypeId} {A : Option Addr} {c : Nat} {l : List Int} (h : w.ownsRow base e 1 (.slice A l.length c) l.length (intsV l)) {i : Nat} (hi : i < l.length) :
    ∃ g, A = some ⟨g, 0, none⟩ ∧ w.cell? ⟨g, i, none⟩ = some (.int .i64 (l.getD i 0)) := by
  obtain ⟨g, cap, hv, _, _⟩ := h.form (by omega)
  injection hv with hA _ _
  subst hA
  refine ⟨g, rfl, ?_⟩
  rw [h.cellAt i (by omega)]
  simp [intsV, hi]

set_option maxRecDepth 100000 in
set_option maxHeartbeats 1000000 in
theorem ext_small (B : Nat) (l : List Int) (s e most : Int) (A : Option Addr) (c : Nat) (w : World) (hs0 : 0 ≤ s) (hs1 : s ≤ 15) (hl : l.length ≤ 1000000000) (hB : B ≤ w.heap.size) (hown : w.ownsRow B 3 1 (.slice A l.length c) l.length (intsV l)) :
    Calls Try.prog 13 #[.slice A l.length c, .agg #[.int .i64 s, .int .i64 e], .int .i64 most] w (ExtPost B l s e most w) := by
  obtain ⟨i0, hi0, hz0, hz1, hz2⟩ := info_parts intInfoC
  have Hi0 := Lib.hid hi0
  have Hz0 := Lib.hid hz0
  have Hz1 := Lib.hid hz1
  have Hz2 := Lib.hid hz2
  clear hi0 hz0 hz1 hz2
  have HO := Lib.hid hown
  clear hown
  have BT := fun W => Lib.hid (bits_any s W)
  rw [show Rn.bitsOf s = 0 by unfold Rn.bitsOf; rw [if_pos ⟨hs0, hs1⟩]] at BT
  have LE := fun W => Lib.hid (least_any s W)
  rw [show Rn.least s = 1 by unfold Rn.least; rw [if_neg (by omega), if_neg (by omega)]] at LE
  have ts : decide (s ≤ 15) = true := decide_eq_true hs1
  by_cases he0 : 0 ≤ e
  case neg =>
    have u1 : decide (e < 0) = true := decide_eq_true (by omega)
    have HNO := Lib.hid (show Rn.may l s e most = false from decide_eq_false (fun h => he0 h.1))
    go_enter Try.func13, Try.ntmps13
    go_wp2_with fail
    (with_reducible refine (BT _).out.mono ?_)
    rintro e2 w2 ⟨rfl, rfl⟩
    go_wp2_with fail
    go_quiet (fail)
    go_wp2_with fail
    go_ret2
    exact ext_no HNO.out (HO.out.alloc _) (below_drewN ((Below.refl B w).alloc hB _) _)
  have u1 : decide (e < 0) = false := decide_eq_false (by omega)
  by_cases heT : e < 1
  case neg =>
    have u2 : decide ((1 : Int) ≤ e) = true := decide_eq_true (by omega)
    have HNO := Lib.hid (show Rn.may l s e most = false from decide_eq_false (fun h => heT (by have h1 := h.2.1; rw [show Rn.two s = 1 by unfold Rn.two; rw [if_pos ⟨hs0, hs1⟩]] at h1; exact h1)))
    go_enter Try.func13, Try.ntmps13
    go_wp2_with fail
    (with_reducible refine (BT _).out.mono ?_)
    rintro e2 w2 ⟨rfl, rfl⟩
    go_wp2_with fail
    go_quiet (fail)
    go_wp2_with fail
    go_ret2
    exact ext_no HNO.out (HO.out.alloc _) (below_drewN ((Below.refl B w).alloc hB _) _)
  have u2 : decide ((1 : Int) ≤ e) = false := decide_eq_false (by omega)
  by_cases hfit : (l.length : Int) + (1 + e) ≤ most
  case neg =>
    obtain ⟨tm, htm⟩ := Int.eq_ofNat_of_zero_le (show 0 ≤ 1 + e by omega)
    have e1 : IntKind.i64.wrap (1 + e) = (tm : Int) := by rw [IntWalk.i64_in _ (by omega)]; exact htm
    have u4 : decide (most < (l.length : Int) + (tm : Int)) = true := decide_eq_true (by omega)
    have htb : tm ≤ 200 := by omega
    have HNO := Lib.hid (show Rn.may l s e most = false from decide_eq_false (fun h => hfit (by have h1 := h.2.2.2; rw [show Rn.least s = 1 by unfold Rn.least; rw [if_neg (by omega), if_neg (by omega)]] at h1; exact h1)))
    clear htm
    go_enter Try.func13, Try.ntmps13
    go_wp2_with fail
    (with_reducible refine (BT _).out.mono ?_)
    rintro e2 w2 ⟨rfl, rfl⟩
    go_wp2_with fail
    go_quiet (fail)
    go_wp2_with fail
    obtain ⟨W2, hW2⟩ : ∃ W2, W2 = (w.alloc (.cells #[.int .i64 s, .int .i64 e] 32)).drewN nq := ⟨_, rfl⟩
    have hWh : Whole W2 w.heap.size 32 #[.int .i64 s, .int .i64 e] := by rw [hW2]; exact (Whole.new w _ _).drewN nq
    have c0 := hWh.cell 0
    have c1 := hWh.cell 1
    simp at c0 c1
    have HO3 := Lib.hid (show W2.ownsRow B 3 1 (.slice A l.length c) l.length (intsV l) by rw [hW2]; exact HO.out.alloc _)
    have HB3 := Lib.hid (show Below B w W2 by rw [hW2]; exact below_drewN ((Below.refl B w).alloc hB _) _)
    rw [← hW2]
    clear hW2 hWh
    go_quiet ((go_at_call 17; exact quietly (LE _).out))
    go_wp2_with fail
    go_ret2
    exact ext_no HNO.out HO3.out (below_drewN HB3.out _)
  obtain ⟨tm, htm⟩ := Int.eq_ofNat_of_zero_le (show 0 ≤ 1 + e by omega)
  have e1 : IntKind.i64.wrap (1 + e) = (tm : Int) := by rw [IntWalk.i64_in _ (by omega)]; exact htm
  have HM := Lib.hid (show Rn.may l s e most = true from decide_eq_true ⟨he0, by rw [show Rn.two s = 1 by unfold Rn.two; rw [if_pos ⟨hs0, hs1⟩]]; exact heT, fun h => by have := h.1; omega, by rw [show Rn.least s = 1 by unfold Rn.least; rw [if_neg (by omega), if_neg (by omega)]]; omega⟩)
  have HX := Lib.hid (show Rn.ext l s e most = l ++ List.replicate tm s by
    unfold Rn.ext
    rw [if_pos HM.out, show Rn.least s = 1 by unfold Rn.least; rw [if_neg (by omega), if_neg (by omega)], htm]
    unfold Rn.again; rw [if_pos hs1]; rfl)
  have u4 : decide (most < (l.length : Int) + (tm : Int)) = false := decide_eq_false (by omega)
  have htb : tm ≤ 200 := by omega
  clear htm
  go_enter Try.func13, Try.ntmps13
  go_wp2_with fail
  (with_reducible refine (BT _).out.mono ?_)
  rintro e2 w2 ⟨rfl, rfl⟩
  go_wp2_with fail
  go_quiet (fail)
  go_wp2_with fail
  obtain ⟨W2, hW2⟩ : ∃ W2, W2 = (w.alloc (.cells #[.int .i64 s, .int .i64 e] 32)).drewN nq := ⟨_, rfl⟩
  have hWh : Whole W2 w.heap.size 32 #[.int .i64 s, .int .i64 e] := by rw [hW2]; exact (Whole.new w _ _).drewN nq
  have c0 := hWh.cell 0
  have c1 := hWh.cell 1
  simp at c0 c1
  have HO3 := Lib.hid (show W2.ownsRow B 3 1 (.slice A l.length c) l.length (intsV l) by rw [hW2]; exact HO.out.alloc _)
  have HB3 := Lib.hid (show Below B w W2 by rw [hW2]; exact below_drewN ((Below.refl B w).alloc hB _) _)
  rw [← hW2]
  clear hW2 hWh
  go_quiet ((go_at_call 17; exact quietly (LE _).out))
  go_wp2_with fail
  go_loopw [0, 63] (fun lv i wr => ∃ j : Nat, j ≤ tm ∧ i = .int .i64 j ∧ wr.ownsRow B 3 1 lv (l.length + j) (intsV (l ++ List.replicate j s)) ∧ Below B w wr) (fun _ i _ => tm - (intOf i).toNat)
  case atStart => exact ⟨0, Nat.zero_le _, rfl, (by have h : World.ownsRow W2 B 3 1 (.slice A l.length c) (l.length + 0) (intsV (l ++ List.replicate 0 s)) := (by simpa using HO3.out); exact h), below_drewN HB3.out _⟩
  case round =>
    obtain ⟨j, hj, rfl, hown, hbr⟩ := hrel
    have hbs := Nat.le_trans hB hbr.size
    by_cases hlt : j < tm
    · have HS := Lib.hid (show intsV (l ++ List.replicate (j + 1) s) = intsV (l ++ List.replicate j s) ++ [.int .i64 s] by
        rw [List.replicate_succ', ← List.append_assoc, ints_snoc])
      generalize intsV (l ++ List.replicate j s) = xs at hown HS
      go_wp2_with (at_builtin; refine wpList_append_lies _ rfl _ _ _ rfl B 3 i0 _ 1 8 Try.underlying22 Hi0.out Hz0.out Hz1.out Hz2.out rfl (by omega) _ (l.length + j) xs rfl (hown.alloc _) ⟨wr.heap.size, 0, none⟩ 1 1 [.int .i64 s] rfl rfl (World.news_of_block (cs := #[.int .i64 s]) (t := 3) (fr := (0, 0)) (heap_alloc_new wr _)) (by simp [Value.oneCell']) (by omega) (by unfold maxLen; omega) (by omega) (by simp; omega) (wr.heap.size + 1) (by simp) ?_; intro gg cap ww hown1 hgrow hat hlt1; have HO4 := Lib.hid hown1; have HB4 := Lib.hid (own_below (hown.alloc _) hgrow (Nat.le_refl _) (by simp; omega) (hbr.alloc hbs _)); clear hown1 hgrow hat hown hbr)
      go_roundw
      case rel => exact ⟨j + 1, by omega, by go_num, by rw [HS.out]; exact HO4.out, HB4.out⟩
      case measure => simp [intOf]; omega
    · obtain rfl : j = tm := by omega
      obtain ⟨A5, c5, rfl⟩ := own_form hown
      have HO5 := Lib.hid hown
      have HB5 := Lib.hid hbr
      clear hown hbr
      go_wp2_with fail
      go_ret2
      refine ⟨A5, c5, by rw [HM.out, HX.out, List.length_append, List.length_replicate]; rfl, ?_, HB5.out⟩
      rw [HX.out, List.length_append, List.length_replicate]
      exact HO5.out

set_option maxRecDepth 100000 in
set_option maxHeartbeats 1000000 in
theorem ext_again (B : Nat) (l : List Int) (e most : Int) (A : Option Addr) (c : Nat) (w : World) (hl : l.length ≤ 1000000000) (hB : B ≤ w.heap.size) (hown : w.ownsRow B 3 1 (.slice A l.length c) l.length (intsV l)) :
    Calls Try.prog 13 #[.slice A l.length c, .agg #[.int .i64 16, .int .i64 e], .int .i64 most] w (ExtPost B l 16 e most w) := by
  obtain ⟨i0, hi0, hz0, hz1, hz2⟩ := info_parts intInfoC
  have Hi0 := Lib.hid hi0
  have Hz0 := Lib.hid hz0
  have Hz1 := Lib.hid hz1
  have Hz2 := Lib.hid hz2
  clear hi0 hz0 hz1 hz2
  have HO := Lib.hid hown
  clear hown
  have BT := fun W => Lib.hid (bits_any 16 W)
  rw [show Rn.bitsOf 16 = 2 by rfl] at BT
  have LE := fun W => Lib.hid (least_any 16 W)
  rw [show Rn.least 16 = 3 by rfl] at LE
  by_cases he0 : 0 ≤ e
  case neg =>
    have u1 : decide (e < 0) = true := decide_eq_true (by omega)
    have HNO := Lib.hid (show Rn.may l 16 e most = false from decide_eq_false (fun h => he0 h.1))
    go_enter Try.func13, Try.ntmps13
    go_wp2_with fail
    (with_reducible refine (BT _).out.mono ?_)
    rintro e2 w2 ⟨rfl, rfl⟩
    go_wp2_with fail
    go_quiet (fail)
    go_wp2_with fail
    go_ret2
    exact ext_no HNO.out (HO.out.alloc _) (below_drewN ((Below.refl B w).alloc hB _) _)
  have u1 : decide (e < 0) = false := decide_eq_false (by omega)
  by_cases heT : e < 4
  case neg =>
    have u2 : decide ((4 : Int) ≤ e) = true := decide_eq_true (by omega)
    have HNO := Lib.hid (show Rn.may l 16 e most = false from decide_eq_false (fun h => heT (by have h1 := h.2.1; rw [show Rn.two 16 = 4 by rfl] at h1; exact h1)))
    go_enter Try.func13, Try.ntmps13
    go_wp2_with fail
    (with_reducible refine (BT _).out.mono ?_)
    rintro e2 w2 ⟨rfl, rfl⟩
    go_wp2_with fail
    go_quiet (fail)
    go_wp2_with fail
    go_ret2
    exact ext_no HNO.out (HO.out.alloc _) (below_drewN ((Below.refl B w).alloc hB _) _)
  have u2 : decide ((4 : Int) ≤ e) = false := decide_eq_false (by omega)
  by_cases hne : l = []
  case pos =>
    subst hne
    have HNO := Lib.hid (show Rn.may [] 16 e most = false from decide_eq_false (fun h => h.2.2.1 ⟨rfl, rfl⟩))
    have HO2 := Lib.hid (show w.ownsRow B 3 1 (.slice A 0 c) 0 [] from HO.out)
    rw [show ([] : List Int).length = 0 from rfl]
    go_enter Try.func13, Try.ntmps13
    go_wp2_with fail
    (with_reducible refine (BT _).out.mono ?_)
    rintro e2 w2 ⟨rfl, rfl⟩
    go_wp2_with fail
    go_quiet (fail)
    go_wp2_with fail
    go_ret2
    exact ext_no HNO.out (HO.out.alloc _) (below_drewN ((Below.refl B w).alloc hB _) _)
  have hlp : 0 < l.length := List.length_pos_iff.2 hne
  obtain ⟨g, hg, hcell⟩ := own_int HO.out (i := l.length - 1) (by omega)
  have HLA := Lib.hid (show l.getLastD 0 = l.getD (l.length - 1) 0 by rw [List.getLastD_eq_getLast?, List.getLast?_eq_getElem?, List.getD_eq_getElem?_getD])
  generalize l.getD (l.length - 1) 0 = y at hcell HLA
  subst hg
  have hlt := HO.out.lt g rfl
  have tl : ((l.length : Int) == 0) = false := by rw [beq_eq_false_iff_ne]; omega
  have tl2 : (l.length == 0) = false := by rw [beq_eq_false_iff_ne]; omega
  have kk : (0 : Int) ≤ (l.length : Int) - 1 := by omega
  have hc2 : ∀ o, (w.alloc o).cell? ⟨g, l.length - 1, none⟩ = some (.int .i64 y) := fun o => (World.cell?_alloc_lt w o _ hlt.2).trans hcell
  by_cases hfit : (l.length : Int) + (3 + e) ≤ most
  case neg =>
    obtain ⟨tm, htm⟩ := Int.eq_ofNat_of_zero_le (show 0 ≤ 3 + e by omega)
    have e1 : IntKind.i64.wrap (3 + e) = (tm : Int) := by rw [IntWalk.i64_in _ (by omega)]; exact htm
    have u4 : decide (most < (l.length : Int) + (tm : Int)) = true := decide_eq_true (by omega)
    have htb : tm ≤ 200 := by omega
    have HNO := Lib.hid (show Rn.may l 16 e most = false from decide_eq_false (fun h => hfit (by have h1 := h.2.2.2; rw [show Rn.least 16 = 3 by rfl] at h1; exact h1)))
    clear htm
    go_enter Try.func13, Try.ntmps13
    go_wp2_with fail
    (with_reducible refine (BT _).out.mono ?_)
    rintro e2 w2 ⟨rfl, rfl⟩
    go_wp2_with fail
    go_quiet (fail)
    go_wp2_with fail
    obtain ⟨W2, hW2⟩ : ∃ W2, W2 = (w.alloc (.cells #[.int .i64 16, .int .i64 e] 32)).drewN nq := ⟨_, rfl⟩
    have hWh : Whole W2 w.heap.size 32 #[.int .i64 16, .int .i64 e] := by rw [hW2]; exact (Whole.new w _ _).drewN nq
    have c0 := hWh.cell 0
    have c1 := hWh.cell 1
    simp at c0 c1
    have HO3 := Lib.hid (show W2.ownsRow B 3 1 (.slice (some ⟨g, 0, none⟩) l.length c) l.length (intsV l) by rw [hW2]; exact HO.out.alloc _)
    have HB3 := Lib.hid (show Below B w W2 by rw [hW2]; exact below_drewN ((Below.refl B w).alloc hB _) _)
    rw [← hW2]
    clear hW2 hWh
    go_quiet ((go_at_call 17; exact quietly (LE _).out))
    go_wp2_with fail
    go_ret2
    exact ext_no HNO.out HO3.out (below_drewN HB3.out _)
  obtain ⟨tm, htm⟩ := Int.eq_ofNat_of_zero_le (show 0 ≤ 3 + e by omega)
  have e1 : IntKind.i64.wrap (3 + e) = (tm : Int) := by rw [IntWalk.i64_in _ (by omega)]; exact htm
  have HM := Lib.hid (show Rn.may l 16 e most = true from decide_eq_true ⟨he0, by rw [show Rn.two 16 = 4 by rfl]; exact heT, fun h => hne h.2, by rw [show Rn.least 16 = 3 by rfl]; omega⟩)
  have HX := Lib.hid (show Rn.ext l 16 e most = l ++ List.replicate tm y by
    unfold Rn.ext
    rw [if_pos HM.out, show Rn.least 16 = 3 by rfl, htm]
    unfold Rn.again; rw [if_neg (by omega), if_pos rfl, HLA.out]; rfl)
  have u4 : decide (most < (l.length : Int) + (tm : Int)) = false := decide_eq_false (by omega)
  have htb : tm ≤ 200 := by omega
  clear htm
  go_enter Try.func13, Try.ntmps13
  go_wp2_with fail
  (with_reducible refine (BT _).out.mono ?_)
  rintro e2 w2 ⟨rfl, rfl⟩
  go_wp2_with fail
  go_quiet (fail)
  go_wp2_with fail
  obtain ⟨W2, hW2⟩ : ∃ W2, W2 = (w.alloc (.cells #[.int .i64 16, .int .i64 e] 32)).drewN nq := ⟨_, rfl⟩
  have hWh : Whole W2 w.heap.size 32 #[.int .i64 16, .int .i64 e] := by rw [hW2]; exact (Whole.new w _ _).drewN nq
  have c0 := hWh.cell 0
  have c1 := hWh.cell 1
  simp at c0 c1
  have HO3 := Lib.hid (show W2.ownsRow B 3 1 (.slice (some ⟨g, 0, none⟩) l.length c) l.length (intsV l) by rw [hW2]; exact HO.out.alloc _)
  have HB3 := Lib.hid (show Below B w W2 by rw [hW2]; exact below_drewN ((Below.refl B w).alloc hB _) _)
  rw [← hW2]
  clear hW2 hWh
  go_quiet ((go_at_call 17; exact quietly (LE _).out))
  go_wp2_with fail
  go_loopw [0, 63] (fun lv i wr => ∃ j : Nat, j ≤ tm ∧ i = .int .i64 j ∧ wr.ownsRow B 3 1 lv (l.length + j) (intsV (l ++ List.replicate j y)) ∧ Below B w wr) (fun _ i _ => tm - (intOf i).toNat)
  case atStart => exact ⟨0, Nat.zero_le _, rfl, (by have h : World.ownsRow W2 B 3 1 (.slice (some ⟨g, 0, none⟩) l.length c) (l.length + 0) (intsV (l ++ List.replicate 0 y)) := (by simpa using HO3.out); exact h), below_drewN HB3.out _⟩
  case round =>
    obtain ⟨j, hj, rfl, hown, hbr⟩ := hrel
    have hbs := Nat.le_trans hB hbr.size
    by_cases hlt : j < tm
    · have HS := Lib.hid (show intsV (l ++ List.replicate (j + 1) y) = intsV (l ++ List.replicate j y) ++ [.int .i64 y] by
        rw [List.replicate_succ', ← List.append_assoc, ints_snoc])
      generalize intsV (l ++ List.replicate j y) = xs at hown HS
      go_wp2_with (at_builtin; refine wpList_append_lies _ rfl _ _ _ rfl B 3 i0 _ 1 8 Try.underlying22 Hi0.out Hz0.out Hz1.out Hz2.out rfl (by omega) _ (l.length + j) xs rfl (hown.alloc _) ⟨wr.heap.size, 0, none⟩ 1 1 [.int .i64 y] rfl rfl (World.news_of_block (cs := #[.int .i64 y]) (t := 3) (fr := (0, 0)) (heap_alloc_new wr _)) (by simp [Value.oneCell']) (by omega) (by unfold maxLen; omega) (by omega) (by simp; omega) (wr.heap.size + 1) (by simp) ?_; intro gg cap ww hown1 hgrow hat hlt1; have HO4 := Lib.hid hown1; have HB4 := Lib.hid (own_below (hown.alloc _) hgrow (Nat.le_refl _) (by simp; omega) (hbr.alloc hbs _)); clear hown1 hgrow hat hown hbr)
      go_roundw
      case rel => exact ⟨j + 1, by omega, by go_num, by rw [HS.out]; exact HO4.out, HB4.out⟩
      case measure => simp [intOf]; omega
    · obtain rfl : j = tm := by omega
      obtain ⟨A5, c5, rfl⟩ := own_form hown
      have HO5 := Lib.hid hown
      have HB5 := Lib.hid hbr
      clear hown hbr
      go_wp2_with fail
      go_ret2
      refine ⟨A5, c5, by rw [HM.out, HX.out, List.length_append, List.length_replicate]; rfl, ?_, HB5.out⟩
      rw [HX.out, List.length_append, List.length_replicate]
      exact HO5.out

set_option maxRecDepth 100000 in
set_option maxHeartbeats 1000000 in
theorem ext_zeros (B : Nat) (l : List Int) (e most : Int) (A : Option Addr) (c : Nat) (w : World) (hl : l.length ≤ 1000000000) (hB : B ≤ w.heap.size) (hown : w.ownsRow B 3 1 (.slice A l.length c) l.length (intsV l)) :
    Calls Try.prog 13 #[.slice A l.length c, .agg #[.int .i64 17, .int .i64 e], .int .i64 most] w (ExtPost B l 17 e most w) := by
  obtain ⟨i0, hi0, hz0, hz1, hz2⟩ := info_parts intInfoC
  have Hi0 := Lib.hid hi0
  have Hz0 := Lib.hid hz0
  have Hz1 := Lib.hid hz1
  have Hz2 := Lib.hid hz2
  clear hi0 hz0 hz1 hz2
  have HO := Lib.hid hown
  clear hown
  have BT := fun W => Lib.hid (bits_any 17 W)
  rw [show Rn.bitsOf 17 = 3 by rfl] at BT
  have LE := fun W => Lib.hid (least_any 17 W)
  rw [show Rn.least 17 = 3 by rfl] at LE
  by_cases he0 : 0 ≤ e
  case neg =>
    have u1 : decide (e < 0) = true := decide_eq_true (by omega)
    have HNO := Lib.hid (show Rn.may l 17 e most = false from decide_eq_false (fun h => he0 h.1))
    go_enter Try.func13, Try.ntmps13
    go_wp2_with fail
    (with_reducible refine (BT _).out.mono ?_)
    rintro e2 w2 ⟨rfl, rfl⟩
    go_wp2_with fail
    go_quiet (fail)
    go_wp2_with fail
    go_ret2
    exact ext_no HNO.out (HO.out.alloc _) (below_drewN ((Below.refl B w).alloc hB _) _)
  have u1 : decide (e < 0) = false := decide_eq_false (by omega)
  by_cases heT : e < 8
  case neg =>
    have u2 : decide ((8 : Int) ≤ e) = true := decide_eq_true (by omega)
    have HNO := Lib.hid (show Rn.may l 17 e most = false from decide_eq_false (fun h => heT (by have h1 := h.2.1; rw [show Rn.two 17 = 8 by rfl] at h1; exact h1)))
    go_enter Try.func13, Try.ntmps13
    go_wp2_with fail
    (with_reducible refine (BT _).out.mono ?_)
    rintro e2 w2 ⟨rfl, rfl⟩
    go_wp2_with fail
    go_quiet (fail)
    go_wp2_with fail
    go_ret2
    exact ext_no HNO.out (HO.out.alloc _) (below_drewN ((Below.refl B w).alloc hB _) _)
  have u2 : decide ((8 : Int) ≤ e) = false := decide_eq_false (by omega)
  by_cases hfit : (l.length : Int) + (3 + e) ≤ most
  case neg =>
    obtain ⟨tm, htm⟩ := Int.eq_ofNat_of_zero_le (show 0 ≤ 3 + e by omega)
    have e1 : IntKind.i64.wrap (3 + e) = (tm : Int) := by rw [IntWalk.i64_in _ (by omega)]; exact htm
    have u4 : decide (most < (l.length : Int) + (tm : Int)) = true := decide_eq_true (by omega)
    have htb : tm ≤ 200 := by omega
    have HNO := Lib.hid (show Rn.may l 17 e most = false from decide_eq_false (fun h => hfit (by have h1 := h.2.2.2; rw [show Rn.least 17 = 3 by rfl] at h1; exact h1)))
    clear htm
    go_enter Try.func13, Try.ntmps13
    go_wp2_with fail
    (with_reducible refine (BT _).out.mono ?_)
    rintro e2 w2 ⟨rfl, rfl⟩
    go_wp2_with fail
    go_quiet (fail)
    go_wp2_with fail
    obtain ⟨W2, hW2⟩ : ∃ W2, W2 = (w.alloc (.cells #[.int .i64 17, .int .i64 e] 32)).drewN nq := ⟨_, rfl⟩
    have hWh : Whole W2 w.heap.size 32 #[.int .i64 17, .int .i64 e] := by rw [hW2]; exact (Whole.new w _ _).drewN nq
    have c0 := hWh.cell 0
    have c1 := hWh.cell 1
    simp at c0 c1
    have HO3 := Lib.hid (show W2.ownsRow B 3 1 (.slice A l.length c) l.length (intsV l) by rw [hW2]; exact HO.out.alloc _)
    have HB3 := Lib.hid (show Below B w W2 by rw [hW2]; exact below_drewN ((Below.refl B w).alloc hB _) _)
    rw [← hW2]
    clear hW2 hWh
    go_quiet ((go_at_call 17; exact quietly (LE _).out))
    go_wp2_with fail
    go_ret2
    exact ext_no HNO.out HO3.out (below_drewN HB3.out _)
  obtain ⟨tm, htm⟩ := Int.eq_ofNat_of_zero_le (show 0 ≤ 3 + e by omega)
  have e1 : IntKind.i64.wrap (3 + e) = (tm : Int) := by rw [IntWalk.i64_in _ (by omega)]; exact htm
  have HM := Lib.hid (show Rn.may l 17 e most = true from decide_eq_true ⟨he0, by rw [show Rn.two 17 = 8 by rfl]; exact heT, fun h => by have := h.1; omega, by rw [show Rn.least 17 = 3 by rfl]; omega⟩)
  have HX := Lib.hid (show Rn.ext l 17 e most = l ++ List.replicate tm 0 by
    unfold Rn.ext
    rw [if_pos HM.out, show Rn.least 17 = 3 by rfl, htm]
    rfl)
  have u4 : decide (most < (l.length : Int) + (tm : Int)) = false := decide_eq_false (by omega)
  have htb : tm ≤ 200 := by omega
  clear htm
  go_enter Try.func13, Try.ntmps13
  go_wp2_with fail
  (with_reducible refine (BT _).out.mono ?_)
  rintro e2 w2 ⟨rfl, rfl⟩
  go_wp2_with fail
  go_quiet (fail)
  go_wp2_with fail
  obtain ⟨W2, hW2⟩ : ∃ W2, W2 = (w.alloc (.cells #[.int .i64 17, .int .i64 e] 32)).drewN nq := ⟨_, rfl⟩
  have hWh : Whole W2 w.heap.size 32 #[.int .i64 17, .int .i64 e] := by rw [hW2]; exact (Whole.new w _ _).drewN nq
  have c0 := hWh.cell 0
  have c1 := hWh.cell 1
  simp at c0 c1
  have HO3 := Lib.hid (show W2.ownsRow B 3 1 (.slice A l.length c) l.length (intsV l) by rw [hW2]; exact HO.out.alloc _)
  have HB3 := Lib.hid (show Below B w W2 by rw [hW2]; exact below_drewN ((Below.refl B w).alloc hB _) _)
  rw [← hW2]
  clear hW2 hWh
  go_quiet ((go_at_call 17; exact quietly (LE _).out))
  go_wp2_with fail
  go_loopw [0, 63] (fun lv i wr => ∃ j : Nat, j ≤ tm ∧ i = .int .i64 j ∧ wr.ownsRow B 3 1 lv (l.length + j) (intsV (l ++ List.replicate j 0)) ∧ Below B w wr) (fun _ i _ => tm - (intOf i).toNat)
  case atStart => exact ⟨0, Nat.zero_le _, rfl, (by have h : World.ownsRow W2 B 3 1 (.slice A l.length c) (l.length + 0) (intsV (l ++ List.replicate 0 0)) := (by simpa using HO3.out); exact h), below_drewN HB3.out _⟩
  case round =>
    obtain ⟨j, hj, rfl, hown, hbr⟩ := hrel
    have hbs := Nat.le_trans hB hbr.size
    by_cases hlt : j < tm
    · have HS := Lib.hid (show intsV (l ++ List.replicate (j + 1) 0) = intsV (l ++ List.replicate j 0) ++ [.int .i64 0] by
        rw [List.replicate_succ', ← List.append_assoc, ints_snoc])
      generalize intsV (l ++ List.replicate j 0) = xs at hown HS
      go_wp2_with (at_builtin; refine wpList_append_lies _ rfl _ _ _ rfl B 3 i0 _ 1 8 Try.underlying22 Hi0.out Hz0.out Hz1.out Hz2.out rfl (by omega) _ (l.length + j) xs rfl (hown.alloc _) ⟨wr.heap.size, 0, none⟩ 1 1 [.int .i64 0] rfl rfl (World.news_of_block (cs := #[.int .i64 0]) (t := 3) (fr := (0, 0)) (heap_alloc_new wr _)) (by simp [Value.oneCell']) (by omega) (by unfold maxLen; omega) (by omega) (by simp; omega) (wr.heap.size + 1) (by simp) ?_; intro gg cap ww hown1 hgrow hat hlt1; have HO4 := Lib.hid hown1; have HB4 := Lib.hid (own_below (hown.alloc _) hgrow (Nat.le_refl _) (by simp; omega) (hbr.alloc hbs _)); clear hown1 hgrow hat hown hbr)
      go_roundw
      case rel => exact ⟨j + 1, by omega, by go_num, by rw [HS.out]; exact HO4.out, HB4.out⟩
      case measure => simp [intOf]; omega
    · obtain rfl : j = tm := by omega
      obtain ⟨A5, c5, rfl⟩ := own_form hown
      have HO5 := Lib.hid hown
      have HB5 := Lib.hid hbr
      clear hown hbr
      go_wp2_with fail
      go_ret2
      refine ⟨A5, c5, by rw [HM.out, HX.out, List.length_append, List.length_replicate]; rfl, ?_, HB5.out⟩
      rw [HX.out, List.length_append, List.length_replicate]
      exact HO5.out

set_option maxRecDepth 100000 in
set_option maxHeartbeats 1000000 in
theorem ext_many (B : Nat) (l : List Int) (e most : Int) (A : Option Addr) (c : Nat) (w : World) (hl : l.length ≤ 1000000000) (hB : B ≤ w.heap.size) (hown : w.ownsRow B 3 1 (.slice A l.length c) l.length (intsV l)) :
    Calls Try.prog 13 #[.slice A l.length c, .agg #[.int .i64 18, .int .i64 e], .int .i64 most] w (ExtPost B l 18 e most w) := by
  obtain ⟨i0, hi0, hz0, hz1, hz2⟩ := info_parts intInfoC
  have Hi0 := Lib.hid hi0
  have Hz0 := Lib.hid hz0
  have Hz1 := Lib.hid hz1
  have Hz2 := Lib.hid hz2
  clear hi0 hz0 hz1 hz2
  have HO := Lib.hid hown
  clear hown
  have BT := fun W => Lib.hid (bits_any 18 W)
  rw [show Rn.bitsOf 18 = 7 by rfl] at BT
  have LE := fun W => Lib.hid (least_any 18 W)
  rw [show Rn.least 18 = 11 by rfl] at LE
  by_cases he0 : 0 ≤ e
  case neg =>
    have u1 : decide (e < 0) = true := decide_eq_true (by omega)
    have HNO := Lib.hid (show Rn.may l 18 e most = false from decide_eq_false (fun h => he0 h.1))
    go_enter Try.func13, Try.ntmps13
    go_wp2_with fail
    (with_reducible refine (BT _).out.mono ?_)
    rintro e2 w2 ⟨rfl, rfl⟩
    go_wp2_with fail
    go_quiet (fail)
    go_wp2_with fail
    go_ret2
    exact ext_no HNO.out (HO.out.alloc _) (below_drewN ((Below.refl B w).alloc hB _) _)
  have u1 : decide (e < 0) = false := decide_eq_false (by omega)
  by_cases heT : e < 128
  case neg =>
    have u2 : decide ((128 : Int) ≤ e) = true := decide_eq_true (by omega)
    have HNO := Lib.hid (show Rn.may l 18 e most = false from decide_eq_false (fun h => heT (by have h1 := h.2.1; rw [show Rn.two 18 = 128 by rfl] at h1; exact h1)))
    go_enter Try.func13, Try.ntmps13
    go_wp2_with fail
    (with_reducible refine (BT _).out.mono ?_)
    rintro e2 w2 ⟨rfl, rfl⟩
    go_wp2_with fail
    go_quiet (fail)
    go_wp2_with fail
    go_ret2
    exact ext_no HNO.out (HO.out.alloc _) (below_drewN ((Below.refl B w).alloc hB _) _)
  have u2 : decide ((128 : Int) ≤ e) = false := decide_eq_false (by omega)
  by_cases hfit : (l.length : Int) + (11 + e) ≤ most
  case neg =>
    obtain ⟨tm, htm⟩ := Int.eq_ofNat_of_zero_le (show 0 ≤ 11 + e by omega)
    have e1 : IntKind.i64.wrap (11 + e) = (tm : Int) := by rw [IntWalk.i64_in _ (by omega)]; exact htm
    have u4 : decide (most < (l.length : Int) + (tm : Int)) = true := decide_eq_true (by omega)
    have htb : tm ≤ 200 := by omega
    have HNO := Lib.hid (show Rn.may l 18 e most = false from decide_eq_false (fun h => hfit (by have h1 := h.2.2.2; rw [show Rn.least 18 = 11 by rfl] at h1; exact h1)))
    clear htm
    go_enter Try.func13, Try.ntmps13
    go_wp2_with fail
    (with_reducible refine (BT _).out.mono ?_)
    rintro e2 w2 ⟨rfl, rfl⟩
    go_wp2_with fail
    go_quiet (fail)
    go_wp2_with fail
    obtain ⟨W2, hW2⟩ : ∃ W2, W2 = (w.alloc (.cells #[.int .i64 18, .int .i64 e] 32)).drewN nq := ⟨_, rfl⟩
    have hWh : Whole W2 w.heap.size 32 #[.int .i64 18, .int .i64 e] := by rw [hW2]; exact (Whole.new w _ _).drewN nq
    have c0 := hWh.cell 0
    have c1 := hWh.cell 1
    simp at c0 c1
    have HO3 := Lib.hid (show W2.ownsRow B 3 1 (.slice A l.length c) l.length (intsV l) by rw [hW2]; exact HO.out.alloc _)
    have HB3 := Lib.hid (show Below B w W2 by rw [hW2]; exact below_drewN ((Below.refl B w).alloc hB _) _)
    rw [← hW2]
    clear hW2 hWh
    go_quiet ((go_at_call 17; exact quietly (LE _).out))
    go_wp2_with fail
    go_ret2
    exact ext_no HNO.out HO3.out (below_drewN HB3.out _)
  obtain ⟨tm, htm⟩ := Int.eq_ofNat_of_zero_le (show 0 ≤ 11 + e by omega)
  have e1 : IntKind.i64.wrap (11 + e) = (tm : Int) := by rw [IntWalk.i64_in _ (by omega)]; exact htm
  have HM := Lib.hid (show Rn.may l 18 e most = true from decide_eq_true ⟨he0, by rw [show Rn.two 18 = 128 by rfl]; exact heT, fun h => by have := h.1; omega, by rw [show Rn.least 18 = 11 by rfl]; omega⟩)
  have HX := Lib.hid (show Rn.ext l 18 e most = l ++ List.replicate tm 0 by
    unfold Rn.ext
    rw [if_pos HM.out, show Rn.least 18 = 11 by rfl, htm]
    rfl)
  have u4 : decide (most < (l.length : Int) + (tm : Int)) = false := decide_eq_false (by omega)
  have htb : tm ≤ 200 := by omega
  clear htm
  go_enter Try.func13, Try.ntmps13
  go_wp2_with fail
  (with_reducible refine (BT _).out.mono ?_)
  rintro e2 w2 ⟨rfl, rfl⟩
  go_wp2_with fail
  go_quiet (fail)
  go_wp2_with fail
  obtain ⟨W2, hW2⟩ : ∃ W2, W2 = (w.alloc (.cells #[.int .i64 18, .int .i64 e] 32)).drewN nq := ⟨_, rfl⟩
  have hWh : Whole W2 w.heap.size 32 #[.int .i64 18, .int .i64 e] := by rw [hW2]; exact (Whole.new w _ _).drewN nq
  have c0 := hWh.cell 0
  have c1 := hWh.cell 1
  simp at c0 c1
  have HO3 := Lib.hid (show W2.ownsRow B 3 1 (.slice A l.length c) l.length (intsV l) by rw [hW2]; exact HO.out.alloc _)
  have HB3 := Lib.hid (show Below B w W2 by rw [hW2]; exact below_drewN ((Below.refl B w).alloc hB _) _)
  rw [← hW2]
  clear hW2 hWh
  go_quiet ((go_at_call 17; exact quietly (LE _).out))
  go_wp2_with fail
  go_loopw [0, 63] (fun lv i wr => ∃ j : Nat, j ≤ tm ∧ i = .int .i64 j ∧ wr.ownsRow B 3 1 lv (l.length + j) (intsV (l ++ List.replicate j 0)) ∧ Below B w wr) (fun _ i _ => tm - (intOf i).toNat)
  case atStart => exact ⟨0, Nat.zero_le _, rfl, (by have h : World.ownsRow W2 B 3 1 (.slice A l.length c) (l.length + 0) (intsV (l ++ List.replicate 0 0)) := (by simpa using HO3.out); exact h), below_drewN HB3.out _⟩
  case round =>
    obtain ⟨j, hj, rfl, hown, hbr⟩ := hrel
    have hbs := Nat.le_trans hB hbr.size
    by_cases hlt : j < tm
    · have HS := Lib.hid (show intsV (l ++ List.replicate (j + 1) 0) = intsV (l ++ List.replicate j 0) ++ [.int .i64 0] by
        rw [List.replicate_succ', ← List.append_assoc, ints_snoc])
      generalize intsV (l ++ List.replicate j 0) = xs at hown HS
      go_wp2_with (at_builtin; refine wpList_append_lies _ rfl _ _ _ rfl B 3 i0 _ 1 8 Try.underlying22 Hi0.out Hz0.out Hz1.out Hz2.out rfl (by omega) _ (l.length + j) xs rfl (hown.alloc _) ⟨wr.heap.size, 0, none⟩ 1 1 [.int .i64 0] rfl rfl (World.news_of_block (cs := #[.int .i64 0]) (t := 3) (fr := (0, 0)) (heap_alloc_new wr _)) (by simp [Value.oneCell']) (by omega) (by unfold maxLen; omega) (by omega) (by simp; omega) (wr.heap.size + 1) (by simp) ?_; intro gg cap ww hown1 hgrow hat hlt1; have HO4 := Lib.hid hown1; have HB4 := Lib.hid (own_below (hown.alloc _) hgrow (Nat.le_refl _) (by simp; omega) (hbr.alloc hbs _)); clear hown1 hgrow hat hown hbr)
      go_roundw
      case rel => exact ⟨j + 1, by omega, by go_num, by rw [HS.out]; exact HO4.out, HB4.out⟩
      case measure => simp [intOf]; omega
    · obtain rfl : j = tm := by omega
      obtain ⟨A5, c5, rfl⟩ := own_form hown
      have HO5 := Lib.hid hown
      have HB5 := Lib.hid hbr
      clear hown hbr
      go_wp2_with fail
      go_ret2
      refine ⟨A5, c5, by rw [HM.out, HX.out, List.length_append, List.length_replicate]; rfl, ?_, HB5.out⟩
      rw [HX.out, List.length_append, List.length_replicate]
      exact HO5.out
end Go.Proofs.Ytgnghlcdbilgjaa
