/-
  The law TurnsFair returns true: walk.
-/
import Derived.Test.YtcbginkbipefaaaRing3
namespace Go.Proofs.Ytcbginkbipefaaa
open Go.RowKit Go.Maps

theorem ringReady_any (q : Nat) (L : List Int) (f : Int → Int) (al N : Nat) (x : Int) (w : World) (h : RingS w q L f al N) (hid : I64 x) (hN : N < 1000000) :
    Calls Try.prog 7 #[.pointer (some ⟨q + 2, 0, none⟩), .int .i64 x] w fun e w' => ∃ v, e = .returned v ∧ RingS w' q (if x ∈ L then L else L ++ [x]) f al (N + 1) ∧ Fr (fun k => q ≤ k) w w' := by
  by_cases hin : x ∈ L
  · exact (ringReady_no q L f al N x w h hid hin).mono fun e w' ⟨h1, h2, h3⟩ => ⟨_, h1, by rw [if_pos hin]; exact h2.more (Nat.le_succ N), h3⟩
  · exact (ringReady_yes q L f al N x w h hid hin hN).mono fun e w' ⟨h1, h2, h3⟩ => ⟨_, h1, by rw [if_neg hin]; exact h2, h3⟩

set_option maxHeartbeats 800000 in
theorem awake35_any (w : World) : Calls Try.prog 5 #[] w fun e w' => e = .returned (.bool true) ∧ Below w.heap.size w w' := by
  have NEW := Lib.hid (ringNew w)
  go_enter Try.func5, Try.ntmps5
  go_wp2_with fail
  (with_reducible refine NEW.out.mono ?_)
  rintro e w1 ⟨rfl, hr1, hf1⟩
  obtain ⟨q, hq⟩ : ∃ q, q = w.heap.size := ⟨_, rfl⟩
  rw [← hq] at hr1 hf1 ⊢
  have HQ := Lib.hid hq
  have HF1 := Lib.hid hf1
  have R1 := Lib.hid (ringReady_yes q [] (fun _ => 0) 0 0 7 w1 hr1 (by unfold I64; omega) (by simp) (by omega))
  clear hr1 hf1 hq NEW
  go_wp2_with fail
  (with_reducible refine R1.out.mono ?_)
  rintro e w2 ⟨rfl, hr2, hf2⟩
  have HF2 := Lib.hid (HF1.out.trans hf2 (fun _ _ h => h))
  have R2 := Lib.hid (ringReady_yes q [7] (fun _ => 0) 0 1 8 w2 hr2 (by unfold I64; omega) (by simp) (by omega))
  clear hr2 hf2 R1
  go_wp2_with fail
  (with_reducible refine R2.out.mono ?_)
  rintro e w3 ⟨rfl, hr3, hf3⟩
  have HF3 := Lib.hid (HF2.out.trans hf3 (fun _ _ h => h))
  have P1 := Lib.hid (ringPick_some q [7, 8] (fun _ => 0) 0 2 1 1 w3 hr3 (by omega) (by simp) (.inl (by decide)))
  clear hr3 hf3 R2
  go_wp2_with fail
  (with_reducible refine P1.out.mono ?_)
  rintro e w4 ⟨rfl, hr4, hf4⟩
  have HF4 := Lib.hid (HF3.out.trans hf4 (fun _ _ h => h))
  have LS := Lib.hid (ringList q [7, 8] _ _ _ w4 hr4 (by omega))
  clear hr4 hf4 P1
  go_wp2_with fail
  (with_reducible refine LS.out.mono ?_)
  rintro e w5 ⟨A5, c5, rfl, ho5, hb5⟩
  have hs5 := hb5.size
  have HB5 := Lib.hid hb5
  have HO5 := Lib.hid (show w5.ownsRow w4.heap.size 3 1 (.slice A5 2 c5) 2 (intsV [7, 8]) from ho5)
  clear ho5 hb5 LS
  simp only [show (intsV [7, 8]).length = 2 from rfl]
  have IS := Lib.hid (ints_same [7, 8] [7, 8] A5 (some ⟨w5.heap.size, 0, none⟩) c5 2 w5.heap.size (w5.heap.size + 1) (w5.alloc (.cells #[.int .i64 7, .int .i64 8] 3)) (by simp [maxLen]) (by simp [maxLen]) ((Sl.of_own HO5.out).alloc (Nat.le_refl _) _) (Sl.new_ _ _ _ _))
  rw [decide_eq_true rfl] at IS
  go_wp2_with fail
  (refine IS.out.mono ?_)
  rintro e w6 ⟨rfl, n6, rfl⟩
  have hsz := HF4.out.size
  go_wp2_with fail
  go_ret
  refine ⟨rfl, ?_⟩
  have hB4 : Below w.heap.size w w4 := HF4.out.below (Nat.le_refl _) (fun k hk h => by have := HQ.out; omega)
  exact below_drewN (((hB4.trans (HB5.out.mono hsz)).alloc (by omega) _)) n6

/-- none has two turns more than another one -/
def FairL (L : List Int) (f : Int → Int) : Prop := ∃ (F B : List Int) (c : Int), L = F ++ B ∧ (∀ x ∈ F, f x = c) ∧ (∀ x ∈ B, f x = c + 1) ∧ F ≠ [] ∧ 0 ≤ c
theorem FairL.pick {L : List Int} {f : Int → Int} (h : FairL L f) (hn : L.Nodup) : FairL (pickL L 0) (bump f (L.getD 0 0)) := by
  obtain ⟨F, B, c, rfl, hF, hB, hne, hc⟩ := h
  obtain ⟨x, F2, rfl⟩ : ∃ x F2, F = x :: F2 := by cases F with | nil => exact absurd rfl hne | cons x F2 => exact ⟨x, F2, rfl⟩
  rw [List.cons_append, List.nodup_cons] at hn
  have hx : f x = c := hF x (by simp)
  have e1 : pickL (x :: F2 ++ B) 0 = F2 ++ B ++ [x] := by simp [pickL]
  have e2 : (x :: F2 ++ B).getD 0 0 = x := rfl
  rw [e1, e2]
  have hother : ∀ y ∈ F2 ++ B, bump f x y = f y := fun y hy => by
    unfold bump
    rw [if_neg]
    rintro rfl
    exact hn.1 hy
  have hself : bump f x x = c + 1 := by unfold bump; rw [if_pos rfl, hx]
  by_cases h2 : F2 = []
  · subst h2
    refine ⟨B ++ [x], [], c + 1, by simp, fun y hy => ?_, by simp, by simp, by omega⟩
    rcases List.mem_append.1 hy with h | h
    · rw [hother y (by simpa using h)]; exact hB y h
    · simp at h; subst h; exact hself
  · refine ⟨F2, B ++ [x], c, by simp, fun y hy => ?_, fun y hy => ?_, h2, hc⟩
    · rw [hother y (by simp [hy])]; exact hF y (by simp [hy])
    · rcases List.mem_append.1 hy with h | h
      · rw [hother y (by simp [h])]; exact hB y h
      · simp at h; subst h; exact hself
theorem fold_max_le (l : List Int) (a m : Int) (ha : a ≤ m) (h : ∀ y ∈ l, y ≤ m) : l.foldl max a ≤ m := by
  induction l generalizing a with
  | nil => exact ha
  | cons x l ih => exact ih (max a x) (by have := h x (by simp); omega) (fun y hy => h y (by simp [hy]))
theorem fold_min_ge (l : List Int) (a m : Int) (ha : m ≤ a) (h : ∀ y ∈ l, m ≤ y) : m ≤ l.foldl min a := by
  induction l generalizing a with
  | nil => exact ha
  | cons x l ih => exact ih (min a x) (by have := h x (by simp); omega) (fun y hy => h y (by simp [hy]))
theorem fold_max_ge (l : List Int) (a : Int) : a ≤ l.foldl max a := by
  induction l generalizing a with
  | nil => exact Int.le_refl _
  | cons x l ih => have := ih (max a x); rw [List.foldl_cons]; omega
theorem fold_min_le (l : List Int) (a : Int) : l.foldl min a ≤ a := by
  induction l generalizing a with
  | nil => exact Int.le_refl _
  | cons x l ih => have := ih (min a x); rw [List.foldl_cons]; omega
theorem FairL.spread {L : List Int} {f : Int → Int} (h : FairL L f) : ∃ c, 0 ≤ c ∧ (c ≤ leastOf (L.map f) ∧ leastOf (L.map f) ≤ c + 1) ∧ c ≤ mostOf (L.map f) ∧ mostOf (L.map f) ≤ c + 1 := by
  obtain ⟨F, B, c, rfl, hF, hB, hne, hc⟩ := h
  have hall : ∀ y ∈ (F ++ B).map f, c ≤ y ∧ y ≤ c + 1 := fun y hy => by
    obtain ⟨x, hx, rfl⟩ := List.mem_map.1 hy
    rcases List.mem_append.1 hx with h | h
    · rw [hF x h]; omega
    · rw [hB x h]; omega
  refine ⟨c, hc, ?_⟩
  generalize hl : (F ++ B).map f = l at hall
  cases l with
  | nil =>
    have := congrArg List.length hl
    simp at this
    exact absurd this.1 hne
  | cons x l => exact ⟨⟨fold_min_ge l x c (hall x (by simp)).1 (fun y hy => (hall y (by simp [hy])).1), Int.le_trans (fold_min_le l x) (hall x (by simp)).2⟩, Int.le_trans (hall x (by simp)).1 (fold_max_ge l x), fold_max_le l x (c + 1) (hall x (by simp)).2 (fun y hy => (hall y (by simp [hy])).2)⟩
theorem FairL.start {L : List Int} (h : L ≠ []) : FairL L (fun _ => 0) := ⟨L, [], 0, by simp, by simp, by simp, h, by omega⟩
theorem FairL.ne {L : List Int} {f : Int → Int} (h : FairL L f) : 0 < L.length := by
  obtain ⟨F, B, c, rfl, _, _, hne, _⟩ := h
  have := List.length_pos_iff.2 hne
  rw [List.length_append]; omega

/-- behind some calls of Ready -/
def FRel (w : World) (q n j : Nat) (wr : World) : Prop := ∃ L, RingS wr q L (fun _ => 0) 0 j ∧ (j = 0 ∨ L ≠ []) ∧ j ≤ n ∧ Below w.heap.size w wr
/-- behind some picks -/
def GRel (w : World) (q n j : Nat) (wr : World) : Prop := ∃ L f al, RingS wr q L f al (n + j) ∧ (FairL L f ∨ (L = [] ∧ n = 0)) ∧ Below w.heap.size w wr

set_option maxRecDepth 100000 in
set_option maxHeartbeats 2000000 in
theorem turnsFair_walk (a : Option Addr) (ids : List Int) (cap : Nat) (n : Int) (w : World) (hl : ids.length ≤ maxLen) (_hlc : ids.length ≤ cap) (hrg : ∀ x ∈ ids, -9223372036854775808 ≤ x ∧ x ≤ 9223372036854775807) (hsl : Sl w w.heap.size a (intsV ids)) (h12 : 0 ≤ n ∧ n ≤ 255) :
    Calls Try.prog 3 #[.slice a ids.length cap, .int .u8 n] w fun e w' => e = .returned (.bool true) ∧ Below w.heap.size w w' := by
  unfold maxLen at hl
  obtain ⟨h1, h2⟩ := h12
  have HS := Lib.hid hsl
  have HRG := Lib.hid hrg
  clear hsl hrg
  by_cases h4 : ids.length ≤ 40
  case neg =>
    have t1 : decide ((40 : Int) < (ids.length : Int)) = true := decide_eq_true (by omega)
    have t2 : decide (40 < ids.length) = true := decide_eq_true (by omega)
    go_enter Try.func3, Try.ntmps3
    go_wp2_with fail
    (with_reducible refine (awake35_any w).mono ?_)
    rintro e w1 ⟨rfl, hb1⟩
    go_wp2_with fail
    go_ret
    exact ⟨rfl, hb1⟩
  have t1 : decide ((40 : Int) < (ids.length : Int)) = false := decide_eq_false (by omega)
  have t2 : decide (40 < ids.length) = false := decide_eq_false (by omega)
  go_enter Try.func3, Try.ntmps3
  go_wp2_with fail
  (with_reducible refine (awake35_any w).mono ?_)
  rintro e w1 ⟨rfl, hb1⟩
  have HB1 := Lib.hid hb1
  have NEW := Lib.hid (ringNew w1)
  have hs1 := hb1.size
  clear hb1
  go_wp2_with fail
  (with_reducible refine NEW.out.mono ?_)
  rintro e w2 ⟨rfl, hr2, hf2⟩
  obtain ⟨q, hq⟩ : ∃ q, q = w1.heap.size := ⟨_, rfl⟩
  rw [← hq] at hr2 hf2 ⊢
  have hwq : w.heap.size ≤ q := by omega
  have HREL := Lib.hid (show FRel w q ids.length 0 w2 from ⟨[], hr2, .inl rfl, Nat.zero_le _, HB1.out.trans (hf2.below (B := w.heap.size) hs1 (fun k hk h => by omega))⟩)
  clear hr2 hf2 hq NEW hs1
  go_wp2_with fail
  go_loopw [6] (fun i wr => ∃ j : Nat, i = .int .i64 j ∧ FRel w q ids.length j wr) (fun i _ => ids.length - (intOf i).toNat)
  case atStart => exact ⟨0, rfl, HREL.out⟩
  case round =>
    obtain ⟨j, rfl, hrel⟩ := hrel
    clear HREL
    obtain ⟨L, hr, hne, hj, hbr⟩ := hrel
    by_cases hlt : j < ids.length
    · obtain ⟨b, off, rfl, _, hcell⟩ := (HS.out.below hbr (Nat.le_refl _)).int hlt
      have RD := Lib.hid (ringReady_any q L _ 0 j ids[j] wr hr (HRG.out _ (List.getElem_mem hlt)) (by omega))
      have HBR := Lib.hid hbr
      have hlw := hbr.size
      generalize ids[j] = x at hcell RD
      have k0 : (0 : Int) ≤ (j : Int) := Int.natCast_nonneg _
      have k1 : (j : Int) < (ids.length : Int) := by omega
      clear hr hne hbr
      go_wp2_with fail
      (with_reducible refine RD.out.mono ?_)
      rintro e w3 ⟨v, rfl, hr3, hf3⟩
      have HN := Lib.hid (show FRel w q ids.length (j + 1) w3 from ⟨_, hr3, .inr (by split; exact List.ne_nil_of_mem ‹_›; simp), hlt, HBR.out.trans (hf3.below (B := w.heap.size) hlw (fun k hk h => by omega))⟩)
      clear hr3 hf3 RD
      go_wp2_with fail
      go_roundw
      case rel => exact ⟨j + 1, by go_num, HN.out⟩
      case measure => simp [intOf]; omega
    · obtain rfl : j = ids.length := by omega
      have HRR := Lib.hid hr
      have HNE := Lib.hid hne
      have HBR := Lib.hid hbr
      clear hr hne hbr
      obtain ⟨nn, rfl⟩ := Int.eq_ofNat_of_zero_le h1
      have HG := Lib.hid (show GRel w q ids.length 0 wr from ⟨L, _, 0, HRR.out, by
        rcases Nat.eq_zero_or_pos ids.length with hz | hz
        · exact .inr ⟨List.eq_nil_of_length_eq_zero (by have := HRR.out.lle; omega), hz⟩
        · exact .inl (FairL.start (HNE.out.resolve_left (by omega))), HBR.out⟩)
      rename_i wr0
      clear HRR HNE HBR
      go_wp2_with fail
      go_loopw [7] (fun i wr => ∃ j : Nat, i = .int .i64 j ∧ j ≤ nn ∧ GRel w q ids.length j wr) (fun i _ => nn - (intOf i).toNat)
      case atStart => exact ⟨0, rfl, Nat.zero_le _, HG.out⟩
      case round =>
        obtain ⟨j, rfl, hj, L, f, al, hr, hfair, hbr⟩ := hrel
        clear HG
        by_cases hlt : j < nn
        · have k0 : (0 : Int) ≤ (j : Int) := Int.natCast_nonneg _
          have k1 : (j : Int) < (nn : Int) := by omega
          have HBR := Lib.hid hbr
          have hlw := hbr.size
          have HR := Lib.hid hr
          clear hr hbr
          rcases hfair with hfair | ⟨rfl, hz⟩
          · have HFA := Lib.hid hfair
            have PK := Lib.hid (ringPick_some q L f al (ids.length + j) 0 0 wr HR.out (by omega) hfair.ne (.inl (by simp)))
            clear hfair
            go_wp2_with fail
            (with_reducible refine PK.out.mono ?_)
            rintro e w4 ⟨rfl, hr4, hf4⟩
            have hfp := HFA.out.pick HR.out.nd
            generalize L.getD 0 0 = x at hr4 hfp
            have HR4 := Lib.hid hr4
            have SP := Lib.hid (ringSpread q _ _ _ _ w4 hr4 (by omega))
            obtain ⟨c, c0, ⟨c1, c1'⟩, c2, c2'⟩ := hfp.spread
            generalize leastOf ((pickL L 0).map (bump f x)) = lo at SP c1 c1'
            generalize mostOf ((pickL L 0).map (bump f x)) = hi at SP c2 c2'
            have d1 : -1 ≤ hi - lo := by omega
            have d2 : hi - lo ≤ 1 := by omega
            have d3 : 0 ≤ lo := by omega
            have d4 : decide (1 < hi - lo) = false := decide_eq_false (by omega)
            have d5 : decide (lo < 0) = false := decide_eq_false (by omega)
            have HN := Lib.hid (show GRel w q ids.length (j + 1) w4 from ⟨_, _, _, hr4, .inl hfp, HBR.out.trans (hf4.below (B := w.heap.size) hlw (fun k hk h => by omega))⟩)
            clear hr4 hf4 PK hfp
            go_wp2_with fail
            (with_reducible refine SP.out.mono ?_)
            rintro e w5 ⟨rfl, rfl⟩
            go_wp2_with fail
            go_roundw
            case rel => exact ⟨j + 1, by go_num, hlt, HN.out⟩
            case measure => simp [intOf]; omega
          · have PK := Lib.hid (ringPick_none q f al _ 0 wr HR.out)
            have tz : ((ids.length : Int) == 0) = true := by simp [hz]
            have tz2 : decide (ids.length = 0) = true := decide_eq_true hz
            have HZ := Lib.hid hz
            clear hz
            go_wp2_with fail
            (with_reducible refine PK.out.mono ?_)
            rintro e w4 ⟨rfl, rfl⟩
            go_wp2_with fail
            go_ret
            exact ⟨by first | rfl | simp [HZ.out], HBR.out⟩
        · obtain rfl : j = nn := by omega
          have HBR := Lib.hid hbr
          clear hr hfair hbr
          go_wp2_with fail
          go_ret
          exact ⟨rfl, HBR.out⟩
end Go.Proofs.Ytcbginkbipefaaa
