/-
  decode: May, New, Most, Len; a table's state.
-/
import Derived.Test.YtdmmlpioaiammaaDoorDecMath
import Derived.Test.YtdmmlpioaiammaaDoorSorted
import Derived.RegionTactic
namespace Go.Proofs.YtdmmlpioaiammaaDoor
open Go.RowKit

/-- is a set permitted: 0, or the error's number -/
def mayOf (l : List Int) (which : Int) : Int :=
  if kindOf l = 5 then 23 else if kindOf l = 4 then 24 else if kindOf l = 3 then 0 else if kindOf l = 1 ∧ 1 ≤ which then 0 else if kindOf l = 0 ∧ 2 ≤ which then 0 else 25
theorem kind_six (l : List Int) : kindOf l = 0 ∨ kindOf l = 1 ∨ kindOf l = 2 ∨ kindOf l = 3 ∨ kindOf l = 4 ∨ kindOf l = 5 := by
  rcases kind_le5 l with h | h | h <;> omega
set_option maxHeartbeats 1000000 in
theorem may_any (l : List Int) (which : Int) (a : Option Addr) (c B : Nat) (w : World) (hl : l.length ≤ 1000000) (hs : Sl w B a (intsV l)) (hB : B ≤ w.heap.size) :
    Calls Tryd.prog 49 #[.slice a l.length c, .int .i64 which] w fun e w' => e = .returned (.int .i64 (mayOf l which)) ∧ Below w.heap.size w w' := by
  have KA := Lib.hid (kind_any l a c B w hl hs hB)
  have HM := Lib.hid (show mayOf l which = if kindOf l = 5 then 23 else if kindOf l = 4 then 24 else if kindOf l = 3 then 0 else if kindOf l = 1 ∧ 1 ≤ which then 0 else if kindOf l = 0 ∧ 2 ≤ which then 0 else 25 from rfl)
  generalize mayOf l which = res at HM
  have h6 := kind_six l
  generalize kindOf l = kd at KA HM h6
  clear hs
  rcases h6 with rfl | rfl | rfl | rfl | rfl | rfl
  · by_cases hw : 2 ≤ which
    · have t1 : decide (2 ≤ which) = true := decide_eq_true hw
      have HE := Lib.hid (show res = 0 by rw [HM.out]; simp [hw])
      clear HM
      go_enter Tryd.func49, Tryd.ntmps49
      go_wp2_with fail
      (with_reducible refine KA.out.mono ?_)
      rintro e w1 ⟨rfl, hb1⟩
      go_wp2_with fail
      go_ret
      exact ⟨by rw [HE.out]; rfl, hb1⟩
    · have t1 : decide (2 ≤ which) = false := decide_eq_false hw
      have HE := Lib.hid (show res = 25 by rw [HM.out]; simp [hw])
      clear HM
      go_enter Tryd.func49, Tryd.ntmps49
      go_wp2_with fail
      (with_reducible refine KA.out.mono ?_)
      rintro e w1 ⟨rfl, hb1⟩
      go_wp2_with fail
      go_ret
      exact ⟨by rw [HE.out]; rfl, hb1⟩
  · by_cases hw : 1 ≤ which
    · have t1 : decide (1 ≤ which) = true := decide_eq_true hw
      have HE := Lib.hid (show res = 0 by rw [HM.out]; simp [hw])
      clear HM
      go_enter Tryd.func49, Tryd.ntmps49
      go_wp2_with fail
      (with_reducible refine KA.out.mono ?_)
      rintro e w1 ⟨rfl, hb1⟩
      go_wp2_with fail
      go_ret
      exact ⟨by rw [HE.out]; rfl, hb1⟩
    · have t1 : decide (1 ≤ which) = false := decide_eq_false hw
      have HE := Lib.hid (show res = 25 by rw [HM.out]; simp [hw])
      clear HM
      go_enter Tryd.func49, Tryd.ntmps49
      go_wp2_with fail
      (with_reducible refine KA.out.mono ?_)
      rintro e w1 ⟨rfl, hb1⟩
      go_wp2_with fail
      go_ret
      exact ⟨by rw [HE.out]; rfl, hb1⟩
  · have HE := Lib.hid (show res = 25 by rw [HM.out]; simp)
    clear HM
    go_enter Tryd.func49, Tryd.ntmps49
    go_wp2_with fail
    (with_reducible refine KA.out.mono ?_)
    rintro e w1 ⟨rfl, hb1⟩
    go_wp2_with fail
    go_ret
    exact ⟨by rw [HE.out]; rfl, hb1⟩
  · have HE := Lib.hid (show res = 0 by rw [HM.out]; simp)
    clear HM
    go_enter Tryd.func49, Tryd.ntmps49
    go_wp2_with fail
    (with_reducible refine KA.out.mono ?_)
    rintro e w1 ⟨rfl, hb1⟩
    go_wp2_with fail
    go_ret
    exact ⟨by rw [HE.out]; rfl, hb1⟩
  · have HE := Lib.hid (show res = 24 by rw [HM.out]; simp)
    clear HM
    go_enter Tryd.func49, Tryd.ntmps49
    go_wp2_with fail
    (with_reducible refine KA.out.mono ?_)
    rintro e w1 ⟨rfl, hb1⟩
    go_wp2_with fail
    go_ret
    exact ⟨by rw [HE.out]; rfl, hb1⟩
  · have HE := Lib.hid (show res = 23 by rw [HM.out]; simp)
    clear HM
    go_enter Tryd.func49, Tryd.ntmps49
    go_wp2_with fail
    (with_reducible refine KA.out.mono ?_)
    rintro e w1 ⟨rfl, hb1⟩
    go_wp2_with fail
    go_ret
    exact ⟨by rw [HE.out]; rfl, hb1⟩
theorem may_kind {l : List Int} {which : Int} (h : mayOf l which = 0) : kindOf l ≤ 3 ∧ (kindOf l = 3 ∨ kindOf l = 1 ∨ kindOf l = 0) := by
  unfold mayOf at h
  rcases kind_six l with e | e | e | e | e | e <;> rw [e] at h ⊢ <;> simp at h ⊢

/-- a table's counts: how many of each length from 1 on -/
def tal1 (l : List Int) : List Int := (List.range 16).map fun i : Nat => if i = 0 then 0 else ((l.count (i : Int) : Nat) : Int)
theorem len_tal1 (l : List Int) : (tal1 l).length = 16 := by simp [tal1]
theorem tal1_get (l : List Int) (i : Nat) (h0 : 1 ≤ i) (h : i < 16) : (tal1 l)[i]? = some ((l.count (i : Int) : Nat) : Int) := by simp [tal1, h]; omega
theorem tal1_snoc (l : List Int) (x : Int) (k : Nat) (hx : x = (k : Int)) (h1 : 1 ≤ k) (h2 : k < 16) : (tal1 l).set k (((l.count x : Nat) : Int) + 1) = tal1 (l ++ [x]) := by
  apply List.ext_getElem?
  intro i
  by_cases hi : i < 16
  · rw [List.getElem?_set, len_tal1]
    by_cases e : k = i
    · subst e hx
      rw [if_pos rfl, if_pos h2, tal1_get _ _ h1 h2, List.count_append]
      simp
    · rw [if_neg e]
      by_cases h0 : i = 0
      · subst h0; simp [tal1]
      · rw [tal1_get _ _ (by omega) hi, tal1_get _ _ (by omega) hi, List.count_append]
        have : List.count (i : Int) [x] = 0 := List.count_eq_zero.2 (by simp; omega)
        rw [this]; simp
  · rw [List.getElem?_eq_none (by simp [len_tal1]; omega), List.getElem?_eq_none (by simp [len_tal1]; omega)]
theorem tal1_skip (l : List Int) : tal1 (l ++ [0]) = tal1 l := by
  unfold tal1
  apply List.map_congr_left
  intro i _
  by_cases h0 : i = 0
  · rw [if_pos h0, if_pos h0]
  · rw [if_neg h0, if_neg h0, List.count_append, show List.count (i : Int) [0] = 0 from List.count_eq_zero.2 (by simp; omega)]; simp
/-- the cells of a table -/
def tabV (M : List Int) (A : Option Addr) (T c : Nat) : List Value := intsV (tal1 M) ++ [.slice A T c, .int .i64 (mxOf M)]
theorem tabV_many (M : List Int) (A : Option Addr) (T c m : Nat) (h0 : 1 ≤ m) (h : m < 16) : (tabV M A T c).toArray[m]? = some (.int .i64 ((M.count (m : Int) : Nat) : Int)) := by
  simp only [List.getElem?_toArray]
  unfold tabV
  rw [List.getElem?_append_left (by rw [len_intsV, len_tal1]; exact h)]
  simp [intsV, tal1_get M m h0 h]
theorem tabV_sl (M : List Int) (A : Option Addr) (T c : Nat) : (tabV M A T c).toArray[16]? = some (.slice A T c) := rfl
theorem tabV_mx (M : List Int) (A : Option Addr) (T c : Nat) : (tabV M A T c).toArray[17]? = some (.int .i64 (mxOf M)) := rfl
theorem tabV_hit (M : List Int) (A : Option Addr) (T c m : Nat) (h0 : 1 ≤ m) (h : m < 16) : ((tabV M A T c).toArray.setIfInBounds m (.int .i64 (((M.count (m : Int) : Nat) : Int) + 1))).setIfInBounds 17 (.int .i64 (max (mxOf M) (m : Int))) = (tabV (M ++ [(m : Int)]) A T c).toArray := by
  unfold tabV
  rw [← tal1_snoc M m m rfl h0 h, mx_snoc, show intsV ((tal1 M).set m (((M.count (m : Int) : Nat) : Int) + 1)) = (intsV (tal1 M)).set m (.int .i64 (((M.count (m : Int) : Nat) : Int) + 1)) by simp [intsV, List.map_set]]
  have h1 : (intsV (tal1 M)).length = 16 := by rw [len_intsV, len_tal1]
  rw [List.setIfInBounds_toArray, List.setIfInBounds_toArray, List.set_append_left _ _ (by omega), List.set_append_right _ _ (by rw [List.length_set]; omega), List.length_set, h1]
  rfl
theorem tabV_zero (M : List Int) (A : Option Addr) (T c : Nat) : tabV (M ++ [0]) A T c = tabV M A T c := by
  unfold tabV
  rw [tal1_skip, mx_snoc, show max (mxOf M) 0 = mxOf M by have := mx_nn M; omega]

/-- a table of the lengths l at block p, all of it below block Q -/
structure TabS (w : World) (B Q p : Nat) (l : List Int) : Prop where
  ex : ∃ A c, Whole w p 80 (tabV l A (pcnt l 15) c).toArray ∧ w.ownsRow B 3 1 (.slice A (pcnt l 15) c) (pcnt l 15) (intsV (up (srt l 15))) ∧ (∀ g, (Value.slice A (pcnt l 15) c).ownBlock = some g → g < Q)
  lo : B ≤ p
  hi : p < Q
theorem TabS.fr {w w' : World} {B Q p : Nat} {l : List Int} (h : TabS w B Q p l) (hf : Fr (fun k => Q ≤ k) w w') : TabS w' B Q p l := by
  obtain ⟨A, c, h1, h2, h3⟩ := h.ex
  exact ⟨⟨A, c, h1.fr hf (by have := h.hi; omega), own_fr h2 hf (fun g hg => by have := h3 g hg; omega), h3⟩, h.lo, h.hi⟩
theorem TabS.below {w w' : World} {B Q p : Nat} {l : List Int} (h : TabS w B Q p l) (hf : Below Q w w') : TabS w' B Q p l :=
  h.fr ⟨hf.os, hf.tape, hf.output, hf.size, fun k _ hn => hf.block k (by omega)⟩
theorem TabS.drewN {w : World} {B Q p : Nat} {l : List Int} (h : TabS w B Q p l) (n : Nat) : TabS (w.drewN n) B Q p l := ⟨h.ex, h.lo, h.hi⟩

def NewNo (v : Int) (w : World) (e : Ending) (w' : World) : Prop := e = .returned (.tuple #[.pointer none, .int .i64 v]) ∧ Below w.heap.size w w'
def NewYes (l : List Int) (w : World) (e : Ending) (w' : World) : Prop := ∃ p, e = .returned (.tuple #[.pointer (some ⟨p, 0, none⟩), .int .i64 0]) ∧ TabS w' w.heap.size w'.heap.size p l ∧ Below w.heap.size w w'
set_option maxHeartbeats 400000 in
theorem decNew_no (l : List Int) (which : Int) (a : Option Addr) (c B : Nat) (w : World) (hl : l.length ≤ 1000000) (hs : Sl w B a (intsV l)) (hB : B ≤ w.heap.size) (hm : mayOf l which ≠ 0) :
    Calls Tryd.prog 30 #[.slice a l.length c, .int .i64 which] w (NewNo (mayOf l which) w) := by
  have MA := Lib.hid (may_any l which a c B w hl hs hB)
  have t1 : (mayOf l which != 0) = true := bne_iff_ne.2 hm
  generalize mayOf l which = v at MA t1
  clear hs hm
  go_enter Tryd.func30, Tryd.ntmps30
  go_wp2_with fail
  (with_reducible refine MA.out.mono ?_)
  rintro e w1 ⟨rfl, hb1⟩
  go_wp2_with fail
  go_ret2
  exact ⟨rfl, hb1⟩
def DNRel (w : World) (p : Nat) (l : List Int) (A : Option Addr) (c k : Nat) (wr : World) : Prop :=
  Whole wr p 80 (tabV (l.take k) A (pcnt l 15) c).toArray ∧ wr.ownsRow w.heap.size 3 1 (.slice A (pcnt l 15) c) (pcnt l 15) (intsV (up (srt l 15))) ∧ (∀ g, (Value.slice A (pcnt l 15) c).ownBlock = some g → g < p) ∧ wr.heap.size = p + 1 ∧ Below w.heap.size w wr
theorem max_if' (a b : Int) : max a b = if a < b then b else a := by rw [Int.max_def]; split <;> split <;> omega
set_option maxHeartbeats 2000000 in
theorem decNew_yes (l : List Int) (which : Int) (a : Option Addr) (c B : Nat) (w : World) (hl : l.length ≤ 1000000) (hs : Sl w B a (intsV l)) (hB : B ≤ w.heap.size) (hm : mayOf l which = 0) :
    Calls Tryd.prog 30 #[.slice a l.length c, .int .i64 which] w (NewYes l w) := by
  have MA := Lib.hid (may_any l which a c B w hl hs hB)
  rw [hm] at MA
  have HRT := Lib.hid (kind_le3 (may_kind hm).1).1
  have HS := Lib.hid hs
  clear hs hm
  go_enter Tryd.func30, Tryd.ntmps30
  go_wp2_with fail
  (with_reducible refine MA.out.mono ?_)
  rintro e w1 ⟨rfl, hb1⟩
  have HB1 := Lib.hid hb1
  have hs1 := hb1.size
  have SO := Lib.hid (sorted_any l a c B w1 hl (HS.out.below hb1 hB) (by omega))
  clear hb1 MA
  go_wp2_with fail
  (with_reducible refine SO.out.mono ?_)
  rintro e w2 ⟨A, c2, rfl, ho2, hb2⟩
  rw [len_intsV, len_up, len_srt] at ho2 ⊢
  have HB2 := Lib.hid (HB1.out.trans (hb2.mono hs1))
  have hs2 := HB2.out.size
  have HR0 := Lib.hid (show DNRel w w2.heap.size l A c2 0 (w2.alloc (.cells (tabV (l.take 0) A (pcnt l 15) c2).toArray 80)) from
    ⟨Whole.new _ _ _, (own_base ho2 hs1).alloc _, fun g hg => (ho2.lt g hg).2, by simp, HB2.out.alloc hs2 _⟩)
  rw [show (tabV (l.take 0) A (pcnt l 15) c2).toArray = #[.int .i64 0, .int .i64 0, .int .i64 0, .int .i64 0, .int .i64 0, .int .i64 0, .int .i64 0, .int .i64 0, .int .i64 0, .int .i64 0, .int .i64 0, .int .i64 0, .int .i64 0, .int .i64 0, .int .i64 0, .int .i64 0, .slice A (pcnt l 15) c2, .int .i64 0] from rfl] at HR0
  clear ho2 hb2 SO
  obtain ⟨T, hT⟩ : ∃ T, T = pcnt l 15 := ⟨_, rfl⟩
  rw [← hT] at HR0 ⊢
  have HT := Lib.hid hT
  clear hT
  obtain ⟨p, hp⟩ : ∃ p, p = w2.heap.size := ⟨_, rfl⟩
  rw [← hp] at hs2 HR0
  have HP := Lib.hid hp
  clear hp
  go_wp2_with fail
  rw [← HP.out]
  go_loopw [9, 22] (fun _ i wr => ∃ k : Nat, k ≤ l.length ∧ i = .int .i64 (k : Int) ∧ DNRel w p l A c2 k wr) (fun _ i _ => l.length - (intOf i).toNat)
  case atStart => exact ⟨0, by omega, rfl, HR0.out⟩
  case round =>
    obtain ⟨k, hk, rfl, hW, hO, hgp, hsz, hbr⟩ := hrel
    have HGP := Lib.hid hgp
    clear HR0 hgp
    have HW := Lib.hid hW
    have HO := Lib.hid hO
    have HBR := Lib.hid hbr
    have HSZ := Lib.hid hsz
    by_cases hlt : k < l.length
    · obtain ⟨b, off, rfl, _, hcell⟩ := (HS.out.below hbr hB).int hlt
      have k0 : (0 : Int) ≤ (k : Int) := Int.natCast_nonneg _
      have k1 : (k : Int) < (l.length : Int) := by omega
      obtain ⟨hx0, hx1⟩ := right_at HRT.out hlt
      have HTK := Lib.hid (show l.take (k + 1) = l.take k ++ [l[k]] from List.take_succ_eq_append_getElem hlt)
      obtain ⟨m, hm⟩ := Int.eq_ofNat_of_zero_le hx0
      rw [hm] at hcell hx1 HTK
      clear hm hx0
      by_cases e0 : m = 0
      · subst e0
        rw [show ((0 : Nat) : Int) = 0 from rfl] at hcell
        clear hW hO hsz hbr
        go_wp2_with fail
        go_roundw
        case rel => exact ⟨k + 1, by omega, by go_num, by rw [HTK.out, show ((0 : Nat) : Int) = 0 from rfl, tabV_zero]; exact HW.out, HO.out, HGP.out, HSZ.out, HBR.out⟩
        case measure => simp [intOf]; omega
      · have hm1 : 1 ≤ m := by omega
        have hm2 : m < 16 := by omega
        have hct : (l.take k).count (m : Int) ≤ 1000000 := Nat.le_trans List.count_le_length (by rw [List.length_take]; omega)
        have hc1 := hW.cell m
        rw [tabV_many _ _ _ _ m hm1 hm2] at hc1
        have hf1 := hW.frozen m
        have hc2 := hW.cell 17
        rw [tabV_mx] at hc2
        have hf2 := hW.frozen 17
        have HSET := Lib.hid (tabV_hit (l.take k) A (pcnt l 15) c2 m hm1 hm2)
        have hmx := mx_nn (l.take k)
        have hmr : mxOf (l.take k) ≤ 15 := by
          rcases mx_mem (l.take k) with e | e
          · omega
          · exact (right_mem HRT.out (List.mem_of_mem_take e)).2
        rw [max_if'] at HSET
        generalize mxOf (l.take k) = x at hc2 HSET hmx hmr
        generalize (l.take k).count (m : Int) = cn at hc1 hct HSET
        have m0 : (0 : Int) ≤ (m : Int) := Int.natCast_nonneg _
        have m1 : (m : Int) < 16 := by omega
        have hm17 : m ≠ 17 := by omega
        have tp : decide (0 < m) = true := decide_eq_true (by omega)
        have tp2 : decide ((0 : Int) < (m : Int)) = true := decide_eq_true (by omega)
        clear hW hO hsz hbr e0
        go_wp2_with fail
        go_region
        go_wp2_with fail
        go_roundw
        case rel =>
          refine ⟨k + 1, by omega, by go_num, ?_, ?_, HGP.out, ?_, ((HBR.out.setCell (by show w.heap.size ≤ p; omega) _).setCell (by show w.heap.size ≤ p; omega) _).drew⟩
          · rw [HTK.out, ← HSET.out]
            exact ((HW.out.set_ m _).set_ 17 _).drew
          · exact own_fr HO.out ((((Fr.refl (fun k => k = p) wr).setCell (p := ⟨p, m, none⟩) (.inl rfl) _).setCell (p := ⟨p, 17, none⟩) (.inl rfl) _).drew) (fun g hg e => by have := HGP.out g hg; omega)
          · have := HSZ.out
            simpa [World.setCell, World.drew] using this
        case measure => simp [intOf]; omega
    · obtain rfl : k = l.length := by omega
      rw [List.take_length] at HW
      clear hW hO hsz hbr
      go_wp2_with fail
      go_ret2
      refine ⟨p, rfl, ⟨⟨A, c2, HW.out, HO.out, ?_⟩, hs2, by rw [HSZ.out]; omega⟩, HBR.out⟩
      intro g hg
      exact (HO.out.lt g hg).2
end Go.Proofs.YtdmmlpioaiammaaDoor
