/-
  canon: Sorted.
-/
import Derived.Test.YtdmmlpioaiammaaDoorCodes
import Derived.Test.YtdmmlpioaiammaaDoorSortMath
namespace Go.Proofs.YtdmmlpioaiammaaDoor
open Go.RowKit

def up (l : List Nat) : List Int := l.map fun v : Nat => (v : Int)
theorem len_up (l : List Nat) : (up l).length = l.length := by simp [up]
theorem up_set (l : List Nat) (k v : Nat) : up (l.set k v) = (up l).set k (v : Int) := by simp [up, List.map_set]
theorem up_get (l : List Nat) (k v : Nat) (h : l[k]? = some v) : (up l)[k]? = some (v : Int) := by simp [up, h]
theorem ints_at {l : List Int} {k : Nat} {v : Int} (h : l[k]? = some v) : (intsV l).toArray[k]? = some (.int .i64 v) := by simp [intsV, h]
theorem ints_set (l : List Int) (k : Nat) (v : Int) : (intsV l).toArray.setIfInBounds k (.int .i64 v) = (intsV (l.set k v)).toArray := by simp [intsV, List.map_set]
theorem intInfoS : (Tryd.prog.info? 3).map (fun i => (i.zero, i.size, i.bytes)) = some (some (.int .i64 0), 1, 8) := by kernel_rfl
theorem len_atTo (l : List Int) (m : Nat) : (atTo l m).length = 17 := by simp [atTo]

/-- the arrays of Sorted: many at p, at at p + 1 -/
def SortRel (w : World) (p : Nat) (l : List Int) (n : Nat) (wr : World) : Prop :=
  Whole wr p 78 (intsV (tal l)).toArray ∧ Whole wr (p + 1) 92 (intsV (atTo l n)).toArray ∧ Below w.heap.size w wr
def SortRel2 (w : World) (p g : Nat) (l : List Int) (k : Nat) (wr : World) : Prop :=
  Whole wr (p + 1) 92 (intsV (atAt l (l.take k))).toArray ∧ Whole wr g 3 (intsV (up (srtTo l k))).toArray ∧ Below w.heap.size w wr

set_option maxHeartbeats 2000000 in
theorem sorted_any (l : List Int) (a : Option Addr) (c B : Nat) (w : World) (hl : l.length ≤ 1000000) (hs : Sl w B a (intsV l)) (hB : B ≤ w.heap.size) :
    Calls Tryd.prog 50 #[.slice a l.length c] w (Gives 3 (intsV (up (srt l 15))) w) := by
  have HS := Lib.hid hs
  have TA := Lib.hid (tally_any l a c B w hl hs hB)
  obtain ⟨i0, hi0, hz0, hz1, hz2⟩ := info_parts intInfoS
  have hpl := pcnt_len l 15
  have hmk := fun W => run_make_wh Tryd.underlying39 hi0 hz0 hz1 (by rw [hz2]; decide) rfl (pcnt l 15) (by omega) W
  clear hs hi0 hz0 hz1 hz2
  go_enter Tryd.func50, Tryd.ntmps50
  go_wp2_with fail
  (with_reducible refine TA.out.mono ?_)
  rintro e w2 ⟨rfl, hb2⟩
  have HB2 := Lib.hid hb2
  have hs2 := hb2.size
  obtain ⟨p, hp⟩ : ∃ p, p = w2.heap.size := ⟨_, rfl⟩
  rw [← hp] at hs2
  have HP := Lib.hid hp
  clear hb2 hp TA
  generalize rightB l = r
  go_wp2_with (refine wpList_store_wh2 (by rfl) 78 (.tmp 3) (.tmp 13) (by rfl) w2.heap.size (intsV (tal l)).toArray (by rfl) (by rfl) _ _ (Whole.new _ _ _) (by rw [size_ints _ 16 (len_tal l)]; kernel_rfl) (by rw [size_ints _ 16 (len_tal l)]; rfl) (ints_all1 _) ?_; intro w3 hw3 hf3 hz3; have HSZ3 : w3.heap.size = w2.heap.size + 1 := by { rw [hz3]; simp }; have HZ3 := Lib.hid HSZ3; clear HSZ3; have HW3 := Lib.hid hw3; have HB3 := Lib.hid ((HB2.out.alloc (by have := HP.out; omega) _).trans (hf3.below (B := w.heap.size) (by have := HP.out; simp; omega) (fun k hk e => by have := HP.out; omega))); clear hw3 hf3 hz3)
  have HW4 := Lib.hid (show SortRel w p l 1 (w3.alloc (.cells #[.int .i64 0, .int .i64 0, .int .i64 0, .int .i64 0, .int .i64 0, .int .i64 0, .int .i64 0, .int .i64 0, .int .i64 0, .int .i64 0, .int .i64 0, .int .i64 0, .int .i64 0, .int .i64 0, .int .i64 0, .int .i64 0, .int .i64 0] 92)) from by
    refine ⟨by rw [HP.out]; exact HW3.out.alloc _, ?_, HB3.out.alloc (by rw [HZ3.out, ← HP.out]; omega) _⟩
    have h := Whole.new w3 92 #[.int .i64 0, .int .i64 0, .int .i64 0, .int .i64 0, .int .i64 0, .int .i64 0, .int .i64 0, .int .i64 0, .int .i64 0, .int .i64 0, .int .i64 0, .int .i64 0, .int .i64 0, .int .i64 0, .int .i64 0, .int .i64 0, .int .i64 0]
    rw [HZ3.out, ← HP.out] at h
    rw [show atTo l 1 = [0, 0, 0, 0, 0, 0, 0, 0, 0, 0, 0, 0, 0, 0, 0, 0, 0] from rfl]
    exact h)
  rw [HZ3.out, ← HP.out]
  go_loopw [6] (fun i wr => ∃ n : Nat, 1 ≤ n ∧ n ≤ 16 ∧ i = .int .i64 (n : Int) ∧ SortRel w p l n wr) (fun i _ => 20 - (intOf i).toNat)
  case atStart => exact ⟨1, by omega, by omega, rfl, HW4.out⟩
  case round =>
    obtain ⟨n, hn1, hn2, rfl, hW, hN, hbr⟩ := hrel
    clear HW4 HW3 HB3 HB2
    have HW := Lib.hid hW
    have HN := Lib.hid hN
    have HBR := Lib.hid hbr
    by_cases hlt : n < 16
    · have hc1 := hW.cell n
      rw [ints_at (tal_get l n (by omega))] at hc1
      have hc2 := hN.cell n
      rw [ints_at (atTo_get l n n (by omega)), if_pos (Nat.le_refl _)] at hc2
      have hc3 := hN.cell (n + 1)
      rw [ints_at (atTo_get l n (n + 1) (by omega)), if_neg (by omega)] at hc3
      have hf3 := hN.frozen (n + 1)
      have hp1 := pcnt_len l (n - 1)
      have hp2 : l.count (n : Int) ≤ l.length := List.count_le_length
      have HPC := Lib.hid (show pcnt l n = pcnt l (n - 1) + l.count (n : Int) from by
        obtain ⟨j, rfl⟩ : ∃ j, n = j + 1 := ⟨n - 1, by omega⟩
        rfl)
      have HSET := Lib.hid (HN.out.drew.set_ (n + 1) (.int .i64 ((pcnt l n : Nat) : Int)))
      rw [ints_set, atTo_set l n (by omega)] at HSET
      generalize l.count (n : Int) = cn at hc1 hp2 HPC
      generalize pcnt l (n - 1) = q at hc2 hp1 HPC
      obtain ⟨q2, hq2⟩ : ∃ q2, q2 = pcnt l n := ⟨_, rfl⟩
      rw [← hq2] at HPC HSET
      clear hW hN hbr hq2 hmk
      have k0 : (0 : Int) ≤ (n : Int) := Int.natCast_nonneg _
      have k1 : (n : Int) < 17 := by omega
      have k2 : (n : Int) < 16 := by omega
      have k3 : (0 : Int) ≤ (n : Int) + 1 := by omega
      have k4 : (n : Int) + 1 < 17 := by omega
      have k5 : ((n : Int) + 1).toNat = n + 1 := by omega
      have k6 : decide ((n : Int) ≤ 15) = true := decide_eq_true (by omega)
      have v1 : IntKind.i64.wrap ((n : Int) + 1) = (n : Int) + 1 := by rw [IntWalk.i64_in _ (by omega)]
      go_wp2_with fail
      go_region
      go_wp2_with fail
      go_roundw
      case rel =>
        refine ⟨n + 1, by omega, by omega, by go_num, (HW.out.far (by show p ≠ p + 1; omega) _).drew, ?_, (HBR.out.setCell (by show w.heap.size ≤ p + 1; omega) _).drew⟩
        have h := HSET.out
        rw [HPC.out] at h
        exact h
      case measure => simp [intOf]; omega
    · obtain rfl : n = 16 := by omega
      obtain ⟨wo, hwo⟩ : ∃ wo : World, wo = wr := ⟨_, rfl⟩
      subst hwo
      obtain ⟨g, hg⟩ : ∃ g, g = wo.heap.size := ⟨_, rfl⟩
      have hgp := hN.lt
      rw [← hg] at hgp
      have HG := Lib.hid hg
      have hc16 := hN.cell 16
      rw [ints_at (atTo_get l 16 16 (by omega)), if_pos (Nat.le_refl _), show (16 - 1 : Nat) = 15 from rfl] at hc16
      have HR2 := Lib.hid (show SortRel2 w p g l 0 (wo.alloc (.cells (List.replicate (pcnt l 15) (Value.int .i64 0)).toArray 3)) from by
        refine ⟨?_, ?_, HBR.out.alloc (by rw [← HG.out]; omega) _⟩
        · rw [List.take_zero, ← atAt_nil]; exact HN.out.alloc _
        · rw [HG.out, srtTo_zero]
          have h := Whole.new wo 3 (List.replicate (pcnt l 15) (Value.int .i64 0)).toArray
          simpa [up, intsV] using h)
      obtain ⟨T, hT⟩ : ∃ T, T = pcnt l 15 := ⟨_, rfl⟩
      rw [← hT] at hc16 hmk hpl HR2
      have HT := Lib.hid hT
      clear hW hN hbr hg HW HN hT
      rw [show ((16 : Nat) : Int) = 16 from rfl]
      go_wp2_with fail
      rw [← HG.out]
      clear hc16
      go_loopw [34] (fun i wr => ∃ k : Nat, k ≤ l.length ∧ i = .int .i64 (k : Int) ∧ SortRel2 w p g l k wr) (fun i _ => l.length - (intOf i).toNat)
      case atStart => exact ⟨0, by omega, rfl, HR2.out⟩
      case round =>
        obtain ⟨k, hk, rfl, hN, hC, hbr⟩ := hrel
        clear HR2 hmk
        have HN := Lib.hid hN
        have HC := Lib.hid hC
        have HBR := Lib.hid hbr
        by_cases hlt : k < l.length
        · obtain ⟨b, off, rfl, _, hcell⟩ := (HS.out.below hbr hB).int hlt
          have k0 : (0 : Int) ≤ (k : Int) := Int.natCast_nonneg _
          have k1 : (k : Int) < (l.length : Int) := by omega
          have HTK := Lib.hid (show l.take (k + 1) = l.take k ++ [l[k]] from List.take_succ_eq_append_getElem hlt)
          have hgd := getD_of hlt
          by_cases hx : 1 ≤ l[k] ∧ l[k] ≤ 15
          · obtain ⟨m, hm⟩ := Int.eq_ofNat_of_zero_le (show 0 ≤ l[k] by omega)
            have hm1 : 1 ≤ m := by omega
            have hm2 : m ≤ 15 := by omega
            have hgm : l.getD k 0 = (m : Int) := hgd.trans hm
            rw [hm] at hcell HTK
            have hrk := rank_lt l m k hlt hgm hm1 hm2
            unfold rank at hrk
            rw [hgm, Int.toNat_natCast, ← HT.out] at hrk
            have hcm := hN.cell m
            have hfm := hN.frozen m
            rw [ints_at (atAt_get l _ m hm1 (by omega))] at hcm
            have HSETN := Lib.hid (atAt_snoc l (l.take k) m m rfl hm1 (by omega))
            have HSETC := Lib.hid (srtTo_set l k m hlt hgm hm1 hm2)
            obtain ⟨q, hq⟩ : ∃ q, q = pcnt l (m - 1) + (l.take k).count (m : Int) := ⟨_, rfl⟩
            rw [← hq] at hcm hrk HSETN HSETC
            have hck := hC.cell q
            have hfk := hC.frozen q
            rw [ints_at (up_get _ _ _ (srtTo_get l k q (by rw [← HT.out]; exact hrk)))] at hck
            generalize (if (srt l 15).getD q 0 < k then (srt l 15).getD q 0 else 0) = old at hck
            have m0 : (0 : Int) ≤ (m : Int) := Int.natCast_nonneg _
            have m1 : (m : Int) < 17 := by omega
            have q0 : (0 : Int) ≤ (q : Int) := Int.natCast_nonneg _
            have q1 : (q : Int) < (T : Int) := by omega
            have t1 : decide ((1 : Int) ≤ (m : Int)) = true := decide_eq_true (by omega)
            have t2 : decide ((m : Int) ≤ 15) = true := decide_eq_true (by omega)
            have t3 : (1 : Int) ≤ (m : Int) := by omega
            have hgne : g ≠ p + 1 := by omega
            clear hN hC hbr hm hq hx hgm hgd
            go_wp2_with fail
            go_roundw
            case rel =>
              refine ⟨k + 1, by omega, by go_num, ?_, ?_, (HBR.out.setCell (by show w.heap.size ≤ g; omega) _).setCell (by show w.heap.size ≤ p + 1; omega) _⟩
              · rw [HTK.out, ← HSETN.out, ← ints_set]
                have h := (HN.out.far (q := ⟨g, q, none⟩) (by show p + 1 ≠ g; omega) (.int .i64 (k : Int))).set_ m (.int .i64 ((q + 1 : Nat) : Int))
                simpa using h
              · rw [← HSETC.out, up_set, ← ints_set]
                exact (HC.out.set_ q (.int .i64 (k : Int))).far (q := ⟨p + 1, m, none⟩) (by show g ≠ p + 1; omega) _
            case measure => simp [intOf]; omega
          · have HX := Lib.hid (show l[k] < 1 ∨ 15 < l[k] by omega)
            have HSK := Lib.hid (srtTo_skip l k (by rw [hgd]; exact HX.out))
            have HNK := Lib.hid (atAt_skip l (l.take k) l[k] HX.out)
            have hX := HX.out
            generalize l[k] = x at hcell HTK hx hX HNK
            clear HX hgd hx hN hC hbr
            by_cases hx1 : 1 ≤ x
            · have t1 : decide ((1 : Int) ≤ x) = true := decide_eq_true hx1
              have t2 : decide (x ≤ 15) = false := decide_eq_false (by omega)
              clear hX
              go_wp2_with fail
              go_roundw
              case rel => exact ⟨k + 1, by omega, by go_num, by rw [HTK.out, HNK.out]; exact HN.out, by rw [HSK.out]; exact HC.out, HBR.out⟩
              case measure => simp [intOf]; omega
            · have t1 : decide ((1 : Int) ≤ x) = false := decide_eq_false hx1
              clear hX
              go_wp2_with fail
              go_roundw
              case rel => exact ⟨k + 1, by omega, by go_num, by rw [HTK.out, HNK.out]; exact HN.out, by rw [HSK.out]; exact HC.out, HBR.out⟩
              case measure => simp [intOf]; omega
        · obtain rfl : k = l.length := by omega
          clear hN hC hbr
          go_wp2_with fail
          go_ret
          have h := HC.out
          rw [srtTo_all] at h
          have hlen : (intsV (up (srt l 15))).length = T := by rw [len_intsV, len_up, len_srt, HT.out]
          exact gives_mk hlen rfl (own_of_wh h (by omega) hlen (by unfold maxLen; omega)) HBR.out
end Go.Proofs.YtdmmlpioaiammaaDoor
