/-
  token.Literals; the helpers of layer 14's laws.
-/
import Derived.Test.YtjfmaebgihlegaaTokExpand
import Derived.OwnWalk
namespace Go.Proofs.Ytjfmaebgihlegaa
open Go.RowKit

theorem tokInfo : (Try.prog.info? 36).map (fun i => (i.zero, i.size, i.bytes)) = some (some (.agg #[.int .u8 0, .int .i64 0, .int .i64 0]), 3, 24) := by kernel_rfl
theorem whole_of_own {w : World} {base : Nat} {e : TypeId} {size g n : Nat} {xs : List Value} (h : w.ownsRow base e size (.slice (some ⟨g, 0, none⟩) n n) n xs) : Whole w g e xs.toArray := by
  rcases h.2 with ⟨hv, _⟩ | ⟨g', cap, cur, hv, _, hh, _, _, hsz, ht⟩
  · cases hv
  · injection hv with hA _ hc
    injection hA with hA
    injection hA with hg
    subst hg hc
    have : cur = xs.toArray := by
      rw [← ht, List.take_of_length_le (by simp [hsz])]
    unfold Whole
    rw [← this]; exact hh
namespace Tok
def nought : TokV := ⟨0, 0, 0⟩
theorem made (n : Nat) : (madeCells (Value.agg #[.int .u8 0, .int .i64 0, .int .i64 0]).cells (n * 3)).toList = (List.replicate n nought).flatMap TokV.cells := by
  have hl : ∀ o ∈ List.replicate n nought, (TokV.cells o).length = 3 := fun _ _ => rfl
  apply List.ext_getElem?
  intro q
  by_cases hq : q < n * 3
  · have h1 : ((List.replicate n nought).flatMap TokV.cells)[3 * (q / 3) + q % 3]? = (TokV.cells nought)[q % 3]? := flat_at hl (by rw [List.getElem?_replicate, if_pos (by omega)]) (by omega)
    rw [show 3 * (q / 3) + q % 3 = q by omega] at h1
    rw [h1]
    have h3 : q % 3 = 0 ∨ q % 3 = 1 ∨ q % 3 = 2 := by omega
    simp only [madeCells, Array.toList_map, Array.toList_range, List.getElem?_map, List.getElem?_range hq, Option.map_some]
    have hz : (Value.agg #[.int .u8 0, .int .i64 0, .int .i64 0]).cells.size = 3 := rfl
    rw [hz]
    rcases h3 with h3 | h3 | h3 <;> rw [h3] <;> rfl
  · rw [List.getElem?_eq_none (by simp [madeCells]; omega), List.getElem?_eq_none (by rw [flat_length hl]; simp; omega)]
theorem set_lit (A R : List TokV) (t : TokV) (c : UInt8) : ((A ++ t :: R).flatMap TokV.cells).toArray.setIfInBounds (A.length * 3) (.int .u8 (c.toNat : Int)) = ((A ++ ⟨c, t.len, t.dist⟩ :: R).flatMap TokV.cells).toArray := by
  have e : A.length * 3 = (A.flatMap TokV.cells).length := by rw [toks_len]
  rw [e]
  apply Array.ext'
  simp [List.flatMap_append, TokV.cells]
def half (b : List UInt8) (j : Nat) : List TokV := lits (b.take j) ++ List.replicate (b.length - j) nought
theorem half_succ (b : List UInt8) (j : Nat) (hj : j < b.length) : ((half b j).flatMap TokV.cells).toArray.setIfInBounds (j * 3) (.int .u8 (b[j].toNat : Int)) = ((half b (j + 1)).flatMap TokV.cells).toArray := by
  unfold half
  rw [show b.length - j = (b.length - (j + 1)) + 1 by omega, List.replicate_succ]
  have hl : (lits (b.take j)).length = j := by simp [lits]; omega
  have h := set_lit (lits (b.take j)) (List.replicate (b.length - (j + 1)) nought) nought b[j]
  rw [hl] at h
  rw [h, List.take_succ_eq_append_getElem hj]
  congr 2
  simp only [lits, List.map_append, List.map_cons, List.map_nil, List.append_assoc, List.cons_append, List.nil_append]
  rfl
theorem half_at (b : List UInt8) (j : Nat) (hj : j < b.length) : ((half b j).flatMap TokV.cells).toArray[j * 3]? = some (.int .u8 0) := by
  have hl : ∀ o ∈ half b j, (TokV.cells o).length = 3 := fun _ _ => rfl
  have hn : (half b j)[j]? = some nought := by
    unfold half
    have hl : (lits (b.take j)).length = j := by simp [lits]; omega
    rw [List.getElem?_append_right (by omega), hl, List.getElem?_replicate, if_pos (by omega)]
  have h1 := flat_at (k := 3) hl hn (j := 0) (by omega)
  rw [List.getElem?_toArray, Nat.mul_comm]
  exact h1
theorem len_lits (b : List UInt8) : (lits b).length = b.length := by simp [lits]
end Tok

set_option maxHeartbeats 800000 in
theorem literals_any (b : List UInt8) (a : Option Addr) (c B : Nat) (w : World) (hb : b.length ≤ 1000000) (hsl : Sl w B a (bytesV b)) (hB : B ≤ w.heap.size) :
    Calls Try.prog 9 #[.slice a b.length c] w fun e w' => ∃ A c', e = .returned (.slice A b.length c') ∧ Sl w' w'.heap.size A ((Tok.lits b).flatMap TokV.cells) ∧ Below w.heap.size w w' := by
  have HC := Lib.hid hsl
  clear hsl
  obtain ⟨i0, hi0, hz0, hz1, hz2⟩ := info_parts tokInfo
  have Hi0 := Lib.hid hi0
  have Hz0 := Lib.hid hz0
  have Hz1 := Lib.hid hz1
  have Hz2 := Lib.hid (show i0.bytes * b.length ≤ 281474976710656 by rw [hz2]; omega)
  clear hi0 hz0 hz1 hz2
  go_enter Try.func9, Try.ntmps9
  go_wp2_with (at_make; refine wpList_make_full _ rfl _ _ _ rfl w.heap.size 36 i0 _ 3 Try.underlying23 Hi0.out Hz0.out Hz1.out .i64 .i64 _ _ b.length rfl rfl rfl rfl Hz2.out (by unfold maxLen; omega) (Nat.le_refl _) ?_; intro w1 hown1 hgrow1)
  have hw1 := whole_of_own hown1
  rw [Tok.made] at hw1
  have HW1 := Lib.hid (show Whole w1 w.heap.size 36 ((Tok.half b 0).flatMap TokV.cells).toArray by simpa [Tok.half, Tok.lits] using hw1)
  have HB1 := Lib.hid ((Below.refl w.heap.size w).grown hgrow1 (Nat.le_refl _) (fun k hk => by cases hk))
  clear hown1 hgrow1 hw1
  go_loopw [11] (fun i wr => ∃ j : Nat, j ≤ b.length ∧ i = .int .i64 j ∧ Whole wr w.heap.size 36 ((Tok.half b j).flatMap TokV.cells).toArray ∧ Below w.heap.size w wr) (fun i _ => b.length - (intOf i).toNat)
  case atStart => exact ⟨0, Nat.zero_le _, rfl, HW1.out, HB1.out⟩
  case round =>
    obtain ⟨j, hj, rfl, hwh, hbr⟩ := hrel
    by_cases hlt : j < b.length
    · obtain ⟨bb, oo, rfl, _, hcell⟩ := (HC.out.below hbr hB).byte hlt
      have HS := Lib.hid (Tok.half_succ b j hlt)
      have x0 := (hwh.cell (j * 3)).trans (Tok.half_at b j hlt)
      have x1 := hwh.frozen (j * 3)
      have HWH := Lib.hid hwh
      have HB := Lib.hid hbr
      clear hwh hbr
      generalize (b[j].toNat : Int) = x at hcell HS
      have k0 : (0 : Int) ≤ (j : Int) := Int.natCast_nonneg _
      have k1 : (j : Int) < (b.length : Int) := by omega
      go_wp2
      go_roundw
      case rel => exact ⟨j + 1, by omega, by go_num, by rw [← HS.out]; exact HWH.out.set_ _ _, HB.out.setCell (Nat.le_refl _) _⟩
      case measure => simp [intOf]; omega
    · obtain rfl : j = b.length := by omega
      have HS := Lib.hid (show Sl wr wr.heap.size (some ⟨w.heap.size, 0, none⟩) ((Tok.lits b).flatMap TokV.cells) from
        .inr ⟨w.heap.size, 0, rfl, hwh.lt, fun i u hu => by
          rw [Nat.zero_add, hwh.cell i, List.getElem?_toArray]
          simpa [Tok.half] using hu⟩)
      clear hwh
      go_wp2
      go_ret
      exact ⟨_, _, rfl, HS.out, hbr⟩

theorem few_any (n m : Nat) (a b : Option Addr) (c d : Nat) (w : World) :
    Calls Try.prog 7 #[.slice a n c, .slice b m d] w fun e w' => e = .returned (.bool (decide (n ≤ 1000) && decide (m ≤ 100))) ∧ w = w' := by
  by_cases h1 : n ≤ 1000
  · have t1 : decide ((n : Int) ≤ 1000) = true := by simp; omega
    have HT := Lib.hid (show decide (n ≤ 1000) = true by simpa using h1)
    by_cases h2 : m ≤ 100
    · have t2 : decide ((m : Int) ≤ 100) = true := by simp; omega
      have HT2 := Lib.hid (show decide (m ≤ 100) = true by simpa using h2)
      go_enter Try.func7, Try.ntmps7
      go_wp2
      go_ret
      exact ⟨by rw [HT.out, HT2.out]; rfl, rfl⟩
    · have t2 : decide ((m : Int) ≤ 100) = false := by simp; omega
      have HT2 := Lib.hid (show decide (m ≤ 100) = false by simpa using h2)
      go_enter Try.func7, Try.ntmps7
      go_wp2
      go_ret
      exact ⟨by rw [HT.out, HT2.out]; rfl, rfl⟩
  · have t1 : decide ((n : Int) ≤ 1000) = false := by simp; omega
    have HT := Lib.hid (show decide (n ≤ 1000) = false by simpa using h1)
    go_enter Try.func7, Try.ntmps7
    go_wp2
    go_ret
    exact ⟨by rw [HT.out]; rfl, rfl⟩

def waking : List TokV := [⟨97, 0, 0⟩, ⟨0, 3, 1⟩]
theorem waking_code : (Tok.go [] waking).1 = 0 := by decide
theorem waking_out : Tok.out [] waking = [97, 97, 97, 97] := by decide
set_option maxHeartbeats 400000 in
theorem awake14_any (w : World) : Calls Try.prog 6 #[] w fun e w' => e = .returned (.bool true) ∧ Below w.heap.size w w' := by
  go_enter Try.func6, Try.ntmps6
  go_wp2_with fail
  refine (expand_any [] waking none _ 0 2 (w.heap.size + 1) _ (by simp) (by decide) (by simp) Sl.nil (Sl.new_ w _ _ _) (by simp)).mono ?_
  rintro e w1 ⟨A, c, rfl, hs, _, hb⟩
  have r0 := run_str (P := Try.prog) w1 w1.heap.size 22 9 5 A _ c Try.underlying22 Try.underlying5 Try.underlying9 hs
  rw [waking_out, show ([97, 97, 97, 97] : List UInt8).length = 4 from rfl] at r0
  rw [waking_code, waking_out, show ([97, 97, 97, 97] : List UInt8).length = 4 from rfl, show ((0 : Nat) : Int) = 0 from rfl]
  have hs2 : strOf [97, 97, 97, 97] = ⟨#[97, 97, 97, 97]⟩ := rfl
  rw [hs2] at r0
  have HB := Lib.hid (((Below.refl w.heap.size w).alloc (Nat.le_refl _) _).trans (hb.mono (by simp)))
  clear hs hb hs2
  go_wp2_with fail
  go_ret
  exact ⟨rfl, HB.out⟩
end Go.Proofs.Ytjfmaebgihlegaa
