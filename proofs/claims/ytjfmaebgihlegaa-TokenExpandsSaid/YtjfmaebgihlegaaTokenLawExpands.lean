/-
  The law TokenExpands returns true: walk.
-/
import Derived.Test.YtjfmaebgihlegaaTokRefExpand
import Derived.Test.YtjfmaebgihlegaaTokenLawJoins
namespace Go.Proofs.Ytjfmaebgihlegaa
open Go.RowKit

set_option maxRecDepth 100000 in
set_option maxHeartbeats 4000000 in
theorem tokenExpands_walk (a : Option Addr) (k : List UInt8) (c : Nat) (b1 : Option Addr) (l : List TokV) (c1 : Nat) (w : World)
    (_h1 : k.length ≤ maxLen) (hkc : k.length ≤ c) (hsk : Sl w w.heap.size a (bytesV k)) (_h2 : l.length ≤ maxLen) (_h3 : l.length ≤ c1) (_hl : ∀ o ∈ l, o.ok) (hsl : Sl w w.heap.size b1 (l.flatMap TokV.cells)) :
    Calls Try.prog 4 #[.slice a k.length c, .slice b1 l.length c1] w fun e w' => e = .returned (.bool true) ∧ Below w.heap.size w w' := by
  have HK := Lib.hid hsk
  have HL := Lib.hid hsl
  clear hsk hsl _h1 _h2 _h3 _hl
  have FW1 := Lib.hid (fun W => few_any k.length l.length a b1 c c1 W)
  by_cases f1 : k.length ≤ 1000 ∧ l.length ≤ 100
  case neg =>
    have FN := Lib.hid (few_none f1)
    clear f1
    go_enter Try.func4, Try.ntmps4
    go_wp2_with fail
    refine (awake14_any w).mono ?_
    rintro e w1 ⟨rfl, hb1⟩
    go_wp2_with fail
    refine (FW1.out _).mono ?_
    rintro e w2 ⟨rfl, rfl⟩
    rw [FN.out]
    go_wp2_with fail
    go_ret
    exact ⟨rfl, hb1⟩
  have FN1 := Lib.hid (few_both f1.1 f1.2)
  obtain ⟨hk1, hl1⟩ := f1
  go_enter Try.func4, Try.ntmps4
  go_wp2_with fail
  refine (awake14_any w).mono ?_
  rintro e w1 ⟨rfl, hb1⟩
  have HB1 := Lib.hid hb1
  clear hb1
  go_wp2_with fail
  refine (FW1.out _).mono ?_
  rintro e w2 ⟨rfl, rfl⟩
  rw [FN1.out]
  clear FW1 FN1
  go_wp2_with fail
  (with_reducible refine (refs_any l b1 c1 w.heap.size w1 (by omega) (HL.out.below HB1.out (Nat.le_refl _)) HB1.out.size).mono ?_)
  rintro e w2 ⟨A2, d2, rfl, hown2, hb2⟩
  have HB2 := Lib.hid (HB1.out.trans (hb2.mono HB1.out.size))
  have HO2 := Lib.hid (own_base hown2 HB1.out.size)
  clear hown2 hb2
  go_wp2_with fail
  go_loopw [5, 7] (fun n i wr => ∃ j : Nat, j ≤ l.length ∧ i = .int .i64 j ∧ n = .int .i64 ((Tok.sizes (l.take j) : Nat) : Int) ∧ wr.ownsRow w.heap.size 35 3 (.slice A2 l.length d2) l.length (l.flatMap TokV.cells) ∧ Below w.heap.size w wr) (fun _ i _ => l.length - (intOf i).toNat)
  case atStart => exact ⟨0, Nat.zero_le _, rfl, rfl, HO2.out, HB2.out⟩
  case round =>
    obtain ⟨j, hj, rfl, rfl, hown, hbr⟩ := hrel
    have hbs := hbr.size
    have HO := Lib.hid hown
    have HB := Lib.hid hbr
    clear hown hbr
    by_cases hlt : j < l.length
    · have hx := List.getElem?_eq_getElem hlt
      obtain ⟨b2, off, rfl, hbB, q0, q1, q2⟩ := toks_at (HL.out.below HB.out (Nat.le_refl _)) hx
      obtain ⟨g2, off2, rfl, hgB, p0, p1, p2⟩ := toks_at (Sl.of_ownN HO.out) hx
      have HS := Lib.hid (show Tok.sizes (l.take (j + 1)) = Tok.sizes (l.take j) + Tok.size l[j] by
        rw [List.take_succ_eq_append_getElem hlt]
        unfold Tok.sizes
        rw [List.map_append, List.sum_append, List.map_cons, List.map_nil, List.sum_cons, List.sum_nil, Nat.add_zero])
      have hz1 := Tok.sizes_le (l.take j)
      have hz2 : (l.take j).length ≤ j := List.length_take_le _ _
      have hz3 := Tok.size_le l[j]
      generalize l[j] = t at HS q0 q1 q2 p0 p1 p2 hz3
      generalize Tok.sizes (l.take j) = sz at HS hz1 ⊢
      obtain ⟨lit, len, dist⟩ := t
      simp only [] at q0 q1 q2 p0 p1 p2
      have HZ := fun W => Lib.hid (size_any lit len dist W)
      have HZ2 := fun W => Lib.hid (refSize_any lit len dist W)
      have HR := fun W => Lib.hid (right_any lit len dist W)
      have HR2 := fun W => Lib.hid (refRight_any lit len dist W)
      generalize (lit.toNat : Int) = x at q0 p0 HZ HZ2 HR HR2
      generalize Tok.size ⟨lit, len, dist⟩ = z at HZ HZ2 HS hz3
      generalize Tok.right ⟨lit, len, dist⟩ = rt at HR HR2
      clear hx
      have hb2w : b2 < wr.heap.size := by omega
      have k0 : (0 : Int) ≤ (j : Int) := Int.natCast_nonneg _
      have k1 : (j : Int) < (l.length : Int) := by omega
      go_wp2_with fail
      (with_reducible refine (HZ2 _).out.mono ?_)
      rintro e w3 ⟨rfl, hb3⟩
      have KC := Lib.hid (fun (W : World) (hb : Below w3.heap.size w3 W) => (show W.cell? ⟨b2, off + j * 3, none⟩ = some (.int .u8 x) ∧ W.cell? ⟨b2, off + j * 3 + 1, none⟩ = some (.int .i64 len) ∧ W.cell? ⟨b2, off + j * 3 + 2, none⟩ = some (.int .i64 dist) ∧ W.cell? ⟨g2, off2 + j * 3, none⟩ = some (.int .u8 x) ∧ W.cell? ⟨g2, off2 + j * 3 + 1, none⟩ = some (.int .i64 len) ∧ W.cell? ⟨g2, off2 + j * 3 + 2, none⟩ = some (.int .i64 dist) from
        have hs := hb3.size
        have h3 := fun (p : Addr) (hp : p.block < wr.heap.size) => ((hb.cell (p := p) (by omega)).trans (hb3.cell (p := p) hp))
        ⟨(h3 ⟨b2, off + j * 3, none⟩ hb2w).trans q0, (h3 ⟨b2, off + j * 3 + 1, none⟩ hb2w).trans q1, (h3 ⟨b2, off + j * 3 + 2, none⟩ hb2w).trans q2, (h3 ⟨g2, off2 + j * 3, none⟩ hgB).trans p0, (h3 ⟨g2, off2 + j * 3 + 1, none⟩ hgB).trans p1, (h3 ⟨g2, off2 + j * 3 + 2, none⟩ hgB).trans p2⟩))
      have HB3 := Lib.hid (HB.out.trans (hb3.mono hbs))
      have HO3 := Lib.hid (own_fr HO.out (Fr.of_below hb3 (fun _ => False)) (fun _ _ => id))
      have hs3 := HB3.out.size
      have B1 := Lib.hid (show Below w3.heap.size w3 w3.drew from below_drewN (Below.refl w3.heap.size w3) 1)
      clear hb3 q0 q1 q2 p0 p1 p2
      obtain ⟨q0, q1, q2, p0, p1, p2⟩ := KC.out _ (Below.refl _ _)
      go_wp2_with fail
      go_region_held3 (fun W => W.cell? ⟨b2, off + j * 3, none⟩ = some (.int .u8 x) ∧ W.cell? ⟨b2, off + j * 3 + 1, none⟩ = some (.int .i64 len) ∧ W.cell? ⟨b2, off + j * 3 + 2, none⟩ = some (.int .i64 dist) ∧ W.cell? ⟨g2, off2 + j * 3, none⟩ = some (.int .u8 x) ∧ W.cell? ⟨g2, off2 + j * 3 + 1, none⟩ = some (.int .i64 len) ∧ W.cell? ⟨g2, off2 + j * 3 + 2, none⟩ = some (.int .i64 dist))
        (first | exact KC.out _ BX.out | exact KC.out _ B1.out)
        (first
          | ((go_at_call 12; (with_reducible refine (HR _).out.mono ?_); rintro e w4 ⟨rfl, hb4⟩; have BX := Lib.hid (B1.out.trans (hb4.mono B1.out.size))))
          | ((go_at_call 13; (with_reducible refine (HR2 _).out.mono ?_); rintro e w5 ⟨rfl, hb5⟩; have BX := Lib.hid (BX.out.trans (hb5.mono BX.out.size))))
          | ((go_at_call 14; (with_reducible refine (HZ _).out.mono ?_); rintro e w6 ⟨rfl, hb6⟩; have BX := Lib.hid (BX.out.trans (hb6.mono BX.out.size))))
          | ((go_at_call 11; (with_reducible refine (HZ2 _).out.mono ?_); rintro e w7 ⟨rfl, hb7⟩; have BX := Lib.hid (BX.out.trans (hb7.mono BX.out.size)))))
      have HB9 := Lib.hid (HB3.out.trans (BX.out.mono hs3))
      have HO9 := Lib.hid (own_fr HO3.out (Fr.of_below BX.out (fun _ => False)) (fun _ _ => id))
      clear hb4 hb5 hb6 hb7 BX
      go_wp2_with fail
      go_roundw
      case rel => exact ⟨j + 1, by omega, by go_num, by rw [HS.out]; go_num, HO9.out, HB9.out⟩
      case measure => simp [intOf]; omega
    · obtain rfl : j = l.length := by omega
      rw [List.take_length]
      have EX := Lib.hid (expand_any k l a b1 c c1 w.heap.size wr (by omega) (by omega) hkc (HK.out.below HB.out (Nat.le_refl _)) (HL.out.below HB.out (Nat.le_refl _)) hbs)
      have hsz := fun h => Tok.out_size (k := k) (l := l) h
      generalize hoo : Tok.out k l = oo at hsz
      generalize hcc : (Tok.go k l).1 = cc at hsz
      have HOO := Lib.hid hoo
      have HCC := Lib.hid hcc
      clear hoo hcc
      go_wp2_with fail
      (with_reducible refine EX.out.mono ?_)
      intro e w3 hE
      obtain ⟨A3, d3, rfl, hs3, -, hb3⟩ := expand_read HOO.out HCC.out hE
      have HB3 := Lib.hid (HB.out.trans (hb3.mono hbs))
      have HO3 := Lib.hid (own_fr HO.out (Fr.of_below hb3 (fun _ => False)) (fun _ _ => id))
      have h3 := HB3.out.size
      have RX := Lib.hid (refExpand_any k l a A2 c d2 w3.heap.size w3 (by omega) (by omega) ((HK.out.below HB3.out (Nat.le_refl _)).more h3) (Sl.of_ownN HO3.out) (Nat.le_refl _))
      have HS3 := Lib.hid hs3
      clear hE hs3 hb3 EX
      go_wp2_with fail
      (with_reducible refine RX.out.mono ?_)
      intro e w4 hE
      obtain ⟨A4, d4, rfl, hs4, -, hb4⟩ := expand_read HOO.out HCC.out hE
      have HB4 := Lib.hid (HB3.out.trans (hb4.mono h3))
      have h4 := HB4.out.size
      have SZ := Lib.hid (sizes_any l b1 c1 w.heap.size w4 (by omega) (HL.out.below HB4.out (Nat.le_refl _)) h4)
      have HS4 := Lib.hid hs4
      have HS34 := Lib.hid (HS3.out.below hb4 (Nat.le_refl _))
      have hs34 := hb4.size
      clear hE hs4 hb4 RX HS3
      go_wp2_with fail
      (with_reducible refine SZ.out.mono ?_)
      rintro e w5 ⟨rfl, hb5⟩
      have HB5 := Lib.hid (HB4.out.trans (hb5.mono h4))
      have r3 := run_str (P := Try.prog) w5 w3.heap.size 22 9 5 A3 oo d3 Try.underlying22 Try.underlying5 Try.underlying9 (HS34.out.below hb5 hs34)
      have r4 := run_str (P := Try.prog) w5 w4.heap.size 22 9 5 A4 oo d4 Try.underlying22 Try.underlying5 Try.underlying9 (HS4.out.below hb5 (Nat.le_refl _))
      clear hb5 SZ
      by_cases hc0 : cc = 0
      · subst hc0
        have hl2 := hsz rfl
        rw [show ((0 : Nat) : Int) = 0 from rfl, ← hl2]
        clear hsz hl2
        go_wp2_with fail
        go_ret
        exact ⟨rfl, HB5.out⟩
      · have tn : ((cc : Int) != 0) = true := by simp; omega
        clear hsz
        go_wp2_with fail
        go_ret
        exact ⟨rfl, HB5.out⟩
end Go.Proofs.Ytjfmaebgihlegaa
