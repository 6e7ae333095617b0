/-
  The reference's Expand of layer 14.
-/
import Derived.Test.YtjfmaebgihlegaaDoorTokRefs
namespace Go.Proofs.YtjfmaebgihlegaaDoor
open Go.RowKit

set_option maxRecDepth 100000 in
set_option maxHeartbeats 2000000 in
theorem refExpand_any (k : List UInt8) (l : List TokV) (a b : Option Addr) (c d B : Nat) (w : World) (hk : k.length ≤ 1000000) (hl : l.length ≤ 1000000) (hsl : Sl w B a (bytesV k)) (htl : Sl w B b (l.flatMap TokV.cells)) (hB : B ≤ w.heap.size) :
    Calls Tryd.prog 12 #[.slice a k.length c, .slice b l.length d] w (ExpandPost k l w) := by
  have HT := Lib.hid htl
  have HC := Lib.hid hsl
  clear htl hsl
  obtain ⟨i0, hi0, hz0, hz1, hz2⟩ := info_parts byteInfoC
  have HQ := Lib.hid (fun (A : Option Addr) (n cp : Nat) (hn : k.length ≤ n) => run_slice_from Tryd.underlying22 hi0 hz1 A n cp k.length hn)
  have Hi0 := Lib.hid hi0
  have Hz0 := Lib.hid hz0
  have Hz1 := Lib.hid hz1
  have Hz2 := Lib.hid hz2
  clear hi0 hz0 hz1 hz2
  go_enter Tryd.func12, Tryd.ntmps12
  go_wp2_with (at_builtin; refine wpList_append_sl _ rfl _ _ _ rfl w.heap.size 5 i0 _ 1 Tryd.underlying22 Hi0.out Hz0.out Hz1.out Hz2.out rfl _ 0 [] rfl (World.ownsRow_lit w #[] 0 (Nat.le_refl _) (by decide) rfl) B a k.length c (bytesV k) (len_bytesV k) rfl (HC.out.alloc hB _) (bytes_oneCell k) (by unfold maxLen; omega) (by omega) (by simp) ?_; intro v1 w1 hown1 hgrow1 hat1; have HB1 := Lib.hid (own_below (World.ownsRow_lit (base := w.heap.size) (e := 5) (size := 1) w #[] 0 (Nat.le_refl _) (by decide) rfl) hgrow1 (Nat.le_refl _) (by simp) ((Below.refl _ _).alloc (Nat.le_refl _) _)); rw [Nat.zero_add, List.nil_append] at hown1; have HO1 := Lib.hid hown1; clear hown1 hgrow1 hat1)
  go_loopw [6, 7] (fun kv i wr => ∃ (j : Nat) (q : List UInt8), j ≤ l.length ∧ i = .int .i64 j ∧ wr.ownsRow w.heap.size 5 1 kv q.length (bytesV q) ∧ Tok.go k l = Tok.go q (l.drop j) ∧ k.length ≤ q.length ∧ q.length ≤ k.length + 258 * j ∧ Below w.heap.size w wr) (fun _ i _ => l.length - (intOf i).toNat)
  case atStart => exact ⟨0, k, Nat.zero_le _, rfl, HO1.out, by simp, by omega, by omega, HB1.out⟩
  case round =>
    obtain ⟨j, q, hj, rfl, hown, hgo, hq1, hq2, hbr⟩ := hrel
    obtain ⟨A, cc, rfl⟩ := own_form hown
    have HO := Lib.hid hown
    have HG := Lib.hid hgo
    have HB := Lib.hid hbr
    have hbs := hbr.size
    clear hown hgo hbr
    by_cases hlt : j < l.length
    · have hdr : l.drop j = l[j] :: l.drop (j + 1) := List.drop_eq_getElem_cons hlt
      obtain ⟨b1, off, rfl, hbB, q0, q1, q2⟩ := toks_at (HT.out.below HB.out hB) (List.getElem?_eq_getElem hlt)
      generalize l[j] = t at hdr q0 q1 q2
      obtain ⟨lit, len, dist⟩ := t
      rw [hdr] at HG
      clear hdr
      simp only [] at q0 q1 q2
      have HR := Lib.hid (refRight_any lit len dist wr)
      have h0 : 0 ≤ (j : Int) := Int.natCast_nonneg _
      have h1 : (j : Int) < (l.length : Int) := by omega
      cases hrt : Tok.right ⟨lit, len, dist⟩ with
      | false =>
        rw [hrt] at HR
        have HE := Lib.hid (HG.out.trans (Tok.go_no hrt))
        clear hrt
        generalize (lit.toNat : Int) = x at q0 HR
        go_wp2_with fail
        (with_reducible refine HR.out.mono ?_)
        rintro e w2 ⟨rfl, hb2⟩
        have HB2 := Lib.hid (HB.out.trans (hb2.mono hbs))
        clear hb2
        go_wp2_with fail
        go_ret2
        exact expand_err (n := 1) (by omega) HE.out HB2.out
      | true =>
        rw [hrt] at HR
        have HRT := Lib.hid hrt
        clear hrt
        have HCE := Lib.hid (fun (w2 : World) (hb2 : Below wr.heap.size wr w2) => (show w2.cell? ⟨b1, off + j * 3, none⟩ = some (.int .u8 (lit.toNat : Int)) ∧ w2.cell? ⟨b1, off + j * 3 + 1, none⟩ = some (.int .i64 len) ∧ w2.cell? ⟨b1, off + j * 3 + 2, none⟩ = some (.int .i64 dist) from
          ⟨(hb2.cell (p := ⟨b1, off + j * 3, none⟩) (show b1 < _ by omega)).trans q0, (hb2.cell (p := ⟨b1, off + j * 3 + 1, none⟩) (show b1 < _ by omega)).trans q1, (hb2.cell (p := ⟨b1, off + j * 3 + 2, none⟩) (show b1 < _ by omega)).trans q2⟩))
        by_cases hlen : len = 0
        · subst hlen
          have HE := Lib.hid (HG.out.trans (Tok.go_lit HRT.out rfl))
          have HSN := Lib.hid (bytes_snoc q lit)
          generalize (lit.toNat : Int) = x at q0 HR HSN HCE
          go_wp2_with fail
          (with_reducible refine HR.out.mono ?_)
          rintro e w2 ⟨rfl, hb2⟩
          obtain ⟨d0, d1, d2⟩ := HCE.out w2 hb2
          have HB2 := Lib.hid (HB.out.trans (hb2.mono hbs))
          have hown2 := own_fr HO.out (Fr.of_below hb2 (fun _ => False)) (fun _ _ => id)
          have hbs2 := HB2.out.size
          clear hb2
          go_wp2_with (at_builtin; refine wpList_append_lies _ rfl _ _ _ rfl w.heap.size 5 i0 _ 1 1 Tryd.underlying22 Hi0.out Hz0.out Hz1.out Hz2.out rfl (by omega) _ q.length (bytesV q) rfl (hown2.alloc _) ⟨w2.heap.size, 0, none⟩ 1 1 [.int .u8 x] rfl rfl (World.news_of_block (cs := #[.int .u8 x]) (t := 5) (fr := (0, 0)) (heap_alloc_new w2 _)) (by simp [Value.oneCell']) (by omega) (by unfold maxLen; omega) (by omega) (by simp; omega) (w2.heap.size + 1) (by simp) ?_; intro gg cap ww hown3 hgrow hat hlt1)
          have HO3 := Lib.hid (show ww.ownsRow w.heap.size 5 1 (.slice (some ⟨gg, 0, none⟩) (q.length + 1) cap) (q ++ [lit]).length (bytesV (q ++ [lit])) by
            rw [HSN.out, List.length_append]; exact hown3)
          have HB3 := Lib.hid (own_below (hown2.alloc _) hgrow (Nat.le_refl _) (by simp; omega) (HB2.out.alloc hbs2 _))
          clear hown3 hgrow hown2
          go_wp2
          go_roundw
          case rel => exact ⟨j + 1, q ++ [lit], by omega, by go_num, HO3.out, HE.out, by simp; omega, by simp; omega, HB3.out⟩
          case measure => simp [intOf]; omega
        · have tl : (len == 0) = false := by simpa using hlen
          have hrl := Tok.right_len HRT.out hlen
          simp only [] at hrl
          obtain ⟨r1, r2, r3, r4, r5⟩ := hrl
          clear r5
          obtain ⟨n, rfl⟩ := Int.eq_ofNat_of_zero_le (show 0 ≤ len by omega)
          obtain ⟨dd, rfl⟩ := Int.eq_ofNat_of_zero_le (show 0 ≤ dist by omega)
          by_cases hfar : q.length < dd
          · have HE := Lib.hid (HG.out.trans (Tok.go_far HRT.out hlen (by simp only []; omega)))
            generalize (lit.toNat : Int) = x at q0 HR HCE
            clear hlen
            have tf : decide ((q.length : Int) < (dd : Int)) = true := by simp; omega
            have tf2 : decide (q.length < dd) = true := by simp; omega
            go_wp2_with fail
            (with_reducible refine HR.out.mono ?_)
            rintro e w2 ⟨rfl, hb2⟩
            obtain ⟨d0, d1, d2⟩ := HCE.out w2 hb2
            have HB2 := Lib.hid (HB.out.trans (hb2.mono hbs))
            clear hb2
            go_wp2_with fail
            go_ret2
            exact expand_err (n := 27) (by omega) HE.out HB2.out
          · have HE := Lib.hid (HG.out.trans (Tok.go_copy HRT.out hlen (by simp only []; omega)))
            rw [show (Int.toNat (dd : Int)) = dd from rfl, show (Int.toNat (n : Int)) = n from rfl] at HE
            have HLN := Lib.hid (Tok.length_copyN q dd)
            generalize (lit.toNat : Int) = x at q0 HR HCE
            clear hlen
            have tf : decide ((q.length : Int) < (dd : Int)) = false := by simp; omega
            have tf2 : decide (q.length < dd) = false := by simp; omega
            go_wp2_with fail
            (with_reducible refine HR.out.mono ?_)
            rintro e w2 ⟨rfl, hb2⟩
            obtain ⟨d0, d1, d2⟩ := HCE.out w2 hb2
            have HB2 := Lib.hid (HB.out.trans (hb2.mono hbs))
            have HO2 := Lib.hid (own_fr HO.out (Fr.of_below hb2 (fun _ => False)) (fun _ _ => id))
            have hbs2 := HB2.out.size
            have CP := Lib.hid (refCopy_any q dd n A cc w2.heap.size w2.drew (by omega) (by omega) (by omega) (by omega) (Sl.of_own HO2.out).drew (Nat.le_refl _))
            clear hb2
            go_wp2_with fail
            have hb1w : b1 < w2.heap.size := by omega
            go_region_held3 (fun W => W.cell? ⟨b1, off + j * 3 + 1, none⟩ = some (.int .i64 (n : Int)) ∧ W.cell? ⟨b1, off + j * 3 + 2, none⟩ = some (.int .i64 (dd : Int)))
              (first | exact ⟨d1, d2⟩ | exact ⟨(hb3.cell (p := ⟨b1, off + j * 3 + 1, none⟩) hb1w).trans d1, (hb3.cell (p := ⟨b1, off + j * 3 + 2, none⟩) hb1w).trans d2⟩)
              ((go_at_call 20; (with_reducible refine CP.out.mono ?_); rintro e w3 ⟨A3, c3, A4, c4, rfl, hown3, -, hb3⟩))
            have hlm := HLN.out n
            have HO3 := Lib.hid (show w3.ownsRow w.heap.size 5 1 (.slice A3 (q.length + n) c3) (Tok.copyN q dd n).length (bytesV (Tok.copyN q dd n)) by rw [hlm]; exact own_base hown3 hbs2)
            have HB3 := Lib.hid ((show Below w.heap.size w w2.drew from below_drewN HB2.out 1).trans (hb3.mono hbs2))
            clear hown3 hb3 hlm CP
            go_wp2_with fail
            go_roundw
            case rel => exact ⟨j + 1, Tok.copyN q dd n, by omega, by go_num, HO3.out, HE.out, by rw [HLN.out]; omega, by rw [HLN.out]; omega, HB3.out⟩
            case measure => simp [intOf]; omega
    · obtain rfl : j = l.length := by omega
      have hg : Tok.go k l = (0, q) := by rw [HG.out, List.drop_length]; rfl
      have hout : Tok.out k l = q.drop k.length := by simp [Tok.out, hg]
      have hqc := own_cap HO.out
      have hq3 := HQ.out A q.length cc hq1
      have HS := Lib.hid ((Sl.of_own HO.out).rest cc k.length (by rw [len_bytesV]; exact hqc))
      have HOU := Lib.hid hout
      have HC := Lib.hid (show (Tok.go k l).1 = 0 by rw [hg])
      clear hg hout
      generalize restAt A cc k.length = a2 at hq3 HS
      go_wp2_with fail
      go_ret2
      refine ⟨a2, cc - k.length, by rw [HC.out, HOU.out, List.length_drop]; rfl, ?_, by rw [HOU.out, List.length_drop]; omega, HB.out⟩
      rw [HOU.out]
      have h := HS.out
      simpa [bytesV, List.map_drop] using h
end Go.Proofs.YtjfmaebgihlegaaDoor
