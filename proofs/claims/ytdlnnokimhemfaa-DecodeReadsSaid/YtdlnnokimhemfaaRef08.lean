/-
  The document's Sorted, Codes and Kind of layer 8.
-/
import Derived.Test.YtdlnnokimhemfaaRefMath08
import Derived.Test.YtdlnnokimhemfaaRef06
namespace Go.Proofs.Ytdlnnokimhemfaa
open Go.RowKit

def RSRel (w : World) (l : List Int) (n k : Nat) (v : Value) (wr : World) : Prop :=
  wr.ownsRow w.heap.size 3 1 v (sk l n k).length (intsV (up (sk l n k))) ∧ Below w.heap.size w wr
theorem up_snoc (l : List Nat) (k : Nat) : intsV (up (l ++ [k])) = intsV (up l) ++ [.int .i64 (k : Int)] := by simp [up, intsV]

set_option maxHeartbeats 2000000 in
theorem refSorted_any (l : List Int) (a : Option Addr) (c B : Nat) (w : World) (hl : l.length ≤ 1000000) (hs : Sl w B a (intsV l)) (hB : B ≤ w.heap.size) :
    Calls Try.prog 14 #[.slice a l.length c] w (Gives 3 (intsV (up (srt l 15))) w) := by
  have HS := Lib.hid hs
  obtain ⟨i0, hi0, hz0, hz1, hz2⟩ := info_parts intInfoS
  have Hi0 := Lib.hid hi0
  have Hz0 := Lib.hid hz0
  have Hz1 := Lib.hid hz1
  have Hz2 := Lib.hid hz2
  clear hs hi0 hz0 hz1 hz2
  go_enter Try.func14, Try.ntmps14
  go_wp2_with fail
  go_loopw [3, 4, 5] (fun v i _ wr => ∃ n : Nat, 1 ≤ n ∧ n ≤ 16 ∧ i = .int .i64 (n : Int) ∧ RSRel w l n 0 v wr) (fun _ i _ _ => 20 - (intOf i).toNat)
  case atStart => exact ⟨1, by omega, by omega, rfl, World.ownsRow_nil _ _ _ _, Below.refl _ _⟩
  case round =>
    obtain ⟨n, hn1, hn2, rfl, hR⟩ := hrel
    by_cases hlt : n < 16
    · have k6 : decide ((n : Int) ≤ 15) = true := decide_eq_true (by omega)
      have n0 : (0 : Int) ≤ (n : Int) := Int.natCast_nonneg _
      have HR := Lib.hid hR
      clear hR
      obtain ⟨wo, hwo⟩ : ∃ wo : World, wo = wr := ⟨_, rfl⟩
      subst hwo
      go_wp2_with fail
      go_loopw [3, 5] (fun v i wr => ∃ k : Nat, k ≤ l.length ∧ i = .int .i64 (k : Int) ∧ RSRel w l n k v wr) (fun _ i _ => l.length - (intOf i).toNat)
      case atStart => exact ⟨0, by omega, rfl, HR.out⟩
      case round =>
        obtain ⟨k, hk, rfl, hown, hbr⟩ := hrel
        clear HR
        have hbs := hbr.size
        by_cases hlt2 : k < l.length
        · obtain ⟨b, off, rfl, _, hcell⟩ := (HS.out.below hbr hB).int hlt2
          have k0 : (0 : Int) ≤ (k : Int) := Int.natCast_nonneg _
          have k1 : (k : Int) < (l.length : Int) := by omega
          have hgd := getD_of hlt2
          have HBR := Lib.hid hbr
          by_cases hx : l[k] = (n : Int)
          · have HK := Lib.hid (sk_hit l n k (hgd.trans hx))
            have hsl := len_sk l n k hn1 hk
            rw [hx] at hcell
            have HOW := Lib.hid hown
            generalize sk l n k = M at HK HOW hsl
            clear hgd hx hown hbr
            go_wp2_with (at_builtin; refine wpList_append_sl _ rfl _ _ _ rfl w.heap.size 3 i0 _ 8 Try.underlying22 Hi0.out Hz0.out Hz1.out Hz2.out rfl _ M.length (intsV (up M)) rfl (HOW.out.alloc _) (wr.heap.size + 1) (some ⟨wr.heap.size, 0, none⟩) 1 1 [.int .i64 (k : Int)] rfl rfl (Sl.new_ _ _ _ _) (int64s_oneCell [(k : Int)]) (by unfold maxLen; omega) (by omega) (by simp; omega) ?_; intro v3 w3 hown3 hgrow3 hat3; have HN := Lib.hid (show RSRel w l n (k + 1) v3 w3 from ⟨by rw [HK.out, up_snoc, List.length_append]; exact hown3, own_below (HOW.out.alloc _) hgrow3 (Nat.le_refl _) (by simp; omega) (HBR.out.alloc hbs _)⟩); clear hown3 hgrow3 hat3)
            go_roundw
            case rel => exact ⟨k + 1, by omega, by go_num, HN.out⟩
            case measure => simp [intOf]; omega
          · have HK := Lib.hid (sk_miss l n k (by rw [hgd]; exact hx))
            have te : (l[k] == (n : Int)) = false := beq_eq_false_iff_ne.2 hx
            generalize l[k] = x at hcell te
            have HN := Lib.hid (show RSRel w l n (k + 1) u3 wr from ⟨by rw [HK.out]; exact hown, hbr⟩)
            clear hgd hx hown hbr
            go_wp2_with fail
            go_roundw
            case rel => exact ⟨k + 1, by omega, by go_num, HN.out⟩
            case measure => simp [intOf]; omega
        · obtain rfl : k = l.length := by omega
          have HN := Lib.hid (show RSRel w l (n + 1) 0 u3 wr from ⟨by rw [← sk_all l n hn1]; exact hown, hbr⟩)
          clear hown hbr
          go_wp2_with fail
          go_roundw
          case rel => exact ⟨n + 1, by omega, by omega, by go_num, HN.out⟩
          case measure => simp [intOf]; omega
    · obtain rfl : n = 16 := by omega
      obtain ⟨hown, hbr⟩ := hR
      rw [sk_zero, show (16 - 1 : Nat) = 15 from rfl] at hown
      obtain ⟨A, cc, rfl⟩ := own_form hown
      have HO := Lib.hid hown
      clear hown
      rw [show ((16 : Nat) : Int) = 16 from rfl]
      go_wp2_with fail
      go_ret
      exact gives_mk (by rw [len_intsV, len_up]) rfl HO.out hbr

/-- while the document's codes are counted -/
def RCRel (w : World) (l : List Int) (A : Option Addr) (c p : Nat) (wr : World) : Prop :=
  Whole wr w.heap.size 29 (u32sV (outTo l p)).toArray ∧ wr.ownsRow (w.heap.size + 1) 3 1 (.slice A (pcnt l 15) c) (pcnt l 15) (intsV (up (srt l 15))) ∧ Below w.heap.size w wr
theorem own_int_at {w : World} {base : Nat} {L : List Int} {A : Option Addr} {c n i : Nat} {v : Int} (h : w.ownsRow base 3 1 (.slice A n c) n (intsV L)) (hi : L[i]? = some v) :
    ∃ g, A = some ⟨g, 0, none⟩ ∧ base ≤ g ∧ g < w.heap.size ∧ w.cell? ⟨g, i, none⟩ = some (.int .i64 v) := by
  have hn : 0 < n := by
    have h1 := h.1
    rw [len_intsV] at h1
    have := (List.getElem?_eq_some_iff.1 hi).1
    omega
  obtain ⟨g, cap, hv, hb, hlt⟩ := h.form hn
  injection hv with hA
  subst hA
  refine ⟨g, rfl, hb, hlt, ?_⟩
  have := h.cells (g := g) rfl i (.int .i64 v) (by simp [intsV, hi])
  rcases Nat.eq_zero_or_pos i with rfl | hi
  · simpa [Addr.add] using this
  · simpa [Addr.add, show i ≠ 0 by omega] using this
theorem sl_int_at {w : World} {B : Nat} {a : Option Addr} {l : List Int} (h : Sl w B a (intsV l)) {k : Nat} {v : Int} (hk : k < l.length) (hv : l.getD k 0 = v) :
    ∃ b off, a = some ⟨b, off, none⟩ ∧ b < B ∧ w.cell? ⟨b, off + k, none⟩ = some (.int .i64 v) := by
  obtain ⟨b, off, h1, h2, h3⟩ := h.int hk
  exact ⟨b, off, h1, h2, by rw [h3, ← hv, getD_of hk]⟩

set_option maxHeartbeats 4000000 in
theorem refCodes_any (l : List Int) (a : Option Addr) (c B : Nat) (w : World) (hl : l.length ≤ 1000000) (hs : Sl w B a (intsV l)) (hB : B ≤ w.heap.size) (hk : kindOf l ≤ 3) :
    Calls Try.prog 15 #[.slice a l.length c] w (Gives 29 (u32sV (codesOf l)) w) := by
  obtain ⟨hrt, hsum⟩ := kind_le3 hk
  have HS := Lib.hid hs
  have HRT := Lib.hid hrt
  have HSUM := Lib.hid hsum
  obtain ⟨i0, hi0, hz0, hz1, hz2⟩ := info_parts u32InfoC
  have hmk := fun W => run_make_wh Try.underlying24 hi0 hz0 hz1 (by rw [hz2]; decide) rfl l.length (by omega) W
  clear hs hrt hi0 hz0 hz1 hz2 hk hsum
  have SO := Lib.hid (refSorted_any l a c B (w.alloc (.cells (Array.replicate l.length (Value.int .u32 0)) 29)) hl (HS.out.alloc hB _) (by simp; omega))
  go_enter Try.func15, Try.ntmps15
  go_wp2_with fail
  (with_reducible refine SO.out.mono ?_)
  rintro e w2 ⟨A, c2, rfl, ho2, hb2⟩
  rw [len_intsV, len_up, len_srt] at ho2 ⊢
  have HR0 := Lib.hid (show RCRel w l A c2 0 w2 from by
    refine ⟨?_, by simpa using ho2, ((Below.refl w.heap.size w).alloc (Nat.le_refl _) _).trans (hb2.mono (by simp))⟩
    rw [outTo_zero]
    have h := Whole.new w 29 (Array.replicate l.length (Value.int .u32 0))
    have h2 := h.below hb2 (by simp)
    simpa [u32sV] using h2)
  clear ho2 hb2 SO hmk
  obtain ⟨T, hT⟩ : ∃ T, T = pcnt l 15 := ⟨_, rfl⟩
  have hTl := pcnt_len l 15
  rw [← hT] at hTl ⊢
  have HT := Lib.hid hT
  clear hT
  go_wp2_with fail
  go_loopw [5, 6, 7] (fun x y i wr => ∃ p m code : Nat, p ≤ T ∧ CInv l p m code ∧ x = .int .u32 (code : Int) ∧ y = .int .i64 (m : Int) ∧ i = .int .i64 (p : Int) ∧ RCRel w l A c2 p wr) (fun _ _ i _ => T - (intOf i).toNat)
  case atStart => exact ⟨0, 0, 0, by omega, CInv.start l, rfl, rfl, rfl, HR0.out⟩
  case round =>
    obtain ⟨p, m, code, hp, hci, rfl, rfl, rfl, hR⟩ := hrel
    clear HR0
    obtain ⟨wo, hwo⟩ : ∃ wo : World, wo = wr := ⟨_, rfl⟩
    subst hwo
    by_cases hlt : p < T
    · obtain ⟨s, n, hs1, hn1, hn2, hgd, hsr, hrk, hp1, hp2, hcode⟩ := place_at l p (by rw [← HT.out]; exact hlt)
      obtain ⟨hW, hO, hbr⟩ := hR
      have HSET := Lib.hid (outTo_set l HRT.out p s hs1 (by omega) hrk)
      obtain ⟨g2, rfl, hg2, hg2l, hc1⟩ := own_int_at hO (up_get _ _ _ hsr)
      obtain ⟨b, off, rfl, hbB, hc2⟩ := sl_int_at (HS.out.below hbr hB) hs1 hgd
      have HCODE := Lib.hid hcode
      have HCI := Lib.hid hci
      have HW := Lib.hid hW
      have HO := Lib.hid hO
      have HBR := Lib.hid hbr
      have hd1 := hW.cell s
      rw [show (u32sV (outTo l p)).toArray[s]? = some (.int .u32 ((if 0 < l.getD s 0 ∧ rank l s < p then codeAt l s else 0 : Nat) : Int)) by simp only [List.getElem?_toArray]; rw [u32sV_get _ _ _ (outTo_get l p s hs1)]] at hd1
      generalize (if 0 < l.getD s 0 ∧ rank l s < p then codeAt l s else 0 : Nat) = old at hd1
      have hf1 := hW.frozen s
      have hbs := hbr.size
      clear hci hcode hsr hrk hgd hW hO hbr
      have p0 : (0 : Int) ≤ (p : Int) := Int.natCast_nonneg _
      have p1' : (p : Int) < (T : Int) := by omega
      have s0 : (0 : Int) ≤ (s : Int) := Int.natCast_nonneg _
      have s1 : (s : Int) < (l.length : Int) := by omega
      have HP1 := Lib.hid hp1
      clear hp1
      by_cases hmn : m ≤ n
      case neg =>
        exfalso
        obtain ⟨h1, h2, h3, h4⟩ := HCI.out
        have := pcnt_mono l n (m - 1) (by omega)
        omega
      go_wp2_with fail
      go_loopw [5, 6] (fun x y wr => ∃ m code : Nat, m ≤ n ∧ CInv l p m code ∧ x = .int .u32 (code : Int) ∧ y = .int .i64 (m : Int) ∧ wr = wo) (fun _ y _ => n - (intOf y).toNat)
      case atStart => exact ⟨m, code, hmn, HCI.out, rfl, rfl, rfl⟩
      case round =>
        obtain ⟨m, code, hmn, hci, rfl, rfl, rfl⟩ := hrel
        have hcl := hci.le HSUM.out
        have HCI2 := Lib.hid hci
        clear HCI hci
        by_cases hlt2 : m < n
        · have HC3 := Lib.hid (HCI2.out.more hn2 hlt2 HP1.out)
          go_wp2_with fail
          go_roundw
          case rel => exact ⟨m + 1, 2 * code, by omega, HC3.out, by go_num, by go_num, trivial⟩
          case measure => simp [intOf]; omega
        · obtain rfl : m = n := by omega
          have HC3 := Lib.hid (HCI2.out.next hp2)
          have hcn := HC3.out.le HSUM.out
          have hcd := HCODE.out code HCI2.out
          rw [hcd] at HSET
          clear hcd HCODE
          have RV := Lib.hid (fun W => refReverse_any code (m : Int) W (by omega) (by omega) (by omega))
          rw [clamp_small m (by omega)] at RV
          generalize Bit.rev m code = rv at RV HSET
          have hwl := HW.out.lt
          go_wp2_with fail
          go_region_held3 (fun W => W.cell? ⟨g2, p, none⟩ = some (.int .i64 (s : Int)))
            (first | exact hc1 | exact hk3 | exact (World.cell?_setCell_other w3 ⟨w.heap.size, s, none⟩ ⟨g2, p, none⟩ _ (by intro e; injection e with e1; omega)).trans hk3)
            ((go_at_call 33; refine (RV.out _).mono ?_; rintro e w3 ⟨rfl, hb3⟩; have hk3 : w3.cell? ⟨g2, p, none⟩ = some (.int .i64 (s : Int)) := (hb3.cell (p := ⟨g2, p, none⟩) hg2l).trans hc1; have hd3 : w3.cell? ⟨w.heap.size, s, none⟩ = some (.int .u32 (old : Int)) := (hb3.cell (p := ⟨w.heap.size, s, none⟩) hwl).trans hd1; have hf3 : w3.frozen? ⟨w.heap.size, s, none⟩ = false := (hb3.frozen (p := ⟨w.heap.size, s, none⟩) hwl).trans hf1))
          go_wp2_with fail
          go_roundw
          case rel =>
            have hb3' : Below wr.heap.size wr w3 := ⟨hb3.os, hb3.tape, hb3.output, hb3.size, hb3.block⟩
            refine ⟨p + 1, m, code + 1, by omega, HC3.out, by go_num, rfl, by go_num, ?_, ?_, ?_⟩
            · rw [← HSET.out, u32sV_set]
              have h := (HW.out.below hb3' hwl).set_ s (.int .u32 (rv : Int))
              simpa using h
            · have hx := own_keep HO.out (w' := w3) (fun g hg => hb3'.block g (HO.out.lt g hg).2)
              exact own_fr hx ((Fr.refl (fun k => k = w.heap.size) w3).setCell (p := ⟨w.heap.size, s, none⟩) (.inl rfl) _) (fun g hg e => by have := (hx.lt g hg).1; omega)
            · exact (HBR.out.trans (hb3'.mono hbs)).setCell (Nat.le_refl _) _
          case measure => simp [intOf]; omega
    · obtain rfl : p = T := by omega
      obtain ⟨hW, hO, hbr⟩ := hR
      have HW := Lib.hid hW
      have HBR := Lib.hid hbr
      clear hci hW hO hbr
      go_wp2_with fail
      go_ret
      have h := HW.out
      rw [HT.out, outTo_all l HRT.out] at h
      have hlen : (u32sV (codesOf l)).length = l.length := by rw [len_u32sV, len_codesOf]
      exact gives_mk hlen rfl (own_of_wh h (Nat.le_refl _) hlen (by unfold maxLen; omega)) HBR.out
end Go.Proofs.Ytdlnnokimhemfaa
