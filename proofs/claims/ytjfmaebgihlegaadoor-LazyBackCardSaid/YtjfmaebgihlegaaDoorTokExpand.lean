/-
  What token.Expand computes: Tok.go; what token.Literals makes.
-/
import Derived.Test.YtjfmaebgihlegaaDoorTokRight
import Derived.Test.YtjfmaebgihlegaaDoorClone
import Derived.Test.YtjfmaebgihlegaaDoorStr
namespace Go.Proofs.YtjfmaebgihlegaaDoor
open Go.RowKit

/-- the call returns what tokens stand for, and the code -/
def ExpandPost (k : List UInt8) (l : List TokV) (w : World) (e : Ending) (w' : World) : Prop :=
  ∃ A c, e = .returned (.tuple #[.slice A (Tok.out k l).length c, .int .i64 (((Tok.go k l).1 : Nat) : Int)]) ∧ Sl w' w'.heap.size A (bytesV (Tok.out k l)) ∧ (Tok.out k l).length ≤ c ∧ Below w.heap.size w w'
theorem expand_err {k : List UInt8} {l : List TokV} {w w' : World} {n : Nat} (hn : n ≠ 0) (h : Tok.go k l = (n, [])) (hb : Below w.heap.size w w') : ExpandPost k l w (.returned (.tuple #[.slice none 0 0, .int .i64 (n : Int)])) w' := by
  have h1 : (Tok.go k l).1 = n := by rw [h]
  have h2 : Tok.out k l = [] := Tok.out_err (by rw [h1]; exact hn)
  refine ⟨none, 0, ?_, by rw [h2]; exact Sl.nil, by rw [h2]; simp, hb⟩
  rw [h1, h2]; rfl

namespace Tok
theorem go_no {k : List UInt8} {t : TokV} {l : List TokV} (h : right t = false) : go k (t :: l) = (1, []) := by rw [go, if_pos h]
theorem go_lit {k : List UInt8} {t : TokV} {l : List TokV} (h : right t = true) (h0 : t.len = 0) : go k (t :: l) = go (k ++ [t.lit]) l := by rw [go, if_neg (by simp [h]), if_pos h0]
theorem go_far {k : List UInt8} {t : TokV} {l : List TokV} (h : right t = true) (h0 : ¬ t.len = 0) (hd : (k.length : Int) < t.dist) : go k (t :: l) = (27, []) := by rw [go, if_neg (by simp [h]), if_neg h0, if_pos hd]
theorem go_copy {k : List UInt8} {t : TokV} {l : List TokV} (h : right t = true) (h0 : ¬ t.len = 0) (hd : ¬ (k.length : Int) < t.dist) : go k (t :: l) = go (copyN k t.dist.toNat t.len.toNat) l := by rw [go, if_neg (by simp [h]), if_neg h0, if_neg hd]
end Tok
theorem own_byte {w : World} {base : Nat} {e : TypeId} {A : Option Addr} {c : Nat} {l : List UInt8} (h : w.ownsRow base e 1 (.slice A l.length c) l.length (bytesV l)) {i : Nat} (hi : i < l.length) :
    ∃ g, A = some ⟨g, 0, none⟩ ∧ w.cell? ⟨g, i, none⟩ = some (.int .u8 ((l.getD i 0).toNat : Int)) := by
  obtain ⟨g, cap, hv, _, _⟩ := h.form (by omega)
  injection hv with hA _ _
  subst hA
  refine ⟨g, rfl, ?_⟩
  rw [h.cellAt i (by omega)]
  simp [bytesV, byteV, hi]

set_option maxRecDepth 100000 in
set_option maxHeartbeats 2000000 in
theorem expand_any (k : List UInt8) (l : List TokV) (a b : Option Addr) (c d B : Nat) (w : World) (hk : k.length ≤ 32768) (hl : l.length ≤ 1000000) (_hkc : k.length ≤ c) (hsl : Sl w B a (bytesV k)) (htl : Sl w B b (l.flatMap TokV.cells)) (hB : B ≤ w.heap.size) :
    Calls Tryd.prog 11 #[.slice a k.length c, .slice b l.length d] w (ExpandPost k l w) := by
  have HT := Lib.hid htl
  obtain ⟨i0, hi0, hz0, hz1, hz2⟩ := info_parts byteInfoC
  have HQ := Lib.hid (fun (A : Option Addr) (n cp : Nat) (hn : k.length ≤ n) => run_slice_from Tryd.underlying22 hi0 hz1 A n cp k.length hn)
  have Hi0 := Lib.hid hi0
  have Hz0 := Lib.hid hz0
  have Hz1 := Lib.hid hz1
  have Hz2 := Lib.hid hz2
  clear hi0 hz0 hz1 hz2
  have CL := clone_any k a c B w (by omega) hsl hB
  have hmax : ∀ W, (Builtin.max_ #[3, 3] 3 #[.int .i64 0, .int .i64 ((k.length : Int) - 32768)]).run Tryd.prog W = .ok (.int .i64 0) W := fun W => by
    have e : (0 : Int) = if (k.length : Int) - 32768 > 0 then (k.length : Int) - 32768 else 0 := by split <;> omega
    conv => rhs; rw [e]
    simp [go_sem]
  have HCL := Lib.hid CL
  clear CL hsl htl
  go_enter Tryd.func11, Tryd.ntmps11
  go_wp2_with fail
  refine HCL.out.mono ?_
  rintro e w1 ⟨A1, c1, rfl, hown1, hb1⟩
  rw [len_bytesV] at hown1 ⊢
  have HO1 := Lib.hid hown1
  have HB1 := Lib.hid hb1
  clear hown1 hb1
  go_wp2_with fail
  go_loopw [6, 21] (fun kv i wr => ∃ (j : Nat) (q : List UInt8), j ≤ l.length ∧ i = .int .i64 j ∧ wr.ownsRow w.heap.size 5 1 kv q.length (bytesV q) ∧ Tok.go k l = Tok.go q (l.drop j) ∧ k.length ≤ q.length ∧ q.length ≤ k.length + 258 * j ∧ Below w.heap.size w wr) (fun _ i _ => l.length - (intOf i).toNat)
  case atStart => exact ⟨0, k, Nat.zero_le _, rfl, HO1.out, by simp, by omega, by omega, HB1.out⟩
  case round =>
    obtain ⟨j, q, hj, rfl, hown, hgo, hq1, hq2, hbr⟩ := hrel
    obtain ⟨A, cc, rfl⟩ := own_form hown
    have HO := Lib.hid hown
    have HG := Lib.hid hgo
    have HB := Lib.hid hbr
    have hbs := hbr.size
    clear hown hgo hbr
    by_cases hlt : j < l.length
    · have hdr : l.drop j = l[j] :: l.drop (j + 1) := List.drop_eq_getElem_cons hlt
      obtain ⟨b1, off, rfl, hbB, q0, q1, q2⟩ := toks_at (HT.out.below HB.out hB) (List.getElem?_eq_getElem hlt)
      generalize l[j] = t at hdr q0 q1 q2
      obtain ⟨lit, len, dist⟩ := t
      rw [hdr] at HG
      clear hdr
      simp only [] at q0 q1 q2
      have HR := fun W => Lib.hid (right_any lit len dist W)
      have h0 : 0 ≤ (j : Int) := Int.natCast_nonneg _
      have h1 : (j : Int) < (l.length : Int) := by omega
      cases hrt : Tok.right ⟨lit, len, dist⟩ with
      | false =>
        rw [hrt] at HR
        have HE := Lib.hid (HG.out.trans (Tok.go_no hrt))
        clear hrt
        generalize (lit.toNat : Int) = x at q0 HR
        go_wp2_with fail
        refine (HR _).out.mono ?_
        rintro e w2 ⟨rfl, hb2⟩
        have HB2 := Lib.hid ((HB.out.alloc hbs _).trans (hb2.mono (by simp; omega)))
        clear hb2
        go_wp2_with fail
        go_ret2
        exact expand_err (n := 1) (by omega) HE.out HB2.out
      | true =>
        rw [hrt] at HR
        have HRT := Lib.hid hrt
        clear hrt
        by_cases hlen : len = 0
        · subst hlen
          have HE := Lib.hid (HG.out.trans (Tok.go_lit HRT.out rfl))
          have HSN := Lib.hid (bytes_snoc q lit)
          have HX := Lib.hid (u8_bound lit)
          generalize (lit.toNat : Int) = x at q0 HR HSN
          go_wp2_with fail
          refine (HR _).out.mono ?_
          rintro e w2 ⟨rfl, hb2⟩
          have hW := (Whole.new wr 48 _).fr (Fr.of_below hb2 (fun _ => False)) id
          have d0 := hW.cell 0
          have d1 := hW.cell 1
          simp at d0 d1
          have HB2 := Lib.hid ((HB.out.alloc hbs _).trans (hb2.mono (by simp; omega)))
          have hown2 := own_fr (HO.out.alloc _) (Fr.of_below hb2 (fun _ => False)) (fun _ _ => id)
          have hbs2 := HB2.out.size
          clear hb2 hW
          go_wp2_with (at_builtin; refine wpList_append_lies _ rfl _ _ _ rfl w.heap.size 5 i0 _ 1 1 Tryd.underlying22 Hi0.out Hz0.out Hz1.out Hz2.out rfl (by omega) _ q.length (bytesV q) rfl (hown2.alloc _) ⟨w2.heap.size, 0, none⟩ 1 1 [.int .u8 x] rfl rfl (World.news_of_block (cs := #[.int .u8 x]) (t := 5) (fr := (0, 0)) (heap_alloc_new w2 _)) (by simp [Value.oneCell']) (by omega) (by unfold maxLen; omega) (by omega) (by simp; omega) (w2.heap.size + 1) (by simp) ?_; intro gg cap ww hown3 hgrow hat hlt1)
          have HO3 := Lib.hid (show ww.ownsRow w.heap.size 5 1 (.slice (some ⟨gg, 0, none⟩) (q.length + 1) cap) (q ++ [lit]).length (bytesV (q ++ [lit])) by
            rw [HSN.out, List.length_append]; exact hown3)
          have HB3 := Lib.hid (own_below (hown2.alloc _) hgrow (Nat.le_refl _) (by simp; omega) (HB2.out.alloc hbs2 _))
          clear hown3 hgrow hown2
          go_wp2
          go_roundw
          case rel => exact ⟨j + 1, q ++ [lit], by omega, by go_num, HO3.out, HE.out, by simp; omega, by simp; omega, HB3.out⟩
          case measure => simp [intOf]; omega
        · have tl : (len == 0) = false := by simpa using hlen
          have hrl := Tok.right_len HRT.out hlen
          simp only [] at hrl
          obtain ⟨r1, r2, r3, r4, r5⟩ := hrl
          clear r5
          obtain ⟨n, rfl⟩ := Int.eq_ofNat_of_zero_le (show 0 ≤ len by omega)
          obtain ⟨dd, rfl⟩ := Int.eq_ofNat_of_zero_le (show 0 ≤ dist by omega)
          by_cases hfar : q.length < dd
          · have HE := Lib.hid (HG.out.trans (Tok.go_far HRT.out hlen (by simp only []; omega)))
            generalize (lit.toNat : Int) = x at q0 HR
            clear hlen
            have tf : decide ((q.length : Int) < (dd : Int)) = true := by simp; omega
            have tf2 : decide (q.length < dd) = true := by simp; omega
            go_wp2_with fail
            refine (HR _).out.mono ?_
            rintro e w2 ⟨rfl, hb2⟩
            have hW := (Whole.new wr 48 _).fr (Fr.of_below hb2 (fun _ => False)) id
            have d1 := hW.cell 1
            have d2 := hW.cell 2
            simp at d1 d2
            have HB2 := Lib.hid ((HB.out.alloc hbs _).trans (hb2.mono (by simp; omega)))
            clear hb2 hW
            go_wp2_with fail
            go_ret2
            exact expand_err (n := 27) (by omega) HE.out HB2.out
          · obtain ⟨wo, hwo⟩ : ∃ W, W = wr := ⟨_, rfl⟩
            subst hwo
            have HE := Lib.hid (HG.out.trans (Tok.go_copy HRT.out hlen (by simp only []; omega)))
            rw [show (Int.toNat (dd : Int)) = dd from rfl, show (Int.toNat (n : Int)) = n from rfl] at HE
            have HLN := Lib.hid (Tok.length_copyN q dd)
            generalize (lit.toNat : Int) = x at q0 HR
            clear hlen
            have tf : decide ((q.length : Int) < (dd : Int)) = false := by simp; omega
            have tf2 : decide (q.length < dd) = false := by simp; omega
            go_wp2_with fail
            refine (HR _).out.mono ?_
            rintro e w2 ⟨rfl, hb2⟩
            have hW := (Whole.new wo 48 _).fr (Fr.of_below hb2 (fun _ => False)) id
            have d1 := hW.cell 1
            have d2 := hW.cell 2
            simp at d1 d2
            have HW := Lib.hid hW
            have HB2 := Lib.hid ((HB.out.alloc hbs _).trans (hb2.mono (by simp; omega)))
            have HO2 := Lib.hid (own_fr (HO.out.alloc _) (Fr.of_below hb2 (fun _ => False)) (fun _ _ => id))
            have HNE := Lib.hid (show (Value.slice A q.length cc).ownBlock ≠ some wo.heap.size from fun h => by have := (HO.out.lt _ h).2; omega)
            have hbs2 := HB2.out.size
            clear hb2 hW
            go_wp2_with fail
            go_loopw [6, 43] (fun kv i wr => ∃ m : Nat, m ≤ n ∧ i = .int .i64 m ∧ wr.ownsRow w.heap.size 5 1 kv (q.length + m) (bytesV (Tok.copyN q dd m)) ∧ Whole wr wo.heap.size 48 #[.int .u8 x, .int .i64 (n : Int), .int .i64 (dd : Int)] ∧ kv.ownBlock ≠ some wo.heap.size ∧ Below w.heap.size w wr) (fun _ i _ => n - (intOf i).toNat)
            case atStart => exact ⟨0, Nat.zero_le _, rfl, HO2.out, HW.out, HNE.out, HB2.out⟩
            case round =>
              obtain ⟨m, hm, rfl, hown, hwh, hne, hbr⟩ := hrel
              have hbs3 := hbr.size
              by_cases hlt2 : m < n
              · have hlm := HLN.out m
                obtain ⟨z, hz⟩ : ∃ z, z = Tok.copyN q dd m := ⟨_, rfl⟩
                have hsn : Tok.copyN q dd (m + 1) = z ++ [z.getD (z.length - dd) 0] := by rw [hz]; rfl
                rw [← hz] at hown hlm
                rw [← hlm] at hown
                obtain ⟨A3, c3, rfl⟩ := own_form hown
                obtain ⟨g, rfl, hcell⟩ := own_byte hown (i := z.length - dd) (by omega)
                have HBS := Lib.hid (show bytesV (Tok.copyN q dd (m + 1)) = bytesV z ++ [.int .u8 ((z.getD (z.length - dd) 0).toNat : Int)] by rw [hsn, bytes_snoc])
                have hx256 := u8_bound (z.getD (z.length - dd) 0)
                generalize (z.getD (z.length - dd) 0).toNat = y at hcell HBS hx256
                clear hsn hz
                have e2 := hwh.cell 2
                simp at e2
                have i1 : (0 : Int) ≤ (z.length : Int) - (dd : Int) := by omega
                have HWH := Lib.hid hwh
                have HLM := Lib.hid hlm
                have hzl : z.length ≤ 1000000000 := by omega
                have hzd : dd ≤ z.length := by omega
                clear hwh hlm
                generalize z.length = zl at hown hcell i1 HLM hzl hzd
                go_wp2_with (at_builtin; refine wpList_append_lies _ rfl _ _ _ rfl w.heap.size 5 i0 _ 1 1 Tryd.underlying22 Hi0.out Hz0.out Hz1.out Hz2.out rfl (by omega) _ zl (bytesV z) rfl (hown.alloc _) ⟨wr.heap.size, 0, none⟩ 1 1 [.int .u8 y] rfl rfl (World.news_of_block (cs := #[.int .u8 y]) (t := 5) (fr := (0, 0)) (heap_alloc_new wr _)) (by simp [Value.oneCell']) (by omega) (by unfold maxLen; omega) (by omega) (by simp; omega) (wr.heap.size + 1) (by simp) ?_; intro gg cap ww hown3 hgrow hat hlt1)
                have HO3 := Lib.hid (show ww.ownsRow w.heap.size 5 1 (.slice (some ⟨gg, 0, none⟩) (zl + 1) cap) (q.length + (m + 1)) (bytesV (Tok.copyN q dd (m + 1))) by
                  rw [HBS.out, ← Nat.add_assoc, ← HLM.out]; exact hown3)
                have HB3 := Lib.hid (own_below (hown.alloc _) hgrow (Nat.le_refl _) (by simp; omega) (hbr.alloc hbs3 _))
                have HW3 := Lib.hid ((HWH.out.alloc _).grown hgrow hne)
                have HN3 := Lib.hid (show (Value.slice (some ⟨gg, 0, none⟩) (zl + 1) cap).ownBlock ≠ some wo.heap.size from fun hh => by
                  have hg : gg = wo.heap.size := by simpa [Value.ownBlock] using hh
                  have := HWH.out.lt
                  rcases hat with h | h
                  · have h2 : some g = some gg := h
                    exact hne (by show some g = _; rw [h2, hg])
                  · omega)
                clear hown3 hgrow hown hat hbr
                go_wp2
                go_roundw
                case rel => exact ⟨m + 1, by omega, by go_num, HO3.out, HW3.out, HN3.out, HB3.out⟩
                case measure => simp [intOf]; omega
              · obtain rfl : m = n := by omega
                have hlm := HLN.out m
                have HO3 := Lib.hid (show wr.ownsRow w.heap.size 5 1 u6 (Tok.copyN q dd m).length (bytesV (Tok.copyN q dd m)) by rw [hlm]; exact hown)
                have HB3 := Lib.hid hbr
                clear hown hbr hwh hlm
                go_wp2_with fail
                go_roundw
                case rel => exact ⟨j + 1, Tok.copyN q dd m, by omega, by go_num, HO3.out, HE.out, by rw [HLN.out]; omega, by rw [HLN.out]; omega, HB3.out⟩
                case measure => simp [intOf]; omega
    · obtain rfl : j = l.length := by omega
      have hg : Tok.go k l = (0, q) := by rw [HG.out, List.drop_length]; rfl
      have hout : Tok.out k l = q.drop k.length := by simp [Tok.out, hg]
      have hqc := own_cap HO.out
      have hq3 := HQ.out A q.length cc hq1
      have HS := Lib.hid ((Sl.of_own HO.out).rest cc k.length (by rw [len_bytesV]; exact hqc))
      have HOU := Lib.hid hout
      have HC := Lib.hid (show (Tok.go k l).1 = 0 by rw [hg])
      clear hg hout
      generalize restAt A cc k.length = a2 at hq3 HS
      go_wp2_with fail
      go_ret2
      refine ⟨a2, cc - k.length, by rw [HC.out, HOU.out, List.length_drop]; rfl, ?_, by rw [HOU.out, List.length_drop]; omega, HB.out⟩
      rw [HOU.out]
      have h := HS.out
      simpa [bytesV, List.map_drop] using h
end Go.Proofs.YtjfmaebgihlegaaDoor
