/-
  Layer 14's helper Refs, the reference's Copy and Expand, and token.Sizes.
-/
import Derived.Test.YtjfmaebgihlegaaDoorTokInfo
import Derived.Deep.RegionHeld3
import Derived.Deep.RegionLaw
import Derived.Deep.QuietTactic
import Derived.BigQuiet
import Derived.StillTailTactics
namespace Go.Proofs.YtjfmaebgihlegaaDoor
open Go.RowKit

theorem refTokInfo : (Tryd.prog.info? 39).map (fun i => (i.zero, i.size, i.bytes)) = some (some (.agg #[.int .u8 0, .int .i64 0, .int .i64 0]), 3, 24) := by kernel_rfl
theorem toks_snoc (l : List TokV) (j : Nat) (t : TokV) (h : l[j]? = some t) : (l.take (j + 1)).flatMap TokV.cells = (l.take j).flatMap TokV.cells ++ [.int .u8 (t.lit.toNat : Int), .int .i64 t.len, .int .i64 t.dist] := by
  rw [List.take_add_one, h]
  simp [TokV.cells]

set_option maxRecDepth 100000 in
set_option maxHeartbeats 800000 in
theorem refs_any (l : List TokV) (a : Option Addr) (c B : Nat) (w : World) (hl : l.length ≤ 1000000) (hsl : Sl w B a (l.flatMap TokV.cells)) (hB : B ≤ w.heap.size) :
    Calls Tryd.prog 10 #[.slice a l.length c] w fun e w' => ∃ A c', e = .returned (.slice A l.length c') ∧ w'.ownsRow w.heap.size 39 3 (.slice A l.length c') l.length (l.flatMap TokV.cells) ∧ Below w.heap.size w w' := by
  have HC := Lib.hid hsl
  clear hsl
  obtain ⟨i0, hi0, hz0, hz1, hz2⟩ := info_parts refTokInfo
  have Hi0 := Lib.hid hi0
  have Hz0 := Lib.hid hz0
  have Hz1 := Lib.hid hz1
  have Hz2 := Lib.hid hz2
  clear hi0 hz0 hz1 hz2
  go_enter Tryd.func10, Tryd.ntmps10
  go_wp2_with fail
  go_loopw [3, 4] (fun o i wr => ∃ j : Nat, j ≤ l.length ∧ i = .int .i64 j ∧ wr.ownsRow w.heap.size 39 3 o j ((l.take j).flatMap TokV.cells) ∧ Below w.heap.size w wr) (fun _ i _ => l.length - (intOf i).toNat)
  case atStart => exact ⟨0, Nat.zero_le _, rfl, World.ownsRow_nil _ _ _ _, Below.refl _ _⟩
  case round =>
    obtain ⟨j, hj, rfl, hown, hbr⟩ := hrel
    have hbs := hbr.size
    by_cases hlt : j < l.length
    · have hx := List.getElem?_eq_getElem hlt
      obtain ⟨b1, off, rfl, hbB, q0, q1, q2⟩ := toks_at (HC.out.below hbr hB) hx
      have HS := Lib.hid (toks_snoc l j _ hx)
      generalize l[j] = t at HS q0 q1 q2
      obtain ⟨lit, len, dist⟩ := t
      simp only [] at q0 q1 q2 HS
      clear hx
      generalize (lit.toNat : Int) = x at q0 HS
      have k0 : (0 : Int) ≤ (j : Int) := Int.natCast_nonneg _
      have k1 : (j : Int) < (l.length : Int) := by omega
      have hbw : b1 < w.heap.size := by omega
      have hbr2 : b1 < wr.heap.size := by omega
      have ne := own_ne hown hbw
      generalize (l.take j).flatMap TokV.cells = xs at hown HS
      go_wp2_with fail
      go_region_held3 (fun w' => w'.cell? ⟨b1, off + j * 3, none⟩ = some (.int .u8 x) ∧ w'.cell? ⟨b1, off + j * 3 + 1, none⟩ = some (.int .i64 len) ∧ w'.cell? ⟨b1, off + j * 3 + 2, none⟩ = some (.int .i64 dist))
        (first | go_keep | (go_split_ands; exact ⟨hgrow.cell (by assumption) ne, hgrow.cell (by assumption) ne, hgrow.cell (by assumption) ne⟩))
        ((refine step_append_lies _ (by rfl) _ _ _ (by rfl) w.heap.size 39 i0 _ 3 24 Tryd.underlying35 Hi0.out Hz0.out Hz1.out Hz2.out rfl (by omega) _ j xs (by rfl) ((hown.alloc _).drew) ⟨wr.heap.size, 0, none⟩ 1 1 [.int .u8 x, .int .i64 len, .int .i64 dist] (by rfl) (by rfl) (World.news_of_block (cs := #[.int .u8 x, .int .i64 len, .int .i64 dist]) (t := 39) (fr := (0, 0)) (heap_alloc_new wr _)) (by simp [Value.oneCell']) (by omega) (by unfold maxLen; omega) (by omega) (by simp; omega) (wr.heap.size + 1) (by simp) ?_; intro gg cap ww hown1 hgrow hat hlt1))
      have HO := Lib.hid (show ww.ownsRow w.heap.size 39 3 (.slice (some ⟨gg, 0, none⟩) (j + 1) cap) (j + 1) ((l.take (j + 1)).flatMap TokV.cells) by rw [HS.out]; exact hown1)
      have HB2 := Lib.hid (own_below ((hown.alloc _).drew) hgrow (Nat.le_refl _) (by simp; omega) ((hbr.alloc hbs _).drew))
      clear hown1 hgrow ne hown hat hbr
      go_wp2
      go_roundw
      case rel => exact ⟨j + 1, by omega, by go_num, HO.out, HB2.out⟩
      case measure => simp [intOf]; omega
    · obtain rfl : j = l.length := by omega
      rw [List.take_length] at hown
      obtain ⟨A, cc, rfl⟩ := own_form hown
      have HO := Lib.hid hown
      clear hown
      go_wp2
      go_ret
      exact ⟨A, cc, rfl, HO.out, hbr⟩

set_option maxRecDepth 100000 in
set_option maxHeartbeats 800000 in
theorem sizes_any (l : List TokV) (a : Option Addr) (c B : Nat) (w : World) (hl : l.length ≤ 1000000) (hsl : Sl w B a (l.flatMap TokV.cells)) (hB : B ≤ w.heap.size) :
    Calls Tryd.prog 13 #[.slice a l.length c] w fun e w' => e = .returned (.int .i64 ((Tok.sizes l : Nat) : Int)) ∧ Below w.heap.size w w' := by
  have HC := Lib.hid hsl
  clear hsl
  go_enter Tryd.func13, Tryd.ntmps13
  go_wp2_with fail
  go_loopw [3, 8] (fun s i wr => ∃ j : Nat, j ≤ l.length ∧ i = .int .i64 j ∧ s = .int .i64 ((Tok.sizes (l.take j) : Nat) : Int) ∧ Below w.heap.size w wr) (fun _ i _ => l.length - (intOf i).toNat)
  case atStart => exact ⟨0, Nat.zero_le _, rfl, rfl, Below.refl _ _⟩
  case round =>
    obtain ⟨j, hj, rfl, rfl, hbr⟩ := hrel
    have hbs := hbr.size
    by_cases hlt : j < l.length
    · have hx := List.getElem?_eq_getElem hlt
      obtain ⟨b1, off, rfl, hbB, q0, q1, q2⟩ := toks_at (HC.out.below hbr hB) hx
      have HS := Lib.hid (show Tok.sizes (l.take (j + 1)) = Tok.sizes (l.take j) + Tok.size l[j] by
        rw [List.take_succ_eq_append_getElem hlt]
        unfold Tok.sizes
        rw [List.map_append, List.sum_append, List.map_cons, List.map_nil, List.sum_cons, List.sum_nil, Nat.add_zero])
      have hz1 := Tok.sizes_le (l.take j)
      have hz2 : (l.take j).length ≤ j := List.length_take_le _ _
      have hz3 := Tok.size_le l[j]
      generalize l[j] = t at HS q0 q1 q2 hz3
      generalize Tok.sizes (l.take j) = sz at HS hz1 ⊢
      obtain ⟨lit, len, dist⟩ := t
      simp only [] at q0 q1 q2
      have HZ := fun W => Lib.hid (size_any lit len dist W)
      generalize (lit.toNat : Int) = x at q0 HZ
      generalize Tok.size ⟨lit, len, dist⟩ = z at HZ HS hz3
      have HB := Lib.hid hbr
      clear hx hbr
      go_wp2_with fail
      (with_reducible refine (HZ _).out.mono ?_)
      rintro e w2 ⟨rfl, hb2⟩
      have HB2 := Lib.hid ((HB.out.alloc hbs _).trans (hb2.mono (by simp; omega)))
      clear hb2
      go_wp2_with fail
      go_roundw
      case rel => exact ⟨j + 1, by omega, by go_num, by rw [HS.out]; go_num, HB2.out⟩
      case measure => simp [intOf]; omega
    · obtain rfl : j = l.length := by omega
      rw [List.take_length]
      go_wp2
      go_ret
      exact ⟨rfl, hbr⟩

/-- the reference's Copy: the text then, what came -/
def CopyPost (k : List UInt8) (d n : Nat) (w : World) (e : Ending) (w' : World) : Prop :=
  ∃ A c A2 c2, e = .returned (.tuple #[.slice A (k.length + n) c, .slice A2 n c2]) ∧ w'.ownsRow w.heap.size 5 1 (.slice A (k.length + n) c) (k.length + n) (bytesV (Tok.copyN k d n)) ∧ Sl w' w'.heap.size A2 (bytesV ((Tok.copyN k d n).drop k.length)) ∧ Below w.heap.size w w'

set_option maxRecDepth 100000 in
set_option maxHeartbeats 800000 in
theorem refCopy_any (k : List UInt8) (d n : Nat) (a : Option Addr) (c B : Nat) (w : World) (hk : k.length ≤ 1000000000) (hn : n ≤ 10000000) (hd1 : 1 ≤ d) (hd : d ≤ k.length) (hsl : Sl w B a (bytesV k)) (hB : B ≤ w.heap.size) :
    Calls Tryd.prog 20 #[.slice a k.length c, .int .i64 (d : Int), .int .i64 (n : Int)] w (CopyPost k d n w) := by
  have HC := Lib.hid hsl
  clear hsl
  obtain ⟨i0, hi0, hz0, hz1, hz2⟩ := info_parts byteInfoC
  have HQ := Lib.hid (fun (A : Option Addr) (n cp : Nat) (hn : k.length ≤ n) => run_slice_from Tryd.underlying22 hi0 hz1 A n cp k.length hn)
  have Hi0 := Lib.hid hi0
  have Hz0 := Lib.hid hz0
  have Hz1 := Lib.hid hz1
  have Hz2 := Lib.hid hz2
  clear hi0 hz0 hz1 hz2
  have HLN := Lib.hid (Tok.length_copyN k d)
  go_enter Tryd.func20, Tryd.ntmps20
  go_wp2_with (at_builtin; refine wpList_append_sl _ rfl _ _ _ rfl w.heap.size 5 i0 _ 1 Tryd.underlying22 Hi0.out Hz0.out Hz1.out Hz2.out rfl _ 0 [] rfl (World.ownsRow_lit w #[] 0 (Nat.le_refl _) (by decide) rfl) B a k.length c (bytesV k) (len_bytesV k) rfl (HC.out.alloc hB _) (bytes_oneCell k) (by unfold maxLen; omega) (by omega) (by simp) ?_; intro v1 w1 hown1 hgrow1 hat1; have HB1 := Lib.hid (own_below (World.ownsRow_lit (base := w.heap.size) (e := 5) (size := 1) w #[] 0 (Nat.le_refl _) (by decide) rfl) hgrow1 (Nat.le_refl _) (by simp) ((Below.refl _ _).alloc (Nat.le_refl _) _)); rw [Nat.zero_add, List.nil_append] at hown1; have HO1 := Lib.hid hown1; clear hown1 hgrow1 hat1)
  go_loopw [8, 9] (fun kv i wr => ∃ m : Nat, m ≤ n ∧ i = .int .i64 m ∧ wr.ownsRow w.heap.size 5 1 kv (k.length + m) (bytesV (Tok.copyN k d m)) ∧ Below w.heap.size w wr) (fun _ i _ => n - (intOf i).toNat)
  case atStart => exact ⟨0, Nat.zero_le _, rfl, HO1.out, HB1.out⟩
  case round =>
    obtain ⟨m, hm, rfl, hown, hbr⟩ := hrel
    have hbs3 := hbr.size
    by_cases hlt2 : m < n
    · have hlm := HLN.out m
      obtain ⟨z, hz⟩ : ∃ z, z = Tok.copyN k d m := ⟨_, rfl⟩
      have hsn : Tok.copyN k d (m + 1) = z ++ [z.getD (z.length - d) 0] := by rw [hz]; rfl
      rw [← hz] at hown hlm
      rw [← hlm] at hown
      obtain ⟨A3, c3, rfl⟩ := own_form hown
      obtain ⟨g, rfl, hcell⟩ := own_byte hown (i := z.length - d) (by omega)
      have HBS := Lib.hid (show bytesV (Tok.copyN k d (m + 1)) = bytesV z ++ [.int .u8 ((z.getD (z.length - d) 0).toNat : Int)] by rw [hsn, bytes_snoc])
      have hx256 := u8_bound (z.getD (z.length - d) 0)
      generalize (z.getD (z.length - d) 0).toNat = y at hcell HBS hx256
      clear hsn hz
      have i1 : (0 : Int) ≤ (z.length : Int) - (d : Int) := by omega
      have HLM := Lib.hid hlm
      have hzl : z.length ≤ 2000000000 := by omega
      have hzd : d ≤ z.length := by omega
      clear hlm
      generalize z.length = zl at hown hcell i1 HLM hzl hzd
      go_wp2_with (at_builtin; refine wpList_append_lies _ rfl _ _ _ rfl w.heap.size 5 i0 _ 1 1 Tryd.underlying22 Hi0.out Hz0.out Hz1.out Hz2.out rfl (by omega) _ zl (bytesV z) rfl (hown.alloc _) ⟨wr.heap.size, 0, none⟩ 1 1 [.int .u8 y] rfl rfl (World.news_of_block (cs := #[.int .u8 y]) (t := 5) (fr := (0, 0)) (heap_alloc_new wr _)) (by simp [Value.oneCell']) (by omega) (by unfold maxLen; omega) (by omega) (by simp; omega) (wr.heap.size + 1) (by simp) ?_; intro gg cap ww hown3 hgrow hat hlt1)
      have HO3 := Lib.hid (show ww.ownsRow w.heap.size 5 1 (.slice (some ⟨gg, 0, none⟩) (zl + 1) cap) (k.length + (m + 1)) (bytesV (Tok.copyN k d (m + 1))) by
        rw [HBS.out, ← Nat.add_assoc, ← HLM.out]; exact hown3)
      have HB3 := Lib.hid (own_below (hown.alloc _) hgrow (Nat.le_refl _) (by simp; omega) (hbr.alloc hbs3 _))
      clear hown3 hgrow hown hat hbr
      go_wp2
      go_roundw
      case rel => exact ⟨m + 1, by omega, by go_num, HO3.out, HB3.out⟩
      case measure => simp [intOf]; omega
    · obtain rfl : m = n := by omega
      obtain ⟨A3, c3, rfl⟩ := own_form hown
      have hcap := own_cap hown
      have hlm := HLN.out m
      have hq := HQ.out A3 (k.length + m) c3 (by omega)
      rw [show k.length + m - k.length = m by omega] at hq
      have HS := Lib.hid ((Sl.of_own hown).rest c3 k.length (by rw [len_bytesV, hlm]; exact hcap))
      have HO := Lib.hid hown
      have HB := Lib.hid hbr
      clear hown hbr hlm
      generalize restAt A3 c3 k.length = a2 at hq HS
      have g1 : (0 : Int) ≤ (k.length : Int) := Int.natCast_nonneg _
      go_wp2_with fail
      go_quiet (fail)
      go_wp2_with fail
      go_ret2
      refine ⟨A3, c3, a2, c3 - k.length, rfl, HO.out, ?_, below_drewN HB.out _⟩
      have h := HS.out
      simpa [bytesV, List.map_drop] using h.drewN _
end Go.Proofs.YtjfmaebgihlegaaDoor
