/-
  dev.Device: Wipe, Resize; the reference's Resize.
-/
import Derived.Test.YtpaimcigkpdjpaaDev4
namespace Go.Proofs.Ytpaimcigkpdjpaa
open Go.RowKit

theorem noughts_V (n : Nat) : bytesV (noughts n) = List.replicate n (.int .u8 0) := by simp [bytesV, byteV, noughts]
theorem run_clear_none (w : World) (ty : TypeId) (A : Option Addr) (c : Nat) : (Builtin.clear_ #[22] ty #[.slice A 0 c]).run Try.prog w = .ok (.tuple #[]) w := by
  cases A <;> simp [go_sem, Builtin.clear_]
theorem run_clear_fr (w : World) (ty : TypeId) (A : Option Addr) (c n : Nat) (g off : Nat) (cur : List Value) (t : TypeId) (hg : Whole w g t cur.toArray) (hA : 0 < n → A = some ⟨g, off, none⟩) (hfit : off + n ≤ cur.length) :
    ∃ w', (Builtin.clear_ #[22] ty #[.slice A n c]).run Try.prog w = .ok (.tuple #[]) w' ∧ Whole w' g t (Go.splice cur off (List.replicate n (.int .u8 0))).toArray ∧ Fr (fun k => k = g) w w' := by
  by_cases h0 : n = 0
  · subst h0
    exact ⟨w, run_clear_none w ty A c, by simpa [Go.splice] using hg, Fr.refl _ _⟩
  · obtain rfl := hA (by omega)
    refine ⟨_, Lib.run_clear_slice w 22 5 ty (.int .u8 0) Try.underlying22 (fun w => by kernel_rfl) rfl rfl g off n c (by omega) (fun j hj => ?_) (fun j hj => hg.frozen _), whole_setCells g t _ off w cur hg (by simpa using hfit)⟩
    rw [hg.cell, List.getElem?_toArray, List.getElem?_eq_getElem (by omega)]
    rfl
set_option maxHeartbeats 400000 in
theorem devWipe_yes (p g : Nat) (data : List UInt8) (r s : Nat) (w : World) (a n : Nat) (hd : DevS w p g data r s) (hl : data.length ≤ 1000000000) (hs : s ≤ 1000000000000) (h : a + n ≤ data.length) :
    Calls Try.prog 37 #[.pointer (some ⟨p, 0, none⟩), .int .i64 (a : Int), .int .i64 (n : Int)] w (WritePost p g (Go.splice data a (noughts n)) r (s + n) w) := by
  have c0 := hd.c0
  have EX := Lib.hid (devExists_yes p g data r s w a n hd hl h)
  obtain ⟨i0, hi0, hz0, hz1, hz2⟩ := info_parts byteInfoC
  have hq := run_slice_fromto Try.underlying22 hi0 hz1 (some ⟨g, 0, none⟩) data.length data.length a (a + n) (by omega) h
  clear hi0 hz0 hz1 hz2
  rw [show a + n - a = n by omega] at hq
  have HA1 := Lib.hid (show 0 < n → restAt (some ⟨g, 0, none⟩) data.length a = some ⟨g, a, none⟩ from fun h0 => rest_at (by omega))
  have HBY := Lib.hid hd.bytes
  have HD := Lib.hid hd
  have hne := hd.ne
  have hplt := hd.cells.lt
  have HLS := Lib.hid (show (Go.splice data a (noughts n)).length = data.length from length_splice _ _ _ (by rw [len_noughts]; exact h))
  have HSB := Lib.hid (splice_bytes data (noughts n) a)
  rw [noughts_V] at HSB
  clear hd
  have HFIT := Lib.hid (show a + n ≤ (bytesV data).length by rw [len_bytesV]; exact h)
  generalize restAt (some ⟨g, 0, none⟩) data.length a = A1 at hq HA1
  generalize data.length - a = cc at hq
  obtain ⟨w2, hrun, hW2, hF2⟩ := run_clear_fr w 0 A1 cc n g a (bytesV data) 5 HBY.out HA1.out HFIT.out
  have HW2 := Lib.hid hW2
  have HF2 := Lib.hid hF2
  have c2 := (hF2.cell (p := ⟨p, 2, none⟩) hplt (Ne.symm hne)).trans HD.out.c2
  have f2 := (hF2.frozen (p := ⟨p, 2, none⟩) hplt (Ne.symm hne)).trans (HD.out.cells.frozen 2)
  clear hW2 hF2
  have u1 : IntKind.i64.wrap ((a : Int) + (n : Int)) = ((a + n : Nat) : Int) := by rw [IntWalk.i64_in _ (by omega)]; omega
  have u2 : (a : Int) + (n : Int) = ((a + n : Nat) : Int) := by omega
  have u3 : a ≤ a + n := by omega
  generalize a + n = an at hq u1 u2 h u3
  go_enter Try.func37, Try.ntmps37
  go_wp2_with fail
  (with_reducible refine EX.out.mono ?_)
  rintro e w1 ⟨rfl, rfl⟩
  go_wp2_with fail
  go_ret
  refine ⟨rfl, ⟨?_, ?_, hne⟩, (HF2.out.mono (fun _ _ h => .inr h)).setCell (p := ⟨p, 2, none⟩) (.inl (.inl rfl)) _⟩
  · have h := (HD.out.cells.fr HF2.out (Ne.symm hne)).set_ 2 (.int .i64 ((s : Int) + (n : Int)))
    rw [HLS.out]
    simpa using h
  · have h := HW2.out.far (q := ⟨p, 2, none⟩) hne (.int .i64 ((s : Int) + (n : Int)))
    rw [HSB.out] at h
    exact h

/-- so many bytes, zero where there were none -/
def resized (data : List UInt8) (n : Nat) : List UInt8 := data.take n ++ noughts (n - data.length)
theorem len_resized (data : List UInt8) (n : Nat) : (resized data n).length = n := by simp [resized, noughts]; omega
theorem resized_splice (data : List UInt8) (n : Nat) : Go.splice (noughts n) 0 (data.take n) = resized data n := by
  unfold Go.splice resized noughts
  rw [List.drop_replicate, List.length_take]
  simp
  omega
theorem resized_snoc (data : List UInt8) (j : Nat) : resized data (j + 1) = resized data j ++ [data.getD j 0] := by
  unfold resized noughts
  by_cases h : j < data.length
  · rw [show j + 1 - data.length = 0 by omega, show j - data.length = 0 by omega, List.take_succ_eq_append_getElem h, List.getD_eq_getElem?_getD, List.getElem?_eq_getElem h]
    simp
  · rw [show j + 1 - data.length = (j - data.length) + 1 by omega, List.take_of_length_le (by omega), List.take_of_length_le (by omega), List.replicate_succ', List.getD_eq_getElem?_getD, List.getElem?_eq_none (by omega), List.append_assoc]
    rfl
def ResizePost (p : Nat) (data : List UInt8) (r s : Nat) (w : World) (e : Ending) (w' : World) : Prop :=
  ∃ g', e = .returned (.int .i64 0) ∧ DevS w' p g' data r s ∧ w.heap.size ≤ g' ∧ Fr (fun k => k = p) w w'
set_option maxHeartbeats 400000 in
theorem devResize_yes (p g : Nat) (data : List UInt8) (r s : Nat) (w : World) (n : Nat) (hd : DevS w p g data r s) (hn : n ≤ 16777216) :
    Calls Try.prog 38 #[.pointer (some ⟨p, 0, none⟩), .int .i64 (n : Int)] w (ResizePost p (resized data n) r s w) := by
  have SZ := Lib.hid (devSized (n : Int) w)
  rw [show decide ((0 : Int) ≤ (n : Int) ∧ (n : Int) ≤ 16777216) = true from decide_eq_true (by omega)] at SZ
  obtain ⟨i0, hi0, hz0, hz1, hz2⟩ := info_parts byteInfoC
  have HI := Lib.hid (show (Try.prog.info? 5).map (·.size) = some 1 by rw [hi0]; simp [hz1])
  have Hi0 := Lib.hid hi0
  have Hz0 := Lib.hid hz0
  have Hz1 := Lib.hid hz1
  have Hz2 := Lib.hid (show i0.bytes * n ≤ 281474976710656 by rw [hz2]; omega)
  clear hi0 hz0 hz1 hz2
  have HD := Lib.hid hd
  have hplt := hd.cells.lt
  have HSB := Lib.hid (splice_bytes (noughts n) (data.take n) 0)
  rw [resized_splice] at HSB
  have HN := Lib.hid (show (bytesV (data.take n)).length = Nat.min data.length n by rw [len_bytesV, List.length_take, Nat.min_comm])
  have HFIT := Lib.hid (show 0 + (bytesV (data.take n)).length ≤ (bytesV (noughts n)).length by rw [len_bytesV, len_bytesV, List.length_take, len_noughts]; omega)
  have HOC := Lib.hid (bytes_oneCell (data.take n))
  have HLR := Lib.hid (len_resized data n)
  clear hd
  go_enter Try.func38, Try.ntmps38
  go_wp2_with fail
  (with_reducible refine SZ.out.mono ?_)
  rintro e w1 ⟨rfl, rfl⟩
  go_wp2_with (at_make; refine wpList_make_full _ rfl _ _ _ rfl w.heap.size 5 i0 _ 1 Try.underlying22 Hi0.out Hz0.out Hz1.out .i64 .i64 _ _ n rfl rfl rfl rfl Hz2.out (by unfold maxLen; omega) (Nat.le_refl _) ?_; intro w1 hown1 hgrow1; have hw1 := whole_of_own hown1; rw [Win.made, half_noughts] at hw1; have HF1 := Lib.hid ((Fr.refl (fun _ => False) w).grown hgrow1 (fun k _ hk => by cases hk)); have HD1 := Lib.hid (HD.out.fr HF1.out id id); have c0 := HD1.out.c0; (obtain ⟨w2, hrun, hW2, hF2⟩ := run_copy_fr (P := Try.prog) w1 22 22 3 5 Try.underlying22 HI.out (some ⟨w.heap.size, 0, none⟩) (some ⟨g, 0, none⟩) n n data.length data.length w.heap.size 0 (bytesV (noughts n)) 5 hw1 (bytesV (data.take n)) HN.out (fun _ => rfl) w1.heap.size (show Sl w1 w1.heap.size _ (bytesV (data.take n)) by have h := (sl_of_whole HD1.out.bytes).take n; simpa [bytesV, List.map_take] using h) HFIT.out HOC.out); rw [HSB.out] at hW2; rw [show goInt (bytesV (data.take n)).length = .int .i64 (((bytesV (data.take n)).length : Nat) : Int) from rfl] at hrun; generalize (bytesV (data.take n)).length = kk at hrun; have HW2 := Lib.hid hW2; have HF2 := Lib.hid hF2; have hgl := hw1.lt; have hpne : ¬ p = w.heap.size := (by omega); have f2 := (hF2.frozen (p := ⟨p, 0, none⟩) (show p < _ by omega) hpne).trans (HD1.out.cells.frozen 0); have d2 := (hF2.cell (p := ⟨p, 0, none⟩) (show p < _ by omega) hpne).trans c0; clear hown1 hgrow1 hw1 hW2 hF2)
  go_ret
  refine ⟨w.heap.size, rfl, ⟨?_, ?_, by omega⟩, Nat.le_refl _, ((HF1.out.mono (fun _ _ h => h.elim)).trans (HF2.out.mono (T := fun k => k = p ∨ k = w.heap.size) (fun _ _ h => .inr h)) (fun k hk h => h.elim id (fun h => by omega))).setCell (p := ⟨p, 0, none⟩) (.inl rfl) _⟩
  · have h := (HD1.out.cells.fr HF2.out hpne).set_ 0 (.slice (some ⟨w.heap.size, 0, none⟩) n n)
    rw [HLR.out]
    simpa using h
  · exact HW2.out.far (q := ⟨p, 0, none⟩) (by show w.heap.size ≠ p; omega) _

set_option maxRecDepth 100000 in
set_option maxHeartbeats 800000 in
theorem refResize_any (data : List UInt8) (n : Nat) (A : Option Addr) (c B : Nat) (w : World) (hn : n ≤ 1000000000) (hsl : Sl w B A (bytesV data)) (hB : B ≤ w.heap.size) :
    Calls Try.prog 39 #[.slice A data.length c, .int .i64 (n : Int)] w (OutPost (resized data n) w) := by
  have HS := Lib.hid hsl
  clear hsl
  obtain ⟨i0, hi0, hz0, hz1, hz2⟩ := info_parts byteInfoC
  have Hi0 := Lib.hid hi0
  have Hz0 := Lib.hid hz0
  have Hz1 := Lib.hid hz1
  have Hz2 := Lib.hid hz2
  clear hi0 hz0 hz1 hz2
  go_enter Try.func39, Try.ntmps39
  go_wp2_with fail
  go_loopw [5, 6] (fun o i wr => ∃ j : Nat, j ≤ n ∧ i = .int .i64 j ∧ wr.ownsRow w.heap.size 5 1 o j (bytesV (resized data j)) ∧ Below w.heap.size w wr) (fun _ i _ => n - (intOf i).toNat)
  case atStart => exact ⟨0, Nat.zero_le _, rfl, by simpa [resized, noughts, bytesV] using World.ownsRow_nil _ _ _ _, Below.refl _ _⟩
  case round =>
    obtain ⟨j, hj, rfl, hown, hbr⟩ := hrel
    have hbs := hbr.size
    obtain ⟨A1, c1, rfl⟩ := own_form hown
    by_cases hlt : j < n
    · have HSN := Lib.hid (show bytesV (resized data (j + 1)) = bytesV (resized data j) ++ [.int .u8 ((data.getD j 0).toNat : Int)] by rw [resized_snoc, bytes_snoc])
      have hy := u8_bound (data.getD j 0)
      generalize bytesV (resized data j) = xs at hown HSN
      by_cases hjd : j < data.length
      · obtain ⟨bb, oo, hA, hbb, x1⟩ := (HS.out.below hbr hB).byte (k := j) hjd
        subst hA
        rw [show data[j] = data.getD j 0 by rw [List.getD_eq_getElem?_getD, List.getElem?_eq_getElem hjd]; rfl] at x1
        generalize (data.getD j 0).toNat = y at x1 HSN hy
        have k0 : (0 : Int) ≤ (j : Int) := Int.natCast_nonneg _
        have k1 : (j : Int) < (data.length : Int) := by omega
        go_wp2_with (at_builtin; refine wpList_append_lies _ rfl _ _ _ rfl w.heap.size 5 i0 _ 1 1 Try.underlying22 Hi0.out Hz0.out Hz1.out Hz2.out rfl (by omega) _ j xs rfl (hown.alloc _) ⟨wr.heap.size, 0, none⟩ 1 1 [.int .u8 y] rfl rfl (World.news_of_block (cs := #[.int .u8 y]) (t := 5) (fr := (0, 0)) (heap_alloc_new wr _)) (by simp [Value.oneCell']) (by omega) (by unfold maxLen; omega) (by omega) (by simp; omega) (wr.heap.size + 1) (by simp) ?_; intro gg cap ww hown3 hgrow hat hlt1)
        have HO3 := Lib.hid (show ww.ownsRow w.heap.size 5 1 (.slice (some ⟨gg, 0, none⟩) (j + 1) cap) (j + 1) (bytesV (resized data (j + 1))) by rw [HSN.out]; exact hown3)
        have HB3 := Lib.hid (own_below (hown.alloc _) hgrow (Nat.le_refl _) (by simp; omega) (hbr.alloc hbs _))
        clear hown3 hgrow hown hat hbr
        go_wp2
        go_roundw
        case rel => exact ⟨j + 1, by omega, by go_num, HO3.out, HB3.out⟩
        case measure => simp [intOf]; omega
      · rw [show data.getD j 0 = 0 by rw [List.getD_eq_getElem?_getD, List.getElem?_eq_none (by omega)]; rfl] at HSN
        go_wp2_with (at_builtin; refine wpList_append_lies _ rfl _ _ _ rfl w.heap.size 5 i0 _ 1 1 Try.underlying22 Hi0.out Hz0.out Hz1.out Hz2.out rfl (by omega) _ j xs rfl (hown.alloc _) ⟨wr.heap.size, 0, none⟩ 1 1 [.int .u8 0] rfl rfl (World.news_of_block (cs := #[.int .u8 0]) (t := 5) (fr := (0, 0)) (heap_alloc_new wr _)) (by simp [Value.oneCell']) (by omega) (by unfold maxLen; omega) (by omega) (by simp; omega) (wr.heap.size + 1) (by simp) ?_; intro gg cap ww hown3 hgrow hat hlt1)
        have HO3 := Lib.hid (show ww.ownsRow w.heap.size 5 1 (.slice (some ⟨gg, 0, none⟩) (j + 1) cap) (j + 1) (bytesV (resized data (j + 1))) by rw [HSN.out]; exact hown3)
        have HB3 := Lib.hid (own_below (hown.alloc _) hgrow (Nat.le_refl _) (by simp; omega) (hbr.alloc hbs _))
        clear hown3 hgrow hown hat hbr
        go_wp2
        go_roundw
        case rel => exact ⟨j + 1, by omega, by go_num, HO3.out, HB3.out⟩
        case measure => simp [intOf]; omega
    · obtain rfl : j = n := by omega
      have HO := Lib.hid hown
      have HB := Lib.hid hbr
      have hll := len_resized data j
      clear hown hbr
      go_wp2_with fail
      go_ret
      exact ⟨A1, c1, by rw [hll]; rfl, by rw [hll]; exact HO.out, HB.out⟩
end Go.Proofs.Ytpaimcigkpdjpaa
