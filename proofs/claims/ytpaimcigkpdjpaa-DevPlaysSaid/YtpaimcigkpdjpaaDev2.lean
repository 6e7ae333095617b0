/-
  dev.Device: Write, Move; the laws' helper all; the page's example.
-/
import Derived.Test.YtpaimcigkpdjpaaDev
namespace Go.Proofs.Ytpaimcigkpdjpaa
open Go.RowKit

theorem splice_bytes (l b : List UInt8) (a : Nat) : Go.splice (bytesV l) a (bytesV b) = bytesV (Go.splice l a b) := by
  simp [Go.splice, bytesV, List.map_take, List.map_drop]
theorem rest_at {g len a : Nat} (h : a < len) : restAt (some ⟨g, 0, none⟩) len a = some ⟨g, a, none⟩ := by
  unfold restAt
  rw [if_neg (by omega)]
  simp only [Option.map_some, Addr.add]
  split
  · rename_i h0; simp [h0]
  · simp

def WritePost (p g : Nat) (data : List UInt8) (r s : Nat) (w : World) (e : Ending) (w' : World) : Prop :=
  e = .returned (.int .i64 0) ∧ DevS w' p g data r s ∧ Fr (fun k => k = p ∨ k = g) w w'
set_option maxHeartbeats 400000 in
theorem devWrite_yes (p g : Nat) (data b : List UInt8) (r s : Nat) (w : World) (a : Nat) (xa : Option Addr) (c B : Nat) (hd : DevS w p g data r s) (hl : data.length ≤ 1000000000) (hs : s ≤ 1000000000000) (h : a + b.length ≤ data.length) (hsl : Sl w B xa (bytesV b)) :
    Calls Try.prog 18 #[.pointer (some ⟨p, 0, none⟩), .int .i64 (a : Int), .slice xa b.length c] w (WritePost p g (Go.splice data a b) r (s + b.length) w) := by
  have c0 := hd.c0
  have EX := Lib.hid (devExists_yes p g data r s w a b.length hd hl h)
  obtain ⟨i0, hi0, hz0, hz1, hz2⟩ := info_parts byteInfoC
  have hq := run_slice_from Try.underlying22 hi0 hz1 (some ⟨g, 0, none⟩) data.length data.length a (by omega)
  have HI := Lib.hid (show (Try.prog.info? 5).map (·.size) = some 1 by rw [hi0]; simp [hz1])
  clear hi0 hz0 hz1 hz2
  have HA1 := Lib.hid (show 0 < (bytesV b).length → restAt (some ⟨g, 0, none⟩) data.length a = some ⟨g, a, none⟩ from fun h0 => rest_at (by rw [len_bytesV] at h0; omega))
  have HN := Lib.hid (show (bytesV b).length = Nat.min b.length (data.length - a) by rw [len_bytesV]; exact (Nat.min_eq_left (by omega)).symm)
  have HFIT := Lib.hid (show a + (bytesV b).length ≤ (bytesV data).length by rw [len_bytesV, len_bytesV]; exact h)
  have HBY := Lib.hid hd.bytes
  have HD := Lib.hid hd
  have HS := Lib.hid hsl
  have HOC := Lib.hid (bytes_oneCell b)
  have hne := hd.ne
  have hplt := hd.cells.lt
  have HLS := Lib.hid (show (Go.splice data a b).length = data.length from length_splice _ _ _ h)
  have HSB := Lib.hid (splice_bytes data b a)
  clear hd hsl
  generalize restAt (some ⟨g, 0, none⟩) data.length a = A1 at hq HA1
  generalize data.length - a = cc at hq HN
  obtain ⟨w2, hrun, hW2, hF2⟩ := run_copy_fr (P := Try.prog) w 22 22 3 5 Try.underlying22 HI.out A1 xa cc cc b.length c g a (bytesV data) 5 HBY.out (bytesV b) HN.out HA1.out B HS.out HFIT.out HOC.out
  rw [show goInt (bytesV b).length = .int .i64 (b.length : Int) by rw [len_bytesV]; rfl] at hrun
  have HW2 := Lib.hid hW2
  have HF2 := Lib.hid hF2
  have c2 := (hF2.cell (p := ⟨p, 2, none⟩) hplt (Ne.symm hne)).trans HD.out.c2
  have f2 := (hF2.frozen (p := ⟨p, 2, none⟩) hplt (Ne.symm hne)).trans (HD.out.cells.frozen 2)
  clear hW2 hF2
  go_enter Try.func18, Try.ntmps18
  go_wp2_with fail
  (with_reducible refine EX.out.mono ?_)
  rintro e w1 ⟨rfl, rfl⟩
  go_wp2_with fail
  go_ret
  refine ⟨rfl, ⟨?_, ?_, hne⟩, (HF2.out.mono (fun _ _ h => .inr h)).setCell (p := ⟨p, 2, none⟩) (.inl (.inl rfl)) _⟩
  · have h := (HD.out.cells.fr HF2.out (Ne.symm hne)).set_ 2 (.int .i64 ((s : Int) + (b.length : Int)))
    rw [HLS.out]
    simpa using h
  · have h := HW2.out.far (q := ⟨p, 2, none⟩) hne (.int .i64 ((s : Int) + (b.length : Int)))
    rw [HSB.out] at h
    exact h
theorem devWrite_no (p g : Nat) (data : List UInt8) (n : Nat) (r s : Nat) (w : World) (a : Int) (xa : Option Addr) (c : Nat) (hd : DevS w p g data r s) (hl : data.length ≤ 1000000000) (h : ¬ (0 ≤ (n : Int) ∧ 0 ≤ a ∧ a ≤ data.length ∧ (n : Int) ≤ data.length - a)) :
    Calls Try.prog 18 #[.pointer (some ⟨p, 0, none⟩), .int .i64 a, .slice xa n c] w fun e w' => e = .returned (.int .i64 2) ∧ w = w' := by
  have EX := Lib.hid (devExists_no p g data r s w a (n : Int) hd hl h)
  clear h hd
  go_enter Try.func18, Try.ntmps18
  go_wp2_with fail
  (with_reducible refine EX.out.mono ?_)
  rintro e w1 ⟨rfl, rfl⟩
  go_wp2_with fail
  go_ret
  exact ⟨rfl, rfl⟩

set_option maxRecDepth 100000 in
set_option maxHeartbeats 800000 in
theorem devMove_yes (p g : Nat) (data : List UInt8) (r s : Nat) (w : World) (a b n : Nat) (hd : DevS w p g data r s) (hl : data.length ≤ 1000000000) (hr : r ≤ 1000000000000) (hs : s ≤ 1000000000000) (ha : a + n ≤ data.length) (hb : b + n ≤ data.length) :
    Calls Try.prog 29 #[.pointer (some ⟨p, 0, none⟩), .int .i64 (a : Int), .int .i64 (b : Int), .int .i64 (n : Int)] w (WritePost p g (Go.splice data b (part data a n)) (r + n) (s + n) w) := by
  have c0 := hd.c0
  have EX1 := Lib.hid (devExists_yes p g data r s w a n hd hl ha)
  have EX2 := Lib.hid (devExists_yes p g data r s w b n hd hl hb)
  obtain ⟨i0, hi0, hz0, hz1, hz2⟩ := info_parts byteInfoC
  have hq1 := run_slice_fromto Try.underlying22 hi0 hz1 (some ⟨g, 0, none⟩) data.length data.length a (a + n) (by omega) ha
  have hq2 := run_slice_fromto Try.underlying22 hi0 hz1 (some ⟨g, 0, none⟩) data.length data.length b (b + n) (by omega) hb
  have HI := Lib.hid (show (Try.prog.info? 5).map (·.size) = some 1 by rw [hi0]; simp [hz1])
  clear hi0 hz0 hz1 hz2
  rw [show a + n - a = n by omega] at hq1
  rw [show b + n - b = n by omega] at hq2
  have hpl := len_part data a n ha
  have HPL := Lib.hid hpl
  have HA1 := Lib.hid (show 0 < (bytesV (part data a n)).length → restAt (some ⟨g, 0, none⟩) data.length b = some ⟨g, b, none⟩ from fun h0 => rest_at (by rw [len_bytesV] at h0; omega))
  have HN := Lib.hid (show (bytesV (part data a n)).length = Nat.min n n by rw [len_bytesV, hpl]; exact (Nat.min_self n).symm)
  have HFIT := Lib.hid (show b + (bytesV (part data a n)).length ≤ (bytesV data).length by rw [len_bytesV, len_bytesV, hpl]; exact hb)
  have HBY := Lib.hid hd.bytes
  have HD := Lib.hid hd
  have HS := Lib.hid (sl_part hd.bytes a n data.length (Nat.le_refl _))
  have HOC := Lib.hid (bytes_oneCell (part data a n))
  have hne := hd.ne
  have hplt := hd.cells.lt
  have HLS := Lib.hid (show (Go.splice data b (part data a n)).length = data.length from length_splice _ _ _ (by rw [hpl]; exact hb))
  have HSB := Lib.hid (splice_bytes data (part data a n) b)
  clear hd hpl
  generalize restAt (some ⟨g, 0, none⟩) data.length b = B1 at hq2 HA1
  generalize restAt (some ⟨g, 0, none⟩) data.length a = A1 at hq1 HS
  have e1 : IntKind.i64.wrap ((a : Int) + (n : Int)) = ((a + n : Nat) : Int) := by rw [IntWalk.i64_in _ (by omega)]; omega
  have e2 : (a : Int) + (n : Int) = ((a + n : Nat) : Int) := by omega
  have e3 : IntKind.i64.wrap ((b : Int) + (n : Int)) = ((b + n : Nat) : Int) := by rw [IntWalk.i64_in _ (by omega)]; omega
  have e4 : (b : Int) + (n : Int) = ((b + n : Nat) : Int) := by omega
  have e5 : IntKind.i64.wrap ((a + n : Nat) : Int) = ((a + n : Nat) : Int) := IntWalk.i64_in _ (by omega)
  have e6 : IntKind.i64.wrap ((b + n : Nat) : Int) = ((b + n : Nat) : Int) := IntWalk.i64_in _ (by omega)
  have u1 : (0 : Int) ≤ (a : Int) := Int.natCast_nonneg _
  have u2 : (a : Int) ≤ ((a + n : Nat) : Int) := by omega
  have u3 : ((a + n : Nat) : Int) ≤ (data.length : Int) := by omega
  have u4 : (0 : Int) ≤ (b : Int) := Int.natCast_nonneg _
  have u5 : (b : Int) ≤ ((b + n : Nat) : Int) := by omega
  have u6 : ((b + n : Nat) : Int) ≤ (data.length : Int) := by omega
  have hnb : n ≤ 1000000000 := by omega
  generalize a + n = an at e1 e2 e5 hq1 u2 u3 ha
  generalize b + n = bn at e3 e4 e6 hq2 u5 u6 hb
  generalize data.length - a = ca at hq1
  generalize data.length - b = cb at hq2
  generalize part data a n = pt at HN HFIT HS HOC HLS HSB HPL HA1
  go_enter Try.func29, Try.ntmps29
  go_wp2_with fail
  (with_reducible refine EX1.out.mono ?_)
  rintro e w1 ⟨rfl, rfl⟩
  go_wp2_with fail
  (with_reducible refine EX2.out.mono ?_)
  rintro e w1 ⟨rfl, rfl⟩
  go_wp2_with fail
  go_region_held3 (fun W => W.cell? ⟨p, 0, none⟩ = some (.slice (some ⟨g, 0, none⟩) data.length data.length)) (first | exact c0 | exact (hF2.cell (p := ⟨p, 0, none⟩) hplt (Ne.symm hne)).trans c0)
    ((refine step_copy_fr (by rfl) _ _ _ _ (by rfl) 5 Try.underlying22 HI.out _ _ _ _ _ _ (by rfl) (by rfl) g b (bytesV data) 5 HBY.out.drew (bytesV pt) HN.out HA1.out w.heap.size HS.out.drew HFIT.out HOC.out ?_; intro w2 hW2 hF2))
  have HW2 := Lib.hid hW2
  have HF2 := Lib.hid (show Fr (fun k => k = g) w w2 from ⟨hF2.os, hF2.tape, hF2.output, hF2.size, hF2.block⟩)
  have c1 := (HF2.out.cell (p := ⟨p, 1, none⟩) hplt (Ne.symm hne)).trans HD.out.c1
  have f1 := (HF2.out.frozen (p := ⟨p, 1, none⟩) hplt (Ne.symm hne)).trans (HD.out.cells.frozen 1)
  have c2 := (HF2.out.cell (p := ⟨p, 2, none⟩) hplt (Ne.symm hne)).trans HD.out.c2
  have f2 := (HF2.out.frozen (p := ⟨p, 2, none⟩) hplt (Ne.symm hne)).trans (HD.out.cells.frozen 2)
  clear hW2 hF2 hq1 hq2 e1 e2 e3 e4 e5 e6
  go_wp2_with fail
  go_ret
  refine ⟨rfl, ⟨?_, ?_, hne⟩, ((HF2.out.mono (fun _ _ h => .inr h)).setCell (p := ⟨p, 1, none⟩) (.inl (.inl rfl)) _).setCell (p := ⟨p, 2, none⟩) (.inl (.inl rfl)) _⟩
  · have h := ((HD.out.cells.fr HF2.out (Ne.symm hne)).set_ 1 (.int .i64 ((r : Int) + (n : Int)))).set_ 2 (.int .i64 ((s : Int) + (n : Int)))
    rw [HLS.out]
    simpa using h
  · have h := (HW2.out.far (q := ⟨p, 1, none⟩) hne (.int .i64 ((r : Int) + (n : Int)))).far (q := ⟨p, 2, none⟩) hne (.int .i64 ((s : Int) + (n : Int)))
    rw [HSB.out] at h
    exact h

theorem part_all (l : List UInt8) : part l 0 l.length = l := by simp [part]
theorem devAll_any (p g : Nat) (data : List UInt8) (r s : Nat) (w : World) (hd : DevS w p g data r s) (hl : data.length ≤ 1000000000) (hr : r ≤ 1000000000000) :
    Calls Try.prog 19 #[.pointer (some ⟨p, 0, none⟩)] w fun e w' => e = .returned (.string (strOf data)) ∧ DevS w' p g data (r + data.length) s ∧ Fr (fun k => k = p) w w' := by
  have CP := Lib.hid (devCap_any p g data r s w hd)
  have RD := Lib.hid (devRead_yes p g data r s w 0 data.length hd hl hr (by omega))
  clear hd
  go_enter Try.func19, Try.ntmps19
  go_wp2_with fail
  (with_reducible refine CP.out.mono ?_)
  rintro e w1 ⟨rfl, rfl⟩
  go_wp2_with fail
  refine RD.out.mono ?_
  rintro e w1 ⟨A, c, rfl, hown, hd1, hf1⟩
  rw [part_all] at hown
  have r0 := run_str (P := Try.prog) w1 w1.heap.size 22 9 5 A data c Try.underlying22 Try.underlying5 Try.underlying9 (Sl.of_own hown)
  have HD := Lib.hid hd1
  have HF := Lib.hid hf1
  clear hown hd1 hf1
  go_wp2_with fail
  go_ret
  exact ⟨rfl, HD.out, HF.out⟩
end Go.Proofs.Ytpaimcigkpdjpaa
