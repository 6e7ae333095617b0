/-
  Layer 3's do, kind by kind. Printed by tools/devdo.py.
-/
import Derived.Test.YtpaimcigkpdjpaaDevDo
namespace Go.Proofs.Ytpaimcigkpdjpaa
open Go.RowKit

set_option maxRecDepth 100000 in
set_option maxHeartbeats 2000000 in
theorem ddo_0yes (p g : Nat) (all : List UInt8) (r s : Nat) (A : Option Addr) (c : Nat) (x y n : Int) (aa : Option Addr) (data : List UInt8) (cc B : Nat) (w : World) (hp : DPair w p g A c all r s) (hal : all.length ≤ 2000) (hr : r ≤ 1000000) (hs : s ≤ 1000000) (hd : data.length ≤ 200) (hB : B ≤ p) (hBg : B ≤ g) (hsd : Sl w B aa (bytesV data)) (a : Nat) (hx : x = (a : Int)) (h : a + data.length ≤ all.length) :
    Calls Try.prog 22 #[.pointer (some ⟨p, 0, none⟩), .slice A all.length c, .agg (dopC 0 x y n aa data.length cc)] w (DDoPost p g r s w) := by
  have hpl := hp.dev.cells.lt
  have hgl := hp.dev.bytes.lt
  have hne := hp.dev.ne
  have HP := Lib.hid hp
  have HD := Lib.hid hsd
  obtain ⟨i0, hi0, hz0, hz1, hz2⟩ := info_parts byteInfoC
  have Hi0 := Lib.hid hi0
  have Hz0 := Lib.hid hz0
  have Hz1 := Lib.hid hz1
  have Hz2 := Lib.hid hz2
  have HQ := Lib.hid (fun (A : Option Addr) (n cp k m : Nat) (hk : k ≤ m) (hm : m ≤ cp) => run_slice_fromto Try.underlying22 hi0 hz1 A n cp k m hk hm)
  have _HU := Lib.hid (And.intro hal (And.intro hr (And.intro hs (And.intro hd (And.intro hB hBg)))))
  clear hi0 hz0 hz1 hz2 hp hsd
  subst hx
  go_enter Try.func22, Try.ntmps22
  unfold dopC
  go_wp2_with fail
  (with_reducible refine (devReads_any p g all r s _ (HP.out.fr ((Fr.refl _ _).alloc _)).dev).mono ?_)
  rintro e w1 ⟨rfl, hw1⟩
  have HF1 := Lib.hid (show Fr (fun _ => False) w w1 by rw [← hw1]; exact (Fr.refl _ _).alloc _)
  have HOP := Lib.hid (show Whole w1 w.heap.size 50 (dopC 0 (a : Int) y n aa data.length cc) by rw [← hw1]; exact Whole.new _ _ _)
  have HP1 := Lib.hid (HP.out.fr HF1.out)
  have HD1 := Lib.hid ((HD.out.frNe HF1.out (by omega) (fun _ _ => id)))
  have hs1 : w.heap.size < w1.heap.size := HOP.out.lt
  have q0 := HOP.out.cell 0
  have q1 := HOP.out.cell 1
  have q2 := HOP.out.cell 2
  have q3 := HOP.out.cell 3
  have q4 := HOP.out.cell 4
  simp only [dopC] at q0 q1 q2 q3 q4
  clear hw1
  go_wp2_with fail
  (with_reducible refine (devWrites_any p g all r s w1 HP1.out.dev).mono ?_)
  rintro e w2 ⟨rfl, rfl⟩

  have WY := Lib.hid (devWrite_yes p g all data r s w1.drew a aa cc B (HP1.out.dev.fr ((Fr.refl (fun _ => False) w1).drew) id id) (by omega) (by omega) h HD1.out.drew)
  have IN := fun W => Lib.hid (refIn_yes A all.length c a data.length W h (by omega))
  have hlen : (Go.splice all a data).length = all.length := length_splice _ _ _ h
  go_wp2_with fail
  go_region_held3 (fun W => W.cell? ⟨w.heap.size, 1, none⟩ = some (.int .i64 (a : Int)) ∧ W.cell? ⟨w.heap.size, 4, none⟩ = some (.slice aa data.length cc)) (first | exact ⟨q1, q4⟩ | exact HK3.out)
    (first
    | ((go_at_call 18; (with_reducible refine WY.out.mono ?_); rintro e w3 ⟨rfl, hd3, hf3⟩; have HOP3 := Lib.hid (HOP.out.drew.fr hf3 (show ¬ (w.heap.size = p ∨ w.heap.size = g) by omega)); have HK3 := Lib.hid (show w3.cell? ⟨w.heap.size, 1, none⟩ = some (.int .i64 (a : Int)) ∧ w3.cell? ⟨w.heap.size, 4, none⟩ = some (.slice aa data.length cc) from ⟨HOP3.out.cell 1, HOP3.out.cell 4⟩); have HD3 := Lib.hid hd3; have HF3 := Lib.hid (show Fr (fun k => k = p ∨ k = g) w1 w3 from ⟨hf3.os, hf3.tape, hf3.output, hf3.size, hf3.block⟩); have hs3 := HF3.out.size; clear hd3 hf3))
    | ((go_at_call 35; (with_reducible refine (IN _).out.mono ?_); rintro e w4 ⟨rfl, rfl⟩)))
  obtain ⟨r1, r4⟩ := HK3.out
  have RW := Lib.hid (refWrite_any all data a A aa c cc w1.heap.size B w3.drew (by omega) h (HP1.out.sl.frNe HF3.out (Nat.le_refl _) HP1.out.np).drew hs3 (HD1.out.keep (w' := w3) (fun q hq => HF3.out.cell (show q.block < _ by omega) (show ¬ (q.block = p ∨ q.block = g) by omega))).drew (by show B ≤ w3.heap.size; omega))
  clear q0 q1 q2 q3 q4
  go_wp2_with fail
  go_region_held3 (fun W => W.cell? ⟨w.heap.size, 1, none⟩ = some (.int .i64 (a : Int)) ∧ W.cell? ⟨w.heap.size, 4, none⟩ = some (.slice aa data.length cc)) (first | exact ⟨r1, r4⟩ | exact HK5.out)
    (first
    | ((go_at_call 36; (with_reducible refine RW.out.mono ?_); rintro e w5 ⟨A5, c5, rfl, hown5, hb5⟩; have HB5 := Lib.hid hb5; have HK5 := Lib.hid (show w5.cell? ⟨w.heap.size, 1, none⟩ = some (.int .i64 (a : Int)) ∧ w5.cell? ⟨w.heap.size, 4, none⟩ = some (.slice aa data.length cc) from ⟨(HOP3.out.drew.below HB5.out (by show w.heap.size < w3.heap.size; omega)).cell 1, (HOP3.out.drew.below HB5.out (by show w.heap.size < w3.heap.size; omega)).cell 4⟩); have HO5 := Lib.hid hown5; clear hown5 hb5)))
  have HF5 := Lib.hid (show Fr (fun _ => False) w3 w5 from ⟨HB5.out.os, HB5.out.tape, HB5.out.output, HB5.out.size, fun k hk _ => HB5.out.block k hk⟩)
  have HD5 := Lib.hid (HD3.out.fr HF5.out id id)
  have RD := Lib.hid (devReads_any p g _ r _ w5 HD5.out)
  have WD := Lib.hid (devWrites_any p g _ r _ w5 HD5.out)
  have v1 : IntKind.i64.wrap ((s : Int) + (data.length : Int)) = ((s + data.length : Nat) : Int) := by rw [IntWalk.i64_in _ (by omega)]; omega
  have v2 : (s : Int) + (data.length : Int) = ((s + data.length : Nat) : Int) := by omega
  have hsl : s + data.length ≤ s + 200 := by omega
  generalize s + data.length = sl at v1 v2 HD5 WD hsl
  go_wp2_with fail
  (with_reducible refine RD.out.mono ?_)
  rintro e w6 ⟨rfl, rfl⟩
  go_wp2_with fail
  (with_reducible refine WD.out.mono ?_)
  rintro e w6 ⟨rfl, rfl⟩
  go_wp2_with fail
  go_ret2
  exact ⟨g, A5, c5, Go.splice all a data, r, sl, by rw [hlen]; rfl, DPair.of_own HD5.out HO5.out (by show p < w3.heap.size; omega) (by show g < w3.heap.size; omega), by omega, by omega, by omega, .inl rfl, (HF1.out.mono (fun _ _ h => h.elim)).trans (HF3.out.trans (HF5.out.mono (T := fun k => k = p ∨ k = g) (fun _ _ h => h.elim)) (fun _ _ h => h)) (fun _ _ h => h)⟩
end Go.Proofs.Ytpaimcigkpdjpaa
