/-
  Layer 3's do, kind by kind. Printed by tools/devdo.py.
-/
import Derived.Test.YtpaimcigkpdjpaaDevDo
namespace Go.Proofs.Ytpaimcigkpdjpaa
open Go.RowKit

set_option maxRecDepth 100000 in
set_option maxHeartbeats 2000000 in
theorem ddo_4yes (p g : Nat) (all : List UInt8) (r s : Nat) (A : Option Addr) (c : Nat) (x y n : Int) (aa : Option Addr) (data : List UInt8) (cc B : Nat) (w : World) (hp : DPair w p g A c all r s) (hal : all.length ≤ 2000) (hr : r ≤ 1000000) (hs : s ≤ 1000000) (hd : data.length ≤ 200) (hB : B ≤ p) (hBg : B ≤ g) (hsd : Sl w B aa (bytesV data)) (a : Nat) (hx : x = (a : Int)) (h : a ≤ 2000) :
    Calls Try.prog 22 #[.pointer (some ⟨p, 0, none⟩), .slice A all.length c, .agg (dopC 4 x y n aa data.length cc)] w (DDoPost p g r s w) := by
  have hpl := hp.dev.cells.lt
  have hgl := hp.dev.bytes.lt
  have hne := hp.dev.ne
  have HP := Lib.hid hp
  have HD := Lib.hid hsd
  obtain ⟨i0, hi0, hz0, hz1, hz2⟩ := info_parts byteInfoC
  have Hi0 := Lib.hid hi0
  have Hz0 := Lib.hid hz0
  have Hz1 := Lib.hid hz1
  have Hz2 := Lib.hid hz2
  have HQ := Lib.hid (fun (A : Option Addr) (n cp k m : Nat) (hk : k ≤ m) (hm : m ≤ cp) => run_slice_fromto Try.underlying22 hi0 hz1 A n cp k m hk hm)
  have _HU := Lib.hid (And.intro hal (And.intro hr (And.intro hs (And.intro hd (And.intro hB hBg)))))
  clear hi0 hz0 hz1 hz2 hp hsd
  subst hx
  go_enter Try.func22, Try.ntmps22
  unfold dopC
  go_wp2_with fail
  (with_reducible refine (devReads_any p g all r s _ (HP.out.fr ((Fr.refl _ _).alloc _)).dev).mono ?_)
  rintro e w1 ⟨rfl, hw1⟩
  have HF1 := Lib.hid (show Fr (fun _ => False) w w1 by rw [← hw1]; exact (Fr.refl _ _).alloc _)
  have HOP := Lib.hid (show Whole w1 w.heap.size 50 (dopC 4 (a : Int) y n aa data.length cc) by rw [← hw1]; exact Whole.new _ _ _)
  have HP1 := Lib.hid (HP.out.fr HF1.out)
  have HD1 := Lib.hid ((HD.out.frNe HF1.out (by omega) (fun _ _ => id)))
  have hs1 : w.heap.size < w1.heap.size := HOP.out.lt
  have q0 := HOP.out.cell 0
  have q1 := HOP.out.cell 1
  have q2 := HOP.out.cell 2
  have q3 := HOP.out.cell 3
  have q4 := HOP.out.cell 4
  simp only [dopC] at q0 q1 q2 q3 q4
  clear hw1
  go_wp2_with fail
  (with_reducible refine (devWrites_any p g all r s w1 HP1.out.dev).mono ?_)
  rintro e w2 ⟨rfl, rfl⟩

  have RY := Lib.hid (devResize_yes p g all r s w1.drew a (HP1.out.dev.fr ((Fr.refl (fun _ => False) w1).drew) id id) (by omega))
  go_wp2_with fail
  go_region_held3 (fun W => W.cell? ⟨w.heap.size, 1, none⟩ = some (.int .i64 (a : Int))) (first | exact q1 | exact HK3.out)
    ((go_at_call 38; (with_reducible refine RY.out.mono ?_); rintro e w3 ⟨g3, rfl, hd3, hg3, hf3⟩; have HOP3 := Lib.hid (HOP.out.drew.fr hf3 (show ¬ (w.heap.size = p) by omega)); have HK3 := Lib.hid (show w3.cell? ⟨w.heap.size, 1, none⟩ = some (.int .i64 (a : Int)) from HOP3.out.cell 1); have HD3 := Lib.hid hd3; have HF3 := Lib.hid (show Fr (fun k => k = p) w1 w3 from ⟨hf3.os, hf3.tape, hf3.output, hf3.size, hf3.block⟩); have hs3 := HF3.out.size; clear hd3 hf3))
  have r1 := HK3.out
  have RR := Lib.hid (refResize_any all a A c w1.heap.size w3 (by omega) (HP1.out.sl.frNe HF3.out (Nat.le_refl _) (fun x hx h => HP1.out.np x hx (.inl h))) hs3)
  clear q0 q1 q2 q3 q4
  have hlen : (resized all a).length = a := len_resized all a
  have hg3' : w1.heap.size ≤ g3 := hg3
  have hg3l := HD3.out.bytes.lt
  go_wp2_with fail
  (with_reducible refine RR.out.mono ?_)
  rintro e w5 ⟨A5, c5, rfl, hown5, hb5⟩
  have HO5 := Lib.hid hown5
  have HF5 := Lib.hid (Fr.of_below hb5 (fun _ => False))
  have HD5 := Lib.hid (HD3.out.fr HF5.out id id)
  have RD := Lib.hid (devReads_any p g3 _ r _ w5 HD5.out)
  have WD := Lib.hid (devWrites_any p g3 _ r _ w5 HD5.out)
  have hp3 : p < w3.heap.size := by omega
  clear hown5 hb5 RR
  go_wp2_with fail
  (with_reducible refine RD.out.mono ?_)
  rintro e w6 ⟨rfl, rfl⟩
  go_wp2_with fail
  (with_reducible refine WD.out.mono ?_)
  rintro e w6 ⟨rfl, rfl⟩
  go_wp2_with fail
  go_ret2
  exact ⟨g3, A5, c5, resized all a, r, s, by rw [hlen]; rfl, DPair.of_own HD5.out HO5.out hp3 hg3l, by omega, by omega, by omega, .inr (by omega), (HF1.out.mono (fun _ _ h => h.elim)).trans ((HF3.out.mono (T := fun k => k = p ∨ k = g) (fun _ _ h => .inl h)).trans (HF5.out.mono (T := fun k => k = p ∨ k = g) (fun _ _ h => h.elim)) (fun _ _ h => h)) (fun _ _ h => h)⟩
end Go.Proofs.Ytpaimcigkpdjpaa
