/-
  Layer 3's do, kind by kind. Printed by tools/devdo.py.
-/
import Derived.Test.YtpaimcigkpdjpaaDevDo
namespace Go.Proofs.Ytpaimcigkpdjpaa
open Go.RowKit

set_option maxRecDepth 100000 in
set_option maxHeartbeats 2000000 in
theorem ddo_0no (p g : Nat) (all : List UInt8) (r s : Nat) (A : Option Addr) (c : Nat) (x y n : Int) (aa : Option Addr) (data : List UInt8) (cc B : Nat) (w : World) (hp : DPair w p g A c all r s) (hal : all.length ≤ 2000) (hr : r ≤ 1000000) (hs : s ≤ 1000000) (hd : data.length ≤ 200) (hB : B ≤ p) (hBg : B ≤ g) (hsd : Sl w B aa (bytesV data)) (h : ¬ (0 ≤ (data.length : Int) ∧ 0 ≤ x ∧ x ≤ all.length ∧ (data.length : Int) ≤ all.length - x)) :
    Calls Try.prog 22 #[.pointer (some ⟨p, 0, none⟩), .slice A all.length c, .agg (dopC 0 x y n aa data.length cc)] w (DDoPost p g r s w) := by
  have hpl := hp.dev.cells.lt
  have hgl := hp.dev.bytes.lt
  have hne := hp.dev.ne
  have HP := Lib.hid hp
  have HD := Lib.hid hsd
  obtain ⟨i0, hi0, hz0, hz1, hz2⟩ := info_parts byteInfoC
  have Hi0 := Lib.hid hi0
  have Hz0 := Lib.hid hz0
  have Hz1 := Lib.hid hz1
  have Hz2 := Lib.hid hz2
  have HQ := Lib.hid (fun (A : Option Addr) (n cp k m : Nat) (hk : k ≤ m) (hm : m ≤ cp) => run_slice_fromto Try.underlying22 hi0 hz1 A n cp k m hk hm)
  have _HU := Lib.hid (And.intro hal (And.intro hr (And.intro hs (And.intro hd (And.intro hB hBg)))))
  clear hi0 hz0 hz1 hz2 hp hsd
  have WN := fun W (hd : DevS W p g all r s) => Lib.hid (devWrite_no p g all data.length r s W x aa cc hd (by omega) h)
  have IN := fun W => Lib.hid (refIn_no A all.length c x (data.length : Int) W (by omega) h)
  clear h
  go_enter Try.func22, Try.ntmps22
  unfold dopC
  go_wp2_with fail
  (with_reducible refine (devReads_any p g all r s _ (HP.out.fr ((Fr.refl _ _).alloc _)).dev).mono ?_)
  rintro e w1 ⟨rfl, hw1⟩
  have HF1 := Lib.hid (show Fr (fun _ => False) w w1 by rw [← hw1]; exact (Fr.refl _ _).alloc _)
  have HOP := Lib.hid (show Whole w1 w.heap.size 50 (dopC 0 x y n aa data.length cc) by rw [← hw1]; exact Whole.new _ _ _)
  have HP1 := Lib.hid (HP.out.fr HF1.out)
  have HD1 := Lib.hid ((HD.out.frNe HF1.out (by omega) (fun _ _ => id)))
  have hs1 : w.heap.size < w1.heap.size := HOP.out.lt
  have q0 := HOP.out.cell 0
  have q1 := HOP.out.cell 1
  have q2 := HOP.out.cell 2
  have q3 := HOP.out.cell 3
  have q4 := HOP.out.cell 4
  simp only [dopC] at q0 q1 q2 q3 q4
  clear hw1
  go_wp2_with fail
  (with_reducible refine (devWrites_any p g all r s w1 HP1.out.dev).mono ?_)
  rintro e w2 ⟨rfl, rfl⟩

  go_wp2_with fail
  go_region_held3 (fun W => W.cell? ⟨w.heap.size, 1, none⟩ = some (.int .i64 x) ∧ W.cell? ⟨w.heap.size, 4, none⟩ = some (.slice aa data.length cc)) (first | exact ⟨q1, q4⟩)
    (first
    | ((go_at_call 18; (with_reducible refine (WN _ (by exact HP1.out.dev.fr ((Fr.refl (fun _ => False) w1).drew) id id)).out.mono ?_); rintro e w3 ⟨rfl, rfl⟩))
    | ((go_at_call 35; (with_reducible refine (IN _).out.mono ?_); rintro e w3 ⟨rfl, rfl⟩)))
  go_wp2_with fail
  (with_reducible refine (devReads_any p g all r s _ (by exact HP1.out.dev.fr ((Fr.refl (fun _ => False) w1).drew) id id)).mono ?_)
  rintro e w4 ⟨rfl, hw4⟩
  have HF4 := Lib.hid (show Fr (fun _ => False) w1 w4 by rw [← hw4]; exact (Fr.refl _ _).drew)
  clear hw4
  go_wp2_with fail
  (with_reducible refine (devWrites_any p g all r s w4 (HP1.out.fr HF4.out).dev).mono ?_)
  rintro e w5 ⟨rfl, rfl⟩
  go_wp2_with fail
  go_ret2
  exact ⟨g, A, c, all, r, s, rfl, HP1.out.fr HF4.out, by omega, by omega, by omega, .inl rfl, (HF1.out.mono (fun _ _ h => h.elim)).trans (HF4.out.mono (T := fun k => k = p ∨ k = g) (fun _ _ h => h.elim)) (fun _ _ h => h)⟩
end Go.Proofs.Ytpaimcigkpdjpaa
