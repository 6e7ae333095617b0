/-
  Layer 3's do, kind by kind. Printed by tools/devdo.py.
-/
import Derived.Test.YtpaimcigkpdjpaaDevDo
namespace Go.Proofs.Ytpaimcigkpdjpaa
open Go.RowKit

set_option maxRecDepth 100000 in
set_option maxHeartbeats 2000000 in
theorem ddo_1yes (p g : Nat) (all : List UInt8) (r s : Nat) (A : Option Addr) (c : Nat) (x y n : Int) (aa : Option Addr) (data : List UInt8) (cc B : Nat) (w : World) (hp : DPair w p g A c all r s) (hal : all.length ≤ 2000) (hr : r ≤ 1000000) (hs : s ≤ 1000000) (hd : data.length ≤ 200) (hB : B ≤ p) (hBg : B ≤ g) (hsd : Sl w B aa (bytesV data)) (a m : Nat) (hx : x = (a : Int)) (hn : n = (m : Int)) (h : a + m ≤ all.length) :
    Calls Try.prog 22 #[.pointer (some ⟨p, 0, none⟩), .slice A all.length c, .agg (dopC 1 x y n aa data.length cc)] w (DDoPost p g r s w) := by
  have hpl := hp.dev.cells.lt
  have hgl := hp.dev.bytes.lt
  have hne := hp.dev.ne
  have HP := Lib.hid hp
  have HD := Lib.hid hsd
  obtain ⟨i0, hi0, hz0, hz1, hz2⟩ := info_parts byteInfoC
  have Hi0 := Lib.hid hi0
  have Hz0 := Lib.hid hz0
  have Hz1 := Lib.hid hz1
  have Hz2 := Lib.hid hz2
  have HQ := Lib.hid (fun (A : Option Addr) (n cp k m : Nat) (hk : k ≤ m) (hm : m ≤ cp) => run_slice_fromto Try.underlying22 hi0 hz1 A n cp k m hk hm)
  have _HU := Lib.hid (And.intro hal (And.intro hr (And.intro hs (And.intro hd (And.intro hB hBg)))))
  clear hi0 hz0 hz1 hz2 hp hsd
  subst hx hn
  go_enter Try.func22, Try.ntmps22
  unfold dopC
  go_wp2_with fail
  (with_reducible refine (devReads_any p g all r s _ (HP.out.fr ((Fr.refl _ _).alloc _)).dev).mono ?_)
  rintro e w1 ⟨rfl, hw1⟩
  have HF1 := Lib.hid (show Fr (fun _ => False) w w1 by rw [← hw1]; exact (Fr.refl _ _).alloc _)
  have HOP := Lib.hid (show Whole w1 w.heap.size 50 (dopC 1 (a : Int) y (m : Int) aa data.length cc) by rw [← hw1]; exact Whole.new _ _ _)
  have HP1 := Lib.hid (HP.out.fr HF1.out)
  have HD1 := Lib.hid ((HD.out.frNe HF1.out (by omega) (fun _ _ => id)))
  have hs1 : w.heap.size < w1.heap.size := HOP.out.lt
  have q0 := HOP.out.cell 0
  have q1 := HOP.out.cell 1
  have q2 := HOP.out.cell 2
  have q3 := HOP.out.cell 3
  have q4 := HOP.out.cell 4
  simp only [dopC] at q0 q1 q2 q3 q4
  clear hw1
  go_wp2_with fail
  (with_reducible refine (devWrites_any p g all r s w1 HP1.out.dev).mono ?_)
  rintro e w2 ⟨rfl, rfl⟩

  have RY := Lib.hid (devRead_yes p g all r s w1 a m HP1.out.dev (by omega) (by omega) h)
  go_wp2_with fail
  (with_reducible refine RY.out.mono ?_)
  rintro e w3 ⟨A3, c3, rfl, hown3, hd3, hf3⟩
  have HF3 := Lib.hid hf3
  have HD3 := Lib.hid hd3
  have HOP3 := Lib.hid (HOP.out.fr hf3 (show ¬ (w.heap.size = p) by omega))
  have p1 := HOP3.out.cell 1
  have p3 := HOP3.out.cell 3
  simp only [dopC] at p1 p3
  have HS3 := Lib.hid (HP1.out.sl.frNe hf3 (Nat.le_refl _) (fun x hx h => HP1.out.np x hx (.inl h)))
  have HO3 := Lib.hid hown3
  clear hf3 hd3 hown3 q0 q1 q2 q3 q4 RY
  have IN := Lib.hid (refIn_yes A all.length c a m w3 h (by omega))
  go_wp2_with fail
  (with_reducible refine IN.out.mono ?_)
  rintro e w4 ⟨rfl, rfl⟩
  obtain ⟨am, ham⟩ : ∃ am, am = a + m := ⟨_, rfl⟩
  have v1 : IntKind.i64.wrap ((a : Int) + (m : Int)) = (am : Int) := by rw [IntWalk.i64_in _ (by omega)]; omega
  have v2 : (a : Int) + (m : Int) = (am : Int) := by omega
  have q5 := fun W => HQ.out A all.length c a am (by omega) (by have := HP1.out.cap; omega) W
  rw [show am - a = m by omega] at q5
  have r1 := fun k => run_str (P := Try.prog) (w3.drewN k) w3.heap.size 22 9 5 A3 (part all a m) c3 Try.underlying22 Try.underlying5 Try.underlying9 ((Sl.of_own HO3.out).drewN k)
  have r2 := fun k => run_str (P := Try.prog) (w3.drewN k) w1.heap.size 22 9 5 (restAt A c a) (part all a m) (c - a) Try.underlying22 Try.underlying5 Try.underlying9 (by have h1 := ((HS3.out.rest c a (by rw [len_bytesV]; exact HP1.out.cap)).take m).drewN k; simpa [part, bytesV, List.map_take, List.map_drop] using h1)
  rw [len_part all a m h] at r1 r2
  generalize strOf (part all a m) = s1 at r1 r2
  generalize restAt A c a = ra at q5 r2
  clear ham
  go_wp2_with fail
  go_quiet (fail)
  obtain ⟨rm, hrm⟩ : ∃ rm, rm = r + m := ⟨_, rfl⟩
  rw [← hrm] at HD3
  have u1 : IntKind.i64.wrap ((r : Int) + (m : Int)) = (rm : Int) := by rw [IntWalk.i64_in _ (by omega)]; omega
  have u2 : (r : Int) + (m : Int) = (rm : Int) := by omega
  have hrm2 : rm ≤ r + 2000 := by omega
  clear v1 v2 q5 r1 r2 hrm
  go_wp2_with fail
  (with_reducible refine (devReads_any p g _ rm _ _ (HD3.out.fr ((Fr.refl (fun _ => False) w3).drewN _) id id)).mono ?_)
  rintro e w4 ⟨rfl, hw4⟩
  have HF4 := Lib.hid (show Fr (fun _ => False) w3 w4 by rw [← hw4]; exact (Fr.refl _ _).drewN _)
  clear hw4
  go_wp2_with fail
  (with_reducible refine (devWrites_any p g _ rm _ w4 (HD3.out.fr HF4.out id id)).mono ?_)
  rintro e w5 ⟨rfl, rfl⟩
  go_wp2_with fail
  go_ret2
  exact ⟨g, A, c, all, rm, s, rfl, ⟨HD3.out.fr HF4.out id id, ((HS3.out.frNe HF4.out HF3.out.size (fun _ _ => id)).more (Nat.le_trans HF3.out.size HF4.out.size)), HP1.out.np, HP1.out.cap⟩, by omega, by omega, by omega, .inl rfl, (HF1.out.mono (fun _ _ h => h.elim)).trans ((HF3.out.mono (T := fun k => k = p ∨ k = g) (fun _ _ h => .inl h)).trans (HF4.out.mono (T := fun k => k = p ∨ k = g) (fun _ _ h => h.elim)) (fun _ _ h => h)) (fun _ _ h => h)⟩
end Go.Proofs.Ytpaimcigkpdjpaa
