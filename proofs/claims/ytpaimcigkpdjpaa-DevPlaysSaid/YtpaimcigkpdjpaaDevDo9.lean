/-
  Layer 3's do, kind by kind. Printed by tools/devdo.py.
-/
import Derived.Test.YtpaimcigkpdjpaaDevDo
namespace Go.Proofs.Ytpaimcigkpdjpaa
open Go.RowKit

set_option maxRecDepth 100000 in
set_option maxHeartbeats 2000000 in
theorem ddo_2yes (p g : Nat) (all : List UInt8) (r s : Nat) (A : Option Addr) (c : Nat) (x y n : Int) (aa : Option Addr) (data : List UInt8) (cc B : Nat) (w : World) (hp : DPair w p g A c all r s) (hal : all.length ≤ 2000) (hr : r ≤ 1000000) (hs : s ≤ 1000000) (hd : data.length ≤ 200) (hB : B ≤ p) (hBg : B ≤ g) (hsd : Sl w B aa (bytesV data)) (a b m : Nat) (hx : x = (a : Int)) (hy : y = (b : Int)) (hn : n = (m : Int)) (ha : a + m ≤ all.length) (hb : b + m ≤ all.length) :
    Calls Try.prog 22 #[.pointer (some ⟨p, 0, none⟩), .slice A all.length c, .agg (dopC 2 x y n aa data.length cc)] w (DDoPost p g r s w) := by
  have hpl := hp.dev.cells.lt
  have hgl := hp.dev.bytes.lt
  have hne := hp.dev.ne
  have HP := Lib.hid hp
  have HD := Lib.hid hsd
  obtain ⟨i0, hi0, hz0, hz1, hz2⟩ := info_parts byteInfoC
  have Hi0 := Lib.hid hi0
  have Hz0 := Lib.hid hz0
  have Hz1 := Lib.hid hz1
  have Hz2 := Lib.hid hz2
  have HQ := Lib.hid (fun (A : Option Addr) (n cp k m : Nat) (hk : k ≤ m) (hm : m ≤ cp) => run_slice_fromto Try.underlying22 hi0 hz1 A n cp k m hk hm)
  have _HU := Lib.hid (And.intro hal (And.intro hr (And.intro hs (And.intro hd (And.intro hB hBg)))))
  clear hi0 hz0 hz1 hz2 hp hsd
  subst hx hy hn
  go_enter Try.func22, Try.ntmps22
  unfold dopC
  go_wp2_with fail
  (with_reducible refine (devReads_any p g all r s _ (HP.out.fr ((Fr.refl _ _).alloc _)).dev).mono ?_)
  rintro e w1 ⟨rfl, hw1⟩
  have HF1 := Lib.hid (show Fr (fun _ => False) w w1 by rw [← hw1]; exact (Fr.refl _ _).alloc _)
  have HOP := Lib.hid (show Whole w1 w.heap.size 50 (dopC 2 (a : Int) (b : Int) (m : Int) aa data.length cc) by rw [← hw1]; exact Whole.new _ _ _)
  have HP1 := Lib.hid (HP.out.fr HF1.out)
  have HD1 := Lib.hid ((HD.out.frNe HF1.out (by omega) (fun _ _ => id)))
  have hs1 : w.heap.size < w1.heap.size := HOP.out.lt
  have q0 := HOP.out.cell 0
  have q1 := HOP.out.cell 1
  have q2 := HOP.out.cell 2
  have q3 := HOP.out.cell 3
  have q4 := HOP.out.cell 4
  simp only [dopC] at q0 q1 q2 q3 q4
  clear hw1
  go_wp2_with fail
  (with_reducible refine (devWrites_any p g all r s w1 HP1.out.dev).mono ?_)
  rintro e w2 ⟨rfl, rfl⟩

  have MY := Lib.hid (devMove_yes p g all r s w1.drew a b m (HP1.out.dev.fr ((Fr.refl (fun _ => False) w1).drew) id id) (by omega) (by omega) (by omega) ha hb)
  have I1 := fun W => Lib.hid (refIn_yes A all.length c a m W ha (by omega))
  have I2 := fun W => Lib.hid (refIn_yes A all.length c b m W hb (by omega))
  go_wp2_with fail
  go_region_held3 (fun W => W.cell? ⟨w.heap.size, 1, none⟩ = some (.int .i64 (a : Int)) ∧ W.cell? ⟨w.heap.size, 2, none⟩ = some (.int .i64 (b : Int)) ∧ W.cell? ⟨w.heap.size, 3, none⟩ = some (.int .i64 (m : Int))) (first | exact ⟨q1, q2, q3⟩ | exact HK3.out)
    (first
    | ((go_at_call 29; (with_reducible refine MY.out.mono ?_); rintro e w3 ⟨rfl, hd3, hf3⟩; have HOP3 := Lib.hid (HOP.out.drew.fr hf3 (show ¬ (w.heap.size = p ∨ w.heap.size = g) by omega)); have HK3 := Lib.hid (show w3.cell? ⟨w.heap.size, 1, none⟩ = some (.int .i64 (a : Int)) ∧ w3.cell? ⟨w.heap.size, 2, none⟩ = some (.int .i64 (b : Int)) ∧ w3.cell? ⟨w.heap.size, 3, none⟩ = some (.int .i64 (m : Int)) from ⟨HOP3.out.cell 1, HOP3.out.cell 2, HOP3.out.cell 3⟩); have HD3 := Lib.hid hd3; have HF3 := Lib.hid (show Fr (fun k => k = p ∨ k = g) w1 w3 from ⟨hf3.os, hf3.tape, hf3.output, hf3.size, hf3.block⟩); have hs3 := HF3.out.size; clear hd3 hf3))
    | ((go_at_call 35; (with_reducible refine (I1 _).out.mono ?_); rintro e w4 ⟨rfl, rfl⟩))
    | ((go_at_call 35; (with_reducible refine (I2 _).out.mono ?_); rintro e w4 ⟨rfl, rfl⟩)))
  obtain ⟨r1, r2, r3⟩ := HK3.out
  obtain ⟨am, ham⟩ : ∃ am, am = a + m := ⟨_, rfl⟩
  have v1 : IntKind.i64.wrap ((a : Int) + (m : Int)) = (am : Int) := by rw [IntWalk.i64_in _ (by omega)]; omega
  have v3 : IntKind.i64.wrap (am : Int) = (am : Int) := IntWalk.i64_in _ (by omega)
  have q5 := fun W => HQ.out A all.length c a am (by omega) (by have := HP1.out.cap; omega) W
  rw [show am - a = m by omega] at q5
  have HS3 := Lib.hid (HP1.out.sl.frNe HF3.out (Nat.le_refl _) HP1.out.np)
  have RW := Lib.hid (refWrite_any all (part all a m) b A (restAt A c a) c (c - a) w1.heap.size w1.heap.size w3.drew (by omega) (by rw [len_part all a m ha]; omega) HS3.out.drew hs3 (by have h1 := ((HS3.out.rest c a (by rw [len_bytesV]; exact HP1.out.cap)).take m).drew; simpa [part, bytesV, List.map_take, List.map_drop] using h1) hs3)
  rw [len_part all a m ha] at RW
  have hlen : (Go.splice all b (part all a m)).length = all.length := length_splice _ _ _ (by rw [len_part all a m ha]; omega)
  generalize restAt A c a = ra at q5 RW
  clear ham q0 q1 q2 q3 q4
  go_wp2_with fail
  go_region_held3 (fun W => W.cell? ⟨w.heap.size, 1, none⟩ = some (.int .i64 (a : Int)) ∧ W.cell? ⟨w.heap.size, 2, none⟩ = some (.int .i64 (b : Int)) ∧ W.cell? ⟨w.heap.size, 3, none⟩ = some (.int .i64 (m : Int))) (first | exact ⟨r1, r2, r3⟩ | exact HK5.out)
    ((go_at_call 36; (with_reducible refine RW.out.mono ?_); rintro e w5 ⟨A5, c5, rfl, hown5, hb5⟩; have HB5 := Lib.hid hb5; have HOP5 := Lib.hid (HOP3.out.drew.below HB5.out (by show w.heap.size < w3.heap.size; omega)); have HK5 := Lib.hid (show w5.cell? ⟨w.heap.size, 1, none⟩ = some (.int .i64 (a : Int)) ∧ w5.cell? ⟨w.heap.size, 2, none⟩ = some (.int .i64 (b : Int)) ∧ w5.cell? ⟨w.heap.size, 3, none⟩ = some (.int .i64 (m : Int)) from ⟨HOP5.out.cell 1, HOP5.out.cell 2, HOP5.out.cell 3⟩); have HO5 := Lib.hid hown5; clear hown5 hb5))
  have HF5 := Lib.hid (show Fr (fun _ => False) w3 w5 from ⟨HB5.out.os, HB5.out.tape, HB5.out.output, HB5.out.size, fun k hk _ => HB5.out.block k hk⟩)
  have HD5 := Lib.hid (HD3.out.fr HF5.out id id)
  obtain ⟨u1, u2, u3⟩ := HK5.out
  clear v1 v3 q5 RW r1 r2 r3
  go_wp2_with fail
  go_quiet (fail)
  obtain ⟨rm, hrm⟩ : ∃ rm, rm = r + m := ⟨_, rfl⟩
  obtain ⟨sm, hsm⟩ : ∃ sm, sm = s + m := ⟨_, rfl⟩
  rw [← hrm, ← hsm] at HD5
  have e1 : IntKind.i64.wrap ((r : Int) + (m : Int)) = (rm : Int) := by rw [IntWalk.i64_in _ (by omega)]; omega
  have e2 : (r : Int) + (m : Int) = (rm : Int) := by omega
  have e3 : IntKind.i64.wrap ((s : Int) + (m : Int)) = (sm : Int) := by rw [IntWalk.i64_in _ (by omega)]; omega
  have e4 : (s : Int) + (m : Int) = (sm : Int) := by omega
  have hrm2 : rm ≤ r + 2000 := by omega
  have hsm2 : sm ≤ s + 2000 := by omega
  clear hrm hsm u1 u2 u3
  go_wp2_with fail
  (with_reducible refine (devReads_any p g _ rm _ _ (HD5.out.fr ((Fr.refl (fun _ => False) w5).drewN _) id id)).mono ?_)
  rintro e w6 ⟨rfl, hw6⟩
  have HF6 := Lib.hid (show Fr (fun _ => False) w5 w6 by rw [← hw6]; exact (Fr.refl _ _).drewN _)
  clear hw6
  go_wp2_with fail
  (with_reducible refine (devWrites_any p g _ rm _ w6 (HD5.out.fr HF6.out id id)).mono ?_)
  rintro e w7 ⟨rfl, rfl⟩
  go_wp2_with fail
  go_ret2
  exact ⟨g, A5, c5, Go.splice all b (part all a m), rm, sm, by rw [hlen]; rfl, DPair.of_own (HD5.out.fr HF6.out id id) (own_fr HO5.out HF6.out (fun _ _ => id)) (by show p < w3.heap.size; omega) (by show g < w3.heap.size; omega), by omega, by omega, by omega, .inl rfl, (HF1.out.mono (fun _ _ h => h.elim)).trans ((HF3.out.trans (HF5.out.mono (T := fun k => k = p ∨ k = g) (fun _ _ h => h.elim)) (fun _ _ h => h)).trans (HF6.out.mono (T := fun k => k = p ∨ k = g) (fun _ _ h => h.elim)) (fun _ _ h => h)) (fun _ _ h => h)⟩
end Go.Proofs.Ytpaimcigkpdjpaa
