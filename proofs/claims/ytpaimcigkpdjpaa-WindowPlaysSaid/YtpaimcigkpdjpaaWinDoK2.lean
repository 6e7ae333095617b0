/-
  Layer 12's do, kind by kind. Printed by tools/windo.py.
-/
import Derived.Test.YtpaimcigkpdjpaaWinDoK
namespace Go.Proofs.Ytpaimcigkpdjpaa
open Go.RowKit

set_option maxRecDepth 100000 in
set_option maxHeartbeats 2000000 in
theorem do_1arg (p : Nat) (all : List UInt8) (A : Option Addr) (c : Nat) (dist n : Int) (aa : Option Addr) (data : List UInt8) (cc B : Nat) (w : World) (hp : Pair w p A c all) (hal : all.length ≤ 10000000) (hd : data.length ≤ 4000) (hdc : data.length ≤ cc) (hB : B ≤ p) (hs : Sl w B aa (bytesV data)) (hn : n < 0 ∨ 1048576 < n) :
    Calls Try.prog 13 #[.pointer (some ⟨p, 0, none⟩), .slice A all.length c, .agg (opC 1 dist n aa data.length cc)] w (DoPost p all w) := by
  have hpl := hp.win.lt
  have RL := fun W => Lib.hid (refLen_any A all.length c W)
  obtain ⟨m, hm⟩ : ∃ m, m = min all.length 32768 := ⟨_, rfl⟩
  rw [← hm] at RL
  have HM := Lib.hid hm
  have HP := Lib.hid hp
  have HD := Lib.hid hs
  obtain ⟨i0, hi0, hz0, hz1, hz2⟩ := info_parts byteInfoC
  have Hi0 := Lib.hid hi0
  have Hz0 := Lib.hid hz0
  have Hz1 := Lib.hid hz1
  have Hz2 := Lib.hid hz2
  have HQ := Lib.hid (fun (A : Option Addr) (n cp k : Nat) (hn : k ≤ n) => run_slice_from Try.underlying22 hi0 hz1 A n cp k hn)
  have _HU := Lib.hid (And.intro hal (And.intro hd hdc))
  clear hi0 hz0 hz1 hz2 hm hp hs
  obtain ⟨b3, u3⟩ : ∃ d, decide (n < (0 : Int)) = d := ⟨_, rfl⟩
  obtain ⟨b4, u4⟩ : ∃ d, decide ((1048576 : Int) < n) = d := ⟨_, rfl⟩
  have hb : b3 = true ∨ b4 = true := by rw [← u3, ← u4]; simpa using hn
  cases b3 <;> cases b4 <;> first | (simp at hb; done) | (
    obtain ⟨b1, u1⟩ : ∃ d, decide ((1 : Int) ≤ dist) = d := ⟨_, rfl⟩
    obtain ⟨b2, u2⟩ : ∃ d, decide (dist ≤ (m : Int)) = d := ⟨_, rfl⟩
    cases b1 <;> cases b2 <;> (
      go_enter Try.func13, Try.ntmps13
      unfold opC
      go_wp2_with fail
      (with_reducible refine (RL _).out.mono ?_)
      rintro e w1 ⟨rfl, hw1⟩
      have HF1 := Lib.hid (show Fr (fun _ => False) w w1 by rw [← hw1]; exact (Fr.refl _ _).alloc _)
      have HOP := Lib.hid (show Whole w1 w.heap.size 38 (opC 1 dist n aa data.length cc) by rw [← hw1]; exact Whole.new _ _ _)
      have HP1 := Lib.hid (HP.out.fr HF1.out)
      have HD1 := Lib.hid ((HD.out.frNe HF1.out (by omega) (fun _ _ => id)))
      have hs1 : w.heap.size < w1.heap.size := HOP.out.lt
      have q0 := HOP.out.cell 0
      have q1 := HOP.out.cell 1
      have q2 := HOP.out.cell 2
      have q3 := HOP.out.cell 3
      simp only [opC] at q0 q1 q2 q3
      clear hw1

      go_wp2_with fail
      (with_reducible refine (winCopy_arg p dist n w1 hn).mono ?_)
      rintro e w2 ⟨rfl, rfl⟩
      go_wp2_with fail
      go_ret2
      exact ⟨A, c, all, rfl, HP1.out, by omega, (HF1.out.mono (fun _ _ h => h.elim))⟩))
set_option maxRecDepth 100000 in
set_option maxHeartbeats 2000000 in
theorem do_1dist (p : Nat) (all : List UInt8) (A : Option Addr) (c : Nat) (dist n : Int) (aa : Option Addr) (data : List UInt8) (cc B : Nat) (w : World) (hp : Pair w p A c all) (hal : all.length ≤ 10000000) (hd : data.length ≤ 4000) (hdc : data.length ≤ cc) (hB : B ≤ p) (hs : Sl w B aa (bytesV data)) (h0 : 0 ≤ n) (h1 : n ≤ 1048576) (hdist : dist < 1 ∨ ((min all.length 32768 : Nat) : Int) < dist) :
    Calls Try.prog 13 #[.pointer (some ⟨p, 0, none⟩), .slice A all.length c, .agg (opC 1 dist n aa data.length cc)] w (DoPost p all w) := by
  have hpl := hp.win.lt
  have RL := fun W => Lib.hid (refLen_any A all.length c W)
  obtain ⟨m, hm⟩ : ∃ m, m = min all.length 32768 := ⟨_, rfl⟩
  rw [← hm] at RL
  have HM := Lib.hid hm
  have HP := Lib.hid hp
  have HD := Lib.hid hs
  obtain ⟨i0, hi0, hz0, hz1, hz2⟩ := info_parts byteInfoC
  have Hi0 := Lib.hid hi0
  have Hz0 := Lib.hid hz0
  have Hz1 := Lib.hid hz1
  have Hz2 := Lib.hid hz2
  have HQ := Lib.hid (fun (A : Option Addr) (n cp k : Nat) (hn : k ≤ n) => run_slice_from Try.underlying22 hi0 hz1 A n cp k hn)
  have _HU := Lib.hid (And.intro hal (And.intro hd hdc))
  clear hi0 hz0 hz1 hz2 hm hp hs
  have t3 : decide (n < (0 : Int)) = false := decide_eq_false (by omega)
  have t4 : decide ((1048576 : Int) < n) = false := decide_eq_false (by omega)
  obtain ⟨b1, u1⟩ : ∃ d, decide ((1 : Int) ≤ dist) = d := ⟨_, rfl⟩
  obtain ⟨b2, u2⟩ : ∃ d, decide (dist ≤ (m : Int)) = d := ⟨_, rfl⟩
  have hb : b1 = false ∨ b2 = false := by rw [← u1, ← u2]; have := HM.out; simp; omega
  cases b1 <;> cases b2 <;> first | (simp at hb; done) | (
    go_enter Try.func13, Try.ntmps13
    unfold opC
    go_wp2_with fail
    (with_reducible refine (RL _).out.mono ?_)
    rintro e w1 ⟨rfl, hw1⟩
    have HF1 := Lib.hid (show Fr (fun _ => False) w w1 by rw [← hw1]; exact (Fr.refl _ _).alloc _)
    have HOP := Lib.hid (show Whole w1 w.heap.size 38 (opC 1 dist n aa data.length cc) by rw [← hw1]; exact Whole.new _ _ _)
    have HP1 := Lib.hid (HP.out.fr HF1.out)
    have HD1 := Lib.hid ((HD.out.frNe HF1.out (by omega) (fun _ _ => id)))
    have hs1 : w.heap.size < w1.heap.size := HOP.out.lt
    have q0 := HOP.out.cell 0
    have q1 := HOP.out.cell 1
    have q2 := HOP.out.cell 2
    have q3 := HOP.out.cell 3
    simp only [opC] at q0 q1 q2 q3
    clear hw1

    go_wp2_with fail
    (with_reducible refine (winCopy_dist p all dist n w1 HP1.out.win h0 h1 (by have := HM.out; omega)).mono ?_)
    rintro e w2 ⟨rfl, rfl⟩
    go_wp2_with fail
    go_ret2
    exact ⟨A, c, all, rfl, HP1.out, by omega, (HF1.out.mono (fun _ _ h => h.elim))⟩)
set_option maxRecDepth 100000 in
set_option maxHeartbeats 2000000 in
theorem do_1yes (p : Nat) (all : List UInt8) (A : Option Addr) (c : Nat) (dist n : Int) (aa : Option Addr) (data : List UInt8) (cc B : Nat) (w : World) (hp : Pair w p A c all) (hal : all.length ≤ 10000000) (hd : data.length ≤ 4000) (hdc : data.length ≤ cc) (hB : B ≤ p) (hs : Sl w B aa (bytesV data)) (d k : Nat) (hdd : dist = (d : Int)) (hkk : n = (k : Int)) (hd1 : 1 ≤ d) (hd2 : d ≤ all.length) (hd3 : d ≤ 32768) (hk : k ≤ 40000) :
    Calls Try.prog 13 #[.pointer (some ⟨p, 0, none⟩), .slice A all.length c, .agg (opC 1 dist n aa data.length cc)] w (DoPost p all w) := by
  have hpl := hp.win.lt
  have RL := fun W => Lib.hid (refLen_any A all.length c W)
  obtain ⟨m, hm⟩ : ∃ m, m = min all.length 32768 := ⟨_, rfl⟩
  rw [← hm] at RL
  have HM := Lib.hid hm
  have HP := Lib.hid hp
  have HD := Lib.hid hs
  obtain ⟨i0, hi0, hz0, hz1, hz2⟩ := info_parts byteInfoC
  have Hi0 := Lib.hid hi0
  have Hz0 := Lib.hid hz0
  have Hz1 := Lib.hid hz1
  have Hz2 := Lib.hid hz2
  have HQ := Lib.hid (fun (A : Option Addr) (n cp k : Nat) (hn : k ≤ n) => run_slice_from Try.underlying22 hi0 hz1 A n cp k hn)
  have _HU := Lib.hid (And.intro hal (And.intro hd hdc))
  clear hi0 hz0 hz1 hz2 hm hp hs
  subst hdd hkk
  have t3 : decide ((k : Int) < (0 : Int)) = false := decide_eq_false (by omega)
  have t4 : decide ((1048576 : Int) < (k : Int)) = false := decide_eq_false (by omega)
  have t5 : decide ((1 : Int) ≤ (d : Int)) = true := decide_eq_true (by omega)
  have t6 : decide ((d : Int) ≤ (m : Int)) = true := decide_eq_true (by have := HM.out; omega)
  have t7 : decide (d ≤ m) = true := decide_eq_true (by have := HM.out; omega)
  have t8 : decide (1 ≤ d) = true := decide_eq_true (by omega)
  have t9 : decide (1048576 < k) = false := decide_eq_false (by omega)
  go_enter Try.func13, Try.ntmps13
  unfold opC
  go_wp2_with fail
  (with_reducible refine (RL _).out.mono ?_)
  rintro e w1 ⟨rfl, hw1⟩
  have HF1 := Lib.hid (show Fr (fun _ => False) w w1 by rw [← hw1]; exact (Fr.refl _ _).alloc _)
  have HOP := Lib.hid (show Whole w1 w.heap.size 38 (opC 1 (d : Int) (k : Int) aa data.length cc) by rw [← hw1]; exact Whole.new _ _ _)
  have HP1 := Lib.hid (HP.out.fr HF1.out)
  have HD1 := Lib.hid ((HD.out.frNe HF1.out (by omega) (fun _ _ => id)))
  have hs1 : w.heap.size < w1.heap.size := HOP.out.lt
  have q0 := HOP.out.cell 0
  have q1 := HOP.out.cell 1
  have q2 := HOP.out.cell 2
  have q3 := HOP.out.cell 3
  simp only [opC] at q0 q1 q2 q3
  clear hw1

  go_wp2_with fail
  (with_reducible refine (winCopy_yes p all d k w1 HP1.out.win (by omega) (by omega) hd1 hd2 hd3).mono ?_)
  rintro e w2 ⟨g, rfl, hg, hgs, hw2, hf2⟩
  have hs2 := hf2.size
  have HW2 := Lib.hid hw2
  have HF2 := Lib.hid hf2
  have HG2 := Lib.hid (sl_of_whole hg)
  have HA2 := Lib.hid ((HP1.out.sl.frNe hf2 (Nat.le_refl _) (fun x hx => HP1.out.ne x hx)).more hs2)
  have hW2 := HOP.out.fr hf2 (show ¬ w.heap.size = p by omega)
  have r1 := hW2.cell 1
  have r2 := hW2.cell 2
  simp only [opC] at r1 r2
  clear hw2 hf2 hg hW2
  go_wp2_with fail
  (with_reducible refine (refCopy_any all d k A c w2.heap.size w2 (by omega) (by omega) hd1 hd2 HA2.out (Nat.le_refl _)).mono ?_)
  rintro e w3 ⟨A3, c3, A4, c4, rfl, hown3, hsl3, hb3⟩
  have hlc := Win.length_came all d k
  have x1 := run_str (P := Try.prog) w3.drew w2.heap.size 22 9 5 (some ⟨g, 0, none⟩) (Win.came all d k) k Try.underlying22 Try.underlying5 Try.underlying9 (HG2.out.below hb3 (Nat.le_refl _)).drew
  have x2 := run_str (P := Try.prog) w3.drew w3.heap.size 22 9 5 A4 (Win.came all d k) c4 Try.underlying22 Try.underlying5 Try.underlying9 hsl3.drew
  rw [hlc] at x1 x2
  have HO3 := Lib.hid hown3
  have HB3 := Lib.hid hb3
  clear hown3 hsl3 hb3 hlc
  generalize strOf (Win.came all d k) = st at x1 x2
  generalize hkk : all.length + k = ak at HO3 ⊢
  have HKK := Lib.hid hkk
  clear hkk
  go_wp2_with fail
  go_region
  all_goals
    go_wp2_with fail
    go_ret2
    have hlen : (Win.copyN all d k).length = ak := by rw [Win.length_copyN]; exact HKK.out
    refine ⟨A3, c3, Win.copyN all d k, by rw [hlen]; rfl, Pair.of_own (base := w2.heap.size) (HW2.out.fr (Fr.of_below HB3.out (fun _ => False)) id).drew (by rw [hlen]; exact HO3.out.drew) (by omega), by rw [Win.length_copyN]; omega, (HF1.out.mono (fun _ _ h => h.elim)).trans (HF2.out.trans (Fr.of_below HB3.out _) (fun _ _ h => h)) (fun _ _ h => h) |>.drew⟩
end Go.Proofs.Ytpaimcigkpdjpaa
