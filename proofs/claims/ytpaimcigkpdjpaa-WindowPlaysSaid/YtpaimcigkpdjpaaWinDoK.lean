/-
  Layer 12's do, kind by kind. Printed by tools/windo.py.
-/
import Derived.Test.YtpaimcigkpdjpaaWinDo
namespace Go.Proofs.Ytpaimcigkpdjpaa
open Go.RowKit

theorem Pair.of_own {w : World} {p base : Nat} {A : Option Addr} {c : Nat} {all : List UInt8} (hwin : WinS w p all) (h : w.ownsRow base 5 1 (.slice A all.length c) all.length (bytesV all)) (hp : p < base) : Pair w p A c all := by
  refine ⟨hwin, Sl.of_own h, fun x hx => ?_, own_cap h⟩
  rcases h.2 with ⟨hv, _⟩ | ⟨g, cap, cur, hv, hb, _⟩
  · injection hv with hA _ _
    rw [hA] at hx
    cases hx
  · injection hv with hA _ _
    rw [hA] at hx
    injection hx with hx
    subst hx
    show g ≠ p
    omega
set_option maxRecDepth 100000 in
set_option maxHeartbeats 2000000 in
theorem do_0 (p : Nat) (all : List UInt8) (A : Option Addr) (c : Nat) (dist n : Int) (aa : Option Addr) (data : List UInt8) (cc B : Nat) (w : World) (hp : Pair w p A c all) (hal : all.length ≤ 10000000) (hd : data.length ≤ 4000) (hdc : data.length ≤ cc) (hB : B ≤ p) (hs : Sl w B aa (bytesV data)) :
    Calls Try.prog 13 #[.pointer (some ⟨p, 0, none⟩), .slice A all.length c, .agg (opC 0 dist n aa data.length cc)] w (DoPost p all w) := by
  have hpl := hp.win.lt
  have RL := fun W => Lib.hid (refLen_any A all.length c W)
  obtain ⟨m, hm⟩ : ∃ m, m = min all.length 32768 := ⟨_, rfl⟩
  rw [← hm] at RL
  have HM := Lib.hid hm
  have HP := Lib.hid hp
  have HD := Lib.hid hs
  obtain ⟨i0, hi0, hz0, hz1, hz2⟩ := info_parts byteInfoC
  have Hi0 := Lib.hid hi0
  have Hz0 := Lib.hid hz0
  have Hz1 := Lib.hid hz1
  have Hz2 := Lib.hid hz2
  have HQ := Lib.hid (fun (A : Option Addr) (n cp k : Nat) (hn : k ≤ n) => run_slice_from Try.underlying22 hi0 hz1 A n cp k hn)
  have _HU := Lib.hid (And.intro hal (And.intro hd hdc))
  clear hi0 hz0 hz1 hz2 hm hp hs
  obtain ⟨b1, u1⟩ : ∃ d, decide ((1 : Int) ≤ dist) = d := ⟨_, rfl⟩
  obtain ⟨b2, u2⟩ : ∃ d, decide (dist ≤ (m : Int)) = d := ⟨_, rfl⟩
  cases b1 <;> cases b2 <;> (
    go_enter Try.func13, Try.ntmps13
    unfold opC
    go_wp2_with fail
    (with_reducible refine (RL _).out.mono ?_)
    rintro e w1 ⟨rfl, hw1⟩
    have HF1 := Lib.hid (show Fr (fun _ => False) w w1 by rw [← hw1]; exact (Fr.refl _ _).alloc _)
    have HOP := Lib.hid (show Whole w1 w.heap.size 38 (opC 0 dist n aa data.length cc) by rw [← hw1]; exact Whole.new _ _ _)
    have HP1 := Lib.hid (HP.out.fr HF1.out)
    have HD1 := Lib.hid ((HD.out.frNe HF1.out (by omega) (fun _ _ => id)))
    have hs1 : w.heap.size < w1.heap.size := HOP.out.lt
    have q0 := HOP.out.cell 0
    have q1 := HOP.out.cell 1
    have q2 := HOP.out.cell 2
    have q3 := HOP.out.cell 3
    simp only [opC] at q0 q1 q2 q3
    clear hw1

    go_wp2_with fail
    (with_reducible refine (winPut_op p all data aa cc B w1 HP1.out.win (by omega) (by omega) hdc (by omega) HD1.out hB).mono ?_)
    rintro e w2 ⟨rfl, hw2, hf2⟩
    have hs2 := hf2.size
    have HW2 := Lib.hid hw2
    have HF2 := Lib.hid hf2
    have HA2 := Lib.hid ((HP1.out.sl.frNe hf2 (Nat.le_refl _) (fun x hx => HP1.out.ne x hx)).more hs2)
    have HD2 := Lib.hid (HD1.out.keep (w' := w2) (fun q hq => hf2.cell (show q.block < _ by omega) (show ¬ q.block = p by omega)))
    have r3 := (HOP.out.fr hf2 (show ¬ w.heap.size = p by omega)).cell 3
    simp only [opC] at r3
    clear hw2 hf2
    go_wp2_with fail
    have HKA := fun o => Lib.hid ((World.cell?_alloc_lt w2 o ⟨w.heap.size, 3, none⟩ (show w.heap.size < _ by omega)).trans r3)
    go_region_held3 (fun W => W.cell? ⟨w.heap.size, 3, none⟩ = some (.slice aa data.length cc)) (first | exact r3 | exact (HKA _).out | exact HK3.out | exact HK4.out)
      (first
      | ((refine step_append_sl (by rfl) (.tmp 37) (.tmp 38) _ (by rfl) w2.heap.size 5 i0 _ 1 Try.underlying22 Hi0.out Hz0.out Hz1.out Hz2.out rfl _ 0 [] (by rfl) (World.ownsRow_lit w2 #[] 0 (Nat.le_refl _) (by decide) rfl).drew w2.heap.size _ all.length _ (bytesV all) (len_bytesV all) (by rfl) (HA2.out.alloc (Nat.le_refl _) _).drew (bytes_oneCell all) (by unfold maxLen; omega) (by omega) (by simp) ?_; intro v3 w3 hown3 hgrow3 hat3; have HB3 := Lib.hid (own_below (World.ownsRow_lit (base := w2.heap.size) (e := 5) (size := 1) w2 #[] 0 (Nat.le_refl _) (by decide) rfl).drew hgrow3 (Nat.le_refl _) (by simp) ((Below.refl _ _).alloc (Nat.le_refl _) _).drew); rw [Nat.zero_add, List.nil_append] at hown3; have HO3 := Lib.hid hown3; have HK3 := Lib.hid ((HB3.out.cell (p := ⟨w.heap.size, 3, none⟩) (by simp; omega)).trans r3); have hs3 := HB3.out.size; have HD3 := Lib.hid (HD2.out.below HB3.out (by omega)); clear hown3 hgrow3 hat3))
      | ((refine step_append_sl (by rfl) (.tmp 39) (.tmp 41) _ (by rfl) w2.heap.size 5 i0 _ 1 Try.underlying22 Hi0.out Hz0.out Hz1.out Hz2.out rfl _ all.length (bytesV all) (by rfl) HO3.out B aa data.length cc (bytesV data) (len_bytesV data) (by rfl) HD3.out (bytes_oneCell data) (by unfold maxLen; omega) (by omega) hs3 ?_; intro v4 w4 hown4 hgrow4 hat4; have HB4 := Lib.hid (own_below HO3.out hgrow4 (Nat.le_refl _) hs3 HB3.out); obtain ⟨A4, c4, rfl⟩ := own_form hown4; have HO4 := Lib.hid hown4; have HK4 := Lib.hid ((HB4.out.cell (p := ⟨w.heap.size, 3, none⟩) (by simp; omega)).trans r3); clear hown4 hgrow4 hat4)))

    go_wp2_with fail
    go_ret2
    refine ⟨A4, c4, all ++ data, ?_, Pair.of_own (base := w2.heap.size) (HW2.out.fr (Fr.of_below HB4.out (fun _ => False)) id) ?_ (by omega), by simp; omega, (HF1.out.mono (fun _ _ h => h.elim)).trans (HF2.out.trans (Fr.of_below HB4.out _) (fun _ _ h => h)) (fun _ _ h => h)⟩
    · simp
    · have h := HO4.out
      rw [← bytes_append] at h
      simpa using h)
set_option maxRecDepth 100000 in
set_option maxHeartbeats 2000000 in
theorem do_2no (p : Nat) (all : List UInt8) (A : Option Addr) (c : Nat) (dist n : Int) (aa : Option Addr) (data : List UInt8) (cc B : Nat) (w : World) (hp : Pair w p A c all) (hal : all.length ≤ 10000000) (hd : data.length ≤ 4000) (hdc : data.length ≤ cc) (hB : B ≤ p) (hs : Sl w B aa (bytesV data)) (hdist : dist < 1 ∨ ((min all.length 32768 : Nat) : Int) < dist) :
    Calls Try.prog 13 #[.pointer (some ⟨p, 0, none⟩), .slice A all.length c, .agg (opC 2 dist n aa data.length cc)] w (DoPost p all w) := by
  have hpl := hp.win.lt
  have RL := fun W => Lib.hid (refLen_any A all.length c W)
  obtain ⟨m, hm⟩ : ∃ m, m = min all.length 32768 := ⟨_, rfl⟩
  rw [← hm] at RL
  have HM := Lib.hid hm
  have HP := Lib.hid hp
  have HD := Lib.hid hs
  obtain ⟨i0, hi0, hz0, hz1, hz2⟩ := info_parts byteInfoC
  have Hi0 := Lib.hid hi0
  have Hz0 := Lib.hid hz0
  have Hz1 := Lib.hid hz1
  have Hz2 := Lib.hid hz2
  have HQ := Lib.hid (fun (A : Option Addr) (n cp k : Nat) (hn : k ≤ n) => run_slice_from Try.underlying22 hi0 hz1 A n cp k hn)
  have _HU := Lib.hid (And.intro hal (And.intro hd hdc))
  clear hi0 hz0 hz1 hz2 hm hp hs
  obtain ⟨b1, u1⟩ : ∃ d, decide ((1 : Int) ≤ dist) = d := ⟨_, rfl⟩
  obtain ⟨b2, u2⟩ : ∃ d, decide (dist ≤ (m : Int)) = d := ⟨_, rfl⟩
  have hb : b1 = false ∨ b2 = false := by rw [← u1, ← u2]; have := HM.out; simp; omega
  cases b1 <;> cases b2 <;> first | (simp at hb; done) | (
    go_enter Try.func13, Try.ntmps13
    unfold opC
    go_wp2_with fail
    (with_reducible refine (RL _).out.mono ?_)
    rintro e w1 ⟨rfl, hw1⟩
    have HF1 := Lib.hid (show Fr (fun _ => False) w w1 by rw [← hw1]; exact (Fr.refl _ _).alloc _)
    have HOP := Lib.hid (show Whole w1 w.heap.size 38 (opC 2 dist n aa data.length cc) by rw [← hw1]; exact Whole.new _ _ _)
    have HP1 := Lib.hid (HP.out.fr HF1.out)
    have HD1 := Lib.hid ((HD.out.frNe HF1.out (by omega) (fun _ _ => id)))
    have hs1 : w.heap.size < w1.heap.size := HOP.out.lt
    have q0 := HOP.out.cell 0
    have q1 := HOP.out.cell 1
    have q2 := HOP.out.cell 2
    have q3 := HOP.out.cell 3
    simp only [opC] at q0 q1 q2 q3
    clear hw1

    go_wp2_with fail
    (with_reducible refine (winBack_no p all dist w1 HP1.out.win (by have := HM.out; omega)).mono ?_)
    rintro e w2 ⟨rfl, rfl⟩
    go_wp2_with fail
    go_ret2
    exact ⟨A, c, all, rfl, HP1.out, by omega, (HF1.out.mono (fun _ _ h => h.elim))⟩)
set_option maxRecDepth 100000 in
set_option maxHeartbeats 2000000 in
theorem do_2yes (p : Nat) (all : List UInt8) (A : Option Addr) (c : Nat) (dist n : Int) (aa : Option Addr) (data : List UInt8) (cc B : Nat) (w : World) (hp : Pair w p A c all) (hal : all.length ≤ 10000000) (hd : data.length ≤ 4000) (hdc : data.length ≤ cc) (hB : B ≤ p) (hs : Sl w B aa (bytesV data)) (d : Nat) (hdd : dist = (d : Int)) (hd1 : 1 ≤ d) (hd2 : d ≤ all.length) (hd3 : d ≤ 32768) :
    Calls Try.prog 13 #[.pointer (some ⟨p, 0, none⟩), .slice A all.length c, .agg (opC 2 dist n aa data.length cc)] w (DoPost p all w) := by
  have hpl := hp.win.lt
  have RL := fun W => Lib.hid (refLen_any A all.length c W)
  obtain ⟨m, hm⟩ : ∃ m, m = min all.length 32768 := ⟨_, rfl⟩
  rw [← hm] at RL
  have HM := Lib.hid hm
  have HP := Lib.hid hp
  have HD := Lib.hid hs
  obtain ⟨i0, hi0, hz0, hz1, hz2⟩ := info_parts byteInfoC
  have Hi0 := Lib.hid hi0
  have Hz0 := Lib.hid hz0
  have Hz1 := Lib.hid hz1
  have Hz2 := Lib.hid hz2
  have HQ := Lib.hid (fun (A : Option Addr) (n cp k : Nat) (hn : k ≤ n) => run_slice_from Try.underlying22 hi0 hz1 A n cp k hn)
  have _HU := Lib.hid (And.intro hal (And.intro hd hdc))
  clear hi0 hz0 hz1 hz2 hm hp hs
  subst hdd
  have t5 : decide ((1 : Int) ≤ (d : Int)) = true := decide_eq_true (by omega)
  have t6 : decide ((d : Int) ≤ (m : Int)) = true := decide_eq_true (by have := HM.out; omega)
  have t7 : decide (d ≤ m) = true := decide_eq_true (by have := HM.out; omega)
  have t8 : decide (1 ≤ d) = true := decide_eq_true (by omega)
  go_enter Try.func13, Try.ntmps13
  unfold opC
  go_wp2_with fail
  (with_reducible refine (RL _).out.mono ?_)
  rintro e w1 ⟨rfl, hw1⟩
  have HF1 := Lib.hid (show Fr (fun _ => False) w w1 by rw [← hw1]; exact (Fr.refl _ _).alloc _)
  have HOP := Lib.hid (show Whole w1 w.heap.size 38 (opC 2 (d : Int) n aa data.length cc) by rw [← hw1]; exact Whole.new _ _ _)
  have HP1 := Lib.hid (HP.out.fr HF1.out)
  have HD1 := Lib.hid ((HD.out.frNe HF1.out (by omega) (fun _ _ => id)))
  have hs1 : w.heap.size < w1.heap.size := HOP.out.lt
  have q0 := HOP.out.cell 0
  have q1 := HOP.out.cell 1
  have q2 := HOP.out.cell 2
  have q3 := HOP.out.cell 3
  simp only [opC] at q0 q1 q2 q3
  clear hw1

  obtain ⟨bb, oo, hA, hbb, x1⟩ := HP1.out.sl.byte (k := all.length - d) (by omega)
  rw [show all[all.length - d]'(by omega) = all.getD (all.length - d) 0 by rw [List.getD_eq_getElem?_getD, List.getElem?_eq_getElem (by omega)]; rfl] at x1
  have BK := Lib.hid (winBack_yes p all d w1 HP1.out.win (by omega) hd1 hd2 hd3)
  have hy := u8_bound (all.getD (all.length - d) 0)
  generalize (all.getD (all.length - d) 0).toNat = y at x1 BK hy
  have v1 : IntKind.i64.wrap ((all.length : Int) - (d : Int)) = ((all.length - d : Nat) : Int) := by rw [IntWalk.i64_in _ (by omega)]; omega
  have v2 : (all.length : Int) - (d : Int) = ((all.length - d : Nat) : Int) := by omega
  have v3 : (0 : Int) ≤ ((all.length - d : Nat) : Int) := Int.natCast_nonneg _
  have v4 : ((all.length - d : Nat) : Int) < (all.length : Int) := by omega
  have v5 : IntKind.i64.wrap ((all.length - d : Nat) : Int) = ((all.length - d : Nat) : Int) := IntWalk.i64_in _ (by omega)
  generalize all.length - d = ad at x1 v1 v2 v3 v4 v5
  subst hA
  go_wp2_with fail
  (with_reducible refine BK.out.mono ?_)
  rintro e w2 ⟨rfl, q, hw2⟩
  have HW2 := Lib.hid hw2
  have y1 := x1
  have y2 := q1
  rw [show w1.cell? _ = w2.cell? _ by rw [hw2]; rfl] at y1 y2
  clear hw2 x1 q0 q1 q2 q3
  go_wp2_with fail
  go_quiet (fail)
  go_wp2_with fail
  go_ret2
  exact ⟨_, c, all, rfl, (HP1.out.fr (show Fr _ w1 w2 by rw [HW2.out]; exact (Fr.refl _ _).drewN q)).fr ((Fr.refl _ _).drewN _), by omega, ((HF1.out.mono (fun _ _ h => h.elim)).trans (show Fr (fun k => k = p) w1 w2 by rw [HW2.out]; exact (Fr.refl _ _).drewN q) (fun _ _ h => h)).drewN _⟩
end Go.Proofs.Ytpaimcigkpdjpaa
