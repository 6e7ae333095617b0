/-
  Layer 12's do, kind by kind. Printed by tools/windo.py.
-/
import Derived.Test.YtpaimcigkpdjpaaWinDoK
namespace Go.Proofs.Ytpaimcigkpdjpaa
open Go.RowKit

set_option maxRecDepth 100000 in
set_option maxHeartbeats 2000000 in
theorem do_4 (p : Nat) (all : List UInt8) (A : Option Addr) (c : Nat) (dist n : Int) (aa : Option Addr) (data : List UInt8) (cc B : Nat) (w : World) (hp : Pair w p A c all) (hal : all.length ≤ 10000000) (hd : data.length ≤ 4000) (hdc : data.length ≤ cc) (hB : B ≤ p) (hs : Sl w B aa (bytesV data)) (hn : n ≤ 20) :
    Calls Try.prog 13 #[.pointer (some ⟨p, 0, none⟩), .slice A all.length c, .agg (opC 4 dist n aa data.length cc)] w (DoPost p all w) := by
  have hpl := hp.win.lt
  have RL := fun W => Lib.hid (refLen_any A all.length c W)
  obtain ⟨m, hm⟩ : ∃ m, m = min all.length 32768 := ⟨_, rfl⟩
  rw [← hm] at RL
  have HM := Lib.hid hm
  have HP := Lib.hid hp
  have HD := Lib.hid hs
  obtain ⟨i0, hi0, hz0, hz1, hz2⟩ := info_parts byteInfoC
  have Hi0 := Lib.hid hi0
  have Hz0 := Lib.hid hz0
  have Hz1 := Lib.hid hz1
  have Hz2 := Lib.hid hz2
  have HQ := Lib.hid (fun (A : Option Addr) (n cp k : Nat) (hn : k ≤ n) => run_slice_from Try.underlying22 hi0 hz1 A n cp k hn)
  have _HU := Lib.hid (And.intro hal (And.intro hd hdc))
  clear hi0 hz0 hz1 hz2 hm hp hs
  obtain ⟨b1, u1⟩ : ∃ d, decide ((1 : Int) ≤ dist) = d := ⟨_, rfl⟩
  obtain ⟨b2, u2⟩ : ∃ d, decide (dist ≤ (m : Int)) = d := ⟨_, rfl⟩
  cases b1 <;> cases b2 <;> (
    go_enter Try.func13, Try.ntmps13
    unfold opC
    go_wp2_with fail
    (with_reducible refine (RL _).out.mono ?_)
    rintro e w1 ⟨rfl, hw1⟩
    have HF1 := Lib.hid (show Fr (fun _ => False) w w1 by rw [← hw1]; exact (Fr.refl _ _).alloc _)
    have HOP := Lib.hid (show Whole w1 w.heap.size 38 (opC 4 dist n aa data.length cc) by rw [← hw1]; exact Whole.new _ _ _)
    have HP1 := Lib.hid (HP.out.fr HF1.out)
    have HD1 := Lib.hid ((HD.out.frNe HF1.out (by omega) (fun _ _ => id)))
    have hs1 : w.heap.size < w1.heap.size := HOP.out.lt
    have q0 := HOP.out.cell 0
    have q1 := HOP.out.cell 1
    have q2 := HOP.out.cell 2
    have q3 := HOP.out.cell 3
    simp only [opC] at q0 q1 q2 q3
    clear hw1

    go_wp2_with fail
    go_loopw [1, 17] (fun av i wr => ∃ (j : Nat) (A' : Option Addr) (c' : Nat) (al : List UInt8), j ≤ n.toNat ∧ i = .int .i64 j ∧ av = .slice A' al.length c' ∧ Pair wr p A' c' al ∧ al.length ≤ all.length + 4000 * j ∧ Fr (fun k => k = p) w1 wr) (fun _ i _ => n.toNat - (intOf i).toNat)
    case atStart => exact ⟨0, A, c, all, Nat.zero_le _, rfl, rfl, HP1.out, by omega, Fr.refl _ _⟩
    case round =>
      obtain ⟨j, A', c', al, hj, rfl, rfl, hpr, hall, hfr⟩ := hrel
      have HPR := Lib.hid hpr
      have HFR := Lib.hid hfr
      have hsr := hfr.size
      have hWr := HOP.out.fr hfr (show ¬ w.heap.size = p by omega)
      have s2 := hWr.cell 2
      have s3 := hWr.cell 3
      simp only [opC] at s2 s3
      clear q0 q1 q2 q3
      have HOR := Lib.hid hWr
      have HDR := Lib.hid (HD1.out.keep (w' := wr) (fun q hq => hfr.cell (show q.block < _ by omega) (show ¬ q.block = p by omega)))
      have hplr := hpr.win.lt
      clear hpr hfr hWr
      by_cases hlt : (j : Int) < n
      · have t5 : decide ((j : Int) < n) = true := decide_eq_true hlt
        go_wp2_with fail
        (with_reducible refine (winPut_op p al data aa cc B wr HPR.out.win (by omega) (by omega) hdc (by omega) HDR.out hB).mono ?_)
        rintro e w2 ⟨rfl, hw2, hf2⟩
        have hs2 := hf2.size
        have HW2 := Lib.hid hw2
        have HF2 := Lib.hid hf2
        have HA2 := Lib.hid ((HPR.out.sl.frNe hf2 (Nat.le_refl _) (fun x hx => HPR.out.ne x hx)).more hs2)
        have HD2 := Lib.hid (HDR.out.keep (w' := w2) (fun q hq => hf2.cell (show q.block < _ by omega) (show ¬ q.block = p by omega)))
        have r3 := (HOR.out.fr hf2 (show ¬ w.heap.size = p by omega)).cell 3
        simp only [opC] at r3
        clear hw2 hf2
        go_wp2_with fail
        have HKA := fun o => Lib.hid ((World.cell?_alloc_lt w2 o ⟨w.heap.size, 3, none⟩ (show w.heap.size < _ by omega)).trans r3)
        go_region_held3 (fun W => W.cell? ⟨w.heap.size, 3, none⟩ = some (.slice aa data.length cc)) (first | exact r3 | exact (HKA _).out | exact HK3.out | exact HK4.out)
          (first
          | ((refine step_append_sl (by rfl) (.tmp 164) (.tmp 165) _ (by rfl) w2.heap.size 5 i0 _ 1 Try.underlying22 Hi0.out Hz0.out Hz1.out Hz2.out rfl _ 0 [] (by rfl) (World.ownsRow_lit w2 #[] 0 (Nat.le_refl _) (by decide) rfl).drew w2.heap.size _ al.length _ (bytesV al) (len_bytesV al) (by rfl) (HA2.out.alloc (Nat.le_refl _) _).drew (bytes_oneCell al) (by unfold maxLen; omega) (by omega) (by simp) ?_; intro v3 w3 hown3 hgrow3 hat3; have HB3 := Lib.hid (own_below (World.ownsRow_lit (base := w2.heap.size) (e := 5) (size := 1) w2 #[] 0 (Nat.le_refl _) (by decide) rfl).drew hgrow3 (Nat.le_refl _) (by simp) ((Below.refl _ _).alloc (Nat.le_refl _) _).drew); rw [Nat.zero_add, List.nil_append] at hown3; have HO3 := Lib.hid hown3; have HK3 := Lib.hid ((HB3.out.cell (p := ⟨w.heap.size, 3, none⟩) (by simp; omega)).trans r3); have hs3 := HB3.out.size; have HD3 := Lib.hid (HD2.out.below HB3.out (by omega)); clear hown3 hgrow3 hat3))
          | ((refine step_append_sl (by rfl) (.tmp 166) (.tmp 168) _ (by rfl) w2.heap.size 5 i0 _ 1 Try.underlying22 Hi0.out Hz0.out Hz1.out Hz2.out rfl _ al.length (bytesV al) (by rfl) HO3.out B aa data.length cc (bytesV data) (len_bytesV data) (by rfl) HD3.out (bytes_oneCell data) (by unfold maxLen; omega) (by omega) hs3 ?_; intro v4 w4 hown4 hgrow4 hat4; have HB4 := Lib.hid (own_below HO3.out hgrow4 (Nat.le_refl _) hs3 HB3.out); obtain ⟨A4, c4, rfl⟩ := own_form hown4; have HO4 := Lib.hid hown4; have HK4 := Lib.hid ((HB4.out.cell (p := ⟨w.heap.size, 3, none⟩) (by simp; omega)).trans r3); clear hown4 hgrow4 hat4)))

        generalize hnl : al.length + data.length = nl at HO4 ⊢
        have HNL := Lib.hid (show nl = (al ++ data).length by rw [← hnl]; simp)
        clear hnl
        go_wp2_with fail
        go_roundw
        case rel =>
          refine ⟨j + 1, A4, c4, al ++ data, by omega, by go_num, by rw [← HNL.out], Pair.of_own (base := w2.heap.size) (HW2.out.fr (Fr.of_below HB4.out (fun _ => False)) id) ?_ (by omega), by simp; omega, HFR.out.trans (HF2.out.trans (Fr.of_below HB4.out _) (fun _ _ h => h)) (fun _ _ h => h)⟩
          have h := HO4.out
          rw [← bytes_append, HNL.out] at h
          exact h
        case measure => simp [intOf]; omega
      · have t5 : decide ((j : Int) < n) = false := decide_eq_false hlt
        go_wp2_with fail
        go_ret2
        exact ⟨A', c', al, rfl, HPR.out, by omega, (HF1.out.mono (fun _ _ h => h.elim)).trans HFR.out (fun _ _ h => h)⟩)
set_option maxRecDepth 100000 in
set_option maxHeartbeats 2000000 in
theorem do_5 (p : Nat) (all : List UInt8) (A : Option Addr) (c : Nat) (kind : Int) (dist n : Int) (aa : Option Addr) (data : List UInt8) (cc B : Nat) (w : World) (hp : Pair w p A c all) (hal : all.length ≤ 10000000) (hd : data.length ≤ 4000) (hdc : data.length ≤ cc) (hB : B ≤ p) (hs : Sl w B aa (bytesV data)) (k0 : kind ≠ 0) (k1 : kind ≠ 1) (k2 : kind ≠ 2) (k3 : kind ≠ 3) (k4 : kind ≠ 4) :
    Calls Try.prog 13 #[.pointer (some ⟨p, 0, none⟩), .slice A all.length c, .agg (opC kind dist n aa data.length cc)] w (DoPost p all w) := by
  have hpl := hp.win.lt
  have RL := fun W => Lib.hid (refLen_any A all.length c W)
  obtain ⟨m, hm⟩ : ∃ m, m = min all.length 32768 := ⟨_, rfl⟩
  rw [← hm] at RL
  have HM := Lib.hid hm
  have HP := Lib.hid hp
  have HD := Lib.hid hs
  obtain ⟨i0, hi0, hz0, hz1, hz2⟩ := info_parts byteInfoC
  have Hi0 := Lib.hid hi0
  have Hz0 := Lib.hid hz0
  have Hz1 := Lib.hid hz1
  have Hz2 := Lib.hid hz2
  have HQ := Lib.hid (fun (A : Option Addr) (n cp k : Nat) (hn : k ≤ n) => run_slice_from Try.underlying22 hi0 hz1 A n cp k hn)
  have _HU := Lib.hid (And.intro hal (And.intro hd hdc))
  clear hi0 hz0 hz1 hz2 hm hp hs
  have z0 : decide (kind = 0) = false := decide_eq_false k0
  have z1 : decide (kind = 1) = false := decide_eq_false k1
  have z2 : decide (kind = 2) = false := decide_eq_false k2
  have z3 : decide (kind = 3) = false := decide_eq_false k3
  have z4 : decide (kind = 4) = false := decide_eq_false k4
  obtain ⟨b1, u1⟩ : ∃ d, decide ((1 : Int) ≤ dist) = d := ⟨_, rfl⟩
  obtain ⟨b2, u2⟩ : ∃ d, decide (dist ≤ (m : Int)) = d := ⟨_, rfl⟩
  cases b1 <;> cases b2 <;> (
    go_enter Try.func13, Try.ntmps13
    unfold opC
    go_wp2_with fail
    (with_reducible refine (RL _).out.mono ?_)
    rintro e w1 ⟨rfl, hw1⟩
    have HF1 := Lib.hid (show Fr (fun _ => False) w w1 by rw [← hw1]; exact (Fr.refl _ _).alloc _)
    have HOP := Lib.hid (show Whole w1 w.heap.size 38 (opC kind dist n aa data.length cc) by rw [← hw1]; exact Whole.new _ _ _)
    have HP1 := Lib.hid (HP.out.fr HF1.out)
    have HD1 := Lib.hid ((HD.out.frNe HF1.out (by omega) (fun _ _ => id)))
    have hs1 : w.heap.size < w1.heap.size := HOP.out.lt
    have q0 := HOP.out.cell 0
    have q1 := HOP.out.cell 1
    have q2 := HOP.out.cell 2
    have q3 := HOP.out.cell 3
    simp only [opC] at q0 q1 q2 q3
    clear hw1

    go_wp2_with fail
    go_ret2
    exact ⟨A, c, all, rfl, HP1.out, by omega, (HF1.out.mono (fun _ _ h => h.elim))⟩)
end Go.Proofs.Ytpaimcigkpdjpaa
