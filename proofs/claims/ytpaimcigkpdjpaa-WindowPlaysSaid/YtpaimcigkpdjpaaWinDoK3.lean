/-
  Layer 12's do, kind by kind. Printed by tools/windo.py.
-/
import Derived.Test.YtpaimcigkpdjpaaWinDoK
namespace Go.Proofs.Ytpaimcigkpdjpaa
open Go.RowKit

set_option maxRecDepth 100000 in
set_option maxHeartbeats 2000000 in
theorem do_3 (p : Nat) (all : List UInt8) (A : Option Addr) (c : Nat) (dist n : Int) (aa : Option Addr) (data : List UInt8) (cc B : Nat) (w : World) (hp : Pair w p A c all) (hal : all.length ≤ 10000000) (hd : data.length ≤ 4000) (hdc : data.length ≤ cc) (hB : B ≤ p) (hs : Sl w B aa (bytesV data)) :
    Calls Try.prog 13 #[.pointer (some ⟨p, 0, none⟩), .slice A all.length c, .agg (opC 3 dist n aa data.length cc)] w (DoPost p all w) := by
  have hpl := hp.win.lt
  have RL := fun W => Lib.hid (refLen_any A all.length c W)
  obtain ⟨m, hm⟩ : ∃ m, m = min all.length 32768 := ⟨_, rfl⟩
  rw [← hm] at RL
  have HM := Lib.hid hm
  have HP := Lib.hid hp
  have HD := Lib.hid hs
  obtain ⟨i0, hi0, hz0, hz1, hz2⟩ := info_parts byteInfoC
  have Hi0 := Lib.hid hi0
  have Hz0 := Lib.hid hz0
  have Hz1 := Lib.hid hz1
  have Hz2 := Lib.hid hz2
  have HQ := Lib.hid (fun (A : Option Addr) (n cp k : Nat) (hn : k ≤ n) => run_slice_from Try.underlying22 hi0 hz1 A n cp k hn)
  have _HU := Lib.hid (And.intro hal (And.intro hd hdc))
  clear hi0 hz0 hz1 hz2 hm hp hs
  obtain ⟨b1, u1⟩ : ∃ d, decide ((1 : Int) ≤ dist) = d := ⟨_, rfl⟩
  obtain ⟨b2, u2⟩ : ∃ d, decide (dist ≤ (m : Int)) = d := ⟨_, rfl⟩
  cases b1 <;> cases b2 <;> (
    go_enter Try.func13, Try.ntmps13
    unfold opC
    go_wp2_with fail
    (with_reducible refine (RL _).out.mono ?_)
    rintro e w1 ⟨rfl, hw1⟩
    have HF1 := Lib.hid (show Fr (fun _ => False) w w1 by rw [← hw1]; exact (Fr.refl _ _).alloc _)
    have HOP := Lib.hid (show Whole w1 w.heap.size 38 (opC 3 dist n aa data.length cc) by rw [← hw1]; exact Whole.new _ _ _)
    have HP1 := Lib.hid (HP.out.fr HF1.out)
    have HD1 := Lib.hid ((HD.out.frNe HF1.out (by omega) (fun _ _ => id)))
    have hs1 : w.heap.size < w1.heap.size := HOP.out.lt
    have q0 := HOP.out.cell 0
    have q1 := HOP.out.cell 1
    have q2 := HOP.out.cell 2
    have q3 := HOP.out.cell 3
    simp only [opC] at q0 q1 q2 q3
    clear hw1

    have LA := fun W (hw : WinS W p all) => Lib.hid (winLast_any p all n W hw (by omega))
    have R1 := run_min2 n m
    have R2 := run_max2 n m
    have hk1 : lastK n m ≤ m := by unfold lastK; omega
    have hkl : lastK n m ≤ all.length := by have := HM.out; omega
    rw [← HM.out] at LA
    generalize lastK n m = kk at LA R2 hk1 hkl
    generalize min n (m : Int) = mn at R1 R2
    have v1 : IntKind.i64.wrap ((all.length : Int) - (kk : Int)) = ((all.length - kk : Nat) : Int) := by rw [IntWalk.i64_in _ (by omega)]; omega
    have v2 : (all.length : Int) - (kk : Int) = ((all.length - kk : Nat) : Int) := by omega
    have v3 : (0 : Int) ≤ ((all.length - kk : Nat) : Int) := Int.natCast_nonneg _
    have v4 : ((all.length - kk : Nat) : Int) ≤ (all.length : Int) := by omega
    have v5 : IntKind.i64.wrap ((all.length - kk : Nat) : Int) = ((all.length - kk : Nat) : Int) := IntWalk.i64_in _ (by omega)
    have hq := HQ.out A all.length c (all.length - kk) (by omega)
    rw [show all.length - (all.length - kk) = kk by omega] at hq
    have HREST := Lib.hid (show Sl w1 w1.heap.size (restAt A c (all.length - kk)) (bytesV (all.drop (all.length - kk))) by
      have h := HP1.out.sl.rest c (all.length - kk) (by rw [len_bytesV]; exact HP1.out.cap)
      simpa [bytesV, List.map_drop] using h)
    have hll : (all.drop (all.length - kk)).length = kk := by rw [List.length_drop]; omega
    have RS := fun W B a c (h : Sl W B a (bytesV (all.drop (all.length - kk)))) => run_str (P := Try.prog) W B 22 9 5 a (all.drop (all.length - kk)) c Try.underlying22 Try.underlying5 Try.underlying9 h
    rw [hll] at RS
    have x1 := RS w1.drew _ _ (c - (all.length - kk)) HREST.out.drew
    have HRS := Lib.hid RS
    clear RS hll
    generalize hst : strOf (all.drop (all.length - kk)) = st at HRS x1
    clear hst
    generalize restAt A c (all.length - kk) = ra at hq HREST x1
    generalize all.length - kk = ak at v1 v2 v3 v4 v5 hq x1

    go_wp2_with fail
    go_region_law ((go_simp; first | ((go_at_call 28; (with_reducible refine (LA _ HP1.out.win.drew).out.mono ?_); rintro e w3 ⟨g3, rfl, hg3, -, hf3⟩; have y1 := HRS.out w3 _ _ kk (sl_of_whole hg3); have y2 := HRS.out w3 _ _ (c - ak) (HREST.out.drew.frNe hf3 (Nat.le_refl _) (fun _ _ => id)); have HF3 := Lib.hid hf3; clear hg3 hf3))))
    all_goals
      go_wp2_with fail
      go_ret2
      exact ⟨A, c, all, rfl, (HP1.out.fr ((Fr.refl _ _).drew)).fr HF3.out, by omega, (HF1.out.mono (fun _ _ h => h.elim)).drew.trans ((HF3.out.mono (fun _ _ h => h.elim)) : Fr (fun k => k = p) w1.drew w3) (fun _ _ h => h)⟩)
end Go.Proofs.Ytpaimcigkpdjpaa
