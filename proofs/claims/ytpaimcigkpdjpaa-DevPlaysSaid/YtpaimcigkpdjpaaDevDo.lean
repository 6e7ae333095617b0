/-
  Layer 3's do, kind by kind. Printed by tools/devdo.py.
-/
import Derived.Test.YtpaimcigkpdjpaaDevOps
namespace Go.Proofs.Ytpaimcigkpdjpaa
open Go.RowKit

/-- a device and a text that hold the same -/
structure DPair (w : World) (p g : Nat) (A : Option Addr) (c : Nat) (data : List UInt8) (r s : Nat) : Prop where
  dev : DevS w p g data r s
  sl : Sl w w.heap.size A (bytesV data)
  np : ∀ x, A = some x → ¬ (x.block = p ∨ x.block = g)
  cap : data.length ≤ c
theorem DPair.fr {w w' : World} {p g : Nat} {A : Option Addr} {c : Nat} {data : List UInt8} {r s : Nat} (h : DPair w p g A c data r s) (hf : Fr (fun _ => False) w w') : DPair w' p g A c data r s :=
  ⟨h.dev.fr hf id id, (h.sl.frNe hf (Nat.le_refl _) (fun _ _ => id)).more hf.size, h.np, h.cap⟩
theorem DPair.of_own {w : World} {p g base : Nat} {A : Option Addr} {c : Nat} {data : List UInt8} {r s : Nat} (hd : DevS w p g data r s) (h : w.ownsRow base 5 1 (.slice A data.length c) data.length (bytesV data)) (hp : p < base) (hg : g < base) : DPair w p g A c data r s := by
  refine ⟨hd, Sl.of_own h, fun x hx => ?_, own_cap h⟩
  rcases h.2 with ⟨hv, _⟩ | ⟨g, cap, cur, hv, hb, _⟩
  · injection hv with hA _ _
    rw [hA] at hx
    cases hx
  · injection hv with hA _ _
    rw [hA] at hx
    injection hx with hx
    subst hx
    simp only
    omega
def DDoPost (p g r s : Nat) (w : World) (e : Ending) (w' : World) : Prop :=
  ∃ g' A' c' data' r' s', e = .returned (.tuple #[.slice A' (data' : List UInt8).length c', .bool true]) ∧ DPair w' p g' A' c' data' r' s' ∧ data'.length ≤ 2000 ∧ r' ≤ r + 2000 ∧ s' ≤ s + 2000 ∧ (g' = g ∨ w.heap.size ≤ g') ∧ Fr (fun k => k = p ∨ k = g) w w'
def dopC (kind x y n : Int) (aa : Option Addr) (dl cc : Nat) : Array Value := #[.int .i64 kind, .int .i64 x, .int .i64 y, .int .i64 n, .slice aa dl cc]
set_option maxRecDepth 100000 in
set_option maxHeartbeats 2000000 in
theorem ddo_5 (p g : Nat) (all : List UInt8) (r s : Nat) (A : Option Addr) (c : Nat) (kind : Int) (x y n : Int) (aa : Option Addr) (data : List UInt8) (cc B : Nat) (w : World) (hp : DPair w p g A c all r s) (hal : all.length ≤ 2000) (hr : r ≤ 1000000) (hs : s ≤ 1000000) (hd : data.length ≤ 200) (hB : B ≤ p) (hBg : B ≤ g) (hsd : Sl w B aa (bytesV data)) (k0 : kind ≠ 0) (k1 : kind ≠ 1) (k2 : kind ≠ 2) (k3 : kind ≠ 3) (k4 : kind ≠ 4) :
    Calls Try.prog 22 #[.pointer (some ⟨p, 0, none⟩), .slice A all.length c, .agg (dopC kind x y n aa data.length cc)] w (DDoPost p g r s w) := by
  have hpl := hp.dev.cells.lt
  have hgl := hp.dev.bytes.lt
  have hne := hp.dev.ne
  have HP := Lib.hid hp
  have HD := Lib.hid hsd
  obtain ⟨i0, hi0, hz0, hz1, hz2⟩ := info_parts byteInfoC
  have Hi0 := Lib.hid hi0
  have Hz0 := Lib.hid hz0
  have Hz1 := Lib.hid hz1
  have Hz2 := Lib.hid hz2
  have HQ := Lib.hid (fun (A : Option Addr) (n cp k m : Nat) (hk : k ≤ m) (hm : m ≤ cp) => run_slice_fromto Try.underlying22 hi0 hz1 A n cp k m hk hm)
  have _HU := Lib.hid (And.intro hal (And.intro hr (And.intro hs (And.intro hd (And.intro hB hBg)))))
  clear hi0 hz0 hz1 hz2 hp hsd
  have z0 : decide (kind = 0) = false := decide_eq_false k0
  have z1 : decide (kind = 1) = false := decide_eq_false k1
  have z2 : decide (kind = 2) = false := decide_eq_false k2
  have z3 : decide (kind = 3) = false := decide_eq_false k3
  have z4 : decide (kind = 4) = false := decide_eq_false k4
  go_enter Try.func22, Try.ntmps22
  unfold dopC
  go_wp2_with fail
  (with_reducible refine (devReads_any p g all r s _ (HP.out.fr ((Fr.refl _ _).alloc _)).dev).mono ?_)
  rintro e w1 ⟨rfl, hw1⟩
  have HF1 := Lib.hid (show Fr (fun _ => False) w w1 by rw [← hw1]; exact (Fr.refl _ _).alloc _)
  have HOP := Lib.hid (show Whole w1 w.heap.size 50 (dopC kind x y n aa data.length cc) by rw [← hw1]; exact Whole.new _ _ _)
  have HP1 := Lib.hid (HP.out.fr HF1.out)
  have HD1 := Lib.hid ((HD.out.frNe HF1.out (by omega) (fun _ _ => id)))
  have hs1 : w.heap.size < w1.heap.size := HOP.out.lt
  have q0 := HOP.out.cell 0
  have q1 := HOP.out.cell 1
  have q2 := HOP.out.cell 2
  have q3 := HOP.out.cell 3
  have q4 := HOP.out.cell 4
  simp only [dopC] at q0 q1 q2 q3 q4
  clear hw1
  go_wp2_with fail
  (with_reducible refine (devWrites_any p g all r s w1 HP1.out.dev).mono ?_)
  rintro e w2 ⟨rfl, rfl⟩

  go_wp2_with fail
  go_ret2
  exact ⟨g, A, c, all, r, s, rfl, HP1.out, by omega, by omega, by omega, .inl rfl, (HF1.out.mono (fun _ _ h => h.elim))⟩
end Go.Proofs.Ytpaimcigkpdjpaa
