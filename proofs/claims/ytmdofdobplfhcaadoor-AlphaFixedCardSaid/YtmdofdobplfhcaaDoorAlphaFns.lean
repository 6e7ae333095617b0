/-
  What the functions of package alpha compute, each for every argument, and sort.Search at their closures. Condition: the tables lie as the program lays them.
-/
import Derived.Test.YtmdofdobplfhcaaDoorProg
import Derived.Test.YtmdofdobplfhcaaDoorMem
import Derived.Deep.QuietTactic
import Derived.BigQuiet
import Derived.Deep.RegionHeld3
namespace Go.Proofs.YtmdofdobplfhcaaDoor
open Go.RowKit

def lenBases : List Int := [3, 4, 5, 6, 7, 8, 9, 10, 11, 13, 15, 17, 19, 23, 27, 31, 35, 43, 51, 59, 67, 83, 99, 115, 131, 163, 195, 227, 258]
def lenBits : List Int := [0, 0, 0, 0, 0, 0, 0, 0, 1, 1, 1, 1, 2, 2, 2, 2, 3, 3, 3, 3, 4, 4, 4, 4, 5, 5, 5, 5, 0]
def distBases : List Int := [1, 2, 3, 4, 5, 7, 9, 13, 17, 25, 33, 49, 65, 97, 129, 193, 257, 385, 513, 769, 1025, 1537, 2049, 3073, 4097, 6145, 8193, 12289, 16385, 24577]
def distBits (s : Nat) : Int := if s < 4 then 0 else (s : Int) / 2 - 1

/-- a table of numbers at a package-level variable -/
def Tab (w : World) (g : Nat) (l : List Int) : Prop := ∀ i, i < l.length → w.cell? ⟨g, i, none⟩ = some (.int .i64 (l.getD i 0))
theorem tab_of {w : World} {g : Nat} {l : List Int} (h : ∀ i, i < l.length → w.cell? ⟨g, i, none⟩ = some (.int .i64 (l.getD i 0))) : Tab w g l := h
theorem Tab.lt {w : World} {g : Nat} {l : List Int} (h : Tab w g l) (hl : 0 < l.length) : g < w.heap.size := by
  have h0 := h 0 hl
  rcases Nat.lt_or_ge g w.heap.size with hlt | hge
  · exact hlt
  · simp [World.cell?, Array.getElem?_eq_none hge] at h0
theorem Tab.below {w w' : World} {g : Nat} {l : List Int} (h : Tab w g l) {B : Nat} (hb : Below B w w') (hg : g < B) : Tab w' g l := fun i hi => (hb.cell (p := ⟨g, i, none⟩) hg).trans (h i hi)
theorem Tab.alloc {w : World} {g : Nat} {l : List Int} (h : Tab w g l) (hg : g < w.heap.size) (o : Obj) : Tab (w.alloc o) g l := fun i hi => (World.cell?_alloc_lt w o _ hg).trans (h i hi)

/-- the three tables -/
structure Tabs (w : World) : Prop where
  lb : Tab w 0 lenBases
  lx : Tab w 1 lenBits
  db : Tab w 2 distBases
theorem Tabs.keep {w w' : World} (h : Tabs w) {B : Nat} (hb : Below B w w') (h1 : 0 < B) (h2 : 1 < B) (h3 : 2 < B) : Tabs w' := ⟨h.lb.below hb h1, h.lx.below hb h2, h.db.below hb h3⟩
theorem Tabs.lt {w : World} (h : Tabs w) : 0 < w.heap.size ∧ 1 < w.heap.size ∧ 2 < w.heap.size :=
  ⟨h.lb.lt (by decide), h.lx.lt (by decide), h.db.lt (by decide)⟩
theorem Tabs.below {w w' : World} (h : Tabs w) (hb : Below w.heap.size w w') : Tabs w' := h.keep hb h.lt.1 h.lt.2.1 h.lt.2.2
theorem Tabs.drewN {w : World} (h : Tabs w) (n : Nat) : Tabs (w.drewN n) := ⟨h.lb, h.lx, h.db⟩

theorem lb_bd : ∀ i, i < 29 → 3 ≤ lenBases.getD i 0 ∧ lenBases.getD i 0 ≤ 258 := by
  have : ∀ i : Fin 29, 3 ≤ lenBases.getD i.val 0 ∧ lenBases.getD i.val 0 ≤ 258 := by decide
  exact fun i hi => this ⟨i, hi⟩
theorem db_bd : ∀ i, i < 30 → 1 ≤ distBases.getD i 0 ∧ distBases.getD i 0 ≤ 24577 := by
  have : ∀ i : Fin 30, 1 ≤ distBases.getD i.val 0 ∧ distBases.getD i.val 0 ≤ 24577 := by decide
  exact fun i hi => this ⟨i, hi⟩

set_option maxHeartbeats 400000 in
theorem lengthBase_yes (i : Nat) (w : World) (hi : i < 29) (ht : Tabs w) :
    Calls Tryd.prog 13 #[.int .i64 (257 + i : Int)] w fun e w' => e = .returned (.tuple #[.int .i64 (lenBases.getD i 0), .int .i64 (lenBits.getD i 0), .bool true]) ∧ ∃ n, w' = w.drewN n := by
  have c1 := ht.lb i hi
  have c2 := ht.lx i hi
  clear ht
  generalize lenBases.getD i 0 = x at c1
  generalize lenBits.getD i 0 = y at c2
  have t1 : ¬ (257 + (i : Int)) < 257 := by omega
  have t2 : decide ((286 : Int) ≤ 257 + (i : Int)) = false := by simp; omega
  have t3 : decide ((257 + (i : Int)) < 257) = false := by simp; omega
  have e1 : (257 + (i : Int)) - 257 = i := by omega
  have i0 : (0 : Int) ≤ (i : Int) := Int.natCast_nonneg _
  have i1 : (i : Int) < 29 := by omega
  have e2 : IntKind.i64.wrap ((257 + (i : Int)) - 257) = i := by rw [e1]; exact IntWalk.i64_in _ (by omega)
  go_enter Tryd.func13, Tryd.ntmps13
  go_wp2
  go_quiet (fail)
  go_wp2
  go_ret3
  exact ⟨rfl, _, rfl⟩

theorem lengthBase_no (s : Int) (w : World) (hs : s < 257 ∨ 286 ≤ s) :
    Calls Tryd.prog 13 #[.int .i64 s] w fun e w' => e = .returned (.tuple #[.int .i64 0, .int .i64 0, .bool false]) ∧ ∃ n, w' = w.drewN n := by
  rcases hs with hs | hs
  · have t3 : decide (s < 257) = true := by simp; omega
    go_enter Tryd.func13, Tryd.ntmps13
    go_wp2
    go_ret3
    exact ⟨rfl, 0, rfl⟩
  · have t3 : decide (s < 257) = false := by simp; omega
    have t2 : decide ((286 : Int) ≤ s) = true := by simp; omega
    go_enter Tryd.func13, Tryd.ntmps13
    go_wp2
    go_ret3
    exact ⟨rfl, 0, rfl⟩

set_option maxHeartbeats 400000 in
theorem distBase_yes (i : Nat) (w : World) (hi : i < 30) (ht : Tabs w) :
    Calls Tryd.prog 14 #[.int .i64 (i : Int)] w fun e w' => e = .returned (.tuple #[.int .i64 (distBases.getD i 0), .int .i64 (distBits i), .bool true]) ∧ w = w' := by
  have c1 := ht.db i hi
  clear ht
  generalize distBases.getD i 0 = x at c1
  have i0 : (0 : Int) ≤ (i : Int) := Int.natCast_nonneg _
  have i1 : (i : Int) < 30 := by omega
  have t1 : decide ((i : Int) < 0) = false := by simp
  have t2 : decide ((30 : Int) ≤ (i : Int)) = false := by simp; omega
  by_cases h4 : i < 4
  · have hd := Lib.hid (show distBits i = 0 by simp [distBits, h4])
    have t5 : ¬ (0 : Int) < (i : Int) / 2 - 1 := by omega
    go_enter Tryd.func14, Tryd.ntmps14
    go_wp2
    go_ret3
    exact ⟨by rw [hd.out]; rfl, rfl⟩
  · have hd := Lib.hid (show distBits i = (i : Int) / 2 - 1 by simp [distBits, h4])
    have t5 : (0 : Int) < (i : Int) / 2 - 1 ∨ (i : Int) / 2 - 1 = 0 := by omega
    go_enter Tryd.func14, Tryd.ntmps14
    go_wp2
    all_goals go_ret3
    all_goals first | exact ⟨by rw [hd.out]; rfl, rfl⟩ | skip
theorem distBase_no (s : Int) (w : World) (hs : s < 0 ∨ 30 ≤ s) :
    Calls Tryd.prog 14 #[.int .i64 s] w fun e w' => e = .returned (.tuple #[.int .i64 0, .int .i64 0, .bool false]) ∧ w = w' := by
  rcases hs with hs | hs
  · have t3 : decide (s < 0) = true := by simp; omega
    go_enter Tryd.func14, Tryd.ntmps14
    go_wp2
    go_ret3
    exact ⟨rfl, rfl⟩
  · have t3 : decide (s < 0) = false := by simp; omega
    have t2 : decide ((30 : Int) ≤ s) = true := by simp; omega
    go_enter Tryd.func14, Tryd.ntmps14
    go_wp2
    go_ret3
    exact ⟨rfl, rfl⟩

set_option maxHeartbeats 400000 in
theorem lenTest (i : Nat) (n : Int) (a : Addr) (w : World) (hi : i < 29) (hc : w.cell? a = some (.int .i64 n)) (ht : Tab w 0 lenBases) :
    Calls Tryd.prog 23 #[.int .i64 (i : Int), .pointer (some a)] w fun e w' => e = .returned (.bool (decide (n < lenBases.getD i 0))) ∧ ∃ n, w' = w.drewN n := by
  have c1 := ht i hi
  clear ht
  generalize lenBases.getD i 0 = x at c1
  have i0 : (0 : Int) ≤ (i : Int) := Int.natCast_nonneg _
  have i1 : (i : Int) < 29 := by omega
  go_enter Tryd.func23, Tryd.ntmps23
  go_wp2
  go_quiet (fail)
  go_wp2
  go_ret
  exact ⟨rfl, _, rfl⟩
set_option maxHeartbeats 400000 in
theorem distTest (i : Nat) (n : Int) (a : Addr) (w : World) (hi : i < 30) (hc : w.cell? a = some (.int .i64 n)) (ht : Tab w 2 distBases) :
    Calls Tryd.prog 24 #[.int .i64 (i : Int), .pointer (some a)] w fun e w' => e = .returned (.bool (decide (n < distBases.getD i 0))) ∧ ∃ n, w' = w.drewN n := by
  have c1 := ht i hi
  clear ht
  generalize distBases.getD i 0 = x at c1
  have i0 : (0 : Int) ≤ (i : Int) := Int.natCast_nonneg _
  have i1 : (i : Int) < 30 := by omega
  go_enter Tryd.func24, Tryd.ntmps24
  go_wp2
  go_quiet (fail)
  go_wp2
  go_ret
  exact ⟨rfl, _, rfl⟩
end Go.Proofs.YtmdofdobplfhcaaDoor
