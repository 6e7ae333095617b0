/-
  The document's answer of layer 16: Level, Tokens.
-/
import Derived.Test.YtjfmaebgihlegaaDoorLazyRef
import Derived.Test.YtjfmaebgihlegaaDoorLazyWalk
import Derived.Test.YtjfmaebgihlegaaDoorTokRefs
namespace Go.Proofs.YtjfmaebgihlegaaDoor
open Go.RowKit Go.Maps

def w01 (b : Bool) : Int := if b then 1 else 0
def careA (c : CareV) : Value := .agg #[.int .i64 (c.dep : Int), .int .i64 (c.good : Int), .int .i64 (w01 c.wait)]
theorem refLongest_any (D : List UInt8) (A : Option Addr) (C B i depth : Nat) (w : World) (hs : Sl w B A (bytesV D)) (hl : D.length ≤ 1000000) (hi : i ≤ D.length) (hd : depth ≤ 32768) :
    Calls Tryd.prog 16 #[.slice A D.length C, .int .i64 (i : Int), .int .i64 (i : Int), .int .i64 (depth : Int)] w fun e w' => e = .returned (.tuple #[.int .i64 ((longL D i depth).1 : Int), .int .i64 ((longL D i depth).2 : Int)]) ∧ ∃ n, w' = w.drewN n := by
  by_cases h3 : i + 3 ≤ D.length
  · exact refLongest_some D A C B i depth w hs hl h3 hd
  · rw [longL_short D i depth h3]
    exact (refLongest_none D A C i i depth w hl hi h3).mono fun e w' ⟨h1, h2⟩ => ⟨h1, 0, h2.symm⟩
set_option maxHeartbeats 2000000 in
theorem refLevel_in (n : Nat) (w : World) (hn : n < 10) :
    Calls Tryd.prog 7 #[.int .i64 (n : Int)] w fun e w' => e = .returned (.tuple #[careA (careAt n), .bool true]) ∧ Below w.heap.size w w' := by
  have h : n = 0 ∨ n = 1 ∨ n = 2 ∨ n = 3 ∨ n = 4 ∨ n = 5 ∨ n = 6 ∨ n = 7 ∨ n = 8 ∨ n = 9 := by omega
  clear hn
  rcases h with rfl | rfl | rfl | rfl | rfl | rfl | rfl | rfl | rfl | rfl
  all_goals
    go_enter Tryd.func7, Tryd.ntmps7
    go_wp2_with fail
    refine bodyPost_ret (by simp [results, Tryd.results7, go_sem]; rfl) rfl ⟨rfl, ?_⟩
    first
      | exact ((Below.refl w.heap.size w).alloc (Nat.le_refl _) _).alloc (by simp) _
      | exact (((((Below.refl w.heap.size w).alloc (Nat.le_refl _) _).alloc (by simp) _).setCell (by simp) _).setCell (by simp) _).setCell (by simp) _
set_option maxHeartbeats 2000000 in
theorem refLevel_out (n : Int) (w : World) (hn : n < 0 ∨ 10 ≤ n) :
    Calls Tryd.prog 7 #[.int .i64 n] w fun e w' => e = .returned (.tuple #[careA noCare, .bool false]) ∧ Below w.heap.size w w' := by
  rcases hn with h | h
  · have t1 : decide (n < 0) = true := decide_eq_true h
    go_enter Tryd.func7, Tryd.ntmps7
    go_wp2_with fail
    refine bodyPost_ret (v := .tuple #[.agg #[.int .i64 0, .int .i64 0, .int .i64 0], .bool false]) (by simp [results, Tryd.results7, go_sem]) rfl ⟨rfl, ?_⟩
    first
      | exact ((Below.refl w.heap.size w).alloc (Nat.le_refl _) _).alloc (by simp) _
      | exact (((((Below.refl w.heap.size w).alloc (Nat.le_refl _) _).alloc (by simp) _).setCell (by simp) _).setCell (by simp) _).setCell (by simp) _
  · have t1 : decide (n < 0) = false := decide_eq_false (by omega)
    have t2 : decide ((9 : Int) < n) = true := decide_eq_true (by omega)
    go_enter Tryd.func7, Tryd.ntmps7
    go_wp2_with fail
    refine bodyPost_ret (v := .tuple #[.agg #[.int .i64 0, .int .i64 0, .int .i64 0], .bool false]) (by simp [results, Tryd.results7, go_sem]) rfl ⟨rfl, ?_⟩
    first
      | exact ((Below.refl w.heap.size w).alloc (Nat.le_refl _) _).alloc (by simp) _
      | exact (((((Below.refl w.heap.size w).alloc (Nat.le_refl _) _).alloc (by simp) _).setCell (by simp) _).setCell (by simp) _).setCell (by simp) _
end Go.Proofs.YtjfmaebgihlegaaDoor
