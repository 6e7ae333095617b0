/-
  What alpha.Length and alpha.Dist compute: the symbol, its bits, what is more.
-/
import Derived.Test.YtmdofdobplfhcaaDoorAlphaSearch
namespace Go.Proofs.YtmdofdobplfhcaaDoor
open Go.RowKit

/-- i is the place of n in a table: the last number that is not above n -/
def AtPlace (l : List Int) (n : Int) (i : Nat) : Prop := i < l.length ∧ l.getD i 0 ≤ n ∧ (i + 1 < l.length → n < l.getD (i + 1) 0)

def LengthIs (n : Int) (w : World) (e : Ending) (w' : World) : Prop :=
  ∃ i : Nat, AtPlace lenBases n i ∧ e = .returned (.tuple #[.agg #[.int .i64 (257 + i : Int), .int .i64 (lenBits.getD i 0), .int .i64 (n - lenBases.getD i 0)], .bool true]) ∧ Below w.heap.size w w'
def DistIs (n : Int) (w : World) (e : Ending) (w' : World) : Prop :=
  ∃ i : Nat, AtPlace distBases n i ∧ e = .returned (.tuple #[.agg #[.int .i64 (i : Int), .int .i64 (distBits i), .int .i64 (n - distBases.getD i 0)], .bool true]) ∧ Below w.heap.size w w'

set_option maxHeartbeats 800000 in
theorem length_yes (n : Int) (w : World) (h3 : 3 ≤ n) (h258 : n ≤ 258) (ht : Tabs w) :
    Calls Tryd.prog 10 #[.int .i64 n] w (LengthIs n w) := by
  have hlt := ht.lt
  have HT := Lib.hid ht
  clear ht
  have t1 : decide (n < 3) = false := by simp; omega
  have t2 : decide (258 < n) = false := by simp; omega
  have hmf : ∀ (fn : Fn) (first cap : Array Value) (w : World), (Instr.makeFunc fn first cap).run Tryd.prog w = .ok (.func fn first cap) w := fun _ _ _ _ => rfl
  go_enter Tryd.func10, Tryd.ntmps10
  go_wp2_with fail
  refine (search_len n ⟨w.heap.size, 0, none⟩ _ (by simp [go_sem]) ?_).mono ?_
  · exact (HT.out.lb.alloc hlt.1 _).alloc (by have := hlt.1; simp) _
  rintro e w' ⟨i, rfl, hi, hp1, hp2, m, rfl⟩
  have hi0 : i ≠ 0 := by
    rintro rfl
    have := hp2 (by omega)
    simp [lenBases] at this
    omega
  obtain ⟨j, rfl⟩ : ∃ j, i = j + 1 := ⟨i - 1, by omega⟩
  have hj := hp1 j rfl
  have hat : AtPlace lenBases n j := ⟨by show j < 29; omega, by simpa using hj, fun h => by have := hp2 h; simpa using this⟩
  have HA := Lib.hid hat
  have j0 : (0 : Int) ≤ (j : Int) := Int.natCast_nonneg _
  have j1 : (j : Int) < 29 := by omega
  have c1 := (HT.out.lb.alloc hlt.1 (.cells #[.int .i64 n] 3)).alloc (by have := hlt; simp; try omega) (.cells #[.int .i64 0, .int .i64 0, .int .i64 0] 27) j (by show j < 29; omega)
  have c2 := (HT.out.lx.alloc hlt.2.1 (.cells #[.int .i64 n] 3)).alloc (by have := hlt; simp; try omega) (.cells #[.int .i64 0, .int .i64 0, .int .i64 0] 27) j (by show j < 29; omega)
  have bd := lb_bd j (by omega)
  clear hi0 hp1 hp2 hj hat
  rw [show ((j + 1 : Nat) : Int) = (j : Int) + 1 by omega]
  go_wp2_with fail
  generalize hx : lenBases.getD j 0 = x at c1 bd
  generalize hy : lenBits.getD j 0 = y at c2
  have HX := Lib.hid hx
  have HY := Lib.hid hy
  clear hx hy
  have hz : ¬ w.heap.size = 0 := by omega
  have e1 : IntKind.i64.wrap (257 + (j : Int)) = 257 + j := IntWalk.i64_in _ (by omega)
  have e2 : IntKind.i64.wrap (n - x) = n - x := IntWalk.i64_in _ (by omega)
  go_region_held3 (fun w' => w'.cell? ⟨0, j, none⟩ = some (.int .i64 x) ∧ w'.cell? ⟨1, j, none⟩ = some (.int .i64 y) ∧ w'.cell? ⟨w.heap.size, 0, none⟩ = some (.int .i64 n)) (go_keep) (fail)
  go_wp2
  refine bodyPost_ret (v := .tuple #[.agg #[.int .i64 (257 + j), .int .i64 y, .int .i64 (n - x)], .bool true]) (by simp [results, Tryd.results10, go_sem]) rfl ⟨j, HA.out, by rw [HX.out, HY.out], ?_⟩
  repeat' (first | (with_reducible exact Below.refl _ _) | (with_reducible refine Below.setCell ?_ ?_ _) | (with_reducible refine below_drewN ?_ _) | (with_reducible refine Below.drew ?_) | (with_reducible refine Below.alloc ?_ ?_ _) | go_size)

theorem length_no (n : Int) (w : World) (h : n < 3 ∨ 258 < n) :
    Calls Tryd.prog 10 #[.int .i64 n] w fun e w' => e = .returned (.tuple #[.agg #[.int .i64 0, .int .i64 0, .int .i64 0], .bool false]) ∧ Below w.heap.size w w' := by
  rcases h with h | h
  · have t1 : decide (n < 3) = true := by simp; omega
    go_enter Tryd.func10, Tryd.ntmps10
    go_wp2_with fail
    refine bodyPost_ret (v := .tuple #[.agg #[.int .i64 0, .int .i64 0, .int .i64 0], .bool false]) (by simp [results, Tryd.results10, go_sem]) rfl ⟨rfl, ?_⟩
    repeat' (first | (with_reducible exact Below.refl _ _) | (with_reducible refine Below.setCell ?_ ?_ _) | (with_reducible refine below_drewN ?_ _) | (with_reducible refine Below.drew ?_) | (with_reducible refine Below.alloc ?_ ?_ _) | go_size)
  · have t1 : decide (n < 3) = false := by simp; omega
    have t2 : decide (258 < n) = true := by simp; omega
    go_enter Tryd.func10, Tryd.ntmps10
    go_wp2_with fail
    refine bodyPost_ret (v := .tuple #[.agg #[.int .i64 0, .int .i64 0, .int .i64 0], .bool false]) (by simp [results, Tryd.results10, go_sem]) rfl ⟨rfl, ?_⟩
    repeat' (first | (with_reducible exact Below.refl _ _) | (with_reducible refine Below.setCell ?_ ?_ _) | (with_reducible refine below_drewN ?_ _) | (with_reducible refine Below.drew ?_) | (with_reducible refine Below.alloc ?_ ?_ _) | go_size)

theorem dist_no (n : Int) (w : World) (h : n < 1 ∨ 32768 < n) :
    Calls Tryd.prog 11 #[.int .i64 n] w fun e w' => e = .returned (.tuple #[.agg #[.int .i64 0, .int .i64 0, .int .i64 0], .bool false]) ∧ Below w.heap.size w w' := by
  rcases h with h | h
  · have t1 : decide (n < 1) = true := by simp; omega
    go_enter Tryd.func11, Tryd.ntmps11
    go_wp2_with fail
    refine bodyPost_ret (v := .tuple #[.agg #[.int .i64 0, .int .i64 0, .int .i64 0], .bool false]) (by simp [results, Tryd.results11, go_sem]) rfl ⟨rfl, ?_⟩
    repeat' (first | (with_reducible exact Below.refl _ _) | (with_reducible refine Below.setCell ?_ ?_ _) | (with_reducible refine below_drewN ?_ _) | (with_reducible refine Below.drew ?_) | (with_reducible refine Below.alloc ?_ ?_ _) | go_size)
  · have t1 : decide (n < 1) = false := by simp; omega
    have t2 : decide (32768 < n) = true := by simp; omega
    go_enter Tryd.func11, Tryd.ntmps11
    go_wp2_with fail
    refine bodyPost_ret (v := .tuple #[.agg #[.int .i64 0, .int .i64 0, .int .i64 0], .bool false]) (by simp [results, Tryd.results11, go_sem]) rfl ⟨rfl, ?_⟩
    repeat' (first | (with_reducible exact Below.refl _ _) | (with_reducible refine Below.setCell ?_ ?_ _) | (with_reducible refine below_drewN ?_ _) | (with_reducible refine Below.drew ?_) | (with_reducible refine Below.alloc ?_ ?_ _) | go_size)

set_option maxHeartbeats 800000 in
theorem dist_yes (n : Int) (w : World) (h1 : 1 ≤ n) (h2 : n ≤ 32768) (ht : Tabs w) :
    Calls Tryd.prog 11 #[.int .i64 n] w (DistIs n w) := by
  have hlt := ht.lt
  have HT := Lib.hid ht
  clear ht
  have t1 : decide (n < 1) = false := by simp; omega
  have t2 : decide (32768 < n) = false := by simp; omega
  have hmf : ∀ (fn : Fn) (first cap : Array Value) (w : World), (Instr.makeFunc fn first cap).run Tryd.prog w = .ok (.func fn first cap) w := fun _ _ _ _ => rfl
  go_enter Tryd.func11, Tryd.ntmps11
  go_wp2_with fail
  refine (search_dist n ⟨w.heap.size, 0, none⟩ _ (by simp [go_sem]) ?_).mono ?_
  · exact (HT.out.db.alloc hlt.2.2 _).alloc (by have := hlt.2.2; simp; omega) _
  rintro e w' ⟨i, rfl, hi, hp1, hp2, m, rfl⟩
  have hi0 : i ≠ 0 := by
    rintro rfl
    have := hp2 (by omega)
    simp [distBases] at this
    omega
  obtain ⟨j, rfl⟩ : ∃ j, i = j + 1 := ⟨i - 1, by omega⟩
  have hj := hp1 j rfl
  have hat : AtPlace distBases n j := ⟨by show j < 30; omega, by simpa using hj, fun h => by have := hp2 h; simpa using this⟩
  have HA := Lib.hid hat
  have bd := db_bd j (by omega)
  clear hi0 hp1 hp2 hj hat
  rw [show ((j + 1 : Nat) : Int) = (j : Int) + 1 by omega]
  go_wp2_with fail
  refine (distBase_yes j _ (by omega) ?_).mono ?_
  · refine (Tabs.below ?_ (w := w) ?_).drewN m
    · exact HT.out
    · repeat' (first | (with_reducible exact Below.refl _ _) | (with_reducible refine Below.setCell ?_ ?_ _) | (with_reducible refine below_drewN ?_ _) | (with_reducible refine Below.drew ?_) | (with_reducible refine Below.alloc ?_ ?_ _) | go_size)
  rintro e w' ⟨rfl, rfl⟩
  generalize hx : distBases.getD j 0 = x at bd
  generalize hy : distBits j = y
  have HX := Lib.hid hx
  have HY := Lib.hid hy
  clear hx hy
  go_wp2
  refine bodyPost_ret (v := .tuple #[.agg #[.int .i64 j, .int .i64 y, .int .i64 (n - x)], .bool true]) (by simp [results, Tryd.results11, go_sem]) rfl ⟨j, HA.out, by rw [HX.out, HY.out], ?_⟩
  repeat' (first | (with_reducible exact Below.refl _ _) | (with_reducible refine Below.setCell ?_ ?_ _) | (with_reducible refine below_drewN ?_ _) | (with_reducible refine Below.drew ?_) | (with_reducible refine Below.alloc ?_ ?_ _) | go_size)
end Go.Proofs.YtmdofdobplfhcaaDoor
