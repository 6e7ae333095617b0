/-
  sort.Search at the two closures of package alpha: the least place at which the test holds, if it holds from one place on.
-/
import Derived.Test.YtmdofdobplfhcaaDoorAlphaFns
import Derived.Deep.LoopGhost
namespace Go.Proofs.YtmdofdobplfhcaaDoor
open Go.RowKit

/-- what Search returns: a place i of 0 .. N, the test false just below, true at it -/
def Found (N : Nat) (p : Nat → Bool) (w : World) (e : Ending) (w' : World) : Prop :=
  ∃ i : Nat, e = .returned (.int .i64 i) ∧ i ≤ N ∧ (∀ j, j + 1 = i → p j = false) ∧ (i < N → p i = true) ∧ ∃ n, w' = w.drewN n

theorem below_of {p : Nat → Bool} {z : Nat} (hp : p z = false) (q : Nat) (hq : q + 1 = z + 1) : p q = false := by
  obtain rfl : q = z := by omega
  exact hp

set_option maxHeartbeats 400000 in
theorem search_len_aux (p : Nat → Bool) (a : Addr) (w : World)
    (hf : ∀ i m : Nat, i < 29 → Calls Tryd.prog 23 #[.int .i64 (i : Int), .pointer (some a)] (w.drewN m) fun e w' => e = .returned (.bool (p i)) ∧ ∃ n, w' = (w.drewN m).drewN n) :
    Calls Tryd.prog 22 #[.int .i64 29, .func (.func 23) #[] #[.pointer (some a)]] w (Found 29 p w) := by
  have HF := Lib.hid hf
  clear hf
  go_enter Tryd.func22, Tryd.ntmps22
  go_wp2_with fail
  go_loopw [5, 6] (fun i j wr => ∃ x y : Nat, x ≤ y ∧ y ≤ 29 ∧ i = .int .i64 x ∧ j = .int .i64 y ∧ (∀ q, q + 1 = x → p q = false) ∧ (y < 29 → p y = true) ∧ ∃ m, wr = w.drewN m) (fun i j _ => (intOf j - intOf i).toNat)
  case atStart => exact ⟨0, 29, by omega, by omega, rfl, rfl, by omega, by omega, 0, rfl⟩
  case round =>
    obtain ⟨x, y, hxy, hy, rfl, rfl, h1, h2, m, rfl⟩ := hrel
    have H1 := Lib.hid h1
    have H2 := Lib.hid h2
    clear h1 h2
    by_cases hlt : x < y
    · go_wp2_with fail
      rw [show ((x : Int) + (y : Int)) / 2 = (((x + y) / 2 : Nat) : Int) by omega]
      have z1 : x ≤ (x + y) / 2 := by omega
      have z2 : (x + y) / 2 < y := by omega
      generalize (x + y) / 2 = z at z1 z2
      refine (HF.out z m (by omega)).mono ?_
      rintro e w' ⟨rfl, q, rfl⟩
      by_cases hp : p z = true
      · go_wp2
        go_roundw
        case rel => exact ⟨x, z, by omega, by omega, rfl, rfl, H1.out, fun _ => hp, _, rfl⟩
        case measure => simp [intOf]; omega
      · have hp : p z = false := by simpa using hp
        go_wp2
        go_roundw
        case rel => exact ⟨z + 1, y, by omega, by omega, by go_num, rfl, below_of hp, H2.out, _, rfl⟩
        case measure => simp [intOf]; omega
    · obtain rfl : x = y := by omega
      go_wp2_with fail
      go_ret
      exact ⟨x, rfl, hy, H1.out, H2.out, _, rfl⟩

theorem search_len (n : Int) (a : Addr) (w : World) (hc : w.cell? a = some (.int .i64 n)) (ht : Tab w 0 lenBases) :
    Calls Tryd.prog 22 #[.int .i64 29, .func (.func 23) #[] #[.pointer (some a)]] w (Found 29 (fun i => decide (n < lenBases.getD i 0)) w) :=
  search_len_aux (fun i => decide (n < lenBases.getD i 0)) a w fun i m hi => lenTest i n a (w.drewN m) hi hc ht

set_option maxHeartbeats 400000 in
theorem search_dist_aux (p : Nat → Bool) (a : Addr) (w : World)
    (hf : ∀ i m : Nat, i < 30 → Calls Tryd.prog 24 #[.int .i64 (i : Int), .pointer (some a)] (w.drewN m) fun e w' => e = .returned (.bool (p i)) ∧ ∃ n, w' = (w.drewN m).drewN n) :
    Calls Tryd.prog 22 #[.int .i64 30, .func (.func 24) #[] #[.pointer (some a)]] w (Found 30 p w) := by
  have HF := Lib.hid hf
  clear hf
  go_enter Tryd.func22, Tryd.ntmps22
  go_wp2_with fail
  go_loopw [5, 6] (fun i j wr => ∃ x y : Nat, x ≤ y ∧ y ≤ 30 ∧ i = .int .i64 x ∧ j = .int .i64 y ∧ (∀ q, q + 1 = x → p q = false) ∧ (y < 30 → p y = true) ∧ ∃ m, wr = w.drewN m) (fun i j _ => (intOf j - intOf i).toNat)
  case atStart => exact ⟨0, 30, by omega, by omega, rfl, rfl, by omega, by omega, 0, rfl⟩
  case round =>
    obtain ⟨x, y, hxy, hy, rfl, rfl, h1, h2, m, rfl⟩ := hrel
    have H1 := Lib.hid h1
    have H2 := Lib.hid h2
    clear h1 h2
    by_cases hlt : x < y
    · go_wp2_with fail
      rw [show ((x : Int) + (y : Int)) / 2 = (((x + y) / 2 : Nat) : Int) by omega]
      have z1 : x ≤ (x + y) / 2 := by omega
      have z2 : (x + y) / 2 < y := by omega
      generalize (x + y) / 2 = z at z1 z2
      refine (HF.out z m (by omega)).mono ?_
      rintro e w' ⟨rfl, q, rfl⟩
      by_cases hp : p z = true
      · go_wp2
        go_roundw
        case rel => exact ⟨x, z, by omega, by omega, rfl, rfl, H1.out, fun _ => hp, _, rfl⟩
        case measure => simp [intOf]; omega
      · have hp : p z = false := by simpa using hp
        go_wp2
        go_roundw
        case rel => exact ⟨z + 1, y, by omega, by omega, by go_num, rfl, below_of hp, H2.out, _, rfl⟩
        case measure => simp [intOf]; omega
    · obtain rfl : x = y := by omega
      go_wp2_with fail
      go_ret
      exact ⟨x, rfl, hy, H1.out, H2.out, _, rfl⟩

theorem search_dist (n : Int) (a : Addr) (w : World) (hc : w.cell? a = some (.int .i64 n)) (ht : Tab w 2 distBases) :
    Calls Tryd.prog 22 #[.int .i64 30, .func (.func 24) #[] #[.pointer (some a)]] w (Found 30 (fun i => decide (n < distBases.getD i 0)) w) :=
  search_dist_aux (fun i => decide (n < distBases.getD i 0)) a w fun i m hi => distTest i n a (w.drewN m) hi hc ht

end Go.Proofs.YtmdofdobplfhcaaDoor
