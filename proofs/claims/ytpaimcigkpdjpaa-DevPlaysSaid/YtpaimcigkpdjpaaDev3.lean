/-
  dev.Device: Reads, Writes, Wipe, Resize, the calls that are refused; the reference's In, Write.
-/
import Derived.Test.YtpaimcigkpdjpaaDev2
import Derived.Lib.SliceRun
namespace Go.Proofs.Ytpaimcigkpdjpaa
open Go.RowKit

theorem devReads_any (p g : Nat) (data : List UInt8) (r s : Nat) (w : World) (hd : DevS w p g data r s) : Calls Try.prog 33 #[.pointer (some ⟨p, 0, none⟩)] w fun e w' => e = .returned (.int .i64 (r : Int)) ∧ w = w' := by
  have c1 := hd.c1
  clear hd
  go_enter Try.func33, Try.ntmps33
  go_wp2_with fail
  go_ret
  exact ⟨rfl, rfl⟩
theorem devWrites_any (p g : Nat) (data : List UInt8) (r s : Nat) (w : World) (hd : DevS w p g data r s) : Calls Try.prog 34 #[.pointer (some ⟨p, 0, none⟩)] w fun e w' => e = .returned (.int .i64 (s : Int)) ∧ w = w' := by
  have c2 := hd.c2
  clear hd
  go_enter Try.func34, Try.ntmps34
  go_wp2_with fail
  go_ret
  exact ⟨rfl, rfl⟩
theorem devWipe_no (p g : Nat) (data : List UInt8) (r s : Nat) (w : World) (a n : Int) (hd : DevS w p g data r s) (hl : data.length ≤ 1000000000) (h : ¬ (0 ≤ n ∧ 0 ≤ a ∧ a ≤ data.length ∧ n ≤ data.length - a)) :
    Calls Try.prog 37 #[.pointer (some ⟨p, 0, none⟩), .int .i64 a, .int .i64 n] w fun e w' => e = .returned (.int .i64 2) ∧ w = w' := by
  have EX := Lib.hid (devExists_no p g data r s w a n hd hl h)
  clear h hd
  go_enter Try.func37, Try.ntmps37
  go_wp2_with fail
  (with_reducible refine EX.out.mono ?_)
  rintro e w1 ⟨rfl, rfl⟩
  go_wp2_with fail
  go_ret
  exact ⟨rfl, rfl⟩
theorem devResize_no (p : Nat) (n : Int) (w : World) (h : ¬ (0 ≤ n ∧ n ≤ 16777216)) :
    Calls Try.prog 38 #[.pointer (some ⟨p, 0, none⟩), .int .i64 n] w fun e w' => e = .returned (.int .i64 2) ∧ w = w' := by
  have SZ := Lib.hid (devSized n w)
  rw [decide_eq_false h] at SZ
  clear h
  go_enter Try.func38, Try.ntmps38
  go_wp2_with fail
  (with_reducible refine SZ.out.mono ?_)
  rintro e w1 ⟨rfl, rfl⟩
  go_wp2_with fail
  go_ret
  exact ⟨rfl, rfl⟩
theorem devMove_no (p g : Nat) (data : List UInt8) (r s : Nat) (w : World) (a b n : Int) (hd : DevS w p g data r s) (hl : data.length ≤ 1000000000) (h : ¬ (0 ≤ n ∧ 0 ≤ a ∧ a ≤ data.length ∧ n ≤ data.length - a) ∨ ¬ (0 ≤ n ∧ 0 ≤ b ∧ b ≤ data.length ∧ n ≤ data.length - b)) :
    Calls Try.prog 29 #[.pointer (some ⟨p, 0, none⟩), .int .i64 a, .int .i64 b, .int .i64 n] w fun e w' => e = .returned (.int .i64 2) ∧ w = w' := by
  by_cases h1 : 0 ≤ n ∧ 0 ≤ a ∧ a ≤ data.length ∧ n ≤ data.length - a
  · have h2 : ¬ (0 ≤ n ∧ 0 ≤ b ∧ b ≤ data.length ∧ n ≤ data.length - b) := h.resolve_left (fun hh => hh h1)
    obtain ⟨n', rfl⟩ := Int.eq_ofNat_of_zero_le h1.1
    obtain ⟨a', rfl⟩ := Int.eq_ofNat_of_zero_le h1.2.1
    have EX1 := Lib.hid (devExists_yes p g data r s w a' n' hd hl (by omega))
    have EX := Lib.hid (devExists_no p g data r s w b n' hd hl h2)
    clear h h1 h2 hd
    go_enter Try.func29, Try.ntmps29
    go_wp2_with fail
    (with_reducible refine EX1.out.mono ?_)
    rintro e w1 ⟨rfl, rfl⟩
    go_wp2_with fail
    (with_reducible refine EX.out.mono ?_)
    rintro e w1 ⟨rfl, rfl⟩
    go_wp2_with fail
    go_ret
    exact ⟨rfl, rfl⟩
  · have EX := Lib.hid (devExists_no p g data r s w a n hd hl h1)
    clear h h1 hd
    go_enter Try.func29, Try.ntmps29
    go_wp2_with fail
    (with_reducible refine EX.out.mono ?_)
    rintro e w1 ⟨rfl, rfl⟩
    go_wp2_with fail
    go_ret
    exact ⟨rfl, rfl⟩

theorem refIn_yes (A : Option Addr) (l c a n : Nat) (w : World) (h : a + n ≤ l) (hl : l ≤ 1000000000) : Calls Try.prog 35 #[.slice A l c, .int .i64 (a : Int), .int .i64 (n : Int)] w fun e w' => e = .returned (.bool true) ∧ w = w' := by
  have t0 : decide ((0 : Int) ≤ (n : Int)) = true := decide_eq_true (by omega)
  have t1 : decide ((0 : Int) ≤ (a : Int)) = true := decide_eq_true (by omega)
  have t2 : decide ((a : Int) ≤ (l : Int)) = true := decide_eq_true (by omega)
  have t2' : decide (a ≤ l) = true := decide_eq_true (by omega)
  have t3 : decide ((n : Int) ≤ (l : Int) - (a : Int)) = true := decide_eq_true (by omega)
  go_enter Try.func35, Try.ntmps35
  go_wp2_with fail
  go_ret
  exact ⟨rfl, rfl⟩
theorem refIn_no (A : Option Addr) (l c : Nat) (a n : Int) (w : World) (hl : l ≤ 1000000000) (h : ¬ (0 ≤ n ∧ 0 ≤ a ∧ a ≤ l ∧ n ≤ l - a)) : Calls Try.prog 35 #[.slice A l c, .int .i64 a, .int .i64 n] w fun e w' => e = .returned (.bool false) ∧ w = w' := by
  by_cases h1 : 0 ≤ a
  · have t1 : decide ((0 : Int) ≤ a) = true := decide_eq_true h1
    by_cases h0 : 0 ≤ n
    · have t0 : decide ((0 : Int) ≤ n) = true := decide_eq_true h0
      by_cases h2 : a ≤ l
      · have t2 : decide (a ≤ (l : Int)) = true := decide_eq_true h2
        have t3 : decide (n ≤ (l : Int) - a) = false := decide_eq_false (fun h3 => h ⟨h0, h1, h2, h3⟩)
        clear h
        go_enter Try.func35, Try.ntmps35
        go_wp2_with fail
        go_ret
        exact ⟨rfl, rfl⟩
      · have t2 : decide (a ≤ (l : Int)) = false := decide_eq_false h2
        clear h
        go_enter Try.func35, Try.ntmps35
        go_wp2_with fail
        go_ret
        exact ⟨rfl, rfl⟩
    · have t0 : decide ((0 : Int) ≤ n) = false := decide_eq_false h0
      clear h
      go_enter Try.func35, Try.ntmps35
      go_wp2_with fail
      go_ret
      exact ⟨rfl, rfl⟩
  · have t1 : decide ((0 : Int) ≤ a) = false := decide_eq_false h1
    clear h
    go_enter Try.func35, Try.ntmps35
    go_wp2_with fail
    go_ret
    exact ⟨rfl, rfl⟩
end Go.Proofs.Ytpaimcigkpdjpaa
