/-
  Which tokens may be, and how many bytes they stand for: package token and the reference.
-/
import Derived.Test.YtjfmaebgihlegaaDoorTokMath
namespace Go.Proofs.YtjfmaebgihlegaaDoor
open Go.RowKit

theorem rights {lit : UInt8} {len dist : Int} : (len = 0 → Tok.right ⟨lit, len, dist⟩ = decide (dist = 0)) ∧ (¬ len = 0 → Tok.right ⟨lit, len, dist⟩ = ((lit.toNat : Int) == 0 && decide (3 ≤ len) && decide (len ≤ 258) && decide (1 ≤ dist) && decide (dist ≤ 32768))) :=
  ⟨fun h => by simp [Tok.right, h], fun h => by simp [Tok.right, h]⟩

set_option maxHeartbeats 1000000 in
theorem right_any (lit : UInt8) (len dist : Int) (w : World) :
    Calls Tryd.prog 18 #[.agg #[.int .u8 (lit.toNat : Int), .int .i64 len, .int .i64 dist]] w fun e w' => e = .returned (.bool (Tok.right ⟨lit, len, dist⟩)) ∧ Below w.heap.size w w' := by
  by_cases h0 : len = 0
  · subst h0
    by_cases hd : dist = 0
    · subst hd
      have HR := Lib.hid (show Tok.right ⟨lit, 0, 0⟩ = true by rw [rights.1 rfl]; simp)
      generalize (lit.toNat : Int) = x
      go_enter Tryd.func18, Tryd.ntmps18
      go_wp2
      go_ret
      exact ⟨by rw [HR.out]; rfl, (Below.refl _ _).alloc (Nat.le_refl _) _⟩
    · have HR := Lib.hid (show Tok.right ⟨lit, 0, dist⟩ = false by rw [rights.1 rfl]; simpa using hd)
      have t1 : (dist == 0) = false := by simpa using hd
      generalize (lit.toNat : Int) = x
      clear hd
      go_enter Tryd.func18, Tryd.ntmps18
      go_wp2
      go_ret
      exact ⟨by rw [HR.out]; rfl, (Below.refl _ _).alloc (Nat.le_refl _) _⟩
  · have HR := Lib.hid (rights (lit := lit) (len := len) (dist := dist) |>.2 h0)
    have t0 : (len == 0) = false := by simpa using h0
    clear h0
    obtain ⟨b1, u1⟩ : ∃ d, ((lit.toNat : Int) == 0) = d := ⟨_, rfl⟩
    obtain ⟨b2, u2⟩ : ∃ d, decide (3 ≤ len) = d := ⟨_, rfl⟩
    obtain ⟨b3, u3⟩ : ∃ d, decide (len ≤ 258) = d := ⟨_, rfl⟩
    obtain ⟨b4, u4⟩ : ∃ d, decide (1 ≤ dist) = d := ⟨_, rfl⟩
    obtain ⟨b5, u5⟩ : ∃ d, decide (dist ≤ 32768) = d := ⟨_, rfl⟩
    rw [u1, u2, u3, u4, u5] at HR
    generalize (lit.toNat : Int) = x at u1
    cases b1 with
    | false =>
      have HR2 := Lib.hid (show Tok.right ⟨lit, len, dist⟩ = false by rw [HR.out]; simp)
      go_enter Tryd.func18, Tryd.ntmps18
      go_wp2
      go_ret
      exact ⟨by rw [HR2.out]; rfl, (Below.refl _ _).alloc (Nat.le_refl _) _⟩
    | true =>
      cases b2 with
      | false =>
        have HR2 := Lib.hid (show Tok.right ⟨lit, len, dist⟩ = false by rw [HR.out]; simp)
        go_enter Tryd.func18, Tryd.ntmps18
        go_wp2
        go_ret
        exact ⟨by rw [HR2.out]; rfl, (Below.refl _ _).alloc (Nat.le_refl _) _⟩
      | true =>
        cases b3 with
        | false =>
          have HR2 := Lib.hid (show Tok.right ⟨lit, len, dist⟩ = false by rw [HR.out]; simp)
          go_enter Tryd.func18, Tryd.ntmps18
          go_wp2
          go_ret
          exact ⟨by rw [HR2.out]; rfl, (Below.refl _ _).alloc (Nat.le_refl _) _⟩
        | true =>
          cases b4 with
          | false =>
            have HR2 := Lib.hid (show Tok.right ⟨lit, len, dist⟩ = false by rw [HR.out]; simp)
            go_enter Tryd.func18, Tryd.ntmps18
            go_wp2
            go_ret
            exact ⟨by rw [HR2.out]; rfl, (Below.refl _ _).alloc (Nat.le_refl _) _⟩
          | true =>
            cases b5 with
            | false =>
              have HR2 := Lib.hid (show Tok.right ⟨lit, len, dist⟩ = false by rw [HR.out]; simp)
              go_enter Tryd.func18, Tryd.ntmps18
              go_wp2
              go_ret
              exact ⟨by rw [HR2.out]; rfl, (Below.refl _ _).alloc (Nat.le_refl _) _⟩
            | true =>
              have HR2 := Lib.hid (show Tok.right ⟨lit, len, dist⟩ = true by rw [HR.out]; simp)
              go_enter Tryd.func18, Tryd.ntmps18
              go_wp2
              go_ret
              exact ⟨by rw [HR2.out]; rfl, (Below.refl _ _).alloc (Nat.le_refl _) _⟩

set_option maxHeartbeats 1000000 in
theorem refRight_any (lit : UInt8) (len dist : Int) (w : World) :
    Calls Tryd.prog 19 #[.agg #[.int .u8 (lit.toNat : Int), .int .i64 len, .int .i64 dist]] w fun e w' => e = .returned (.bool (Tok.right ⟨lit, len, dist⟩)) ∧ Below w.heap.size w w' := by
  by_cases h0 : len = 0
  · subst h0
    by_cases hd : dist = 0
    · subst hd
      have HR := Lib.hid (show Tok.right ⟨lit, 0, 0⟩ = true by rw [rights.1 rfl]; simp)
      generalize (lit.toNat : Int) = x
      go_enter Tryd.func19, Tryd.ntmps19
      go_wp2
      go_ret
      exact ⟨by rw [HR.out]; rfl, (Below.refl _ _).alloc (Nat.le_refl _) _⟩
    · have HR := Lib.hid (show Tok.right ⟨lit, 0, dist⟩ = false by rw [rights.1 rfl]; simpa using hd)
      have t1 : (dist == 0) = false := by simpa using hd
      generalize (lit.toNat : Int) = x
      clear hd
      go_enter Tryd.func19, Tryd.ntmps19
      go_wp2
      go_ret
      exact ⟨by rw [HR.out]; rfl, (Below.refl _ _).alloc (Nat.le_refl _) _⟩
  · have HR := Lib.hid (rights (lit := lit) (len := len) (dist := dist) |>.2 h0)
    have t0 : (len == 0) = false := by simpa using h0
    clear h0
    obtain ⟨b1, u1⟩ : ∃ d, ((lit.toNat : Int) == 0) = d := ⟨_, rfl⟩
    obtain ⟨b2, u2⟩ : ∃ d, decide (3 ≤ len) = d := ⟨_, rfl⟩
    obtain ⟨b3, u3⟩ : ∃ d, decide (len ≤ 258) = d := ⟨_, rfl⟩
    obtain ⟨b4, u4⟩ : ∃ d, decide (1 ≤ dist) = d := ⟨_, rfl⟩
    obtain ⟨b5, u5⟩ : ∃ d, decide (dist ≤ 32768) = d := ⟨_, rfl⟩
    rw [u1, u2, u3, u4, u5] at HR
    generalize (lit.toNat : Int) = x at u1
    cases b1 with
    | false =>
      have HR2 := Lib.hid (show Tok.right ⟨lit, len, dist⟩ = false by rw [HR.out]; simp)
      go_enter Tryd.func19, Tryd.ntmps19
      go_wp2
      go_ret
      exact ⟨by rw [HR2.out]; rfl, (Below.refl _ _).alloc (Nat.le_refl _) _⟩
    | true =>
      cases b2 with
      | false =>
        have HR2 := Lib.hid (show Tok.right ⟨lit, len, dist⟩ = false by rw [HR.out]; simp)
        go_enter Tryd.func19, Tryd.ntmps19
        go_wp2
        go_ret
        exact ⟨by rw [HR2.out]; rfl, (Below.refl _ _).alloc (Nat.le_refl _) _⟩
      | true =>
        cases b3 with
        | false =>
          have HR2 := Lib.hid (show Tok.right ⟨lit, len, dist⟩ = false by rw [HR.out]; simp)
          go_enter Tryd.func19, Tryd.ntmps19
          go_wp2
          go_ret
          exact ⟨by rw [HR2.out]; rfl, (Below.refl _ _).alloc (Nat.le_refl _) _⟩
        | true =>
          cases b4 with
          | false =>
            have HR2 := Lib.hid (show Tok.right ⟨lit, len, dist⟩ = false by rw [HR.out]; simp)
            go_enter Tryd.func19, Tryd.ntmps19
            go_wp2
            go_ret
            exact ⟨by rw [HR2.out]; rfl, (Below.refl _ _).alloc (Nat.le_refl _) _⟩
          | true =>
            cases b5 with
            | false =>
              have HR2 := Lib.hid (show Tok.right ⟨lit, len, dist⟩ = false by rw [HR.out]; simp)
              go_enter Tryd.func19, Tryd.ntmps19
              go_wp2
              go_ret
              exact ⟨by rw [HR2.out]; rfl, (Below.refl _ _).alloc (Nat.le_refl _) _⟩
            | true =>
              have HR2 := Lib.hid (show Tok.right ⟨lit, len, dist⟩ = true by rw [HR.out]; simp)
              go_enter Tryd.func19, Tryd.ntmps19
              go_wp2
              go_ret
              exact ⟨by rw [HR2.out]; rfl, (Below.refl _ _).alloc (Nat.le_refl _) _⟩

set_option maxHeartbeats 1000000 in
theorem size_any (lit : UInt8) (len dist : Int) (w : World) :
    Calls Tryd.prog 21 #[.agg #[.int .u8 (lit.toNat : Int), .int .i64 len, .int .i64 dist]] w fun e w' => e = .returned (.int .i64 ((Tok.size ⟨lit, len, dist⟩ : Nat) : Int)) ∧ Below w.heap.size w w' := by
  have hm : ∀ W, Tok.right ⟨lit, len, dist⟩ = true → (Builtin.max_ #[3, 3] 3 #[.int .i64 1, .int .i64 len]).run Tryd.prog W = .ok (.int .i64 ((Tok.size ⟨lit, len, dist⟩ : Nat) : Int)) W := fun W hr => by
    have e : ((Tok.size ⟨lit, len, dist⟩ : Nat) : Int) = if len > 1 then len else 1 := by
      unfold Tok.size
      rw [if_pos hr]
      by_cases h0 : len = 0
      · subst h0; simp
      · have := Tok.right_len hr h0
        simp only [] at this
        rw [if_neg h0]
        show ((len.toNat : Nat) : Int) = _
        split <;> omega
    rw [e]; simp [go_sem]
  have HM := Lib.hid hm
  clear hm
  have HR := fun W => Lib.hid (right_any lit len dist W)
  have HZ := Lib.hid (show Tok.right ⟨lit, len, dist⟩ = false → Tok.size ⟨lit, len, dist⟩ = 0 from fun h => by simp [Tok.size, h])
  generalize hx : (lit.toNat : Int) = x at HR
  have HX := Lib.hid hx
  clear hx
  generalize Tok.size ⟨lit, len, dist⟩ = sz at HM HZ
  generalize Tok.right ⟨lit, len, dist⟩ = rt at HM HZ HR
  cases rt with
  | false =>
    obtain rfl : sz = 0 := HZ.out rfl
    go_enter Tryd.func21, Tryd.ntmps21
    go_wp2_with fail
    refine (HR _).out.mono ?_
    rintro e w1 ⟨rfl, hb⟩
    go_wp2_with fail
    go_ret
    exact ⟨rfl, ((Below.refl _ _).alloc (Nat.le_refl _) _).trans (hb.mono (by simp))⟩
  | true =>
    have hm := fun W => HM.out W rfl
    go_enter Tryd.func21, Tryd.ntmps21
    go_wp2_with fail
    refine (HR _).out.mono ?_
    rintro e w1 ⟨rfl, hb⟩
    have hW := (Whole.new w 48 _).fr (Fr.of_below hb (fun _ => False)) id
    have c1 := hW.cell 1
    simp at c1
    have HB := Lib.hid hb
    clear hb hW
    go_wp2_with fail
    go_ret
    exact ⟨rfl, ((Below.refl _ _).alloc (Nat.le_refl _) _).trans (HB.out.mono (by simp))⟩

end Go.Proofs.YtjfmaebgihlegaaDoor
