/-
  inflate.Machine: step's ways, Write's loop.
-/
import Derived.Test.YtdmmlpioaiammaaDoorInfBytes
import Derived.Deep.LoopGhost
namespace Go.Proofs.YtdmmlpioaiammaaDoor
open Go.RowKit

set_option maxHeartbeats 400000 in
theorem step0 (pm : Nat) (b : Bool) (Φ : World → Prop) (w : World) (c5 : w.cell? ⟨pm, 5, none⟩ = some (.int .i64 0)) (hC : Calls Tryd.prog 16 #[.pointer (some ⟨pm, 0, none⟩)] w fun e w' => e = .returned (.bool b) ∧ Φ w') :
    Calls Tryd.prog 14 #[.pointer (some ⟨pm, 0, none⟩)] w fun e w' => e = .returned (.bool b) ∧ Φ w' := by
  have HC := Lib.hid hC
  clear hC
  go_enter Tryd.func14, Tryd.ntmps14
  go_wp2_with fail
  (with_reducible refine HC.out.mono ?_)
  rintro e w1 ⟨rfl, h1⟩
  have H1 := Lib.hid h1
  clear h1 HC
  go_wp2_with fail
  go_ret
  exact ⟨rfl, H1.out⟩
set_option maxHeartbeats 400000 in
theorem step1 (pm : Nat) (b : Bool) (Φ : World → Prop) (w : World) (c5 : w.cell? ⟨pm, 5, none⟩ = some (.int .i64 1)) (hC : Calls Tryd.prog 17 #[.pointer (some ⟨pm, 0, none⟩)] w fun e w' => e = .returned (.bool b) ∧ Φ w') :
    Calls Tryd.prog 14 #[.pointer (some ⟨pm, 0, none⟩)] w fun e w' => e = .returned (.bool b) ∧ Φ w' := by
  have HC := Lib.hid hC
  clear hC
  go_enter Tryd.func14, Tryd.ntmps14
  go_wp2_with fail
  (with_reducible refine HC.out.mono ?_)
  rintro e w1 ⟨rfl, h1⟩
  have H1 := Lib.hid h1
  clear h1 HC
  go_wp2_with fail
  go_ret
  exact ⟨rfl, H1.out⟩
set_option maxHeartbeats 400000 in
theorem step2 (pm : Nat) (b : Bool) (Φ : World → Prop) (w : World) (c5 : w.cell? ⟨pm, 5, none⟩ = some (.int .i64 2)) (hC : Calls Tryd.prog 18 #[.pointer (some ⟨pm, 0, none⟩)] w fun e w' => e = .returned (.bool b) ∧ Φ w') :
    Calls Tryd.prog 14 #[.pointer (some ⟨pm, 0, none⟩)] w fun e w' => e = .returned (.bool b) ∧ Φ w' := by
  have HC := Lib.hid hC
  clear hC
  go_enter Tryd.func14, Tryd.ntmps14
  go_wp2_with fail
  (with_reducible refine HC.out.mono ?_)
  rintro e w1 ⟨rfl, h1⟩
  have H1 := Lib.hid h1
  clear h1 HC
  go_wp2_with fail
  go_ret
  exact ⟨rfl, H1.out⟩
set_option maxHeartbeats 400000 in
theorem step7 (pm : Nat) (b : Bool) (Φ : World → Prop) (w : World) (c5 : w.cell? ⟨pm, 5, none⟩ = some (.int .i64 7)) (hC : Calls Tryd.prog 23 #[.pointer (some ⟨pm, 0, none⟩)] w fun e w' => e = .returned (.bool b) ∧ Φ w') :
    Calls Tryd.prog 14 #[.pointer (some ⟨pm, 0, none⟩)] w fun e w' => e = .returned (.bool b) ∧ Φ w' := by
  have HC := Lib.hid hC
  clear hC
  go_enter Tryd.func14, Tryd.ntmps14
  go_wp2_with fail
  (with_reducible refine HC.out.mono ?_)
  rintro e w1 ⟨rfl, h1⟩
  have H1 := Lib.hid h1
  clear h1 HC
  go_wp2_with fail
  go_ret
  exact ⟨rfl, H1.out⟩

/-- what Write does: I bears a number that every step lowers, and the stage; F is what is left where a step stops it -/
def WritePost2 (B : Nat) (I : Nat → Int → World → Prop) (F : World → Prop) (flt : Int) (w : World) (e : Ending) (w' : World) : Prop :=
  Below B w w' ∧ ((e = .returned (.int .i64 0) ∧ ∃ n, I n 11 w') ∨ (e = .returned (.int .i64 flt) ∧ F w'))
set_option maxHeartbeats 1000000 in
theorem write_any (B pm pr : Nat) (I : Nat → Int → World → Prop) (F : World → Prop) (flt : Int) (a : Option Addr) (l c : Nat) (w : World)
    (c4 : w.cell? ⟨pm, 4, none⟩ = some (.int .i64 0)) (c1 : w.cell? ⟨pm, 1, none⟩ = some (.pointer (some ⟨pr, 0, none⟩)))
    (hFe : Calls Tryd.prog 13 #[.pointer (some ⟨pr, 0, none⟩), .slice a l c] w fun e w1 => e = .returned (.tuple #[]) ∧ Below B w w1 ∧ ∃ n, I n 0 w1)
    (hI : ∀ n s W, I n s W → W.cell? ⟨pm, 5, none⟩ = some (.int .i64 s) ∧ W.cell? ⟨pm, 4, none⟩ = some (.int .i64 0))
    (hS : ∀ n s W, I n s W → s ≠ 11 → Calls Tryd.prog 14 #[.pointer (some ⟨pm, 0, none⟩)] W fun e W' => Below B W W' ∧ ((e = .returned (.bool true) ∧ ∃ n' s', n' < n ∧ I n' s' W') ∨ (e = .returned (.bool false) ∧ F W')))
    (hF : ∀ W, F W → W.cell? ⟨pm, 4, none⟩ = some (.int .i64 flt)) :
    Calls Tryd.prog 7 #[.pointer (some ⟨pm, 0, none⟩), .slice a l c] w (WritePost2 B I F flt w) := by
  have FE := Lib.hid hFe
  have HI := Lib.hid hI
  have HS := Lib.hid hS
  have HF := Lib.hid hF
  clear hFe hI hS hF
  go_enter Tryd.func7, Tryd.ntmps7
  go_wp2_with fail
  (with_reducible refine FE.out.mono ?_)
  rintro e w1 ⟨rfl, hb1, n0, hi1⟩
  have HB1 := Lib.hid hb1
  have HI1 := Lib.hid hi1
  clear hb1 hi1 FE c1 c4
  go_wp2_with fail
  go_loopg [] n0 (fun g wr => ∃ s, I g s wr ∧ Below B w wr)
  case atStart => exact ⟨0, HI1.out, HB1.out⟩
  case round =>
    obtain ⟨s, hi, hb⟩ := hrel
    have HB := Lib.hid hb
    have HIn := Lib.hid hi
    obtain ⟨c5, c4⟩ := HI.out _ _ _ hi
    clear hb hi
    by_cases hs : s = 11
    · subst hs
      have HP : Hid (WritePost2 B I F flt w (.returned (.int .i64 0)) wr) := ⟨HB.out, .inl ⟨rfl, _, HIn.out⟩⟩
      clear HIn HB HI HS HF HI1 HB1
      go_wp2_with fail
      go_ret
      exact HP.out
    · have ST := Lib.hid (HS.out _ _ _ HIn.out hs)
      clear HIn
      go_wp2_with fail
      (with_reducible refine ST.out.mono ?_)
      rintro e w2 ⟨hb2, ⟨rfl, n', s', hn', hi'⟩ | ⟨rfl, hf2⟩⟩
      · have HI2 := Lib.hid hi'
        have HB2 := Lib.hid (HB.out.trans hb2)
        clear hi' hb2 ST HB HS HF HI HI1 HB1
        go_wp2_with fail
        go_roundg n'
        case measure => exact hn'
        case rel => exact ⟨s', HI2.out, HB2.out⟩
      · have d4 := HF.out _ hf2
        have HP : Hid (WritePost2 B I F flt w (.returned (.int .i64 flt)) w2) := ⟨HB.out.trans hb2, .inr ⟨rfl, hf2⟩⟩
        clear hf2 hb2 ST HB HS HF HI HI1 HB1
        go_wp2_with fail
        go_ret
        exact HP.out
end Go.Proofs.YtdmmlpioaiammaaDoor
