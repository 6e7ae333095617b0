/-
  inflate.All, over what Write does to a new machine.
-/
import Derived.Test.YtdmmlpioaiammaaDoorInfRuns
import Derived.StillTailTactics
import Derived.Deep.RegionHeld3
namespace Go.Proofs.YtdmmlpioaiammaaDoor
open Go.RowKit

/-- the end of Write: all came out and r bytes are left behind the blocks, or a fault -/
def WroteAll (B pm pr pw : Nat) (all : List UInt8) (r : Nat) (w' : World) : Prop :=
  ∃ Q buf pos gone o v m, MS w' B Q pm pr pw buf pos gone o all v m ∧ m.stage = 11 ∧ (restBytes buf pos).length = r ∧ buf.length ≤ 1000000
def WroteIs (B pm pr pw : Nat) (all : List UInt8) (r : Nat) (flt : Int) (w : World) (e : Ending) (w' : World) : Prop :=
  Below B w w' ∧ e = .returned (.int .i64 flt) ∧ (flt = 0 → WroteAll B pm pr pw all r w')
def AllPost (all : List UInt8) (k : Int) (flt : Int) (w : World) (e : Ending) (w' : World) : Prop :=
  Below w.heap.size w w' ∧ ((flt ≠ 0 ∧ e = .returned (.tuple #[.slice none 0 0, .int .i64 0, .int .i64 flt])) ∨
    (flt = 0 ∧ ∃ A c, e = .returned (.tuple #[.slice A all.length c, .int .i64 k, .int .i64 0]) ∧ Sl w' w'.heap.size A (bytesV all)))
set_option maxHeartbeats 1000000 in
theorem infAll_any (lim : Nat) (a : Option Addr) (n c : Nat) (all : List UInt8) (r : Nat) (flt : Int) (w : World) (hn : n ≤ 1000000) (hr : r ≤ 1000000)
    (hW : ∀ pm pr pw w1, Whole w1 pm 44 (machC pr pw (.slice none 0 0) (mv0 lim)).toArray → RdS w1 w.heap.size pr (.slice none 0 0) [] 0 0 → WinS w1 pw [] → w.heap.size ≤ pr → pr < pw → pw < pm → pm < w1.heap.size → Below w.heap.size w w1 →
      Calls Tryd.prog 7 #[.pointer (some ⟨pm, 0, none⟩), .slice a n c] w1 (WroteIs w.heap.size pm pr pw all r flt w1)) :
    Calls Tryd.prog 5 #[.slice a n c, .int .i64 (lim : Int)] w (AllPost all ((n : Int) - (r : Int)) flt w) := by
  have NW := Lib.hid (infNew_any lim w)
  have HW := Lib.hid hW
  clear hW
  go_enter Tryd.func5, Tryd.ntmps5
  go_wp2_with fail
  (with_reducible refine NW.out.mono ?_)
  rintro e w1 ⟨pm, pr, pw, rfl, h1, h2, h3, h4, h5, h6, h7, hb1⟩
  have WR := Lib.hid (HW.out pm pr pw w1 h1 h2 h3 h4 h5 h6 h7 hb1)
  have HB1 := Lib.hid hb1
  clear h1 h2 h3 hb1 NW HW
  go_wp2_with fail
  (with_reducible refine WR.out.mono ?_)
  rintro e w2 ⟨hb2, rfl, hwr⟩
  have HB2 := Lib.hid (HB1.out.trans hb2)
  have HWR := Lib.hid hwr
  clear hb2 hwr WR HB1
  by_cases hf : flt = 0
  · obtain ⟨Q, buf, pos, gone, o, v, m, hm, hst, hre, hbl⟩ := HWR.out hf
    have d5 := hm.mach.cell 5
    have d3 := hm.mach.cell 3
    have g3 := hm.mach.frozen 3
    simp [machC, hst] at d5 d3
    obtain ⟨A, k, rfl⟩ := own_form hm.own
    have DO := Lib.hid (infDone_any pm 11 w2 d5)
    have TA := Lib.hid (infTake_any pm _ w2 d3 g3 A all.length k rfl)
    have HM := Lib.hid hm
    have HRE := Lib.hid hre
    clear hm hre HWR
    subst hf
    go_wp2_with fail
    (with_reducible refine DO.out.mono ?_)
    rintro e w3 ⟨rfl, rfl⟩
    clear DO
    go_wp2_with fail
    (with_reducible refine TA.out.mono ?_)
    rintro e w3 ⟨rfl, hw3⟩
    have hq := HM.out.qm
    have hf3 : Fr (fun x => x = pm) w2 w3 := by rw [hw3]; exact (Fr.refl (fun k => k = pm) w2).setCell (p := ⟨pm, 3, none⟩) (.inl rfl) _
    have hW3 := HM.out.mach.set_ 3 (.slice none 0 0)
    rw [← hw3] at hW3
    have e5 := hW3.cell 5
    have e1 := hW3.cell 1
    simp [machC, hst] at e5 e1
    have RE := Lib.hid (infRest_any w.heap.size pm pr buf pos gone o w3 e5 e1 (HM.out.rd.fr hf3 (fun e => HM.out.ne.1 e.symm) (fun g hg e => (HM.out.ro g hg).2.1 e)) hbl)
    have HSL := Lib.hid ((Sl.of_own HM.out.own).frNe hf3 (Nat.le_refl _) (fun x hx e => by have := (HM.out.own.lt x.block (by rw [hx]; rfl)).1; omega))
    have HB3 := Lib.hid (HB2.out.trans (hf3.below (B := w.heap.size) HB2.out.size (fun k hk e => by have := HM.out.bm; omega)))
    have hs3 := hf3.size
    have hs2 := HB2.out.size
    clear TA hW3 hw3 hf3 HM e5 e1 d3 g3 d5 HB2
    go_wp2_with fail
    (with_reducible refine RE.out.mono ?_)
    rintro e w4 ⟨A4, k4, rfl, ho4, hb4⟩
    rw [len_bytesV, HRE.out]
    have HP : Hid (AllPost all ((n : Int) - (r : Int)) 0 w (.returned (.tuple #[.slice A all.length k, .int .i64 ((n : Int) - (r : Int)), .int .i64 0])) w4) := ⟨HB3.out.trans (hb4.mono (by omega)), .inr ⟨rfl, A, k, rfl, (HSL.out.below hb4 hs3).imp id (fun ⟨b, off, q1, q2, q3⟩ => ⟨b, off, q1, Nat.lt_of_lt_of_le q2 (Nat.le_trans hs3 hb4.size), q3⟩)⟩⟩
    clear ho4 hb4 RE HB3 HSL
    go_wp2_with fail
    go_ret3
    exact HP.out
  · have HP : Hid (AllPost all ((n : Int) - (r : Int)) flt w (.returned (.tuple #[.slice none 0 0, .int .i64 0, .int .i64 flt])) w2) := ⟨HB2.out, .inl ⟨hf, rfl⟩⟩
    clear HWR HB2
    go_wp2_with fail
    go_ret3
    exact HP.out
end Go.Proofs.YtdmmlpioaiammaaDoor
