/-
  inflate: New, Done, Take, Rest.
-/
import Derived.Test.YtdmmlpioaiammaaDoorInfFix
namespace Go.Proofs.YtdmmlpioaiammaaDoor
open Go.RowKit

def mv0 (lim : Nat) : MV := ⟨lim, 0, 0, false, 0, .pointer none, .pointer none, 0⟩
def NewPost (lim : Nat) (w : World) (e : Ending) (w' : World) : Prop :=
  ∃ pm pr pw, e = .returned (.tuple #[.pointer (some ⟨pm, 0, none⟩), .int .i64 0]) ∧ Whole w' pm 44 (machC pr pw (.slice none 0 0) (mv0 lim)).toArray ∧ RdS w' w.heap.size pr (.slice none 0 0) [] 0 0 ∧ WinS w' pw [] ∧ w.heap.size ≤ pr ∧ pr < pw ∧ pw < pm ∧ pm < w'.heap.size ∧ Below w.heap.size w w'
set_option maxHeartbeats 400000 in
theorem infNew_any (lim : Nat) (w : World) : Calls Tryd.prog 6 #[.int .i64 (lim : Int)] w (NewPost lim w) := by
  have BN := Lib.hid (bitinNew_any w.heap.size w (Nat.le_refl _))
  have l0 : (0 : Int) ≤ (lim : Int) := Int.natCast_nonneg _
  go_enter Tryd.func6, Tryd.ntmps6
  go_wp2_with fail
  (with_reducible refine BN.out.mono ?_)
  rintro e w1 ⟨rfl, hr1, hb1⟩
  have hlt := hr1.cells.lt
  have HR1 := Lib.hid hr1
  have HB1 := Lib.hid hb1
  have hs1 := hb1.size
  have WN := Lib.hid (winNew_any w1)
  clear hr1 hb1 BN
  go_wp2_with fail
  (with_reducible refine WN.out.mono ?_)
  rintro e w2 ⟨rfl, hw2, hb2⟩
  have HR2 := Lib.hid (HR1.out.fr (Fr.of_below hb2 (fun _ => False)) id (fun _ _ => id))
  have hlt2 := hw2.lt
  have HW2 := Lib.hid hw2
  have HB2 := Lib.hid (HB1.out.trans (hb2.mono hs1))
  have hs2' : w.heap.size ≤ w2.heap.size := Nat.le_trans hs1 hb2.size
  clear hw2 hb2 WN HR1 HB1
  go_wp2_with fail
  go_ret2
  have hf3 := (Fr.refl (fun _ => False) w2).alloc (Obj.cells (machC w.heap.size w1.heap.size (.slice none 0 0) (mv0 lim)).toArray 44)
  refine ⟨w2.heap.size, w.heap.size, w1.heap.size, rfl, Whole.new _ _ _, HR2.out.fr hf3 id (fun _ _ => id), HW2.out.fr hf3 id, Nat.le_refl _, hlt, hlt2, (Whole.new w2 44 (machC w.heap.size w1.heap.size (.slice none 0 0) (mv0 lim)).toArray).lt, HB2.out.alloc hs2' _⟩
set_option maxHeartbeats 400000 in
theorem infDone_any (pm : Nat) (s : Int) (w : World) (c5 : w.cell? ⟨pm, 5, none⟩ = some (.int .i64 s)) :
    Calls Tryd.prog 8 #[.pointer (some ⟨pm, 0, none⟩)] w fun e w' => e = .returned (.bool (s == 11)) ∧ w = w' := by
  go_enter Tryd.func8, Tryd.ntmps8
  go_wp2_with fail
  go_ret
  exact ⟨rfl, rfl⟩
set_option maxHeartbeats 400000 in
theorem infTake_any (pm : Nat) (v : Value) (w : World) (c3 : w.cell? ⟨pm, 3, none⟩ = some v) (f3 : w.frozen? ⟨pm, 3, none⟩ = false) (A : Option Addr) (n c : Nat) (hv : v = .slice A n c) :
    Calls Tryd.prog 9 #[.pointer (some ⟨pm, 0, none⟩)] w fun e w' => e = .returned v ∧ w' = w.setCell ⟨pm, 3, none⟩ (.slice none 0 0) := by
  subst hv
  go_enter Tryd.func9, Tryd.ntmps9
  go_wp2_with fail
  go_ret
  exact ⟨rfl, rfl⟩
set_option maxHeartbeats 400000 in
theorem infRest_any (B pm pr : Nat) (buf : List UInt8) (pos gone : Nat) (o : Value) (w : World) (c5 : w.cell? ⟨pm, 5, none⟩ = some (.int .i64 11)) (c1 : w.cell? ⟨pm, 1, none⟩ = some (.pointer (some ⟨pr, 0, none⟩))) (hr : RdS w B pr o buf pos gone) (hb : buf.length ≤ 1000000) :
    Calls Tryd.prog 10 #[.pointer (some ⟨pm, 0, none⟩)] w (Gives 5 (bytesV (restBytes buf pos)) w) := by
  have RE := Lib.hid (rest_any B pr o buf pos gone w hr (by omega))
  clear hr
  go_enter Tryd.func10, Tryd.ntmps10
  go_wp2_with fail
  (with_reducible refine RE.out.mono ?_)
  intro e w1 hg
  obtain ⟨A1, k1, rfl, ho1, hb1⟩ := hg
  have HP : Hid (Gives 5 (bytesV (restBytes buf pos)) w (.returned (.slice A1 (bytesV (restBytes buf pos)).length k1)) w1) := ⟨A1, k1, rfl, ho1, hb1⟩
  clear ho1 hb1
  go_wp2_with fail
  go_ret
  exact HP.out
end Go.Proofs.YtdmmlpioaiammaaDoor
