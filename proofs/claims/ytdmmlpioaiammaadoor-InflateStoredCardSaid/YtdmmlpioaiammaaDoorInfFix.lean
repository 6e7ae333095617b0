/-
  inflate.Machine: a block of fixed codes, and its end.
-/
import Derived.Test.YtdmmlpioaiammaaDoorInfWrite
import Derived.Test.YtdmmlpioaiammaaDoorFixed
import Derived.Test.YtdmmlpioaiammaaDoorDecHit
namespace Go.Proofs.YtdmmlpioaiammaaDoor
open Go.RowKit

theorem fixedLits_kind : kindOf fixedLits = 3 := by decide +kernel
theorem fixedDists_kind : kindOf fixedDists = 3 := by decide +kernel
theorem fixedLits_len : fixedLits.length = 288 := by simp [fixedLits]
theorem fixedDists_len : fixedDists.length = 32 := by simp [fixedDists]
theorem may_three {l : List Int} (which : Int) (h : kindOf l = 3) : mayOf l which = 0 := by
  unfold mayOf
  rw [h, if_neg (by decide), if_neg (by decide), if_pos rfl]
theorem hit_end : Hit fixedLits (left [3, 0] 3) 256 7 := by
  unfold Hit
  decide +kernel
theorem TabS.frIn {S : Nat → Prop} {w w' : World} {B Q p : Nat} {l : List Int} (h : TabS w B Q p l) (hf : Fr S w w') (hS : ∀ k, B ≤ k → k < Q → ¬ S k) : TabS w' B Q p l := by
  obtain ⟨A, c, h1, h2, h3⟩ := h.ex
  exact ⟨⟨A, c, h1.fr hf (hS _ h.lo h.hi), own_fr h2 hf (fun g hg => hS _ (h2.lt g hg).1 (h3 g hg)), h3⟩, h.lo, h.hi⟩
def FixPost (B Q pm pr pw : Nat) (buf : List UInt8) (pos gone : Nat) (o : Value) (all : List UInt8) (m : MV) (w : World) (e : Ending) (w' : World) : Prop :=
  ∃ p1 p2 BT QT v, e = .returned (.bool true) ∧ MS w' B Q pm pr pw buf pos gone o all v { m with fin := true, lits := .pointer (some ⟨p1, 0, none⟩), dists := .pointer (some ⟨p2, 0, none⟩), stage := 7 } ∧ TabS w' BT QT p1 fixedLits ∧ Q ≤ BT ∧ Below B w w'
theorem gives_form {t : TypeId} {l : List Int} {w w1 : World} {e : Ending} (h : Gives t (intsV l) w e w1) : ∃ A c, e = .returned (.slice A l.length c) ∧ Sl w1 w1.heap.size A (intsV l) ∧ Below w.heap.size w w1 := by
  obtain ⟨A, c, h1, h2, h3⟩ := h
  rw [len_intsV] at h1 h2
  exact ⟨A, c, h1, Sl.of_own h2, h3⟩
set_option maxHeartbeats 400000 in
theorem goOn_set (B Q pm pr pw : Nat) (buf : List UInt8) (pos gone : Nat) (o : Value) (all : List UInt8) (v : Value) (m : MV) (s : Int) (w : World) (h : MS w B Q pm pr pw buf pos gone o all v m) :
    Calls Tryd.prog 29 #[.pointer (some ⟨pm, 0, none⟩), .int .i64 s] w fun e w' => e = .returned (.bool true) ∧ MS w' B Q pm pr pw buf pos gone o all v { m with stage := s } ∧ Fr (fun x => x = pm) w w' := by
  have HM := Lib.hid h
  have c5 := h.mach.cell 5
  have f5 := h.mach.frozen 5
  simp [machC] at c5
  clear h
  go_enter Tryd.func29, Tryd.ntmps29
  go_wp2_with fail
  go_ret
  exact ⟨rfl, HM.out.upd rfl, (Fr.refl (fun k => k = pm) w).setCell (p := ⟨pm, 5, none⟩) (.inl rfl) _⟩
set_option maxHeartbeats 1000000 in
theorem block_fixed (B Q pm pr pw : Nat) (buf : List UInt8) (k gone : Nat) (o : Value) (all : List UInt8) (v : Value) (m : MV) (t : List UInt8) (w : World) (h : MS w B Q pm pr pw buf (8 * k) gone o all v m) (hb : buf.length ≤ 1000000) (ht : buf.drop k = 3 :: t) :
    Calls Tryd.prog 16 #[.pointer (some ⟨pm, 0, none⟩)] w (FixPost B Q pm pr pw buf (8 * k + 3) gone o all m w) := by
  have hkl : k < buf.length := by
    by_cases h : k < buf.length
    · exact h
    · rw [List.drop_eq_nil_of_le (by omega)] at ht; exact absurd ht (by simp)
  have HM := Lib.hid h
  have c1 := h.mach.cell 1
  simp [machC] at c1
  have BY := bits_yes B pr o buf (8 * k) gone 3 w h.rd (by omega) (by omega) (by rw [len_ofBytes2]; omega)
  have e3 : Bit.num ((left buf (8 * k)).take 3) = 3 := by
    rw [left_at, ht, num3]; decide
  unfold BitsYes at BY
  rw [e3, show (((3 : Nat) : Int)) = 3 from rfl] at BY
  have BY := Lib.hid BY
  have hbm := h.bm
  have hq := h.qm
  have hqs := h.qs
  have eb1 : bits .and .u32 3 1 = 1 := by decide
  clear h ht e3
  go_enter Tryd.func16, Tryd.ntmps16
  go_wp2_with fail
  (with_reducible refine BY.out.mono ?_)
  rintro e w1 ⟨rfl, hr1, hf1⟩
  have hm1 := HM.out.read hr1 hf1
  have c6 := hm1.mach.cell 6
  have g6 := hm1.mach.frozen 6
  simp [machC] at c6
  have HM1 := Lib.hid hm1
  have HB1 := Lib.hid (hf1.below (B := B) (by omega) (fun k hk e => by omega))
  have hs1 := hf1.size
  clear hr1 hf1 hm1 BY c1
  obtain ⟨W2, hW2⟩ : ∃ W2, w1.setCell ⟨pm, 6, none⟩ (.bool true) = W2 := ⟨_, rfl⟩
  have hm2 : MS W2 B Q pm pr pw buf (8 * k + 3) gone o all v { m with fin := true } := by rw [← hW2]; exact HM1.out.upd rfl
  have HB2 : Hid (Below B w W2) := Lib.hid (by rw [← hW2]; exact HB1.out.setCell hbm.1 _)
  have hs2 : w1.heap.size ≤ W2.heap.size := by rw [← hW2]; exact ((Fr.refl (fun k => k = pm) w1).setCell (p := ⟨pm, 6, none⟩) (.inl rfl) _).size
  have HM2 := Lib.hid hm2
  clear hm2 HM1 HB1
  have FL := Lib.hid (fixedLits_any W2)
  go_wp2_with fail
  (with_reducible refine FL.out.mono ?_)
  intro e w3 hg3
  obtain ⟨A3, k3, rfl, hsl3, hb3⟩ := gives_form hg3
  have HM3 := Lib.hid (HM2.out.below hb3)
  have HB3 := Lib.hid (HB2.out.trans (hb3.mono (show B ≤ W2.heap.size by omega)))
  have hs3 := hb3.size
  have DN := Lib.hid (decNew_yes fixedLits 1 A3 k3 w3.heap.size w3 (by rw [fixedLits_len]; decide) hsl3 (Nat.le_refl _) (may_three 1 fixedLits_kind))
  clear hg3 hsl3 hb3 FL HM2 HB2
  go_wp2_with fail
  (with_reducible refine DN.out.mono ?_)
  rintro e w4 ⟨p1, rfl, hT4, hb4⟩
  have hm4 := HM3.out.below hb4
  have HB4 := Lib.hid (HB3.out.trans (hb4.mono (show B ≤ w3.heap.size by omega)))
  have hs4 := hb4.size
  have d9 := hm4.mach.cell 15
  have g9 := hm4.mach.frozen 15
  simp [machC] at d9
  have HM4 := Lib.hid hm4
  have HT4 := Lib.hid hT4
  clear hm4 hb4 hT4 DN HM3 HB3
  obtain ⟨W5, hW5⟩ : ∃ W5, w4.setCell ⟨pm, 15, none⟩ (.pointer (some ⟨p1, 0, none⟩)) = W5 := ⟨_, rfl⟩
  have hf5 : Fr (fun x => x = pm) w4 W5 := by rw [← hW5]; exact (Fr.refl (fun k => k = pm) w4).setCell (p := ⟨pm, 15, none⟩) (.inl rfl) _
  have HM5 : Hid (MS W5 B Q pm pr pw buf (8 * k + 3) gone o all v { m with fin := true, lits := .pointer (some ⟨p1, 0, none⟩) }) := Lib.hid (by rw [← hW5]; exact HM4.out.upd rfl)
  have HT5 := Lib.hid (HT4.out.frIn hf5 (fun k h1 _ e => by omega))
  have HB5 : Hid (Below B w W5) := Lib.hid (by rw [← hW5]; exact HB4.out.setCell hbm.1 _)
  have hs5 := hf5.size
  have FD := Lib.hid (fixedDists_any W5)
  clear hf5 HM4 HT4 HB4
  go_wp2_with fail
  (with_reducible refine FD.out.mono ?_)
  intro e w6 hg6
  obtain ⟨A6, k6, rfl, hsl6, hb6⟩ := gives_form hg6
  have HM6 := Lib.hid (HM5.out.below hb6)
  have HB6 := Lib.hid (HB5.out.trans (hb6.mono (show B ≤ W5.heap.size by omega)))
  have HT6 := Lib.hid (HT5.out.below (hb6.mono (show w4.heap.size ≤ W5.heap.size by omega)))
  have hs6 := hb6.size
  have DN := Lib.hid (decNew_yes fixedDists 2 A6 k6 w6.heap.size w6 (by rw [fixedDists_len]; decide) hsl6 (Nat.le_refl _) (may_three 2 fixedDists_kind))
  clear hg6 hsl6 hb6 FD HM5 HB5 HT5
  go_wp2_with fail
  (with_reducible refine DN.out.mono ?_)
  rintro e w7 ⟨p2, rfl, _, hb7⟩
  have hm7 := HM6.out.below hb7
  have HB7 := Lib.hid (HB6.out.trans (hb7.mono (show B ≤ w6.heap.size by omega)))
  have HT7 := Lib.hid (HT6.out.below (hb7.mono (show w4.heap.size ≤ w6.heap.size by omega)))
  have hs7 := hb7.size
  have d10 := hm7.mach.cell 16
  have g10 := hm7.mach.frozen 16
  simp [machC] at d10
  have HM7 := Lib.hid hm7
  clear hm7 hb7 DN HM6 HB6 HT6
  obtain ⟨W8, hW8⟩ : ∃ W8, w7.setCell ⟨pm, 16, none⟩ (.pointer (some ⟨p2, 0, none⟩)) = W8 := ⟨_, rfl⟩
  have hf8 : Fr (fun x => x = pm) w7 W8 := by rw [← hW8]; exact (Fr.refl (fun k => k = pm) w7).setCell (p := ⟨pm, 16, none⟩) (.inl rfl) _
  have hm8 : MS W8 B Q pm pr pw buf (8 * k + 3) gone o all v { m with fin := true, lits := .pointer (some ⟨p1, 0, none⟩), dists := .pointer (some ⟨p2, 0, none⟩) } := by rw [← hW8]; exact HM7.out.upd rfl
  have HT8 := Lib.hid (HT7.out.frIn hf8 (fun k h1 _ e => by omega))
  have HB8 : Hid (Below B w W8) := Lib.hid (by rw [← hW8]; exact HB7.out.setCell hbm.1 _)
  have hs8 := hf8.size
  have GO := Lib.hid (goOn_set B Q pm pr pw buf _ gone o all v _ 7 W8 hm8)
  clear hf8 hm8 HM7 HT7 HB7
  go_wp2_with fail
  (with_reducible refine GO.out.mono ?_)
  rintro e w9 ⟨rfl, hm9, hf9⟩
  have HM9 := Lib.hid hm9
  have HB9 := Lib.hid (HB8.out.trans (hf9.below (B := B) (by have := hf9.size; omega) (fun k hk e => by omega)))
  have HT9 := Lib.hid (HT8.out.frIn hf9 (fun k h1 _ e => by omega))
  have hBT : Q ≤ w3.heap.size := by omega
  clear hm9 hf9 GO
  go_wp2_with fail
  go_ret
  exact ⟨p1, p2, _, _, v, rfl, HM9.out, HT9.out, hBT, HB9.out⟩

set_option maxHeartbeats 1000000 in
theorem code_hit (B Q pm pr pw : Nat) (buf : List UInt8) (pos gone : Nat) (o : Value) (all : List UInt8) (v : Value) (m : MV) (l : List Int) (s n BT QT pt : Nat) (w : World) (h : MS w B Q pm pr pw buf pos gone o all v m) (hb : buf.length ≤ 1000000) (hT : TabS w BT QT pt l) (hQ : Q ≤ BT) (hk : kindOf l ≤ 3) (hl : l.length ≤ 1000000) (hh : Hit l (left buf pos) s n) :
    Calls Tryd.prog 21 #[.pointer (some ⟨pm, 0, none⟩), .pointer (some ⟨pt, 0, none⟩), .int .i64 7] w (MPost (.bool true) B Q pm pr pw buf (pos + n) gone o all { m with sym := (s : Int), stage := 7 } w) := by
  have HM := Lib.hid h
  have c1 := h.mach.cell 1
  simp [machC] at c1
  have hbm := h.bm
  have hq := h.qm
  have hqs := h.qs
  have NH := Lib.hid (next_hit l s n BT QT pt B pr o buf pos gone w hT h.rd (by omega) (.inr (by omega)) hk hl hh)
  clear h hT hh
  go_enter Tryd.func21, Tryd.ntmps21
  go_wp2_with fail
  (with_reducible refine NH.out.mono ?_)
  rintro e w1 ⟨rfl, hr1, hf1⟩
  have hm1 := HM.out.read hr1 hf1
  have d17 := hm1.mach.cell 17
  have g17 := hm1.mach.frozen 17
  simp [machC] at d17
  have HB1 := Lib.hid (hf1.below (B := B) (by omega) (fun k hk e => by omega))
  obtain ⟨W2, hW2⟩ : ∃ W2, w1.setCell ⟨pm, 17, none⟩ (.int .i64 (s : Int)) = W2 := ⟨_, rfl⟩
  have hm2 : MS W2 B Q pm pr pw buf (pos + n) gone o all v { m with sym := (s : Int) } := by rw [← hW2]; exact hm1.upd rfl
  have HB2 : Hid (Below B w W2) := Lib.hid (by rw [← hW2]; exact HB1.out.setCell hbm.1 _)
  have GO := Lib.hid (goOn_any B Q pm pr pw buf _ gone o all v _ 7 W2 hm2)
  clear hr1 hf1 hm1 NH c1 hm2 HB1 HM
  go_wp2_with fail
  (with_reducible refine GO.out.mono ?_)
  rintro e w4 ⟨rfl, hm4, hb4⟩
  have HM4 := Lib.hid hm4
  have HB4 := Lib.hid (HB2.out.trans hb4)
  clear hm4 hb4 GO HB2
  go_wp2_with fail
  go_ret
  exact ⟨rfl, HM4.out, HB4.out⟩
set_option maxHeartbeats 1000000 in
theorem symbol_end (B Q pm pr pw : Nat) (buf : List UInt8) (pos n gone : Nat) (o : Value) (all : List UInt8) (v : Value) (m : MV) (pt : Nat) (w : World) (h : MS w B Q pm pr pw buf pos gone o all v m) (hb : buf.length ≤ 1000000) (hfin : m.fin = true) (hlit : m.lits = .pointer (some ⟨pt, 0, none⟩))
    (hC : Calls Tryd.prog 21 #[.pointer (some ⟨pm, 0, none⟩), .pointer (some ⟨pt, 0, none⟩), .int .i64 7] w (MPost (.bool true) B Q pm pr pw buf (pos + n) gone o all { m with sym := 256, stage := 7 } w)) :
    Calls Tryd.prog 23 #[.pointer (some ⟨pm, 0, none⟩)] w (MPost (.bool true) B Q pm pr pw buf (8 * ((pos + n + 7) / 8)) gone o all { m with sym := 256, stage := 11 } w) := by
  have c15 := h.mach.cell 15
  simp [machC, hlit] at c15
  have CO := Lib.hid hC
  clear h hC hlit
  go_enter Tryd.func23, Tryd.ntmps23
  go_wp2_with fail
  (with_reducible refine CO.out.mono ?_)
  rintro e w1 ⟨rfl, ⟨v1, hm1⟩, hb1⟩
  have d17 := hm1.mach.cell 17
  simp [machC] at d17
  have HB1 := Lib.hid hb1
  have EB := Lib.hid (endBlock_last B Q pm pr pw buf _ gone o all v1 _ w1 hm1 hfin hb)
  clear hm1 hb1 CO c15
  go_wp2_with fail
  (with_reducible refine EB.out.mono ?_)
  rintro e w4 ⟨rfl, hm4, hb4⟩
  have HM4 := Lib.hid hm4
  have HB4 := Lib.hid (HB1.out.trans hb4)
  clear hm4 hb4 EB HB1
  go_wp2_with fail
  go_ret
  exact ⟨rfl, HM4.out, HB4.out⟩
end Go.Proofs.YtdmmlpioaiammaaDoor
