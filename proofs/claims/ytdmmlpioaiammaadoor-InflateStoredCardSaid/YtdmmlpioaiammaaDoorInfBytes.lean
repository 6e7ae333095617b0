/-
  inflate.Machine: stored bytes come out.
-/
import Derived.Test.YtdmmlpioaiammaaDoorInfStep
namespace Go.Proofs.YtdmmlpioaiammaaDoor
open Go.RowKit

set_option maxHeartbeats 400000 in
theorem storedBytes_full (B Q pm pr pw : Nat) (buf : List UInt8) (k gone : Nat) (o : Value) (all : List UInt8) (v : Value) (m : MV) (w : World) (h : MS w B Q pm pr pw buf (8 * k) gone o all v m) (hb : buf.length ≤ 1000000) (hk : k < buf.length) (hl : 1 ≤ m.lft) (hm : m.lim = all.length) (hlim : m.lim ≤ 1000000) :
    Calls Tryd.prog 18 #[.pointer (some ⟨pm, 0, none⟩)] w (MPost (.bool false) B Q pm pr pw buf (8 * k) gone o all { m with fault := 28 } w) := by
  have HM := Lib.hid h
  have c7 := h.mach.cell 7
  have c1 := h.mach.cell 1
  simp [machC] at c1 c7
  have LF := Lib.hid (left_any B pr o buf (8 * k) gone w h.rd (by omega))
  have RO := Lib.hid (fun n => room_any B Q pm pr pw buf (8 * k) gone o all v m (w.drewN n) (h.drewN n) (by omega) (by omega))
  have FA := Lib.hid (fun n => fail_any B Q pm pr pw buf (8 * k) gone o all v m 28 (w.drewN n) (h.drewN n))
  have hll := len_ofBytes2 buf k
  obtain ⟨z, hz⟩ : ∃ z, z = (left buf (8 * k)).length := ⟨_, rfl⟩
  rw [← hz] at LF hll
  have hz0 : (z : Int) ≠ 0 := by omega
  have hl0 : (m.lft : Int) ≠ 0 := by omega
  have hm0 : (m.lim : Int) - (all.length : Int) = 0 := by omega
  rw [hm0] at RO
  clear h hz hm hll hm0
  go_enter Tryd.func18, Tryd.ntmps18
  go_wp2_with fail
  (with_reducible refine LF.out.mono ?_)
  rintro e w1 ⟨rfl, n1, rfl⟩
  have RO1 := Lib.hid (RO.out n1)
  clear RO LF
  go_wp2_with fail
  (with_reducible refine RO1.out.mono ?_)
  rintro e w2 ⟨rfl, n2, rfl⟩
  rw [World.drewN_drewN]
  have FA1 := Lib.hid (FA.out (n1 + n2))
  clear FA RO1
  go_wp2_with fail
  (with_reducible refine FA1.out.mono ?_)
  rintro e w3 ⟨rfl, hm3, hb3⟩
  have HM3 := Lib.hid hm3
  have HB3 := Lib.hid hb3
  clear hm3 hb3 FA1
  go_wp2_with fail
  go_ret
  exact ⟨rfl, HM3.out, (below_drewN (Below.refl B w) _).trans HB3.out⟩

set_option maxHeartbeats 1000000 in
theorem storedBytes_take (B Q pm pr pw : Nat) (buf : List UInt8) (k gone : Nat) (o : Value) (all : List UInt8) (v : Value) (m : MV) (n : Nat) (w : World) (h : MS w B Q pm pr pw buf (8 * k) gone o all v m) (hb : buf.length ≤ 1000000) (hk : k + m.lft ≤ buf.length) (hm : n = min m.lft (m.lim - all.length)) (h1 : 1 ≤ n) (hlim : m.lim ≤ 1000000) (hbl : m.lft ≤ 32768) :
    Calls Tryd.prog 18 #[.pointer (some ⟨pm, 0, none⟩)] w (MPost (.bool true) B Q pm pr pw buf (8 * (k + n)) gone o (all ++ (buf.drop k).take n) { m with lft := m.lft - n } w) := by
  have HM := Lib.hid h
  have c7 := h.mach.cell 7
  have c1 := h.mach.cell 1
  simp [machC] at c1 c7
  have LF := Lib.hid (left_any B pr o buf (8 * k) gone w h.rd (by omega))
  have RO := Lib.hid (fun n => room_any B Q pm pr pw buf (8 * k) gone o all v m (w.drewN n) (h.drewN n) (by omega) (by omega))
  have BY := Lib.hid (fun j => bytes_any B pr o buf k n gone (w.drewN j) (h.rd.drewN j) (by omega) (by omega))
  have hll := len_ofBytes2 buf k
  obtain ⟨z, hz⟩ : ∃ z, z = (left buf (8 * k)).length := ⟨_, rfl⟩
  rw [← hz] at LF hll
  have hz0 : (z : Int) ≠ 0 := by omega
  have hl0 : (m.lft : Int) ≠ 0 := by omega
  have hm0 : (m.lim : Int) - (all.length : Int) ≠ 0 := by omega
  have hmin : min (m.lft : Int) ((m.lim : Int) - (all.length : Int)) = (n : Int) := by omega
  have hmn : ∀ ty W, (Builtin.min_ #[3, 3] ty #[.int .i64 (m.lft : Int), .int .i64 ((m.lim : Int) - (all.length : Int))]).run Tryd.prog W = .ok (.int .i64 (n : Int)) W := fun ty W => by
    simp [go_sem]
    omega
  have e1 : (m.lft : Int) - (n : Int) = ((m.lft - n : Nat) : Int) := by omega
  have n0 : (0 : Int) ≤ (n : Int) := Int.natCast_nonneg _
  have hlen : ((buf.drop k).take n).length = n := by rw [List.length_take, List.length_drop]; omega
  have HLEN := Lib.hid hlen
  have HE1 := Lib.hid e1
  have hbm := h.bm
  have hq := h.qm
  have hqs := h.qs
  have hn3 : n ≤ 32768 := by omega
  have hn4 : n ≤ m.lft := by omega
  have hn5 : all.length ≤ 1000000 := by omega
  have hn6 : (m.lft : Int) ≤ 32768 := by omega
  clear h hz hm hll hmin hlen e1
  go_enter Tryd.func18, Tryd.ntmps18
  go_wp2_with fail
  (with_reducible refine LF.out.mono ?_)
  rintro e w1 ⟨rfl, n1, rfl⟩
  have RO1 := Lib.hid (RO.out n1)
  clear LF
  go_wp2_with fail
  (with_reducible refine RO1.out.mono ?_)
  rintro e w2 ⟨rfl, n2, rfl⟩
  rw [World.drewN_drewN]
  clear RO1
  obtain ⟨W, hW⟩ : ∃ W, w.drewN (n1 + n2) = W := ⟨_, rfl⟩
  have HMW : Hid (MS W B Q pm pr pw buf (8 * k) gone o all v m) := Lib.hid (by rw [← hW]; exact HM.out.drewN _)
  have HBW : Hid (Below B w W) := Lib.hid (by rw [← hW]; exact below_drewN (Below.refl B w) _)
  have hWs : W.heap.size = w.heap.size := by rw [← hW]; rfl
  rw [hW]
  clear HM hW c1 c7 RO BY
  have c7 := HMW.out.mach.cell 7
  have c1 := HMW.out.mach.cell 1
  simp [machC] at c1 c7
  have RO := Lib.hid (room_any B Q pm pr pw buf (8 * k) gone o all v m (W.drewN 1) (HMW.out.drewN 1) (by omega) (by omega))
  have BY := Lib.hid (fun j => bytes_any B pr o buf k n gone (W.drewN j) (HMW.out.rd.drewN j) (by omega) (by omega))
  go_wp2_with fail
  go_region_held3 (fun V => V.cell? ⟨pm, 1, none⟩ = some (.pointer (some ⟨pr, 0, none⟩)) ∧ V.cell? ⟨pm, 7, none⟩ = some (.int .i64 (m.lft : Int))) (first | exact ⟨c1, c7⟩ | exact HK4.out)
    (first
    | ((go_at_call 36; (refine RO.out.mono ?_); rintro e w3 ⟨rfl, n3, rfl⟩))
    | ((go_at_call 37; (refine (BY.out _).mono ?_); rintro e w4 ⟨A, c, rfl, ho4, hr4, hf4⟩; have HO4 := Lib.hid ho4; have hf4' : Fr (fun x => x = pr) W w4 := ⟨hf4.os, hf4.tape, hf4.output, hf4.size, hf4.block⟩; have HM4 := Lib.hid (HMW.out.read hr4 hf4'); have HF4 := Lib.hid hf4'; have HK4 := Lib.hid (show w4.cell? ⟨pm, 1, none⟩ = some (.pointer (some ⟨pr, 0, none⟩)) ∧ w4.cell? ⟨pm, 7, none⟩ = some (.int .i64 (m.lft : Int)) from ⟨by have := HM4.out.mach.cell 1; simpa [machC] using this, by have := HM4.out.mach.cell 7; simpa [machC] using this⟩); clear ho4 hr4 hf4 hf4')))
  obtain ⟨V, hV⟩ : ∃ V, w4.setCell ⟨pm, 7, none⟩ (.int .i64 ((m.lft - n : Nat) : Int)) = V := ⟨_, rfl⟩
  have d7 := HM4.out.mach.cell 7
  have g7 := HM4.out.mach.frozen 7
  simp [machC] at d7
  have e1 := HE1.out
  have hs4 := HF4.out.size
  have HMV : Hid (MS V B Q pm pr pw buf (8 * (k + n)) gone o all v { m with lft := m.lft - n }) := Lib.hid (by rw [← hV]; exact HM4.out.upd rfl)
  have hFV : Fr (fun x => x = pm) w4 V := by rw [← hV]; exact (Fr.refl (fun x => x = pm) w4).setCell (p := ⟨pm, 7, none⟩) (.inl rfl) _
  have hAo : ∀ x, A = some x → W.heap.size ≤ x.block := fun x hx => (HO4.out.lt x.block (by rw [hx]; rfl)).1
  have hsl : Sl V w4.heap.size A (bytesV ((buf.drop k).take n)) := (Sl.of_own HO4.out).frNe hFV (Nat.le_refl _) (fun x hx e => by have := hAo x hx; omega)
  have hcap : n ≤ c := own_cap HO4.out
  have PU0 := put_any B Q pm pr pw buf _ gone o all v _ ((buf.drop k).take n) A c w4.heap.size V HMV.out (by omega) (by rw [HLEN.out]; omega) (by rw [HLEN.out]; exact hcap) hFV.size hsl (fun x hx e => by have := hAo x hx; omega)
  rw [HLEN.out] at PU0
  have PU := Lib.hid PU0
  have HBV : Hid (Below B w V) := Lib.hid (by rw [← hV]; exact (HBW.out.trans (HF4.out.below (B := B) (by omega) (fun k hk e => by omega))).setCell hbm.1 _)
  clear PU0 hsl hFV hAo HMV c1 c7 RO BY
  go_wp2_with fail
  (with_reducible refine PU.out.mono ?_)
  rintro e w6 ⟨rfl, hm6, hb6⟩
  have HM6 := Lib.hid hm6
  have HB6 := Lib.hid (HBV.out.trans hb6)
  clear hm6 hb6 PU
  go_wp2_with fail
  go_ret
  exact ⟨rfl, HM6.out, HB6.out⟩

/-- no bytes are left of the block -/
theorem storedBytes_end (B Q pm pr pw : Nat) (buf : List UInt8) (k gone : Nat) (o : Value) (all : List UInt8) (v : Value) (m : MV) (st : Int) (pos' : Nat) (w : World) (h : MS w B Q pm pr pw buf (8 * k) gone o all v m) (hl : m.lft = 0)
    (hE : Calls Tryd.prog 34 #[.pointer (some ⟨pm, 0, none⟩)] w (MPost (.bool true) B Q pm pr pw buf pos' gone o all { m with stage := st } w)) :
    Calls Tryd.prog 18 #[.pointer (some ⟨pm, 0, none⟩)] w (MPost (.bool true) B Q pm pr pw buf pos' gone o all { m with stage := st } w) := by
  have c7 := h.mach.cell 7
  simp [machC, hl] at c7
  have EB := Lib.hid hE
  clear h hl hE
  go_enter Tryd.func18, Tryd.ntmps18
  go_wp2_with fail
  (with_reducible refine EB.out.mono ?_)
  rintro e w6 ⟨rfl, hm6, hb6⟩
  have HM6 := Lib.hid hm6
  have HB6 := Lib.hid hb6
  clear hm6 hb6 EB
  go_wp2_with fail
  go_ret
  exact ⟨rfl, HM6.out, HB6.out⟩
end Go.Proofs.YtdmmlpioaiammaaDoor
