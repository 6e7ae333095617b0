/-
  inflate.Machine: the steps that a stored block takes.
-/
import Derived.Test.YtdmmlpioaiammaaDoorMach
namespace Go.Proofs.YtdmmlpioaiammaaDoor
open Go.RowKit

/-- the head of a stored block -/
def sizes (n : Nat) : List UInt8 := [UInt8.ofNat (n % 256), UInt8.ofNat (n / 256), UInt8.ofNat (255 - n % 256), UInt8.ofNat (255 - n / 256)]
def enc : List (List UInt8) → List UInt8
  | [] => []
  | p :: t => (if t = [] then 1 else 0) :: (sizes p.length ++ (p ++ enc t))
theorem left_at (buf : List UInt8) (k : Nat) : left buf (8 * k) = Bit.ofBytes (buf.drop k) := by
  unfold left
  rw [Bit.ofBytes_drop]
theorem length_bitsN' (n v : Nat) : (Bit.bitsN n v).length = n := by
  induction n generalizing v with
  | zero => rfl
  | succ n ih => simp [Bit.bitsN, ih]
theorem num_byte (c : UInt8) : Bit.num (Bit.bitsN 8 c.toNat) = c.toNat := by
  rw [Bit.num_bitsN]
  exact Nat.mod_eq_of_lt c.toNat_lt
theorem num3 (c : UInt8) (t : List UInt8) : Bit.num ((Bit.ofBytes (c :: t)).take 3) = c.toNat % 8 := by
  rw [show Bit.ofBytes (c :: t) = Bit.bitsN 8 c.toNat ++ Bit.ofBytes t by simp [Bit.ofBytes], List.take_append_of_le_length (by rw [length_bitsN']; decide), Bit.num_take _ _ (by rw [length_bitsN']; decide), num_byte]
theorem num32 (a b c d : UInt8) (t : List UInt8) : Bit.num ((Bit.ofBytes (a :: b :: c :: d :: t)).take 32) = a.toNat + 256 * (b.toNat + 256 * (c.toNat + 256 * d.toNat)) := by
  have e : Bit.ofBytes (a :: b :: c :: d :: t) = (Bit.bitsN 8 a.toNat ++ (Bit.bitsN 8 b.toNat ++ (Bit.bitsN 8 c.toNat ++ Bit.bitsN 8 d.toNat))) ++ Bit.ofBytes t := by simp [Bit.ofBytes]
  rw [e, List.take_append_of_le_length (by simp [length_bitsN']), List.take_of_length_le (by simp [length_bitsN']), Bit.num_append, Bit.num_append, Bit.num_append]
  simp only [num_byte, length_bitsN']
theorem num_sizes (n : Nat) (hn : n ≤ 300) (t : List UInt8) : Bit.num ((Bit.ofBytes (sizes n ++ t)).take 32) = n + 65536 * (65535 - n) := by
  unfold sizes
  simp only [List.cons_append, List.nil_append]
  rw [num32]
  simp only [UInt8.toNat_ofNat']
  omega
theorem len_ofBytes2 (buf : List UInt8) (k : Nat) : (left buf (8 * k)).length = 8 * (buf.length - k) := by
  rw [left_at, Bit.length_ofBytes', List.length_drop]

theorem compl_u32' (s : Nat) (hs : s < 4294967296) : bits .xor .u32 IntKind.u32.max (s : Int) = ((4294967295 - s : Nat) : Int) := by
  have h0 : IntKind.u32.max = ((4294967295 : Nat) : Int) := by decide
  rw [h0, u32_xor_nat _ _ (by decide) hs]
  have h1 := BitVec.toNat_not (x := BitVec.ofNat 32 s)
  rw [BitVec.not_def, BitVec.toNat_xor, BitVec.toNat_allOnes, BitVec.toNat_ofNat, Nat.mod_eq_of_lt (by omega)] at h1
  exact congrArg _ h1
set_option maxHeartbeats 400000 in
theorem block_stored (B Q pm pr pw : Nat) (buf : List UInt8) (k gone : Nat) (o : Value) (all : List UInt8) (v : Value) (m : MV) (fin : Bool) (t : List UInt8) (w : World) (h : MS w B Q pm pr pw buf (8 * k) gone o all v m) (hb : buf.length ≤ 1000000) (ht : buf.drop k = (if fin then 1 else 0) :: t) :
    Calls Tryd.prog 16 #[.pointer (some ⟨pm, 0, none⟩)] w (MPost (.bool true) B Q pm pr pw buf (8 * (k + 1)) gone o all { m with fin := fin, stage := 1 } w) := by
  have hkl : k < buf.length := by
    by_cases h : k < buf.length
    · exact h
    · rw [List.drop_eq_nil_of_le (by omega)] at ht; exact absurd ht (by simp)
  have HM := Lib.hid h
  have c1 := h.mach.cell 1
  simp [machC] at c1
  have BY := bits_yes B pr o buf (8 * k) gone 3 w h.rd (by omega) (by omega) (by rw [len_ofBytes2]; omega)
  have e3 : Bit.num ((left buf (8 * k)).take 3) = if fin then 1 else 0 := by
    rw [left_at, ht, num3]; cases fin <;> decide
  unfold BitsYes at BY
  rw [e3, show (((3 : Nat) : Int)) = 3 from rfl] at BY
  have BY := Lib.hid BY
  have hbm := h.bm
  have hq := h.qm
  have hqs := h.qs
  have eb1 : bits .and .u32 1 1 = 1 := by decide
  have eb0 : bits .and .u32 0 1 = 0 := by decide
  clear h ht e3
  go_enter Tryd.func16, Tryd.ntmps16
  cases fin
  all_goals
    go_wp2_with fail
    (with_reducible refine BY.out.mono ?_)
    rintro e w1 ⟨rfl, hr1, hf1⟩
    have hm1 := HM.out.read hr1 hf1
    have c6 := hm1.mach.cell 6
    have g6 := hm1.mach.frozen 6
    simp [machC] at c6
    have HM1 := Lib.hid hm1
    have HB1 := Lib.hid (hf1.below (B := B) (by omega) (fun k hk e => by omega))
    have hs1 := hf1.size
    clear hr1 hf1 hm1 BY c1
  · obtain ⟨W2, hW2⟩ : ∃ W2, w1.setCell ⟨pm, 6, none⟩ (.bool false) = W2 := ⟨_, rfl⟩
    have hm2 : MS W2 B Q pm pr pw buf (8 * k + 3) gone o all v { m with fin := false } := by rw [← hW2]; exact HM1.out.upd rfl
    have HB2 : Hid (Below B w W2) := Lib.hid (by rw [← hW2]; exact HB1.out.setCell hbm.1 _)
    have hs2 : w1.heap.size ≤ W2.heap.size := by rw [← hW2]; exact ((Fr.refl (fun k => k = pm) w1).setCell (p := ⟨pm, 6, none⟩) (.inl rfl) _).size
    have d1 := hm2.mach.cell 1
    simp [machC] at d1
    have AL := align_any B pr o buf _ gone W2 hm2.rd (by omega)
    unfold AlignPost at AL
    rw [show 8 * ((8 * k + 3 + 7) / 8) = 8 * (k + 1) by omega] at AL
    have AL := Lib.hid AL
    have HM2 := Lib.hid hm2
    clear hm2 HM1 HB1
    go_wp2_with fail
    (with_reducible refine AL.out.mono ?_)
    rintro e w3 ⟨rfl, hr3, hf3⟩
    have hm3 := HM2.out.read hr3 hf3
    have HB3 := Lib.hid (HB2.out.trans (hf3.below (B := B) (by omega) (fun k hk e => by omega)))
    have GO := Lib.hid (goOn_any B Q pm pr pw buf _ gone o all v _ 1 w3 hm3)
    clear hr3 hf3 hm3 AL HM2 HB2 d1 hW2
    go_wp2_with fail
    (with_reducible refine GO.out.mono ?_)
    rintro e w4 ⟨rfl, hm4, hb4⟩
    have HM4 := Lib.hid hm4
    have HB4 := Lib.hid (HB3.out.trans hb4)
    clear hm4 hb4 GO HB3
    go_wp2_with fail
    go_ret
    exact ⟨rfl, HM4.out, HB4.out⟩
  · obtain ⟨W2, hW2⟩ : ∃ W2, w1.setCell ⟨pm, 6, none⟩ (.bool true) = W2 := ⟨_, rfl⟩
    have hm2 : MS W2 B Q pm pr pw buf (8 * k + 3) gone o all v { m with fin := true } := by rw [← hW2]; exact HM1.out.upd rfl
    have HB2 : Hid (Below B w W2) := Lib.hid (by rw [← hW2]; exact HB1.out.setCell hbm.1 _)
    have hs2 : w1.heap.size ≤ W2.heap.size := by rw [← hW2]; exact ((Fr.refl (fun k => k = pm) w1).setCell (p := ⟨pm, 6, none⟩) (.inl rfl) _).size
    have d1 := hm2.mach.cell 1
    simp [machC] at d1
    have AL := align_any B pr o buf _ gone W2 hm2.rd (by omega)
    unfold AlignPost at AL
    rw [show 8 * ((8 * k + 3 + 7) / 8) = 8 * (k + 1) by omega] at AL
    have AL := Lib.hid AL
    have HM2 := Lib.hid hm2
    clear hm2 HM1 HB1
    go_wp2_with fail
    (with_reducible refine AL.out.mono ?_)
    rintro e w3 ⟨rfl, hr3, hf3⟩
    have hm3 := HM2.out.read hr3 hf3
    have HB3 := Lib.hid (HB2.out.trans (hf3.below (B := B) (by omega) (fun k hk e => by omega)))
    have GO := Lib.hid (goOn_any B Q pm pr pw buf _ gone o all v _ 1 w3 hm3)
    clear hr3 hf3 hm3 AL HM2 HB2 d1 hW2
    go_wp2_with fail
    (with_reducible refine GO.out.mono ?_)
    rintro e w4 ⟨rfl, hm4, hb4⟩
    have HM4 := Lib.hid hm4
    have HB4 := Lib.hid (HB3.out.trans hb4)
    clear hm4 hb4 GO HB3
    go_wp2_with fail
    go_ret
    exact ⟨rfl, HM4.out, HB4.out⟩

set_option maxHeartbeats 400000 in
theorem storedSize_any (B Q pm pr pw : Nat) (buf : List UInt8) (k gone : Nat) (o : Value) (all : List UInt8) (v : Value) (m : MV) (n : Nat) (t : List UInt8) (w : World) (h : MS w B Q pm pr pw buf (8 * k) gone o all v m) (hb : buf.length ≤ 1000000) (hn : n ≤ 300) (ht : buf.drop k = sizes n ++ t) :
    Calls Tryd.prog 17 #[.pointer (some ⟨pm, 0, none⟩)] w (MPost (.bool true) B Q pm pr pw buf (8 * (k + 4)) gone o all { m with lft := n, stage := 2 } w) := by
  have hkl : k + 4 ≤ buf.length := by
    have h1 := congrArg List.length ht
    rw [List.length_drop, List.length_append, show (sizes n).length = 4 from rfl] at h1
    omega
  have HM := Lib.hid h
  have c1 := h.mach.cell 1
  simp [machC] at c1
  have BY := bits_yes B pr o buf (8 * k) gone 32 w h.rd (by omega) (by omega) (by rw [len_ofBytes2]; omega)
  have e3 : Bit.num ((left buf (8 * k)).take 32) = n + 65536 * (65535 - n) := by
    rw [left_at, ht, num_sizes n hn]
  unfold BitsYes at BY
  rw [e3, show (((32 : Nat) : Int)) = 32 from rfl] at BY
  obtain ⟨z, hz⟩ : ∃ z, z = n + 65536 * (65535 - n) := ⟨_, rfl⟩
  rw [← hz] at BY
  have BY := Lib.hid BY
  have hbm := h.bm
  have hq := h.qm
  have hqs := h.qs
  have e1 : bits .and .u32 (z : Int) 65535 = (n : Int) := by
    have := u32_and_nat z 65535 (by omega) (by omega)
    rw [show (65535 : Nat) = 2 ^ 16 - 1 from rfl, Nat.and_two_pow_sub_one_eq_mod] at this
    rw [show ((2 ^ 16 - 1 : Nat) : Int) = 65535 from rfl] at this
    rw [this]
    omega
  have e2 := compl_u32' z (by omega)
  obtain ⟨zc, hzc⟩ : ∃ zc, zc = 4294967295 - z := ⟨_, rfl⟩
  rw [← hzc] at e2
  have e5 : bits .xor .u32 (if IntKind.u32.signed = true then -1 else IntKind.u32.max) (z : Int) = (zc : Int) := e2
  have e4 : (zc : Int) / 65536 = (n : Int) := by omega
  have n0 : (0 : Int) ≤ (n : Int) := Int.natCast_nonneg _
  have n1 : (n : Int) ≤ 300 := by omega
  clear h ht e3 hz hzc
  go_enter Tryd.func17, Tryd.ntmps17
  go_wp2_with fail
  (with_reducible refine BY.out.mono ?_)
  rintro e w1 ⟨rfl, hr1, hf1⟩
  have hm1 := HM.out.read hr1 hf1
  have c7 := hm1.mach.cell 7
  have g7 := hm1.mach.frozen 7
  simp [machC] at c7
  have HM1 := Lib.hid hm1
  have HB1 := Lib.hid (hf1.below (B := B) (by omega) (fun k hk e => by omega))
  have hs1 := hf1.size
  clear hr1 hf1 hm1 BY c1
  go_wp2_with fail
  obtain ⟨W2, hW2⟩ : ∃ W2, w1.setCell ⟨pm, 7, none⟩ (.int .i64 (n : Int)) = W2 := ⟨_, rfl⟩
  have hm2 : MS W2 B Q pm pr pw buf (8 * (k + 4)) gone o all v { m with lft := n } := by rw [← hW2]; exact HM1.out.upd rfl
  have HB2 : Hid (Below B w W2) := Lib.hid (by rw [← hW2]; exact HB1.out.setCell hbm.1 _)
  have GO := Lib.hid (goOn_any B Q pm pr pw buf _ gone o all v _ 2 W2 hm2)
  rw [hW2]
  clear HM1 HB1 hm2 hW2
  (with_reducible refine GO.out.mono ?_)
  rintro e w4 ⟨rfl, hm4, hb4⟩
  have HM4 := Lib.hid hm4
  have HB4 := Lib.hid (HB2.out.trans hb4)
  clear hm4 hb4 GO HB2
  go_wp2_with fail
  go_ret
  exact ⟨rfl, HM4.out, HB4.out⟩
end Go.Proofs.YtdmmlpioaiammaaDoor
