/-
  bitin.Reader: Align, Bytes.
-/
import Derived.Test.YtdmmlpioaiammaaDoorRest
import Derived.Test.YtdmmlpioaiammaaDoorFeed
import Derived.StillTailTactics
namespace Go.Proofs.YtdmmlpioaiammaaDoor
open Go.RowKit

def AlignPost (B p : Nat) (o : Value) (buf : List UInt8) (pos gone : Nat) (w : World) (e : Ending) (w' : World) : Prop :=
  e = .returned (.int .i64 ((8 * ((pos + 7) / 8) - pos : Nat) : Int)) ∧ RdS w' B p o buf (8 * ((pos + 7) / 8)) gone ∧ Fr (fun x => x = p) w w'
theorem neg_and7 (pos : Nat) : bits .and .i64 (-(pos : Int)) 7 = ((8 * ((pos + 7) / 8) - pos : Nat) : Int) := by
  have h1 : (BitVec.ofInt 64 7).toNat = 2 ^ 3 - 1 := by decide
  have key : (BitVec.ofInt 64 (-(pos : Int)) &&& BitVec.ofInt 64 7).toNat = ((-(pos : Int)) % ((2 ^ 64 : Nat) : Int)).toNat % 2 ^ 3 := by
    rw [BitVec.toNat_and, BitVec.toNat_ofInt, h1, Nat.and_two_pow_sub_one_eq_mod]
  show IntKind.i64.wrap ((BitVec.ofInt 64 (-(pos : Int)) &&& BitVec.ofInt 64 7).toNat : Nat) = _
  rw [key, IntKind.wrap_i64]
  omega
set_option maxHeartbeats 400000 in
theorem align_any (B p : Nat) (o : Value) (buf : List UInt8) (pos gone : Nat) (w : World) (h : RdS w B p o buf pos gone) (hb : buf.length ≤ 1000000000000) :
    Calls Tryd.prog 28 #[.pointer (some ⟨p, 0, none⟩)] w (AlignPost B p o buf pos gone w) := by
  have HR := Lib.hid h
  have hle := h.le
  have c1 := h.cells.cell 1
  have f1 := h.cells.frozen 1
  simp at c1
  have hn := neg_and7 pos
  obtain ⟨n, hn0⟩ : ∃ n, n = 8 * ((pos + 7) / 8) - pos := ⟨_, rfl⟩
  obtain ⟨np, hnp⟩ : ∃ np, np = 8 * ((pos + 7) / 8) := ⟨_, rfl⟩
  rw [← hn0] at hn
  have hs : pos + n = np := by omega
  have hnl : n ≤ 7 := by omega
  have hnp2 : np ≤ 8 * buf.length := by omega
  have HN := Lib.hid hn0
  have HP := Lib.hid hnp
  have HS := Lib.hid hs
  clear h hn0 hnp hs
  go_enter Tryd.func28, Tryd.ntmps28
  go_wp2_with fail
  go_ret
  refine ⟨by rw [← HN.out]; rfl, ?_, (Fr.refl (fun k => k = p) w).setCell (p := ⟨p, 1, none⟩) (.inl rfl) _⟩
  have hv : (pos : Int) + (n : Int) = (np : Int) := by have := HS.out; omega
  rw [hv, ← HP.out]
  have hW := HR.out.cells.set_ 1 (.int .i64 (np : Int))
  exact ⟨by simpa using hW, own_fr HR.out.own ((Fr.refl (fun k => k = p) w).setCell (p := ⟨p, 1, none⟩) (.inl rfl) _) (fun g hg e => HR.out.apart (hg.trans (by rw [e]))), HR.out.apart, hnp2⟩

/-- the next bytes -/
def BytesPost (B p : Nat) (o : Value) (buf : List UInt8) (k n gone : Nat) (w : World) (e : Ending) (w' : World) : Prop :=
  ∃ A c, e = .returned (.slice A n c) ∧ w'.ownsRow w.heap.size 5 1 (.slice A n c) n (bytesV ((buf.drop k).take n)) ∧ RdS w' B p o buf (8 * (k + n)) gone ∧ Fr (fun x => x = p) w w'
set_option maxHeartbeats 1000000 in
theorem bytes_any (B p : Nat) (o : Value) (buf : List UInt8) (k n gone : Nat) (w : World) (h : RdS w B p o buf (8 * k) gone) (hb : buf.length ≤ 1000000000) (hn : k + n ≤ buf.length) :
    Calls Tryd.prog 37 #[.pointer (some ⟨p, 0, none⟩), .int .i64 (n : Int)] w (BytesPost B p o buf k n gone w) := by
  have AL := align_any B p o buf (8 * k) gone w h (by omega)
  have e8 : 8 * ((8 * k + 7) / 8) = 8 * k := by omega
  unfold AlignPost at AL
  rw [e8, Nat.sub_self] at AL
  have HAL := Lib.hid AL
  obtain ⟨A, c, rfl⟩ := own_form h.own
  obtain ⟨i0, hi0, hz0, hz1, hz2⟩ := info_parts byteInfoC
  have hcap := own_cap h.own
  obtain ⟨kn, hkn⟩ : ∃ kn, kn = k + n := ⟨_, rfl⟩
  have hsl := fun W => run_slice_fromto Tryd.underlying25 hi0 hz1 A buf.length c k kn (by omega) (by omega) W
  rw [show kn - k = n by omega] at hsl
  obtain ⟨P, hP⟩ : ∃ P, P = 8 * k := ⟨_, rfl⟩
  rw [← hP] at HAL
  have e2 : (P : Int) / 8 = (k : Int) := by omega
  have e3 : (P : Int).tdiv 8 = (k : Int) := by rw [Int.tdiv_eq_ediv_of_nonneg (by omega)]; exact e2
  have hmin : ∀ ty W, (Builtin.min_ #[3, 3] ty #[.int .i64 (n : Int), .int .i64 ((buf.length : Int) - (k : Int))]).run Tryd.prog W = .ok (.int .i64 (n : Int)) W := fun ty W => by
    simp [go_sem, show ¬ (buf.length : Int) - (k : Int) < (n : Int) by omega]
  have hmax : ∀ ty W, (Builtin.max_ #[3, 3] ty #[.int .i64 0, .int .i64 (n : Int)]).run Tryd.prog W = .ok (.int .i64 (n : Int)) W := fun ty W => by
    simp [go_sem]
    omega
  have hpn : (P : Int) + 8 * (n : Int) = ((8 * kn : Nat) : Int) := by omega
  have HPN := Lib.hid hpn
  have v1 : (k : Int) + (n : Int) = (kn : Int) := by omega
  have hPl : P ≤ 8000000000 := by omega
  have hkl : k ≤ buf.length := by omega
  have hkn2 : kn ≤ buf.length := by omega
  have HKN := Lib.hid hkn
  have HP8 := Lib.hid hP
  have k0 : (0 : Int) ≤ (k : Int) := Int.natCast_nonneg _
  have n0 : (0 : Int) ≤ (n : Int) := Int.natCast_nonneg _
  have f0 : (k : Int) ≤ (kn : Int) := by omega
  have f1 : (kn : Int) ≤ (c : Int) := by omega
  clear AL h hi0 hz0 hz1 hz2 hpn hkn hP e8
  go_enter Tryd.func37, Tryd.ntmps37
  go_wp2_with fail
  (with_reducible refine HAL.out.mono ?_)
  rintro e w1 ⟨rfl, hr1, hf1⟩
  have c0 := hr1.cells.cell 0
  have c1 := hr1.cells.cell 1
  have g1 := hr1.cells.frozen 1
  simp at c0 c1
  have HR1 := Lib.hid hr1
  have HF1 := Lib.hid hf1
  obtain ⟨W2, hW2⟩ : ∃ W2, w1.setCell ⟨p, 1, none⟩ (.int .i64 ((P : Int) + 8 * (n : Int))) = W2 := ⟨_, rfl⟩
  have hf2 : Fr (fun x => x = p) w1 W2 := by rw [← hW2]; exact (Fr.refl (fun x => x = p) w1).setCell (p := ⟨p, 1, none⟩) (.inl rfl) _
  have hr2 : RdS W2 B p (.slice A buf.length c) buf (8 * kn) gone := by
    have hW := hr1.cells.set_ 1 (.int .i64 ((P : Int) + 8 * (n : Int)))
    rw [HPN.out, ← HPN.out, hW2, HPN.out] at hW
    exact ⟨by simpa using hW, own_fr hr1.own hf2 (fun g hg e => hr1.apart (hg.trans (by rw [e]))), hr1.apart, by omega⟩
  have d0 := hr2.cells.cell 0
  simp at d0
  have HR2 := Lib.hid hr2
  have HF2 := Lib.hid hf2
  have hlen : ((buf.drop k).take n).length = n := by rw [List.length_take, List.length_drop]; omega
  have CL := clone_any ((buf.drop k).take n) (restAt A c k) (c - k) W2.heap.size W2 (by rw [hlen]; omega) (by
    have h1 := ((Sl.of_own hr2.own).rest c k (by rw [len_bytesV]; exact hcap)).take n
    simpa [bytesV, List.map_take, List.map_drop] using h1) (Nat.le_refl _)
  rw [hlen] at CL
  have HCL := Lib.hid CL
  have HLEN := Lib.hid hlen
  clear hr1 hf1 hr2 hf2 CL hlen
  go_wp2_with fail
  (refine HCL.out.mono ?_)
  rintro e w3 ⟨A3, c3, rfl, ho3, hb3⟩
  rw [len_bytesV, HLEN.out] at ho3 ⊢
  have HO3 := Lib.hid ho3
  have HB3 := Lib.hid hb3
  clear ho3 hb3
  go_wp2_with fail
  go_ret
  have hs := HF1.out.size
  have hs2 := HF2.out.size
  refine ⟨A3, c3, rfl, own_base HO3.out (by omega), ?_, (HF1.out.trans HF2.out (fun _ _ e => e)).trans (Fr.of_below HB3.out _) (fun _ _ e => e)⟩
  rw [← HKN.out]
  have hlt := HR2.out.cells.lt
  exact HR2.out.fr (Fr.of_below HB3.out (fun _ => False)) id (fun _ _ => id)
end Go.Proofs.YtdmmlpioaiammaaDoor
