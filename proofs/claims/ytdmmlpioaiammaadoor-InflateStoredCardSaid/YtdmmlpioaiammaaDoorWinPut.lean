/-
  window.Window's Put.
-/
import Derived.Test.YtdmmlpioaiammaaDoorWindow
namespace Go.Proofs.YtdmmlpioaiammaaDoor
open Go.RowKit

theorem Sl.frNe {w w' : World} {B : Nat} {a : Option Addr} {xs : List Value} {S : Nat → Prop} (h : Sl w B a xs) (hf : Fr S w w') (hB : B ≤ w.heap.size) (hn : ∀ x, a = some x → ¬ S x.block) : Sl w' B a xs := by
  rcases h with h | ⟨b, off, ha, hb, hc⟩
  · exact .inl h
  · exact .inr ⟨b, off, ha, hb, fun i u hu => (hf.cell (p := ⟨b, off + i, none⟩) (show b < _ by omega) (hn ⟨b, off, none⟩ ha)).trans (hc i u hu)⟩
theorem restAt_block {a : Option Addr} {c k p : Nat} (h : ∀ x, a = some x → x.block ≠ p) : ∀ x, restAt a c k = some x → x.block ≠ p := by
  intro x hx
  unfold restAt at hx
  split at hx
  · exact h x hx
  · cases a with
    | none => cases hx
    | some y =>
      simp only [Option.map_some, Option.some.injEq] at hx
      subst hx
      have := h y rfl
      unfold Addr.add
      split <;> simpa using this

set_option maxRecDepth 100000 in
set_option maxHeartbeats 1000000 in
theorem winPut_any (p : Nat) (all b : List UInt8) (a : Option Addr) (c B : Nat) (w : World) (hw : WinS w p all) (hn : all.length ≤ 1000000000) (hb : b.length ≤ 32768) (hbc : b.length ≤ c) (hB : B ≤ w.heap.size) (hsl : Sl w B a (bytesV b)) (hne : ∀ x, a = some x → x.block ≠ p) :
    Calls Tryd.prog 52 #[.pointer (some ⟨p, 0, none⟩), .slice a b.length c] w fun e w' => e = .returned (.tuple #[]) ∧ WinS w' p (all ++ b) ∧ Fr (fun k => k = p) w w' := by
  have HW := Lib.hid hw
  have HS := Lib.hid hsl
  have HN := Lib.hid hne
  clear hw hsl hne
  obtain ⟨i0, hi0, hz0, hz1, hz2⟩ := info_parts byteInfoC
  have HQ := Lib.hid (fun (A : Option Addr) (n cp k : Nat) (hn : k ≤ n) => run_slice_from Tryd.underlying25 hi0 hz1 A n cp k hn)
  have HI := Lib.hid (show (Tryd.prog.info? 5).map (·.size) = some 1 by rw [hi0]; simp [hz1])
  clear hi0 hz0 hz1 hz2
  have t0 : decide ((0 : Int) < (b.length : Int) - 32768) = false := by simp; omega
  have t1 : decide ((32768 : Int) < (b.length : Int)) = false := by simp; omega
  go_enter Tryd.func52, Tryd.ntmps52
  go_wp2_with fail
  go_loopw [1] (fun bv wr => ∃ (k : Nat) (A : Option Addr) (cc : Nat), k ≤ b.length ∧ bv = .slice A (b.length - k) cc ∧ b.length - k ≤ cc ∧ Sl wr B A (bytesV (b.drop k)) ∧ (∀ x, A = some x → x.block ≠ p) ∧ WinS wr p (all ++ b.take k) ∧ Fr (fun k => k = p) w wr) (fun bv _ => match bv with | .slice _ n _ => n | _ => 0)
  case atStart => exact ⟨0, a, c, by omega, rfl, by omega, HS.out, HN.out, by simpa using HW.out, Fr.refl _ _⟩
  case round =>
    obtain ⟨k, A, cc, hk, rfl, hcc, hs, hna, hwin, hfr⟩ := hrel
    have HNA := Lib.hid hna
    have HFR := Lib.hid hfr
    have hbs := hfr.size
    by_cases hlt : k < b.length
    · obtain ⟨cs, hWh, hC⟩ := hwin
      obtain ⟨N, hN⟩ : ∃ N, N = all.length + k := ⟨_, rfl⟩
      have hNl : (all ++ b.take k).length = N := by rw [List.length_append, List.length_take, Nat.min_eq_left (by omega), hN]
      have hm32 : N % 32768 < 32768 := Nat.mod_lt _ (by omega)
      obtain ⟨n, hnn⟩ : ∃ n, n = min (b.length - k) (32768 - N % 32768) := ⟨_, rfl⟩
      have HC := Lib.hid (show WinC ((Go.splice cs (N % 32768) (bytesV ((b.drop k).take n))).set 32768 (.int .i64 ((N : Int) + (n : Int)))) (all ++ b.take (k + n)) by
        have h := hC.splice ((b.drop k).take n) (by rw [hNl, List.length_take, List.length_drop]; omega)
        rw [hNl, List.append_assoc, ← List.take_add, List.length_take, List.length_drop, Nat.min_eq_left (show n ≤ b.length - k by omega)] at h
        exact h)
      have c0 := (hWh.cell 32768).trans ((List.getElem?_toArray).trans hC.2.1)
      rw [hNl] at c0
      have hlen := hC.1
      have HC0 := Lib.hid (show cs[32768]? = some (.int .i64 (N : Int)) by rw [hC.2.1, hNl])
      have HSP := Lib.hid (show Sl wr B A (bytesV ((b.drop k).take n)) by have h := hs.take n; simpa [bytesV, List.map_take] using h)
      have HREST := Lib.hid (show Sl wr B (restAt A cc n) (bytesV (b.drop (k + n))) by
        have h := hs.rest cc n (by rw [len_bytesV, List.length_drop]; exact hcc)
        rw [← List.drop_drop]
        simpa [bytesV, List.map_drop] using h)
      have hpl : (bytesV ((b.drop k).take n)).length = n := by rw [len_bytesV, List.length_take, List.length_drop]; omega
      have HOC := Lib.hid (bytes_oneCell ((b.drop k).take n))
      have hq := HQ.out A (b.length - k) cc n (by omega)
      rw [show b.length - k - n = b.length - (k + n) by omega] at hq
      have HWH := Lib.hid hWh
      have e1 : (N : Int).tmod 32768 = ((N % 32768 : Nat) : Int) := by rw [Int.tmod_eq_emod_of_nonneg (Int.natCast_nonneg _)]; omega
      have e2 : (N : Int) % 32768 = ((N % 32768 : Nat) : Int) := by omega
      clear hWh hC hs hna hfr hNl
      obtain ⟨m, hm⟩ : ∃ m, m = N % 32768 := ⟨_, rfl⟩
      rw [← hm] at e1 e2 hm32 HC hnn
      generalize (b.drop k).take n = part at HC HSP hpl HOC
      have g1 : (0 : Int) ≤ (m : Int) := Int.natCast_nonneg _
      have g2 : (m : Int) < 32768 := by omega
      have g3 : (m : Int) ≤ 32768 := by omega
      have e4 : IntKind.i64.wrap (m : Int) = (m : Int) := IntWalk.i64_in _ (by omega)
      have ne : ¬ 32768 = m := by omega
      have n1 : 1 ≤ n := by omega
      have hNb : N ≤ 1000032768 := by omega
      have hmin : Nat.min (b.length - k) (32768 - m) = n := by rw [hnn]
      have tl : decide ((0 : Int) < ((b.length - k : Nat) : Int)) = true := decide_eq_true (by omega)
      have tl2 : decide (0 < b.length - k) = true := decide_eq_true (by omega)
      have hfit : m + (bytesV part).length ≤ cs.length := by rw [hpl, hlen]; omega
      have HSG := Lib.hid (show (Go.splice cs m (bytesV part))[32768]? = some (.int .i64 (N : Int)) by
        rw [splice_get _ _ _ hfit, if_neg (by omega), if_neg (by rw [hpl]; omega)]; exact HC0.out)
      have hk2 : b.length - (k + n) < b.length - k := by omega
      have hcc2 : b.length - (k + n) ≤ cc - n := by omega
      have hkn : k + n ≤ b.length := by omega
      have HNN := Lib.hid hnn
      have HM := Lib.hid hm
      have HNE := Lib.hid hN
      clear hnn hm hN
      go_wp2_with fail
      go_region_held3 (fun W => W.cell? ⟨p, 32768, none⟩ = some (.int .i64 (N : Int))) (first | exact c0 | exact (hW4.cell 32768).trans ((List.getElem?_toArray).trans HSG.out))
        ((refine step_copy_fr (by rfl) _ _ _ _ (by rfl) 5 Tryd.underlying25 HI.out _ _ _ _ _ _ (by rfl) (by rfl) p m cs 50 HWH.out.drew (bytesV part) (hpl.trans hmin.symm) (fun _ => rfl) B HSP.out.drew hfit HOC.out ?_; intro w4 hW4 hF4))
      have d0 := (hW4.cell 32768).trans ((List.getElem?_toArray).trans HSG.out)
      have f0 := hW4.frozen 32768
      have HW4 := Lib.hid hW4
      have HF4 := Lib.hid (show Fr (fun k => k = p) wr w4 from ⟨hF4.os, hF4.tape, hF4.output, hF4.size, hF4.block⟩)
      rw [show goInt (bytesV part).length = .int .i64 (n : Int) by rw [hpl]; rfl]
      clear hW4 hF4 c0
      go_wp2_with fail
      go_roundw
      case rel =>
        have hf : Fr (fun k => k = p) wr (w4.setCell ⟨p, 32768, none⟩ (.int .i64 ((N : Int) + (n : Int)))) := HF4.out.setCell (.inl rfl) _
        refine ⟨k + n, restAt A cc n, cc - n, hkn, rfl, hcc2, HREST.out.frNe hf (Nat.le_trans hB hbs) (fun x hx => restAt_block HNA.out x hx), restAt_block HNA.out, ⟨_, ?_, HC.out⟩, HFR.out.trans hf (fun _ _ h => h)⟩
        have h := HW4.out.set_ 32768 (.int .i64 ((N : Int) + (n : Int)))
        simpa using h
      case measure => exact hk2
    · obtain rfl : k = b.length := by omega
      have tl : decide ((0 : Int) < ((b.length - b.length : Nat) : Int)) = false := decide_eq_false (by omega)
      have tl2 : decide (0 < b.length - b.length) = false := decide_eq_false (by omega)
      rw [List.take_length] at hwin
      have HWI := Lib.hid hwin
      clear hwin hs hna
      generalize b.length - b.length = z at tl tl2 hcc ⊢
      go_wp2_with fail
      go_end0
      exact ⟨rfl, HWI.out, HFR.out⟩
end Go.Proofs.YtdmmlpioaiammaaDoor
