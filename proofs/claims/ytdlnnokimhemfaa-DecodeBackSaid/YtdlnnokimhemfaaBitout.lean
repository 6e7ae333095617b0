/-
  What the methods of bitout.Writer do to a writer and its bits, and what bitout.Reverse computes. The bits of a writer: those of its complete bytes that were not taken, then the pending ones.
-/
import Derived.Test.YtdlnnokimhemfaaProg
import Derived.Test.YtdlnnokimhemfaaFrame
import Derived.Test.YtdlnnokimhemfaaBitMath
import Derived.StillTailTactics
import Derived.Deep.QuietTactic
import Derived.BigQuiet
import Derived.Deep.LoopGhost
import Derived.Deep.RegionHeld3
import Derived.Deep.RegionLaw
namespace Go.Proofs.Ytdlnnokimhemfaa
open Go.RowKit

theorem byteInfo : (Try.prog.info? 5).map (fun i => (i.zero, i.size, i.bytes)) = some (some (.int .u8 0), 1, 1) := by kernel_rfl

/-- a writer at block p: its slice o, the bytes of it, the pending bits r, how many bits there were -/
structure WrS (w : World) (B p : Nat) (o : Value) (out : List UInt8) (r : List Bool) (len : Nat) : Prop where
  cells : Whole w p 74 #[o, .int .u64 ((Bit.num r : Nat) : Int), .int .i64 (r.length : Int), .int .i64 (len : Int)]
  own : w.ownsRow B 5 1 o out.length (bytesV out)
  apart : o.ownBlock ≠ some p

namespace Bit
theorem pow_u64 (k : Nat) (hk : k ≤ 32) : IntKind.u64.wrap ((2 : Int) ^ k) = ((2 ^ k : Nat) : Int) := by
  have h : (2 ^ k : Nat) ≤ 2 ^ 32 := Nat.pow_le_pow_right (by omega) hk
  rw [IntKind.wrap_u64]
  have e : (2 : Int) ^ k = ((2 ^ k : Nat) : Int) := by simp
  rw [e]
  exact Int.emod_eq_of_lt (Int.natCast_nonneg _) (by omega)
theorem part_eq (r : List Bool) (v k : Nat) (hr : r.length < 8) (hv : v < 4294967296) :
    bits .or .u64 ((num r : Nat) : Int) ((v % 2 ^ k * 2 ^ r.length : Nat) : Int) = ((num (r ++ bitsN k v) : Nat) : Int) := by
  have h1 := num_lt r
  have h2 : v % 2 ^ k < 2 ^ 32 := Nat.lt_of_le_of_lt (Nat.mod_le _ _) (by simpa using hv)
  have h3 : (2 ^ r.length : Nat) ≤ 2 ^ 7 := Nat.pow_le_pow_right (by omega) (by omega)
  have h4 : v % 2 ^ k * 2 ^ r.length < 2 ^ 32 * 2 ^ 7 := Nat.lt_of_lt_of_le (Nat.mul_lt_mul_of_pos_right h2 (Nat.two_pow_pos _)) (Nat.mul_le_mul_left _ h3)
  rw [u64_or_nat _ _ (by omega) (by omega), Nat.or_comm, nat_join r.length _ _ (by simp) h1, num_append, num_bitsN, Nat.mul_comm, Nat.add_comm]
theorem shl_eq (v k n : Nat) (hv : v < 4294967296) (hn : n < 8) : IntKind.u64.wrap (((v % 2 ^ k : Nat) : Int) * (2 : Int) ^ n) = ((v % 2 ^ k * 2 ^ n : Nat) : Int) := by
  have h2 : v % 2 ^ k < 2 ^ 32 := Nat.lt_of_le_of_lt (Nat.mod_le _ _) (by simpa using hv)
  have h3 : (2 ^ n : Nat) ≤ 2 ^ 7 := Nat.pow_le_pow_right (by omega) (by omega)
  have h4 : v % 2 ^ k * 2 ^ n < 2 ^ 32 * 2 ^ 7 := Nat.lt_of_lt_of_le (Nat.mul_lt_mul_of_pos_right h2 (Nat.two_pow_pos _)) (Nat.mul_le_mul_left _ h3)
  have e : ((v % 2 ^ k : Nat) : Int) * (2 : Int) ^ n = ((v % 2 ^ k * 2 ^ n : Nat) : Int) := by simp
  rw [e, IntKind.wrap_u64]
  omega
theorem and_eq (v k : Nat) (hv : v < 4294967296) (hk : k ≤ 32) : bits .and .u64 (v : Int) ((2 ^ k - 1 : Nat) : Int) = ((v % 2 ^ k : Nat) : Int) := by
  have h : (2 ^ k : Nat) ≤ 2 ^ 32 := Nat.pow_le_pow_right (by omega) hk
  rw [u64_and_nat _ _ (by omega) (by omega), Nat.and_two_pow_sub_one_eq_mod]
/-- a byte off the front of pending bits -/
theorem front (r : List Bool) (h : 8 ≤ r.length) : bitsN 8 (UInt8.ofNat (num r % 256)).toNat = r.take 8 := by
  have h1 : (UInt8.ofNat (num r % 256)).toNat = num (r.take 8) := by
    rw [num_take r 8 h]; simp
  rw [h1]
  have h2 := bitsN_num (r.take 8)
  rw [List.length_take, Nat.min_eq_left h] at h2
  exact h2
theorem ofBytes_append (a b : List UInt8) : ofBytes (a ++ b) = ofBytes a ++ ofBytes b := by simp [ofBytes]
theorem ofBytes_snoc (a : List UInt8) (r : List Bool) (h : 8 ≤ r.length) : ofBytes (a ++ [UInt8.ofNat (num r % 256)]) ++ r.drop 8 = ofBytes a ++ r := by
  rw [ofBytes_append]
  have : ofBytes [UInt8.ofNat (num r % 256)] = r.take 8 := (List.append_nil _).trans (front r h)
  rw [this, List.append_assoc, List.take_append_drop]
theorem length_ofBytes (l : List UInt8) : (ofBytes l).length = 8 * l.length := by
  induction l with
  | nil => rfl
  | cons c l ih => simp only [ofBytes, List.flatMap_cons, List.length_append, length_bitsN, List.length_cons] at ih ⊢; omega
end Bit

def PutPost (B p : Nat) (o : Value) (out : List UInt8) (r : List Bool) (len v k : Nat) (w : World) (e : Ending) (w' : World) : Prop :=
  ∃ o' out' r', e = .returned (.bool true) ∧ Bit.ofBytes out' ++ r' = Bit.ofBytes out ++ (r ++ Bit.bitsN k v) ∧ r'.length < 8 ∧ WrS w' B p o' out' r' (len + k) ∧
    (o'.ownBlock = o.ownBlock ∨ ∀ g, o'.ownBlock = some g → w.heap.size ≤ g) ∧ Fr (fun x => x = p ∨ some x = o.ownBlock) w w'

set_option maxRecDepth 100000 in
set_option maxHeartbeats 1000000 in
theorem put_yes (B p : Nat) (o : Value) (out : List UInt8) (r : List Bool) (len v k : Nat) (w : World) (hw : WrS w B p o out r len) (hr : r.length < 8) (hB : B ≤ w.heap.size)
    (hv : v < 4294967296) (hk : k ≤ 32) (hlen : len ≤ 1000000000000) (hout : out.length ≤ 1000000000000) :
    Calls Try.prog 29 #[.pointer (some ⟨p, 0, none⟩), .int .u32 (v : Int), .int .i64 (k : Int)] w (PutPost B p o out r len v k w) := by
  have c0 := hw.cells.cell 0
  have c1 := hw.cells.cell 1
  have c2 := hw.cells.cell 2
  have c3 := hw.cells.cell 3
  have f1 := hw.cells.frozen 1
  have f2 := hw.cells.frozen 2
  have f3 := hw.cells.frozen 3
  simp at c0 c1 c2 c3
  have HW := Lib.hid hw
  have hpl := hw.cells.lt
  clear hw
  have t1 : decide ((k : Int) < 0) = false := by simp
  have t2 : decide ((32 : Int) < (k : Int)) = false := by simp; omega
  have e1 : IntKind.u64.wrap (v : Int) = v := by rw [IntKind.wrap_u64]; omega
  have e2 := Bit.pow_u64 k hk
  have hq : (2 ^ k : Nat) ≤ 4294967296 := by have := Nat.pow_le_pow_right (n := 2) (by omega) hk; simpa using this
  have hq1 : 1 ≤ (2 ^ k : Nat) := Nat.one_le_two_pow
  have e3 : IntKind.u64.wrap (((2 ^ k : Nat) : Int) - 1) = ((2 ^ k - 1 : Nat) : Int) := by rw [IntKind.wrap_u64]; omega
  have e4 := Bit.and_eq v k hv hk
  have e5 := Bit.shl_eq v k r.length hv hr
  have e6 := Bit.part_eq r v k hr hv
  have HR := Lib.hid (show (r ++ Bit.bitsN k v).length = r.length + k by rw [List.length_append, Bit.length_bitsN])
  have HR2 : ∃ r2, r2 = r ++ Bit.bitsN k v := ⟨_, rfl⟩
  obtain ⟨r2, hr2⟩ := HR2
  rw [← hr2] at e6 HR
  have HR2 := Lib.hid hr2
  clear hr2
  generalize (v % 2 ^ k * 2 ^ r.length : Nat) = z at e5 e6
  generalize (v % 2 ^ k : Nat) = y at e4 e5
  generalize (2 ^ k - 1 : Nat) = m at e3 e4
  generalize (2 ^ k : Nat) = q at e2 e3 hq hq1
  obtain ⟨i0, hi0, hz0, hz1, hz2⟩ := info_parts byteInfo
  have Hi0 := Lib.hid hi0
  have Hz0 := Lib.hid hz0
  have Hz1 := Lib.hid hz1
  have Hz2 := Lib.hid hz2
  clear hi0 hz0 hz1 hz2
  generalize hn : (Bit.num r : Nat) = pt at c1 e6
  have HN := Lib.hid hn
  clear hn
  go_enter Try.func29, Try.ntmps29
  go_wp2
  go_still_tail 18, (by kernel_rfl)
  go_wp2
  go_loopg [50] r2.length (fun g _ wr => ∃ (o2 : Value) (out2 : List UInt8) (r3 : List Bool), g = r3.length ∧ out2.length ≤ out.length + (r.length + k) ∧ r3.length ≤ r.length + k ∧ out2.length + r3.length ≤ out.length + (r.length + k) ∧ Bit.ofBytes out2 ++ r3 = Bit.ofBytes out ++ r2 ∧ WrS wr B p o2 out2 r3 (len + k) ∧
    (o2.ownBlock = o.ownBlock ∨ ∀ g, o2.ownBlock = some g → w.heap.size ≤ g) ∧ Fr (fun x => x = p ∨ some x = o.ownBlock) w wr)
  case atStart =>
    refine ⟨o, out, r2, rfl, by omega, by rw [HR.out]; omega, by rw [HR.out]; omega, rfl, ?_, .inl rfl, ?_⟩
    · refine ⟨?_, ?_, HW.out.apart⟩
      · have h := (((HW.out.cells.set_ 1 (.int .u64 ((Bit.num r2 : Nat) : Int))).set_ 2 (.int .i64 ((r.length : Int) + (k : Int)))).set_ 3 (.int .i64 ((len : Int) + (k : Int)))).drew
        rw [HR.out]
        simpa using h
      · refine own_keep HW.out.own fun g hg => ?_
        have hgp : g ≠ p := fun e => HW.out.apart (by rw [hg, e])
        show ((((w.setCell _ _).setCell _ _).setCell _ _)).heap[g]? = _
        rw [Below.heap_setCell _ _ _ _ hgp, Below.heap_setCell _ _ _ _ hgp, Below.heap_setCell _ _ _ _ hgp]
    · exact ((((Fr.refl _ w).setCell (.inl (.inl rfl)) _).setCell (.inl (.inl rfl)) _).setCell (.inl (.inl rfl)) _).drew
  case round =>
    obtain ⟨o2, out2, r3, hg, hl1, hl2, hl3, hbits, hws, hob, hfr⟩ := hrel
    have HG := Lib.hid hg
    have HBI := Lib.hid hbits
    have HOB := Lib.hid hob
    have HFR := Lib.hid hfr
    have d0 := hws.cells.cell 0
    have d1 := hws.cells.cell 1
    have d2 := hws.cells.cell 2
    have d3 := hws.cells.cell 3
    have g0 := hws.cells.frozen 0
    have g1 := hws.cells.frozen 1
    have g2 := hws.cells.frozen 2
    simp at d0 d1 d2 d3
    have HWS := Lib.hid hws
    have hplt := hws.cells.lt
    clear hg hbits hob hfr hws
    by_cases h8 : 8 ≤ r3.length
    · go_wp2
      have eb : IntKind.u8.wrap ((Bit.num r3 : Nat) : Int) = (((UInt8.ofNat (Bit.num r3 % 256)).toNat : Nat) : Int) := by
        rw [IntKind.wrap_u8]; simp
      have eb2 : ((Bit.num r3 : Nat) : Int) % 256 = (((UInt8.ofNat (Bit.num r3 % 256)).toNat : Nat) : Int) := by simp
      have hsn := Bit.ofBytes_snoc out2 r3 h8
      have HSN := Lib.hid hsn
      clear hsn
      generalize (UInt8.ofNat (Bit.num r3 % 256)) = c at eb eb2 HSN
      generalize hpt : (Bit.num r3 : Nat) = pt3 at d1 eb eb2
      have HPT := Lib.hid hpt
      clear hpt
      have hnp := HWS.out.apart
      have hown := HWS.out.own
      have hbB : B ≤ wr.heap.size := Nat.le_trans hB HFR.out.size
      go_region_law (first | ((refine step_append_lies _ (by rfl) _ _ _ (by rfl) B 5 i0 _ 1 1 Try.underlying35 Hi0.out Hz0.out Hz1.out Hz2.out rfl (by omega) o2 out2.length (bytesV out2) (by rfl) ((hown.alloc _).drew) ⟨wr.heap.size, 0, none⟩ 1 1 [.int .u8 c.toNat] (by rfl) (by rfl) (World.news_of_block (cs := #[.int .u8 c.toNat]) (t := 5) (fr := (0, 0)) (heap_alloc_new wr _)) (by simp [Value.oneCell']) (by omega) (by unfold maxLen; omega) (by omega) (by simp; omega) (wr.heap.size + 1) (by simp) ?_; intro gg cap ww hown1 hgrow hat hlt1; have x0 := (hgrow.cell_far ⟨p, 0, none⟩ (by simp; omega) (Ne.symm hnp)).trans ((World.cell?_alloc_lt wr _ _ hplt).trans d0); have x1 := (hgrow.frozen_far ⟨p, 0, none⟩ (by simp; omega) (Ne.symm hnp)).trans ((frozen_alloc_lt wr _ _ hplt).trans g0))))
      all_goals
        have hWW := ((HWS.out.cells.alloc (.cells #[.int .u8 c.toNat] 5)).drew).grown hgrow hnp
        rw [HPT.out] at hWW
        have y1 := hWW.cell 1
        have y2 := hWW.cell 2
        have z1 := hWW.frozen 1
        have z2 := hWW.frozen 2
        simp at y1 y2
        have HWW := Lib.hid hWW
        have HOW := Lib.hid hown1
        have HGR := Lib.hid hgrow
        have HAT := Lib.hid hat
        clear hWW hown1 hgrow hat
        obtain ⟨r4, hr4⟩ : ∃ r4, r4 = r3.drop 8 := ⟨_, rfl⟩
        have l4 : r4.length + 8 = r3.length := by rw [hr4, List.length_drop]; omega
        have e8 : ((pt3 : Nat) : Int) / 256 = ((Bit.num r4 : Nat) : Int) := by
          have h := Bit.num_drop r3 8 h8
          rw [← hr4, HPT.out] at h
          rw [h]; simp
        have e9 : ((r3.length : Nat) : Int) - 8 = ((r4.length : Nat) : Int) := by omega
        have HR4 := Lib.hid hr4
        have hl4 : r4.length < r3.length := by omega
        have HL4 := Lib.hid l4
        clear hr4 l4
        go_wp2
        go_roundg r4.length
        case measure => rw [HG.out]; exact hl4
        case rel =>
          have h5 := HL4.out
          refine ⟨.slice (some ⟨gg, 0, none⟩) (out2.length + 1) cap, out2 ++ [c], r4, rfl, by simp; omega, by omega, by simp; omega, ?_, ?_, ?_, ?_⟩
          · rw [HR4.out, HSN.out]; exact HBI.out
          · refine ⟨?_, ?_, ?_⟩
            · have h := ((HWW.out.set_ 0 (.slice (some ⟨gg, 0, none⟩) (out2.length + 1) cap)).set_ 1 (.int .u64 ((Bit.num r4 : Nat) : Int))).set_ 2 (.int .i64 ((r4.length : Nat) : Int))
              simpa using h
            · have h := HOW.out
              have hb : bytesV (out2 ++ [c]) = bytesV out2 ++ [.int .u8 c.toNat] := by simp [bytesV, byteV]
              rw [hb, show (out2 ++ [c]).length = out2.length + 1 by simp]
              refine own_keep h fun g hg => ?_
              have hgp : g ≠ p := by
                intro e
                rw [e] at hg
                rcases HAT.out with h1 | h1
                · exact hnp (by rw [h1]; simpa [Value.ownBlock] using hg)
                · have : gg = p := by simpa [Value.ownBlock] using hg
                  omega
              rw [Below.heap_setCell _ _ _ _ hgp, Below.heap_setCell _ _ _ _ hgp, Below.heap_setCell _ _ _ _ hgp]
            · intro hg
              have hg' : gg = p := by simpa [Value.ownBlock] using hg
              rcases HAT.out with h1 | h1
              · exact hnp (by rw [h1, hg'])
              · omega
          · rcases HAT.out with h1 | h1
            · rcases HOB.out with h2 | h2
              · left; rw [← h2, h1]; rfl
              · right; intro g hg; exact h2 g (by rw [h1]; exact hg)
            · right
              intro g hg
              have : gg = g := by simpa [Value.ownBlock] using hg
              have := HFR.out.size
              omega
          · have hf : Fr (fun x => x = p ∨ some x = o.ownBlock) w ww := (HFR.out.alloc _).drew.grown HGR.out fun g hg hrow => by
              rcases HOB.out with h2 | h2
              · right; rw [← h2, hrow]
              · have := h2 g hrow; omega
            exact ((hf.setCell (.inl (.inl rfl)) _).setCell (.inl (.inl rfl)) _).setCell (.inl (.inl rfl)) _
    · go_wp2
      go_ret
      exact ⟨o2, out2, r3, rfl, by rw [HBI.out, HR2.out], by omega, HWS.out, HOB.out, HFR.out⟩
end Go.Proofs.Ytdlnnokimhemfaa
