/-
  What the methods of bitin.Reader do to a reader and the bits that are left in it.
-/
import Derived.Test.YtdmmlpioaiammaaDoorProg
import Derived.Test.YtdmmlpioaiammaaDoorAppend
import Derived.Test.YtdmmlpioaiammaaDoorBitMath
import Derived.StillTailTactics
import Derived.Deep.QuietTactic
import Derived.BigQuiet
import Derived.Deep.LoopGhost
import Derived.Deep.RegionHeld3
import Derived.Deep.RegionLaw
namespace Go.Proofs.YtdmmlpioaiammaaDoor
open Go.RowKit

theorem byteInfoR : (Tryd.prog.info? 5).map (fun i => (i.zero, i.size, i.bytes)) = some (some (.int .u8 0), 1, 1) := by kernel_rfl

/-- a quiet call within a second quiet region -/
theorem quiet_more {P : Program} {f : FuncId} {args : Array Value} {w : World} {a n : Nat} {v : Value} (h : Calls P f args (w.drewN (a + n)) fun e w' => e = .returned v ∧ ∃ m, w' = (w.drewN (a + n)).drewN m) :
    Calls P f args (w.drewN (a + n)) fun e w'' => e = .returned v ∧ ∃ m, w'' = w.drewN (a + m) :=
  h.mono fun _ _ ⟨he, m, hm⟩ => ⟨he, n + m, by rw [hm, World.drewN_drewN, Nat.add_assoc]⟩
theorem quiet_once {P : Program} {f : FuncId} {args : Array Value} {w : World} {n : Nat} {v : Value} (h : Calls P f args (w.drewN n) fun e w' => e = .returned v ∧ ∃ m, w' = (w.drewN n).drewN m) :
    Calls P f args (w.drewN n) fun e w'' => e = .returned v ∧ ∃ m, w'' = w.drewN m :=
  h.mono fun _ _ ⟨he, m, hm⟩ => ⟨he, n + m, by rw [hm, World.drewN_drewN]⟩

/-- a reader at block p -/
structure RdS (w : World) (B p : Nat) (o : Value) (buf : List UInt8) (pos gone : Nat) : Prop where
  cells : Whole w p 47 #[o, .int .i64 (pos : Int), .int .i64 (gone : Int)]
  own : w.ownsRow B 5 1 o buf.length (bytesV buf)
  apart : o.ownBlock ≠ some p
  le : pos ≤ 8 * buf.length

theorem RdS.fr {S : Nat → Prop} {w w' : World} {B p : Nat} {o : Value} {buf : List UInt8} {pos gone : Nat} (h : RdS w B p o buf pos gone) (hf : Fr S w w') (hp : ¬ S p) (ho : ∀ g, o.ownBlock = some g → ¬ S g) : RdS w' B p o buf pos gone :=
  ⟨h.cells.fr hf hp, own_fr h.own hf ho, h.apart, h.le⟩
theorem RdS.drewN {w : World} {B p : Nat} {o : Value} {buf : List UInt8} {pos gone : Nat} (h : RdS w B p o buf pos gone) (n : Nat) : RdS (w.drewN n) B p o buf pos gone := ⟨h.cells, h.own, h.apart, h.le⟩

/-- the bits that are left -/
def left (buf : List UInt8) (pos : Nat) : List Bool := (Bit.ofBytes buf).drop pos

namespace Bit
theorem ofBytes_append' (a b : List UInt8) : ofBytes (a ++ b) = ofBytes a ++ ofBytes b := by simp [ofBytes]
theorem length_ofBytes' (l : List UInt8) : (ofBytes l).length = 8 * l.length := by
  induction l with
  | nil => rfl
  | cons c l ih => simp only [ofBytes, List.flatMap_cons, List.length_append, length_bitsN, List.length_cons] at ih ⊢; omega
theorem ofBytes_take (l : List UInt8) (k : Nat) : ofBytes (l.take k) = (ofBytes l).take (8 * k) := by
  rcases Nat.lt_or_ge k l.length with h | h
  · have h1 := ofBytes_append' (l.take k) (l.drop k)
    rw [List.take_append_drop] at h1
    have h2 : (ofBytes (l.take k)).length = 8 * k := by rw [length_ofBytes', List.length_take]; omega
    rw [h1, ← h2, List.take_left]
  · rw [List.take_of_length_le h, List.take_of_length_le (by rw [length_ofBytes']; omega)]
theorem ofBytes_drop (l : List UInt8) (k : Nat) : ofBytes (l.drop k) = (ofBytes l).drop (8 * k) := by
  rcases Nat.lt_or_ge k l.length with h | h
  · have h1 := ofBytes_append' (l.take k) (l.drop k)
    rw [List.take_append_drop] at h1
    have h2 : (ofBytes (l.take k)).length = 8 * k := by rw [length_ofBytes', List.length_take]; omega
    rw [h1, ← h2, List.drop_left]
  · rw [List.drop_of_length_le h, List.drop_of_length_le (by rw [length_ofBytes']; omega)]; rfl
/-- what Peek reckons of up to five bytes is the number of the next n bits -/
theorem peek_num (buf : List UInt8) (pos n : Nat) (hn : n ≤ 32) (hp : pos ≤ 8 * buf.length) :
    num (ofBytes ((buf.drop (pos / 8)).take 5)) / 2 ^ (pos % 8) % 2 ^ n = num ((left buf pos).take n) := by
  have h1 : ofBytes ((buf.drop (pos / 8)).take 5) = ((ofBytes buf).drop (8 * (pos / 8))).take 40 := by rw [ofBytes_take, ofBytes_drop]
  rw [h1]
  have hl := length_ofBytes' buf
  have h2 : left buf pos = ((ofBytes buf).drop (8 * (pos / 8))).drop (pos % 8) := by
    rw [List.drop_drop]; unfold left; congr 1; omega
  rw [h2]
  generalize hL : (ofBytes buf).drop (8 * (pos / 8)) = L
  have hLl : pos % 8 ≤ L.length := by rw [← hL, List.length_drop, hl]; omega
  have h3 : pos % 8 ≤ (L.take 40).length := by rw [List.length_take]; omega
  rw [← num_drop _ _ h3]
  have h4 : (L.take 40).drop (pos % 8) = (L.drop (pos % 8)).take (40 - pos % 8) := by rw [List.drop_take]
  rw [h4]
  generalize L.drop (pos % 8) = M
  have h5 : ((M.take (40 - pos % 8)).take n) = M.take n := by rw [List.take_take]; congr 1; omega
  rcases Nat.lt_or_ge n (M.take (40 - pos % 8)).length with h | h
  · rw [← num_take _ _ (by omega), h5]
  · rw [← h5, List.take_of_length_le h]
    exact Nat.mod_eq_of_lt (Nat.lt_of_lt_of_le (num_lt _) (Nat.pow_le_pow_right (by omega) h))
end Bit
theorem length_left (buf : List UInt8) (pos : Nat) : (left buf pos).length = 8 * buf.length - pos := by
  unfold left; rw [List.length_drop, Bit.length_ofBytes']

set_option maxHeartbeats 400000 in
theorem left_any (B p : Nat) (o : Value) (buf : List UInt8) (pos gone : Nat) (w : World) (h : RdS w B p o buf pos gone) (hb : buf.length ≤ 1000000000000) :
    Calls Tryd.prog 35 #[.pointer (some ⟨p, 0, none⟩)] w fun e w' => e = .returned (.int .i64 ((left buf pos).length : Int)) ∧ ∃ m, w' = w.drewN m := by
  have HL := Lib.hid (length_left buf pos)
  have c0 := h.cells.cell 0
  have c1 := h.cells.cell 1
  simp at c0 c1
  obtain ⟨A, c, rfl⟩ := own_form h.own
  have hle := h.le
  clear h
  have e1 : IntKind.i64.wrap (8 * (buf.length : Int)) = 8 * (buf.length : Int) := IntWalk.i64_in _ (by omega)
  have e2 : IntKind.i64.wrap (8 * (buf.length : Int) - (pos : Int)) = 8 * (buf.length : Int) - (pos : Int) := IntWalk.i64_in _ (by omega)
  have HE : Hid (((left buf pos).length : Int) = 8 * (buf.length : Int) - (pos : Int)) := by
    have := HL.out
    show _ = _
    omega
  go_enter Tryd.func35, Tryd.ntmps35
  go_wp2
  go_quiet (fail)
  go_wp2
  go_ret
  exact ⟨by rw [HE.out]; rfl, _, rfl⟩

set_option maxHeartbeats 800000 in
theorem peek_yes (B p : Nat) (o : Value) (buf : List UInt8) (pos gone n : Nat) (w : World) (h : RdS w B p o buf pos gone) (hb : buf.length ≤ 1000000000000) (hn : n ≤ 32) :
    Calls Tryd.prog 48 #[.pointer (some ⟨p, 0, none⟩), .int .i64 (n : Int)] w fun e w' => e = .returned (.tuple #[.int .u32 ((Bit.num ((left buf pos).take n) : Nat) : Int), .bool (decide (n ≤ (left buf pos).length))]) ∧ ∃ m, w' = w.drewN m := by
  have HRD := Lib.hid h
  have c0 := h.cells.cell 0
  have c1 := h.cells.cell 1
  simp at c0 c1
  obtain ⟨A, c, rfl⟩ := own_form h.own
  have hle := h.le
  have hcap : buf.length ≤ c := by
    rcases h.own.2 with ⟨hv, hz⟩ | ⟨g, cap, cur, hv, _, _, hnc, _⟩
    · omega
    · injection hv with _ _ h3; omega
  have HSL := Lib.hid (Sl.of_own h.own)
  clear h
  obtain ⟨i0, hi0, hz0, hz1, hz2⟩ := info_parts byteInfoR
  have t1 : decide ((n : Int) < 0) = false := by simp
  have t2 : decide ((32 : Int) < (n : Int)) = false := by simp; omega
  have e1 : (pos : Int) / 8 = ((pos / 8 : Nat) : Int) := by omega
  obtain ⟨f, hf⟩ : ∃ f, f = pos / 8 := ⟨_, rfl⟩
  rw [← hf] at e1
  have hfl : f ≤ buf.length := by omega
  obtain ⟨q, hq⟩ : ∃ q, q = min (f + 5) buf.length := ⟨_, rfl⟩
  have hq1 : f ≤ q := by omega
  have hq2 : q ≤ buf.length := by omega
  obtain ⟨m, hm⟩ : ∃ m, m = q - f := ⟨_, rfl⟩
  have hm5 : m ≤ 5 := by omega
  have e2 : IntKind.i64.wrap ((f : Int) + 5) = (f : Int) + 5 := IntWalk.i64_in _ (by omega)
  have hmin : ∀ W, (Builtin.min_ #[3, 3] 3 #[.int .i64 ((f : Int) + 5), .int .i64 (buf.length : Int)]).run Tryd.prog W = .ok (.int .i64 (q : Int)) W := fun W => by
    have : (q : Int) = if (buf.length : Int) < (f : Int) + 5 then (buf.length : Int) else (f : Int) + 5 := by split <;> omega
    rw [this]; simp [go_sem]
  have hsl := run_slice_fromto Tryd.underlying25 hi0 hz1 A buf.length c f q (by omega) (by omega)
  rw [← hm] at hsl
  have hS : Sl w w.heap.size (restAt A c f) (bytesV ((buf.drop f).take 5)) := by
    have h := HSL.out.rest c f (by rw [len_bytesV]; exact hcap)
    have h2 := h.take 5
    rw [bytesV, List.map_take, List.map_drop]
    exact h2
  have hlen5 : ((buf.drop f).take 5).length = m := by rw [List.length_take, List.length_drop]; omega
  have HS := Lib.hid hS
  have HM := Lib.hid (Bit.peek_num buf pos n hn hle)
  rw [← hf] at HM
  have HF := Lib.hid hf
  clear hf hS hm hq HSL
  generalize (buf.drop f).take 5 = sub at HS HM hlen5
  generalize restAt A c f = A2 at hsl HS
  have HL5 := Lib.hid hlen5
  have hl5 : sub.length ≤ m := by omega
  have hl6 : m ≤ sub.length := by omega
  clear hlen5 hi0 hz0 hz1 hz2
  go_enter Tryd.func48, Tryd.ntmps48
  go_wp2
  go_quiet (fail)
  go_wp2
  go_loop [7, 36] (fun v i => ∃ k x : Nat, k ≤ m ∧ x = Bit.num (Bit.ofBytes (sub.take k)) ∧ x < 2 ^ (8 * k) ∧ i = .int .i64 k ∧ v = .int .u64 x) (fun _ i => m - (intOf i).toNat)
  case atStart => exact ⟨0, 0, Nat.zero_le _, rfl, by decide, rfl, rfl⟩
  case round =>
    obtain ⟨k, x, hk, hx, hxl, rfl, rfl⟩ := hrel
    have HX := Lib.hid hx
    have HXL := Lib.hid hxl
    clear hx hxl
    by_cases hlt : k < m
    · have hks : k < sub.length := by omega
      obtain ⟨b, off, rfl, _, hcell⟩ := (HS.out.drewN nq).byte hks
      have hc256 := u8_bound sub[k]
      generalize hc : sub[k].toNat = cc at hcell hc256
      have HC := Lib.hid hc
      clear hc
      have hP : (2 ^ (8 * k) : Nat) ≤ 2 ^ 32 := Nat.pow_le_pow_right (by omega) (by omega)
      have hmul : cc * 2 ^ (8 * k) < 2 ^ 40 := by
        have := Nat.mul_lt_mul_of_lt_of_le hc256 hP (by decide)
        simpa using this
      have E1 : Hid (bits .or .u64 (x : Int) (IntKind.u64.wrap ((cc : Int) * (2 : Int) ^ (8 * k))) = ((x + 2 ^ (8 * k) * cc : Nat) : Int)) := by
        have e : ((cc : Int) * (2 : Int) ^ (8 * k)) = ((cc * 2 ^ (8 * k) : Nat) : Int) := by simp
        show _ = _
        rw [e, IntKind.wrap_u64, Int.emod_eq_of_lt (Int.natCast_nonneg _) (by omega)]
        have hxl := HXL.out
        rw [u64_or_nat _ _ (by omega) (by omega), Nat.or_comm, nat_join (8 * k) _ _ (by simp) hxl, Nat.mul_comm, Nat.add_comm]
      have hsn : Bit.num (Bit.ofBytes (sub.take (k + 1))) = x + 2 ^ (8 * k) * cc := by
        rw [List.take_succ_eq_append_getElem hks, Bit.ofBytes_append', Bit.num_append, ← HX.out, Bit.length_ofBytes', List.length_take, Nat.min_eq_left (by omega)]
        have : Bit.num (Bit.ofBytes [sub[k]]) = cc := by
          rw [show Bit.ofBytes [sub[k]] = Bit.bitsN 8 sub[k].toNat from List.append_nil _, Bit.num_bitsN, HC.out]
          exact Nat.mod_eq_of_lt hc256
        rw [this]
      have HSN := Lib.hid hsn
      have hlast := Bit.num_lt (Bit.ofBytes (sub.take (k + 1)))
      rw [Bit.length_ofBytes', List.length_take, Nat.min_eq_left (by omega), hsn] at hlast
      have HLA := Lib.hid hlast
      clear hsn hlast hP hmul
      go_wp2
      go_round
      case rel => exact ⟨k + 1, _, by omega, HSN.out.symm, HLA.out, by go_num, by rw [E1.out]⟩
      case measure => simp [intOf]; omega
    · obtain rfl : k = m := by omega
      have hx := HX.out
      rw [List.take_of_length_le hl5] at hx
      have hm := HM.out
      rw [← hx] at hm
      have hx40 : x < 2 ^ 40 := Nat.lt_of_lt_of_le HXL.out (Nat.pow_le_pow_right (by omega) (by omega))
      have e3 : (x : Int) / (2 : Int) ^ (pos % 8) = ((x / 2 ^ (pos % 8) : Nat) : Int) := by simp
      have hy : x / 2 ^ (pos % 8) < 2 ^ 40 := Nat.lt_of_le_of_lt (Nat.div_le_self _ _) hx40
      generalize x / 2 ^ (pos % 8) = y at e3 hm hy
      have hq3 : (2 ^ n : Nat) ≤ 2 ^ 32 := Nat.pow_le_pow_right (by omega) hn
      have hq4 : 1 ≤ (2 ^ n : Nat) := Nat.one_le_two_pow
      have e4 : IntKind.u64.wrap ((2 : Int) ^ n) = ((2 ^ n : Nat) : Int) := by
        rw [IntKind.wrap_u64, show (2 : Int) ^ n = ((2 ^ n : Nat) : Int) by simp]
        exact Int.emod_eq_of_lt (Int.natCast_nonneg _) (by omega)
      have e5 : IntKind.u64.wrap (((2 ^ n : Nat) : Int) - 1) = ((2 ^ n - 1 : Nat) : Int) := by rw [IntKind.wrap_u64]; omega
      have e6 : bits .and .u64 (y : Int) ((2 ^ n - 1 : Nat) : Int) = ((y % 2 ^ n : Nat) : Int) := by
        rw [u64_and_nat _ _ (by omega) (by omega), Nat.and_two_pow_sub_one_eq_mod]
      rw [hm] at e6
      have hz32 : Bit.num ((left buf pos).take n) < 4294967296 := by
        rw [← hm]
        have := Nat.mod_lt y hq4
        omega
      have e7 : IntKind.u32.wrap ((Bit.num ((left buf pos).take n) : Nat) : Int) = ((Bit.num ((left buf pos).take n) : Nat) : Int) := by rw [IntKind.wrap_u32]; omega
      have LF := fun m => Lib.hid (left_any B p _ buf pos gone (w.drewN m) (HRD.out.drewN m) hb)
      generalize hz : Bit.num ((left buf pos).take n) = z at e6 e7 hz32
      generalize hll : (left buf pos).length = ll at LF
      have HZ := Lib.hid hz
      have HLL := Lib.hid hll
      clear hz hll
      generalize (2 ^ n - 1 : Nat) = mm at e5 e6
      generalize (2 ^ n : Nat) = qq at e4 e5 hq3 hq4
      clear hx hm hx40
      have d1 : (decide ((n : Int) ≤ (ll : Int))) = decide (n ≤ ll) := by simp
      go_wp2
      go_quiet ((go_at_call 35; exact quiet_more (LF _).out))
      go_wp2
      go_ret2
      exact ⟨by rw [HZ.out, HLL.out]; rfl, _, World.drewN_drewN _ _ _⟩

theorem peek_no (p : Addr) (n : Int) (w : World) (hn : n < 0 ∨ 32 < n) :
    Calls Tryd.prog 48 #[.pointer (some p), .int .i64 n] w fun e w' => e = .returned (.tuple #[.int .u32 0, .bool false]) ∧ w = w' := by
  rcases hn with hn | hn
  · have t1 : decide (n < 0) = true := by simp; omega
    go_enter Tryd.func48, Tryd.ntmps48
    go_wp2
    go_ret2
    exact ⟨rfl, rfl⟩
  · have t1 : decide (n < 0) = false := by simp; omega
    have t2 : decide (32 < n) = true := by simp; omega
    go_enter Tryd.func48, Tryd.ntmps48
    go_wp2
    go_ret2
    exact ⟨rfl, rfl⟩

/-- Bits: taken, where they are all there -/
def BitsYes (B p : Nat) (o : Value) (buf : List UInt8) (pos gone n : Nat) (w : World) (e : Ending) (w' : World) : Prop :=
  e = .returned (.tuple #[.int .u32 ((Bit.num ((left buf pos).take n) : Nat) : Int), .bool true]) ∧ RdS w' B p o buf (pos + n) gone ∧ Fr (fun x => x = p) w w'
set_option maxHeartbeats 400000 in
theorem bits_yes (B p : Nat) (o : Value) (buf : List UInt8) (pos gone n : Nat) (w : World) (h : RdS w B p o buf pos gone) (hb : buf.length ≤ 1000000000000) (hn : n ≤ 32) (hl : n ≤ (left buf pos).length) :
    Calls Tryd.prog 27 #[.pointer (some ⟨p, 0, none⟩), .int .i64 (n : Int)] w (BitsYes B p o buf pos gone n w) := by
  have hll := length_left buf pos
  have hd : decide (n ≤ (left buf pos).length) = true := by simpa using hl
  have PK := Lib.hid (peek_yes B p o buf pos gone n w h hb hn)
  rw [hd] at PK
  have hle := h.le
  have HR := Lib.hid h
  have f1 := h.cells.frozen 1
  have c1 := h.cells.cell 1
  simp at c1
  have hlt := h.cells.lt
  have HP := Lib.hid (show BitsYes B p o buf pos gone n w = fun e w' => e = .returned (.tuple #[.int .u32 ((Bit.num ((left buf pos).take n) : Nat) : Int), .bool true]) ∧ RdS w' B p o buf (pos + n) gone ∧ Fr (fun x => x = p) w w' from rfl)
  have hpn : pos + n ≤ 8 * buf.length := by omega
  clear h hd hl hll
  rw [HP.out]
  generalize Bit.num ((left buf pos).take n) = z at PK
  go_enter Tryd.func27, Tryd.ntmps27
  go_wp2_with fail
  refine PK.out.mono ?_
  rintro e w1 ⟨rfl, m, rfl⟩
  go_wp2_with fail
  go_ret2
  refine ⟨rfl, ⟨?_, ?_, HR.out.apart, hpn⟩, ((Fr.refl (fun x => x = p) w).drewN m).setCell (.inl rfl) _⟩
  · have h := (HR.out.cells.drewN m).set_ 1 (.int .i64 ((pos : Int) + (n : Int)))
    simpa using h
  · refine own_keep HR.out.own fun g hg => ?_
    exact (Below.heap_setCell (w.drewN m) _ _ g (fun e => HR.out.apart (by rw [hg, e])))

theorem bits_no (B p : Nat) (o : Value) (buf : List UInt8) (pos gone n : Nat) (w : World) (h : RdS w B p o buf pos gone) (hb : buf.length ≤ 1000000000000) (hn : n ≤ 32) (hl : (left buf pos).length < n) :
    Calls Tryd.prog 27 #[.pointer (some ⟨p, 0, none⟩), .int .i64 (n : Int)] w fun e w' => e = .returned (.tuple #[.int .u32 0, .bool false]) ∧ ∃ m, w' = w.drewN m := by
  have hd : decide (n ≤ (left buf pos).length) = false := by simp; omega
  have PK := Lib.hid (peek_yes B p o buf pos gone n w h hb hn)
  rw [hd] at PK
  clear h hd hl
  generalize Bit.num ((left buf pos).take n) = z at PK
  go_enter Tryd.func27, Tryd.ntmps27
  go_wp2_with fail
  refine PK.out.mono ?_
  rintro e w1 ⟨rfl, m, rfl⟩
  go_wp2_with fail
  go_ret2
  exact ⟨rfl, _, rfl⟩

theorem bitinNew_any (B : Nat) (w : World) (_hB : B ≤ w.heap.size) : Calls Tryd.prog 11 #[] w fun e w' => e = .returned (.pointer (some ⟨w.heap.size, 0, none⟩)) ∧ RdS w' B w.heap.size (.slice none 0 0) [] 0 0 ∧ Below w.heap.size w w' := by
  go_enter Tryd.func11, Tryd.ntmps11
  go_wp2
  go_ret
  refine ⟨rfl, ⟨Whole.new _ _ _, World.ownsRow_nil _ _ _ _, by simp [Value.ownBlock], by simp⟩, (Below.refl _ _).alloc (Nat.le_refl _) _⟩
end Go.Proofs.YtdmmlpioaiammaaDoor
