/-
  The other methods of bitout.Writer: New, a Put that may not be, Align, Take, Finish, Len.
-/
import Derived.Test.YtdlnnokimhemfaaBitout
namespace Go.Proofs.Ytdlnnokimhemfaa
open Go.RowKit

theorem put_no (p : Addr) (v : Nat) (k : Int) (w : World) (hk : k < 0 ∨ 32 < k) :
    Calls Try.prog 29 #[.pointer (some p), .int .u32 (v : Int), .int .i64 k] w fun e w' => e = .returned (.bool false) ∧ w = w' := by
  rcases hk with hk | hk
  · have t1 : decide (k < 0) = true := by simp; omega
    go_enter Try.func29, Try.ntmps29
    go_wp2
    go_ret
    exact ⟨rfl, rfl⟩
  · have t1 : decide (k < 0) = false := by simp; omega
    have t2 : decide (32 < k) = true := by simp; omega
    go_enter Try.func29, Try.ntmps29
    go_wp2
    go_ret
    exact ⟨rfl, rfl⟩

theorem bitoutNew_any (B : Nat) (w : World) (_hB : B ≤ w.heap.size) : Calls Try.prog 28 #[] w fun e w' => e = .returned (.pointer (some ⟨w.heap.size, 0, none⟩)) ∧ WrS w' B w.heap.size (.slice none 0 0) [] [] 0 ∧ Below w.heap.size w w' := by
  go_enter Try.func28, Try.ntmps28
  go_wp2
  go_ret
  refine ⟨rfl, ⟨Whole.new _ _ _, World.ownsRow_nil _ _ _ _, by simp [Value.ownBlock]⟩, (Below.refl _ _).alloc (Nat.le_refl _) _⟩

theorem neg_and7 (n : Nat) (hn : n < 8) : bits .and .i64 (-(n : Int)) 7 = (((8 - n) % 8 : Nat) : Int) := by
  have : ∀ i : Fin 8, bits .and .i64 (-(i.val : Int)) 7 = (((8 - i.val) % 8 : Nat) : Int) := by decide
  exact this ⟨n, hn⟩

def AlignPost (B p : Nat) (o : Value) (out : List UInt8) (r : List Bool) (len : Nat) (w : World) (e : Ending) (w' : World) : Prop :=
  ∃ o' out', e = .returned (.int .i64 (((8 - r.length) % 8 : Nat) : Int)) ∧ Bit.ofBytes out' = Bit.ofBytes out ++ (r ++ Bit.bitsN ((8 - r.length) % 8) 0) ∧ WrS w' B p o' out' [] (len + (8 - r.length) % 8) ∧
    (o'.ownBlock = o.ownBlock ∨ ∀ g, o'.ownBlock = some g → w.heap.size ≤ g) ∧ Fr (fun x => x = p ∨ some x = o.ownBlock) w w'

set_option maxHeartbeats 400000 in
theorem align_any (B p : Nat) (o : Value) (out : List UInt8) (r : List Bool) (len : Nat) (w : World) (hw : WrS w B p o out r len) (hr : r.length < 8) (hB : B ≤ w.heap.size) (hlen : len ≤ 1000000000000) (hout : out.length ≤ 1000000000000) :
    Calls Try.prog 38 #[.pointer (some ⟨p, 0, none⟩)] w (AlignPost B p o out r len w) := by
  have c2 := hw.cells.cell 2
  simp at c2
  have HW := Lib.hid hw
  clear hw
  have e1 := neg_and7 r.length hr
  go_enter Try.func38, Try.ntmps38
  go_wp2_with fail
  have h8 : (8 - r.length) % 8 ≤ 32 := by omega
  refine (put_yes B p o out r len 0 ((8 - r.length) % 8) w HW.out hr hB (by decide) h8 hlen hout).mono ?_
  rintro e w1 ⟨o', out', r', rfl, hbits, hr', hws, hob, hfr⟩
  have hz : r' = [] := by
    have h := congrArg List.length hbits
    rw [List.length_append, List.length_append, List.length_append, Bit.length_ofBytes, Bit.length_ofBytes, Bit.length_bitsN] at h
    exact List.eq_nil_of_length_eq_zero (by omega)
  subst hz
  rw [List.append_nil] at hbits
  have HP : Hid (AlignPost B p o out r len w (.returned (.int .i64 (((8 - r.length) % 8 : Nat) : Int))) w1) := ⟨o', out', rfl, hbits, hws, hob, hfr⟩
  clear hbits hr' hws hob hfr
  go_wp2_with fail
  go_ret
  exact HP.out

def TakePost (B p : Nat) (o : Value) (out : List UInt8) (r : List Bool) (len : Nat) (w : World) (e : Ending) (w' : World) : Prop :=
  e = .returned o ∧ WrS w' B p (.slice none 0 0) [] r len ∧ w'.ownsRow B 5 1 o out.length (bytesV out) ∧ Fr (fun x => x = p) w w'

theorem take_any (B p : Nat) (o : Value) (out : List UInt8) (r : List Bool) (len : Nat) (w : World) (hw : WrS w B p o out r len) :
    Calls Try.prog 39 #[.pointer (some ⟨p, 0, none⟩)] w (TakePost B p o out r len w) := by
  have c0 := hw.cells.cell 0
  have f0 := hw.cells.frozen 0
  simp at c0
  obtain ⟨A, c, ho⟩ := own_form hw.own
  subst ho
  have HW := Lib.hid hw
  clear hw
  go_enter Try.func39, Try.ntmps39
  go_wp2
  go_ret
  refine ⟨rfl, ⟨?_, World.ownsRow_nil _ _ _ _, by simp [Value.ownBlock]⟩, ?_, (Fr.refl (fun x => x = p) w).setCell (.inl rfl) _⟩
  · have h := HW.out.cells.set_ 0 (.slice none 0 0)
    simpa using h
  · refine own_keep HW.out.own fun g hg => ?_
    rw [Below.heap_setCell _ _ _ _ (fun e => HW.out.apart (by rw [hg, e]))]

def FinishPost (B p : Nat) (o : Value) (out : List UInt8) (r : List Bool) (len : Nat) (w : World) (e : Ending) (w' : World) : Prop :=
  ∃ o' out', e = .returned o' ∧ Bit.ofBytes out' = Bit.ofBytes out ++ (r ++ Bit.bitsN ((8 - r.length) % 8) 0) ∧ WrS w' B p (.slice none 0 0) [] [] (len + (8 - r.length) % 8) ∧ w'.ownsRow B 5 1 o' out'.length (bytesV out') ∧
    (o'.ownBlock = o.ownBlock ∨ ∀ g, o'.ownBlock = some g → w.heap.size ≤ g) ∧ Fr (fun x => x = p ∨ some x = o.ownBlock) w w'

theorem finish_any (B p : Nat) (o : Value) (out : List UInt8) (r : List Bool) (len : Nat) (w : World) (hw : WrS w B p o out r len) (hr : r.length < 8) (hB : B ≤ w.heap.size) (hlen : len ≤ 1000000000000) (hout : out.length ≤ 1000000000000) :
    Calls Try.prog 30 #[.pointer (some ⟨p, 0, none⟩)] w (FinishPost B p o out r len w) := by
  have HW := Lib.hid hw
  clear hw
  go_enter Try.func30, Try.ntmps30
  go_wp2_with fail
  refine (align_any B p o out r len w HW.out hr hB hlen hout).mono ?_
  rintro e w1 ⟨o', out', rfl, hbits, hws, hob, hfr⟩
  have HB := Lib.hid hbits
  have HS := Lib.hid hws
  have HO := Lib.hid hob
  have HF := Lib.hid hfr
  clear hbits hws hob hfr
  go_wp2_with fail
  refine (take_any B p o' out' [] _ w1 HS.out).mono ?_
  rintro e w2 ⟨rfl, hws2, hown2, hfr2⟩
  have HP : Hid (FinishPost B p o out r len w (.returned o') w2) := ⟨o', out', rfl, HB.out, hws2, hown2, HO.out, HF.out.trans hfr2 (fun k _ h => .inl h)⟩
  clear hws2 hown2 hfr2
  go_wp2_with fail
  go_ret
  exact HP.out

end Go.Proofs.Ytdlnnokimhemfaa
