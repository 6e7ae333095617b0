/-
  bitout.Writer: Bytes, Clone.
-/
import Derived.Test.YtpfihombncnmhaaBitout2
import Derived.Test.YtpfihombncnmhaaBitin
import Derived.Test.YtpfihombncnmhaaClone
namespace Go.Proofs.Ytpfihombncnmhaa
open Go.RowKit

def BytesPost (B p : Nat) (o : Value) (out : List UInt8) (r : List Bool) (len : Nat) (b : List UInt8) (w : World) (e : Ending) (w' : World) : Prop :=
  ∃ o' out', e = .returned (.tuple #[]) ∧ Bit.ofBytes out' = Bit.ofBytes out ++ (r ++ Bit.bitsN ((8 - r.length) % 8) 0) ++ Bit.ofBytes b ∧ WrS w' B p o' out' [] (len + (8 - r.length) % 8 + 8 * b.length) ∧
    (o'.ownBlock = o.ownBlock ∨ ∀ g, o'.ownBlock = some g → w.heap.size ≤ g) ∧ Fr (fun x => x = p ∨ some x = o.ownBlock) w w'

theorem bytes_key (B p : Nat) (A : Option Addr) (cap : Nat) (out : List UInt8) (len : Nat) (b : List UInt8) (w : World) (h : WrS w B p (.slice A out.length cap) out [] len) :
    ∀ (v' : Value) (w1 : World), w1.ownsRow B 5 1 v' (out.length + b.length) (bytesV out ++ bytesV b) → w.grownBy w1 (Value.slice A out.length cap).ownBlock → (v'.ownBlock = (Value.slice A out.length cap).ownBlock ∨ v'.ownBlock = some w.heap.size) →
      Whole w1 p 50 #[Value.slice A out.length cap, .int .u64 0, .int .i64 0, .int .i64 (len : Int)] ∧ Whole (w1.setCell ⟨p, 0, none⟩ v') p 50 #[v', .int .u64 0, .int .i64 0, .int .i64 (len : Int)] ∧
      WrS ((w1.setCell ⟨p, 0, none⟩ v').setCell ⟨p, 3, none⟩ (.int .i64 ((len + 8 * b.length : Nat) : Int))) B p v' (out ++ b) [] (len + 8 * b.length) ∧
      Fr (fun x => x = p ∨ some x = (Value.slice A out.length cap).ownBlock) w ((w1.setCell ⟨p, 0, none⟩ v').setCell ⟨p, 3, none⟩ (.int .i64 ((len + 8 * b.length : Nat) : Int))) := by
  intro v' w1 ho hg hat
  have hplt := h.cells.lt
  have hW := h.cells.grown hg h.apart
  have hvp : v'.ownBlock ≠ some p := by
    rcases hat with h1 | h1
    · rw [h1]; exact h.apart
    · rw [h1]; intro e; injection e with e; omega
  have hW0 : Whole w1 p 50 #[Value.slice A out.length cap, .int .u64 0, .int .i64 0, .int .i64 (len : Int)] := hW
  have hW1 : Whole (w1.setCell ⟨p, 0, none⟩ v') p 50 #[v', .int .u64 0, .int .i64 0, .int .i64 (len : Int)] := by
    have h := hW0.set_ 0 v'
    simpa using h
  refine ⟨hW0, hW1, ⟨?_, ?_, hvp⟩, ?_⟩
  · have h := hW1.set_ 3 (.int .i64 ((len + 8 * b.length : Nat) : Int))
    simpa [Bit.num] using h
  · rw [List.length_append, bytes_append]
    refine own_keep (own_keep ho fun g hg' => Below.heap_setCell w1 _ _ g (fun e => hvp (by rw [hg', e]))) fun g hg' => Below.heap_setCell _ _ _ g (fun e => hvp (by rw [hg', e]))
  · exact (((Fr.refl _ w).grown hg fun k _ hk => .inr hk.symm).setCell (.inl (.inl rfl)) _).setCell (.inl (.inl rfl)) _

set_option maxHeartbeats 800000 in
theorem bytes_any (B p : Nat) (o : Value) (out : List UInt8) (r : List Bool) (len : Nat) (b : List UInt8) (a : Option Addr) (c C : Nat) (w : World) (hw : WrS w B p o out r len) (hr : r.length < 8) (hB : B ≤ w.heap.size) (hlen : len ≤ 1000000000) (hout : out.length ≤ 1000000000) (hb : b.length ≤ 1000000000) (hsl : Sl w C a (bytesV b)) (hC : C ≤ B) (hBp : B ≤ p) :
    Calls Try.prog 15 #[.pointer (some ⟨p, 0, none⟩), .slice a b.length c] w (BytesPost B p o out r len b w) := by
  have HW := Lib.hid hw
  have HS := Lib.hid hsl
  clear hw hsl
  obtain ⟨i0, hi0, hz0, hz1, hz2⟩ := info_parts byteInfoR
  have Hi0 := Lib.hid hi0
  have Hz0 := Lib.hid hz0
  have Hz1 := Lib.hid hz1
  have Hz2 := Lib.hid hz2
  clear hi0 hz0 hz1 hz2
  go_enter Try.func15, Try.ntmps15
  go_wp2_with fail
  refine (align_any B p o out r len w HW.out hr hB (by omega) (by omega)).mono ?_
  rintro e w1 ⟨o1, out1, rfl, hbits, hw1, ho1, hfr1⟩
  obtain ⟨A, cap, rfl⟩ := own_form hw1.own
  have hout1 : out1.length ≤ 1000000001 := by
    have h := congrArg List.length hbits
    simp only [List.length_append, Bit.length_ofBytes', Bit.length_bitsN] at h
    omega
  have HS1 := Lib.hid (HS.out.below (hfr1.below (B := C) (by omega) fun x hx hh => by
    rcases hh with hh | hh
    · omega
    · have := (HW.out.own.lt x hh.symm).1; omega) (Nat.le_refl _))
  have hs1 := hfr1.size
  have KEY := Lib.hid (bytes_key B p A cap out1 (len + (8 - r.length) % 8) b w1 hw1)
  have HW1 := Lib.hid hw1
  have HBI := Lib.hid hbits
  have HO1 := Lib.hid ho1
  have HF1 := Lib.hid hfr1
  have c0 := hw1.cells.cell 0
  simp at c0
  clear hw1 hbits ho1 hfr1
  obtain ⟨len1, hlen1⟩ : ∃ len1, len1 = len + (8 - r.length) % 8 := ⟨_, rfl⟩
  have HLE := Lib.hid hlen1
  rw [← hlen1] at KEY HW1
  have hlb : len1 ≤ 1000000008 := by omega
  clear hlen1
  have e1 : IntKind.i64.wrap (8 * (b.length : Int)) = 8 * (b.length : Int) := IntWalk.i64_in _ (by omega)
  have e2 : IntKind.i64.wrap ((len1 : Int) + 8 * (b.length : Int)) = ((len1 + 8 * b.length : Nat) : Int) := by rw [IntWalk.i64_in _ (by omega)]; omega
  go_wp2_with (at_builtin; refine wpList_append_sl _ rfl _ _ _ rfl B 5 i0 _ 1 Try.underlying32 Hi0.out Hz0.out Hz1.out Hz2.out rfl _ out1.length (bytesV out1) rfl HW1.out.own C a b.length c (bytesV b) (len_bytesV b) rfl HS1.out (bytes_oneCell b) (by unfold maxLen; omega) (by omega) (by omega) ?_; intro v1 w2 hown1 hgrow1 hat1; obtain ⟨A1, c1', rfl⟩ := own_form hown1; obtain ⟨hWW, hWX, hPP, hFF⟩ := KEY.out _ w2 hown1 hgrow1 hat1; have HPP := Lib.hid hPP; have HFF := Lib.hid hFF; have HAT := Lib.hid hat1; have x0 := hWW.frozen 0; have y0 := hWW.cell 0; have x3 := hWX.frozen 3; have y3 := hWX.cell 3; simp at y0 y3; clear hWW hWX hPP hFF hown1 hgrow1 hat1)
  go_end0
  refine ⟨_, out1 ++ b, rfl, by rw [Bit.ofBytes_append', HBI.out], by rw [← HLE.out]; exact HPP.out, ?_, HF1.out.trans HFF.out fun k hk hh => ?_⟩
  · rcases HAT.out with h1 | h1
    · rcases HO1.out with h2 | h2
      · exact .inl (h1.trans h2)
      · exact .inr fun g hg => h2 g (Eq.trans (Eq.symm h1) hg)
    · refine .inr fun g hg => ?_
      rw [h1] at hg
      injection hg with hg
      omega
  · rcases hh with hh | hh
    · exact .inl hh
    · rcases HO1.out with h2 | h2
      · exact .inr (hh.trans h2)
      · have := h2 k hh.symm
        omega

def ClonePost (B : Nat) (out : List UInt8) (r : List Bool) (len : Nat) (w : World) (e : Ending) (w' : World) : Prop :=
  ∃ p' o', e = .returned (.pointer (some ⟨p', 0, none⟩)) ∧ WrS w' B p' o' out r len ∧ w.heap.size ≤ p' ∧ (∀ g, o'.ownBlock = some g → w.heap.size ≤ g) ∧ Below w.heap.size w w'

set_option maxHeartbeats 800000 in
theorem wrClone_any (B p : Nat) (o : Value) (out : List UInt8) (r : List Bool) (len : Nat) (w : World) (hw : WrS w B p o out r len) (hB : B ≤ w.heap.size) (hout : out.length ≤ 1000000000) :
    Calls Try.prog 19 #[.pointer (some ⟨p, 0, none⟩)] w (ClonePost B out r len w) := by
  have HW := Lib.hid hw
  have hplt := hw.cells.lt
  have c0 := hw.cells.cell 0
  have c1 := hw.cells.cell 1
  have c2 := hw.cells.cell 2
  have c3 := hw.cells.cell 3
  simp at c0 c1 c2 c3
  obtain ⟨A, cap, rfl⟩ := own_form hw.own
  have CL := fun W (hb : Below w.heap.size w W) => Lib.hid (clone_any out A cap w.heap.size W (by omega) ((Sl.of_own hw.own).below hb (Nat.le_refl _)) hb.size)
  clear hw
  generalize hpt : (Bit.num r : Nat) = pt at c1
  have HPT := Lib.hid hpt
  clear hpt
  have BR := Lib.hid (show Below w.heap.size w w.drew from below_drewN (Below.refl w.heap.size w) 1)
  go_enter Try.func19, Try.ntmps19
  go_wp2_with fail
  go_region_held3 (fun w' => w'.cell? ⟨p, 0, none⟩ = some (.slice A out.length cap) ∧ w'.cell? ⟨p, 1, none⟩ = some (.int .u64 (pt : Int)) ∧ w'.cell? ⟨p, 2, none⟩ = some (.int .i64 (r.length : Int)) ∧ w'.cell? ⟨p, 3, none⟩ = some (.int .i64 (len : Int))) (first | go_keep | (refine ⟨?_, ?_, ?_, ?_⟩ <;> ((rw [World.cell?_of_block (w := w) (HBB.out.block p hplt)]); assumption))) ((go_at_call 31; (with_reducible refine (CL _ BR.out).out.mono ?_); rintro e w2 ⟨A1, c1', rfl, hown1, hb2⟩; rw [len_bytesV]; have HBB := Lib.hid (BR.out.trans (hb2.mono (Nat.le_refl _)))))
  have HO := Lib.hid (show w2.ownsRow w.heap.size 5 1 (.slice A1 out.length c1') out.length (bytesV out) by have h := hown1; rw [len_bytesV] at h; exact h)
  clear hown1 hb2
  go_wp2
  go_ret
  have hap : ∀ g, (Value.slice A1 out.length c1').ownBlock = some g → w.heap.size ≤ g ∧ g < w2.heap.size := fun g hg => HO.out.lt g hg
  refine ⟨w2.heap.size, .slice A1 out.length c1', rfl, ⟨?_, own_base (own_alloc_of HO.out _) hB, fun hh => by have := (hap _ hh).2; omega⟩, HBB.out.size, fun g hg => (hap g hg).1, HBB.out.alloc HBB.out.size _⟩
  rw [HPT.out]
  exact Whole.new _ _ _
end Go.Proofs.Ytpfihombncnmhaa
