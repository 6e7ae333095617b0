/-
  Two readers, of which the second one is fed piece by piece: what holds of both, and how each call keeps it.
-/
import Derived.Test.YtpfihombncnmhaaFeed
import Derived.Test.YtpfihombncnmhaaRest
import Derived.Test.YtpfihombncnmhaaStr
namespace Go.Proofs.Ytpfihombncnmhaa
open Go.RowKit

theorem left_drop (buf : List UInt8) (pos n : Nat) : left buf (pos + n) = (left buf pos).drop n := by
  unfold left; rw [List.drop_drop]
theorem ofBytes_inj : ∀ (a b : List UInt8), Bit.ofBytes a = Bit.ofBytes b → a = b
  | [], b, h => by
    have := congrArg List.length h
    rw [Bit.length_ofBytes', Bit.length_ofBytes'] at this
    simp at this
    exact (List.eq_nil_of_length_eq_zero (by omega)).symm
  | c :: a, b, h => by
    have hl := congrArg List.length h
    rw [Bit.length_ofBytes', Bit.length_ofBytes'] at hl
    match b, hl with
    | [], hl => simp at hl
    | d :: b, hl =>
      have h1 : Bit.bitsN 8 c.toNat ++ Bit.ofBytes a = Bit.bitsN 8 d.toNat ++ Bit.ofBytes b := h
      have h2 := List.append_inj h1 (by rw [Bit.length_bitsN, Bit.length_bitsN])
      have h3 := congrArg Bit.num h2.1
      rw [Bit.num_bitsN, Bit.num_bitsN] at h3
      have hc := c.toNat_lt
      have hd := d.toNat_lt
      rw [ofBytes_inj a b h2.2, show c = d from UInt8.toNat_inj.1 (by omega)]
theorem rest_bits (buf : List UInt8) (pos : Nat) : Bit.ofBytes (restBytes buf pos) = (left buf pos).drop ((8 - pos % 8) % 8) := by
  unfold restBytes left
  rw [Bit.ofBytes_drop, List.drop_drop]
  congr 1
  omega
theorem rest_same {b1 b2 : List UInt8} {q1 g1 q2 g2 : Nat} (h : left b1 q1 = left b2 q2) (ha : 8 * g1 + q1 = 8 * g2 + q2) : restBytes b1 q1 = restBytes b2 q2 := by
  apply ofBytes_inj
  rw [rest_bits, rest_bits, h, show q1 % 8 = q2 % 8 by omega]

structure Two (w wr : World) (B p1 p2 : Nat) (o1 : Value) (b1 : List UInt8) (q1 g1 : Nat) (o2 : Value) (b2 : List UInt8) (q2 g2 : Nat) (rest : List UInt8) : Prop where
  r1 : RdS wr B p1 o1 b1 q1 g1
  r2 : RdS wr B p2 o2 b2 q2 g2
  bits : left b1 q1 = left b2 q2 ++ Bit.ofBytes rest
  same : 8 * g1 + q1 = 8 * g2 + q2
  pp : p1 ≠ p2
  d12 : o1.ownBlock ≠ some p2
  d21 : o2.ownBlock ≠ some p1
  doo : ∀ g, o1.ownBlock = some g → o2.ownBlock ≠ some g
  bel : Below B w wr
  bp1 : B ≤ p1
  bp2 : B ≤ p2
  bw : B ≤ w.heap.size
  few : b1.length ≤ 200
  tot : g1 = 0

section
variable {w wr : World} {B p1 p2 : Nat} {o1 : Value} {b1 : List UInt8} {q1 g1 : Nat} {o2 : Value} {b2 : List UInt8} {q2 g2 : Nat} {rest : List UInt8}
theorem Two.drewN (h : Two w wr B p1 p2 o1 b1 q1 g1 o2 b2 q2 g2 rest) (n : Nat) : Two w (wr.drewN n) B p1 p2 o1 b1 q1 g1 o2 b2 q2 g2 rest :=
  ⟨h.r1.drewN n, h.r2.drewN n, h.bits, h.same, h.pp, h.d12, h.d21, h.doo, below_drewN h.bel n, h.bp1, h.bp2, h.bw, h.few, h.tot⟩
theorem Two.feed (h : Two w wr B p1 p2 o1 b1 q1 g1 o2 b2 q2 g2 rest) {x rest' : List UInt8} (hx : rest = x ++ rest') {e : Ending} {w' : World} (hf : FeedPost B p2 o2 b2 q2 g2 x wr e w') :
    e = .returned (.tuple #[]) ∧ Below wr.heap.size wr wr ∧ ∃ o2' b2' q2' g2', Two w w' B p1 p2 o1 b1 q1 g1 o2' b2' q2' g2' rest' ∧ b2'.length ≤ b2.length + x.length ∧ left b2' q2' = left b2 q2 ++ Bit.ofBytes x ∧ Below B wr w' := by
  obtain ⟨o', b', q', g', he, hl, ha, hr, hlen, ho, hfr⟩ := hf
  have hp1 : ¬ (p1 = p2 ∨ some p1 = o2.ownBlock) := fun hh => by
    rcases hh with hh | hh
    · exact h.pp hh
    · exact h.d21 hh.symm
  have ho1 : ∀ g, o1.ownBlock = some g → ¬ (g = p2 ∨ some g = o2.ownBlock) := fun g hg hh => by
    rcases hh with hh | hh
    · exact h.d12 (by rw [hg, hh])
    · exact h.doo g hg hh.symm
  have hbel : Below B wr w' := hfr.below (Nat.le_trans h.bw h.bel.size) fun k hk hh => by
    rcases hh with hh | hh
    · have := h.bp2; omega
    · have := h.r2.own.lt k hh.symm; omega
  refine ⟨he, Below.refl _ _, o', b', q', g', ⟨h.r1.fr hfr hp1 ho1, hr, ?_, ?_, h.pp, h.d12, ?_, ?_, h.bel.trans hbel, h.bp1, h.bp2, h.bw, h.few, h.tot⟩, hlen, hl, hbel⟩
  · rw [h.bits, hl, hx, Bit.ofBytes_append', List.append_assoc]
  · rw [h.same, ha]
  · rcases ho with ho | ho
    · rw [ho]; exact h.d21
    · intro hh; have := ho p1 hh; have := h.r1.cells.lt; omega
  · intro g hg hh
    rcases ho with ho | ho
    · exact h.doo g hg (by rw [← ho]; exact hh)
    · have := ho g hh; have := (h.r1.own.lt g hg).2; omega
theorem Two.mid (h : Two w wr B p1 p2 o1 b1 q1 g1 o2 b2 q2 g2 rest) {n : Nat} {e : Ending} {w' : World} (hf : BitsYes B p1 o1 b1 q1 g1 n wr e w') : RdS w' B p2 o2 b2 q2 g2 ∧ Below B wr w' := by
  obtain ⟨_, _, hfr⟩ := hf
  refine ⟨h.r2.fr hfr (fun hh => h.pp hh.symm) (fun g hg hh => h.d21 (by rw [hg, hh])), hfr.below (Nat.le_trans h.bw h.bel.size) fun k hk hh => ?_⟩
  have := h.bp1
  omega
theorem Two.both (h : Two w wr B p1 p2 o1 b1 q1 g1 o2 b2 q2 g2 rest) {n : Nat} {e e' : Ending} {w' w'' : World} (hf : BitsYes B p1 o1 b1 q1 g1 n wr e w') (hf2 : BitsYes B p2 o2 b2 q2 g2 n w' e' w'') (hn : n ≤ (left b2 q2).length) :
    Two w w'' B p1 p2 o1 b1 (q1 + n) g1 o2 b2 (q2 + n) g2 rest := by
  obtain ⟨_, hbel1⟩ := h.mid hf
  obtain ⟨_, hr1, hfr1⟩ := hf
  obtain ⟨_, hr2, hfr2⟩ := hf2
  have hbel2 : Below B w' w'' := hfr2.below (Nat.le_trans (Nat.le_trans h.bw h.bel.size) hfr1.size) fun k hk hh => by have := h.bp2; omega
  refine ⟨hr1.fr hfr2 (fun hh => h.pp hh) (fun g hg hh => h.d12 (by rw [hg, hh])), hr2, ?_, by have := h.same; omega, h.pp, h.d12, h.d21, h.doo, (h.bel.trans hbel1).trans hbel2, h.bp1, h.bp2, h.bw, h.few, h.tot⟩
  rw [left_drop, left_drop, h.bits, List.drop_append_of_le_length hn]
theorem Two.drew (h : Two w wr B p1 p2 o1 b1 q1 g1 o2 b2 q2 g2 rest) : Two w wr.drew B p1 p2 o1 b1 q1 g1 o2 b2 q2 g2 rest := h.drewN 1
theorem Two.grow (h : Two w wr B p1 p2 o1 b1 q1 g1 o2 b2 q2 g2 rest) {w' : World} (hb : Below wr.heap.size wr w') : Two w w' B p1 p2 o1 b1 q1 g1 o2 b2 q2 g2 rest :=
  ⟨h.r1.fr (Fr.of_below hb (fun _ => False)) id (fun _ _ => id), h.r2.fr (Fr.of_below hb (fun _ => False)) id (fun _ _ => id), h.bits, h.same, h.pp, h.d12, h.d21, h.doo, h.bel.trans (hb.mono (Nat.le_trans h.bw h.bel.size)), h.bp1, h.bp2, h.bw, h.few, h.tot⟩
theorem Two.gone (h : Two w wr B p1 p2 o1 b1 q1 g1 o2 b2 q2 g2 rest) : g2 ≤ 1600 := by
  have h1 := h.r1.le
  have h2 := h.few
  have h3 := h.tot
  have h4 := h.same
  omega
theorem Two.len (h : Two w wr B p1 p2 o1 b1 q1 g1 o2 b2 q2 g2 rest) : (left b1 q1).length = (left b2 q2).length + 8 * rest.length := by
  rw [h.bits, List.length_append, Bit.length_ofBytes']
theorem Two.num (h : Two w wr B p1 p2 o1 b1 q1 g1 o2 b2 q2 g2 rest) {n : Nat} (hn : n ≤ (left b2 q2).length) : Bit.num ((left b1 q1).take n) = Bit.num ((left b2 q2).take n) := by
  rw [h.bits, List.take_append_of_le_length hn]
end
end Go.Proofs.Ytpfihombncnmhaa
