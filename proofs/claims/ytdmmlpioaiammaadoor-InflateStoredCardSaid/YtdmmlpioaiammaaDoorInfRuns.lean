/-
  inflate: the states that stored blocks, and the awake bytes, lead through.
-/
import Derived.Test.YtdmmlpioaiammaaDoorInfNew
namespace Go.Proofs.YtdmmlpioaiammaaDoor
open Go.RowKit

theorem bits8_inj {x y : UInt8} (h : Bit.bitsN 8 x.toNat = Bit.bitsN 8 y.toNat) : x = y := by
  have := congrArg Bit.num h
  rw [num_byte, num_byte] at this
  exact UInt8.toNat_inj.1 this
theorem ofBytes_inj : ∀ {a b : List UInt8}, Bit.ofBytes a = Bit.ofBytes b → a = b := by
  intro a
  induction a with
  | nil =>
    intro b h
    have := congrArg List.length h
    rw [Bit.length_ofBytes', Bit.length_ofBytes'] at this
    exact (List.length_eq_zero_iff.1 (by simp at this; omega)).symm
  | cons x a ih =>
    intro b h
    cases b with
    | nil =>
      have := congrArg List.length h
      rw [Bit.length_ofBytes', Bit.length_ofBytes'] at this
      simp at this
    | cons y b =>
      rw [show Bit.ofBytes (x :: a) = Bit.bitsN 8 x.toNat ++ Bit.ofBytes a by simp [Bit.ofBytes], show Bit.ofBytes (y :: b) = Bit.bitsN 8 y.toNat ++ Bit.ofBytes b by simp [Bit.ofBytes]] at h
      obtain ⟨h1, h2⟩ := List.append_inj h (by rw [length_bitsN', length_bitsN'])
      rw [bits8_inj h1, ih h2]
/-- an empty reader, fed -/
theorem feed_empty {B p : Nat} {b : List UInt8} {w w' : World} {e : Ending} (h : FeedPost B p (.slice none 0 0) [] 0 0 b w e w') :
    ∃ o, e = .returned (.tuple #[]) ∧ RdS w' B p o b 0 0 ∧ (∀ g, o.ownBlock = some g → w.heap.size ≤ g) ∧ Fr (fun x => x = p) w w' := by
  obtain ⟨o, buf, pos, gone, h1, h2, h3, h4, h5, h6, h7⟩ := h
  have e1 : pos = 0 := by omega
  have e2 : gone = 0 := by omega
  subst e1 e2
  have e3 : buf = b := ofBytes_inj (by simpa [left, Bit.ofBytes] using h2)
  subst e3
  refine ⟨o, h1, h4, ?_, h7.mono (fun k _ h => ?_)⟩
  · intro g hg
    rcases h6 with h | h
    · rw [hg] at h; exact absurd h (by simp [Value.ownBlock])
    · exact h g hg
  · rcases h with h | h
    · exact h
    · exact absurd h (by simp [Value.ownBlock])
end Go.Proofs.YtdmmlpioaiammaaDoor
