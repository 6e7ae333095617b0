/-
  decode: Next where bits begin with a code; the page's example of layer 9.
-/
import Derived.Test.YtdmmlpioaiammaaDoorDecNext
import Derived.Test.YtdmmlpioaiammaaDoorFeed
namespace Go.Proofs.YtdmmlpioaiammaaDoor
open Go.RowKit

theorem NextIs.of_hit {l : List Int} {L : List Bool} {M d s n : Nat} {v : Value} (h : NextIs l L M v d) (hh : Hit l L s n) (hsum : psum l 15 ≤ 32768) (hM : mxOf l = (M : Int)) : v = .tuple #[.int .i64 (s : Int), .int .i64 0] ∧ d = n := by
  rcases h with ⟨s', n', h1, h2, h3⟩ | ⟨h1, h2, _⟩ | ⟨h1, h2, _⟩
  · obtain ⟨e1, e2⟩ := Hit.unique hsum hh h1
    subst e1 e2
    exact ⟨h2, h3⟩
  · have a := h2 n hh.2.2.1 hh.2.2.2.2.1
    have b := hh.here hsum
    omega
  · have a := h2 n hh.2.2.1 (hh.le_mx M hM)
    have b := hh.here hsum
    omega
def HitPost (s n B p : Nat) (o : Value) (buf : List UInt8) (pos gone : Nat) (w : World) (e : Ending) (w' : World) : Prop :=
  e = .returned (.tuple #[.int .i64 (s : Int), .int .i64 0]) ∧ RdS w' B p o buf (pos + n) gone ∧ Fr (fun x => x = p) w w'
theorem mx_nat (l : List Int) : ∃ M : Nat, mxOf l = (M : Int) := Int.eq_ofNat_of_zero_le (mx_nn l)
theorem next_hit (l : List Int) (s n BT Q pt B p : Nat) (o : Value) (buf : List UInt8) (pos gone : Nat) (w : World) (hT : TabS w BT Q pt l) (hR : RdS w B p o buf pos gone) (hb : buf.length ≤ 1000000000) (hQ : Q ≤ p ∨ p < BT)
    (hk : kindOf l ≤ 3) (hl : l.length ≤ 1000000) (hh : Hit l (left buf pos) s n) :
    Calls Tryd.prog 40 #[.pointer (some ⟨pt, 0, none⟩), .pointer (some ⟨p, 0, none⟩)] w (HitPost s n B p o buf pos gone w) := by
  obtain ⟨M, hM⟩ := mx_nat l
  refine (next_any l M BT Q pt B p o buf pos gone w hT hR hb hQ hk hl hM).mono ?_
  rintro e w' ⟨v, d, h1, h2, h3, h4⟩
  obtain ⟨e1, e2⟩ := h1.of_hit hh (kind_le3 hk).2 hM
  subst e1 e2
  exact ⟨h2, h3, h4⟩
theorem left_drop (buf : List UInt8) (pos n : Nat) : left buf (pos + n) = (left buf pos).drop n := by unfold left; rw [List.drop_drop]

end Go.Proofs.YtdmmlpioaiammaaDoor
