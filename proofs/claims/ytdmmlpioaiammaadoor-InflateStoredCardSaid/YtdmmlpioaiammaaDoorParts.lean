/-
  A slice of slices of bytes, opened to a list.
-/
import Derived.Test.YtdmmlpioaiammaaDoorProg
import Derived.Test.YtdmmlpioaiammaaDoorElems
namespace Go.Proofs.YtdmmlpioaiammaaDoor
open Go.RowKit Go.ChangeShapes Go.WideShapes Go.ChangeAt

structure PartV where
  a : Option Addr
  data : List UInt8
  cap : Nat
def PartV.cells (o : PartV) : List Value := [.slice o.a o.data.length o.cap]
structure PartV.ok (W : World) (o : PartV) : Prop where
  le : o.data.length ≤ o.cap
  most : o.cap ≤ maxLen
  sl : Sl W W.heap.size o.a (bytesV o.data)
theorem open_parts {H : Type} {enc : TypeId × Value → H} {W : World} {a : Option Addr} {len cap : Nat} {d : DataW H} {p : List MemPlace}
    (h : DataW.Trod enc Tryd.prog W 0 (fun _ => true) true 22 (.slice a len cap) d p) :
    ∃ l : List PartV, len = l.length ∧ Sl W W.heap.size a (l.flatMap PartV.cells) ∧ (∀ o ∈ l, o.ok W) ∧ len ≤ cap ∧ cap ≤ maxLen := by
  obtain ⟨l, h1, h2, h3, _, h5⟩ := open_elems (g := PartV.cells) (ok := PartV.ok W) (k := 1) Tryd.underlying22 (by kernel_rfl) (by omega) (fun fuel cs x hcl ht => by
    match cs, hcl with
    | [v], _ =>
      obtain ⟨aa, l, cc, rfl, hs, hl, hm⟩ := open_bytes1 Tryd.underlying25 Tryd.underlying5 (by kernel_rfl) ht
      exact ⟨⟨aa, l, cc⟩, rfl, hl, hm, hs⟩) h
  exact ⟨l, h1, h2, h3, h5⟩
theorem parts_at {W : World} {B : Nat} {a : Option Addr} {l : List PartV} (h : Sl W B a (l.flatMap PartV.cells)) {i : Nat} {o : PartV} (hi : l[i]? = some o) :
    ∃ b off, a = some ⟨b, off, none⟩ ∧ b < B ∧ W.cell? ⟨b, off + i, none⟩ = some (.slice o.a o.data.length o.cap) := by
  have hlen : ∀ o ∈ l, (PartV.cells o).length = 1 := fun _ _ => rfl
  rcases h with h | ⟨b, off, ha, hb, hc⟩
  · have := flat_length hlen
    rw [h] at this
    have hl : l = [] := List.eq_nil_of_length_eq_zero (by simp at this; omega)
    rw [hl] at hi
    simp at hi
  · refine ⟨b, off, ha, hb, ?_⟩
    have := hc _ _ ((flat_at hlen hi (show 0 < 1 by omega)).trans (show (PartV.cells o)[0]? = some _ from rfl))
    rw [show off + i = off + (1 * i + 0) by omega]; exact this
def joined (l : List PartV) : List UInt8 := l.flatMap PartV.data
theorem joined_take {l : List PartV} {k : Nat} {o : PartV} (h : l[k]? = some o) : joined (l.take (k + 1)) = joined (l.take k) ++ o.data := by
  unfold joined
  rw [List.take_add_one, h]
  simp
end Go.Proofs.YtdmmlpioaiammaaDoor
