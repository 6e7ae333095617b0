/-
  The []Op of layer 6's laws: opened to a list; the bits that are put.
-/
import Derived.Test.YtpfihombncnmhaaElems
import Derived.Test.YtpfihombncnmhaaBitMath
import Derived.Test.YtpfihombncnmhaaBitout
namespace Go.Proofs.Ytpfihombncnmhaa
open Go.RowKit Go.ChangeShapes Go.WideShapes Go.ChangeAt

structure OpV where
  kind : Int
  n : Int
  v : Nat
  a : Option Addr
  data : List UInt8
  cap : Nat
def OpV.cells (o : OpV) : List Value := [.int .i64 o.kind, .int .i64 o.n, .int .u32 (o.v : Int), .slice o.a o.data.length o.cap]
structure OpV.ok (W : World) (o : OpV) : Prop where
  k1 : -9223372036854775808 ≤ o.kind
  k2 : o.kind ≤ 9223372036854775807
  n1 : -9223372036854775808 ≤ o.n
  n2 : o.n ≤ 9223372036854775807
  v1 : o.v < 4294967296
  le : o.data.length ≤ o.cap
  most : o.cap ≤ maxLen
  sl : Sl W W.heap.size o.a (bytesV o.data)

theorem four {α : Type} {cs : List α} {a b c d : α} (h : cs.length = 4) (h0 : cs[0]? = some a) (h1 : cs[1]? = some b) (h2 : cs[2]? = some c) (h3 : cs[3]? = some d) : cs = [a, b, c, d] := by
  match cs, h with
  | [x, y, z, t], _ => simp at h0 h1 h2 h3; rw [h0, h1, h2, h3]

theorem open_ops {H : Type} {enc : TypeId × Value → H} {W : World} {a : Option Addr} {len cap : Nat} {d : DataW H} {p : List MemPlace}
    (h : DataW.Trod enc Try.prog W 0 (fun _ => true) true 28 (.slice a len cap) d p) :
    ∃ l : List OpV, len = l.length ∧ Sl W W.heap.size a (l.flatMap OpV.cells) ∧ (∀ o ∈ l, o.ok W) ∧ len ≤ cap ∧ cap ≤ maxLen := by
  obtain ⟨l, h1, h2, h3, _, h5⟩ := open_elems (g := OpV.cells) (ok := OpV.ok W) (k := 4) Try.underlying28 (by kernel_rfl) (by omega) (fun fuel cs x hcl ht => by
    have hf := open_fields Try.underlying34 (by kernel_rfl) hcl ht
    obtain ⟨v0, n0, y0, c0, t0⟩ := hf 0 _ rfl
    obtain ⟨v1, n1, y1, c1, t1⟩ := hf 1 _ rfl
    obtain ⟨v2, n2, y2, c2, t2⟩ := hf 2 _ rfl
    obtain ⟨v3, n3, y3, c3, t3⟩ := hf 3 _ rfl
    obtain ⟨z0, e0, _, w0⟩ := DataW.trod_int Try.underlying3 t0
    obtain ⟨z1, e1, _, w1⟩ := DataW.trod_int Try.underlying3 t1
    obtain ⟨z2, e2, _, w2⟩ := DataW.trod_int Try.underlying22 t2
    obtain ⟨aa, l, cc, rfl, hs, hl, hm⟩ := open_bytes1 Try.underlying32 Try.underlying5 (by kernel_rfl) t3
    simp at e0 e1 e2
    subst e0 e1 e2
    have b0 := bounds_i64 w0
    have b1 := bounds_i64 w1
    have b2 := bounds_u32 w2
    obtain ⟨m2, rfl⟩ := Int.eq_ofNat_of_zero_le b2.1
    refine ⟨⟨z0, z1, m2, aa, l, cc⟩, ?_, b0.1, b0.2, b1.1, b1.2, by simp; omega, hl, hm, hs⟩
    exact (four hcl c0 c1 c2 c3).symm) h
  exact ⟨l, h1, h2, h3, h5⟩
theorem ops_at {W : World} {B : Nat} {a : Option Addr} {l : List OpV} (h : Sl W B a (l.flatMap OpV.cells)) {i : Nat} {o : OpV} (hi : l[i]? = some o) :
    ∃ b off, a = some ⟨b, off, none⟩ ∧ b < B ∧ W.cell? ⟨b, off + i * 4, none⟩ = some (.int .i64 o.kind) ∧ W.cell? ⟨b, off + i * 4 + 1, none⟩ = some (.int .i64 o.n) ∧
      W.cell? ⟨b, off + i * 4 + 2, none⟩ = some (.int .u32 (o.v : Int)) ∧ W.cell? ⟨b, off + i * 4 + 3, none⟩ = some (.slice o.a o.data.length o.cap) := by
  have hlen : ∀ o ∈ l, (OpV.cells o).length = 4 := fun _ _ => rfl
  rcases h with h | ⟨b, off, ha, hb, hc⟩
  · have := flat_length hlen
    rw [h] at this
    have hl : l = [] := List.eq_nil_of_length_eq_zero (by simp at this; omega)
    rw [hl] at hi
    simp at hi
  · have hq : ∀ (j : Nat) (u : Value), j < 4 → o.cells[j]? = some u → W.cell? ⟨b, off + i * 4 + j, none⟩ = some u := fun j u hj hu => by
      have := hc _ _ ((flat_at hlen hi hj).trans hu)
      rw [show off + i * 4 + j = off + (4 * i + j) by omega]; exact this
    exact ⟨b, off, ha, hb, hq 0 _ (by omega) rfl, hq 1 _ (by omega) rfl, hq 2 _ (by omega) rfl, hq 3 _ (by omega) rfl⟩

/-- what Put puts -/
def OpV.bits (o : OpV) : List Bool := if 0 ≤ o.n ∧ o.n ≤ 32 then Bit.bitsN o.n.toNat o.v else []
def opsBits (l : List OpV) : List Bool := l.flatMap OpV.bits
theorem OpV.bits_len (o : OpV) : o.bits.length ≤ 32 := by
  unfold OpV.bits
  split
  · rw [Bit.length_bitsN]; omega
  · simp
theorem opsBits_len : ∀ (l : List OpV), (opsBits l).length ≤ 32 * l.length
  | [] => by simp [opsBits]
  | o :: l => by
    have := opsBits_len l
    have h := o.bits_len
    unfold opsBits at this ⊢
    rw [List.flatMap_cons, List.length_append, List.length_cons]
    omega
theorem opsBits_take {l : List OpV} {k : Nat} {o : OpV} (h : l[k]? = some o) : opsBits (l.take (k + 1)) = opsBits (l.take k) ++ o.bits := by
  unfold opsBits
  rw [List.take_add_one, h]
  simp
theorem opsBits_drop {l : List OpV} {k : Nat} {o : OpV} (h : l[k]? = some o) : opsBits (l.drop k) = o.bits ++ opsBits (l.drop (k + 1)) := by
  have hk : k < l.length := (List.getElem?_eq_some_iff.1 h).1
  unfold opsBits
  rw [List.drop_eq_getElem_cons hk, List.flatMap_cons]
  have : l[k] = o := by simpa [List.getElem?_eq_getElem hk] using h
  rw [this]
end Go.Proofs.Ytpfihombncnmhaa
