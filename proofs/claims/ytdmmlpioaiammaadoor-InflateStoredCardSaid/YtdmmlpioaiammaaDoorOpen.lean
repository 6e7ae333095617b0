/-
  From a reading of an argument to the words of XMem: slices of bytes and of ints. No program in sight.
-/
import Derived.Test.YtdmmlpioaiammaaDoorMem
import Derived.ProofKit
import Derived.OpenShut
import Derived.ChangeOld
import Derived.Below
namespace Go.Proofs.YtdmmlpioaiammaaDoor
open Go.RowKit Go.ChangeShapes Go.WideShapes Go.ChangeAt

theorem cell_lt {w : World} {b o : Nat} {s : Option Nat} {v : Value} (h : w.cell? ⟨b, o, s⟩ = some v) : b < w.heap.size := by
  rcases Nat.lt_or_ge b w.heap.size with hlt | hge
  · exact hlt
  · simp [World.cell?, Array.getElem?_eq_none hge] at h

theorem laidMet_tail {P : Program} {W : World} {x : String × DataW Unit} {rest : List (String × DataW Unit)} (h : laidMet P (x :: rest) W) : laidMet P rest W := by
  obtain ⟨n, d⟩ := x
  obtain ⟨ps, ⟨g, t, cs, fuel, p, q, e1, e2, e3, e4, hq, rfl⟩, hnd, hrows⟩ := h
  exact ⟨q, hq, hnd.sublist (List.sublist_append_right _ _), fun b off hp => hrows b off (List.mem_append_right _ hp)⟩

section
variable {H : Type} {enc : TypeId × Value → H} {P : Program} {W : World} {t e : TypeId} {a : Option Addr} {len cap : Nat} {d : DataW H} {p : List MemPlace}
theorem open_numbers {k : IntKind} (ht : P.underlying t = some (.slice e)) (he : P.underlying e = some (.int k)) (hc : P.cellsOf e = 1)
    (h : DataW.Trod enc P W 0 (fun _ => true) true t (.slice a len cap) d p) :
    ∃ zs : List Int, zs.length = len ∧ Sl W W.heap.size a (zs.map (Value.int k)) ∧ (∀ n ∈ zs, (Lit.int k n).wf = true) ∧ len ≤ cap ∧ cap ≤ maxLen ∧ (0 < len → ∃ b off, a = some ⟨b, off, none⟩) := by
  obtain ⟨fuel, hf⟩ := h
  rcases open_ints ht he hc hf with ⟨hcs, _⟩ | ⟨x, l, c, zs, hcs, _, hl, hm, hz, _, hcell, hwz⟩
  · simp [Value.cells] at hcs
    obtain ⟨rfl, rfl, rfl⟩ := hcs
    exact ⟨[], rfl, .inl rfl, by simp, by simp, by simp [maxLen], by simp⟩
  · simp [Value.cells] at hcs
    obtain ⟨rfl, rfl, rfl⟩ := hcs
    have hz : zs.length = cap := by simpa using hz
    have hspot : 0 < len → x.spot = none := fun h0 => by
      have := World.cell?_spot (hcell 0 (by omega))
      simpa [Addr.add] using this
    refine ⟨zs.take len, by simp; omega, ?_, fun n hn => hwz n (List.mem_of_mem_take hn), hl, hm, ?_⟩
    · rcases Nat.eq_zero_or_pos len with h0 | h0
      · left; simp [h0]
      · obtain ⟨b, off, spot⟩ := x
        have hs : spot = none := hspot h0
        subst hs
        have hcc : ∀ i, i < zs.length → W.cell? ⟨b, off + i, none⟩ = some (.int k (zs.getD i 0)) := fun i hi => by
          have := hcell i hi
          rcases Nat.eq_zero_or_pos i with rfl | hi0
          · simpa [Addr.add] using this
          · simpa [Addr.add, show i ≠ 0 by omega] using this
        refine .inr ⟨b, off, rfl, cell_lt (hcc 0 (by omega)), fun i u hu => ?_⟩
        rw [List.getElem?_map, List.getElem?_take] at hu
        split at hu
        · rename_i hi
          rw [hcc i (by omega), List.getD_eq_getElem?_getD]
          have hzi : i < zs.length := by omega
          rw [List.getElem?_eq_getElem hzi] at hu ⊢
          simpa using hu
        · simp at hu
    · intro h0
      obtain ⟨b, off, spot⟩ := x
      have hs : spot = none := hspot h0
      subst hs
      exact ⟨b, off, rfl⟩
theorem open_bytes (ht : P.underlying t = some (.slice e)) (he : P.underlying e = some (.int .u8)) (hc : P.cellsOf e = 1)
    (h : DataW.Trod enc P W 0 (fun _ => true) true t (.slice a len cap) d p) :
    ∃ l : List UInt8, len = l.length ∧ Sl W W.heap.size a (bytesV l) ∧ len ≤ cap ∧ cap ≤ maxLen := by
  obtain ⟨zs, hz, hs, hw, h1, h2, _⟩ := open_numbers ht he hc h
  refine ⟨zs.map fun z => UInt8.ofNat z.toNat, by simp [hz], ?_, h1, h2⟩
  have : bytesV (zs.map fun z => UInt8.ofNat z.toNat) = zs.map (Value.int .u8) := by
    unfold bytesV
    rw [List.map_map]
    apply List.map_congr_left
    intro z hz
    have := bounds_u8 (hw z hz)
    simp [byteV, Nat.mod_eq_of_lt (show z.toNat < 256 by omega)]
    omega
  rw [this]
  exact hs
theorem open_i64s (ht : P.underlying t = some (.slice e)) (he : P.underlying e = some (.int .i64)) (hc : P.cellsOf e = 1)
    (h : DataW.Trod enc P W 0 (fun _ => true) true t (.slice a len cap) d p) :
    ∃ l : List Int, len = l.length ∧ Sl W W.heap.size a (intsV l) ∧ (∀ n ∈ l, -9223372036854775808 ≤ n ∧ n ≤ 9223372036854775807) ∧ len ≤ cap ∧ cap ≤ maxLen := by
  obtain ⟨zs, hz, hs, hw, h1, h2, _⟩ := open_numbers ht he hc h
  exact ⟨zs, hz.symm, hs, fun n hn => by have := bounds_i64 (hw n hn); omega, h1, h2⟩
end
end Go.Proofs.YtdmmlpioaiammaaDoor
