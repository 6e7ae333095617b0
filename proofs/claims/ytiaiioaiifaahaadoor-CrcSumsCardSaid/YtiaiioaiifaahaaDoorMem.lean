/-
  Words for memory that the walks of this seat share: a slice that reads as a list (nil let in), kept over what a call makes. No program in sight.
-/
import Derived.WalkKit
import Derived.WalkSpells
import Derived.WalkLawsBesides
import Derived.Handy
import Derived.Lib.Hide
import Derived.Deep.AppendLies
import Derived.Deep.Draws
namespace Go.Proofs.YtiaiioaiifaahaaDoor
open Go.RowKit

def byteV (c : UInt8) : Value := .int .u8 (c.toNat : Int)
def bytesV (l : List UInt8) : List Value := l.map byteV
def intsV (l : List Int) : List Value := l.map (Value.int .i64)

/-- The slice that begins at a (nil, if it has no element) reads as xs; it lies below block B. -/
def Sl (w : World) (B : Nat) (a : Option Addr) (xs : List Value) : Prop :=
  xs = [] ∨ ∃ b off, a = some ⟨b, off, none⟩ ∧ b < B ∧ ∀ i u, xs[i]? = some u → w.cell? ⟨b, off + i, none⟩ = some u

section
variable {w w' : World} {B B' : Nat} {a : Option Addr} {xs : List Value}
theorem Sl.nil : Sl w B a [] := .inl rfl
theorem Sl.at_ (h : Sl w B a xs) {k : Nat} (hk : k < xs.length) : ∃ b off, a = some ⟨b, off, none⟩ ∧ b < B ∧ w.cell? ⟨b, off + k, none⟩ = some xs[k] := by
  rcases h with rfl | ⟨b, off, ha, hb, hc⟩
  · simp at hk
  · exact ⟨b, off, ha, hb, hc k _ (List.getElem?_eq_getElem hk)⟩
theorem Sl.keep (h : Sl w B a xs) (hk : ∀ p : Addr, p.block < B → w'.cell? p = w.cell? p) : Sl w' B a xs := by
  rcases h with h | ⟨b, off, ha, hb, hc⟩
  · exact .inl h
  · exact .inr ⟨b, off, ha, hb, fun i u hu => (hk _ hb).trans (hc i u hu)⟩
theorem Sl.more (h : Sl w B a xs) (hB : B ≤ B') : Sl w B' a xs := by
  rcases h with h | ⟨b, off, ha, hb, hc⟩
  · exact .inl h
  · exact .inr ⟨b, off, ha, by omega, hc⟩
theorem Sl.below {C : Nat} (h : Sl w B a xs) (hb : Below C w w') (hB : B ≤ C) : Sl w' B a xs := h.keep fun _ hp => hb.cell (by omega)
theorem Sl.drew (h : Sl w B a xs) : Sl w.drew B a xs := h
theorem Sl.drewN (h : Sl w B a xs) (k : Nat) : Sl (w.drewN k) B a xs := h
theorem Sl.alloc (h : Sl w B a xs) (hB : B ≤ w.heap.size) (o : Obj) : Sl (w.alloc o) B a xs := h.keep fun p hp => World.cell?_alloc_lt w o p (by omega)
theorem Sl.setCell (h : Sl w B a xs) {p : Addr} (hB : B ≤ p.block) (u : Value) : Sl (w.setCell p u) B a xs :=
  h.keep fun q hq => World.cell?_setCell_other w p q u (fun e => by subst e; omega)
theorem Sl.take (h : Sl w B a xs) (k : Nat) : Sl w B a (xs.take k) := by
  rcases h with rfl | ⟨b, off, ha, hb, hc⟩
  · left; simp
  · refine .inr ⟨b, off, ha, hb, fun i u hu => hc i u ?_⟩
    rw [List.getElem?_take] at hu
    split at hu
    · exact hu
    · cases hu
theorem Sl.drop {b off : Nat} (h : Sl w B (some ⟨b, off, none⟩) xs) (k : Nat) : Sl w B (some ⟨b, off + k, none⟩) (xs.drop k) := by
  rcases h with rfl | ⟨b', off', ha, hb, hc⟩
  · left; simp
  · injection ha with ha
    injection ha with h1 h2
    subst h1 h2
    refine .inr ⟨b, off + k, rfl, hb, fun i u hu => ?_⟩
    rw [List.getElem?_drop] at hu
    rw [Nat.add_assoc]
    exact hc _ u hu
end
theorem Sl.new_ (w : World) (C : Array Value) (t : TypeId) (fr : Nat × Nat) : Sl (w.alloc (.cells C t fr)) (w.heap.size + 1) (some ⟨w.heap.size, 0, none⟩) C.toList := by
  refine .inr ⟨w.heap.size, 0, rfl, by omega, fun i u hu => ?_⟩
  rw [Nat.zero_add, World.cell?_alloc_mark]
  simpa using hu
theorem Sl.byte {w : World} {B : Nat} {a : Option Addr} {l : List UInt8} (h : Sl w B a (bytesV l)) {k : Nat} (hk : k < l.length) :
    ∃ b off, a = some ⟨b, off, none⟩ ∧ b < B ∧ w.cell? ⟨b, off + k, none⟩ = some (.int .u8 (l[k].toNat : Int)) := by
  obtain ⟨b, off, ha, hb, hc⟩ := h.at_ (k := k) (by simpa [bytesV] using hk)
  exact ⟨b, off, ha, hb, by simpa [bytesV, byteV] using hc⟩
theorem Sl.int {w : World} {B : Nat} {a : Option Addr} {l : List Int} (h : Sl w B a (intsV l)) {k : Nat} (hk : k < l.length) :
    ∃ b off, a = some ⟨b, off, none⟩ ∧ b < B ∧ w.cell? ⟨b, off + k, none⟩ = some (.int .i64 l[k]) := by
  obtain ⟨b, off, ha, hb, hc⟩ := h.at_ (k := k) (by simpa [intsV] using hk)
  exact ⟨b, off, ha, hb, by simpa [intsV] using hc⟩
theorem len_bytesV (l : List UInt8) : (bytesV l).length = l.length := by simp [bytesV]
theorem len_intsV (l : List Int) : (intsV l).length = l.length := by simp [intsV]
theorem u8_bound (c : UInt8) : c.toNat < 256 := c.toNat_lt
theorem ret_int {k : IntKind} {a b : Int} (h : a = b) : Ending.returned (.int k a) = .returned (.int k b) := by rw [h]
theorem ret_bool {a b : Bool} (h : a = b) : Ending.returned (.bool a) = .returned (.bool b) := by rw [h]
theorem val_int {k : IntKind} {a b : Int} (h : a = b) : Value.int k a = .int k b := by rw [h]
end Go.Proofs.YtiaiioaiifaahaaDoor
