/-
  Words for memory that the walks of this seat share: a slice that reads as a list (nil let in), kept over what a call makes. No program in sight.
-/
import Derived.WalkKit
import Derived.WalkSpells
import Derived.WalkLawsBesides
import Derived.Handy
import Derived.Lib.Hide
import Derived.Deep.AppendLies
import Derived.Deep.Draws
namespace Go.Proofs.YtdmmlpioaiammaaDoor
open Go.RowKit

def byteV (c : UInt8) : Value := .int .u8 (c.toNat : Int)
def bytesV (l : List UInt8) : List Value := l.map byteV
def intsV (l : List Int) : List Value := l.map (Value.int .i64)

/-- The slice that begins at a (nil, if it has no element) reads as xs; it lies below block B. -/
def Sl (w : World) (B : Nat) (a : Option Addr) (xs : List Value) : Prop :=
  xs = [] ∨ ∃ b off, a = some ⟨b, off, none⟩ ∧ b < B ∧ ∀ i u, xs[i]? = some u → w.cell? ⟨b, off + i, none⟩ = some u

section
variable {w w' : World} {B B' : Nat} {a : Option Addr} {xs : List Value}
theorem Sl.nil : Sl w B a [] := .inl rfl
theorem Sl.at_ (h : Sl w B a xs) {k : Nat} (hk : k < xs.length) : ∃ b off, a = some ⟨b, off, none⟩ ∧ b < B ∧ w.cell? ⟨b, off + k, none⟩ = some xs[k] := by
  rcases h with rfl | ⟨b, off, ha, hb, hc⟩
  · simp at hk
  · exact ⟨b, off, ha, hb, hc k _ (List.getElem?_eq_getElem hk)⟩
theorem Sl.keep (h : Sl w B a xs) (hk : ∀ p : Addr, p.block < B → w'.cell? p = w.cell? p) : Sl w' B a xs := by
  rcases h with h | ⟨b, off, ha, hb, hc⟩
  · exact .inl h
  · exact .inr ⟨b, off, ha, hb, fun i u hu => (hk _ hb).trans (hc i u hu)⟩
theorem Sl.more (h : Sl w B a xs) (hB : B ≤ B') : Sl w B' a xs := by
  rcases h with h | ⟨b, off, ha, hb, hc⟩
  · exact .inl h
  · exact .inr ⟨b, off, ha, by omega, hc⟩
theorem Sl.below {C : Nat} (h : Sl w B a xs) (hb : Below C w w') (hB : B ≤ C) : Sl w' B a xs := h.keep fun _ hp => hb.cell (by omega)
theorem Sl.drew (h : Sl w B a xs) : Sl w.drew B a xs := h
theorem Sl.drewN (h : Sl w B a xs) (k : Nat) : Sl (w.drewN k) B a xs := h
theorem Sl.alloc (h : Sl w B a xs) (hB : B ≤ w.heap.size) (o : Obj) : Sl (w.alloc o) B a xs := h.keep fun p hp => World.cell?_alloc_lt w o p (by omega)
theorem Sl.setCell (h : Sl w B a xs) {p : Addr} (hB : B ≤ p.block) (u : Value) : Sl (w.setCell p u) B a xs :=
  h.keep fun q hq => World.cell?_setCell_other w p q u (fun e => by subst e; omega)
theorem Sl.take (h : Sl w B a xs) (k : Nat) : Sl w B a (xs.take k) := by
  rcases h with rfl | ⟨b, off, ha, hb, hc⟩
  · left; simp
  · refine .inr ⟨b, off, ha, hb, fun i u hu => hc i u ?_⟩
    rw [List.getElem?_take] at hu
    split at hu
    · exact hu
    · cases hu
theorem Sl.drop {b off : Nat} (h : Sl w B (some ⟨b, off, none⟩) xs) (k : Nat) : Sl w B (some ⟨b, off + k, none⟩) (xs.drop k) := by
  rcases h with rfl | ⟨b', off', ha, hb, hc⟩
  · left; simp
  · injection ha with ha
    injection ha with h1 h2
    subst h1 h2
    refine .inr ⟨b, off + k, rfl, hb, fun i u hu => ?_⟩
    rw [List.getElem?_drop] at hu
    rw [Nat.add_assoc]
    exact hc _ u hu
end
theorem Sl.new_ (w : World) (C : Array Value) (t : TypeId) (fr : Nat × Nat) : Sl (w.alloc (.cells C t fr)) (w.heap.size + 1) (some ⟨w.heap.size, 0, none⟩) C.toList := by
  refine .inr ⟨w.heap.size, 0, rfl, by omega, fun i u hu => ?_⟩
  rw [Nat.zero_add, World.cell?_alloc_mark]
  simpa using hu
/-- the address of a slice's rest -/
def restAt (a : Option Addr) (cap k : Nat) : Option Addr := if cap = k then a else a.map (·.add k)
section
variable {P : Program} {t e : TypeId} {i : TypeInfo} (ht : P.underlying t = some (.slice e)) (hi : P.info? e = some i) (h1 : i.size = 1)
include ht
theorem elem_eq : P.elem t = e := by simp [Program.elem, ht]
include hi
theorem run_slice_to (a : Option Addr) (len cap k : Nat) (hk : k ≤ cap) (W : World) :
    (Instr.slice t (.slice a len cap) none (some (.int .i64 (k : Int))) none).run P W = .ok (.slice a k cap) W := by
  have he := elem_eq ht
  rw [run_slice_h W t a len cap (by rw [he]; exact ht) .i64 k (by omega) (by omega), he]
  simp only [sizeOf, typeInfo, Sem.run_bind]
  cases a <;> simp [sliced, Addr.add, hi]
include h1
theorem run_slice_from (a : Option Addr) (len cap k : Nat) (hk : k ≤ len) (W : World) :
    (Instr.slice t (.slice a len cap) (some (.int .i64 (k : Int))) none none).run P W = .ok (.slice (restAt a cap k) (len - k) (cap - k)) W := by
  have he := elem_eq ht
  rw [run_slice_l W t a len cap (by rw [he]; exact ht) .i64 k (by omega) (by omega), he]
  simp only [sizeOf, typeInfo, Sem.run_bind]
  simp [sliced, hi, h1, restAt]
theorem run_slice_fromto (a : Option Addr) (len cap k m : Nat) (hk : k ≤ m) (hm : m ≤ cap) (W : World) :
    (Instr.slice t (.slice a len cap) (some (.int .i64 (k : Int))) (some (.int .i64 (m : Int))) none).run P W = .ok (.slice (restAt a cap k) (m - k) (cap - k)) W := by
  have he := elem_eq ht
  rw [run_slice_lh W t a len cap (by rw [he]; exact ht) .i64 .i64 k m (by omega) (by omega) (by omega), he]
  simp only [sizeOf, typeInfo, Sem.run_bind]
  simp [sliced, hi, h1, restAt]
end
theorem Sl.rest {w : World} {B : Nat} {a : Option Addr} {xs : List Value} (h : Sl w B a xs) (cap k : Nat) (hc : xs.length ≤ cap) : Sl w B (restAt a cap k) (xs.drop k) := by
  rcases h with rfl | ⟨b, off, rfl, hb, hc'⟩
  · left; simp
  · by_cases hk : cap = k
    · left; apply List.drop_of_length_le; omega
    · have h2 : Sl w B (some ⟨b, off, none⟩) xs := .inr ⟨b, off, rfl, hb, hc'⟩
      have h3 := h2.drop k
      unfold restAt
      rw [if_neg hk]
      rcases Nat.eq_zero_or_pos k with rfl | hp
      · simpa [Addr.add] using h3
      · simpa [Addr.add, show k ≠ 0 by omega] using h3
theorem Sl.byte {w : World} {B : Nat} {a : Option Addr} {l : List UInt8} (h : Sl w B a (bytesV l)) {k : Nat} (hk : k < l.length) :
    ∃ b off, a = some ⟨b, off, none⟩ ∧ b < B ∧ w.cell? ⟨b, off + k, none⟩ = some (.int .u8 (l[k].toNat : Int)) := by
  obtain ⟨b, off, ha, hb, hc⟩ := h.at_ (k := k) (by simpa [bytesV] using hk)
  exact ⟨b, off, ha, hb, by simpa [bytesV, byteV] using hc⟩
theorem Sl.int {w : World} {B : Nat} {a : Option Addr} {l : List Int} (h : Sl w B a (intsV l)) {k : Nat} (hk : k < l.length) :
    ∃ b off, a = some ⟨b, off, none⟩ ∧ b < B ∧ w.cell? ⟨b, off + k, none⟩ = some (.int .i64 l[k]) := by
  obtain ⟨b, off, ha, hb, hc⟩ := h.at_ (k := k) (by simpa [intsV] using hk)
  exact ⟨b, off, ha, hb, by simpa [intsV] using hc⟩
theorem own_ne {w : World} {base : Nat} {e : TypeId} {size : Nat} {v : Value} {n : Nat} {xs : List Value} (h : w.ownsRow base e size v n xs) {b : Nat} (hb : b < base) : some b ≠ v.ownBlock := fun hh => by
  have := h.lt b hh.symm
  omega
theorem own_below {w w' w0 : World} {base : Nat} {e : TypeId} {size : Nat} {v : Value} {n : Nat} {xs : List Value} (h : w.ownsRow base e size v n xs) (hg : w.grownBy w' v.ownBlock) {B : Nat} (hB : B ≤ base) (hbs : B ≤ w.heap.size) (hb : Below B w0 w) : Below B w0 w' :=
  hb.grown hg hbs fun k hk => by have := h.lt k hk; omega
theorem Sl.of_own {w : World} {base : Nat} {e : TypeId} {A : Option Addr} {c n : Nat} {xs : List Value} (h : w.ownsRow base e 1 (.slice A n c) n xs) : Sl w w.heap.size A xs := by
  rcases Nat.eq_zero_or_pos n with h0 | hn
  · left
    have := h.1
    rw [h0, Nat.zero_mul] at this
    exact List.eq_nil_of_length_eq_zero this
  · obtain ⟨g, cap, hv, _, hlt⟩ := h.form hn
    have hA : A = some ⟨g, 0, none⟩ := by injection hv
    subst hA
    refine .inr ⟨g, 0, rfl, hlt, fun i u hu => ?_⟩
    have := h.cells (g := g) rfl i u hu
    rcases Nat.eq_zero_or_pos i with rfl | hi
    · simpa [Addr.add] using this
    · simpa [Addr.add, show i ≠ 0 by omega] using this
theorem own_form {w : World} {base : Nat} {e : TypeId} {size : Nat} {v : Value} {n : Nat} {xs : List Value} (h : w.ownsRow base e size v n xs) : ∃ A c, v = .slice A n c := by
  rcases h.2 with ⟨hv, hn⟩ | ⟨g, cap, cur, hv, _⟩
  · exact ⟨none, 0, by rw [hv, hn]⟩
  · exact ⟨_, _, hv⟩
theorem quietly {P : Program} {f : FuncId} {args : Array Value} {w : World} {n : Nat} {v : Value} (h : Calls P f args (w.drewN n) fun e w' => e = .returned v ∧ w.drewN n = w') :
    Calls P f args (w.drewN n) fun e w'' => e = .returned v ∧ ∃ m, w'' = w.drewN m := h.mono fun _ _ ⟨he, hm⟩ => ⟨he, n, hm.symm⟩
/-- the call returns a slice of its own making that reads as l (elements of type E, one cell each); nothing that was there has turned -/
def Gives (E : TypeId) (l : List Value) (w : World) (e : Ending) (w' : World) : Prop :=
  ∃ A c, e = .returned (.slice A l.length c) ∧ w'.ownsRow w.heap.size E 1 (.slice A l.length c) l.length l ∧ Below w.heap.size w w'
theorem own_sl {w : World} {base : Nat} {e : TypeId} {A : Option Addr} {c n : Nat} {xs : List Value} (h : w.ownsRow base e 1 (.slice A n c) n xs) : xs.length = n := by have := h.1; omega
theorem len_bytesV (l : List UInt8) : (bytesV l).length = l.length := by simp [bytesV]
theorem len_intsV (l : List Int) : (intsV l).length = l.length := by simp [intsV]
theorem u8_bound (c : UInt8) : c.toNat < 256 := c.toNat_lt
theorem ret_int {k : IntKind} {a b : Int} (h : a = b) : Ending.returned (.int k a) = .returned (.int k b) := by rw [h]
theorem ret_bool {a b : Bool} (h : a = b) : Ending.returned (.bool a) = .returned (.bool b) := by rw [h]
theorem val_int {k : IntKind} {a b : Int} (h : a = b) : Value.int k a = .int k b := by rw [h]
end Go.Proofs.YtdmmlpioaiammaaDoor
