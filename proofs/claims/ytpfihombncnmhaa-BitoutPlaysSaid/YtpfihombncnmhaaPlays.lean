/-
  The state of BitoutPlays' loop: a writer, the list of all bits, the bytes that were taken; what each call makes of it. No walk.
-/
import Derived.Test.YtpfihombncnmhaaPack
import Derived.Test.YtpfihombncnmhaaWrBytes
import Derived.Test.YtpfihombncnmhaaOps
import Derived.Test.YtpfihombncnmhaaStr
import Derived.Test.YtpfihombncnmhaaBitoutLen
namespace Go.Proofs.Ytpfihombncnmhaa
open Go.RowKit

/-- memory: the writer at p (its slice o, its bytes x, its pending bits r, its count), the bits 'all' at va, the taken bytes at vo -/
structure PM (w : World) (B p : Nat) (o : Value) (x : List UInt8) (r : List Bool) (len : Nat) (va : Value) (all : List Bool) (vo : Value) (out : List UInt8) : Prop where
  wr : WrS w B p o x r len
  hr : r.length < 8
  bp : B ≤ p
  bw : B ≤ w.heap.size
  ownA : w.ownsRow B 4 1 va all.length (boolsV all)
  ownO : w.ownsRow B 5 1 vo out.length (bytesV out)
  ap : va.ownBlock ≠ some p
  ao : ∀ g, va.ownBlock = some g → o.ownBlock ≠ some g
  op : vo.ownBlock ≠ some p
  oo : ∀ g, vo.ownBlock = some g → o.ownBlock ≠ some g
  ax : ∀ g, vo.ownBlock = some g → va.ownBlock ≠ some g

section
variable {w w' : World} {B p : Nat} {o : Value} {x : List UInt8} {r : List Bool} {len : Nat} {va : Value} {all : List Bool} {vo : Value} {out : List UInt8}
theorem PM.below (h : PM w B p o x r len va all vo out) (hb : Below w.heap.size w w') : PM w' B p o x r len va all vo out :=
  have f : Fr (fun _ => False) w w' := Fr.of_below hb _
  ⟨⟨h.wr.cells.fr f id, own_fr h.wr.own f (fun _ _ => id), h.wr.apart⟩, h.hr, h.bp, Nat.le_trans h.bw hb.size, own_fr h.ownA f (fun _ _ => id), own_fr h.ownO f (fun _ _ => id), h.ap, h.ao, h.op, h.oo, h.ax⟩
/-- the writer was written -/
theorem PM.put {o' : Value} {x' : List UInt8} {r' : List Bool} {len' : Nat} (h : PM w B p o x r len va all vo out) (hw : WrS w' B p o' x' r' len') (hr : r'.length < 8)
    (ho : o'.ownBlock = o.ownBlock ∨ ∀ g, o'.ownBlock = some g → w.heap.size ≤ g) (hf : Fr (fun y => y = p ∨ some y = o.ownBlock) w w') : PM w' B p o' x' r' len' va all vo out := by
  have nA : ∀ g, va.ownBlock = some g → ¬ (g = p ∨ some g = o.ownBlock) := fun g hg hh => by
    rcases hh with hh | hh
    · exact h.ap (by rw [hg, hh])
    · exact h.ao g hg hh.symm
  have nO : ∀ g, vo.ownBlock = some g → ¬ (g = p ∨ some g = o.ownBlock) := fun g hg hh => by
    rcases hh with hh | hh
    · exact h.op (by rw [hg, hh])
    · exact h.oo g hg hh.symm
  refine ⟨hw, hr, h.bp, Nat.le_trans h.bw hf.size, own_fr h.ownA hf nA, own_fr h.ownO hf nO, h.ap, fun g hg => ?_, h.op, fun g hg => ?_, h.ax⟩
  · rcases ho with ho | ho
    · rw [ho]; exact h.ao g hg
    · intro hh; have h1 := ho g hh; have h2 := (h.ownA.lt g hg).2; omega
  · rcases ho with ho | ho
    · rw [ho]; exact h.oo g hg
    · intro hh; have h1 := ho g hh; have h2 := (h.ownO.lt g hg).2; omega
/-- all bits are new -/
theorem PM.bits {va' : Value} {all' : List Bool} (h : PM w B p o x r len va all vo out) (hb : Below w.heap.size w w') (hn : w'.ownsRow w.heap.size 4 1 va' all'.length (boolsV all')) : PM w' B p o x r len va' all' vo out := by
  have h' := h.below hb
  have lo : ∀ g, va'.ownBlock = some g → w.heap.size ≤ g := fun g hg => (hn.lt g hg).1
  refine ⟨h'.wr, h'.hr, h'.bp, h'.bw, own_base hn h.bw, h'.ownO, fun hh => ?_, fun g hg hh => ?_, h'.op, h'.oo, fun g hg hh => ?_⟩
  · have h1 := lo _ hh; have h2 := h.wr.cells.lt; omega
  · have h1 := lo _ hg; have h2 := (h.wr.own.lt g hh).2; omega
  · have h1 := lo _ hh; have h2 := (h.ownO.lt g hg).2; omega
/-- the taken bytes grew -/
theorem PM.took {vo' : Value} {out' : List UInt8} (h : PM w B p o x r len va all vo out) (hg : w.grownBy w' vo.ownBlock) (hn : w'.ownsRow B 5 1 vo' out'.length (bytesV out'))
    (hat : vo'.ownBlock = vo.ownBlock ∨ vo'.ownBlock = some w.heap.size) : PM w' B p o x r len va all vo' out' := by
  have hf : Fr (fun y => vo.ownBlock = some y) w w' := (Fr.refl _ w).grown hg fun k _ hk => hk
  have new : ∀ g, vo'.ownBlock = some g → vo.ownBlock = some g ∨ g = w.heap.size := fun g hg => by
    rcases hat with h1 | h1
    · exact .inl (by rw [← h1]; exact hg)
    · right; rw [h1] at hg; injection hg with hg; exact hg.symm
  refine ⟨⟨h.wr.cells.fr hf (fun hh => h.op hh), own_fr h.wr.own hf (fun g hg hh => h.oo g hh hg), h.wr.apart⟩, h.hr, h.bp, Nat.le_trans h.bw hf.size, own_fr h.ownA hf (fun g hg hh => h.ax g hh hg), hn, h.ap, h.ao, fun hh => ?_, fun g hg hh => ?_, fun g hg hh => ?_⟩
  · rcases new _ hh with h1 | h1
    · exact h.op h1
    · have := h.wr.cells.lt; omega
  · rcases new _ hg with h1 | h1
    · exact h.oo g h1 hh
    · have := (h.wr.own.lt g hh).2; omega
  · rcases new _ hg with h1 | h1
    · exact h.ax g h1 hh
    · have := (h.ownA.lt g hh).2; omega
theorem PM.tookApp {vo' : Value} {y : List UInt8} (h : PM w B p o x r len va all vo out) (hg : w.grownBy w' vo.ownBlock) (hn : w'.ownsRow B 5 1 vo' (out.length + y.length) (bytesV out ++ bytesV y))
    (hat : vo'.ownBlock = vo.ownBlock ∨ vo'.ownBlock = some w.heap.size) : PM w' B p o x r len va all vo' (out ++ y) :=
  h.took hg (by rw [List.length_append, bytes_append]; exact hn) hat
/-- the writer is its clone; the first one is written -/
theorem PM.clone {w2 : World} {p' : Nat} {o' : Value} (h : PM w B p o x r len va all vo out) (hb : Below w.heap.size w w') (hw : WrS w' B p' o' x r len) (hp : w.heap.size ≤ p') (ho : ∀ g, o'.ownBlock = some g → w.heap.size ≤ g)
    (hf : Fr (fun y => y = p ∨ some y = o.ownBlock) w' w2) : PM w2 B p' o' x r len va all vo out := by
  have hpl := h.wr.cells.lt
  have hol := fun g hg => (h.wr.own.lt g hg).2
  have h' := h.below hb
  have nA : ∀ g, va.ownBlock = some g → ¬ (g = p ∨ some g = o.ownBlock) := fun g hg hh => by
    rcases hh with hh | hh
    · exact h.ap (by rw [hg, hh])
    · exact h.ao g hg hh.symm
  have nO : ∀ g, vo.ownBlock = some g → ¬ (g = p ∨ some g = o.ownBlock) := fun g hg hh => by
    rcases hh with hh | hh
    · exact h.op (by rw [hg, hh])
    · exact h.oo g hg hh.symm
  have nN : ∀ g, w.heap.size ≤ g → ¬ (g = p ∨ some g = o.ownBlock) := fun g hg hh => by
    rcases hh with hh | hh
    · omega
    · have := hol g hh.symm; omega
  refine ⟨⟨hw.cells.fr hf (nN _ hp), own_fr hw.own hf (fun g hg => nN g (ho g hg)), hw.apart⟩, h.hr, Nat.le_trans h.bw hp, Nat.le_trans h'.bw hf.size, own_fr h'.ownA hf nA, own_fr h'.ownO hf nO, fun hh => ?_, fun g hg hh => ?_, fun hh => ?_, fun g hg hh => ?_, h.ax⟩
  · have := (h.ownA.lt _ hh).2; omega
  · have h1 := (h.ownA.lt _ hg).2; have h2 := ho g hh; omega
  · have := (h.ownO.lt _ hh).2; omega
  · have h1 := (h.ownO.lt _ hg).2; have h2 := ho g hh; omega
/-- what is written of the writer lies behind B -/
theorem PM.far (h : PM w B p o x r len va all vo out) {y : Nat} (hy : y < B) : ¬ (y = p ∨ some y = o.ownBlock) := fun hh => by
  rcases hh with hh | hh
  · have := h.bp; omega
  · have := (h.wr.own.lt y hh.symm).1; omega
theorem PM.new (h : PM w B p o x r len va all vo out) {y : Nat} (hy : w.heap.size ≤ y) : ¬ (y = p ∨ some y = o.ownBlock) := fun hh => by
  rcases hh with hh | hh
  · have := h.wr.cells.lt; omega
  · have := (h.wr.own.lt y hh.symm).2; omega
end
namespace Bit
theorem chunk (x : List UInt8) (i : Nat) (hi : i < x.length) : ((ofBytes x).drop (8 * i)).take 8 = bitsN 8 x[i].toNat := by
  induction x generalizing i with
  | nil => simp at hi
  | cons c x ih =>
    have e : ofBytes (c :: x) = bitsN 8 c.toNat ++ ofBytes x := by simp [ofBytes]
    rw [e]
    cases i with
    | zero => rw [Nat.mul_zero, List.drop_zero, List.take_left' (length_bitsN 8 _)]; rfl
    | succ i =>
      rw [show 8 * (i + 1) = (bitsN 8 c.toNat).length + 8 * i by rw [length_bitsN]; omega, ← List.drop_drop, List.drop_left]
      exact ih i (by simpa using hi)
theorem pack_ofBytes (x : List UInt8) : pack (ofBytes x) = x := by
  unfold pack
  rw [length_ofBytes']
  apply List.ext_getElem
  · simp; omega
  · intro i h1 h2
    have hi : i < x.length := h2
    simp only [List.getElem_map, List.getElem_range]
    rw [chunk x i hi, num_bitsN]
    apply UInt8.toNat_inj.1
    have := x[i].toNat_lt
    simp
theorem num_noughts (l : List Bool) (k : Nat) : num (l ++ List.replicate k false) = num l := by
  induction l with
  | nil =>
    induction k with
    | zero => rfl
    | succ k ih =>
      simp only [List.nil_append] at ih ⊢
      show false.toNat + 2 * num (List.replicate k false) = 0
      rw [ih]; rfl
  | cons b l ih => simp only [List.cons_append, num, ih]
theorem pack_padded (l : List Bool) : pack (padded l) = pack l := by
  unfold pack
  rw [padded_len]
  have e : (l.length + (8 - l.length % 8) % 8 + 7) / 8 = (l.length + 7) / 8 := by omega
  rw [e]
  apply List.map_congr_left
  intro i hi
  have hi : i < (l.length + 7) / 8 := by simpa using hi
  congr 1
  unfold padded
  rw [List.drop_append_of_le_length (by omega), List.take_append, List.take_replicate, num_noughts]
end Bit
theorem padded_eq (l : List Bool) (x : List UInt8) (r : List Bool) (h : Bit.ofBytes x ++ r = l) (hr : r.length < 8) : padded l = Bit.ofBytes x ++ (r ++ Bit.bitsN ((8 - r.length) % 8) 0) := by
  have hb0 : ∀ k, Bit.bitsN k 0 = List.replicate k false := by
    intro k
    induction k with
    | zero => rfl
    | succ k ih => rw [Bit.bitsN_succ, ih, List.replicate_succ']; simp
  have hl : l.length = 8 * x.length + r.length := by rw [← h, List.length_append, Bit.length_ofBytes']
  rw [padded, hb0, ← List.append_assoc, h]
  congr 2
  omega
theorem whole_take (l : List Bool) (x : List UInt8) (r : List Bool) (h : Bit.ofBytes x ++ r = l) (hr : r.length < 8) : Bit.ofBytes x = l.take (l.length / 8 * 8) := by
  have hl : l.length = 8 * x.length + r.length := by rw [← h, List.length_append, Bit.length_ofBytes']
  have e : l.length / 8 * 8 = 8 * x.length := by omega
  rw [e, ← h, List.take_left' (Bit.length_ofBytes' x)]
end Go.Proofs.Ytpfihombncnmhaa
