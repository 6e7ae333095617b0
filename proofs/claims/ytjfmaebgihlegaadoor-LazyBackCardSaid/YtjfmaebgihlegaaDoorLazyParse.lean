/-
  lazy.parse: its state, and what each step makes of it.
-/
import Derived.Test.YtjfmaebgihlegaaDoorLazyWalk
import Derived.Test.YtjfmaebgihlegaaDoorTokInfo
namespace Go.Proofs.YtjfmaebgihlegaaDoor
open Go.RowKit Go.Maps

/-- the blocks that the finder does not own -/
def lzX (q H : Nat) (v : Value) : Nat → Prop := fun k => k = q + 2 ∨ k = H ∨ v.ownBlock = some k
structure LzS (w wr : World) (q H : Nat) (D : List UInt8) (c : CareV) (k s t : Nat) (L : List TokV) (v : Value) : Prop where
  fin : FindM wr (w.heap.size + 1) q D k k (lzX q H v)
  own : wr.ownsRow (H + 1) 48 3 v L.length (L.flatMap TokV.cells)
  here : Whole wr H 62 #[.int .i64 (s : Int), .int .i64 (t : Int)]
  var : Whole wr (q + 2) 59 #[.pointer (some ⟨q + 1, 0, none⟩)]
  care : Whole wr w.heap.size 25 #[.int .i64 (c.dep : Int), .bool c.wait, .int .i64 (c.good : Int)]
  bel : Below w.heap.size w wr
  ord : w.heap.size < q ∧ q + 2 < H
section
variable {w wr wr' : World} {q H k s t : Nat} {D : List UInt8} {c : CareV} {L : List TokV} {v : Value}
theorem LzS.lt (h : LzS w wr q H D c k s t L v) : H < wr.heap.size := h.here.lt
theorem LzS.fresh (h : LzS w wr q H D c k s t L v) (hb : Below wr.heap.size wr wr') : LzS w wr' q H D c k s t L v := by
  have hf := Fr.of_below hb (fun _ => False)
  have ho := h.ord
  exact ⟨h.fin.fr (by omega) hf (fun _ _ x => x.elim), own_fr h.own hf (fun _ _ x => x), h.here.fr hf (fun x => x), h.var.fr hf (fun x => x), h.care.fr hf (fun x => x), h.bel.trans (hb.mono h.bel.size), h.ord⟩
theorem LzS.off (h : LzS w wr q H D c k s t L v) : ∀ g, lzX q H v g → g < wr.heap.size := by
  intro g hg
  have hl := h.lt
  have ho := h.ord
  rcases hg with e | e | e
  · omega
  · omega
  · exact (h.own.lt g e).2
theorem LzS.matched (h : LzS w wr q H D c k s t L v) {i : Nat} (hF : FindM wr' (w.heap.size + 1) q D i i (lzX q H v)) (hf : Fr (fun k => q ≤ k ∧ ¬ lzX q H v k) wr wr') : LzS w wr' q H D c i s t L v := by
  have ho := h.ord
  exact ⟨hF, own_fr h.own hf (fun g hg x => x.2 (.inr (.inr hg))), h.here.fr hf (fun x => x.2 (.inr (.inl rfl))), h.var.fr hf (fun x => x.2 (.inl rfl)), h.care.fr hf (fun x => by have := x.1; omega),
    h.bel.trans (hf.below h.bel.size (fun k hk x => by have := x.1; omega)), h.ord⟩
theorem LzS.put (h : LzS w wr q H D c k s t L v) {v' : Value} {tk : TokV} (hown : wr'.ownsRow (H + 1) 48 3 v' (L.length + 1) (L.flatMap TokV.cells ++ tk.cells)) (hg : wr.grownBy wr' v.ownBlock) (hat : v'.ownBlock = v.ownBlock ∨ v'.ownBlock = some wr.heap.size) :
    LzS w wr' q H D c k s t (L ++ [tk]) v' := by
  have ho := h.ord
  have hf : Fr (fun g => v.ownBlock = some g) wr wr' := (Fr.refl _ wr).grown hg (fun _ _ e => e)
  have hne : ∀ g, v.ownBlock = some g → H < g := fun g e => by have := (h.own.lt g e).1; omega
  have h1 := h.fin.bar (Y := fun g => lzX q H v g ∨ v'.ownBlock = some g) (fun g hg => by
    rcases hg with e | e
    · exact .inl e
    · rcases hat with e' | e'
      · exact .inl (.inr (.inr (e'.symm.trans e)))
      · rw [e'] at e; injection e with e; exact .inr (by omega))
  have h2 := h1.fr (by omega) hf (fun g _ e => .inl (.inr (.inr e)))
  refine ⟨h2.bar (fun g hg => .inl ?_), ?_, h.here.fr hf (fun e => by have := hne _ e; omega), h.var.fr hf (fun e => by have := hne _ e; omega), h.care.fr hf (fun e => by have := hne _ e; omega),
    h.bel.grown hg h.bel.size (fun g e => by have := hne _ e; omega), h.ord⟩
  · rcases hg with e | e | e
    · exact .inl (.inl e)
    · exact .inl (.inr (.inl e))
    · exact .inr e
  · have e : (L ++ [tk]).flatMap TokV.cells = L.flatMap TokV.cells ++ tk.cells := by simp
    rw [e, List.length_append]
    exact hown
theorem LzS.seth (h : LzS w wr q H D c k s t L v) (s' t' : Nat) : LzS w ((wr.setCell ⟨H, 0, none⟩ (.int .i64 (s' : Int))).setCell ⟨H, 1, none⟩ (.int .i64 (t' : Int))) q H D c k s' t' L v := by
  have ho := h.ord
  have hl := h.bel.size
  have hf : Fr (fun g => g = H) wr ((wr.setCell ⟨H, 0, none⟩ (.int .i64 (s' : Int))).setCell ⟨H, 1, none⟩ (.int .i64 (t' : Int))) :=
    ((Fr.refl (fun g => g = H) wr).setCell (p := ⟨H, 0, none⟩) (.inl rfl) _).setCell (p := ⟨H, 1, none⟩) (.inl rfl) _
  refine ⟨h.fin.fr (by omega) hf (fun g _ e => .inr (.inl e)), own_fr h.own hf (fun g hg e => by have := (h.own.lt g hg).1; omega), ?_, h.var.fr hf (by omega), h.care.fr hf (by omega), h.bel.trans (hf.below hl (fun g hg e => by omega)), h.ord⟩
  have h1 := (h.here.set_ 0 (.int .i64 (s' : Int))).set_ 1 (.int .i64 (t' : Int))
  simpa using h1
end
end Go.Proofs.YtjfmaebgihlegaaDoor
