/-
  turns.Ring: its state; New, Has, Ready, All, Turns, List.
-/
import Derived.Test.YtcbginkbipefaaaCloneI
import Derived.Test.YtcbginkbipefaaaInts
import Derived.Test.YtcbginkbipefaaaCopy
import Derived.Maps.OwnOps
import Derived.Maps.OwnSet
namespace Go.Proofs.Ytcbginkbipefaaa
open Go.RowKit Go.Maps

theorem keyI : Keyed Try.prog 3 := int_keyed Try.underlying3
theorem zeroI (w : World) : (zeroValue 3).run Try.prog w = .ok (.int .i64 0) w := by kernel_rfl
theorem zeroU (w : World) : (zeroValue 52).run Try.prog w = .ok (.agg #[]) w := by kernel_rfl
/-- a number that is an int -/
def I64 (k : Int) : Prop := -9223372036854775808 ≤ k ∧ k ≤ 9223372036854775807
theorem I64.wf {k : Int} (h : I64 k) : (Lit.int .i64 k).wf = true := WalkArith.wf_i64 (by unfold I64 at h; omega)
theorem I64.key {k : Int} (h : I64 k) : keyOf Try.prog 3 (.int .i64 k) = some (.int .i64 k) := keyOf_int_mk Try.underlying3 h.wf
theorem isKey (k : Int) : WideAt.IsKeyLit (.int .i64 k) := trivial
theorem ownsMap_keep {H : Type} {P : Program} {k : TypeId} {R : Value → Option (DataW H × List MemPlace)} {w w' : World} {b n : Nat} {D : DataW H} (h : w.ownsMap P k R b n D) (e : w'.heap[b]? = w.heap[b]?) : w'.ownsMap P k R b n D := by
  obtain ⟨es, clock, hb, r⟩ := h
  exact ⟨es, clock, e.trans hb, r⟩

/-- the set of those that are ready -/
def SetIs (w : World) (b N : Nat) (L : List Int) : Prop :=
  ∃ (n : Nat) (D : DataW Unit), n ≤ N ∧ w.ownsMap Try.prog 3 unitElem b n D ∧ ∀ k, Maps.has D (.int .i64 k) = decide (k ∈ L)
/-- how many turns each had -/
def TurnsIs (w : World) (b N : Nat) (f : Int → Int) : Prop :=
  ∃ (n : Nat) (D : DataW Unit), n ≤ N ∧ w.ownsMap Try.prog 3 (plainElem Try.prog 3) b n D ∧ ∀ k, D.atKey (.int .i64 k) (.lit (.int .i64 0)) = .lit (.int .i64 (f k))
theorem SetIs.keep {w w' : World} {b N : Nat} {L : List Int} (h : SetIs w b N L) (e : w'.heap[b]? = w.heap[b]?) : SetIs w' b N L := by
  obtain ⟨n, D, h1, h2, h3⟩ := h
  exact ⟨n, D, h1, ownsMap_keep h2 e, h3⟩
theorem TurnsIs.keep {w w' : World} {b N : Nat} {f : Int → Int} (h : TurnsIs w b N f) (e : w'.heap[b]? = w.heap[b]?) : TurnsIs w' b N f := by
  obtain ⟨n, D, h1, h2, h3⟩ := h
  exact ⟨n, D, h1, ownsMap_keep h2 e, h3⟩
theorem SetIs.lt {w : World} {b N : Nat} {L : List Int} (h : SetIs w b N L) : b < w.heap.size := by
  obtain ⟨n, D, h1, h2, h3⟩ := h
  exact h2.lt
theorem TurnsIs.lt {w : World} {b N : Nat} {f : Int → Int} (h : TurnsIs w b N f) : b < w.heap.size := by
  obtain ⟨n, D, h1, h2, h3⟩ := h
  exact h2.lt
theorem SetIs.more {w : World} {b N M : Nat} {L : List Int} (h : SetIs w b N L) (hM : N ≤ M) : SetIs w b M L := by
  obtain ⟨n, D, h1, h2, h3⟩ := h
  exact ⟨n, D, by omega, h2, h3⟩
theorem TurnsIs.more {w : World} {b N M : Nat} {f : Int → Int} (h : TurnsIs w b N f) (hM : N ≤ M) : TurnsIs w b M f := by
  obtain ⟨n, D, h1, h2, h3⟩ := h
  exact ⟨n, D, by omega, h2, h3⟩
theorem SetIs.look {w : World} {b N : Nat} {L : List Int} (h : SetIs w b N L) {k : Int} (hk : I64 k) :
    (Instr.lookup 48 (.map (some b)) (.int .i64 k) true).run Try.prog w = .ok (.tuple #[.agg #[], .bool (decide (k ∈ L))]) w := by
  obtain ⟨n, D, h1, h2, h3⟩ := h
  obtain ⟨v, ps, hrun, hv⟩ := h2.look_ok keyI Try.underlying48 (zeroU w) unitElem_mk hk.key
  obtain ⟨rfl, _⟩ := unitElem_inv hv
  rw [hrun, h3 k]
theorem TurnsIs.look {w : World} {b N : Nat} {f : Int → Int} (h : TurnsIs w b N f) {k : Int} (hk : I64 k) :
    (Instr.lookup 49 (.map (some b)) (.int .i64 k) false).run Try.prog w = .ok (.int .i64 (f k)) w := by
  obtain ⟨n, D, h1, h2, h3⟩ := h
  obtain ⟨c, hrun, hat, _⟩ := h2.lookup_int keyI Try.underlying49 Try.underlying3 (zeroI w) hk.key
  rw [h3 k] at hat
  injection hat with hat
  injection hat with _ hat
  rw [hrun, hat]
theorem turned_fr {w w' : World} {b : Nat} (h : w.mapTurned w' b) : Fr (fun k => k = b) w w' := by
  have hg := h.grown
  exact ⟨hg.os, hg.tape, hg.output, hg.size, fun k hk hn => hg.block k hk (fun e => hn (by injection e))⟩
theorem SetIs.add {w : World} {b N : Nat} {L : List Int} (h : SetIs w b N L) {k : Int} (hk : I64 k) (hN : N < 1000000000) :
    ∃ w', (Instr.mapUpdate 48 (.map (some b)) (.int .i64 k) (.agg #[])).run Try.prog w = .ok () w' ∧ SetIs w' b (N + 1) (L ++ [k]) ∧ Fr (fun j => j = b) w w' := by
  obtain ⟨n, D, h1, h2, h3⟩ := h
  obtain ⟨w', hrun, ho, ht⟩ := h2.store keyI Try.underlying48 (by unfold maxLen; omega) hk.key unitElem_mk
  refine ⟨w', hrun, ⟨n + 1, _, by omega, ho, fun j => ?_⟩, turned_fr ht⟩
  by_cases e : j = k
  · subst e
    rw [has_put_same h2.isMap (isKey j)]
    simp
  · rw [has_put_other (by intro hh; injection hh with _ hh; exact e hh), h3 j]
    simp [e]
theorem SetIs.del {w : World} {b N : Nat} {L M : List Int} (h : SetIs w b N L) {k : Int} (hk : I64 k) (hM : ∀ j, j ∈ M ↔ j ∈ L ∧ j ≠ k) (ty : TypeId) :
    ∃ w', (Builtin.delete_ #[48, 3] ty #[.map (some b), .int .i64 k]).run Try.prog w = .ok (.tuple #[]) w' ∧ SetIs w' b N M ∧ Fr (fun j => j = b) w w' := by
  obtain ⟨n, D, h1, h2, h3⟩ := h
  obtain ⟨w', hrun, ho, ht⟩ := h2.drop keyI Try.underlying48 hk.key ty
  refine ⟨w', hrun, ⟨n, _, h1, ho, fun j => ?_⟩, turned_fr ht⟩
  by_cases e : j = k
  · subst e
    rw [has_del_same]
    symm; rw [decide_eq_false_iff_not, hM]; simp
  · rw [has_del_other (by intro hh; injection hh with _ hh; exact e hh), h3 j]
    rw [Bool.eq_iff_iff]; simp [hM, e]
def bump (f : Int → Int) (k : Int) : Int → Int := fun j => if j = k then f k + 1 else f j
theorem TurnsIs.add {w : World} {b N : Nat} {f : Int → Int} (h : TurnsIs w b N f) {k : Int} (hk : I64 k) (hf : I64 (f k + 1)) (hN : N < 1000000000) :
    ∃ w', (Instr.mapUpdate 49 (.map (some b)) (.int .i64 k) (.int .i64 (f k + 1))).run Try.prog w = .ok () w' ∧ TurnsIs w' b (N + 1) (bump f k) ∧ Fr (fun j => j = b) w w' := by
  obtain ⟨n, D, h1, h2, h3⟩ := h
  obtain ⟨w', hrun, ho, ht⟩ := h2.store keyI Try.underlying49 (by unfold maxLen; omega) hk.key (plainElem_int Try.underlying3 hf.wf)
  refine ⟨w', hrun, ⟨n + 1, _, by omega, ho, fun j => ?_⟩, turned_fr ht⟩
  by_cases e : j = k
  · subst e
    rw [atKey_put_same h2.isMap (isKey j)]
    simp [bump]
  · rw [atKey_put_other (by intro hh; injection hh with _ hh; exact e hh), h3 j]
    simp [bump, e]

/-- a ring at blocks q (ready), q + 1 (turns), q + 2 (itself) -/
structure RingS (w : World) (q : Nat) (L : List Int) (f : Int → Int) (al N : Nat) (X : Nat → Prop) : Prop where
  ex : ∃ A c, Whole w (q + 2) 51 #[.slice A L.length c, .map (some q), .map (some (q + 1)), .int .i64 (al : Int)] ∧ w.ownsRow (q + 3) 3 1 (.slice A L.length c) L.length (intsV L) ∧ ∀ g, (Value.slice A L.length c).ownBlock = some g → ¬ X g
  rdy : SetIs w q N L
  trn : TurnsIs w (q + 1) N f
  nd : L.Nodup
  rng : ∀ x ∈ L, I64 x
  fle : ∀ k, 0 ≤ f k ∧ f k ≤ N
  lle : L.length ≤ N
  ale : al ≤ N
  xq : ∀ k, X k → q + 3 ≤ k
theorem RingS.fr {S : Nat → Prop} {w w' : World} {q : Nat} {L : List Int} {f : Int → Int} {al N : Nat} {X : Nat → Prop} (h : RingS w q L f al N X) (hf : Fr S w w') (hS : ∀ k, q ≤ k → S k → X k) : RingS w' q L f al N X := by
  obtain ⟨A, c, h1, h2, h3⟩ := h.ex
  have hx := h.xq
  exact ⟨⟨A, c, h1.fr hf (fun hs => by have := hx _ (hS _ (by omega) hs); omega), own_fr h2 hf (fun g hg hs => h3 g hg (hS g (by have := (h2.lt g hg).1; omega) hs)), h3⟩,
    h.rdy.keep (hf.block _ h.rdy.lt (fun hs => by have := hx _ (hS _ (Nat.le_refl _) hs); omega)), h.trn.keep (hf.block _ h.trn.lt (fun hs => by have := hx _ (hS _ (by omega) hs); omega)), h.nd, h.rng, h.fle, h.lle, h.ale, h.xq⟩
theorem RingS.more {w : World} {q : Nat} {L : List Int} {f : Int → Int} {al N M : Nat} {X : Nat → Prop} (h : RingS w q L f al N X) (hM : N ≤ M) : RingS w q L f al M X :=
  ⟨h.ex, h.rdy.more hM, h.trn.more hM, h.nd, h.rng, fun k => ⟨(h.fle k).1, by have := (h.fle k).2; omega⟩, by have := h.lle; omega, by have := h.ale; omega, h.xq⟩
theorem RingS.lt {w : World} {q : Nat} {L : List Int} {f : Int → Int} {al N : Nat} {X : Nat → Prop} (h : RingS w q L f al N X) : q + 2 < w.heap.size := by
  obtain ⟨A, c, h1, _⟩ := h.ex
  exact h1.lt

/-- fresh blocks may be barred -/
theorem RingS.bar {w : World} {q : Nat} {L : List Int} {f : Int → Int} {al N : Nat} {X Y : Nat → Prop} (h : RingS w q L f al N X) (hY : ∀ k, Y k → X k ∨ w.heap.size ≤ k) : RingS w q L f al N Y := by
  have hlt := h.lt
  obtain ⟨A, c, h1, h2, h3⟩ := h.ex
  refine ⟨⟨A, c, h1, h2, fun g hg hy => ?_⟩, h.rdy, h.trn, h.nd, h.rng, h.fle, h.lle, h.ale, fun k hk => ?_⟩
  · rcases hY g hy with hx | hx
    · exact h3 g hg hx
    · have := (h2.lt g hg).2; omega
  · rcases hY k hk with hx | hx
    · exact h.xq k hx
    · omega

def RingPost (v : Value) (q : Nat) (L : List Int) (f : Int → Int) (al N : Nat) (X : Nat → Prop) (w : World) (e : Ending) (w' : World) : Prop :=
  e = .returned v ∧ RingS w' q L f al N X ∧ Fr (fun k => q ≤ k ∧ ¬ X k) w w'

set_option maxHeartbeats 400000 in
theorem ringNew (w : World) : Calls Try.prog 6 #[] w (RingPost (.pointer (some ⟨w.heap.size + 2, 0, none⟩)) w.heap.size [] (fun _ => 0) 0 0 (fun _ => False) w) := by
  have hmm := @run_makeMap Try.prog
  go_enter Try.func6, Try.ntmps6
  go_wp2_with fail
  go_ret
  refine ⟨rfl, ?_, ?_⟩
  · refine ⟨⟨none, 0, ?_, World.ownsRow_nil _ _ _ _, fun _ _ h => h⟩, ⟨0, .map [], Nat.le_refl _, ((World.ownsMap_made w _ _ _).alloc _).alloc _, fun k => rfl⟩, ⟨0, .map [], Nat.le_refl _, ?_, fun k => rfl⟩, List.nodup_nil, by simp, by simp, by simp, by simp, fun _ h => h.elim⟩
    · have h := Whole.new ((w.alloc (.map #[] 0)).alloc (.map #[] 0)) 51 #[.slice none 0 0, .map (some w.heap.size), .map (some (w.heap.size + 1)), .int .i64 0]
      simpa using h
    · have h := (World.ownsMap_made (w.alloc (.map #[] 0)) Try.prog 3 (plainElem (H := Unit) Try.prog 3)).alloc (.cells #[.slice none 0 0, .map (some w.heap.size), .map (some (w.heap.size + 1)), .int .i64 0] 51)
      simpa using h
  · exact ((((Fr.refl _ _).alloc _).alloc _).alloc _)

set_option maxHeartbeats 400000 in
theorem ringHas (q : Nat) (L : List Int) (f : Int → Int) (al N : Nat) (id : Int) {X : Nat → Prop} (w : World) (h : RingS w q L f al N X) (hid : I64 id) :
    Calls Try.prog 19 #[.pointer (some ⟨q + 2, 0, none⟩), .int .i64 id] w fun e w' => e = .returned (.bool (decide (id ∈ L))) ∧ Fr (fun _ => False) w w' := by
  obtain ⟨A, c, hc, _⟩ := h.ex
  have c1 := hc.cell 1
  simp at c1
  have hl := h.rdy.look hid
  generalize decide (id ∈ L) = b at hl
  clear h hc
  go_enter Try.func19, Try.ntmps19
  go_wp2_with fail
  go_ret
  exact ⟨rfl, (Fr.refl _ _).alloc _⟩
end Go.Proofs.Ytcbginkbipefaaa
