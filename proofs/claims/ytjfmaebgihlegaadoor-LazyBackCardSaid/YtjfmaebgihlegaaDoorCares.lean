/-
  lazy: the levels' table, as the program text lays it.
-/
import Derived.Test.YtjfmaebgihlegaaDoorLazyTok
import Derived.Test.YtjfmaebgihlegaaDoorRows
import Derived.Lib.LaidTab
namespace Go.Proofs.YtjfmaebgihlegaaDoor
open Go.RowKit

def caresL : List CareV := [⟨0, false, 0⟩, ⟨4, false, 8⟩, ⟨8, false, 16⟩, ⟨16, false, 32⟩, ⟨16, true, 16⟩, ⟨32, true, 32⟩, ⟨64, true, 64⟩, ⟨128, true, 128⟩, ⟨512, true, 258⟩, ⟨4096, true, 258⟩]
def careAt (n : Nat) : CareV := caresL.getD n ⟨0, false, 0⟩
def CareV.data {H : Type} (c : CareV) : DataW H := .agg [.lit (.int .i64 (c.dep : Int)), .lit (.bool c.wait), .lit (.int .i64 (c.good : Int))]
theorem care_data {H : Type} : (Rows.laid_punnet_lazy_cares : DataW H) = .agg (caresL.map CareV.data) := rfl
theorem careAt_le (n : Nat) : (careAt n).dep ≤ 4096 ∧ (careAt n).good ≤ 258 := by
  unfold careAt caresL
  match n with
  | 0 | 1 | 2 | 3 | 4 | 5 | 6 | 7 | 8 | 9 => simp
  | n + 10 => simp
def caresCells : List Value := caresL.flatMap fun c => [.int .i64 (c.dep : Int), .bool c.wait, .int .i64 (c.good : Int)]
/-- the table lies -/
def CaresIs (W : World) : Prop := 0 < W.heap.size ∧ ∀ n, n < 10 → W.cell? ⟨0, n * 3, none⟩ = some (.int .i64 ((careAt n).dep : Int)) ∧ W.cell? ⟨0, n * 3 + 1, none⟩ = some (.bool (careAt n).wait) ∧ W.cell? ⟨0, n * 3 + 2, none⟩ = some (.int .i64 ((careAt n).good : Int))
theorem CaresIs.below {W W' : World} (h : CaresIs W) (hb : Below W.heap.size W W') : CaresIs W' :=
  ⟨Nat.lt_of_lt_of_le h.1 hb.size, fun n hn => by
    obtain ⟨h0, h1, h2⟩ := h.2 n hn
    exact ⟨(hb.cell (p := ⟨_, _, none⟩) h.1).trans h0, (hb.cell (p := ⟨_, _, none⟩) h.1).trans h1, (hb.cell (p := ⟨_, _, none⟩) h.1).trans h2⟩⟩
theorem arr_at {H : Type} {enc : TypeId × Value → H} {P : Program} {w : World} {base : Nat} {sp : Nat → Bool} {held : Bool} {fuel : Nat} {t e : TypeId} {n : Nat} {cs : List Value} {ds : List (DataW H)} {p : List MemPlace} (ht : P.underlying t = some (.array n e))
    (h : DataW.trod enc P w base sp held fuel t cs = some (.agg ds, p)) {i : Nat} (hi : i < n) :
    ∃ m d q, ds[i]? = some d ∧ DataW.trod enc P w base sp held m e ((cs.drop (i * P.cellsOf e)).take (P.cellsOf e)) = some (d, q) := by
  match fuel, h with
  | 0, h => simp [DataW.trod] at h
  | m + 1, h =>
    simp only [DataW.trod, ht] at h
    split at h
    case isFalse => cases h
    case isTrue =>
      rw [Option.map_eq_some_iff] at h
      obtain ⟨ys, hys, hy⟩ := h
      have hr : (List.range n)[i]? = some i := by rw [List.getElem?_range hi]
      obtain ⟨y, hy1, hy2⟩ := Lib.mapM_at hys i i hr
      refine ⟨m, y.1, y.2, ?_, hy2⟩
      have := congrArg Prod.fst hy
      simp only [DataW.agg.injEq] at this
      rw [← this, List.getElem?_map, hy1]
      rfl
theorem cares_of {W : World} (h : laidMet Tryd.prog [("punnet/lazy.cares", Rows.laid_punnet_lazy_cares)] W) : CaresIs W := by
  obtain ⟨_, ⟨g, t, cs, fuel, p, _, hg, hty, hvar, hd, _⟩, _⟩ := h
  obtain rfl := Option.some.inj ((show Tryd.prog.globalNamed "punnet/lazy.cares" = some 0 by kernel_rfl).symm.trans hg)
  obtain rfl := Option.some.inj ((show (Tryd.prog.globals[0]?).map (·.type) = some 49 by kernel_rfl).symm.trans hty)
  rw [care_data] at hd
  have hall : ∀ n, n < 10 → W.cell? ⟨0, n * 3, none⟩ = some (.int .i64 ((careAt n).dep : Int)) ∧ W.cell? ⟨0, n * 3 + 1, none⟩ = some (.bool (careAt n).wait) ∧ W.cell? ⟨0, n * 3 + 2, none⟩ = some (.int .i64 ((careAt n).good : Int)) := by
    intro n hn
    obtain ⟨fuel', d, q', hdi, he⟩ := arr_at Tryd.underlying49 hd hn
    rw [show Tryd.prog.cellsOf 25 = 3 by kernel_rfl] at he
    have hdd : d = (careAt n).data := by
      unfold careAt
      rw [List.getElem?_map] at hdi
      obtain ⟨c, hc, hcd⟩ := Option.map_eq_some_iff.1 hdi
      rw [List.getD_eq_getElem?_getD, hc, ← hcd]
      rfl
    subst hdd
    generalize careAt n = c at he
    obtain ⟨xs, m, rfl, hx, hl, hxl, hall⟩ := DataW.trod_struct Tryd.underlying25 he
    have h0 := hall 0 _ rfl
    have h1 := hall 1 _ rfl
    have h2 := hall 2 _ rfl
    match xs, hxl with
    | [x0, x1, x2], _ =>
      simp only [CareV.data, Prod.mk.injEq, List.map_cons, List.map_nil, DataW.agg.injEq, List.cons.injEq, and_true] at hx
      obtain ⟨⟨e0, e1, e2⟩, _⟩ := hx
      simp only [List.getElem?_cons_zero, List.getElem?_cons_succ] at h0 h1 h2
      obtain ⟨z0, c0, f0, _⟩ := DataW.trod_int Tryd.underlying3 h0
      obtain ⟨z1, c1, f1⟩ := DataW.trod_bool Tryd.underlying4 h1
      obtain ⟨z2, c2, f2, _⟩ := DataW.trod_int Tryd.underlying3 h2
      rw [f0] at e0
      rw [f1] at e1
      rw [f2] at e2
      simp only [DataW.lit.injEq, Lit.int.injEq, Lit.bool.injEq, true_and] at e0 e1 e2
      subst e0 e1 e2
      have k0 := congrArg (·[0]?) c0
      have k1 := congrArg (·[0]?) c1
      have k2 := congrArg (·[0]?) c2
      rw [show Tryd.prog.cellsOf _ = 1 by kernel_rfl] at k0 k1 k2
      simp only [List.getElem?_take, List.getElem?_drop] at k0 k1 k2
      refine ⟨?_, ?_, ?_⟩
      · rw [World.var?_cell hg hvar, ← Array.getElem?_toList]; simpa using k0
      · rw [World.var?_cell hg hvar, ← Array.getElem?_toList]; simpa using k1
      · rw [World.var?_cell hg hvar, ← Array.getElem?_toList]; simpa using k2
  refine ⟨?_, hall⟩
  exact cell_lt (hall 0 (by omega)).1
end Go.Proofs.YtjfmaebgihlegaaDoor
