/-
  AlphaFixed: for every input the law returns true, and each argument reads afterwards as it read before. Condition: the package-level tables lie as the program text lays them (the card ties that).
-/
import Derived.Test.YtmdofdobplfhcaaDoorOpen
import Derived.Test.YtmdofdobplfhcaaDoorAlphaLawFixed
import Derived.Test.YtmdofdobplfhcaaDoorRows
import Derived.Test.YtmdofdobplfhcaaDoorCards
import Derived.Test.YtmdofdobplfhcaaDoorTie
import Derived.Deep.DeepHandedRow
import Derived.Lib.LaidTab
import Derived.WalkKit
import Derived.ProofKit
import Derived.OpenShut
import Derived.ShutString
import Derived.ChangeOld
import Derived.Below
namespace Go.Proofs.YtmdofdobplfhcaaDoor.alphaFixed
open Go.ChangeShapes Go.WideShapes Go.ChangeAt Go.RowKit
set_option linter.unusedVariables false

theorem own : ownKnob Tryd.prog.godebug = none := by kernel_rfl
theorem laidOut : laidOutB Tryd.prog = true := by kernel_rfl
theorem gTab0 : Tryd.prog.globalNamed "punnet/alpha.lengthBases" = some 0 := by kernel_rfl
theorem gTabType0 : (Tryd.prog.globals[0]?).map (·.type) = some 41 := by kernel_rfl
theorem gCells0 : Tryd.prog.cellsOf 41 = 29 := by kernel_rfl
theorem gCell0 : Tryd.prog.cellsOf 3 = 1 := by kernel_rfl
theorem table0 {W : World} (h : laidMetH Tryd.prog Rows.alphaFixedRow.laid W) : Lib.TabIs Tryd.prog W "punnet/alpha.lengthBases" .i64 lenBases :=
  Lib.tabIs_of_head gTab0 gTabType0 Tryd.underlying41 Tryd.underlying3 gCell0 gCells0 h
theorem gTab1 : Tryd.prog.globalNamed "punnet/alpha.lengthBits" = some 1 := by kernel_rfl
theorem gTabType1 : (Tryd.prog.globals[1]?).map (·.type) = some 41 := by kernel_rfl
theorem gCells1 : Tryd.prog.cellsOf 41 = 29 := by kernel_rfl
theorem gCell1 : Tryd.prog.cellsOf 3 = 1 := by kernel_rfl
theorem table1 {W : World} (h : laidMetH Tryd.prog Rows.alphaFixedRow.laid W) : Lib.TabIs Tryd.prog W "punnet/alpha.lengthBits" .i64 lenBits :=
  Lib.tabIs_of_head gTab1 gTabType1 Tryd.underlying41 Tryd.underlying3 gCell1 gCells1 (laidMet_tail h)
theorem gTab2 : Tryd.prog.globalNamed "punnet/alpha.distBases" = some 2 := by kernel_rfl
theorem gTabType2 : (Tryd.prog.globals[2]?).map (·.type) = some 42 := by kernel_rfl
theorem gCells2 : Tryd.prog.cellsOf 42 = 30 := by kernel_rfl
theorem gCell2 : Tryd.prog.cellsOf 3 = 1 := by kernel_rfl
theorem table2 {W : World} (h : laidMetH Tryd.prog Rows.alphaFixedRow.laid W) : Lib.TabIs Tryd.prog W "punnet/alpha.distBases" .i64 distBases :=
  Lib.tabIs_of_head gTab2 gTabType2 Tryd.underlying42 Tryd.underlying3 gCell2 gCells2 (laidMet_tail (laidMet_tail h))
theorem gTab3 : Tryd.prog.globalNamed "punnet/alpha.order" = some 3 := by kernel_rfl
theorem gTabType3 : (Tryd.prog.globals[3]?).map (·.type) = some 43 := by kernel_rfl
theorem gCells3 : Tryd.prog.cellsOf 43 = 19 := by kernel_rfl
theorem gCell3 : Tryd.prog.cellsOf 3 = 1 := by kernel_rfl
theorem table3 {W : World} (h : laidMetH Tryd.prog Rows.alphaFixedRow.laid W) : Lib.TabIs Tryd.prog W "punnet/alpha.order" .i64 orderTab :=
  Lib.tabIs_of_head gTab3 gTabType3 Tryd.underlying43 Tryd.underlying3 gCell3 gCells3 (laidMet_tail (laidMet_tail (laidMet_tail h)))

theorem contract (H : Type) (enc : TypeId × Value → H) (W : World) (base : Nat) (args : Array Value) (ds gs : List (DataW H)) (before : List MemPlace)
    (hval : ∀ (j : Nat) t v, Tryd.f6.params[j]? = some t → args[j]? = some v → Value.okWide Tryd.prog W .any base t v)
    (hW : DataW.Whole enc Tryd.prog Tryd.f6.params.toList Rows.alphaFixedSpec.vars false W args.toList ds gs before) (hL : laidMetH Tryd.prog Rows.alphaFixedRow.laid W) :
    Calls Tryd.prog 6 args W fun e W' => ∃ v, e = .returned v ∧ Rows.alphaFixedSpec.post enc Tryd.prog Tryd.f6 false true false false W args v W' := by
  have hW' := hW
  obtain ⟨p, q, hA0, hV, rfl, hfz, hnd⟩ := hW
  have hA : DataW.TrodAll enc Tryd.prog W 0 (fun _ => true) true Tryd.f6.params.toList args.toList ds p := hA0
  rw [Tryd.params6] at hA hval
  obtain ⟨v0, vs0, d0, ds0, p0, q0, hargs, rfl, rfl, h0, r0⟩ := trodAll_cons hA
  obtain ⟨rfl, rfl, rfl⟩ := trodAll_nil r0
  obtain rfl : args = #[v0] := by cases args; simp_all
  obtain ⟨rfl, rfl⟩ := trodVars_none hV
  obtain ⟨x0, rfl, rfl, rfl, wf0⟩ := open_int Tryd.underlying3 (hval 0 3 v0 rfl rfl) h0
  have bd0 := bounds_i64 wf0
  clear hA0
  have tb0 := table0 hL
  have tb1 := table1 hL
  have tb2 := table2 hL
  have tb3 := table3 hL
  refine (alphaFixed_walk x0 W bd0.1 bd0.2 (tab_of (fun i hi => (tb0.cell gTab0 i hi))) (tab_of (fun i hi => (tb1.cell gTab1 i hi))) (tab_of (fun i hi => (tb2.cell gTab2 i hi))) (tab_of (fun i hi => (tb3.cell gTab3 i hi)))).mono fun e W' ⟨he, bel⟩ => ?_
  subst he
  exact ⟨_, rfl, _, _, _, [], _, [], hW', trodAll_mk1 (shut_bool Tryd.underlying4 _), (trodAll_cons_mk (shut_int Tryd.underlying3 wf0) trodAll_mk0), rfl, bel.frame _, fun h => by cases h⟩

/-- A world for the witness: the settled one, the tables holding what their initialisers lay. -/
noncomputable def laidWorld (os : Os) : World :=
  { World.holding Tryd.prog os ⟨#[], #[], []⟩ with heap := (((((World.holding Tryd.prog os ⟨#[], #[], []⟩).heap.modify 0 (fun
      | .cells _ t frozen => .cells (lenBases.map fun z => Value.int .i64 z).toArray t frozen
      | o => o)).modify 1 (fun
      | .cells _ t frozen => .cells (lenBits.map fun z => Value.int .i64 z).toArray t frozen
      | o => o)).modify 2 (fun
      | .cells _ t frozen => .cells (distBases.map fun z => Value.int .i64 z).toArray t frozen
      | o => o)).modify 3 (fun
      | .cells _ t frozen => .cells (orderTab.map fun z => Value.int .i64 z).toArray t frozen
      | o => o)) }
theorem laid_met (os : Os) : laidMet Tryd.prog Rows.alphaFixedRow.laid ((laidWorld os).forCall (fun _ _ => 0) ⟨#[], #[.int .i64 0], []⟩).memory :=
  laidMet_of_run' 8 (by kernel_rfl) (by kernel_rfl)
theorem reads (os : Os) {H : Type} (enc : TypeId × Value → H) : ∃ places, DataW.whole enc Tryd.prog ((laidWorld os).forCall (fun _ _ => 0) ⟨#[], #[.int .i64 0], []⟩).memory Tryd.f6.params.toList Rows.alphaFixedSpec.vars false (#[.int .i64 0] : Array Value).toList 8 = some ([.lit (.int .i64 0)], [], places) :=
  ⟨[], by kernel_rfl⟩

set_option maxRecDepth 100000 in
theorem lifted (os : Os) (started : os.Started) (H : Type) (enc : TypeId × Value → H) (F : Stop.Interp) :
    ReturnsInHanded {} Tryd.checked os 6 .any ((OpenSpec.ofChange Rows.alphaFixedSpec).preRow enc Tryd.prog Tryd.f6 Rows.alphaFixedRow.domain false Rows.alphaFixedRow.laid) (((OpenSpec.ofChange Rows.alphaFixedSpec).at F).post enc Tryd.prog Tryd.f6 false true false false) := by
  obtain ⟨places, hx⟩ := reads os enc
  refine returnsInHanded_of_row (C := Tryd.checked) (s := OpenSpec.ofChange Rows.alphaFixedSpec) own started (by kernel_rfl) Tryd.func6
    (witness_row_at (enc := enc) (C := Tryd.checked) false (laidWorld os) #[.int .i64 0] rfl (by kernel_rfl) (by kernel_rfl) (by kernel_rfl)
      (OpenSpec.preRow_of_cond 8 hx (by kernel_rfl) (fun k hk => by cases hk) (by kernel_rfl) (laid_met os))) ?_
  intro W base args ds gs before hval hW _ _ _ hL _ _
  exact contract H enc W base args ds gs before hval hW hL

theorem said : Rows.AlphaFixedSaid :=
  OpenClaim.holds_of_cond 6 Tryd.f6 rfl rfl rfl rfl rfl rfl rfl ⟨rfl, rfl, rfl, rfl, rfl⟩ rfl rfl rfl rfl rfl (by kernel_rfl) Tryd.func6 (by kernel_rfl)
    (of_decide_eq_true (by kernel_rfl)) (by unfold Func.isWrapper; first | (rw [if_pos (by decide +kernel)]; kernel_rfl) | (rw [if_neg (by decide +kernel)]; exact ⟨rfl, rfl⟩))
    (fun os started H enc _ F => by rw [OpenClaim.pre_eq_preRow]; exact lifted os started H enc F)

theorem plain (f : FuncId) (fn : Func) (hf : Tryd.pinned.checked.prog.funcNamed "punnet/punnetlaw10.AlphaFixed" = some f) (hfn : Tryd.pinned.checked.prog.funcs[f]? = some fn) :
    false = Tryd.pinned.checked.prog.looks [] ∧ ∀ (j : Nat) t, fn.params[j]? = some t → Tryd.pinned.checked.prog.wantsStandIn t = false := by
  obtain rfl : f = 6 := Option.some.inj ((show Tryd.prog.funcNamed "punnet/punnetlaw10.AlphaFixed" = some 6 by kernel_rfl).symm.trans hf) |>.symm
  obtain rfl : fn = Tryd.f6 := (Option.some.inj (Tryd.func6.symm.trans hfn)).symm
  refine ⟨by kernel_rfl, fun j t ht => ?_⟩
  rw [Tryd.params6] at ht
  have hm := Array.mem_of_getElem? ht
  have hm : t = 3 := by simpa using hm
  subst hm
  · exact (show Tryd.prog.wantsStandIn 3 = false by kernel_rfl)

/-- The statement: the card. -/
theorem card : Rows.AlphaFixedCardSaid :=
  Claim7.holds_tied_plain_at .later [] _ _ _ _ said (fun _ h => by cases h) (by kernel_rfl) (fun _ h => by cases h) alphaFixed_row_tie rfl ⟨rfl, rfl⟩ (by kernel_rfl) rfl plain (by kernel_rfl)
#print axioms card
end Go.Proofs.YtmdofdobplfhcaaDoor.alphaFixed
