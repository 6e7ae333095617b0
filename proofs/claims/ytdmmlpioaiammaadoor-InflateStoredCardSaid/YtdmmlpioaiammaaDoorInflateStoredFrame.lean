/-
  InflateStored: for every input the law returns true, and each argument reads afterwards as it read before. Condition: the package-level tables lie as the program text lays them (the card ties that).
-/
import Derived.Test.YtdmmlpioaiammaaDoorOpen
import Derived.Test.YtdmmlpioaiammaaDoorTabs
import Derived.Test.YtdmmlpioaiammaaDoorInflateLawStored
import Derived.Test.YtdmmlpioaiammaaDoorRows
import Derived.Test.YtdmmlpioaiammaaDoorCards
import Derived.Test.YtdmmlpioaiammaaDoorTie
import Derived.Deep.DeepHandedRow
import Derived.Lib.LaidTab
import Derived.WalkKit
import Derived.ProofKit
import Derived.OpenShut
import Derived.ShutString
import Derived.ChangeOld
import Derived.Below
namespace Go.Proofs.YtdmmlpioaiammaaDoor.inflateStored
open Go.ChangeShapes Go.WideShapes Go.ChangeAt Go.RowKit
set_option linter.unusedVariables false

theorem own : ownKnob Tryd.prog.godebug = none := by kernel_rfl
theorem laidOut : laidOutB Tryd.prog = true := by kernel_rfl
theorem gTab0 : Tryd.prog.globalNamed "punnet/alpha.lengthBases" = some 1 := by kernel_rfl
theorem gTabType0 : (Tryd.prog.globals[1]?).map (·.type) = some 84 := by kernel_rfl
theorem gCells0 : Tryd.prog.cellsOf 84 = 29 := by kernel_rfl
theorem gCell0 : Tryd.prog.cellsOf 3 = 1 := by kernel_rfl
theorem table0 {W : World} (h : laidMetH Tryd.prog Rows.inflateStoredRow.laid W) : Lib.TabIs Tryd.prog W "punnet/alpha.lengthBases" .i64 lenBases :=
  Lib.tabIs_of_head gTab0 gTabType0 Tryd.underlying84 Tryd.underlying3 gCell0 gCells0 h
theorem gTab1 : Tryd.prog.globalNamed "punnet/alpha.lengthBits" = some 2 := by kernel_rfl
theorem gTabType1 : (Tryd.prog.globals[2]?).map (·.type) = some 84 := by kernel_rfl
theorem gCells1 : Tryd.prog.cellsOf 84 = 29 := by kernel_rfl
theorem gCell1 : Tryd.prog.cellsOf 3 = 1 := by kernel_rfl
theorem table1 {W : World} (h : laidMetH Tryd.prog Rows.inflateStoredRow.laid W) : Lib.TabIs Tryd.prog W "punnet/alpha.lengthBits" .i64 lenBits :=
  Lib.tabIs_of_head gTab1 gTabType1 Tryd.underlying84 Tryd.underlying3 gCell1 gCells1 (laidMet_tail h)
theorem gTab2 : Tryd.prog.globalNamed "punnet/alpha.distBases" = some 3 := by kernel_rfl
theorem gTabType2 : (Tryd.prog.globals[3]?).map (·.type) = some 85 := by kernel_rfl
theorem gCells2 : Tryd.prog.cellsOf 85 = 30 := by kernel_rfl
theorem gCell2 : Tryd.prog.cellsOf 3 = 1 := by kernel_rfl
theorem table2 {W : World} (h : laidMetH Tryd.prog Rows.inflateStoredRow.laid W) : Lib.TabIs Tryd.prog W "punnet/alpha.distBases" .i64 distBases :=
  Lib.tabIs_of_head gTab2 gTabType2 Tryd.underlying85 Tryd.underlying3 gCell2 gCells2 (laidMet_tail (laidMet_tail h))
theorem gTab3 : Tryd.prog.globalNamed "punnet/alpha.order" = some 0 := by kernel_rfl
theorem gTabType3 : (Tryd.prog.globals[0]?).map (·.type) = some 81 := by kernel_rfl
theorem gCells3 : Tryd.prog.cellsOf 81 = 19 := by kernel_rfl
theorem gCell3 : Tryd.prog.cellsOf 3 = 1 := by kernel_rfl
theorem table3 {W : World} (h : laidMetH Tryd.prog Rows.inflateStoredRow.laid W) : Lib.TabIs Tryd.prog W "punnet/alpha.order" .i64 orderTab :=
  Lib.tabIs_of_head gTab3 gTabType3 Tryd.underlying81 Tryd.underlying3 gCell3 gCells3 (laidMet_tail (laidMet_tail (laidMet_tail h)))

theorem contract (H : Type) (enc : TypeId × Value → H) (W : World) (base : Nat) (args : Array Value) (ds gs : List (DataW H)) (before : List MemPlace)
    (hval : ∀ (j : Nat) t v, Tryd.f3.params[j]? = some t → args[j]? = some v → Value.okWide Tryd.prog W .any base t v)
    (hW : DataW.Whole enc Tryd.prog Tryd.f3.params.toList Rows.inflateStoredSpec.vars false W args.toList ds gs before) (hL : laidMetH Tryd.prog Rows.inflateStoredRow.laid W) :
    Calls Tryd.prog 3 args W fun e W' => ∃ v, e = .returned v ∧ Rows.inflateStoredSpec.post enc Tryd.prog Tryd.f3 false true false false W args v W' := by
  have hW' := hW
  obtain ⟨p, q, hA0, hV, rfl, hfz, hnd⟩ := hW
  have hA : DataW.TrodAll enc Tryd.prog W 0 (fun _ => true) true Tryd.f3.params.toList args.toList ds p := hA0
  rw [Tryd.params3] at hA hval
  obtain ⟨v0, vs0, d0, ds0, p0, q0, hargs, rfl, rfl, h0, r0⟩ := trodAll_cons hA
  obtain ⟨v1, vs1, d1, ds1, p1, q1, rfl, rfl, rfl, h1, r1⟩ := trodAll_cons r0
  obtain ⟨rfl, rfl, rfl⟩ := trodAll_nil r1
  obtain rfl : args = #[v0, v1] := by cases args; simp_all
  obtain ⟨rfl, rfl⟩ := trodVars_none hV
  obtain ⟨a0, len0, cap0, rfl⟩ := okWide_slice Tryd.underlying22 (hval 0 22 v0 rfl rfl)
  have k0 := h0
  have lt0 : ∀ x ∈ p0, x.block < W.heap.size := by obtain ⟨m, hm⟩ := k0; exact DataW.trod_lt m _ _ _ hm
  obtain ⟨l0, rfl, sl0, bd0, lc0, cm0⟩ := open_parts h0
  obtain ⟨x1, rfl, rfl, rfl, wf1⟩ := open_int Tryd.underlying23 (hval 1 23 v1 rfl rfl) h1
  have bd1 := bounds_u16 wf1
  obtain ⟨n1, rfl⟩ := Int.eq_ofNat_of_zero_le bd1.1
  clear hA0
  refine (inflateStored_walk a0 l0 cap0 n1 W (Nat.le_trans lc0 cm0) lc0 bd0 sl0 (by omega)).mono fun e W' ⟨he, bel⟩ => ?_
  subst he
  exact ⟨_, rfl, _, _, _, [], _, [], hW', trodAll_mk1 (shut_bool Tryd.underlying4 _), (trodAll_cons_mk (Below.trod laidOut (by kernel_rfl) (of_decide_eq_true (by kernel_rfl)) k0 bel lt0) (trodAll_cons_mk (shut_int Tryd.underlying23 wf1) trodAll_mk0)), rfl, bel.frame _, fun h => by cases h⟩

/-- A world for the witness: the settled one, the tables holding what their initialisers lay. -/
noncomputable def laidWorld (os : Os) : World :=
  { World.holding Tryd.prog os ⟨#[], #[], []⟩ with heap := (((((World.holding Tryd.prog os ⟨#[], #[], []⟩).heap.modify 1 (fun
      | .cells _ t frozen => .cells (lenBases.map fun z => Value.int .i64 z).toArray t frozen
      | o => o)).modify 2 (fun
      | .cells _ t frozen => .cells (lenBits.map fun z => Value.int .i64 z).toArray t frozen
      | o => o)).modify 3 (fun
      | .cells _ t frozen => .cells (distBases.map fun z => Value.int .i64 z).toArray t frozen
      | o => o)).modify 0 (fun
      | .cells _ t frozen => .cells (orderTab.map fun z => Value.int .i64 z).toArray t frozen
      | o => o)) }
theorem laid_met (os : Os) : laidMet Tryd.prog Rows.inflateStoredRow.laid ((laidWorld os).forCall (fun _ _ => 0) ⟨#[], #[.slice none 0 0, .int .u16 0], []⟩).memory :=
  laidMet_of_run' 8 (by kernel_rfl) (by kernel_rfl)
theorem reads (os : Os) {H : Type} (enc : TypeId × Value → H) : ∃ places, DataW.whole enc Tryd.prog ((laidWorld os).forCall (fun _ _ => 0) ⟨#[], #[.slice none 0 0, .int .u16 0], []⟩).memory Tryd.f3.params.toList Rows.inflateStoredSpec.vars false (#[.slice none 0 0, .int .u16 0] : Array Value).toList 8 = some ([.nil, .lit (.int .u16 0)], [], places) :=
  ⟨[], by kernel_rfl⟩

set_option maxRecDepth 100000 in
theorem lifted (os : Os) (started : os.Started) (H : Type) (enc : TypeId × Value → H) (F : Stop.Interp) :
    ReturnsInHanded {} Tryd.checked os 3 .any ((OpenSpec.ofChange Rows.inflateStoredSpec).preRow enc Tryd.prog Tryd.f3 Rows.inflateStoredRow.domain false Rows.inflateStoredRow.laid) (((OpenSpec.ofChange Rows.inflateStoredSpec).at F).post enc Tryd.prog Tryd.f3 false true false false) := by
  obtain ⟨places, hx⟩ := reads os enc
  refine returnsInHanded_of_row (C := Tryd.checked) (s := OpenSpec.ofChange Rows.inflateStoredSpec) own started (by kernel_rfl) Tryd.func3
    (witness_row_at (enc := enc) (C := Tryd.checked) false (laidWorld os) #[.slice none 0 0, .int .u16 0] rfl (by kernel_rfl) (by kernel_rfl) (by kernel_rfl)
      (OpenSpec.preRow_of_cond 8 hx (by kernel_rfl) (fun k hk => by cases hk) (by kernel_rfl) (laid_met os))) ?_
  intro W base args ds gs before hval hW _ _ _ hL _ _
  exact contract H enc W base args ds gs before hval hW hL

theorem said : Rows.InflateStoredSaid :=
  OpenClaim.holds_of_cond 3 Tryd.f3 rfl rfl rfl rfl rfl rfl rfl ⟨rfl, rfl, rfl, rfl, rfl⟩ rfl rfl rfl rfl rfl (by kernel_rfl) Tryd.func3 (by kernel_rfl)
    (of_decide_eq_true (by kernel_rfl)) (by unfold Func.isWrapper; first | (rw [if_pos (by decide +kernel)]; kernel_rfl) | (rw [if_neg (by decide +kernel)]; exact ⟨rfl, rfl⟩))
    (fun os started H enc _ F => by rw [OpenClaim.pre_eq_preRow]; exact lifted os started H enc F)

theorem plain (f : FuncId) (fn : Func) (hf : Tryd.pinned.checked.prog.funcNamed "punnet/punnetlaw13.InflateStored" = some f) (hfn : Tryd.pinned.checked.prog.funcs[f]? = some fn) :
    false = Tryd.pinned.checked.prog.looks [] ∧ ∀ (j : Nat) t, fn.params[j]? = some t → Tryd.pinned.checked.prog.wantsStandIn t = false := by
  obtain rfl : f = 3 := Option.some.inj ((show Tryd.prog.funcNamed "punnet/punnetlaw13.InflateStored" = some 3 by kernel_rfl).symm.trans hf) |>.symm
  obtain rfl : fn = Tryd.f3 := (Option.some.inj (Tryd.func3.symm.trans hfn)).symm
  refine ⟨by kernel_rfl, fun j t ht => ?_⟩
  rw [Tryd.params3] at ht
  have hm := Array.mem_of_getElem? ht
  have hm : t = 22 ∨ t = 23 := by simpa using hm
  rcases hm with rfl | rfl
  · exact (show Tryd.prog.wantsStandIn 22 = false by kernel_rfl)
  · exact (show Tryd.prog.wantsStandIn 23 = false by kernel_rfl)

/-- The statement: the card. -/
theorem card : Rows.InflateStoredCardSaid :=
  Claim7.holds_tied_plain_at .later [] _ _ _ _ said (fun _ h => by cases h) (by kernel_rfl) (fun _ h => by cases h) inflateStored_row_tie rfl ⟨rfl, rfl⟩ (by kernel_rfl) rfl plain (by kernel_rfl)
#print axioms card
end Go.Proofs.YtdmmlpioaiammaaDoor.inflateStored
