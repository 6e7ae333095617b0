/-
  chains.Finder: its state; New, three, nearest.
-/
import Derived.Test.YtjfmaebgihlegaaDoorChainMath
import Derived.Test.YtjfmaebgihlegaaDoorClone
import Derived.Maps.OwnOps
import Derived.Maps.OwnSet
import Derived.Deep.QuietTactic
import Derived.BigQuiet
import Derived.IntWalk
namespace Go.Proofs.YtjfmaebgihlegaaDoor
open Go.RowKit Go.Maps

theorem keyU : Keyed Tryd.prog 71 := int_keyed Tryd.underlying71
theorem zeroIU (w : World) : (zeroValue 3).run Tryd.prog w = .ok (.int .i64 0) w := by kernel_rfl
theorem intInfoF : (Tryd.prog.info? 3).map (fun i => (i.zero, i.size, i.bytes)) = some (some (.int .i64 0), 1, 8) := by kernel_rfl
theorem wfU {k : Nat} (h : k < 4294967296) : (Lit.int .u32 (k : Int)).wf = true := by
  exact WalkArith.wf_u32 (by omega)
theorem keyOfU {k : Nat} (h : k < 4294967296) : keyOf Tryd.prog 71 (.int .u32 (k : Int)) = some (.int .u32 (k : Int)) := keyOf_int_mk Tryd.underlying71 (wfU h)
theorem wfI {k : Int} (h : -9223372036854775808 ≤ k ∧ k ≤ 9223372036854775807) : (Lit.int .i64 k).wf = true := WalkArith.wf_i64 (by omega)
theorem isKeyU (k : Int) : WideAt.IsKeyLit (.int .u32 k) := trivial

/-- the last place of each three bytes: those below m -/
def LastIs (w : World) (b : Nat) (D : List UInt8) (m : Nat) : Prop :=
  ∃ (n : Nat) (M : DataW Unit), n ≤ m ∧ w.ownsMap Tryd.prog 71 (plainElem Tryd.prog 3) b n M ∧
    ∀ k : Nat, (lastOf D k m = -1 → Maps.has M (.int .u32 (k : Int)) = false) ∧ (0 ≤ lastOf D k m → Maps.has M (.int .u32 (k : Int)) = true ∧ M.atKey (.int .u32 (k : Int)) (.lit (.int .i64 0)) = .lit (.int .i64 (lastOf D k m)))
theorem ownsMap_keepF {H : Type} {P : Program} {k : TypeId} {R : Value → Option (DataW H × List MemPlace)} {w w' : World} {b n : Nat} {D : DataW H} (h : w.ownsMap P k R b n D) (e : w'.heap[b]? = w.heap[b]?) : w'.ownsMap P k R b n D := by
  obtain ⟨es, clock, hb, r⟩ := h
  exact ⟨es, clock, e.trans hb, r⟩
theorem LastIs.keep {w w' : World} {b m : Nat} {D : List UInt8} (h : LastIs w b D m) (e : w'.heap[b]? = w.heap[b]?) : LastIs w' b D m := by
  obtain ⟨n, M, h1, h2, h3⟩ := h
  exact ⟨n, M, h1, ownsMap_keepF h2 e, h3⟩
theorem LastIs.lt {w : World} {b m : Nat} {D : List UInt8} (h : LastIs w b D m) : b < w.heap.size := by
  obtain ⟨n, M, h1, h2, h3⟩ := h
  exact h2.lt
theorem LastIs.look {w : World} {b m : Nat} {D : List UInt8} (h : LastIs w b D m) {k : Nat} (hk : k < 4294967296) :
    ∃ v ok, (Instr.lookup 67 (.map (some b)) (.int .u32 (k : Int)) true).run Tryd.prog w = .ok (.tuple #[.int .i64 v, .bool ok]) w ∧ ((ok = false ∧ lastOf D k m = -1) ∨ (ok = true ∧ v = lastOf D k m ∧ 0 ≤ v)) := by
  obtain ⟨n, M, h1, h2, h3⟩ := h
  obtain ⟨v, ps, hrun, hv⟩ := h2.look_ok keyU Tryd.underlying67 (zeroIU w) (plainElem_int Tryd.underlying3 (wfI (k := 0) (by omega))) (keyOfU hk)
  obtain ⟨c, rfl, hc, _⟩ := plainElem_int_inv Tryd.underlying3 hv
  simp only [Prod.mk.injEq] at hc
  have hr := lastOf_range D k m
  obtain ⟨a1, a2⟩ := h3 k
  by_cases c0 : lastOf D k m = -1
  · rw [a1 c0] at hrun
    exact ⟨_, _, hrun, .inl ⟨rfl, c0⟩⟩
  · obtain ⟨b1, b2⟩ := a2 (by omega)
    rw [b1] at hrun
    rw [b2] at hc
    have hcc : lastOf D k m = c := by
      have := hc.1
      injection this with this
      injection this
    exact ⟨_, _, hrun, .inr ⟨rfl, hcc.symm, by omega⟩⟩
theorem turned_frF {w w' : World} {b : Nat} (h : w.mapTurned w' b) : Fr (fun k => k = b) w w' := by
  have hg := h.grown
  exact ⟨hg.os, hg.tape, hg.output, hg.size, fun k hk hn => hg.block k hk (fun e => hn (by injection e))⟩
theorem LastIs.add {w : World} {b m : Nat} {D : List UInt8} (h : LastIs w b D m) (hm : m < 1000000000) :
    ∃ w', (Instr.mapUpdate 67 (.map (some b)) (.int .u32 (kd D m : Int)) (.int .i64 (m : Int))).run Tryd.prog w = .ok () w' ∧ LastIs w' b D (m + 1) ∧ Fr (fun j => j = b) w w' := by
  obtain ⟨n, M, h1, h2, h3⟩ := h
  obtain ⟨w', hrun, ho, ht⟩ := h2.store keyU Tryd.underlying67 (by unfold maxLen; omega) (keyOfU (kd_lt D m)) (plainElem_int Tryd.underlying3 (wfI (k := (m : Int)) (by omega)))
  refine ⟨w', hrun, ⟨n + 1, _, by omega, ho, fun k => ?_⟩, turned_frF ht⟩
  by_cases e : kd D m = k
  · subst e
    have hl : lastOf D (kd D m) (m + 1) = (m : Int) := by unfold lastOf; rw [if_pos rfl]
    rw [hl]
    refine ⟨fun h => by omega, fun _ => ⟨?_, ?_⟩⟩
    · rw [has_put_same h2.isMap (isKeyU _)]
    · rw [atKey_put_same h2.isMap (isKeyU _)]
  · have hl : lastOf D k (m + 1) = lastOf D k m := by conv => lhs; unfold lastOf; rw [if_neg e]
    have hne : (Lit.int .u32 (kd D m : Int)) ≠ Lit.int .u32 (k : Int) := by
      intro hh; injection hh with _ hh; omega
    rw [hl]
    obtain ⟨a1, a2⟩ := h3 k
    refine ⟨fun h => ?_, fun h => ?_⟩
    · rw [has_put_other hne.symm]; exact a1 h
    · rw [has_put_other hne.symm, atKey_put_other hne.symm]; exact a2 h

/-- how many places have a prior one -/
def learnt (D : List UInt8) (known : Nat) : Nat := min known (D.length - 2)
/-- a finder: map at q, itself at q + 1, its bytes below q, its rows from q + 2 on -/
structure FindM (w : World) (B q : Nat) (D : List UInt8) (known j : Nat) (X : Nat → Prop) : Prop where
  ex : ∃ A c A2 c2, Whole w (q + 1) 70 #[.slice A D.length c, .int .i64 (known : Int), .map (some q), .slice A2 (learnt D j) c2] ∧
    w.ownsRow B 5 1 (.slice A D.length c) D.length (bytesV D) ∧ (∀ g, (Value.slice A D.length c).ownBlock = some g → g < q) ∧
    w.ownsRow (q + 2) 3 1 (.slice A2 (learnt D j) c2) (learnt D j) (intsV (priorL D (learnt D j))) ∧ (∀ g, (Value.slice A2 (learnt D j) c2).ownBlock = some g → ¬ X g)
  mp : LastIs w q D (learnt D j)
  kle : known ≤ D.length
  jle : j ≤ D.length
  off : ∀ k, X k → q + 2 ≤ k
theorem FindM.fr {S : Nat → Prop} {w w' : World} {B q : Nat} {D : List UInt8} {known j : Nat} {X : Nat → Prop} (h : FindM w B q D known j X) (hB : B ≤ q) (hf : Fr S w w') (hS : ∀ k, B ≤ k → S k → X k) : FindM w' B q D known j X := by
  obtain ⟨A, c, A2, c2, h1, h2, h3, h4, h5⟩ := h.ex
  have hoff := h.off
  refine ⟨⟨A, c, A2, c2, h1.fr hf (fun hs => ?_), own_fr h2 hf (fun g hg hs => ?_), h3, own_fr h4 hf (fun g hg hs => h5 g hg (hS g (by have := (h4.lt g hg).1; omega) hs)), h5⟩,
    h.mp.keep (hf.block _ h.mp.lt (fun hs => ?_)), h.kle, h.jle, h.off⟩
  · have := hoff _ (hS _ (by omega) hs); omega
  · have := hoff _ (hS _ (h2.lt g hg).1 hs); have := h3 g hg; omega
  · have := hoff _ (hS _ hB hs); omega
/-- fresh blocks may be barred -/
theorem FindM.bar {w : World} {B q : Nat} {D : List UInt8} {known j : Nat} {X Y : Nat → Prop} (h : FindM w B q D known j X) (hY : ∀ k, Y k → X k ∨ w.heap.size ≤ k) : FindM w B q D known j Y := by
  obtain ⟨A, c, A2, c2, h1, h2, h3, h4, h5⟩ := h.ex
  have hlt := h1.lt
  refine ⟨⟨A, c, A2, c2, h1, h2, h3, h4, fun g hg hy => ?_⟩, h.mp, h.kle, h.jle, fun k hk => ?_⟩
  · rcases hY g hy with hx | hx
    · exact h5 g hg hx
    · have := (h4.lt g hg).2; omega
  · rcases hY k hk with hx | hx
    · exact h.off k hx
    · omega
theorem FindM.lt {w : World} {B q : Nat} {D : List UInt8} {known j : Nat} {X : Nat → Prop} (h : FindM w B q D known j X) : q + 1 < w.heap.size := by
  obtain ⟨A, c, A2, c2, h1, _⟩ := h.ex
  exact h1.lt
theorem FindM.drewN {w : World} {B q : Nat} {D : List UInt8} {known j : Nat} {X : Nat → Prop} (h : FindM w B q D known j X) (n : Nat) : FindM (w.drewN n) B q D known j X := ⟨h.ex, h.mp, h.kle, h.jle, h.off⟩
theorem FindM.byte {w : World} {B q : Nat} {D : List UInt8} {known j : Nat} {X : Nat → Prop} (h : FindM w B q D known j X) {i : Nat} (hi : i < D.length) : ∃ g c, w.cell? ⟨q + 1, 0, none⟩ = some (.slice (some ⟨g, 0, none⟩) D.length c) ∧ w.cell? ⟨g, i, none⟩ = some (.int .u8 (bt D i : Int)) := by
  obtain ⟨A, c, A2, c2, h1, h2, h3, h4, h5⟩ := h.ex
  obtain ⟨g, cap, hv, hb, hlt⟩ := h2.form (by omega)
  injection hv with hA
  subst hA
  refine ⟨g, c, by rw [h1.cell 0]; rfl, ?_⟩
  have := h2.cells (g := g) rfl i (.int .u8 (bt D i : Int)) (by simp [bytesV, byteV, hi, bt_get hi])
  rcases Nat.eq_zero_or_pos i with rfl | hi
  · simpa [Addr.add] using this
  · simpa [Addr.add, show i ≠ 0 by omega] using this

def NewF (D : List UInt8) (w : World) (e : Ending) (w' : World) : Prop := ∃ q, e = .returned (.pointer (some ⟨q + 1, 0, none⟩)) ∧ FindM w' w.heap.size q D 0 0 (fun _ => False) ∧ w.heap.size ≤ q ∧ w'.heap.size = q + 2 ∧ Below w.heap.size w w'
set_option maxHeartbeats 400000 in
theorem chainNew (D : List UInt8) (a : Option Addr) (c B : Nat) (w : World) (hl : D.length ≤ 1000000) (hs : Sl w B a (bytesV D)) (hB : B ≤ w.heap.size) :
    Calls Tryd.prog 22 #[.slice a D.length c] w (NewF D w) := by
  have hmm := @run_makeMap Tryd.prog
  have CL := Lib.hid (clone_any D a c B w (by omega) hs hB)
  clear hs
  go_enter Tryd.func22, Tryd.ntmps22
  go_wp2_with fail
  (with_reducible refine CL.out.mono ?_)
  rintro e w1 ⟨A1, c1, rfl, ho1, hb1⟩
  rw [len_bytesV] at ho1 ⊢
  have HO := Lib.hid ho1
  have HB := Lib.hid hb1
  clear ho1 hb1
  go_wp2_with fail
  go_ret
  refine ⟨w1.heap.size, rfl, ⟨⟨A1, c1, none, 0, ?_, (HO.out.alloc _).alloc _, fun g hg => (HO.out.lt g hg).2, ?_, fun _ _ h => h⟩, ?_, by omega, by omega, fun _ h => h.elim⟩, HB.out.size, by simp, (HB.out.alloc HB.out.size _).alloc (by have := HB.out.size; simp; omega) _⟩
  · have h := Whole.new (w1.alloc (.map #[] 0)) 70 #[.slice A1 D.length c1, .int .i64 0, .map (some w1.heap.size), .slice none 0 0]
    have e : learnt D 0 = 0 := by unfold learnt; omega
    rw [e]
    simpa using h
  · have e : learnt D 0 = 0 := by unfold learnt; omega
    rw [e]
    exact World.ownsRow_nil _ _ _ _
  · have e : learnt D 0 = 0 := by unfold learnt; omega
    rw [e]
    exact ⟨0, .map [], Nat.le_refl _, (World.ownsMap_made w1 _ _ _).alloc _, fun k => ⟨fun _ => rfl, fun h => by simp [lastOf] at h⟩⟩
theorem or3 (x0 x1 x2 : Nat) (h0 : x0 < 256) (h1 : x1 < 256) (h2 : x2 < 256) : bits .or .u32 (bits .or .u32 (x0 : Int) ((x1 : Int) * 256)) ((x2 : Int) * 65536) = ((x0 + 256 * x1 + 65536 * x2 : Nat) : Int) := by
  have e1 : ((x1 : Int) * 256) = ((256 * x1 : Nat) : Int) := by omega
  have e2 : ((x2 : Int) * 65536) = ((65536 * x2 : Nat) : Int) := by omega
  have a1 : x0 ||| 256 * x1 = x0 + 256 * x1 := by
    have := Nat.two_pow_add_eq_or_of_lt (i := 8) (b := x0) (by omega) x1
    rw [show (2 : Nat) ^ 8 = 256 from rfl] at this
    rw [Nat.or_comm]; omega
  have a2 : (x0 + 256 * x1) ||| 65536 * x2 = x0 + 256 * x1 + 65536 * x2 := by
    have := Nat.two_pow_add_eq_or_of_lt (i := 16) (b := x0 + 256 * x1) (by omega) x2
    rw [show (2 : Nat) ^ 16 = 65536 from rfl] at this
    rw [Nat.or_comm]; omega
  rw [e1, e2, u32_or_nat _ _ (by omega) (by omega), a1, u32_or_nat _ _ (by omega) (by omega), a2]
set_option maxRecDepth 100000 in
set_option maxHeartbeats 1000000 in
theorem three_any (B q : Nat) (D : List UInt8) (known j i : Nat) {X : Nat → Prop} (w : World) (h : FindM w B q D known j X) (hl : D.length ≤ 1000000) (hi : i + 3 ≤ D.length) :
    Calls Tryd.prog 27 #[.pointer (some ⟨q + 1, 0, none⟩), .int .i64 (i : Int)] w fun e w' => e = .returned (.int .u32 (kd D i : Int)) ∧ ∃ n, w' = w.drewN n := by
  obtain ⟨g, c, c0, d0⟩ := h.byte (show i < D.length by omega)
  obtain ⟨g1, c1, e1, d1⟩ := h.byte (show i + 1 < D.length by omega)
  obtain ⟨g2, c2, e2, d2⟩ := h.byte (show i + 2 < D.length by omega)
  rw [c0] at e1 e2
  injection e1 with e1
  injection e1 with e1
  injection e1 with e1
  injection e1 with e1
  subst e1
  injection e2 with e2
  injection e2 with e2
  injection e2 with e2
  injection e2 with e2
  subst e2
  have b0 := bt_lt D i
  have b1 := bt_lt D (i + 1)
  have b2 := bt_lt D (i + 2)
  have HK := Lib.hid (show kd D i = bt D i + 256 * bt D (i + 1) + 65536 * bt D (i + 2) from rfl)
  generalize bt D i = x0 at d0 b0 HK
  generalize bt D (i + 1) = x1 at d1 b1 HK
  generalize bt D (i + 2) = x2 at d2 b2 HK
  have i0 : (0 : Int) ≤ (i : Int) := Int.natCast_nonneg _
  have i1 : (i : Int) < (D.length : Int) := by omega
  obtain ⟨j1, hj1⟩ : ∃ j1, j1 = i + 1 := ⟨_, rfl⟩
  obtain ⟨j2, hj2⟩ : ∃ j2, j2 = i + 2 := ⟨_, rfl⟩
  rw [← hj1] at d1
  rw [← hj2] at d2
  have v1 : IntKind.i64.wrap ((i : Int) + 1) = (j1 : Int) := by rw [IntWalk.i64_in _ (by omega)]; omega
  have v2 : IntKind.i64.wrap ((i : Int) + 2) = (j2 : Int) := by rw [IntWalk.i64_in _ (by omega)]; omega
  have k0 : (0 : Int) ≤ (j1 : Int) := Int.natCast_nonneg _
  have k1 : (j1 : Int) < (D.length : Int) := by omega
  have k2 : (0 : Int) ≤ (j2 : Int) := Int.natCast_nonneg _
  have k3 : (j2 : Int) < (D.length : Int) := by omega
  have HOR := Lib.hid (or3 x0 x1 x2 b0 b1 b2)
  clear h hj1 hj2 hi
  go_enter Tryd.func27, Tryd.ntmps27
  go_wp2_with fail
  go_quiet (fail)
  go_wp2_with fail
  go_ret
  exact ⟨by rw [HK.out, ← HOR.out]; rfl, _, rfl⟩
theorem nearest_any (B q : Nat) (D : List UInt8) (known j k : Nat) {X : Nat → Prop} (w : World) (h : FindM w B q D known j X) (hk : k < 4294967296) :
    Calls Tryd.prog 28 #[.pointer (some ⟨q + 1, 0, none⟩), .int .u32 (k : Int)] w fun e w' => e = .returned (.int .i64 (lastOf D k (learnt D j))) ∧ w = w' := by
  obtain ⟨A, c, A2, c2, h1, h2, h3, h4, h5⟩ := h.ex
  have e2 := h1.cell 2
  simp at e2
  obtain ⟨v, ok, hrun, hv⟩ := h.mp.look hk
  have HV := Lib.hid hv
  generalize lastOf D k (learnt D j) = z at hv HV
  clear h h1 h2 h3 h4 h5
  rcases hv with ⟨rfl, hz⟩ | ⟨rfl, hz, _⟩
  · have HZ := Lib.hid hz
    clear hz HV
    go_enter Tryd.func28, Tryd.ntmps28
    go_wp2_with fail
    go_ret
    exact ⟨by rw [HZ.out]; rfl, rfl⟩
  · have HZ := Lib.hid hz
    clear hz HV
    go_enter Tryd.func28, Tryd.ntmps28
    go_wp2_with fail
    go_ret
    exact ⟨by rw [← HZ.out]; rfl, rfl⟩
end Go.Proofs.YtjfmaebgihlegaaDoor
