/-
  lazy: Level, the closure that learns and looks. Condition: the levels' table lies as the program text lays it.
-/
import Derived.Test.YtjfmaebgihlegaaDoorCares
import Derived.Test.YtjfmaebgihlegaaDoorChain3
import Derived.Test.YtjfmaebgihlegaaDoorTokRight
namespace Go.Proofs.YtjfmaebgihlegaaDoor
open Go.RowKit Go.Maps

def careV (c : CareV) : Value := .agg #[.int .i64 (c.dep : Int), .bool c.wait, .int .i64 (c.good : Int)]
def noCare : CareV := ⟨0, false, 0⟩
set_option maxHeartbeats 800000 in
theorem level_in (n : Nat) (w : World) (hn : n < 10) (hc : CaresIs w) :
    Calls Tryd.prog 6 #[.int .i64 (n : Int)] w fun e w' => e = .returned (.tuple #[careV (careAt n), .bool true]) ∧ Below w.heap.size w w' := by
  obtain ⟨c0, c1, c2⟩ := hc.2 n hn
  have hg := hc.1
  have n0 : (0 : Int) ≤ (n : Int) := Int.natCast_nonneg _
  have t1 : decide ((n : Int) < 0) = false := decide_eq_false (by omega)
  have t2 : decide ((10 : Int) ≤ (n : Int)) = false := decide_eq_false (by omega)
  have t3 : decide (10 ≤ n) = false := decide_eq_false (by omega)
  have n1 : (n : Int) < 10 := by omega
  unfold careV
  generalize careAt n = c at c0 c1 c2 ⊢
  obtain ⟨cd, cw, cg⟩ := c
  simp only at c0 c1 c2 ⊢
  clear hc
  go_enter Tryd.func6, Tryd.ntmps6
  go_wp2_with fail
  refine bodyPost_ret (v := .tuple #[.agg #[.int .i64 (cd : Int), .bool cw, .int .i64 (cg : Int)], .bool true]) (by simp [results, Tryd.results6, go_sem]) rfl ⟨rfl, ?_⟩
  exact ((Below.refl w.heap.size w).alloc (Nat.le_refl _) _)
set_option maxHeartbeats 800000 in
theorem level_out (n : Int) (w : World) (hn : n < 0 ∨ 10 ≤ n) :
    Calls Tryd.prog 6 #[.int .i64 n] w fun e w' => e = .returned (.tuple #[careV noCare, .bool false]) ∧ Below w.heap.size w w' := by
  rcases hn with h | h
  · have t1 : decide (n < 0) = true := decide_eq_true h
    go_enter Tryd.func6, Tryd.ntmps6
    go_wp2_with fail
    refine bodyPost_ret (v := .tuple #[.agg #[.int .i64 0, .bool false, .int .i64 0], .bool false]) (by simp [results, Tryd.results6, go_sem]) rfl ⟨rfl, ?_⟩
    exact ((Below.refl w.heap.size w).alloc (Nat.le_refl _) _)
  · have t1 : decide (n < 0) = false := decide_eq_false (by omega)
    have t2 : decide ((10 : Int) ≤ n) = true := decide_eq_true h
    go_enter Tryd.func6, Tryd.ntmps6
    go_wp2_with fail
    refine bodyPost_ret (v := .tuple #[.agg #[.int .i64 0, .bool false, .int .i64 0], .bool false]) (by simp [results, Tryd.results6, go_sem]) rfl ⟨rfl, ?_⟩
    exact ((Below.refl w.heap.size w).alloc (Nat.le_refl _) _)

theorem longest_any (B q : Nat) (D : List UInt8) (known i depth : Nat) {X : Nat → Prop} (w : World) (h : FindM w B q D known i X) (hl : D.length ≤ 1000000) (hi : i ≤ D.length) (hd : depth ≤ 32768) :
    Calls Tryd.prog 25 #[.pointer (some ⟨q + 1, 0, none⟩), .int .i64 (i : Int), .int .i64 (depth : Int)] w fun e w' => e = .returned (.tuple #[.int .i64 ((longL D i depth).1 : Int), .int .i64 ((longL D i depth).2 : Int)]) ∧ ∃ n, w' = w.drewN n := by
  by_cases h3 : i + 3 ≤ D.length
  · exact longest_some B q D known i depth w h hl h3 hd
  · rw [longL_short D i depth h3]
    exact longest_none B q D known i i depth w h hi (by omega)

def MatchPost (B q : Nat) (D : List UInt8) (i dep : Nat) (X : Nat → Prop) (w : World) (e : Ending) (w' : World) : Prop :=
  e = .returned (.agg #[.int .i64 ((longL D i dep).1 : Int), .int .i64 ((longL D i dep).2 : Int)]) ∧ FindM w' B q D i i X ∧ Fr (fun k => q ≤ k ∧ ¬ X k) w w'

theorem match_end {w w1 : World} {B q known i : Nat} {D : List UInt8} {X : Nat → Prop} {o : Obj} (hq : q ≤ w.heap.size) (hBq : B ≤ q) (hX : ∀ k, X k → k < w.heap.size)
    (hF : FindM w1 B q D known i (fun k => X k ∨ k = w.heap.size)) (hf : Fr (fun k => q ≤ k ∧ ¬ (X k ∨ k = w.heap.size)) (w.alloc o) w1) (n : Nat) (u v : Value) :
    FindM (((w1.drewN n).setCell ⟨w.heap.size, 0, none⟩ u).setCell ⟨w.heap.size, 1, none⟩ v) B q D known i X ∧ Fr (fun k => q ≤ k ∧ ¬ X k) w (((w1.drewN n).setCell ⟨w.heap.size, 0, none⟩ u).setCell ⟨w.heap.size, 1, none⟩ v) := by
  have hs := hf.size
  have hself : ¬ X w.heap.size := fun h => by have := hX _ h; omega
  have hS : Fr (fun k => k = w.heap.size) w1 (((w1.drewN n).setCell ⟨w.heap.size, 0, none⟩ u).setCell ⟨w.heap.size, 1, none⟩ v) :=
    (((Fr.refl (fun k => k = w.heap.size) w1).drewN n).setCell (p := ⟨w.heap.size, 0, none⟩) (.inl rfl) _).setCell (p := ⟨w.heap.size, 1, none⟩) (.inl rfl) _
  have h1 := hF.fr hBq hS (fun k _ e => .inr e)
  refine ⟨h1.bar (fun k hk => .inl (.inl hk)), ?_⟩
  have h0 : Fr (fun k => q ≤ k ∧ ¬ X k) w w1 := ((Fr.refl (fun k => q ≤ k ∧ ¬ X k) w).alloc o).trans hf (fun k _ h => ⟨h.1, fun hx => h.2 (.inl hx)⟩)
  exact h0.trans hS (fun k _ e => by subst e; exact ⟨by omega, hself⟩)

set_option maxHeartbeats 1000000 in
theorem match_any (B q F bc : Nat) (D : List UInt8) (known i dep : Nat) (X : Nat → Prop) (w : World) (h : FindM w B q D known known X) (hX : ∀ k, X k → k < w.heap.size) (hl : D.length ≤ 1000000) (hki : known ≤ i) (hi : i ≤ D.length) (hd : dep ≤ 32768) (hBq : B ≤ q)
    (hF : X F) (hbc : bc < q) (hcF : w.cell? ⟨F, 0, none⟩ = some (.pointer (some ⟨q + 1, 0, none⟩))) (hcb : w.cell? ⟨bc, 0, none⟩ = some (.int .i64 (dep : Int))) :
    Calls Tryd.prog 23 #[.int .i64 (i : Int), .pointer (some ⟨F, 0, none⟩), .pointer (some ⟨bc, 0, none⟩)] w (MatchPost B q D i dep X w) := by
  have hFl := hX F hF
  have hql := h.lt
  obtain ⟨W, hW⟩ : ∃ W, w.alloc (.cells #[.int .i64 0, .int .i64 0] 62) = W := ⟨_, rfl⟩
  have hWs : W.heap.size = w.heap.size + 1 := by rw [← hW]; simp
  have hM := (h.bar (Y := fun k => X k ∨ k = w.heap.size) (fun k hk => hk.elim .inl (fun e => .inr (by omega)))).fr hBq (show Fr (fun _ => False) w W by rw [← hW]; exact (Fr.refl _ _).alloc _) (fun _ _ h => h.elim)
  have c0 : W.cell? ⟨F, 0, none⟩ = some (.pointer (some ⟨q + 1, 0, none⟩)) := by rw [← hW, World.cell?_alloc_lt _ _ _ hFl]; exact hcF
  have c1 : W.cell? ⟨bc, 0, none⟩ = some (.int .i64 (dep : Int)) := by rw [← hW, World.cell?_alloc_lt _ _ _ (by show bc < _; omega)]; exact hcb
  have LE := Lib.hid (learn_any B q D known i _ W hM (fun k hk => hk.elim (fun h => by have := hX k h; omega) (fun h => by omega)) hl hi)
  have hmk : max known i = i := by omega
  rw [hmk] at LE
  have C1 := Lib.hid c1
  have HX := Lib.hid hX
  clear h hM hX hcF hcb c1 hmk
  go_enter Tryd.func23, Tryd.ntmps23
  go_wp2_with fail
  have HW := Lib.hid hW
  clear hW
  (with_reducible refine LE.out.mono ?_)
  rintro e w1 ⟨rfl, hF1, hf1⟩
  have d0 := (hf1.cell (p := ⟨F, 0, none⟩) (by show F < _; omega) (fun h => h.2 (.inl hF))).trans c0
  have d1 := (hf1.cell (p := ⟨bc, 0, none⟩) (by show bc < _; omega) (fun h => by have := h.1; simp at this; omega)).trans C1.out
  have hwh := (show Whole W w.heap.size 62 #[.int .i64 0, .int .i64 0] by rw [← HW.out]; exact Whole.new _ _ _).fr hf1 (fun h => h.2 (.inr rfl))
  have e0 := hwh.cell 0
  have e1 := hwh.cell 1
  have f0 := hwh.frozen 0
  have f1 := hwh.frozen 1
  simp at e0 e1
  have HWH := Lib.hid hwh
  have HF1 := Lib.hid hF1
  have Hf1 := Lib.hid hf1
  have LO := Lib.hid (longest_any B q D i i dep w1 hF1 hl hi hd)
  generalize hr : longL D i dep = r at LO
  have HR := Lib.hid hr
  obtain ⟨s, t⟩ := r
  simp only at LO
  clear hF1 hf1 LE c0 hr hwh
  go_wp2_with fail
  (with_reducible refine LO.out.mono ?_)
  rintro e w2 ⟨rfl, n2, rfl⟩
  have hend := fun u v => match_end (w1 := w1) (o := .cells #[.int .i64 0, .int .i64 0] 62) (by omega) hBq HX.out HF1.out (by rw [HW.out]; exact Hf1.out) n2 u v
  have HE := Lib.hid hend
  clear hend LO
  go_wp2_with fail
  refine bodyPost_ret (v := .agg #[.int .i64 (s : Int), .int .i64 (t : Int)]) (by simp [results, Tryd.results23, go_sem, e0, e1]) rfl ⟨by rw [HR.out], (HE.out _ _).1, (HE.out _ _).2⟩
end Go.Proofs.YtjfmaebgihlegaaDoor
