/-
  chains.Finder: Learn, Same.
-/
import Derived.Test.YtjfmaebgihlegaaDoorChain
import Derived.Deep.RegionLaw
import Derived.Deep.RegionHeld3
import Derived.Deep.Cut
namespace Go.Proofs.YtjfmaebgihlegaaDoor
open Go.RowKit Go.Maps

theorem learnt_succ (D : List UInt8) (j : Nat) (h : j + 3 ≤ D.length) : learnt D j = j ∧ learnt D (j + 1) = j + 1 := by unfold learnt; omega
theorem learnt_end (D : List UInt8) (known u j : Nat) (h1 : known ≤ j) (h2 : j ≤ max known u) (h3 : ¬ (j < u ∧ j + 3 ≤ D.length)) : learnt D j = learnt D (max known u) := by unfold learnt; omega
theorem ints_snocF (l : List Int) (b : Int) : intsV (l ++ [b]) = intsV l ++ [.int .i64 b] := by simp [intsV]
theorem appended {w w' : World} {q : Nat} {e : TypeId} {v : Value} {n : Nat} {xs : List Value} {o : Obj} {X : Nat → Prop} (ho : w.ownsRow (q + 2) e 1 v n xs) (hx : ∀ g, v.ownBlock = some g → ¬ X g) (hg : (w.alloc o).grownBy w' v.ownBlock) : Fr (fun k => q + 2 ≤ k ∧ ¬ X k) w w' :=
  ((Fr.refl _ _).alloc o).grown hg (fun k _ e => ⟨((ho.alloc o).lt k e).1, hx k e⟩)
theorem row_off {v v' : Value} {s z : Nat} {X : Nat → Prop} (hx : ∀ g, v.ownBlock = some g → ¬ X g) (hX : ∀ k, X k → k < z) (hs : z ≤ s) (h : v'.ownBlock = v.ownBlock ∨ v'.ownBlock = some s) : ∀ g, v'.ownBlock = some g → ¬ X g := by
  intro g hg hxg
  rcases h with e | e
  · exact hx g (e.symm.trans hg) hxg
  · rw [e] at hg
    injection hg with hg
    have := hX g hxg
    omega
def LearnPost (B q : Nat) (D : List UInt8) (known j : Nat) (X : Nat → Prop) (w : World) (e : Ending) (w' : World) : Prop :=
  e = .returned (.tuple #[]) ∧ FindM w' B q D known j X ∧ Fr (fun k => q ≤ k ∧ ¬ X k) w w'

theorem learn_mid {W w3 : World} {q j known : Nat} {D : List UInt8} {A A2 A3 : Option Addr} {c c2 c3 : Nat} {X : Nat → Prop} (hm : LastIs W q D j) (hW : Whole W (q + 1) 70 #[.slice A D.length c, .int .i64 (known : Int), .map (some q), .slice A2 j c2]) (hg : Fr (fun k => q + 2 ≤ k ∧ ¬ X k) W w3) :
    LastIs (w3.setCell ⟨q + 1, 3, none⟩ (.slice A3 (j + 1) c3)) q D j ∧ Whole (w3.setCell ⟨q + 1, 3, none⟩ (.slice A3 (j + 1) c3)) (q + 1) 70 #[.slice A D.length c, .int .i64 (known : Int), .map (some q), .slice A3 (j + 1) c3] := by
  refine ⟨hm.keep ?_, ?_⟩
  · rw [Below.heap_setCell _ _ _ _ (by show q ≠ q + 1; omega)]
    exact hg.block q hm.lt (by omega)
  · have h := (hW.fr hg (by omega)).set_ 3 (.slice A3 (j + 1) c3)
    simpa using h
theorem learn_step {W w3 w4 : World} {B q j known : Nat} {D : List UInt8} {A A3 : Option Addr} {c c3 : Nat} {z : Int} {X : Nat → Prop} (hoff : ∀ k, X k → q + 2 ≤ k) (hx3 : ∀ g, (Value.slice A3 (j + 1) c3).ownBlock = some g → ¬ X g) (hk : known ≤ D.length) (hd : W.ownsRow B 5 1 (.slice A D.length c) D.length (bytesV D)) (hgl : ∀ g, (Value.slice A D.length c).ownBlock = some g → g < q)
    (hg : Fr (fun k => q + 2 ≤ k ∧ ¬ X k) W w3) (ho : w3.ownsRow (q + 2) 3 1 (.slice A3 (j + 1) c3) (j + 1) (intsV (priorL D j) ++ [.int .i64 z])) (hps : priorL D (j + 1) = priorL D j ++ [z])
    (hW : Whole (w3.setCell ⟨q + 1, 3, none⟩ (.slice A3 (j + 1) c3)) (q + 1) 70 #[.slice A D.length c, .int .i64 (known : Int), .map (some q), .slice A3 (j + 1) c3])
    (hm : LastIs w4 q D (j + 1)) (hf : Fr (fun k => k = q) (w3.setCell ⟨q + 1, 3, none⟩ (.slice A3 (j + 1) c3)) w4) (e2 : learnt D (j + 1) = j + 1) (hj : j + 1 ≤ D.length) :
    FindM w4 B q D known (j + 1) X ∧ Fr (fun k => q ≤ k ∧ ¬ X k) W w4 := by
  have hs : Fr (fun k => q + 1 ≤ k ∧ ¬ X k) W (w3.setCell ⟨q + 1, 3, none⟩ (.slice A3 (j + 1) c3)) := (hg.mono (T := fun k => q + 1 ≤ k ∧ ¬ X k) (fun k _ h => ⟨by omega, h.2⟩)).setCell (.inl ⟨Nat.le_refl _, fun h => by have := hoff _ h; simp at this⟩) _
  refine ⟨⟨⟨A, c, A3, c3, ?_, ?_, hgl, ?_, ?_⟩, by rw [e2]; exact hm, hk, hj, hoff⟩, (hs.mono (T := fun k => q ≤ k ∧ ¬ X k) (fun k _ h => ⟨by omega, h.2⟩)).trans hf (fun k _ h => ⟨by omega, fun hx => by have := hoff _ hx; omega⟩)⟩
  · rw [e2]; exact hW.fr hf (by omega)
  · have h1 := own_fr hd hs (fun g hg => by have := hgl g hg; omega)
    exact own_fr h1 hf (fun g hg => by have := hgl g hg; omega)
  · rw [e2, hps, ints_snocF]
    have h1 := own_fr ho ((Fr.refl (fun k => k = q + 1) w3).setCell (p := ⟨q + 1, 3, none⟩) (.inl rfl) (.slice A3 (j + 1) c3)) (fun g hg => by have := (ho.lt g hg).1; omega)
    exact own_fr h1 hf (fun g hg => by have := (ho.lt g hg).1; omega)
  · rw [e2]; exact hx3
theorem learn_end {W : World} {B q j known u : Nat} {D : List UInt8} {X : Nat → Prop} (h : FindM W B q D known j X) (hu : u ≤ D.length) (e : learnt D j = learnt D (max known u)) : FindM (W.setCell ⟨q + 1, 1, none⟩ (.int .i64 ((max known u : Nat) : Int))) B q D (max known u) (max known u) X := by
  obtain ⟨A, c, A2, c2, h1, h2, h3, h4, h5⟩ := h.ex
  rw [e] at h1 h4 h5
  have hk := h.kle
  refine ⟨⟨A, c, A2, c2, ?_, ?_, h3, ?_, h5⟩, ?_, by omega, by omega, h.off⟩
  · have g := h1.set_ 1 (.int .i64 ((max known u : Nat) : Int))
    simpa using g
  · exact own_fr h2 ((Fr.refl (fun k => k = q + 1) W).setCell (p := ⟨q + 1, 1, none⟩) (.inl rfl) _) (fun g hg => by have := h3 g hg; omega)
  · exact own_fr h4 ((Fr.refl (fun k => k = q + 1) W).setCell (p := ⟨q + 1, 1, none⟩) (.inl rfl) _) (fun g hg => by have := (h4.lt g hg).1; omega)
  · have := h.mp
    rw [e] at this
    exact this.keep (Below.heap_setCell _ _ _ _ (by show q ≠ q + 1; omega))

set_option maxRecDepth 100000 in
set_option maxHeartbeats 4000000 in
theorem learn_any (B q : Nat) (D : List UInt8) (known u : Nat) (X : Nat → Prop) (w : World) (h : FindM w B q D known known X) (hX : ∀ k, X k → k < w.heap.size) (hl : D.length ≤ 1000000) (hu : u ≤ D.length) :
    Calls Tryd.prog 24 #[.pointer (some ⟨q + 1, 0, none⟩), .int .i64 (u : Int)] w (LearnPost B q D (max known u) (max known u) X w) := by
  have HF := Lib.hid h
  have HX := Lib.hid hX
  have HOFF := Lib.hid h.off
  obtain ⟨A, c, A2, c2, h1, h2, h3, h4, h5⟩ := h.ex
  have c0 := h1.cell 0
  have c1 := h1.cell 1
  simp at c0 c1
  obtain ⟨i0, hi0, hz0, hz1, hz2⟩ := info_parts intInfoF
  have Hi0 := Lib.hid hi0
  have Hz0 := Lib.hid hz0
  have Hz1 := Lib.hid hz1
  have Hz2 := Lib.hid hz2
  have hkl := h.kle
  have t1 : ¬ (D.length : Int) < (u : Int) := by omega
  have t2 : ¬ D.length < u := by omega
  clear h h1 h2 h3 h4 h5 hX hi0 hz0 hz1 hz2
  go_enter Tryd.func24, Tryd.ntmps24
  go_wp2_with fail
  go_loopw [4, 5] (fun i _ wr => ∃ j : Nat, known ≤ j ∧ j ≤ max known u ∧ i = .int .i64 (j : Int) ∧ FindM wr B q D known j X ∧ Fr (fun k => q ≤ k ∧ ¬ X k) w wr) (fun i _ _ => u - (intOf i).toNat)
  case atStart => exact ⟨known, Nat.le_refl _, by omega, rfl, HF.out, Fr.refl _ _⟩
  case round =>
    obtain ⟨j, hj1, hj2, rfl, hM, hfr⟩ := hrel
    clear HF c0 c1
    have HM := Lib.hid hM
    have HFR := Lib.hid hfr
    have hjl := hM.jle
    obtain ⟨A, c, A2, c2, h1, h2, h3, h4, h5⟩ := hM.ex
    have c0 := h1.cell 0
    have c1 := h1.cell 1
    have c3 := h1.cell 3
    have f3 := h1.frozen 3
    have f1 := h1.frozen 1
    simp at c0 c1 c3
    have j0 : (0 : Int) ≤ (j : Int) := Int.natCast_nonneg _
    by_cases hc : j < u ∧ j + 3 ≤ D.length
    · obtain ⟨hc1, hc2⟩ := hc
      obtain ⟨e1, e2⟩ := learnt_succ D j hc2
      have TH := Lib.hid (three_any B q D known j j wr hM hl hc2)
      have NE := Lib.hid (fun n => nearest_any B q D known j (kd D j) (wr.drewN n) (hM.drewN n) (kd_lt D j))
      rw [e1] at c3 NE
      rw [e1] at h4 h1 h5
      have HW := Lib.hid h1
      have HO2 := Lib.hid h2
      have HGL := Lib.hid h3
      have HO4 := Lib.hid h4
      have HOX := Lib.hid h5
      have HPS := Lib.hid (priorL_succ D j)
      have hr := lastOf_range D (kd D j) j
      have hkl2 := kd_lt D j
      obtain ⟨kk, hkk⟩ : ∃ kk, kk = kd D j := ⟨_, rfl⟩
      have HKK := Lib.hid hkk
      rw [← hkk] at TH NE HPS hr hkl2
      obtain ⟨z, hz⟩ : ∃ z, z = lastOf D kk j := ⟨_, rfl⟩
      rw [← hz] at NE HPS hr
      have ZEQ0 := hz
      have t3 : decide (j < u) = true := decide_eq_true hc1
      have t4 : decide ((j : Int) + 3 ≤ (D.length : Int)) = true := decide_eq_true (by omega)
      have t5 : (j : Int) + 3 ≤ (D.length : Int) := by omega
      have hql := h1.lt
      have HZEQ := Lib.hid (show lastOf D kk (learnt D j) = z by rw [e1, hz])
      have HE2 := Lib.hid e2
      have HLW0 := Lib.hid (show LastIs wr q D j by have := hM.mp; rw [e1] at this; exact this)
      clear hM hfr h1 h2 h3 h4 h5 e1 e2 hkk hz ZEQ0
      go_wp2_with fail
      (with_reducible refine TH.out.mono ?_)
      rintro e w1 ⟨rfl, n1, rfl⟩
      clear TH
      go_upto_region 5 with (fail)
      obtain ⟨W, hW⟩ : ∃ W, wr.drewN n1 = W := ⟨_, rfl⟩
      have HMW := Lib.hid (show FindM W B q D known j X by rw [← hW]; exact HM.out.drewN n1)
      have HWW := Lib.hid (show Whole W (q + 1) 70 #[.slice A D.length c, .int .i64 (known : Int), .map (some q), .slice A2 j c2] by rw [← hW]; exact HW.out.drewN n1)
      have HO4W := Lib.hid (show W.ownsRow (q + 2) 3 1 (.slice A2 j c2) j (intsV (priorL D j)) by rw [← hW]; exact HO4.out)
      have HO2W := Lib.hid (show W.ownsRow B 5 1 (.slice A D.length c) D.length (bytesV D) by rw [← hW]; exact HO2.out)
      have HFRW := Lib.hid (show Fr (fun k => q ≤ k ∧ ¬ X k) w W by rw [← hW]; exact HFR.out.drewN n1)
      have HLW := Lib.hid (show LastIs W q D j by rw [← hW]; exact HLW0.out)
      have hqW : q + 1 < W.heap.size := HWW.out.lt
      rw [hW]
      have k3 := HWW.out.cell 3
      have m3 := HWW.out.frozen 3
      simp at k3
      clear hW NE c0 c1 c3 f3 f1 HM HW HO4 HO2 HFR
      have NE := Lib.hid (nearest_any B q D known j kk W.drew ⟨HMW.out.ex, HMW.out.mp, HMW.out.kle, HMW.out.jle, HMW.out.off⟩ hkl2)
      rw [show lastOf D kk (learnt D j) = z from HZEQ.out] at NE
      go_region_law ((first
        | ((go_simp; go_at_call 28; (with_reducible refine NE.out.mono ?_); rintro e wN ⟨rfl, rfl⟩))
        | ((refine step_append_sl (by rfl) _ _ _ (by rfl) (q + 2) 3 i0 _ 8 Tryd.underlying68 Hi0.out Hz0.out Hz1.out Hz2.out rfl (.slice A2 j c2) j (intsV (priorL D j)) (by rfl) ((HO4W.out.alloc _).drew) (W.heap.size + 1) (some ⟨W.heap.size, 0, none⟩) 1 1 [.int .i64 z] (by rfl) (by rfl) (Sl.new_ _ _ _ _) (int64s_oneCell [z]) (by unfold maxLen; omega) (by omega) (by simp; omega) ?_; intro v3 w3 hown3 hgrow3 hat3; obtain ⟨A3, c3, rfl⟩ := own_form hown3; have hx3 := Lib.hid (row_off HOX.out HX.out (Nat.le_trans HFRW.out.size (by simp)) hat3); have hg3 : Fr (fun k => q + 2 ≤ k ∧ ¬ X k) W w3 := appended (o := .cells #[.int .i64 z] 3) HO4W.out HOX.out ⟨hgrow3.os, hgrow3.tape, hgrow3.output, hgrow3.size, hgrow3.block⟩; have x3 := (hg3.cell (p := ⟨q + 1, 3, none⟩) hqW (by show ¬ (q + 2 ≤ q + 1 ∧ ¬ X (q + 1)); omega)).trans k3; have y3 := (hg3.frozen (p := ⟨q + 1, 3, none⟩) hqW (by show ¬ (q + 2 ≤ q + 1 ∧ ¬ X (q + 1)); omega)).trans m3))))
      all_goals
        have HO3 := Lib.hid hown3
        have HG3 := Lib.hid hg3
        clear hown3 hgrow3 hat3 hg3 x3 y3 k3 m3 NE
        obtain ⟨hm4, hw4⟩ := learn_mid (A3 := A3) (c3 := c3) HLW.out HWW.out HG3.out
        obtain ⟨w4, hrun, hl4, hf4⟩ := hm4.add (by omega)
        rw [← HKK.out] at hrun
        have HST := Lib.hid (learn_step HOFF.out hx3.out hkl HO2W.out HGL.out HG3.out HO3.out HPS.out hw4 hl4 hf4 HE2.out (by omega))
        have e2 := hw4.cell 2
        simp at e2
        obtain ⟨V, hV⟩ : ∃ V, w3.setCell ⟨q + 1, 3, none⟩ (.slice A3 (j + 1) c3) = V := ⟨_, rfl⟩
        rw [hV] at hrun e2 ⊢
        clear hm4 hw4 hl4 hf4 hV
        go_wp2_with fail
        go_roundw
        case rel => exact ⟨j + 1, by omega, by omega, by go_num, HST.out.1, HFRW.out.trans HST.out.2 (fun k _ h => h)⟩
        case measure => simp [intOf]; omega
    · have HE := Lib.hid (learnt_end D known u j hj1 hj2 hc)
      have HEND := Lib.hid (learn_end hM hu HE.out)
      have HFE := Lib.hid (fun v => HFR.out.setCell (p := ⟨q + 1, 1, none⟩) (.inl (show q ≤ q + 1 ∧ ¬ X (q + 1) from ⟨by omega, fun h => by have := HOFF.out _ h; omega⟩)) v)
      clear hM hfr h1 h2 h3 h4 h5
      by_cases hx : j < u
      · have t3 : decide (j < u) = true := decide_eq_true hx
        have t4 : decide ((j : Int) + 3 ≤ (D.length : Int)) = false := decide_eq_false (by omega)
        have t5 : ¬ (j : Int) + 3 ≤ (D.length : Int) := by omega
        have HMX := Lib.hid (show max known u = u by omega)
        go_wp2_with fail
        go_end0
        rw [HMX.out] at HEND ⊢
        exact ⟨rfl, HEND.out, HFE.out _⟩
      · have t3 : decide (j < u) = false := decide_eq_false hx
        by_cases hy : known < u
        · have t4 : decide (known < u) = true := decide_eq_true hy
          have HMX := Lib.hid (show max known u = u by omega)
          go_wp2_with fail
          go_end0
          rw [HMX.out] at HEND ⊢
          exact ⟨rfl, HEND.out, HFE.out _⟩
        · have t4 : decide (known < u) = false := decide_eq_false hy
          have HMX := Lib.hid (show max known u = known by omega)
          go_wp2_with fail
          go_end0
          rw [HMX.out] at HEND ⊢
          exact ⟨rfl, HEND.out, HFE.out _⟩
end Go.Proofs.YtjfmaebgihlegaaDoor
