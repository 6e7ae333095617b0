/-
  turns.Ring: Pick, Spread.
-/
import Derived.Test.YtcbginkbipefaaaRing2
import Derived.Deep.RegionHeld3
import Derived.Deep.Cut
namespace Go.Proofs.Ytcbginkbipefaaa
open Go.RowKit Go.Maps

theorem rest_at {g cap a : Nat} (h : a < cap) : restAt (some ⟨g, 0, none⟩) cap a = some ⟨g, a, none⟩ := by
  unfold restAt
  rw [if_neg (by omega)]
  simp only [Option.map_some, Addr.add]
  split
  · next h => subst h; rfl
  · simp

/-- the list behind a pick -/
def pickL (L : List Int) (a : Nat) : List Int := L.take a ++ L.drop (a + 1) ++ [L.getD a 0]
theorem len_pickL (L : List Int) (a : Nat) (h : a < L.length) : (pickL L a).length = L.length := by simp [pickL]; omega
theorem pick_row {α : Type} (X R : List α) (a : Nat) (x : α) (ha : a < X.length) :
    ((Go.splice (X ++ R) a (X.drop (a + 1))).set (X.length - 1) x).take X.length = X.take a ++ X.drop (a + 1) ++ [x] := by
  have hcs : (X.drop (a + 1)).length = X.length - (a + 1) := List.length_drop
  have htk : (X.take a).length = a := by rw [List.length_take]; omega
  have hpl : (X.take a ++ X.drop (a + 1)).length = X.length - 1 := by rw [List.length_append, hcs, htk]; omega
  have hXR : (X ++ R).length = X.length + R.length := List.length_append
  apply List.ext_getElem?
  intro i
  rw [List.getElem?_take, List.getElem?_set, length_splice _ _ _ (by omega), splice_get _ _ _ (by omega)]
  by_cases h1 : i < X.length
  · rw [if_pos h1]
    by_cases h2 : X.length - 1 = i
    · rw [if_pos h2, if_pos (by omega), List.getElem?_append_right (by omega), show i - (X.take a ++ X.drop (a + 1)).length = 0 by omega]
      rfl
    · rw [if_neg h2]
      conv => rhs; rw [List.getElem?_append_left (by omega)]
      by_cases h3 : i < a
      · rw [if_pos h3, List.getElem?_append_left (by omega)]
        conv => rhs; rw [List.getElem?_append_left (by omega), List.getElem?_take, if_pos h3]
      · rw [if_neg h3, if_pos (by omega), List.getElem?_append_right (by omega), htk]
  · rw [if_neg h1, List.getElem?_eq_none (by rw [List.length_append]; simp only [List.length_singleton]; omega)]

theorem nodup_pick {L : List Int} {a : Nat} (h : L.Nodup) (ha : a < L.length) : (pickL L a).Nodup := by
  have hp : (pickL L a).Perm L := by
    unfold pickL
    rw [List.append_assoc]
    have e : L = L.take a ++ L.getD a 0 :: L.drop (a + 1) := by
      rw [List.getD_eq_getElem?_getD, List.getElem?_eq_getElem ha]
      simp
    conv => rhs; rw [e]
    exact List.Perm.append_left _ (List.perm_append_singleton _ _)
  exact hp.nodup_iff.2 h
theorem mem_pick {L : List Int} {a : Nat} (ha : a < L.length) (x : Int) : x ∈ pickL L a ↔ x ∈ L := by
  have hp : (pickL L a).Perm L := by
    unfold pickL
    rw [List.append_assoc]
    have e : L = L.take a ++ L.getD a 0 :: L.drop (a + 1) := by
      rw [List.getD_eq_getElem?_getD, List.getElem?_eq_getElem ha]
      simp
    conv => rhs; rw [e]
    exact List.Perm.append_left _ (List.perm_append_singleton _ _)
  exact hp.mem_iff
theorem SetIs.same {w : World} {b N : Nat} {L M : List Int} (h : SetIs w b N L) (hM : ∀ x, x ∈ M ↔ x ∈ L) : SetIs w b N M := by
  obtain ⟨n, D, h1, h2, h3⟩ := h
  exact ⟨n, D, h1, h2, fun k => by rw [h3 k]; simp [hM]⟩
theorem getD_int {L : List Int} {a : Nat} (ha : a < L.length) : L.getD a 0 = L[a] := by rw [List.getD_eq_getElem?_getD, List.getElem?_eq_getElem ha]; rfl

theorem ringPick_none (q : Nat) (f : Int → Int) (al N : Nat) (k : Int) {X : Nat → Prop} (w : World) (h : RingS w q [] f al N X) :
    Calls Try.prog 8 #[.pointer (some ⟨q + 2, 0, none⟩), .int .i64 k] w fun e w' => e = .returned (.tuple #[.int .i64 0, .int .i64 7]) ∧ w = w' := by
  obtain ⟨A, c, hc, _⟩ := h.ex
  have c0 := hc.cell 0
  simp at c0
  clear h hc
  go_enter Try.func8, Try.ntmps8
  go_wp2_with fail
  go_ret2
  exact ⟨rfl, rfl⟩

/-- a row of the ring's own list: its block, whole -/
theorem row_whole {w : World} {base : Nat} {e : TypeId} {A : Option Addr} {c n : Nat} {xs : List Value} (h : w.ownsRow base e 1 (.slice A n c) n xs) (hn : 0 < n) :
    ∃ g R, A = some ⟨g, 0, none⟩ ∧ base ≤ g ∧ Whole w g e (xs ++ R).toArray ∧ (xs ++ R).length = c ∧ n ≤ c ∧ c ≤ maxLen := by
  rcases h.2 with ⟨hv, _⟩ | ⟨g, cap, cur, hv, hb, hh, hnc, hcm, hsz, ht⟩
  · injection hv with _ h0 _; omega
  · injection hv with hA _ hc
    subst hc
    refine ⟨g, cur.toList.drop n, hA, hb, ?_, ?_, hnc, hcm⟩
    · unfold Whole
      rw [hh, ← ht, Nat.mul_one, List.take_append_drop]
    · rw [← ht, Nat.mul_one, List.take_append_drop]
      simp [hsz]
theorem own_of_whole {w : World} {base : Nat} {e : TypeId} {g n c : Nat} {ys : List Value} {xs : List Value} (hw : Whole w g e ys.toArray) (hb : base ≤ g) (hl : ys.length = c) (hnc : n ≤ c) (hcm : c ≤ maxLen) (hx : ys.take n = xs) : w.ownsRow base e 1 (.slice (some ⟨g, 0, none⟩) n c) n xs := by
  refine ⟨by rw [← hx]; simp; omega, .inr ⟨g, c, ys.toArray, rfl, hb, hw, hnc, hcm, by simp [hl], by simpa using hx⟩⟩

theorem pick_ints (L : List Int) (R : List Value) (a a1 m : Nat) (x : Int) (ha : a < L.length) (ha1 : a1 = a + 1) (hm : m = L.length - 1) (hx : L.getD a 0 = x) :
    ((Go.splice (intsV L ++ R) a ((intsV L).drop a1)).set m (.int .i64 x)).take L.length = intsV (pickL L a) := by
  subst ha1 hm
  have h := pick_row (intsV L) R a (.int .i64 x) (by rw [len_intsV]; exact ha)
  rw [len_intsV] at h
  rw [h]
  unfold pickL
  rw [hx]
  simp [intsV, List.map_take, List.map_drop]
theorem pick_end {w w2 w3 : World} {q g c a a1 m al N : Nat} {L : List Int} {f : Int → Int} {R : List Value} {x : Int} {X : Nat → Prop} (hR : RingS w q L f al N X) (hgx : ¬ X g) (ha : a < L.length) (ha1 : a1 = a + 1) (hm : m = L.length - 1) (hx : L.getD a 0 = x) (hgb : q + 3 ≤ g) (hnc : L.length ≤ c) (hcm : c ≤ maxLen) (hlc : (intsV L ++ R).length = c) (hfit : a + ((intsV L).drop a1).length ≤ (intsV L ++ R).length)
    (hF2 : Fr (fun k => k = g) w w2) (hW2 : Whole w2 g 3 ((Go.splice (intsV L ++ R) a ((intsV L).drop a1)).set m (.int .i64 x)).toArray) (hT3 : TurnsIs w3 (q + 1) (N + 1) (bump f x)) (hF3 : Fr (fun k => k = q + 1) w2 w3)
    (hC3 : Whole w3 (q + 2) 51 #[.slice (some ⟨g, 0, none⟩) L.length c, .map (some q), .map (some (q + 1)), .int .i64 (al : Int)]) :
    RingS (w3.setCell ⟨q + 2, 3, none⟩ (.int .i64 ((al : Int) + 1))) q (pickL L a) (bump f x) (al + 1) (N + 1) X ∧ Fr (fun k => q ≤ k ∧ ¬ X k) w (w3.setCell ⟨q + 2, 3, none⟩ (.int .i64 ((al : Int) + 1))) := by
  have hlt := hR.lt
  have hxq := hR.xq
  have hF : Fr (fun k => q ≤ k ∧ ¬ X k) w (w3.setCell ⟨q + 2, 3, none⟩ (.int .i64 ((al : Int) + 1))) :=
    ((hF2.mono (T := fun k => q ≤ k ∧ ¬ X k) (fun k _ e => ⟨by omega, by rw [e]; exact hgx⟩)).trans hF3 (fun k _ e => ⟨by omega, fun hx => by have := hxq _ hx; omega⟩)).setCell (.inl (show q ≤ q + 2 ∧ ¬ X (q + 2) from ⟨by omega, fun hx => by have := hxq _ hx; omega⟩)) _
  have hW3 := (hW2.fr hF3 (by omega)).far (q := ⟨q + 2, 3, none⟩) (by show g ≠ q + 2; omega) (.int .i64 ((al : Int) + 1))
  refine ⟨⟨⟨some ⟨g, 0, none⟩, c, ?_, ?_, fun g' hg' => by injection hg' with hg'; rw [← hg']; exact hgx⟩, ?_, ?_, nodup_pick hR.nd ha, ?_, ?_, ?_, ?_, hxq⟩, hF⟩
  · have h := hC3.set_ 3 (.int .i64 ((al : Int) + 1))
    rw [len_pickL L a ha]
    simpa using h
  · rw [len_pickL L a ha]
    exact own_of_whole hW3 hgb (by rw [List.length_set, length_splice _ _ _ hfit]; exact hlc) hnc hcm (pick_ints L R a a1 m x ha ha1 hm hx)
  · refine (hR.rdy.same (mem_pick ha)).more (Nat.le_succ N) |>.keep ?_
    rw [Below.heap_setCell _ _ _ _ (by show q ≠ q + 2; omega), hF3.block q (Nat.lt_of_lt_of_le (by omega) hF2.size) (by omega), hF2.block q (by omega) (by omega)]
  · exact hT3.keep (Below.heap_setCell _ _ _ _ (by show q + 1 ≠ q + 2; omega))
  · intro y hy
    exact hR.rng y ((mem_pick ha y).1 hy)
  · intro k
    unfold bump
    have h1 := hR.fle x
    have h2 := hR.fle k
    split <;> omega
  · rw [len_pickL L a ha]; have := hR.lle; omega
  · have := hR.ale; omega

def PickPost (q : Nat) (L : List Int) (f : Int → Int) (al N a : Nat) (X : Nat → Prop) (w : World) (e : Ending) (w' : World) : Prop :=
  e = .returned (.tuple #[.int .i64 (L.getD a 0), .int .i64 0]) ∧ RingS w' q (pickL L a) (bump f (L.getD a 0)) (al + 1) (N + 1) X ∧ Fr (fun k => q ≤ k ∧ ¬ X k) w w'

set_option maxHeartbeats 2000000 in
theorem ringPick_some (q : Nat) (L : List Int) (f : Int → Int) (al N : Nat) (k : Int) (a : Nat) {X : Nat → Prop} (w : World) (h : RingS w q L f al N X) (hN : N < 1000000) (ha : a < L.length) (hk : k.tmod (L.length : Int) = (a : Int) ∨ k.tmod (L.length : Int) = (a : Int) - (L.length : Int)) :
    Calls Try.prog 8 #[.pointer (some ⟨q + 2, 0, none⟩), .int .i64 k] w (PickPost q L f al N a X w) := by
  have HR := Lib.hid h
  obtain ⟨A, c, hc, hown, hoff⟩ := h.ex
  obtain ⟨g, R, rfl, hgb, hwg, hlc, hnc, hcm⟩ := row_whole hown (by omega)
  have c0 := hc.cell 0
  simp at c0
  obtain ⟨i0, hi0, hz0, hz1, hz2⟩ := info_parts intInfoC
  have HSZ := Lib.hid (show (Try.prog.info? 3).map (·.size) = some 1 by rw [hi0]; simp [hz1])
  have s1 := fun W => run_slice_from Try.underlying22 hi0 hz1 (some ⟨g, 0, none⟩) L.length c a (by omega) W
  obtain ⟨a1, ha1⟩ : ∃ a1, a1 = a + 1 := ⟨_, rfl⟩
  have s2 := fun W => run_slice_from Try.underlying22 hi0 hz1 (some ⟨g, 0, none⟩) L.length c a1 (by omega) W
  have HS := Lib.hid (Sl.of_own hown)
  have hll := h.lle
  have hn0 : 0 < L.length := by omega
  have hn1 : ((L.length : Int) == 0) = false := beq_eq_false_iff_ne.2 (by omega)
  have hn2 : decide ((L.length : Int) = 0) = false := decide_eq_false (by omega)
  have v1 : IntKind.i64.wrap ((a : Int) + 1) = (a1 : Int) := by rw [IntWalk.i64_in _ (by omega)]; omega
  have k0 : (0 : Int) ≤ (a : Int) := Int.natCast_nonneg _
  have k1 : (a : Int) < (L.length : Int) := by omega
  have HX := Lib.hid (show L.getD a 0 = L[a] from getD_int ha)
  have hx : w.cell? ⟨g, a, none⟩ = some (.int .i64 L[a]) := by
    rw [hwg.cell a]
    simp [intsV, List.getElem?_append_left, ha]
  have hxr := h.rng _ (List.getElem_mem ha)
  have hfl := h.fle L[a]
  have HWG := Lib.hid hwg
  have hgx := Lib.hid (hoff g rfl)
  clear hoff
  have HC := Lib.hid hc
  have HLC := Lib.hid hlc
  have HA1 := Lib.hid ha1
  generalize L[a] = x at hx HX hxr hfl
  clear h hc hown hwg hi0 hz0 hz1 hz2 hlc ha1
  obtain ⟨m, hm⟩ : ∃ m, m = L.length - 1 := ⟨_, rfl⟩
  have HM := Lib.hid hm
  have hm1 : (L.length : Int) - 1 = (m : Int) := by omega
  have m0 : (0 : Int) ≤ (m : Int) := Int.natCast_nonneg _
  have m1 : (m : Int) < (L.length : Int) := by omega
  have hcp : ((intsV L).drop a1).length = Nat.min (L.length - a1) (L.length - a) := by
    rw [List.length_drop, len_intsV]; exact (Nat.min_eq_left (by have := HA1.out; omega)).symm
  have HCP := Lib.hid hcp
  have HFIT := Lib.hid (show a + ((intsV L).drop a1).length ≤ (intsV L ++ R).length by rw [List.length_append, List.length_drop, len_intsV, HA1.out]; omega)
  have HSR := Lib.hid (HS.out.rest c a1 (by rw [len_intsV]; exact hnc))
  have HRA := Lib.hid (show restAt (some (⟨g, 0, none⟩ : Addr)) c a = some ⟨g, a, none⟩ from rest_at (by omega))
  have HONE := Lib.hid (show ∀ v ∈ (intsV L).drop a1, v.oneCell' = true from fun v hv => int64s_oneCell L v (List.mem_of_mem_drop hv))
  clear hm hcp
  have hq2 := HR.out.lt
  have hfx := HX.out
  have HTR := Lib.hid (fun W (hf : Fr (fun k => k = g) w W) => (HR.out.trn.keep (hf.block (q + 1) (by omega) (by omega)) : TurnsIs W (q + 1) N f))
  have hgl := HWG.out.lt
  have t1 : decide ((a : Int) < 0) = false := decide_eq_false (by omega)
  have t2 : decide ((a : Int) - (L.length : Int) < 0) = true := decide_eq_true (by omega)
  clear hfx
  rcases hk with hk | hk
  all_goals
    go_enter Try.func8, Try.ntmps8
    go_wp2_with fail
    go_region_held3 (fun W => W.cell? ⟨q + 2, 0, none⟩ = some (.slice (some ⟨g, 0, none⟩) L.length c)) (first | exact c0 | exact (hf1.cell (p := ⟨q + 2, 0, none⟩) (by show q + 2 < w.heap.size; omega) (by show ¬ (q + 2 = g); omega)).trans c0)
      ((refine step_copy_fr (by rfl) _ _ _ _ (by rfl) 3 Try.underlying22 HSZ.out _ _ _ _ _ _ (by rfl) (by rfl) g a (intsV L ++ R) 3 HWG.out.drew ((intsV L).drop a1) HCP.out (fun _ => HRA.out) w.heap.size HSR.out.drew HFIT.out HONE.out ?_; intro w1 hw1 hf1))
    have HF1 := Lib.hid (show Fr (fun k => k = g) w w1 from ⟨hf1.os, hf1.tape, hf1.output, hf1.size, hf1.block⟩)
    have HW1 := Lib.hid hw1
    have HC1 := Lib.hid (HC.out.fr HF1.out (by omega))
    have d0 := HC1.out.cell 0
    simp at d0
    have fm := hw1.frozen m
    obtain ⟨vm, dm⟩ : ∃ vm, w1.cell? ⟨g, m, none⟩ = some vm := by
      rw [hw1.cell m]
      have hml : m < (Go.splice (intsV L ++ R) a ((intsV L).drop a1)).length := by rw [length_splice _ _ _ HFIT.out, List.length_append, len_intsV, HM.out]; omega
      exact ⟨_, by simp only [List.getElem?_toArray]; exact List.getElem?_eq_getElem hml⟩
    clear hf1 hw1
    go_upto_region 10 with (fail)
    obtain ⟨w2, hw2⟩ : ∃ W, w1.setCell ⟨g, m, none⟩ (.int .i64 x) = W := ⟨_, rfl⟩
    rw [hw2]
    have HF2 := Lib.hid (show Fr (fun k => k = g) w w2 by rw [← hw2]; exact HF1.out.setCell (.inl rfl) _)
    have HW2 := Lib.hid (show Whole w2 g 3 ((Go.splice (intsV L ++ R) a ((intsV L).drop a1)).set m (.int .i64 x)).toArray by
      rw [← hw2]
      have hh := HW1.out.set_ m (.int .i64 x)
      simpa using hh)
    have HC2 := Lib.hid (HC.out.fr HF2.out (by omega))
    have htr := HTR.out w2 HF2.out
    have hl := htr.look hxr
    obtain ⟨w3, hrun, ht3, hf3⟩ := htr.add hxr (show I64 (f x + 1) by unfold I64; omega) (by omega)
    have HT3 := Lib.hid ht3
    have HF3 := Lib.hid hf3
    have HC3 := Lib.hid (HC2.out.fr hf3 (by omega))
    have e2 := HC2.out.cell 2
    have e3 := HC3.out.cell 3
    have g3 := HC3.out.frozen 3
    simp at e2 e3
    have hal := HR.out.ale
    have hal1 : IntKind.i64.wrap ((al : Int) + 1) = ((al + 1 : Nat) : Int) := by rw [IntWalk.i64_in _ (by omega)]; omega
    generalize f x = y at hl hrun hfl
    clear hw2 htr ht3 hf3 d0 fm dm
    go_wp2_with fail
    go_ret2
    obtain ⟨h1, h2⟩ := pick_end HR.out hgx.out ha HA1.out HM.out HX.out hgb hnc hcm HLC.out HFIT.out HF2.out HW2.out HT3.out HF3.out HC3.out
    exact ⟨by rw [HX.out]; rfl, by rw [HX.out]; exact h1, h2⟩

def mostOf : List Int → Int
  | [] => 0
  | x :: l => l.foldl max x
def leastOf : List Int → Int
  | [] => 0
  | x :: l => l.foldl min x
theorem mostOf_snoc (l : List Int) (y : Int) (h : l ≠ []) : mostOf (l ++ [y]) = max (mostOf l) y := by
  cases l with
  | nil => exact absurd rfl h
  | cons x l => simp [mostOf, List.foldl_append]
theorem leastOf_snoc (l : List Int) (y : Int) (h : l ≠ []) : leastOf (l ++ [y]) = min (leastOf l) y := by
  cases l with
  | nil => exact absurd rfl h
  | cons x l => simp [leastOf, List.foldl_append]

theorem max_if (a b : Int) : max a b = if a < b then b else a := by rw [Int.max_def]; split <;> split <;> omega
theorem min_if (a b : Int) : min a b = if b < a then b else a := by rw [Int.min_def]; split <;> split <;> omega
set_option maxHeartbeats 800000 in
theorem ringSpread (q : Nat) (L : List Int) (f : Int → Int) (al N : Nat) {X : Nat → Prop} (w : World) (h : RingS w q L f al N X) (hN : N < 1000000) :
    Calls Try.prog 9 #[.pointer (some ⟨q + 2, 0, none⟩)] w fun e w' => e = .returned (.tuple #[.int .i64 (mostOf (L.map f)), .int .i64 (leastOf (L.map f))]) ∧ w = w' := by
  obtain ⟨A, c, hc, hown, _⟩ := h.ex
  have c0 := hc.cell 0
  have c2 := hc.cell 2
  simp at c0 c2
  have HS := Lib.hid (Sl.of_own hown)
  have HR := Lib.hid h
  have hll := h.lle
  clear h hc hown
  go_enter Try.func9, Try.ntmps9
  go_wp2_with fail
  go_loop [4, 5, 14] (fun m l i => ∃ k : Nat, k ≤ L.length ∧ i = .int .i64 k ∧ m = .int .i64 (mostOf ((L.take k).map f)) ∧ l = .int .i64 (leastOf ((L.take k).map f))) (fun _ _ i => L.length - (intOf i).toNat)
  case atStart => exact ⟨0, Nat.zero_le _, rfl, rfl, rfl⟩
  case round =>
    obtain ⟨k, hk, rfl, rfl, rfl⟩ := hrel
    by_cases hlt : k < L.length
    · obtain ⟨b, off, rfl, _, hcell⟩ := HS.out.int hlt
      have hx := HR.out.rng _ (List.getElem_mem hlt)
      have hl := HR.out.trn.look hx
      have HT := Lib.hid (show (L.take (k + 1)).map f = (L.take k).map f ++ [f L[k]] by rw [List.take_succ_eq_append_getElem hlt, List.map_append]; rfl)
      have HE := Lib.hid (show k ≠ 0 → (L.take k).map f ≠ [] from fun h0 e => by
        have := congrArg List.length e
        rw [List.length_map, List.length_take, Nat.min_eq_left hk] at this
        exact h0 this)
      have HE0 := Lib.hid (show k = 0 → (L.take k).map f = [] from fun h0 => by rw [h0]; rfl)
      generalize f L[k] = y at hl HT
      generalize L[k] = x at hcell hl hx
      generalize (L.take k).map f = M at HT HE HE0
      have k0 : (0 : Int) ≤ (k : Int) := Int.natCast_nonneg _
      have k1 : (k : Int) < (L.length : Int) := by omega
      by_cases h0 : k = 0
      · subst h0
        rw [Nat.add_zero] at hcell
        obtain rfl := HE0.out rfl
        go_wp2_with fail
        go_round
        case rel => exact ⟨1, by omega, by go_num, by rw [HT.out]; rfl, by rw [HT.out]; rfl⟩
        case measure => simp [intOf]; omega
      · have t0 : ((k : Int) == 0) = false := beq_eq_false_iff_ne.2 (by omega)
        go_wp2_with fail
        go_round
        case rel => exact ⟨k + 1, by omega, by go_num, by rw [HT.out, mostOf_snoc _ _ (HE.out h0), max_if], by rw [HT.out, leastOf_snoc _ _ (HE.out h0), min_if]⟩
        case measure => simp [intOf]; omega
    · obtain rfl : k = L.length := by omega
      rw [List.take_length]
      go_wp2_with fail
      go_ret2
      exact ⟨rfl, rfl⟩
end Go.Proofs.Ytcbginkbipefaaa
