/-
  turns.Ring: Stop (slices.Index, slices.Delete of its list).
-/
import Derived.Test.YtcbginkbipefaaaRing3
import Derived.Lib.SliceRun
namespace Go.Proofs.Ytcbginkbipefaaa
open Go.RowKit Go.Maps

/-- the first place -/
def FirstAt (L : List Int) (x : Int) (i : Nat) : Prop := i < L.length ∧ L[i]? = some x ∧ ∀ j, j < i → L[j]? ≠ some x
theorem firstAt_of_mem {L : List Int} {x : Int} (h : x ∈ L) : ∃ i, FirstAt L x i := by
  induction L with
  | nil => simp at h
  | cons y L ih =>
    by_cases e : y = x
    · exact ⟨0, by simp, by simp [e], by omega⟩
    · obtain ⟨i, h1, h2, h3⟩ := ih (by rcases List.mem_cons.1 h with h | h; exact absurd h.symm e; exact h)
      refine ⟨i + 1, by simp; omega, by simpa using h2, fun j hj => ?_⟩
      cases j with
      | zero => simpa using e
      | succ j => simpa using h3 j (by omega)
theorem FirstAt.mem {L : List Int} {x : Int} {i : Nat} (h : FirstAt L x i) : x ∈ L := List.mem_of_getElem? h.2.1
theorem FirstAt.of_nodup {L : List Int} {a : Nat} (hn : L.Nodup) (ha : a < L.length) : FirstAt L L[a] a := by
  refine ⟨ha, List.getElem?_eq_getElem ha, fun j hj e => ?_⟩
  have hjl : j < L.length := by omega
  rw [List.getElem?_eq_getElem hjl] at e
  injection e with e
  exact (List.pairwise_iff_getElem.1 hn) j a hjl ha hj e
/-- the list without the one at i -/
def delL (L : List Int) (i : Nat) : List Int := L.take i ++ L.drop (i + 1)
theorem len_delL (L : List Int) (i : Nat) (h : i < L.length) : (delL L i).length = L.length - 1 := by simp [delL]; omega
theorem split_at {L : List Int} {i : Nat} {x : Int} (h : L[i]? = some x) : L = L.take i ++ x :: L.drop (i + 1) := by
  obtain ⟨hi, e⟩ := List.getElem?_eq_some_iff.1 h
  rw [← e]
  simp
theorem nodup_del {L : List Int} {i : Nat} (h : L.Nodup) : (delL L i).Nodup := by
  unfold delL
  have h1 : (L.take i ++ L.drop (i + 1)).Sublist L := by
    conv => rhs; rw [← List.take_append_drop i L]
    refine List.Sublist.append (List.Sublist.refl _) ?_
    rw [show L.drop (i + 1) = (L.drop i).drop 1 by rw [List.drop_drop]]
    exact List.drop_sublist _ _
  exact h.sublist h1
theorem mem_del {L : List Int} {i : Nat} {x : Int} (hn : L.Nodup) (h : L[i]? = some x) (y : Int) : y ∈ delL L i ↔ y ∈ L ∧ y ≠ x := by
  have e := split_at h
  have hn2 : (L.take i ++ x :: L.drop (i + 1)).Nodup := by rw [← e]; exact hn
  unfold delL
  conv => rhs; rw [e]
  rw [List.nodup_append] at hn2
  obtain ⟨_, h2, h3⟩ := hn2
  rw [List.nodup_cons] at h2
  simp only [List.mem_append, List.mem_cons]
  constructor
  · rintro (hy | hy)
    · exact ⟨.inl hy, fun e => h3 y hy x (by simp) e⟩
    · exact ⟨.inr (.inr hy), fun e => h2.1 (e ▸ hy)⟩
  · rintro ⟨hy | hy | hy, hne⟩
    · exact .inl hy
    · exact absurd hy hne
    · exact .inr hy

set_option maxHeartbeats 1000000 in
theorem index_any (L : List Int) (x : Int) (i : Nat) (a : Option Addr) (c B : Nat) (w : World) (hl : L.length ≤ 1000000) (h : FirstAt L x i) (hs : Sl w B a (intsV L)) :
    Calls Try.prog 21 #[.slice a L.length c, .int .i64 x] w fun e w' => e = .returned (.int .i64 (i : Int)) ∧ w = w' := by
  have HS := Lib.hid hs
  obtain ⟨hi, hx, hf⟩ := h
  have HX := Lib.hid hx
  have HF := Lib.hid hf
  clear hs hx hf
  go_enter Try.func21, Try.ntmps21
  go_wp2_with fail
  go_loop [8] (fun k => ∃ j : Nat, j ≤ i ∧ k = .int .i64 (j : Int)) (fun k => L.length - (intOf k).toNat)
  case atStart => exact ⟨0, Nat.zero_le _, rfl⟩
  case round =>
    obtain ⟨j, hj, rfl⟩ := hrel
    have hjl : j < L.length := by omega
    obtain ⟨b, off, rfl, _, hc⟩ := HS.out.int hjl
    have j0 : (0 : Int) ≤ (j : Int) := Int.natCast_nonneg _
    have j1 : (j : Int) < (L.length : Int) := by omega
    have t0 : decide (j < L.length) = true := decide_eq_true hjl
    by_cases e : j = i
    · subst e
      have e1 : L[j] = x := by have h := HX.out; rw [List.getElem?_eq_getElem hjl] at h; injection h
      rw [e1] at hc
      clear e1
      go_wp2_with fail
      go_ret
      exact ⟨rfl, rfl⟩
    · have e1 : L[j] ≠ x := fun e1 => HF.out j (by omega) (by rw [List.getElem?_eq_getElem hjl, e1])
      have t1 : (x == L[j]) = false := beq_eq_false_iff_ne.2 (Ne.symm e1)
      generalize L[j] = y at hc t1
      clear e1
      go_wp2_with fail
      go_round
      case rel => exact ⟨j + 1, by omega, by go_num⟩
      case measure => simp [intOf]; omega

theorem splice_cons {α : Type} (L : List α) (o : Nat) (v : α) (r : List α) (h : o + (v :: r).length ≤ L.length) : Go.splice (L.set o v) (o + 1) r = Go.splice L o (v :: r) := by
  simp only [List.length_cons] at h
  apply List.ext_getElem?
  intro i
  rw [splice_get _ _ _ (by rw [List.length_set]; omega), splice_get _ _ _ (by simp only [List.length_cons]; omega), List.getElem?_set]
  simp only [List.length_cons]
  by_cases h1 : i < o
  · rw [if_pos (by omega), if_pos h1, if_neg (by omega)]
  · rw [if_neg h1]
    by_cases h2 : i = o
    · subst h2
      rw [if_pos (by omega), if_pos rfl, if_pos (by omega), if_pos (by omega), Nat.sub_self]
      rfl
    · rw [if_neg (by omega)]
      by_cases h3 : i < o + 1 + r.length
      · rw [if_pos h3, if_pos (by omega), show i - o = (i - (o + 1)) + 1 by omega]
        rfl
      · rw [if_neg h3, if_neg (by omega), if_neg (by omega)]
theorem Whole.setCells {g : Nat} {t : TypeId} : ∀ (vs : List Value) (o : Nat) (w : World) (cur : List Value), Whole w g t cur.toArray → o + vs.length ≤ cur.length → Whole (w.setCells g o vs) g t (Go.splice cur o vs).toArray
  | [], _, _, _, h, _ => by simpa [World.setCells, Go.splice] using h
  | v :: r, o, w, cur, h, hl => by
    have h1 : Whole (w.setCell ⟨g, o, none⟩ v) g t (cur.set o v).toArray := by simpa using h.set_ o v
    have h2 := Whole.setCells r (o + 1) _ _ h1 (by simp only [List.length_cons] at hl; rw [List.length_set]; omega)
    rw [splice_cons cur o v r hl] at h2
    exact h2
theorem Fr.setCells {S : Nat → Prop} {w0 : World} {g : Nat} (hS : S g) : ∀ (vs : List Value) (o : Nat) (w : World), Fr S w0 w → Fr S w0 (w.setCells g o vs)
  | [], _, _, h => h
  | v :: r, o, _, h => Fr.setCells hS r (o + 1) _ (h.setCell (p := ⟨g, o, none⟩) (.inl hS) v)

theorem del_row (L : List Int) (R : List Value) (i : Nat) (z : Value) (hi : i < L.length) :
    (Go.splice (Go.splice (intsV L ++ R) i ((intsV L).drop (i + 1))) (L.length - 1) [z]).take (L.length - 1) = intsV (delL L i) := by
  have hl : (intsV L).length = L.length := len_intsV L
  have hd : ((intsV L).drop (i + 1)).length = L.length - (i + 1) := by rw [List.length_drop, hl]
  have hfit : i + ((intsV L).drop (i + 1)).length ≤ (intsV L ++ R).length := by rw [hd, List.length_append, hl]; omega
  apply List.ext_getElem?
  intro k
  rw [List.getElem?_take]
  have hdl : (intsV (delL L i)).length = L.length - 1 := by rw [len_intsV, len_delL L i hi]
  by_cases hk : k < L.length - 1
  · rw [if_pos hk, splice_get _ _ _ (by rw [length_splice _ _ _ hfit, List.length_append, hl]; simp; omega), if_pos hk, splice_get _ _ _ hfit]
    have e : intsV (delL L i) = (intsV L).take i ++ (intsV L).drop (i + 1) := by simp [intsV, delL, List.map_take, List.map_drop]
    rw [e]
    by_cases h1 : k < i
    · rw [if_pos h1, List.getElem?_append_left (by rw [hl]; omega), List.getElem?_append_left (by rw [List.length_take, hl]; omega), List.getElem?_take, if_pos h1]
    · rw [if_neg h1, if_pos (by omega), List.getElem?_append_right (by rw [List.length_take, hl]; omega), List.length_take, hl, Nat.min_eq_left (by omega)]
  · rw [if_neg hk, List.getElem?_eq_none (by omega)]

def DelPost (L : List Int) (i g c : Nat) (w : World) (e : Ending) (w' : World) : Prop :=
  e = .returned (.slice (some ⟨g, 0, none⟩) (L.length - 1) c) ∧ (∃ ys : List Value, Whole w' g 3 ys.toArray ∧ ys.length = c ∧ ys.take (L.length - 1) = intsV (delL L i)) ∧ Fr (fun k => k = g) w w'
set_option maxHeartbeats 4000000 in
set_option maxRecDepth 100000 in
theorem delete_any (L : List Int) (R : List Value) (i i1 g c : Nat) (w : World) (hl : L.length ≤ 1000000) (hi : i < L.length) (hi1 : i1 = i + 1) (hw : Whole w g 3 (intsV L ++ R).toArray) (hc : (intsV L ++ R).length = c) :
    Calls Try.prog 22 #[.slice (some ⟨g, 0, none⟩) L.length c, .int .i64 (i : Int), .int .i64 (i1 : Int)] w (DelPost L i g c w) := by
  obtain ⟨i0, hi0, hz0, hz1, hz2⟩ := info_parts intInfoC
  have hcl : L.length ≤ c := by rw [← hc, List.length_append, len_intsV]; omega
  have s1 := fun W => run_slice_to Try.underlying22 hi0 (some ⟨g, 0, none⟩) L.length c i (by omega) W
  have s2 := fun W => run_slice_from Try.underlying22 hi0 hz1 (some ⟨g, 0, none⟩) L.length c i1 (by omega) W
  have HI0 := Lib.hid hi0
  have HZ0 := Lib.hid hz0
  have HZ1 := Lib.hid hz1
  have HW := Lib.hid hw
  have HCC := Lib.hid hc
  have HII := Lib.hid hi1
  have te : ((i : Int) == (i1 : Int)) = false := beq_eq_false_iff_ne.2 (by omega)
  have te2 : (i == i1) = false := beq_eq_false_iff_ne.2 (by omega)
  have hii : i ≤ i1 := by omega
  have hil : i1 ≤ L.length := by omega
  obtain ⟨ad, had, hsrc⟩ : ∃ ad : Addr, restAt (some (⟨g, 0, none⟩ : Addr)) c i1 = some ad ∧ Hid (∀ (t : Nat) (u : Value), ((intsV L).drop i1)[t]? = some u → w.drew.cell? (ad.add t) = some u) := by
    by_cases h : c = i1
    · refine ⟨⟨g, 0, none⟩, by unfold restAt; rw [if_pos h], fun t u hu => ?_⟩
      rw [List.drop_of_length_le (by rw [len_intsV]; omega)] at hu
      simp at hu
    · refine ⟨⟨g, i1, none⟩, rest_at (by omega), fun t u hu => ?_⟩
      rw [List.getElem?_drop] at hu
      have h2 := hw.cell (i1 + t)
      rw [List.getElem?_toArray, List.getElem?_append_left (List.getElem?_eq_some_iff.1 hu).1, hu] at h2
      have e : (⟨g, i1, none⟩ : Addr).add t = ⟨g, i1 + t, none⟩ := by
        unfold Addr.add
        split
        · next h => subst h; rfl
        · rfl
      rw [e]
      exact h2
  rw [had] at s2
  have q1 := Lib.hid (show ((intsV L).drop i1).length = (L.length - i1) * 1 by rw [List.length_drop, len_intsV, Nat.mul_one])
  have q2 := Lib.hid (show ∀ u ∈ (intsV L).drop i1, u.oneCell' = true from fun v hv => int64s_oneCell L v (List.mem_of_mem_drop hv))
  have q3 := Lib.hid (show ∀ t, t < ((intsV L).drop i1).length → (w.drew.cell? ⟨g, 0 + i * 1 + t, none⟩).isSome = true ∧ w.drew.frozen? ⟨g, 0 + i * 1 + t, none⟩ = false from fun t ht => by
    rw [List.length_drop, len_intsV] at ht
    refine ⟨?_, hw.frozen _⟩
    show (w.cell? _).isSome = true
    rw [hw.cell, List.getElem?_toArray, List.getElem?_append_left (by rw [len_intsV]; omega), List.getElem?_eq_getElem (by rw [len_intsV]; omega)]
    rfl)
  obtain ⟨W1, hW1⟩ : ∃ W1, w.drew.setCells g (0 + i * 1) ((intsV L).drop i1) = W1 := ⟨_, rfl⟩
  have hfit : i + ((intsV L).drop i1).length ≤ (intsV L ++ R).length := by rw [List.length_drop, len_intsV, List.length_append, len_intsV]; omega
  have hM1 : Whole W1 g 3 (Go.splice (intsV L ++ R) i ((intsV L).drop i1)).toArray := by
    rw [← hW1, Nat.zero_add, Nat.mul_one]
    exact Whole.setCells _ _ _ _ hw.drew hfit
  have HF1 := Lib.hid (show Fr (fun k => k = g) w W1 by rw [← hW1]; exact Fr.setCells (S := fun k => k = g) rfl _ _ _ (Fr.refl _ _).drew)
  have HM1 := Lib.hid hM1
  have HW1 := Lib.hid hW1
  have hsl : (Go.splice (intsV L ++ R) i ((intsV L).drop i1)).length = c := by rw [length_splice _ _ _ hfit, hc]
  have HSL := Lib.hid hsl
  obtain ⟨n1, hn1⟩ : ∃ n1, n1 = L.length - 1 := ⟨_, rfl⟩
  have hn2 : i + (L.length - i1) = n1 := by omega
  have hcl2 := fun ty => Lib.run_clear_slice (P := Try.prog) W1 22 3 ty (.int .i64 0) Try.underlying22 zeroI rfl rfl g n1 1 (c - n1) (by omega) (fun t ht => by
    rw [hM1.cell, List.getElem?_toArray, List.getElem?_eq_getElem (by omega)]; rfl) (fun t ht => hM1.frozen _)
  have s3 := fun W => run_slice_fromto Try.underlying22 HI0.out HZ1.out (some ⟨g, 0, none⟩) n1 c n1 L.length (by omega) hcl W
  rw [rest_at (by omega), show L.length - n1 = 1 by omega] at s3
  have HN1 := Lib.hid hn1
  have HN2 := Lib.hid hn2
  have x0 : (n1 : Int) ≤ (L.length : Int) := by omega
  have x1 : (0 : Int) ≤ (n1 : Int) := Int.natCast_nonneg _
  have x2 : n1 ≤ L.length := by omega
  clear hW1 hM1 hsl hfit had hn1 hn2
  clear hi0 hz0 hz1 hz2 hw hc hi1
  go_enter Try.func22, Try.ntmps22
  go_wp2_with fail
  go_region_law (refine step_append_room (by rfl) _ _ 22 (by rfl) 3 i0 1 Try.underlying22 HI0.out HZ1.out g 0 i c (by rfl) ad (L.length - i1) (c - i1) ((intsV L).drop i1) (by rfl) q1.out hsrc.out q2.out (by omega) q3.out ?_; rw [HW1.out, HN2.out])
  go_wp2_with fail
  go_ret
  refine ⟨by rw [HN1.out]; rfl, ⟨_, Whole.setCells _ _ _ _ HM1.out (by have := HN1.out; rw [HSL.out]; simp; omega), ?_, ?_⟩, Fr.setCells (S := fun k => k = g) rfl _ _ _ HF1.out⟩
  · rw [length_splice _ _ _ (by have := HN1.out; rw [HSL.out]; simp; omega), HSL.out]
  · rw [HN1.out, HII.out]
    exact del_row L R i (.int .i64 0) hi

theorem stop_end {w w2 w3 w4 : World} {q g c al N i : Nat} {L : List Int} {f : Int → Int} {x : Int} {ys : List Value} {X : Nat → Prop} (hR : RingS w q L f al N X) (hgx : ¬ X g) (hx : L[i]? = some x) (hgb : q + 3 ≤ g) (hnc : L.length ≤ c) (hcm : c ≤ maxLen)
    (hF2 : Fr (fun k => k = q) w w2) (hS2 : SetIs w2 q N (delL L i)) (hF3 : Fr (fun _ => False) w2 w3) (hF4 : Fr (fun k => k = g) w3 w4) (hW4 : Whole w4 g 3 ys.toArray) (hyl : ys.length = c) (hyt : ys.take (L.length - 1) = intsV (delL L i))
    (hC : Whole w (q + 2) 51 #[.slice (some ⟨g, 0, none⟩) L.length c, .map (some q), .map (some (q + 1)), .int .i64 (al : Int)]) :
    RingS (w4.setCell ⟨q + 2, 0, none⟩ (.slice (some ⟨g, 0, none⟩) (L.length - 1) c)) q (delL L i) f al N X ∧ Fr (fun k => q ≤ k ∧ ¬ X k) w (w4.setCell ⟨q + 2, 0, none⟩ (.slice (some ⟨g, 0, none⟩) (L.length - 1) c)) := by
  have hlt := hR.lt
  have hi : i < L.length := (List.getElem?_eq_some_iff.1 hx).1
  have hxq := hR.xq
  have hF24 : Fr (fun k => q ≤ k ∧ ¬ X k) w2 w4 := (hF3.mono (T := fun k => q ≤ k ∧ ¬ X k) (fun _ _ h => h.elim)).trans hF4 (fun k _ e => ⟨by omega, by rw [e]; exact hgx⟩)
  have hF : Fr (fun k => q ≤ k ∧ ¬ X k) w (w4.setCell ⟨q + 2, 0, none⟩ (.slice (some ⟨g, 0, none⟩) (L.length - 1) c)) :=
    ((hF2.mono (T := fun k => q ≤ k ∧ ¬ X k) (fun k _ e => ⟨by omega, fun hx => by have := hxq _ hx; omega⟩)).trans hF24 (fun k _ e => e)).setCell (.inl (show q ≤ q + 2 ∧ ¬ X (q + 2) from ⟨by omega, fun hx => by have := hxq _ hx; omega⟩)) _
  have hs2 := hF2.size
  have hs3 := hF3.size
  have hW5 := hW4.far (q := ⟨q + 2, 0, none⟩) (by show g ≠ q + 2; omega) (.slice (some ⟨g, 0, none⟩) (L.length - 1) c)
  refine ⟨⟨⟨some ⟨g, 0, none⟩, c, ?_, ?_, fun g' hg' => by injection hg' with hg'; rw [← hg']; exact hgx⟩, ?_, ?_, nodup_del hR.nd, ?_, hR.fle, ?_, hR.ale, hxq⟩, hF⟩
  · have h := (((hC.fr hF2 (by omega)).fr hF3 id).fr hF4 (by omega)).set_ 0 (.slice (some ⟨g, 0, none⟩) (L.length - 1) c)
    rw [len_delL L i hi]
    simpa using h
  · rw [len_delL L i hi]
    exact own_of_whole hW5 hgb hyl (by omega) hcm hyt
  · refine hS2.keep ?_
    rw [Below.heap_setCell _ _ _ _ (by show q ≠ q + 2; omega), hF4.block q (by omega) (by omega), hF3.block q (by omega) id]
  · refine hR.trn.keep ?_
    rw [Below.heap_setCell _ _ _ _ (by show q + 1 ≠ q + 2; omega), hF4.block (q + 1) (by omega) (by omega), hF3.block (q + 1) (by omega) id, hF2.block (q + 1) (by omega) (by omega)]
  · intro y hy
    exact hR.rng y ((mem_del hR.nd hx y).1 hy).1
  · rw [len_delL L i hi]; have := hR.lle; omega
theorem ringStop_no (q : Nat) (L : List Int) (f : Int → Int) (al N : Nat) (x : Int) {X : Nat → Prop} (w : World) (h : RingS w q L f al N X) (hid : I64 x) (hin : x ∉ L) :
    Calls Try.prog 11 #[.pointer (some ⟨q + 2, 0, none⟩), .int .i64 x] w (RingPost (.int .i64 7) q L f al N X w) := by
  have HR := Lib.hid h
  have HAS := Lib.hid (ringHas q L f al N x w h hid)
  rw [decide_eq_false hin] at HAS
  clear h hin
  go_enter Try.func11, Try.ntmps11
  go_wp2_with fail
  (with_reducible refine HAS.out.mono ?_)
  rintro e w1 ⟨rfl, hf1⟩
  have HF := Lib.hid hf1
  clear hf1
  go_wp2_with fail
  go_ret
  exact ⟨rfl, HR.out.fr HF.out (fun _ _ h => h.elim), HF.out.mono (fun _ _ h => h.elim)⟩
set_option maxHeartbeats 2000000 in
theorem ringStop_yes (q : Nat) (L : List Int) (f : Int → Int) (al N : Nat) (x : Int) (i : Nat) {X : Nat → Prop} (w : World) (h : RingS w q L f al N X) (hid : I64 x) (hN : N < 1000000) (hi : FirstAt L x i) :
    Calls Try.prog 11 #[.pointer (some ⟨q + 2, 0, none⟩), .int .i64 x] w (RingPost (.int .i64 0) q (delL L i) f al N X w) := by
  have HAS := Lib.hid (ringHas q L f al N x w h hid)
  rw [decide_eq_true hi.mem] at HAS
  have HR := Lib.hid h
  have HI := Lib.hid hi
  have hll := h.lle
  have hil := hi.1
  clear h hi
  go_enter Try.func11, Try.ntmps11
  go_wp2_with fail
  (with_reducible refine HAS.out.mono ?_)
  rintro e w1 ⟨rfl, hf1⟩
  have hr1 := HR.out.fr hf1 (fun _ _ h => h.elim)
  have HF1 := Lib.hid hf1
  have HR1 := Lib.hid hr1
  obtain ⟨A, c, hc, hown, hoff⟩ := hr1.ex
  obtain ⟨g, R, rfl, hgb, hwg, hlc, hnc, hcm⟩ := row_whole hown (by omega)
  have hgx := Lib.hid (hoff g rfl)
  clear hoff
  have c1 := hc.cell 1
  simp at c1
  obtain ⟨w2, hrun, hs2, hf2⟩ := hr1.rdy.del (M := delL L i) hid (mem_del hr1.nd HI.out.2.1) 0
  have HS2 := Lib.hid hs2
  have HF2 := Lib.hid hf2
  have hc2 := hc.fr hf2 (by omega)
  have d0 := hc2.cell 0
  have f0 := hc2.frozen 0
  simp at d0
  have hlt := hc.lt
  have hgl := hwg.lt
  have IX := Lib.hid (index_any L x i (some ⟨g, 0, none⟩) c w2.heap.size w2 (by omega) HI.out (Sl.of_own (own_fr hown hf2 (fun g hg => by have := (hown.lt g hg).1; omega))))
  obtain ⟨i1, hi1⟩ : ∃ i1, i1 = i + 1 := ⟨_, rfl⟩
  have v1 : (i : Int) + 1 = (i1 : Int) := by omega
  have DE := Lib.hid (delete_any L R i i1 g c w2 (by omega) hil hi1 (hwg.fr hf2 (by omega)) hlc)
  have HC := Lib.hid hc
  have HI1 := Lib.hid hi1
  clear hf1 hr1 hc hown hwg hs2 hf2 hc2 hi1
  go_wp2_with fail
  (with_reducible refine IX.out.mono ?_)
  rintro e w3 ⟨rfl, rfl⟩
  clear IX
  go_wp2_with fail
  (with_reducible refine DE.out.mono ?_)
  rintro e w4 ⟨rfl, ⟨ys, hW4, hyl, hyt⟩, hf4⟩
  have e0 := (hf4.cell (p := ⟨q + 2, 0, none⟩) (by show q + 2 < _; have := HF2.out.size; omega) (by show ¬ (q + 2 = g); omega)).trans d0
  have g0 := (hf4.frozen (p := ⟨q + 2, 0, none⟩) (by show q + 2 < _; have := HF2.out.size; omega) (by show ¬ (q + 2 = g); omega)).trans f0
  have HEND := Lib.hid (stop_end HR1.out hgx.out HI.out.2.1 hgb hnc hcm HF2.out HS2.out (Fr.refl _ _) hf4 hW4 hyl hyt HC.out)
  clear hW4 hyl hyt hf4 DE d0 f0 c1
  go_wp2_with fail
  go_ret
  exact ⟨rfl, HEND.out.1, (HF1.out.mono (T := fun k => q ≤ k ∧ ¬ X k) (fun _ _ h => h.elim)).trans HEND.out.2 (fun _ _ h => h)⟩
end Go.Proofs.Ytcbginkbipefaaa
