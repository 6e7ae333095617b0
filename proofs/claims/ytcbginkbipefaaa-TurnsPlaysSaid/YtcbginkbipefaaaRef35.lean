/-
  The document's answer of layer 35: find, Ready, Stop, Place, Pick, Count.
-/
import Derived.Test.YtcbginkbipefaaaRing4
namespace Go.Proofs.Ytcbginkbipefaaa
open Go.RowKit Go.Maps

/-- the document's ring by value -/
structure RefIs (w : World) (AL : Option Addr) (cL : Nat) (AT : Option Addr) (L T : List Int) : Prop where
  sl : Sl w w.heap.size AL (intsV L)
  st : Sl w w.heap.size AT (intsV T)
  cap : L.length ≤ cL
theorem RefIs.below {w w' : World} {AL AT : Option Addr} {cL : Nat} {L T : List Int} (h : RefIs w AL cL AT L T) (hb : Below w.heap.size w w') : RefIs w' AL cL AT L T :=
  ⟨(h.sl.below hb (Nat.le_refl _)).more hb.size, (h.st.below hb (Nat.le_refl _)).more hb.size, h.cap⟩
def refV (AL : Option Addr) (cL : Nat) (AT : Option Addr) (cT : Nat) (L T : List Int) : Value := .agg #[.slice AL L.length cL, .slice AT T.length cT]
/-- the same slice, or one that the call made -/
def Newish (w : World) (a0 : Option Addr) (l0 : List Int) (a : Option Addr) (l : List Int) : Prop := (a = a0 ∧ l = l0) ∨ ∀ ad, a = some ad → w.heap.size ≤ ad.block
theorem own_new {w : World} {base : Nat} {e : TypeId} {A : Option Addr} {n c : Nat} {xs : List Value} (h : w.ownsRow base e 1 (.slice A n c) n xs) : ∀ ad, A = some ad → base ≤ ad.block := by
  intro ad ha
  rcases h.2 with ⟨hv, _⟩ | ⟨g, cap, cur, hv, hg, _⟩
  · injection hv with h1; rw [h1] at ha; cases ha
  · injection hv with h1; rw [h1] at ha; injection ha with ha; rw [← ha]; exact hg
def RefPost (AL0 AT0 : Option Addr) (L0 T0 L T : List Int) (r : List Int) (w : World) (e : Ending) (w' : World) : Prop :=
  ∃ AL cL AT cT, e = .returned (.tuple (#[refV AL cL AT cT L T] ++ (intsV r).toArray)) ∧ RefIs w' AL cL AT L T ∧ Below w.heap.size w w' ∧ Newish w AL0 L0 AL L ∧ Newish w AT0 T0 AT T

set_option maxHeartbeats 1000000 in
theorem find_hit (L : List Int) (x : Int) (i : Nat) (a : Option Addr) (c B : Nat) (w : World) (hl : L.length ≤ 1000000) (h : FirstAt L x i) (hs : Sl w B a (intsV L)) :
    Calls Try.prog 20 #[.slice a L.length c, .int .i64 x] w fun e w' => e = .returned (.int .i64 (i : Int)) ∧ w = w' := by
  have HS := Lib.hid hs
  obtain ⟨hi, hx, hf⟩ := h
  have HX := Lib.hid hx
  have HF := Lib.hid hf
  clear hs hx hf
  go_enter Try.func20, Try.ntmps20
  go_wp2_with fail
  go_loop [5] (fun k => ∃ j : Nat, j ≤ i ∧ k = .int .i64 (j : Int)) (fun k => L.length - (intOf k).toNat)
  case atStart => exact ⟨0, Nat.zero_le _, rfl⟩
  case round =>
    obtain ⟨j, hj, rfl⟩ := hrel
    have hjl : j < L.length := by omega
    obtain ⟨b, off, rfl, _, hc⟩ := HS.out.int hjl
    have j0 : (0 : Int) ≤ (j : Int) := Int.natCast_nonneg _
    have j1 : (j : Int) < (L.length : Int) := by omega
    have t0 : decide (j < L.length) = true := decide_eq_true hjl
    by_cases e : j = i
    · subst e
      have e1 : L[j] = x := by have h := HX.out; rw [List.getElem?_eq_getElem hjl] at h; injection h
      rw [e1] at hc
      clear e1
      go_wp2_with fail
      go_ret
      exact ⟨rfl, rfl⟩
    · have e1 : L[j] ≠ x := fun e1 => HF.out j (by omega) (by rw [List.getElem?_eq_getElem hjl, e1])
      have t1 : (L[j] == x) = false := beq_eq_false_iff_ne.2 e1
      generalize L[j] = y at hc t1
      clear e1
      go_wp2_with fail
      go_round
      case rel => exact ⟨j + 1, by omega, by go_num⟩
      case measure => simp [intOf]; omega
set_option maxHeartbeats 1000000 in
theorem find_miss (L : List Int) (x : Int) (a : Option Addr) (c B : Nat) (w : World) (hl : L.length ≤ 1000000) (h : x ∉ L) (hs : Sl w B a (intsV L)) :
    Calls Try.prog 20 #[.slice a L.length c, .int .i64 x] w fun e w' => e = .returned (.int .i64 (-1)) ∧ w = w' := by
  have HS := Lib.hid hs
  have HF := Lib.hid h
  clear hs h
  go_enter Try.func20, Try.ntmps20
  go_wp2_with fail
  go_loop [5] (fun k => ∃ j : Nat, j ≤ L.length ∧ k = .int .i64 (j : Int)) (fun k => L.length - (intOf k).toNat)
  case atStart => exact ⟨0, Nat.zero_le _, rfl⟩
  case round =>
    obtain ⟨j, hj, rfl⟩ := hrel
    have j0 : (0 : Int) ≤ (j : Int) := Int.natCast_nonneg _
    by_cases hjl : j < L.length
    · obtain ⟨b, off, rfl, _, hc⟩ := HS.out.int hjl
      have j1 : (j : Int) < (L.length : Int) := by omega
      have t0 : decide (j < L.length) = true := decide_eq_true hjl
      have e1 : L[j] ≠ x := fun e1 => HF.out (e1 ▸ List.getElem_mem hjl)
      have t1 : (L[j] == x) = false := beq_eq_false_iff_ne.2 e1
      generalize L[j] = y at hc t1
      clear e1
      go_wp2_with fail
      go_round
      case rel => exact ⟨j + 1, by omega, by go_num⟩
      case measure => simp [intOf]; omega
    · have t0 : decide (j < L.length) = false := decide_eq_false hjl
      go_wp2_with fail
      go_ret
      exact ⟨rfl, rfl⟩

set_option maxHeartbeats 1000000 in
theorem refReady_no (L T : List Int) (AL : Option Addr) (cL : Nat) (AT : Option Addr) (cT : Nat) (x : Int) (w : World) (hl : L.length ≤ 1000000) (h : RefIs w AL cL AT L T) (hin : x ∈ L) :
    Calls Try.prog 10 #[refV AL cL AT cT L T, .int .i64 x] w (RefPost AL AT L T L T [6] w) := by
  obtain ⟨i, hi⟩ := firstAt_of_mem hin
  have hb2 : Below w.heap.size w ((w.alloc (.cells #[.slice AL L.length cL, .slice AT T.length cT] 35)).alloc (.cells #[.slice none 0 0, .slice none 0 0] 35)) :=
    ((Below.refl _ _).alloc (Nat.le_refl _) _).alloc (by simp) _
  have FI := Lib.hid (find_hit L x i AL cL _ _ hl hi (h.below hb2).sl)
  have HR := Lib.hid h
  have i0 : (0 : Int) ≤ (i : Int) := Int.natCast_nonneg _
  have t0 : decide ((0 : Int) ≤ (i : Int)) = true := decide_eq_true i0
  clear h hin hi hb2
  unfold refV
  go_enter Try.func10, Try.ntmps10
  go_wp2_with fail
  (with_reducible refine FI.out.mono ?_)
  rintro e w1 ⟨rfl, rfl⟩
  clear FI
  go_wp2_with fail
  refine bodyPost_ret (v := .tuple #[.agg #[.slice AL L.length cL, .slice AT T.length cT], .int .i64 6]) (by simp [results, Try.results10, go_sem]) rfl ⟨AL, cL, AT, cT, rfl, HR.out.below ?_, ?_, .inl ⟨rfl, rfl⟩, .inl ⟨rfl, rfl⟩⟩
  · exact ((Below.refl _ _).alloc (Nat.le_refl _) _).alloc (by simp) _
  · exact ((Below.refl _ _).alloc (Nat.le_refl _) _).alloc (by simp) _

/-- the same, its list being its own -/
def RefOwn (L T : List Int) (AT : Option Addr) (cT : Nat) (r : List Int) (w : World) (e : Ending) (w' : World) : Prop :=
  ∃ AL cL, e = .returned (.tuple (#[refV AL cL AT cT L T] ++ (intsV r).toArray)) ∧ w'.ownsRow w.heap.size 3 1 (.slice AL L.length cL) L.length (intsV L) ∧ Below w.heap.size w w'
theorem RefOwn.post {L T : List Int} {AT : Option Addr} {cT : Nat} {r : List Int} {w w' : World} {e : Ending} (h : RefOwn L T AT cT r w e w') (hT : Sl w w.heap.size AT (intsV T)) (AL0 : Option Addr) (L0 : List Int) : RefPost AL0 AT L0 T L T r w e w' := by
  obtain ⟨AL, cL, h1, h2, h3⟩ := h
  exact ⟨AL, cL, AT, cT, h1, ⟨Sl.of_own h2, (hT.below h3 (Nat.le_refl _)).more h3.size, own_cap h2⟩, h3, .inr (own_new h2), .inl ⟨rfl, rfl⟩⟩
/-- the ends of Ready and Stop -/
theorem ref_end {w w6 : World} {b : Nat} {A6 : Option Addr} {c6 n : Nat} {M : List Int} {x y z : Value} (hb : w.heap.size ≤ b) (ho : w6.ownsRow (b + 2) 3 1 (.slice A6 n c6) n (intsV M)) (hB : Below w.heap.size w w6) :
    (((w6.setCell ⟨b, 0, none⟩ x).setCell ⟨b + 1, 0, none⟩ y).setCell ⟨b + 1, 1, none⟩ z).ownsRow w.heap.size 3 1 (.slice A6 n c6) n (intsV M) ∧ Below w.heap.size w (((w6.setCell ⟨b, 0, none⟩ x).setCell ⟨b + 1, 0, none⟩ y).setCell ⟨b + 1, 1, none⟩ z) := by
  have hf : Fr (fun k => k = b ∨ k = b + 1) w6 (((w6.setCell ⟨b, 0, none⟩ x).setCell ⟨b + 1, 0, none⟩ y).setCell ⟨b + 1, 1, none⟩ z) :=
    (((Fr.refl (fun k => k = b ∨ k = b + 1) w6).setCell (p := ⟨b, 0, none⟩) (.inl (.inl rfl)) _).setCell (p := ⟨b + 1, 0, none⟩) (.inl (.inr rfl)) _).setCell (p := ⟨b + 1, 1, none⟩) (.inl (.inr rfl)) _
  exact ⟨own_base (own_fr ho hf (fun g hg e => by have := (ho.lt g hg).1; omega)) (by omega), hB.trans (hf.below hB.size (fun k hk e => by omega))⟩

set_option maxRecDepth 100000 in
set_option maxHeartbeats 2000000 in
theorem refReady_yes (L T : List Int) (AL : Option Addr) (cL : Nat) (AT : Option Addr) (cT : Nat) (x : Int) (w : World) (hl : L.length ≤ 1000000) (h : RefIs w AL cL AT L T) (hin : x ∉ L) :
    Calls Try.prog 10 #[refV AL cL AT cT L T, .int .i64 x] w (RefOwn (L ++ [x]) T AT cT [0] w) := by
  obtain ⟨b, hb⟩ : ∃ b, w.heap.size = b := ⟨_, rfl⟩
  obtain ⟨W, hW⟩ : ∃ W, (w.alloc (.cells #[.slice AL L.length cL, .slice AT T.length cT] 35)).alloc (.cells #[.slice none 0 0, .slice none 0 0] 35) = W := ⟨_, rfl⟩
  have hbW : Below w.heap.size w W := by rw [← hW]; exact ((Below.refl _ _).alloc (Nat.le_refl _) _).alloc (by simp) _
  have hsz : W.heap.size = b + 2 := by rw [← hW, ← hb]; simp
  have hM0 : Whole W b 35 #[.slice AL L.length cL, .slice AT T.length cT] := by rw [← hW, ← hb]; exact (Whole.new _ _ _).alloc _
  have hM1 : Whole W (b + 1) 35 #[.slice none 0 0, .slice none 0 0] := by rw [← hW, ← hb]; have h := Whole.new (w.alloc (.cells #[.slice AL L.length cL, .slice AT T.length cT] 35)) 35 #[.slice none 0 0, .slice none 0 0]; simpa using h
  have FI := Lib.hid (find_miss L x AL cL _ W hl hin (h.below hbW).sl)
  have HSL := Lib.hid (fun V (hv : Below w.heap.size w V) => (h.below hv).sl)
  obtain ⟨i0, hi0, hz0, hz1, hz2⟩ := info_parts intInfoC
  have Hi0 := Lib.hid hi0
  have Hz0 := Lib.hid hz0
  have Hz1 := Lib.hid hz1
  have Hz2 := Lib.hid hz2
  have HBW := Lib.hid hbW
  have HM0 := Lib.hid hM0
  have HM1 := Lib.hid hM1
  have HB := Lib.hid hb
  have hwb : w.heap.size ≤ b := by omega
  have HLIT := Lib.hid (World.ownsRow_lit (base := b + 2) (e := 3) (size := 1) W #[] 0 (by omega) (by decide) rfl)
  have hc0 := hM0.cell 0
  have hc1 := hM0.cell 1
  simp at hc0 hc1
  have hsz2 : b + 2 ≤ W.heap.size := by omega
  have hszw : w.heap.size ≤ W.heap.size := by omega
  have hbl : b < W.heap.size := by omega
  have hbl1 : b + 1 < W.heap.size := by omega
  clear h hin hi0 hz0 hz1 hz2 hbW hM0 hM1 hsz
  unfold refV
  go_enter Try.func10, Try.ntmps10
  go_wp2_with fail
  have HW := Lib.hid hW
  clear hW hb
  (with_reducible refine FI.out.mono ?_)
  rintro e w1 ⟨rfl, rfl⟩
  clear FI
  go_wp2_with (first
    | (at_builtin; refine wpList_append_sl _ rfl (.tmp 12) (.tmp 14) _ rfl (b + 2) 3 i0 _ 8 Try.underlying22 Hi0.out Hz0.out Hz1.out Hz2.out rfl _ 0 [] rfl HLIT.out _ AL L.length cL (intsV L) (len_intsV L) rfl (HSL.out _ (HBW.out.alloc hszw _)) (int64s_oneCell L) (by unfold maxLen; omega) (by omega) (by simp; omega) ?_; intro v5 w5 hown5 hgrow5 hat5; simp only [Nat.zero_add, List.nil_append] at hown5; obtain ⟨A5, c5, rfl⟩ := own_form hown5; have HB5 := Lib.hid (own_below HLIT.out hgrow5 (show w.heap.size ≤ b + 2 by omega) (by simp; omega) (HBW.out.alloc hszw _)); have HO5 := Lib.hid hown5; have hs5 : b + 2 ≤ w5.heap.size := (by have := hgrow5.size; simp at this; omega); have HM0a := Lib.hid ((HM0.out.alloc _).grown hgrow5 (fun e => by have := (HLIT.out.lt _ e).1; omega)); have HM1a := Lib.hid ((HM1.out.alloc _).grown hgrow5 (fun e => by have := (HLIT.out.lt _ e).1; omega)); clear hown5 hgrow5 hat5)
    | (at_builtin; refine wpList_append_sl _ rfl (.tmp 15) (.tmp 17) _ rfl (b + 2) 3 i0 _ 8 Try.underlying22 Hi0.out Hz0.out Hz1.out Hz2.out rfl (.slice A5 L.length c5) L.length (intsV L) rfl (HO5.out.alloc _) _ (some ⟨w5.heap.size, 0, none⟩) 1 1 [.int .i64 x] rfl rfl (Sl.new_ _ _ _ _) (int64s_oneCell [x]) (by unfold maxLen; omega) (by omega) (by simp; omega) ?_; intro v6 w6 hown6 hgrow6 hat6; obtain ⟨A6, c6, rfl⟩ := own_form hown6; have HB6 := Lib.hid (own_below (HO5.out.alloc _) hgrow6 (show w.heap.size ≤ b + 2 by omega) (by simp; omega) (HB5.out.alloc HB5.out.size _)); have HO6 := Lib.hid hown6; have hM0b := (HM0a.out.alloc _).grown hgrow6 (fun e => by have := (HO5.out.lt _ e).1; omega); have hM1b := (HM1a.out.alloc _).grown hgrow6 (fun e => by have := (HO5.out.lt _ e).1; omega); have m0 := hM0b.cell 0; have m1 := hM0b.cell 1; have f0 := hM0b.frozen 0; have n0 := hM1b.cell 0; have n1 := hM1b.cell 1; have g0 := hM1b.frozen 0; have g1 := hM1b.frozen 1; simp at m0 m1 n0 n1; clear hown6 hgrow6 hat6 hM0b hM1b))
  have HE := Lib.hid (fun y z => ref_end (M := L ++ [x]) (x := .slice A6 (L.length + 1) c6) (y := y) (z := z) hwb (by rw [ints_snoc]; exact HO6.out) HB6.out)
  refine bodyPost_ret (v := .tuple #[.agg #[.slice A6 (L.length + 1) c6, .slice AT T.length cT], .int .i64 0]) (by simp [results, Try.results10, go_sem, n0, n1]) rfl ⟨A6, c6, by simp [refV, intsV], by rw [List.length_append]; exact (HE.out _ _).1, (HE.out _ _).2⟩

set_option maxHeartbeats 1000000 in
theorem refStop_no (L T : List Int) (AL : Option Addr) (cL : Nat) (AT : Option Addr) (cT : Nat) (x : Int) (w : World) (hl : L.length ≤ 1000000) (h : RefIs w AL cL AT L T) (hin : x ∉ L) :
    Calls Try.prog 12 #[refV AL cL AT cT L T, .int .i64 x] w (RefPost AL AT L T L T [7] w) := by
  have hb2 : Below w.heap.size w ((w.alloc (.cells #[.slice AL L.length cL, .slice AT T.length cT] 35)).alloc (.cells #[.slice none 0 0, .slice none 0 0] 35)) :=
    ((Below.refl _ _).alloc (Nat.le_refl _) _).alloc (by simp) _
  have FI := Lib.hid (find_miss L x AL cL _ _ hl hin (h.below hb2).sl)
  have HR := Lib.hid h
  clear h hin hb2
  unfold refV
  go_enter Try.func12, Try.ntmps12
  go_wp2_with fail
  (with_reducible refine FI.out.mono ?_)
  rintro e w1 ⟨rfl, rfl⟩
  clear FI
  go_wp2_with fail
  refine bodyPost_ret (v := .tuple #[.agg #[.slice AL L.length cL, .slice AT T.length cT], .int .i64 7]) (by simp [results, Try.results12, go_sem]) rfl ⟨AL, cL, AT, cT, rfl, HR.out.below ?_, ?_, .inl ⟨rfl, rfl⟩, .inl ⟨rfl, rfl⟩⟩
  · exact ((Below.refl _ _).alloc (Nat.le_refl _) _).alloc (by simp) _
  · exact ((Below.refl _ _).alloc (Nat.le_refl _) _).alloc (by simp) _

set_option maxRecDepth 100000 in
set_option maxHeartbeats 4000000 in
theorem refStop_yes (L T : List Int) (AL : Option Addr) (cL : Nat) (AT : Option Addr) (cT : Nat) (x : Int) (i : Nat) (w : World) (hl : L.length ≤ 1000000) (h : RefIs w AL cL AT L T) (hi : FirstAt L x i) :
    Calls Try.prog 12 #[refV AL cL AT cT L T, .int .i64 x] w (RefOwn (delL L i) T AT cT [0] w) := by
  obtain ⟨b, hb⟩ : ∃ b, w.heap.size = b := ⟨_, rfl⟩
  obtain ⟨W, hW⟩ : ∃ W, (w.alloc (.cells #[.slice AL L.length cL, .slice AT T.length cT] 35)).alloc (.cells #[.slice none 0 0, .slice none 0 0] 35) = W := ⟨_, rfl⟩
  have hbW : Below w.heap.size w W := by rw [← hW]; exact ((Below.refl _ _).alloc (Nat.le_refl _) _).alloc (by simp) _
  have hsz : W.heap.size = b + 2 := by rw [← hW, ← hb]; simp
  have hM0 : Whole W b 35 #[.slice AL L.length cL, .slice AT T.length cT] := by rw [← hW, ← hb]; exact (Whole.new _ _ _).alloc _
  have hM1 : Whole W (b + 1) 35 #[.slice none 0 0, .slice none 0 0] := by rw [← hW, ← hb]; have h := Whole.new (w.alloc (.cells #[.slice AL L.length cL, .slice AT T.length cT] 35)) 35 #[.slice none 0 0, .slice none 0 0]; simpa using h
  have FI := Lib.hid (find_hit L x i AL cL _ W hl hi (h.below hbW).sl)
  have hil := hi.1
  have hcap := h.cap
  obtain ⟨j, hj⟩ : ∃ j, j = i + 1 := ⟨_, rfl⟩
  have HSA := Lib.hid (fun V (hv : Below w.heap.size w V) => show Sl V V.heap.size AL (intsV (L.take i)) by have h1 := ((h.below hv).sl).take i; simpa [intsV, List.map_take] using h1)
  have HSB := Lib.hid (fun V (hv : Below w.heap.size w V) => show Sl V V.heap.size (restAt AL cL j) (intsV (L.drop j)) by have h1 := ((h.below hv).sl).rest cL j (by rw [len_intsV]; exact hcap); simpa [intsV, List.map_drop] using h1)
  obtain ⟨i0, hi0, hz0, hz1, hz2⟩ := info_parts intInfoC
  have sl1 := fun V => run_slice_to Try.underlying22 hi0 AL L.length cL i (by omega) V
  have sl2 := fun V => run_slice_from Try.underlying22 hi0 hz1 AL L.length cL j (by omega) V
  have Hi0 := Lib.hid hi0
  have Hz0 := Lib.hid hz0
  have Hz1 := Lib.hid hz1
  have Hz2 := Lib.hid hz2
  have hlA : (L.take i).length = i := by rw [List.length_take]; omega
  obtain ⟨m, hm⟩ : ∃ m, m = L.length - j := ⟨_, rfl⟩
  have hlB : (L.drop j).length = m := by rw [List.length_drop, hm]
  rw [← hm] at sl2
  have HLA := Lib.hid (show (intsV (L.take i)).length = i by rw [len_intsV, hlA])
  have HLB := Lib.hid (show (intsV (L.drop j)).length = m by rw [len_intsV, hlB])
  have hdl : delL L i = L.take i ++ L.drop j := by rw [hj]; rfl
  have hdl2 : (delL L i).length = i + m := by rw [hdl, List.length_append, hlA, hlB]
  have HDL := Lib.hid hdl
  have HDL2 := Lib.hid hdl2
  have HBW := Lib.hid hbW
  have HM0 := Lib.hid hM0
  have HM1 := Lib.hid hM1
  have HB := Lib.hid hb
  have hwb : w.heap.size ≤ b := by omega
  have HLIT := Lib.hid (World.ownsRow_lit (base := b + 2) (e := 3) (size := 1) W #[] 0 (by omega) (by decide) rfl)
  have hc0 := hM0.cell 0
  have hc1 := hM0.cell 1
  simp at hc0 hc1
  have hsz2 : b + 2 ≤ W.heap.size := by omega
  have hszw : w.heap.size ≤ W.heap.size := by omega
  have hbl : b < W.heap.size := by omega
  have hbl1 : b + 1 < W.heap.size := by omega
  have v1 : IntKind.i64.wrap ((i : Int) + 1) = (j : Int) := by rw [IntWalk.i64_in _ (by omega)]; omega
  have k0 : (0 : Int) ≤ (i : Int) := Int.natCast_nonneg _
  have k1 : (0 : Int) ≤ (j : Int) := Int.natCast_nonneg _
  have k2 : (j : Int) ≤ (L.length : Int) := by omega
  have k3 : (i : Int) ≤ (cL : Int) := by omega
  have t0 : decide ((i : Int) < 0) = false := decide_eq_false (by omega)
  have hm2 : m ≤ 1000000 := by omega
  generalize L.take i = X at HSA HLA HDL hdl hlA
  generalize L.drop j = Y at HSB HLB HDL hdl hlB
  clear h hi hi0 hz0 hz1 hz2 hbW hM0 hM1 hsz hdl hdl2 hlA hlB hm hj
  unfold refV
  go_enter Try.func12, Try.ntmps12
  go_wp2_with fail
  have HW := Lib.hid hW
  clear hW hb
  (with_reducible refine FI.out.mono ?_)
  rintro e w1 ⟨rfl, rfl⟩
  clear FI
  go_wp2_with fail
  go_region_law
    (first
    | ((refine step_append_sl (by rfl) (.tmp 14) (.tmp 18) _ (by rfl) (b + 2) 3 i0 _ 8 Try.underlying22 Hi0.out Hz0.out Hz1.out Hz2.out rfl _ 0 [] (by rfl) HLIT.out.drew _ AL i cL (intsV X) HLA.out (by rfl) (HSA.out _ (HBW.out.alloc hszw _).drew) (int64s_oneCell X) (by unfold maxLen; omega) (by omega) (by simp; omega) ?_; intro v5 w5 hown5 hgrow5 hat5; simp only [Nat.zero_add, List.nil_append] at hown5; obtain ⟨A5, c5, rfl⟩ := own_form hown5; have HB5 := Lib.hid (own_below HLIT.out.drew hgrow5 (show w.heap.size ≤ b + 2 by omega) (by simp; omega) (HBW.out.alloc hszw _).drew); have HO5 := Lib.hid hown5; have hs5 : b + 2 ≤ w5.heap.size := (by have := hgrow5.size; simp at this; omega); have HM0a := Lib.hid ((HM0.out.alloc _).drew.grown hgrow5 (fun e => by have := (HLIT.out.lt _ e).1; omega)); have HM1a := Lib.hid ((HM1.out.alloc _).drew.grown hgrow5 (fun e => by have := (HLIT.out.lt _ e).1; omega)); have p0 := HM0a.out.cell 0; have p1 := HM0a.out.cell 1; have pf := HM0a.out.frozen 0; simp at p0 p1; clear hown5 hgrow5 hat5))
    | ((refine step_append_sl (by rfl) (.tmp 19) (.tmp 24) _ (by rfl) (b + 2) 3 i0 _ 8 Try.underlying22 Hi0.out Hz0.out Hz1.out Hz2.out rfl (.slice A5 i c5) i (intsV X) (by rfl) HO5.out _ (restAt AL cL j) m (cL - j) (intsV Y) HLB.out (by rfl) (HSB.out _ HB5.out) (int64s_oneCell Y) (by unfold maxLen; omega) (by omega) (by omega) ?_; intro v6 w6 hown6 hgrow6 hat6; obtain ⟨A6, c6, rfl⟩ := own_form hown6; have HB6 := Lib.hid (own_below HO5.out hgrow6 (show w.heap.size ≤ b + 2 by omega) (by have := HB5.out.size; omega) HB5.out); have HO6 := Lib.hid hown6; have hM0b := HM0a.out.grown hgrow6 (fun e => by have := (HO5.out.lt _ e).1; omega); have hM1b := HM1a.out.grown hgrow6 (fun e => by have := (HO5.out.lt _ e).1; omega); have m0 := hM0b.cell 0; have m1 := hM0b.cell 1; have f0 := hM0b.frozen 0; have n0 := hM1b.cell 0; have n1 := hM1b.cell 1; have g0 := hM1b.frozen 0; have g1 := hM1b.frozen 1; simp at m0 m1 n0 n1; clear hown6 hgrow6 hat6 hM0b hM1b)))
  all_goals
    have HE := Lib.hid (fun y z => ref_end (M := delL L i) (x := .slice A6 (i + m) c6) (y := y) (z := z) hwb (by rw [HDL.out]; simpa [intsV] using HO6.out) HB6.out)
    clear p0 p1 pf
    go_wp2_with fail
    refine bodyPost_ret (v := .tuple #[.agg #[.slice A6 (i + m) c6, .slice AT T.length cT], .int .i64 0]) (by simp [results, Try.results12, go_sem, n0, n1]) rfl ⟨A6, c6, by simp [refV, intsV, HDL2.out], by rw [HDL2.out]; exact (HE.out _ _).1, (HE.out _ _).2⟩

/-- a pick's place -/
def PlaceIs (k : Int) (n a : Nat) : Prop := a < n ∧ (k.tmod (n : Int) = (a : Int) ∨ k.tmod (n : Int) = (a : Int) - (n : Int))
theorem place_ex (k : Int) (n : Nat) (hn : 0 < n) : ∃ a, PlaceIs k n a := by
  have h1 := Int.tmod_lt_of_pos k (show (0 : Int) < (n : Int) by omega)
  have h2 : -(n : Int) < k.tmod (n : Int) := by
    have := Int.tmod_lt_of_pos (-k) (show (0 : Int) < (n : Int) by omega)
    rw [Int.neg_tmod] at this
    omega
  by_cases h : 0 ≤ k.tmod (n : Int)
  · exact ⟨(k.tmod (n : Int)).toNat, by omega, .inl (by omega)⟩
  · exact ⟨(k.tmod (n : Int) + (n : Int)).toNat, by omega, .inr (by omega)⟩
theorem refPlace_any (k : Int) (n a : Nat) (w : World) (hn : n ≤ 1000000) (h : PlaceIs k n a) :
    Calls Try.prog 23 #[.int .i64 k, .int .i64 (n : Int)] w fun e w' => e = .returned (.int .i64 (a : Int)) ∧ w = w' := by
  obtain ⟨ha, hk⟩ := h
  have hn1 : ((n : Int) == 0) = false := beq_eq_false_iff_ne.2 (by omega)
  have hn2 : decide ((n : Int) = 0) = false := decide_eq_false (by omega)
  have t1 : decide ((a : Int) < 0) = false := decide_eq_false (by omega)
  have t2 : decide ((a : Int) - (n : Int) < 0) = true := decide_eq_true (by omega)
  have e1 : (a : Int) - (n : Int) + (n : Int) = (a : Int) := by omega
  have v1 : IntKind.i64.wrap ((a : Int) - (n : Int) + (n : Int)) = (a : Int) := by rw [IntWalk.i64_in _ (by omega)]; omega
  have a0 : (0 : Int) ≤ (a : Int) := Int.natCast_nonneg _
  rcases hk with hk | hk
  · go_enter Try.func23, Try.ntmps23
    go_wp2_with fail
    go_ret
    exact ⟨rfl, rfl⟩
  · go_enter Try.func23, Try.ntmps23
    go_wp2_with fail
    go_ret
    exact ⟨by first | rfl | simp, rfl⟩

set_option maxHeartbeats 1000000 in
theorem refPick_none (T : List Int) (AL : Option Addr) (cL : Nat) (AT : Option Addr) (cT : Nat) (k : Int) (w : World) (h : RefIs w AL cL AT [] T) :
    Calls Try.prog 13 #[refV AL cL AT cT [] T, .int .i64 k] w (RefPost AL AT [] T [] T [0, 7] w) := by
  have HR := Lib.hid h
  clear h
  unfold refV
  rw [List.length_nil]
  go_enter Try.func13, Try.ntmps13
  go_wp2_with fail
  refine bodyPost_ret (v := .tuple #[.agg #[.slice AL 0 cL, .slice AT T.length cT], .int .i64 0, .int .i64 7]) (by simp [results, Try.results13, go_sem]) rfl ⟨AL, cL, AT, cT, rfl, HR.out.below ?_, ?_, .inl ⟨rfl, rfl⟩, .inl ⟨rfl, rfl⟩⟩
  · exact ((Below.refl _ _).alloc (Nat.le_refl _) _).alloc (by simp) _
  · exact ((Below.refl _ _).alloc (Nat.le_refl _) _).alloc (by simp) _

set_option maxRecDepth 100000 in
set_option maxHeartbeats 1000000 in
theorem refCount_any (L T : List Int) (AL : Option Addr) (cL : Nat) (AT : Option Addr) (cT : Nat) (x : Int) (w : World) (hl : T.length ≤ 1000000) (h : RefIs w AL cL AT L T) :
    Calls Try.prog 18 #[refV AL cL AT cT L T, .int .i64 x] w fun e w' => e = .returned (.int .i64 ((T.count x : Nat) : Int)) ∧ Below w.heap.size w w' := by
  obtain ⟨b, hb⟩ : ∃ b, w.heap.size = b := ⟨_, rfl⟩
  obtain ⟨W, hW⟩ : ∃ W, w.alloc (.cells #[.slice AL L.length cL, .slice AT T.length cT] 35) = W := ⟨_, rfl⟩
  have hbW : Below w.heap.size w W := by rw [← hW]; exact (Below.refl _ _).alloc (Nat.le_refl _) _
  have hM0 : Whole W b 35 #[.slice AL L.length cL, .slice AT T.length cT] := by rw [← hW, ← hb]; exact Whole.new _ _ _
  have c1 := hM0.cell 1
  simp at c1
  have HS := Lib.hid (h.below hbW).st
  have HBW := Lib.hid hbW
  clear h hM0 hbW
  unfold refV
  go_enter Try.func18, Try.ntmps18
  go_wp2_with fail
  clear hW hb
  go_loop [5, 6] (fun n k => ∃ j : Nat, j ≤ T.length ∧ k = .int .i64 (j : Int) ∧ n = .int .i64 (((T.take j).count x : Nat) : Int)) (fun _ k => T.length - (intOf k).toNat)
  case atStart => exact ⟨0, Nat.zero_le _, rfl, rfl⟩
  case round =>
    obtain ⟨j, hj, rfl, rfl⟩ := hrel
    have j0 : (0 : Int) ≤ (j : Int) := Int.natCast_nonneg _
    have hcl : (T.take j).count x ≤ 1000000 := by have := List.count_le_length (a := x) (l := T.take j); rw [List.length_take] at this; omega
    by_cases hlt : j < T.length
    · obtain ⟨b1, off, rfl, _, hc⟩ := HS.out.int hlt
      have j1 : (j : Int) < (T.length : Int) := by omega
      have t0 : decide (j < T.length) = true := decide_eq_true hlt
      have e : (T.take (j + 1)).count x = (T.take j).count x + if T[j] = x then 1 else 0 := by
        rw [List.take_succ_eq_append_getElem hlt, List.count_append, List.count_singleton]
        by_cases h : T[j] = x
        · simp [h]
        · simp [h]
      have HE := Lib.hid e
      clear e
      generalize (T.take j).count x = n at HE hcl
      by_cases h : T[j] = x
      · have HN := Lib.hid (show (T.take (j + 1)).count x = n + 1 by rw [HE.out, if_pos h])
        rw [h] at hc
        clear h HE
        go_wp2_with fail
        go_round
        case rel => exact ⟨j + 1, by omega, by go_num, by rw [HN.out]; go_num⟩
        case measure => simp [intOf]; omega
      · have HN := Lib.hid (show (T.take (j + 1)).count x = n by rw [HE.out, if_neg h]; rfl)
        have t1 : (T[j] == x) = false := beq_eq_false_iff_ne.2 h
        generalize T[j] = y at hc t1
        clear h HE
        go_wp2_with fail
        go_round
        case rel => exact ⟨j + 1, by omega, by go_num, by rw [HN.out]⟩
        case measure => simp [intOf]; omega
    · obtain rfl : j = T.length := by omega
      have t0 : decide (T.length < T.length) = false := decide_eq_false (by omega)
      rw [List.take_length]
      go_wp2_with fail
      go_ret
      exact ⟨rfl, HBW.out⟩
end Go.Proofs.Ytcbginkbipefaaa
