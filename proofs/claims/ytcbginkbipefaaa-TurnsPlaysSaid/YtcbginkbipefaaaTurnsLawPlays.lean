/-
  The law TurnsPlays returns true: walk.
-/
import Derived.Test.YtcbginkbipefaaaPlays35
import Derived.Test.YtcbginkbipefaaaPairs
import Derived.StillTailTactics
namespace Go.Proofs.Ytcbginkbipefaaa
open Go.RowKit Go.Maps

def TR (w : World) (q b6 n j : Nat) (wr : World) : Prop := ∃ (L T : List Int) (AL : Option Addr) (cL : Nat) (AT : Option Addr) (cT : Nat) (X : Nat → Prop), TP w wr q b6 L (cnt T) T.length j L T AL cL AT cT X ∧ j ≤ n
theorem tp_start {w w2 : World} {q : Nat} (hw : w.heap.size ≤ q) (hb : Below w.heap.size w w2) (hr : RingS w2 q [] (fun _ => 0) 0 0 (fun _ => False)) :
    TP w (w2.alloc (.cells #[.slice none 0 0, .slice none 0 0] 35)) q w2.heap.size [] (cnt []) 0 0 [] [] none 0 none 0 (fun k => k = w2.heap.size) := by
  have hl := hr.lt
  refine ⟨(hr.bar (fun k hk => .inr (by omega))).fr ((Fr.refl (fun _ => False) _).alloc _) (fun _ _ x => x.elim), fun k hk => by simp; omega, rfl, Whole.new _ _ _, ⟨Sl.nil, Sl.nil, by simp⟩, fun h => absurd rfl h, fun h => absurd rfl h, hb.alloc hb.size _, hw⟩
theorem drew_below {B : Nat} {w w' : World} (h : Below B w.drew w') : Below B w w' := ⟨h.os, h.tape, h.output, h.size, h.block⟩

theorem most_next (L : List Int) (f : Int → Int) (k : Nat) (hk : k < L.length) : mostOf ((L.take (k + 1)).map f) = (if k = 0 then f L[k] else max (mostOf ((L.take k).map f)) (f L[k])) ∧ leastOf ((L.take (k + 1)).map f) = (if k = 0 then f L[k] else min (leastOf ((L.take k).map f)) (f L[k])) := by
  rw [List.take_succ_eq_append_getElem hk, List.map_append]
  by_cases h : k = 0
  · subst h
    exact ⟨rfl, rfl⟩
  · have hne : (L.take k).map f ≠ [] := fun e => by
      have := congrArg List.length e
      rw [List.length_map, List.length_take, Nat.min_eq_left (by omega)] at this
      exact h this
    rw [if_neg h, if_neg h]
    exact ⟨mostOf_snoc _ _ hne, leastOf_snoc _ _ hne⟩
def TY (w wr : World) (q b6 : Nat) (N : Nat) (L1 : List Int) (f1 : Int → Int) (al : Nat) (L T : List Int) (AL : Option Addr) (cL : Nat) (AT : Option Addr) (cT : Nat) : Prop := ∃ X, TP w wr q b6 L1 f1 al N L T AL cL AT cT X
theorem tp_step {w w3 w5 : World} {q b6 : Nat} {L1 : List Int} {f1 : Int → Int} {al N : Nat} {L T : List Int} {AL AT : Option Addr} {cL cT : Nat} {X : Nat → Prop} (h : TP w w3 q b6 L1 f1 al N L T AL cL AT cT X) {L' T' : List Int} {AL' AT' : Option Addr} {cL' cT' : Nat}
    (hr : RefIs w5 AL' cL' AT' L' T') (hb : Below w3.drew.heap.size w3.drew w5) (hn : Newish w3.drew AL L AL' L') (hm : Newish w3.drew AT T AT' T') :
    (w5.cell? ⟨b6, 0, none⟩ = some (.slice AL L.length cL) ∧ w5.cell? ⟨b6, 1, none⟩ = some (.slice AT T.length cT) ∧ w5.frozen? ⟨b6, 0, none⟩ = false ∧ w5.frozen? ⟨b6, 1, none⟩ = false) ∧
      Hid (TY w ((w5.setCell ⟨b6, 0, none⟩ (.slice AL' L'.length cL')).setCell ⟨b6, 1, none⟩ (.slice AT' T'.length cT')) q b6 N L1 f1 al L' T' AL' cL' AT' cT') := by
  have hb' : Below w3.heap.size w3 w5 := drew_below hb
  have hM := h.cell6.below hb' h.cell6.lt
  exact ⟨⟨hM.cell 0, hM.cell 1, hM.frozen 0, hM.frozen 1⟩, ⟨_, h.reffed hb' hr hn hm⟩⟩

set_option maxRecDepth 100000 in
set_option maxHeartbeats 8000000 in
theorem turnsPlays_walk (a : Option Addr) (l : List PairV) (cap : Nat) (id : Int) (w : World) (hl : l.length ≤ maxLen) (_hlc : l.length ≤ cap) (hok : ∀ o ∈ l, o.ok) (hsl : Sl w w.heap.size a (l.flatMap PairV.cells)) (hi1 : -9223372036854775808 ≤ id) (hi2 : id ≤ 9223372036854775807) :
    Calls Try.prog 4 #[.slice a l.length cap, .int .i64 id] w fun e w' => e = .returned (.bool true) ∧ Below w.heap.size w w' := by
  unfold maxLen at hl
  have HS := Lib.hid hsl
  have HOK := Lib.hid hok
  clear hsl hok
  by_cases h4 : l.length ≤ 80
  case neg =>
    have t1 : decide ((80 : Int) < (l.length : Int)) = true := decide_eq_true (by omega)
    have t2 : decide (80 < l.length) = true := decide_eq_true (by omega)
    go_enter Try.func4, Try.ntmps4
    go_wp2_with fail
    (with_reducible refine (awake35_any w).mono ?_)
    rintro e w1 ⟨rfl, hb1⟩
    go_wp2_with fail
    go_ret
    exact ⟨rfl, hb1⟩
  have t1 : decide ((80 : Int) < (l.length : Int)) = false := decide_eq_false (by omega)
  have t2 : decide (80 < l.length) = false := decide_eq_false (by omega)
  go_enter Try.func4, Try.ntmps4
  go_wp2_with fail
  (with_reducible refine (awake35_any w).mono ?_)
  rintro e w1 ⟨rfl, hb1⟩
  have HB1 := Lib.hid hb1
  have NEW := Lib.hid (ringNew w1)
  have hs1 := hb1.size
  clear hb1
  go_wp2_with fail
  (with_reducible refine NEW.out.mono ?_)
  rintro e w2 ⟨rfl, hr2, hf2⟩
  have HST := Lib.hid (tp_start hs1 (HB1.out.trans (hf2.below hs1 (fun k hk h => by have := h.1; omega))) hr2)
  obtain ⟨q, hq⟩ : ∃ q, w1.heap.size = q := ⟨_, rfl⟩
  rw [hq] at HST ⊢
  clear hr2 hf2 NEW hs1 hq
  go_wp2_with fail
  obtain ⟨b6, hb6⟩ : ∃ b6, w2.heap.size = b6 := ⟨_, rfl⟩
  rw [hb6] at HST ⊢
  clear hb6
  go_loopw [7] (fun i wr => ∃ j : Nat, i = .int .i64 (j : Int) ∧ TR w q b6 l.length j wr) (fun i _ => l.length - (intOf i).toNat)
  case atStart => exact ⟨0, rfl, _, _, _, _, _, _, _, HST.out, Nat.zero_le _⟩
  case round =>
    obtain ⟨j, rfl, L, T, AL, cL, AT, cT, X, hT, hj⟩ := hrel
    clear HST
    have hLl := hT.ring.lle
    have hTl := hT.ring.ale
    have j0 : (0 : Int) ≤ (j : Int) := Int.natCast_nonneg _
    by_cases hlt : j < l.length
    · have t0 : decide (j < l.length) = true := decide_eq_true hlt
      have hx := List.getElem?_eq_getElem hlt
      have hpo := HOK.out _ (List.getElem_mem hlt)
      obtain ⟨bb, off, rfl, _, dk, dx⟩ := pair_at (HS.out.below hT.bel (Nat.le_refl _)) hx
      have HPA := Lib.hid (fun V (hb : Below w.heap.size w V) => pair_at (HS.out.below hb (Nat.le_refl _)) hx)
      generalize l[j] = p at hpo dk dx HPA
      obtain ⟨kk, x⟩ := p
      obtain ⟨k1, k2, x1, x2⟩ := hpo
      simp only at dk dx HPA k1 k2 x1 x2
      have HX := Lib.hid (show I64 x from ⟨x1, x2⟩)
      have j1 : (j : Int) < (l.length : Int) := by omega
      have HT := Lib.hid hT
      by_cases e0 : kk = 0
      · subst e0
        obtain ⟨M, cd, RA, RB, _⟩ := ready_both L x HX.out
        have R1 := Lib.hid (RA q (cnt T) T.length j X wr hT.ring (by omega) hT.hx)
        have RB := Lib.hid RB
        clear hT hx RA
        go_wp2_with fail
        (with_reducible refine R1.out.mono ?_)
        rintro e w3 ⟨rfl, hr3, hf3⟩
        have hT3 := HT.out.ringed hr3 hf3
        have hrf := hT3.ref
        have R2 := Lib.hid (RB.out T AL cL AT cT w3.drew (by omega) ⟨hrf.sl, hrf.st, hrf.cap⟩)
        unfold refV at R2
        have c0 := hT3.cell6.cell 0
        have c1 := hT3.cell6.cell 1
        simp at c0 c1
        obtain ⟨bb', off', e', _, dk3, dx3⟩ := HPA.out w3 hT3.bel
        injection e' with e'
        injection e' with e1' e2'
        subst e1' e2'
        have HT3 := Lib.hid hT3
        clear hr3 hf3 hT3 hrf dk dx R1
        go_wp2_with fail
        go_region_law ((first | ((go_simp; go_at_call 10; (refine R2.out.mono ?_); rintro e w5 ⟨AL5, cL5, AT5, cT5, rfl, hr5, hb5, hn5, hm5⟩; rw [tup1]; unfold refV; obtain ⟨⟨p0, p1, pf0, pf1⟩, HTN⟩ := tp_step (cT' := cT5) HT3.out hr5 hb5 hn5 hm5; clear hr5 hb5 hn5 hm5))))
        all_goals
          go_upto_region 24 with (fail)
          try simp only [Act.put, List.getElem_toArray, List.getElem_cons_succ, List.getElem_cons_zero, List.setIfInBounds_toArray, List.set_cons_succ, List.set_cons_zero]
          obtain ⟨V, hV⟩ : ∃ V, (w5.setCell ⟨b6, 0, none⟩ (.slice AL5 M.length cL5)).setCell ⟨b6, 1, none⟩ (.slice AT5 T.length cT5) = V := ⟨_, rfl⟩
          rw [hV] at HTN ⊢
          clear hV
          obtain ⟨Y, hTP⟩ := HTN.out
          have HTP := Lib.hid hTP
          have hMl := hTP.ring.lle
          have hUl := hTP.ring.ale
          have c0 := hTP.cell6.cell 0
          have c1 := hTP.cell6.cell 1
          simp at c0 c1
          have LS := Lib.hid (fun W (hb : Below V.heap.size V W) => ringList q M (cnt T) T.length (j + 1) W (HTP.out.fresh hb).ring (by omega))
          have AS := Lib.hid (fun W (hb : Below V.heap.size V W) => ringAll q M (cnt T) T.length (j + 1) W (HTP.out.fresh hb).ring)
          have US := Lib.hid (fun W (hb : Below V.heap.size V W) => ringTurns q M (cnt T) T.length (j + 1) id ⟨hi1, hi2⟩ W (HTP.out.fresh hb).ring)
          have CS := Lib.hid (fun W (hb : Below V.heap.size V W) => refCount_any M T AL5 cL5 AT5 cT5 id W (by omega) (HTP.out.fresh hb).ref)
          have IS := Lib.hid (fun W (hb : Below V.heap.size V W) A c (hs : Sl W W.heap.size A (intsV M)) => ints_same M M A AL5 c cL5 W.heap.size W.heap.size W (by unfold maxLen; omega) (by unfold maxLen; omega) hs (HTP.out.fresh hb).ref.sl)
          have KC := Lib.hid (fun W (hb : Below V.heap.size V W) => show W.cell? ⟨b6, 0, none⟩ = some (.slice AL5 M.length cL5) ∧ W.cell? ⟨b6, 1, none⟩ = some (.slice AT5 T.length cT5) from ⟨by have h := (HTP.out.fresh hb).cell6.cell 0; simpa using h, by have h := (HTP.out.fresh hb).cell6.cell 1; simpa using h⟩)
          have BR := Lib.hid (show Below V.heap.size V V.drew from below_drewN (Below.refl V.heap.size V) 1)
          unfold refV at CS
          unfold cnt at US
          generalize hcn : ((T.count id : Nat) : Int) = cn at US CS
          rw [show decide (M = M) = true from decide_eq_true rfl] at IS
          clear hcn hTP
          go_region_held3 (fun W => W.cell? ⟨b6, 0, none⟩ = some (.slice AL5 M.length cL5) ∧ W.cell? ⟨b6, 1, none⟩ = some (.slice AT5 T.length cT5)) (first | exact ⟨c0, c1⟩ | exact KC.out _ BR.out | exact KC.out _ HB10.out | exact KC.out _ HB7.out | exact KC.out _ HB6.out)
            (first
            | (go_at_call 15; (refine (LS.out _ BR.out).mono ?_); rintro e w6 ⟨A6, c6, rfl, ho6, hb6⟩; rw [len_intsV] at ho6 ⊢; have HB6 := Lib.hid (BR.out.trans (hb6.mono (Nat.le_refl _))); have HS6 := Lib.hid (Sl.of_own ho6); clear ho6 hb6)
            | (go_at_call 14; (refine (IS.out _ HB6.out A6 c6 HS6.out).mono ?_); rintro e w7 ⟨rfl, n7, rfl⟩; have HB7 := Lib.hid (below_drewN HB6.out n7))
            | (go_at_call 16; (refine (AS.out _ HB7.out).mono ?_); rintro e w8 ⟨rfl, rfl⟩)
            | (go_at_call 17; (refine (US.out _ HB7.out).mono ?_); rintro e w9 ⟨rfl, rfl⟩)
            | (go_at_call 18; (refine (CS.out _ HB7.out).mono ?_); rintro e w10 ⟨rfl, hb10⟩; have HB10 := Lib.hid (HB7.out.trans (hb10.mono HB7.out.size)); clear hb10))
          go_wp2_with fail
          go_roundw
          case rel => exact ⟨j + 1, by go_num, M, T, AL5, cL5, AT5, cT5, Y, HTP.out.fresh HB10.out, hlt⟩
          case measure => simp [intOf]; omega
      · have t3 : (kk == 0) = false := beq_eq_false_iff_ne.2 e0
        by_cases e1 : kk = 1
        · subst e1
          obtain ⟨M, cd, RA, RB, _⟩ := stop_both L x HX.out
          have R1 := Lib.hid (RA q (cnt T) T.length j X wr hT.ring (by omega))
          have RB := Lib.hid RB
          clear hT hx RA
          go_wp2_with fail
          (with_reducible refine R1.out.mono ?_)
          rintro e w3 ⟨rfl, hr3, hf3⟩
          have hT3 := HT.out.ringed hr3 hf3
          have hrf := hT3.ref
          have R2 := Lib.hid (RB.out T AL cL AT cT w3.drew (by omega) ⟨hrf.sl, hrf.st, hrf.cap⟩)
          unfold refV at R2
          have c0 := hT3.cell6.cell 0
          have c1 := hT3.cell6.cell 1
          simp at c0 c1
          obtain ⟨bb', off', e', _, dk3, dx3⟩ := HPA.out w3 hT3.bel
          injection e' with e'
          injection e' with e1' e2'
          subst e1' e2'
          have HT3 := Lib.hid hT3
          clear hr3 hf3 hT3 hrf dk dx R1
          go_wp2_with fail
          go_region_law ((first | ((go_simp; go_at_call 12; (refine R2.out.mono ?_); rintro e w5 ⟨AL5, cL5, AT5, cT5, rfl, hr5, hb5, hn5, hm5⟩; rw [tup1]; unfold refV; obtain ⟨⟨p0, p1, pf0, pf1⟩, HTN⟩ := tp_step (cT' := cT5) HT3.out hr5 hb5 hn5 hm5; clear hr5 hb5 hn5 hm5))))
          all_goals
            go_upto_region 24 with (fail)
            try simp only [Act.put, List.getElem_toArray, List.getElem_cons_succ, List.getElem_cons_zero, List.setIfInBounds_toArray, List.set_cons_succ, List.set_cons_zero]
            obtain ⟨V, hV⟩ : ∃ V, (w5.setCell ⟨b6, 0, none⟩ (.slice AL5 M.length cL5)).setCell ⟨b6, 1, none⟩ (.slice AT5 T.length cT5) = V := ⟨_, rfl⟩
            rw [hV] at HTN ⊢
            clear hV
            obtain ⟨Y, hTP⟩ := HTN.out
            have HTP := Lib.hid hTP
            have hMl := hTP.ring.lle
            have hUl := hTP.ring.ale
            have c0 := hTP.cell6.cell 0
            have c1 := hTP.cell6.cell 1
            simp at c0 c1
            have LS := Lib.hid (fun W (hb : Below V.heap.size V W) => ringList q M (cnt T) T.length (j + 1) W (HTP.out.fresh hb).ring (by omega))
            have AS := Lib.hid (fun W (hb : Below V.heap.size V W) => ringAll q M (cnt T) T.length (j + 1) W (HTP.out.fresh hb).ring)
            have US := Lib.hid (fun W (hb : Below V.heap.size V W) => ringTurns q M (cnt T) T.length (j + 1) id ⟨hi1, hi2⟩ W (HTP.out.fresh hb).ring)
            have CS := Lib.hid (fun W (hb : Below V.heap.size V W) => refCount_any M T AL5 cL5 AT5 cT5 id W (by omega) (HTP.out.fresh hb).ref)
            have IS := Lib.hid (fun W (hb : Below V.heap.size V W) A c (hs : Sl W W.heap.size A (intsV M)) => ints_same M M A AL5 c cL5 W.heap.size W.heap.size W (by unfold maxLen; omega) (by unfold maxLen; omega) hs (HTP.out.fresh hb).ref.sl)
            have KC := Lib.hid (fun W (hb : Below V.heap.size V W) => show W.cell? ⟨b6, 0, none⟩ = some (.slice AL5 M.length cL5) ∧ W.cell? ⟨b6, 1, none⟩ = some (.slice AT5 T.length cT5) from ⟨by have h := (HTP.out.fresh hb).cell6.cell 0; simpa using h, by have h := (HTP.out.fresh hb).cell6.cell 1; simpa using h⟩)
            have BR := Lib.hid (show Below V.heap.size V V.drew from below_drewN (Below.refl V.heap.size V) 1)
            unfold refV at CS
            unfold cnt at US
            generalize hcn : ((T.count id : Nat) : Int) = cn at US CS
            rw [show decide (M = M) = true from decide_eq_true rfl] at IS
            clear hcn hTP
            go_region_held3 (fun W => W.cell? ⟨b6, 0, none⟩ = some (.slice AL5 M.length cL5) ∧ W.cell? ⟨b6, 1, none⟩ = some (.slice AT5 T.length cT5)) (first | exact ⟨c0, c1⟩ | exact KC.out _ BR.out | exact KC.out _ HB10.out | exact KC.out _ HB7.out | exact KC.out _ HB6.out)
              (first
              | (go_at_call 15; (refine (LS.out _ BR.out).mono ?_); rintro e w6 ⟨A6, c6, rfl, ho6, hb6⟩; rw [len_intsV] at ho6 ⊢; have HB6 := Lib.hid (BR.out.trans (hb6.mono (Nat.le_refl _))); have HS6 := Lib.hid (Sl.of_own ho6); clear ho6 hb6)
              | (go_at_call 14; (refine (IS.out _ HB6.out A6 c6 HS6.out).mono ?_); rintro e w7 ⟨rfl, n7, rfl⟩; have HB7 := Lib.hid (below_drewN HB6.out n7))
              | (go_at_call 16; (refine (AS.out _ HB7.out).mono ?_); rintro e w8 ⟨rfl, rfl⟩)
              | (go_at_call 17; (refine (US.out _ HB7.out).mono ?_); rintro e w9 ⟨rfl, rfl⟩)
              | (go_at_call 18; (refine (CS.out _ HB7.out).mono ?_); rintro e w10 ⟨rfl, hb10⟩; have HB10 := Lib.hid (HB7.out.trans (hb10.mono HB7.out.size)); clear hb10))
            go_wp2_with fail
            go_roundw
            case rel => exact ⟨j + 1, by go_num, M, T, AL5, cL5, AT5, cT5, Y, HTP.out.fresh HB10.out, hlt⟩
            case measure => simp [intOf]; omega
        · have t5 : (kk == 1) = false := beq_eq_false_iff_ne.2 e1
          clear e0 e1
          obtain ⟨M, U, who, cd, RA, RB, _⟩ := pick_both L T x hT.ring.nd (by omega) (by omega)
          have R1 := Lib.hid (RA q j X wr hT.ring (by omega))
          have RB := Lib.hid RB
          clear hT hx RA
          go_wp2_with fail
          (with_reducible refine R1.out.mono ?_)
          rintro e w3 ⟨rfl, hr3, hf3⟩
          have hT3 := HT.out.ringed hr3 hf3
          have hrf := hT3.ref
          have R2 := Lib.hid (RB.out AL cL AT cT w3.drew ⟨hrf.sl, hrf.st, hrf.cap⟩)
          unfold refV at R2
          have c0 := hT3.cell6.cell 0
          have c1 := hT3.cell6.cell 1
          simp at c0 c1
          obtain ⟨bb', off', e', _, dk3, dx3⟩ := HPA.out w3 hT3.bel
          injection e' with e'
          injection e' with e1' e2'
          subst e1' e2'
          have HT3 := Lib.hid hT3
          clear hr3 hf3 hT3 hrf dk dx R1
          go_wp2_with fail
          go_region_law ((first | ((go_simp; go_at_call 13; (refine R2.out.mono ?_); rintro e w5 ⟨AL5, cL5, AT5, cT5, rfl, hr5, hb5, hn5, hm5⟩; rw [tup2]; unfold refV; obtain ⟨⟨p0, p1, pf0, pf1⟩, HTN⟩ := tp_step (cT' := cT5) HT3.out hr5 hb5 hn5 hm5; clear hr5 hb5 hn5 hm5))))
          all_goals
            go_upto_region 24 with (fail)
            try simp only [Act.put, List.getElem_toArray, List.getElem_cons_succ, List.getElem_cons_zero, List.setIfInBounds_toArray, List.set_cons_succ, List.set_cons_zero]
            obtain ⟨V, hV⟩ : ∃ V, (w5.setCell ⟨b6, 0, none⟩ (.slice AL5 M.length cL5)).setCell ⟨b6, 1, none⟩ (.slice AT5 U.length cT5) = V := ⟨_, rfl⟩
            rw [hV] at HTN ⊢
            clear hV
            obtain ⟨Y, hTP⟩ := HTN.out
            have HTP := Lib.hid hTP
            have hMl := hTP.ring.lle
            have hUl := hTP.ring.ale
            have c0 := hTP.cell6.cell 0
            have c1 := hTP.cell6.cell 1
            simp at c0 c1
            have LS := Lib.hid (fun W (hb : Below V.heap.size V W) => ringList q M (cnt U) U.length (j + 1) W (HTP.out.fresh hb).ring (by omega))
            have AS := Lib.hid (fun W (hb : Below V.heap.size V W) => ringAll q M (cnt U) U.length (j + 1) W (HTP.out.fresh hb).ring)
            have US := Lib.hid (fun W (hb : Below V.heap.size V W) => ringTurns q M (cnt U) U.length (j + 1) id ⟨hi1, hi2⟩ W (HTP.out.fresh hb).ring)
            have CS := Lib.hid (fun W (hb : Below V.heap.size V W) => refCount_any M U AL5 cL5 AT5 cT5 id W (by omega) (HTP.out.fresh hb).ref)
            have IS := Lib.hid (fun W (hb : Below V.heap.size V W) A c (hs : Sl W W.heap.size A (intsV M)) => ints_same M M A AL5 c cL5 W.heap.size W.heap.size W (by unfold maxLen; omega) (by unfold maxLen; omega) hs (HTP.out.fresh hb).ref.sl)
            have KC := Lib.hid (fun W (hb : Below V.heap.size V W) => show W.cell? ⟨b6, 0, none⟩ = some (.slice AL5 M.length cL5) ∧ W.cell? ⟨b6, 1, none⟩ = some (.slice AT5 U.length cT5) from ⟨by have h := (HTP.out.fresh hb).cell6.cell 0; simpa using h, by have h := (HTP.out.fresh hb).cell6.cell 1; simpa using h⟩)
            have BR := Lib.hid (show Below V.heap.size V V.drew from below_drewN (Below.refl V.heap.size V) 1)
            unfold refV at CS
            unfold cnt at US
            generalize hcn : ((U.count id : Nat) : Int) = cn at US CS
            rw [show decide (M = M) = true from decide_eq_true rfl] at IS
            clear hcn hTP
            go_region_held3 (fun W => W.cell? ⟨b6, 0, none⟩ = some (.slice AL5 M.length cL5) ∧ W.cell? ⟨b6, 1, none⟩ = some (.slice AT5 U.length cT5)) (first | exact ⟨c0, c1⟩ | exact KC.out _ BR.out | exact KC.out _ HB10.out | exact KC.out _ HB7.out | exact KC.out _ HB6.out)
              (first
              | (go_at_call 15; (refine (LS.out _ BR.out).mono ?_); rintro e w6 ⟨A6, c6, rfl, ho6, hb6⟩; rw [len_intsV] at ho6 ⊢; have HB6 := Lib.hid (BR.out.trans (hb6.mono (Nat.le_refl _))); have HS6 := Lib.hid (Sl.of_own ho6); clear ho6 hb6)
              | (go_at_call 14; (refine (IS.out _ HB6.out A6 c6 HS6.out).mono ?_); rintro e w7 ⟨rfl, n7, rfl⟩; have HB7 := Lib.hid (below_drewN HB6.out n7))
              | (go_at_call 16; (refine (AS.out _ HB7.out).mono ?_); rintro e w8 ⟨rfl, rfl⟩)
              | (go_at_call 17; (refine (US.out _ HB7.out).mono ?_); rintro e w9 ⟨rfl, rfl⟩)
              | (go_at_call 18; (refine (CS.out _ HB7.out).mono ?_); rintro e w10 ⟨rfl, hb10⟩; have HB10 := Lib.hid (HB7.out.trans (hb10.mono HB7.out.size)); clear hb10))
            go_wp2_with fail
            go_roundw
            case rel => exact ⟨j + 1, by go_num, M, U, AL5, cL5, AT5, cT5, Y, HTP.out.fresh HB10.out, hlt⟩
            case measure => simp [intOf]; omega
    · obtain rfl : j = l.length := by omega
      have t0 : decide (l.length < l.length) = false := decide_eq_false (by omega)
      have HT := Lib.hid hT
      have c0 := hT.cell6.cell 0
      have c1 := hT.cell6.cell 1
      simp at c0 c1
      clear hT
      obtain ⟨V, rfl⟩ : ∃ V : World, V = wr := ⟨_, rfl⟩
      have HVB := Lib.hid HT.out.bel
      have MX := Lib.hid (fun k (hk : k < L.length) => most_next L (cnt T) k hk)
      go_wp2_with fail
      go_loopw [13, 14, 15, 16] (fun m le h i wr => ∃ k : Nat, k ≤ L.length ∧ i = .int .i64 (k : Int) ∧ m = .int .i64 (mostOf ((L.take k).map (cnt T))) ∧ le = .int .i64 (leastOf ((L.take k).map (cnt T))) ∧ h = .bool (decide (id ∈ L.take k)) ∧ Below V.heap.size V wr) (fun _ _ _ i _ => L.length - (intOf i).toNat)
      case atStart => exact ⟨0, Nat.zero_le _, rfl, rfl, rfl, by simp, Below.refl _ _⟩
      case round =>
        obtain ⟨k, hk, rfl, rfl, rfl, rfl, hbr⟩ := hrel
        have HTP := Lib.hid (HT.out.fresh hbr)
        have d0 := HTP.out.cell6.cell 0
        have d1 := HTP.out.cell6.cell 1
        simp at d0 d1
        have hsw := hbr.size
        have HBR := Lib.hid hbr
        have k0 : (0 : Int) ≤ (k : Int) := Int.natCast_nonneg _
        clear hbr c0 c1
        by_cases hkl : k < L.length
        · have t5 : decide (k < L.length) = true := decide_eq_true hkl
          have k1 : (k : Int) < (L.length : Int) := by omega
          obtain ⟨b1, o1, rfl, hb1l, hcell⟩ := HTP.out.ref.sl.int hkl
          have CS := Lib.hid (fun m => refCount_any L T (some ⟨b1, o1, none⟩) cL AT cT L[k] (wr.drewN m) (by omega) ⟨HTP.out.ref.sl.drewN m, HTP.out.ref.st.drewN m, HTP.out.ref.cap⟩)
          have HMX := Lib.hid (MX.out k hkl)
          have HMEM := Lib.hid (show decide (id ∈ L.take (k + 1)) = (decide (id ∈ L.take k) || (L[k] == id)) by
            rw [List.take_succ_eq_append_getElem hkl, Bool.eq_iff_iff]
            simp only [decide_eq_true_eq, List.mem_append, List.mem_singleton, Bool.or_eq_true, beq_iff_eq]
            exact or_congr Iff.rfl eq_comm)
          have hcb : T.count L[k] ≤ T.length := List.count_le_length
          unfold refV at CS
          have HCT := Lib.hid (show cnt T L[k] = ((T.count L[k] : Nat) : Int) from rfl)
          rw [HCT.out] at HMX
          generalize mostOf ((L.take k).map (cnt T)) = mo at HMX ⊢
          generalize leastOf ((L.take k).map (cnt T)) = le at HMX ⊢
          generalize T.count L[k] = n at CS HMX hcb
          generalize L[k] = y at CS hcell HMEM
          go_wp2_with fail
          go_still_tail 6, (by kernel_rfl)
          go_wp2_with fail
          (refine (CS.out 1).mono ?_)
          rintro e w5 ⟨rfl, hb5⟩
          have hb5' : Below wr.heap.size wr w5 := (below_drewN (Below.refl wr.heap.size wr) 1).trans hb5
          have HB5 := Lib.hid (HBR.out.trans (hb5'.mono hsw))
          have hc5 := (hb5'.cell (p := ⟨b1, o1 + k, none⟩) hb1l).trans hcell
          have HTP5 := Lib.hid (HTP.out.fresh hb5')
          have e0 := HTP5.out.cell6.cell 0
          have e1 := HTP5.out.cell6.cell 1
          simp at e0 e1
          clear hb5 hb5' hcell d0 d1 CS
          have hmx : ∀ (u : Int) ty W, (Builtin.max_ #[3, 3] ty #[.int .i64 u, .int .i64 (n : Int)]).run Try.prog W = .ok (.int .i64 (max u (n : Int))) W := fun u ty W => by
            rw [max_if]
            simp only [go_sem]
          have hmn : ∀ (u : Int) ty W, (Builtin.min_ #[3, 3] ty #[.int .i64 u, .int .i64 (n : Int)]).run Try.prog W = .ok (.int .i64 (min u (n : Int))) W := fun u ty W => by
            rw [min_if]
            simp only [go_sem]
          by_cases hk0 : k = 0
          · have tz : ((k : Int) == 0) = true := by simp [hk0]
            have tz2 : (k == 0) = true := by simp [hk0]
            have HM1 := Lib.hid (HMX.out.1.trans (if_pos hk0))
            have HM2 := Lib.hid (HMX.out.2.trans (if_pos hk0))
            have mm := hmx (n : Int)
            have mn := hmn (n : Int)
            rw [Int.max_self] at mm
            rw [Int.min_self] at mn
            have HK0 := Lib.hid hk0
            clear hmx hmn hk0
            cases hh : decide (id ∈ L.take k) with
            | true =>
              have HN := Lib.hid (show decide (id ∈ L.take (k + 1)) = true by rw [HMEM.out, hh]; rfl)
              clear hh
              go_wp2_with fail
              go_quiet (fail)
              go_wp2_with fail
              go_roundw
              case rel => exact ⟨k + 1, by omega, by go_num, by rw [HM1.out], by rw [HM2.out], by rw [HN.out], below_drewN HB5.out _⟩
              case measure => simp [intOf]; omega
            | false =>
              have HN := Lib.hid (show decide (id ∈ L.take (k + 1)) = (y == id) by rw [HMEM.out, hh]; rfl)
              clear hh
              generalize hyi : (y == id) = yb at HN
              go_wp2_with fail
              go_quiet (fail)
              go_wp2_with fail
              go_roundw
              case rel => exact ⟨k + 1, by omega, by go_num, by rw [HM1.out], by rw [HM2.out], by rw [HN.out], below_drewN HB5.out _⟩
              case measure => simp [intOf]; omega
          · have tz : ((k : Int) == 0) = false := beq_eq_false_iff_ne.2 (by omega)
            have tz2 : (k == 0) = false := beq_eq_false_iff_ne.2 hk0
            have HM1 := Lib.hid (HMX.out.1.trans (if_neg hk0))
            have HM2 := Lib.hid (HMX.out.2.trans (if_neg hk0))
            have mm := hmx mo
            have mn := hmn le
            generalize max mo (n : Int) = mx at mm HM1
            generalize min le (n : Int) = mi at mn HM2
            clear hmx hmn hk0
            cases hh : decide (id ∈ L.take k) with
            | true =>
              have HN := Lib.hid (show decide (id ∈ L.take (k + 1)) = true by rw [HMEM.out, hh]; rfl)
              clear hh
              go_wp2_with fail
              go_quiet (fail)
              go_wp2_with fail
              go_roundw
              case rel => exact ⟨k + 1, by omega, by go_num, by rw [HM1.out], by rw [HM2.out], by rw [HN.out], below_drewN HB5.out _⟩
              case measure => simp [intOf]; omega
            | false =>
              have HN := Lib.hid (show decide (id ∈ L.take (k + 1)) = (y == id) by rw [HMEM.out, hh]; rfl)
              clear hh
              generalize hyi : (y == id) = yb at HN
              go_wp2_with fail
              go_quiet (fail)
              go_wp2_with fail
              go_roundw
              case rel => exact ⟨k + 1, by omega, by go_num, by rw [HM1.out], by rw [HM2.out], by rw [HN.out], below_drewN HB5.out _⟩
              case measure => simp [intOf]; omega
        · obtain rfl : k = L.length := by omega
          have t5 : decide (L.length < L.length) = false := decide_eq_false (by omega)
          rw [List.take_length]
          have SP := Lib.hid (ringSpread q L (cnt T) T.length l.length wr HTP.out.ring (by omega))
          have HA := Lib.hid (ringHas q L (cnt T) T.length l.length id wr HTP.out.ring ⟨hi1, hi2⟩)
          generalize mostOf (L.map (cnt T)) = mo at SP ⊢
          generalize leastOf (L.map (cnt T)) = le at SP ⊢
          generalize decide (id ∈ L) = hh at HA ⊢
          go_wp2_with fail
          (refine SP.out.mono ?_)
          rintro e w6 ⟨rfl, rfl⟩
          go_wp2_with fail
          (refine HA.out.mono ?_)
          rintro e w7 ⟨rfl, hf7⟩
          go_wp2_with fail
          go_ret
          exact ⟨by simp, HVB.out.trans ((HBR.out.mono HVB.out.size).trans (hf7.below (by have := HVB.out.size; omega) (fun _ _ h => h.elim)))⟩
end Go.Proofs.Ytcbginkbipefaaa
