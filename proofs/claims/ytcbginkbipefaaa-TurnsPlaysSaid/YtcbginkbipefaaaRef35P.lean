/-
  The document's answer of layer 35: Pick.
-/
import Derived.Test.YtcbginkbipefaaaRef35
namespace Go.Proofs.Ytcbginkbipefaaa
open Go.RowKit Go.Maps

theorem tup1 (v : Value) (c : Int) : (#[v] ++ (intsV [c]).toArray : Array Value) = #[v, .int .i64 c] := rfl
theorem tup2 (v : Value) (c d : Int) : (#[v] ++ (intsV [c, d]).toArray : Array Value) = #[v, .int .i64 c, .int .i64 d] := rfl
theorem row_ne {v v' : Value} {b8 s : Nat} (hno : ∀ g, v.ownBlock = some g → g < b8) (hs : b8 < s) (h : v'.ownBlock = v.ownBlock ∨ v'.ownBlock = some s) : ∀ g, v'.ownBlock = some g → g ≠ b8 := by
  intro g hg e
  rcases h with h | h
  · have := hno g (h.symm.trans hg); omega
  · rw [h] at hg; injection hg with hg; omega
theorem pick_delL (L : List Int) (a : Nat) (h : a < L.length) : delL L a ++ [L[a]] = pickL L a := by
  unfold delL pickL; rw [getD_int h]
set_option maxRecDepth 100000 in
set_option maxHeartbeats 4000000 in
theorem refPick_some (L T : List Int) (AL : Option Addr) (cL : Nat) (AT : Option Addr) (cT : Nat) (k : Int) (a : Nat) (w : World) (hl : L.length ≤ 100000) (hT : T.length ≤ 100000) (h : RefIs w AL cL AT L T) (hn : L.Nodup) (ha : PlaceIs k L.length a) :
    Calls Try.prog 13 #[refV AL cL AT cT L T, .int .i64 k] w (RefPost AL AT L T (pickL L a) (T ++ [L.getD a 0]) [L.getD a 0, 0] w) := by
  have hal := ha.1
  obtain ⟨b, hb⟩ : ∃ b, w.heap.size = b := ⟨_, rfl⟩
  obtain ⟨W, hW⟩ : ∃ W, (w.alloc (.cells #[.slice AL L.length cL, .slice AT T.length cT] 35)).alloc (.cells #[.slice none 0 0, .slice none 0 0] 35) = W := ⟨_, rfl⟩
  have hbW : Below w.heap.size w W := by rw [← hW]; exact ((Below.refl _ _).alloc (Nat.le_refl _) _).alloc (by simp) _
  have hsz : W.heap.size = b + 2 := by rw [← hW, ← hb]; simp
  have hM0 : Whole W b 35 #[.slice AL L.length cL, .slice AT T.length cT] := by rw [← hW, ← hb]; exact (Whole.new _ _ _).alloc _
  have hM1 : Whole W (b + 1) 35 #[.slice none 0 0, .slice none 0 0] := by rw [← hW, ← hb]; have h := Whole.new (w.alloc (.cells #[.slice AL L.length cL, .slice AT T.length cT] 35)) 35 #[.slice none 0 0, .slice none 0 0]; simpa using h
  have PL := Lib.hid (fun V => refPlace_any k L.length a V (by omega) ha)
  obtain ⟨bb, off, rfl, _, hx⟩ := (h.below hbW).sl.int hal
  have ST := Lib.hid (fun V (hv : Below w.heap.size w V) => refStop_yes L T (some ⟨bb, off, none⟩) cL AT cT L[a] a V (by omega) (h.below hv) (FirstAt.of_nodup hn hal))
  have HGD := Lib.hid (getD_int hal)
  have HPK := Lib.hid (pick_delL L a hal)
  have hdl : (delL L a).length + 1 = L.length := by rw [len_delL L a hal]; omega
  generalize L[a] = x at hx ST HGD HPK
  have HST := Lib.hid (fun V (hv : Below w.heap.size w V) => (h.below hv).st)
  obtain ⟨i0, hi0, hz0, hz1, hz2⟩ := info_parts intInfoC
  have Hi0 := Lib.hid hi0
  have Hz0 := Lib.hid hz0
  have Hz1 := Lib.hid hz1
  have Hz2 := Lib.hid hz2
  have HBW := Lib.hid hbW
  have HM0 := Lib.hid hM0
  have HM1 := Lib.hid hM1
  have hwb : w.heap.size ≤ b := by omega
  have c0 := hM0.cell 0
  have c1 := hM0.cell 1
  simp at c0 c1
  have hsz2 : b + 2 ≤ W.heap.size := by omega
  have hszw : w.heap.size ≤ W.heap.size := by omega
  have hbl : b < W.heap.size := by omega
  have hbl1 : b + 1 < W.heap.size := by omega
  have t0 : ((L.length : Int) == 0) = false := beq_eq_false_iff_ne.2 (by omega)
  have t1 : (L.length == 0) = false := beq_eq_false_iff_ne.2 (by omega)
  have t2 : decide ((L.length : Int) = 0) = false := decide_eq_false (by omega)
  have a0 : (0 : Int) ≤ (a : Int) := Int.natCast_nonneg _
  have a1 : (a : Int) < (L.length : Int) := by omega
  have HL0 := Lib.hid (show L ≠ [] by intro e; rw [e] at hal; simp at hal)
  clear h ha hi0 hz0 hz1 hz2 hbW hM0 hM1 hsz hn
  unfold refV at ST ⊢
  rw [HGD.out]
  go_enter Try.func13, Try.ntmps13
  have t3 := HL0.out
  go_wp2_with fail
  have HW := Lib.hid hW
  clear hW hb
  go_quiet ((go_at_call 23; exact quietly (PL.out _)))
  rename_i nq
  obtain ⟨V, hV⟩ : ∃ V, W.drewN nq = V := ⟨_, rfl⟩
  have HBV := Lib.hid (show Below w.heap.size w V by rw [← hV]; exact below_drewN HBW.out nq)
  have hM0 : Whole V b 35 #[.slice (some ⟨bb, off, none⟩) L.length cL, .slice AT T.length cT] := by rw [← hV]; exact HM0.out.drewN nq
  have hM1 : Whole V (b + 1) 35 #[.slice none 0 0, .slice none 0 0] := by rw [← hV]; exact HM1.out.drewN nq
  have hsV : b + 2 ≤ V.heap.size := by rw [← hV]; exact hsz2
  rw [hV]
  have c0 := hM0.cell 0
  have c1 := hM0.cell 1
  simp at c0 c1
  have ST2 := Lib.hid (ST.out V HBV.out)
  have HM0 := Lib.hid hM0
  have HM1 := Lib.hid hM1
  clear hV hM0 hM1 hx PL ST
  go_wp2_with fail
  (refine ST2.out.mono ?_)
  rintro e w2 ⟨A2, c2, rfl, ho2, hb2⟩
  obtain ⟨n1, hn1⟩ : ∃ n1, (delL L a).length = n1 := ⟨_, rfl⟩
  rw [hn1] at ho2
  rw [tup1]
  unfold refV
  rw [hn1]
  rw [hn1] at hdl
  have HDL := Lib.hid hdl
  have hn1l : n1 ≤ 100000 := by omega
  clear hdl
  have hb2s := hb2.size
  have HO2 := Lib.hid (own_base ho2 hsV)
  have HB2 := Lib.hid (HBV.out.trans (hb2.mono HBV.out.size))
  have HM0b := Lib.hid (HM0.out.below hb2 HM0.out.lt)
  have HM1b := Lib.hid (HM1.out.below hb2 HM1.out.lt)
  have HN1 := Lib.hid hn1
  clear ho2 hb2 hn1 c0 c1 ST2 HM0 HM1
  go_upto_region 5 with (fail)
  obtain ⟨W3, hW3⟩ : ∃ W3, w2.alloc (.cells #[.slice A2 n1 c2, .slice AT T.length cT] 35) = W3 := ⟨_, rfl⟩
  obtain ⟨b8, hb8⟩ : ∃ b8, w2.heap.size = b8 := ⟨_, rfl⟩
  have hM8 : Whole W3 b8 35 #[.slice A2 n1 c2, .slice AT T.length cT] := by rw [← hW3, ← hb8]; exact Whole.new _ _ _
  have HO3 := Lib.hid (show W3.ownsRow (b + 2) 3 1 (.slice A2 n1 c2) n1 (intsV (delL L a)) by rw [← hW3]; exact HO2.out.alloc _)
  have HB3 := Lib.hid (show Below w.heap.size w W3 by rw [← hW3]; exact HB2.out.alloc HB2.out.size _)
  have HM0c := Lib.hid (show Whole W3 b 35 _ by rw [← hW3]; exact HM0b.out.alloc _)
  have HM1c := Lib.hid (show Whole W3 (b + 1) 35 _ by rw [← hW3]; exact HM1b.out.alloc _)
  have hs3 : W3.heap.size = b8 + 1 := by rw [← hW3, ← hb8]; simp
  have HNO := Lib.hid (show ∀ g, (Value.slice A2 n1 c2).ownBlock = some g → g < b8 from fun g hg => by rw [← hb8]; exact (HO2.out.lt g hg).2)
  have hb8b : b + 2 ≤ b8 := by omega
  rw [hW3, hb8]
  have HM8 := Lib.hid hM8
  have c0 := hM8.cell 0
  have c1 := hM8.cell 1
  simp at c0 c1
  have hs3l : b + 2 ≤ W3.heap.size := by omega
  have HS3 := Lib.hid hs3
  have hb8l : b8 < W3.heap.size := by omega
  clear hW3 hb8 hM8 HO2 HB2 HM0b HM1b hs3
  go_upto_region 6 with (at_builtin; refine wpList_append_sl _ rfl _ _ _ rfl (b + 2) 3 i0 _ 8 Try.underlying22 Hi0.out Hz0.out Hz1.out Hz2.out rfl (.slice A2 n1 c2) n1 (intsV (delL L a)) rfl (HO3.out.alloc _) _ (some ⟨W3.heap.size, 0, none⟩) 1 1 [.int .i64 x] rfl rfl (Sl.new_ _ _ _ _) (int64s_oneCell [x]) (by unfold maxLen; omega) (by omega) (by simp; omega) ?_; intro v6 w6 hown6 hgrow6 hat6; obtain ⟨A6, c6, rfl⟩ := own_form hown6; have hM8a := (HM8.out.alloc _).grown hgrow6 (fun e => by have := HNO.out _ e; omega); have p0 := hM8a.cell 0; have p1 := hM8a.cell 1; have pf0 := hM8a.frozen 0; have pf1 := hM8a.frozen 1; simp at p0 p1; have HM8a := Lib.hid hM8a; have HO6 := Lib.hid hown6; have HB6 := Lib.hid (own_below (HO3.out.alloc _) hgrow6 (show w.heap.size ≤ b + 2 by omega) (by simp; omega) (HB3.out.alloc HB3.out.size _)); have HM0d := Lib.hid ((HM0c.out.alloc _).grown hgrow6 (fun e => by have := (HO3.out.lt _ e).1; omega)); have HM1d := Lib.hid ((HM1c.out.alloc _).grown hgrow6 (fun e => by have := (HO3.out.lt _ e).1; omega)); have HNO6 := Lib.hid (row_ne HNO.out (by have := HS3.out; simp; omega) hat6); clear hown6 hgrow6 hat6 hM8a)
  obtain ⟨W7, hW7⟩ : ∃ W7, w6.setCell ⟨b8, 0, none⟩ (.slice A6 (n1 + 1) c6) = W7 := ⟨_, rfl⟩
  have hf7 : Fr (fun k => k = b8) w6 W7 := by rw [← hW7]; exact (Fr.refl (fun k => k = b8) w6).setCell (p := ⟨b8, 0, none⟩) (.inl rfl) _
  have hb8w : w.heap.size ≤ b8 := by omega
  have HO7 := Lib.hid (own_fr HO6.out hf7 (fun g hg e => HNO6.out g hg e))
  have HB7 := Lib.hid (HB6.out.trans (hf7.below HB6.out.size (fun k hk e => by omega)))
  have hM8b : Whole W7 b8 35 #[.slice A6 (n1 + 1) c6, .slice AT T.length cT] := by rw [← hW7]; have h := HM8a.out.set_ 0 (.slice A6 (n1 + 1) c6); simpa using h
  have hM07 := HM0d.out.fr hf7 (by omega)
  have hM17 := HM1d.out.fr hf7 (by omega)
  rw [hW7]
  have c0 := hM07.cell 0
  have c1 := hM07.cell 1
  simp at c0 c1
  have hs7b8 := hM8b.lt
  have hs7b := hM07.lt
  have hs7w := HB7.out.size
  have HM8 := Lib.hid hM8b
  have HM07 := Lib.hid hM07
  have HM17 := Lib.hid hM17
  have HLIT := Lib.hid (World.ownsRow_lit (base := W7.heap.size) (e := 3) (size := 1) W7 #[] 0 (Nat.le_refl _) (by decide) rfl)
  clear hW7 hf7 hM8b hM07 hM17 p0 p1 pf0 pf1 HM8a HM0d HM1d HO6 HB6
  go_wp2_with (first
    | (at_builtin; refine wpList_append_sl _ rfl (.tmp 36) (.tmp 38) _ rfl W7.heap.size 3 i0 _ 8 Try.underlying22 Hi0.out Hz0.out Hz1.out Hz2.out rfl _ 0 [] rfl HLIT.out _ AT T.length cT (intsV T) (len_intsV T) rfl (HST.out _ (HB7.out.alloc hs7w _)) (int64s_oneCell T) (by unfold maxLen; omega) (by omega) (by simp) ?_; intro v8 w8 hown8 hgrow8 hat8; simp only [Nat.zero_add, List.nil_append] at hown8; obtain ⟨A8, c8, rfl⟩ := own_form hown8; have HB8 := Lib.hid (own_below HLIT.out hgrow8 hs7w (by simp; omega) (HB7.out.alloc hs7w _)); have HO8 := Lib.hid hown8; have hs8 : W7.heap.size ≤ w8.heap.size := (by have := hgrow8.size; simp at this; omega); have hF78 := (Fr.refl (fun k => W7.heap.size ≤ k) W7).alloc (.cells #[] 3) |>.grown hgrow8 (fun k _ e => by have := (HLIT.out.lt k e).1; omega); have HF78 := Lib.hid hF78; clear hown8 hgrow8 hat8 hF78)
    | (at_builtin; refine wpList_append_sl _ rfl (.tmp 39) (.tmp 41) _ rfl W7.heap.size 3 i0 _ 8 Try.underlying22 Hi0.out Hz0.out Hz1.out Hz2.out rfl (.slice A8 T.length c8) T.length (intsV T) rfl (HO8.out.alloc _) _ (some ⟨w8.heap.size, 0, none⟩) 1 1 [.int .i64 x] rfl rfl (Sl.new_ _ _ _ _) (int64s_oneCell [x]) (by unfold maxLen; omega) (by omega) (by simp; omega) ?_; intro v9 w9 hown9 hgrow9 hat9; obtain ⟨A9, c9, rfl⟩ := own_form hown9; have HB9 := Lib.hid (own_below (HO8.out.alloc _) hgrow9 hs7w (by simp; omega) (HB8.out.alloc HB8.out.size _)); have HO9 := Lib.hid hown9; have hF79 := HF78.out.trans ((Fr.refl (fun k => W7.heap.size ≤ k) w8).alloc (.cells #[.int .i64 x] 3) |>.grown hgrow9 (fun k _ e => by have := (HO8.out.lt k e).1; omega)) (fun _ _ e => e); have hM8c := HM8.out.fr hF79 (by omega); have hM07c := HM07.out.fr hF79 (by omega); have hM17c := HM17.out.fr hF79 (by omega); have p0 := hM8c.cell 0; have p1 := hM8c.cell 1; have pf0 := hM8c.frozen 0; have pf1 := hM8c.frozen 1; have q0 := hM17c.cell 0; have q1 := hM17c.cell 1; have qf0 := hM17c.frozen 0; have qf1 := hM17c.frozen 1; simp at p0 p1 q0 q1; have HO79 := Lib.hid (own_fr HO7.out hF79 (fun g hg e => by have := (HO7.out.lt g hg).2; omega)); clear hown9 hgrow9 hat9 hF79 hM8c hM07c hM17c))
  have hlp : (pickL L a).length = n1 + 1 := by rw [len_pickL L a hal, HDL.out]
  have hFe : Fr (fun k => k = b8 ∨ k = b + 1) w9 (((w9.setCell ⟨b8, 1, none⟩ (.slice A9 (T.length + 1) c9)).setCell ⟨b + 1, 0, none⟩ (.slice A6 (n1 + 1) c6)).setCell ⟨b + 1, 1, none⟩ (.slice A9 (T.length + 1) c9)) :=
    (((Fr.refl (fun k => k = b8 ∨ k = b + 1) w9).setCell (p := ⟨b8, 1, none⟩) (.inl (.inl rfl)) _).setCell (p := ⟨b + 1, 0, none⟩) (.inl (.inr rfl)) _).setCell (p := ⟨b + 1, 1, none⟩) (.inl (.inr rfl)) _
  have hBe := HB9.out.trans (hFe.below HB9.out.size (fun k hk e => by omega))
  have hs6 := own_fr HO79.out hFe (fun g hg e => by have := (HO79.out.lt g hg).1; have := HNO6.out g hg; omega)
  have hs9 := own_fr HO9.out hFe (fun g hg e => by have := (HO9.out.lt g hg).1; omega)
  rw [← ints_snoc, HPK.out] at hs6
  rw [← ints_snoc] at hs9
  refine bodyPost_ret (v := .tuple #[.agg #[.slice A6 (n1 + 1) c6, .slice A9 (T.length + 1) c9], .int .i64 x, .int .i64 0]) (by simp [results, Try.results13, go_sem, q0, q1]) rfl ⟨A6, c6, A9, c9, ?_, ⟨Sl.of_own hs6, Sl.of_own hs9, ?_⟩, hBe, .inr (fun ad e => Nat.le_trans (show w.heap.size ≤ b + 2 by omega) (own_new hs6 ad e)), .inr (fun ad e => Nat.le_trans hs7w (own_new hs9 ad e))⟩
  · rw [tup2]; unfold refV; rw [hlp, List.length_append]; rfl
  · rw [hlp]; exact own_cap hs6
end Go.Proofs.Ytcbginkbipefaaa
