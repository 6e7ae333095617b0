/-
  turns.Ring: Ready, Pick, List, Turns, All.
-/
import Derived.Test.YtcbginkbipefaaaRing
import Derived.Deep.RegionLaw
namespace Go.Proofs.Ytcbginkbipefaaa
open Go.RowKit Go.Maps

theorem ringReady_no (q : Nat) (L : List Int) (f : Int → Int) (al N : Nat) (x : Int) {X : Nat → Prop} (w : World) (h : RingS w q L f al N X) (hid : I64 x) (hin : x ∈ L) :
    Calls Try.prog 7 #[.pointer (some ⟨q + 2, 0, none⟩), .int .i64 x] w (RingPost (.int .i64 6) q L f al N X w) := by
  have HR := Lib.hid h
  have HAS := Lib.hid (ringHas q L f al N x w h hid)
  rw [decide_eq_true hin] at HAS
  clear h hin
  go_enter Try.func7, Try.ntmps7
  go_wp2_with fail
  (with_reducible refine HAS.out.mono ?_)
  rintro e w1 ⟨rfl, hf1⟩
  have HF := Lib.hid hf1
  clear hf1
  go_wp2_with fail
  go_ret
  exact ⟨rfl, HR.out.fr HF.out (fun _ _ h => h.elim), HF.out.mono (fun _ _ h => h.elim)⟩

theorem nodup_snoc {L : List Int} {x : Int} (h : L.Nodup) (hx : x ∉ L) : (L ++ [x]).Nodup := by
  rw [List.nodup_append]
  refine ⟨h, List.nodup_cons.2 ⟨by simp, List.nodup_nil⟩, ?_⟩
  intro a ha b hb e
  simp at hb
  subst hb e
  exact hx ha
theorem ints_snoc (l : List Int) (b : Int) : intsV (l ++ [b]) = intsV l ++ [.int .i64 b] := by simp [intsV]
theorem own_fresh {w w' : World} {base : Nat} {e : TypeId} {size : Nat} {v : Value} {n : Nat} {xs : List Value} {S : Nat → Prop} (h : w.ownsRow base e size v n xs) (hf : Fr S w w') (hS : ∀ k, base ≤ k → ¬ S k) : w'.ownsRow base e size v n xs :=
  own_fr h hf (fun g hg => hS _ (h.lt g hg).1)

theorem after_append {w w' : World} {q : Nat} {t e : TypeId} {cs : Array Value} {v : Value} {n : Nat} {xs : List Value} {o : Obj} {X : Nat → Prop} (hc : Whole w (q + 2) t cs) (ho : w.ownsRow (q + 3) e 1 v n xs) (hoff : ∀ g, v.ownBlock = some g → ¬ X g) (hg : (w.alloc o).grownBy w' v.ownBlock) :
    Fr (fun k => q + 3 ≤ k ∧ ¬ X k) w w' ∧ Whole w' (q + 2) t cs := by
  have hf : Fr (fun k => q + 3 ≤ k ∧ ¬ X k) w w' := ((Fr.refl _ w).alloc o).grown hg (fun k hk e => ⟨((ho.alloc o).lt k e).1, hoff k e⟩)
  exact ⟨hf, hc.fr hf (by omega)⟩
theorem ring_off {v v' : Value} {s z : Nat} {X : Nat → Prop} (hx : ∀ g, v.ownBlock = some g → ¬ X g) (hX : ∀ k, X k → k < z) (hs : z ≤ s) (h : v'.ownBlock = v.ownBlock ∨ v'.ownBlock = some s) : ∀ g, v'.ownBlock = some g → ¬ X g := by
  intro g hg hxg
  rcases h with e | e
  · exact hx g (e.symm.trans hg) hxg
  · rw [e] at hg
    injection hg with hg
    have := hX g hxg
    omega
set_option maxHeartbeats 800000 in
theorem ringReady_yes (q : Nat) (L : List Int) (f : Int → Int) (al N : Nat) (x : Int) {X : Nat → Prop} (w : World) (h : RingS w q L f al N X) (hid : I64 x) (hin : x ∉ L) (hN : N < 1000000) (hX : ∀ k, X k → k < w.heap.size) :
    Calls Try.prog 7 #[.pointer (some ⟨q + 2, 0, none⟩), .int .i64 x] w (RingPost (.int .i64 0) q (L ++ [x]) f al (N + 1) X w) := by
  have HR := Lib.hid h
  have HAS := Lib.hid (ringHas q L f al N x w h hid)
  rw [decide_eq_false hin] at HAS
  have HIN := Lib.hid hin
  obtain ⟨i0, hi0, hz0, hz1, hz2⟩ := info_parts intInfoC
  have Hi0 := Lib.hid hi0
  have Hz0 := Lib.hid hz0
  have Hz1 := Lib.hid hz1
  have Hz2 := Lib.hid hz2
  have hll := h.lle
  clear hi0 hz0 hz1 hz2 h hin
  go_enter Try.func7, Try.ntmps7
  go_wp2_with fail
  (with_reducible refine HAS.out.mono ?_)
  rintro e w1 ⟨rfl, hf1⟩
  have HF1 := Lib.hid hf1
  have hr1 := HR.out.fr hf1 (fun _ _ h => h.elim)
  have HR1 := Lib.hid hr1
  obtain ⟨A, c, hc, hown, hoff⟩ := hr1.ex
  have c1 := hc.cell 1
  simp at c1
  obtain ⟨w2, hrun, hs2, hf2⟩ := hr1.rdy.add hid (by omega)
  have HS2 := Lib.hid hs2
  have HF2 := Lib.hid hf2
  have hc2 := hc.fr hf2 (by omega)
  have d0 := hc2.cell 0
  have f0 := hc2.frozen 0
  simp at d0
  have HC2 := Lib.hid hc2
  have HOFF := Lib.hid hoff
  have HXX := Lib.hid hX
  have hs12 := hf2.size
  have hs01 := HF1.out.size
  have HO2 := Lib.hid (own_fresh hown hf2 (fun k hk => by omega))
  have hlt2 := hc2.lt
  clear hf1 hr1 hc hown hoff hX hs2 hf2 hc2
  go_wp2_with (at_builtin; refine wpList_append_sl _ rfl _ _ _ rfl (q + 3) 3 i0 _ 8 Try.underlying22 Hi0.out Hz0.out Hz1.out Hz2.out rfl (.slice A L.length c) L.length (intsV L) rfl (HO2.out.alloc _) (w2.heap.size + 1) (some ⟨w2.heap.size, 0, none⟩) 1 1 [.int .i64 x] rfl rfl (Sl.new_ _ _ _ _) (int64s_oneCell [x]) (by unfold maxLen; omega) (by omega) (by simp; omega) ?_; intro v3 w3 hown3 hgrow3 hat3; obtain ⟨A3, c3, rfl⟩ := own_form hown3; obtain ⟨hg3, hc3⟩ := after_append HC2.out HO2.out HOFF.out hgrow3; have HOF3 := Lib.hid (ring_off HOFF.out HXX.out (by simp; omega) hat3); have HG3 := Lib.hid hg3; have HC3 := Lib.hid hc3; have HO3 := Lib.hid hown3; have e0 := hc3.cell 0; have g0 := hc3.frozen 0; simp at e0; clear hown3 hgrow3 hat3 hc3 hg3)
  go_ret
  have hq := HR1.out.lt
  have hxq := HR.out.xq
  have hF23 : Fr (fun k => q ≤ k ∧ ¬ X k) w1 w3 := (HF2.out.mono (T := fun k => q ≤ k ∧ ¬ X k) (fun k _ e => ⟨by omega, fun hx => by have := hxq _ hx; omega⟩)).trans HG3.out (fun k _ e => ⟨by omega, e.2⟩)
  have hF := (HF1.out.mono (T := fun k => q ≤ k ∧ ¬ X k) (fun k _ e => e.elim)).trans hF23 (fun k _ e => e)
  refine ⟨rfl, ⟨⟨A3, c3, ?_, ?_, ?_⟩, ?_, ?_, nodup_snoc HR.out.nd HIN.out, ?_, fun k => ⟨(HR.out.fle k).1, by have := (HR.out.fle k).2; omega⟩, ?_, ?_, hxq⟩, hF.setCell (.inl (show q ≤ q + 2 ∧ ¬ X (q + 2) from ⟨by omega, fun hx => by have := hxq _ hx; omega⟩)) _⟩
  · have h := HC3.out.set_ 0 (.slice A3 (L.length + 1) c3)
    simpa using h
  · have h := own_fr HO3.out ((Fr.refl (fun k => k = q + 2) w3).setCell (p := ⟨q + 2, 0, none⟩) (.inl rfl) (.slice A3 (L.length + 1) c3)) (fun g hg e => by have := (HO3.out.lt g hg).1; omega)
    simpa [intsV] using h
  · rw [List.length_append]; exact HOF3.out
  · exact HS2.out.keep ((Below.heap_setCell _ _ _ _ (by show q ≠ q + 2; omega)).trans (HG3.out.block q (by omega) (by omega)))
  · refine (HR1.out.trn.more (Nat.le_succ N)).keep ?_
    rw [Below.heap_setCell _ _ _ _ (by show q + 1 ≠ q + 2; omega), HG3.out.block (q + 1) (by omega) (by omega), HF2.out.block (q + 1) (by omega) (by omega)]
  · intro y hy
    rcases List.mem_append.1 hy with h | h
    · exact HR.out.rng y h
    · simp at h; subst h; exact hid
  · simp; omega
  · have := HR.out.ale; omega

theorem ringList (q : Nat) (L : List Int) (f : Int → Int) (al N : Nat) {X : Nat → Prop} (w : World) (h : RingS w q L f al N X) (hN : N < 1000000) :
    Calls Try.prog 15 #[.pointer (some ⟨q + 2, 0, none⟩)] w (Gives 3 (intsV L) w) := by
  obtain ⟨A, c, hc, ho, _⟩ := h.ex
  have c0 := hc.cell 0
  simp at c0
  have CL := Lib.hid (cloneI_any L A c w.heap.size w (by have := h.lle; omega) (Sl.of_own ho) (Nat.le_refl _))
  clear h hc ho
  go_enter Try.func15, Try.ntmps15
  go_wp2_with fail
  (with_reducible refine CL.out.mono ?_)
  rintro e w1 ⟨A1, c1, rfl, ho1, hb1⟩
  rw [len_intsV] at ho1
  have HO := Lib.hid ho1
  have HB := Lib.hid hb1
  clear ho1 hb1
  generalize hn : (intsV L).length = n
  have HN := Lib.hid hn
  clear hn
  go_wp2_with fail
  go_ret
  exact gives_mk HN.out rfl (by rw [← HN.out, len_intsV]; exact HO.out) HB.out
theorem ringAll (q : Nat) (L : List Int) (f : Int → Int) (al N : Nat) {X : Nat → Prop} (w : World) (h : RingS w q L f al N X) :
    Calls Try.prog 16 #[.pointer (some ⟨q + 2, 0, none⟩)] w fun e w' => e = .returned (.int .i64 (al : Int)) ∧ w = w' := by
  obtain ⟨A, c, hc, ho, _⟩ := h.ex
  have c3 := hc.cell 3
  simp at c3
  clear h hc ho
  go_enter Try.func16, Try.ntmps16
  go_wp2_with fail
  go_ret
  exact ⟨rfl, rfl⟩
theorem ringTurns (q : Nat) (L : List Int) (f : Int → Int) (al N : Nat) (x : Int) (hid : I64 x) {X : Nat → Prop} (w : World) (h : RingS w q L f al N X) :
    Calls Try.prog 17 #[.pointer (some ⟨q + 2, 0, none⟩), .int .i64 x] w fun e w' => e = .returned (.int .i64 (f x)) ∧ w = w' := by
  obtain ⟨A, c, hc, ho, _⟩ := h.ex
  have c2 := hc.cell 2
  simp at c2
  have hl := h.trn.look hid
  generalize f x = z at hl
  clear h hc ho
  go_enter Try.func17, Try.ntmps17
  go_wp2_with fail
  go_ret
  exact ⟨rfl, rfl⟩
end Go.Proofs.Ytcbginkbipefaaa
