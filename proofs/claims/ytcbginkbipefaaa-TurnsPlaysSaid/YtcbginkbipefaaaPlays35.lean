/-
  Layer 35: the ring beside the document's ring: the state of both, and what each call makes of it.
-/
import Derived.Test.YtcbginkbipefaaaRef35P
import Derived.Test.YtcbginkbipefaaaTurnsAwake
namespace Go.Proofs.Ytcbginkbipefaaa
open Go.RowKit Go.Maps

def cnt (T : List Int) : Int → Int := fun k => ((T.count k : Nat) : Int)
theorem cnt_nil : cnt [] = fun _ => 0 := rfl
theorem bump_cnt (T : List Int) (x : Int) : bump (cnt T) x = cnt (T ++ [x]) := by
  funext k
  unfold bump cnt
  rw [List.count_append, List.count_singleton]
  by_cases h : k = x
  · subst h; simp
  · have h2 : ¬ x = k := fun e => h e.symm
    rw [if_neg h]; simp [h2]
structure TP (w wr : World) (q b6 : Nat) (L1 : List Int) (f1 : Int → Int) (al N : Nat) (L T : List Int) (AL : Option Addr) (cL : Nat) (AT : Option Addr) (cT : Nat) (X : Nat → Prop) : Prop where
  ring : RingS wr q L1 f1 al N X
  hx : ∀ k, X k → k < wr.heap.size
  x6 : X b6
  cell6 : Whole wr b6 35 #[.slice AL L.length cL, .slice AT T.length cT]
  ref : RefIs wr AL cL AT L T
  xl : L ≠ [] → ∀ ad, AL = some ad → X ad.block ∧ ad.block ≠ b6
  xt : T ≠ [] → ∀ ad, AT = some ad → X ad.block ∧ ad.block ≠ b6
  bel : Below w.heap.size w wr
  qw : w.heap.size ≤ q
theorem sl_keepX {w w' : World} {B B' : Nat} {a : Option Addr} {xs : List Value} {S : Nat → Prop} (h : Sl w B a xs) (hB : B ≤ w.heap.size) (hf : Fr S w w') (hS : xs ≠ [] → ∀ ad, a = some ad → ¬ S ad.block) (hB' : B ≤ B') : Sl w' B' a xs := by
  by_cases h0 : xs = []
  · exact .inl h0
  rcases h with h | ⟨b, off, ha, hb, hc⟩
  · exact .inl h
  · exact .inr ⟨b, off, ha, by omega, fun i u hu => (hf.cell (p := ⟨b, off + i, none⟩) (by show b < _; omega) (hS h0 ⟨b, off, none⟩ ha)).trans (hc i u hu)⟩
theorem ints_ne {l : List Int} (h : intsV l ≠ []) : l ≠ [] := fun e => h (by rw [e]; rfl)
theorem RefIs.keepX {w w' : World} {AL AT : Option Addr} {cL : Nat} {L T : List Int} {S : Nat → Prop} (h : RefIs w AL cL AT L T) (hf : Fr S w w') (hl : L ≠ [] → ∀ ad, AL = some ad → ¬ S ad.block) (ht : T ≠ [] → ∀ ad, AT = some ad → ¬ S ad.block) : RefIs w' AL cL AT L T :=
  ⟨sl_keepX h.sl (Nat.le_refl _) hf (fun h0 => hl (ints_ne h0)) hf.size, sl_keepX h.st (Nat.le_refl _) hf (fun h0 => ht (ints_ne h0)) hf.size, h.cap⟩
section
variable {w wr w' : World} {q b6 : Nat} {L1 : List Int} {f1 : Int → Int} {al N : Nat} {L T : List Int} {AL AT : Option Addr} {cL cT : Nat} {X : Nat → Prop}
theorem TP.fresh (h : TP w wr q b6 L1 f1 al N L T AL cL AT cT X) (hb : Below wr.heap.size wr w') : TP w w' q b6 L1 f1 al N L T AL cL AT cT X := by
  have hf := Fr.of_below hb (fun _ => False)
  exact ⟨h.ring.fr hf (fun _ _ x => x.elim), fun k hk => Nat.lt_of_lt_of_le (h.hx k hk) hb.size, h.x6, h.cell6.fr hf id, h.ref.below hb, h.xl, h.xt, h.bel.trans (hb.mono h.bel.size), h.qw⟩
theorem TP.ringed (h : TP w wr q b6 L1 f1 al N L T AL cL AT cT X) {L2 : List Int} {f2 : Int → Int} {al2 N2 : Nat} (hr : RingS w' q L2 f2 al2 N2 X) (hf : Fr (fun k => q ≤ k ∧ ¬ X k) wr w') : TP w w' q b6 L2 f2 al2 N2 L T AL cL AT cT X :=
  ⟨hr, fun k hk => Nat.lt_of_lt_of_le (h.hx k hk) hf.size, h.x6, h.cell6.fr hf (fun s => s.2 h.x6), h.ref.keepX hf (fun h0 ad e s => s.2 (h.xl h0 ad e).1) (fun h0 ad e s => s.2 (h.xt h0 ad e).1), h.xl, h.xt,
    h.bel.trans (hf.below h.bel.size (fun k hk s => by have := s.1; have := h.qw; omega)), h.qw⟩
theorem TP.more (h : TP w wr q b6 L1 f1 al N L T AL cL AT cT X) {M : Nat} (hM : N ≤ M) : TP w wr q b6 L1 f1 al M L T AL cL AT cT X :=
  ⟨h.ring.more hM, h.hx, h.x6, h.cell6, h.ref, h.xl, h.xt, h.bel, h.qw⟩
theorem new_at {w w' : World} {a0 a : Option Addr} {l0 l : List Int} {X : Nat → Prop} {b6 : Nat} (hs : Sl w' w'.heap.size a (intsV l)) (hn : Newish w a0 l0 a l) (h0 : l0 ≠ [] → ∀ ad, a0 = some ad → X ad.block ∧ ad.block ≠ b6) (h6 : b6 < w.heap.size) :
    l ≠ [] → ∀ ad, a = some ad → (X ad.block ∨ (w.heap.size ≤ ad.block ∧ ad.block < w'.heap.size)) ∧ ad.block ≠ b6 := by
  intro hl ad e
  rcases hn with hn | hn
  · obtain ⟨h1, h2⟩ := h0 (hn.2 ▸ hl) ad (hn.1 ▸ e)
    exact ⟨.inl h1, h2⟩
  · have h1 := hn ad e
    rcases hs with hs | ⟨b, off, ha, hb, _⟩
    · exact absurd (by simpa [intsV] using hs) hl
    · rw [e] at ha
      injection ha with ha
      rw [ha] at h1 ⊢
      exact ⟨.inr ⟨h1, hb⟩, by show b ≠ b6; have : w.heap.size ≤ b := h1; omega⟩
theorem TP.reffed (h : TP w wr q b6 L1 f1 al N L T AL cL AT cT X) {L' T' : List Int} {AL' AT' : Option Addr} {cL' cT' : Nat} (hb : Below wr.heap.size wr w') (hr : RefIs w' AL' cL' AT' L' T') (hnl : Newish wr AL L AL' L') (hnt : Newish wr AT T AT' T') :
    TP w ((w'.setCell ⟨b6, 0, none⟩ (.slice AL' L'.length cL')).setCell ⟨b6, 1, none⟩ (.slice AT' T'.length cT')) q b6 L1 f1 al N L' T' AL' cL' AT' cT' (fun k => X k ∨ (wr.heap.size ≤ k ∧ k < w'.heap.size)) := by
  have h6 := h.hx b6 h.x6
  have hsz := hb.size
  have hf : Fr (fun k => k = b6) w' ((w'.setCell ⟨b6, 0, none⟩ (.slice AL' L'.length cL')).setCell ⟨b6, 1, none⟩ (.slice AT' T'.length cT')) :=
    ((Fr.refl (fun k => k = b6) w').setCell (p := ⟨b6, 0, none⟩) (.inl rfl) _).setCell (p := ⟨b6, 1, none⟩) (.inl rfl) _
  have hs2 := hf.size
  have hq6 := h.ring.xq b6 h.x6
  have hqw := h.qw
  have hwr := h.bel.size
  have hxl := new_at hr.sl hnl h.xl h6
  have hxt := new_at hr.st hnt h.xt h6
  have h1 := (h.ring.bar (Y := fun k => X k ∨ (wr.heap.size ≤ k ∧ k < w'.heap.size)) (fun k hk => hk.elim .inl (fun e => .inr e.1))).fr (Fr.of_below hb (fun _ => False)) (fun _ _ x => x.elim)
  refine ⟨h1.fr hf (fun k _ e => .inl (e ▸ h.x6)), fun k hk => ?_, .inl h.x6, ?_, hr.keepX hf (fun h0 ad e => (hxl h0 ad e).2) (fun h0 ad e => (hxt h0 ad e).2), hxl, hxt, (h.bel.trans (hb.mono hwr)).trans (hf.below (by omega) (fun k hk e => by omega)), hqw⟩
  · rcases hk with hk | hk
    · have := h.hx k hk; omega
    · omega
  · have hM := h.cell6.below hb h6
    have h2 := (hM.set_ 0 (.slice AL' L'.length cL')).set_ 1 (.slice AT' T'.length cT')
    simpa using h2
end

/-- Ready in both -/
theorem ready_both (L : List Int) (x : Int) (hid : I64 x) : ∃ (M : List Int) (cd : Int),
    (∀ (q : Nat) (f : Int → Int) (al N : Nat) (X : Nat → Prop) (w : World), RingS w q L f al N X → N < 1000000 → (∀ k, X k → k < w.heap.size) → Calls Try.prog 7 #[.pointer (some ⟨q + 2, 0, none⟩), .int .i64 x] w (RingPost (.int .i64 cd) q M f al (N + 1) X w)) ∧
    (∀ (T : List Int) (AL : Option Addr) (cL : Nat) (AT : Option Addr) (cT : Nat) (w : World), L.length ≤ 1000000 → RefIs w AL cL AT L T → Calls Try.prog 10 #[refV AL cL AT cT L T, .int .i64 x] w (RefPost AL AT L T M T [cd] w)) ∧ M.length ≤ L.length + 1 := by
  by_cases hin : x ∈ L
  · exact ⟨L, 6, fun q f al N X w h hN hX => (ringReady_no q L f al N x w h hid hin).mono fun e w' ⟨h1, h2, h3⟩ => ⟨h1, h2.more (Nat.le_succ N), h3⟩,
      fun T AL cL AT cT w hl h => refReady_no L T AL cL AT cT x w hl h hin, by omega⟩
  · exact ⟨L ++ [x], 0, fun q f al N X w h hN hX => ringReady_yes q L f al N x w h hid hin hN hX,
      fun T AL cL AT cT w hl h => (refReady_yes L T AL cL AT cT x w hl h hin).mono fun e w' h1 => h1.post h.st AL L, by simp⟩
/-- Stop in both -/
theorem stop_both (L : List Int) (x : Int) (hid : I64 x) : ∃ (M : List Int) (cd : Int),
    (∀ (q : Nat) (f : Int → Int) (al N : Nat) (X : Nat → Prop) (w : World), RingS w q L f al N X → N < 1000000 → Calls Try.prog 11 #[.pointer (some ⟨q + 2, 0, none⟩), .int .i64 x] w (RingPost (.int .i64 cd) q M f al (N + 1) X w)) ∧
    (∀ (T : List Int) (AL : Option Addr) (cL : Nat) (AT : Option Addr) (cT : Nat) (w : World), L.length ≤ 1000000 → RefIs w AL cL AT L T → Calls Try.prog 12 #[refV AL cL AT cT L T, .int .i64 x] w (RefPost AL AT L T M T [cd] w)) ∧ (M ≠ [] → L ≠ []) := by
  by_cases hin : x ∈ L
  · obtain ⟨i, hi⟩ := firstAt_of_mem hin
    exact ⟨delL L i, 0, fun q f al N X w h hN => (ringStop_yes q L f al N x i w h hid hN hi).mono fun e w' ⟨h1, h2, h3⟩ => ⟨h1, h2.more (Nat.le_succ N), h3⟩,
      fun T AL cL AT cT w hl h => (refStop_yes L T AL cL AT cT x i w hl h hi).mono fun e w' h1 => h1.post h.st AL L, fun _ e => by rw [e] at hin; simp at hin⟩
  · exact ⟨L, 7, fun q f al N X w h hN => (ringStop_no q L f al N x w h hid hin).mono fun e w' ⟨h1, h2, h3⟩ => ⟨h1, h2.more (Nat.le_succ N), h3⟩,
      fun T AL cL AT cT w hl h => refStop_no L T AL cL AT cT x w hl h hin, fun h => h⟩
def PickR (cd who : Int) (q : Nat) (M : List Int) (f : Int → Int) (al N : Nat) (X : Nat → Prop) (w : World) (e : Ending) (w' : World) : Prop :=
  e = .returned (.tuple #[.int .i64 who, .int .i64 cd]) ∧ RingS w' q M f al N X ∧ Fr (fun k => q ≤ k ∧ ¬ X k) w w'
/-- Pick in both -/
theorem pick_both (L T : List Int) (k : Int) (hn : L.Nodup) (hl : L.length ≤ 100000) (hT : T.length ≤ 100000) : ∃ (M U : List Int) (who cd : Int),
    (∀ (q : Nat) (N : Nat) (X : Nat → Prop) (w : World), RingS w q L (cnt T) T.length N X → N < 1000000 → Calls Try.prog 8 #[.pointer (some ⟨q + 2, 0, none⟩), .int .i64 k] w (PickR cd who q M (cnt U) U.length (N + 1) X w)) ∧
    (∀ (AL : Option Addr) (cL : Nat) (AT : Option Addr) (cT : Nat) (w : World), RefIs w AL cL AT L T → Calls Try.prog 13 #[refV AL cL AT cT L T, .int .i64 k] w (RefPost AL AT L T M U [who, cd] w)) ∧ U.length ≤ T.length + 1 ∧ M.length ≤ L.length := by
  by_cases h0 : L = []
  · subst h0
    exact ⟨[], T, 0, 7, fun q N X w h _ => (ringPick_none q (cnt T) T.length N k w h).mono fun e w' ⟨h1, h2⟩ => ⟨h1, by subst h2; exact h.more (Nat.le_succ N), by subst h2; exact Fr.refl _ _⟩,
      fun AL cL AT cT w h => refPick_none T AL cL AT cT k w h, by omega, by omega⟩
  · have hp : 0 < L.length := List.length_pos_iff.2 h0
    obtain ⟨a, ha⟩ := place_ex k L.length hp
    refine ⟨pickL L a, T ++ [L.getD a 0], L.getD a 0, 0, fun q N X w h hN => (ringPick_some q L (cnt T) T.length N k a w h hN ha.1 ha.2).mono fun e w' ⟨h1, h2, h3⟩ => ⟨h1, ?_, h3⟩,
      fun AL cL AT cT w h => refPick_some L T AL cL AT cT k a w hl hT h hn ha, by simp, by rw [len_pickL L a ha.1]; omega⟩
    rw [bump_cnt] at h2
    rw [List.length_append]
    exact h2
end Go.Proofs.Ytcbginkbipefaaa
