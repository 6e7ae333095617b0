/-
  runs.extend at any symbol; the reference's Bits and Add where a run may be; there and back. 
-/
import Derived.Test.YtgnghlcdbilgjaaRunsLawShorter
namespace Go.Proofs.Ytgnghlcdbilgjaa
open Go.RowKit

namespace Rn
/-- runs that may be, one behind the other, from lengths to lengths -/
inductive Good (most : Int) : List Int → List RunV → List Int → Prop
  | nil (l : List Int) : Good most l [] l
  | cons (l : List Int) (r : RunV) (rs : List RunV) (l' : List Int) (h0 : 0 ≤ r.sym) (h1 : r.sym ≤ 18) (hm : may l r.sym r.extra most = true) (h : Good most (ext l r.sym r.extra most) rs l') : Good most l (r :: rs) l'
theorem Good.append {most : Int} {l m n : List Int} {a b : List RunV} (h1 : Good most l a m) (h2 : Good most m b n) : Good most l (a ++ b) n := by
  induction h1 with
  | nil l => exact h2
  | cons l r rs l' h0 h1 hm _ ih => exact .cons l r _ _ h0 h1 hm (ih h2)
theorem may_of {l : List Int} {s e most : Int} (h1 : 0 ≤ e) (h2 : e < two s) (h3 : ¬ (s = 16 ∧ l = [])) (h4 : (l.length : Int) + (least s + e) ≤ most) : may l s e most = true := decide_eq_true ⟨h1, h2, h3, h4⟩
theorem ext_of {l : List Int} {s e most : Int} (h : may l s e most = true) (t : Nat) (x : Int) (ht : least s + e = t) (hx : again l s = x) : ext l s e most = l ++ List.replicate t x := by
  unfold ext
  rw [if_pos h, ht, hx]; rfl
theorem good_rep (most : Int) (n : Int) (h0 : 0 ≤ n) (h15 : n ≤ 15) : ∀ (f t : Nat) (l : List Int), t ≤ f → (n ≠ 0 → l.getLastD 0 = n ∧ l ≠ []) → (l.length : Int) + t ≤ most → Good most l (rep n t) (l ++ List.replicate t n)
  | f, 0, l, _, _, _ => by rw [rep_nil]; simpa using Good.nil l
  | 0, t + 1, _, h, _, _ => by omega
  | f + 1, t + 1, l, hf, hlast, hm => by
    rw [rep_step n (t + 1) (by omega)]
    have go : ∀ (s : Int) (p : Nat), sym n (t + 1) = s → min (t + 1) (Rn.most n (t + 1)) = p → 1 ≤ p → p ≤ t + 1 → 0 ≤ s → s ≤ 18 → (0 ≤ (p : Int) - least s) → ((p : Int) - least s < two s) → ¬ (s = 16 ∧ l = []) → again l s = n → Good most l (⟨sym n (t + 1), (min (t + 1) (Rn.most n (t + 1)) : Nat) - least (sym n (t + 1))⟩ :: rep n (t + 1 - min (t + 1) (Rn.most n (t + 1)))) (l ++ List.replicate (t + 1) n) := by
      intro s p hs hp hp1 hp2 hs0 hs18 he0 he1 hne hag
      rw [hs, hp]
      have hmay := may_of he0 he1 hne (show (l.length : Int) + (least s + ((p : Int) - least s)) ≤ most by omega)
      have hext := ext_of hmay p n (by omega) hag
      refine .cons l _ _ _ hs0 hs18 hmay ?_
      simp only [] at hext ⊢
      rw [hext]
      have hr := good_rep most n h0 h15 f (t + 1 - p) (l ++ List.replicate p n) (by omega) (fun hn => by
        obtain ⟨q, rfl⟩ : ∃ q, p = q + 1 := ⟨p - 1, by omega⟩
        exact ⟨by rw [List.replicate_succ', ← List.append_assoc]; simp, by simp⟩) (by simp; omega)
      rw [List.append_assoc, List.replicate_append_replicate, show p + (t + 1 - p) = t + 1 by omega] at hr
      exact hr
    by_cases hn : n = 0
    · subst hn
      by_cases h11 : 11 ≤ t + 1
      · exact go 18 (min (t + 1) 138) (by unfold sym; rw [if_neg (by omega), if_pos ⟨rfl, h11⟩]) (by unfold Rn.most; rw [if_neg (by omega), if_pos ⟨rfl, h11⟩]) (by omega) (by omega) (by omega) (by omega) (by rw [show least 18 = 11 by rfl]; omega) (by rw [show least 18 = 11 by rfl, show two 18 = 128 by rfl]; omega) (by omega) rfl
      · by_cases h3 : 3 ≤ t + 1
        · exact go 17 (min (t + 1) 10) (by unfold sym; rw [if_neg (by omega), if_neg (by omega), if_pos ⟨rfl, h3⟩]) (by unfold Rn.most; rw [if_neg (by omega), if_neg (by omega), if_pos ⟨rfl, h3⟩]) (by omega) (by omega) (by omega) (by omega) (by rw [show least 17 = 3 by rfl]; omega) (by rw [show least 17 = 3 by rfl, show two 17 = 8 by rfl]; omega) (by omega) rfl
        · exact go 0 (min (t + 1) 1) (by unfold sym; rw [if_neg (by omega), if_neg (by omega), if_neg (by omega)]) (by unfold Rn.most; rw [if_neg (by omega), if_neg (by omega), if_neg (by omega)]) (by omega) (by omega) (by omega) (by omega) (by rw [show least 0 = 1 by rfl]; omega) (by rw [show least 0 = 1 by rfl, show two 0 = 1 by rfl]; omega) (by omega) rfl
    · obtain ⟨hl1, hl2⟩ := hlast hn
      by_cases h3 : 3 ≤ t + 1
      · exact go 16 (min (t + 1) 6) (by unfold sym; rw [if_pos ⟨hn, h3⟩]) (by unfold Rn.most; rw [if_pos ⟨hn, h3⟩]) (by omega) (by omega) (by omega) (by omega) (by rw [show least 16 = 3 by rfl]; omega) (by rw [show least 16 = 3 by rfl, show two 16 = 4 by rfl]; omega) (fun h => hl2 h.2) (by unfold again; rw [if_neg (by omega), if_pos rfl]; exact hl1)
      · have hle : least n = 1 := by unfold least; rw [if_neg (by omega), if_neg (by omega)]
        have htw : two n = 1 := by unfold two; rw [if_pos ⟨h0, h15⟩]
        exact go n (min (t + 1) 1) (by unfold sym; rw [if_neg (by omega), if_neg (by omega), if_neg (by omega)]) (by unfold Rn.most; rw [if_neg (by omega), if_neg (by omega), if_neg (by omega)]) (by omega) (by omega) h0 (by omega) (by rw [hle]; omega) (by rw [hle, htw]; omega) (by omega) (by unfold again; rw [if_pos h15])
theorem good_group (most : Int) (n : Int) (h0 : 0 ≤ n) (h15 : n ≤ 15) (t : Nat) (ht : 1 ≤ t) (l : List Int) (hm : (l.length : Int) + t ≤ most) : Good most l (group n t) (l ++ List.replicate t n) := by
  unfold group
  by_cases hn : n = 0
  · rw [if_neg (by simp [hn])]
    exact good_rep most n h0 h15 t t l (Nat.le_refl _) (fun h => absurd hn h) hm
  · rw [if_pos hn]
    have hle : least n = 1 := by unfold least; rw [if_neg (by omega), if_neg (by omega)]
    have htw : two n = 1 := by unfold two; rw [if_pos ⟨h0, h15⟩]
    have hmay : may l n 0 most = true := may_of (by omega) (by rw [htw]; omega) (by omega) (by rw [hle]; omega)
    have hext := ext_of hmay 1 n (by rw [hle]; rfl) (by unfold again; rw [if_pos h15])
    refine .cons l ⟨n, 0⟩ _ _ h0 (by simp only []; omega) hmay ?_
    simp only [] at hext ⊢
    rw [hext]
    have hr := good_rep most n h0 h15 (t - 1) (t - 1) (l ++ List.replicate 1 n) (Nat.le_refl _) (fun _ => ⟨by simp, by simp⟩) (by simp; omega)
    rw [List.append_assoc, List.replicate_append_replicate, show 1 + (t - 1) = t by omega] at hr
    exact hr
def flat (gs : List (Int × Nat)) : List Int := gs.flatMap fun g => List.replicate g.2 g.1
theorem grp_flat : ∀ l, flat (grp l) = l ∧ ∀ g ∈ grp l, 1 ≤ g.2 ∧ g.1 ∈ l
  | [] => ⟨rfl, by simp [grp]⟩
  | x :: l => by
    obtain ⟨ih1, ih2⟩ := grp_flat l
    rw [grp]
    cases h : grp l with
    | nil =>
      rw [h] at ih1
      simp only [flat, List.flatMap_nil] at ih1
      subst ih1
      exact ⟨by simp [flat], by simp⟩
    | cons g r =>
      obtain ⟨y, k⟩ := g
      rw [h] at ih1 ih2
      by_cases e : x = y
      · subst e
        simp only [if_true]
        refine ⟨?_, fun g hg => ?_⟩
        · rw [← ih1]; simp [flat, List.replicate_succ]
        · rcases List.mem_cons.1 hg with rfl | hg
          · exact ⟨by simp, by simp⟩
          · have := ih2 g (List.mem_cons_of_mem _ hg)
            exact ⟨this.1, List.mem_cons_of_mem _ this.2⟩
      · simp only [if_neg e]
        refine ⟨?_, fun g hg => ?_⟩
        · rw [← ih1]; simp [flat]
        · rcases List.mem_cons.1 hg with rfl | hg
          · exact ⟨by simp, by simp⟩
          · have := ih2 g hg
            exact ⟨this.1, List.mem_cons_of_mem _ this.2⟩
theorem good_flat (most : Int) : ∀ (gs : List (Int × Nat)) (l : List Int), (∀ g ∈ gs, 1 ≤ g.2 ∧ 0 ≤ g.1 ∧ g.1 ≤ 15) → (l.length : Int) + (flat gs).length ≤ most → Good most l (gs.flatMap fun g => group g.1 g.2) (l ++ flat gs)
  | [], l, _, _ => by simpa [flat] using Good.nil l
  | g :: gs, l, hg, hm => by
    have h1 := hg g (by simp)
    have e : flat (g :: gs) = List.replicate g.2 g.1 ++ flat gs := by simp [flat]
    rw [e, List.length_append, List.length_replicate] at hm
    rw [List.flatMap_cons, e, ← List.append_assoc]
    exact (good_group most g.1 h1.2.1 h1.2.2 g.2 h1.1 l (by omega)).append (good_flat most gs (l ++ List.replicate g.2 g.1) (fun x hx => hg x (by simp [hx])) (by simp; omega))
theorem good_pack (l : List Int) (h : ∀ x ∈ l, 0 ≤ x ∧ x ≤ 15) : Good l.length [] (pack l) l := by
  obtain ⟨h1, h2⟩ := grp_flat l
  have h3 := good_flat l.length (grp l) [] (fun g hg => ⟨(h2 g hg).1, h g.1 (h2 g hg).2⟩) (by rw [h1]; simp)
  rw [h1] at h3
  exact h3
end Rn
end Go.Proofs.Ytgnghlcdbilgjaa
