/-
  inflate: the page's example, the bytes 3 and 0.
-/
import Derived.Test.YtdmmlpioaiammaaDoorInfAll
namespace Go.Proofs.YtdmmlpioaiammaaDoor
open Go.RowKit

def AwI (B pm pr pw : Nat) (n : Nat) (s : Int) (W : World) : Prop :=
  ∃ Q o v m pos, MS W B Q pm pr pw [3, 0] pos 0 o [] v m ∧ m.fault = 0 ∧ m.stage = s ∧
    ((s = 0 ∧ n = 2 ∧ pos = 8 * 0) ∨ (s = 7 ∧ n = 1 ∧ pos = 3 ∧ m.fin = true ∧ ∃ pt BT QT, m.lits = .pointer (some ⟨pt, 0, none⟩) ∧ TabS W BT QT pt fixedLits ∧ Q ≤ BT) ∨ (s = 11 ∧ n = 0 ∧ pos = 16))
/-- a new machine, its reader fed -/
theorem ms_fed {lim B pm pr pw : Nat} {b : List UInt8} {w1 w2 : World} {o : Value} (h1 : Whole w1 pm 44 (machC pr pw (.slice none 0 0) (mv0 lim)).toArray) (h3 : WinS w1 pw []) (h4 : B ≤ pr) (h5 : pr < pw) (h6 : pw < pm) (h7 : pm < w1.heap.size)
    (hr : RdS w2 B pr o b 0 0) (ho : ∀ g, o.ownBlock = some g → w1.heap.size ≤ g) (hf : Fr (fun x => x = pr) w1 w2) : MS w2 B w2.heap.size pm pr pw b 0 0 o [] (.slice none 0 0) (mv0 lim) := by
  have hs := hf.size
  exact ⟨h1.fr hf (fun e => by omega), hr, fun g hg => ⟨(hr.own.lt g hg).2, by have := ho g hg; omega, by have := ho g hg; omega⟩, h3.fr hf (fun e => by omega), World.ownsRow_nil _ _ _ _, ⟨by omega, h4, by omega⟩, ⟨by omega, by omega, by omega⟩, ⟨by omega, by omega, by omega⟩, Nat.le_refl _⟩
theorem wrote_awake (pm pr pw C : Nat) (a : Option Addr) (c : Nat) (w w1 : World) (hsl : Sl w1 C a (bytesV [3, 0])) (hC : C ≤ w.heap.size)
    (h1 : Whole w1 pm 44 (machC pr pw (.slice none 0 0) (mv0 0)).toArray) (h2 : RdS w1 w.heap.size pr (.slice none 0 0) [] 0 0) (h3 : WinS w1 pw []) (h4 : w.heap.size ≤ pr) (h5 : pr < pw) (h6 : pw < pm) (h7 : pm < w1.heap.size) (hb1 : Below w.heap.size w w1) :
    Calls Tryd.prog 7 #[.pointer (some ⟨pm, 0, none⟩), .slice a 2 c] w1 (WroteIs w.heap.size pm pr pw [] 0 0 w1) := by
  have c4 := h1.cell 4
  have c1 := h1.cell 1
  simp [machC, mv0] at c4 c1
  refine (write_any w.heap.size pm pr (AwI w.heap.size pm pr pw) (fun _ => False) 0 a 2 c w1 c4 c1 ?_ ?_ ?_ (fun _ h => h.elim)).mono ?_
  · refine (feed_any w.heap.size pr _ [] 0 0 [3, 0] a c C w1 h2 (by decide) (by decide) hb1.size (by decide) hsl hC h4).mono ?_
    intro e w2 hF
    obtain ⟨o, rfl, hr, ho, hf⟩ := feed_empty hF
    refine ⟨rfl, hf.below hb1.size (fun k hk e => by omega), 2, _, o, _, _, 0, ms_fed h1 h3 h4 h5 h6 h7 hr ho hf, rfl, rfl, .inl ⟨rfl, rfl, rfl⟩⟩
  · rintro n s W ⟨Q, o, v, m, pos, hm, hfl, hst, _⟩
    have d5 := hm.mach.cell 5
    have d4 := hm.mach.cell 4
    simp [machC, hst, hfl] at d5 d4
    exact ⟨d5, d4⟩
  · rintro n s W ⟨Q, o, v, m, pos, hm, hfl, hst, h⟩ hs
    have d5 := hm.mach.cell 5
    simp [machC, hst] at d5
    rcases h with ⟨rfl, rfl, rfl⟩ | ⟨rfl, rfl, rfl, hfin, pt, BT, QT, hl, hT, hQ⟩ | ⟨rfl, _⟩
    · refine (step0 pm true (fun W' => Below w.heap.size W W' ∧ AwI w.heap.size pm pr pw 1 7 W') W d5 ((block_fixed _ _ _ _ _ _ 0 0 o [] v m [0] W hm (by decide) rfl).mono ?_)).mono ?_
      · rintro e W' ⟨p1, p2, BT, QT, v', rfl, hm', hT, hQ, hb⟩
        exact ⟨rfl, hb, Q, o, v', _, 3, hm', hfl, rfl, .inr (.inl ⟨rfl, rfl, rfl, rfl, p1, BT, QT, rfl, hT, hQ⟩)⟩
      · rintro e W' ⟨rfl, hb, hi⟩
        exact ⟨hb, .inl ⟨rfl, 1, 7, by omega, hi⟩⟩
    · have CO := code_hit _ _ _ _ _ _ 3 0 o [] v m fixedLits 256 7 BT QT pt W hm (by decide) hT hQ (by rw [fixedLits_kind]; decide) (by rw [fixedLits_len]; decide) hit_end
      refine (step7 pm true (fun W' => Below w.heap.size W W' ∧ AwI w.heap.size pm pr pw 0 11 W') W d5 ((symbol_end _ _ _ _ _ _ 3 7 0 o [] v m pt W hm (by decide) hfin hl CO).mono ?_)).mono ?_
      · rintro e W' ⟨rfl, ⟨v', hm'⟩, hb⟩
        exact ⟨rfl, hb, Q, o, v', _, 16, hm', hfl, rfl, .inr (.inr ⟨rfl, rfl, rfl⟩)⟩
      · rintro e W' ⟨rfl, hb, hi⟩
        exact ⟨hb, .inl ⟨rfl, 0, 11, by omega, hi⟩⟩
    · exact absurd rfl hs
  · rintro e w' ⟨hb, ⟨rfl, n, Q, o, v, m, pos, hm, hfl, hst, h⟩ | ⟨_, h⟩⟩
    · refine ⟨hb, rfl, fun _ => ⟨Q, _, pos, 0, o, v, m, hm, hst, ?_, by decide⟩⟩
      rcases h with ⟨h, _⟩ | ⟨h, _⟩ | ⟨_, _, rfl⟩
      · exact absurd h (by decide)
      · exact absurd h (by decide)
      · rfl
    · exact h.elim
end Go.Proofs.YtdmmlpioaiammaaDoor
