/-
  inflate: Write, and All, on stored blocks.
-/
import Derived.Test.YtdmmlpioaiammaaDoorInfStored
namespace Go.Proofs.YtdmmlpioaiammaaDoor
open Go.RowKit

theorem wrote_stored (parts : List (List UInt8)) (lim pm pr pw C : Nat) (a : Option Addr) (c : Nat) (w w1 : World) (hne : parts ≠ []) (hp : ∀ p ∈ parts, p.length ≤ 300) (hlim : lim ≤ 1000000) (hbl : (enc parts).length ≤ 1000000)
    (hsl : Sl w1 C a (bytesV (enc parts))) (hC : C ≤ w.heap.size)
    (h1 : Whole w1 pm 44 (machC pr pw (.slice none 0 0) (mv0 lim)).toArray) (h2 : RdS w1 w.heap.size pr (.slice none 0 0) [] 0 0) (h3 : WinS w1 pw []) (h4 : w.heap.size ≤ pr) (h5 : pr < pw) (h6 : pw < pm) (h7 : pm < w1.heap.size) (hb1 : Below w.heap.size w w1) :
    Calls Tryd.prog 7 #[.pointer (some ⟨pm, 0, none⟩), .slice a (enc parts).length c] w1 (WroteIs w.heap.size pm pr pw parts.flatten 0 (if lim < parts.flatten.length then 28 else 0) w1) := by
  have c4 := h1.cell 4
  have c1 := h1.cell 1
  simp [machC, mv0] at c4 c1
  refine (write_any w.heap.size pm pr (StI w.heap.size pm pr pw (enc parts) parts.flatten lim) (StF w.heap.size pm pr pw parts.flatten lim) 28 a _ c w1 c4 c1 ?_ (fun _ _ _ h => st_cells h) ?_ ?_).mono ?_
  · refine (feed_any w.heap.size pr _ [] 0 0 (enc parts) a c C w1 h2 (by decide) (by omega) hb1.size (by decide) hsl hC h4).mono ?_
    intro e w2 hF
    obtain ⟨o, rfl, hr, ho, hf⟩ := feed_empty hF
    refine ⟨rfl, hf.below hb1.size (fun k hk e => by omega), _, _, o, _, _, [], 0, parts, ms_fed h1 h3 h4 h5 h6 h7 hr ho hf, rfl, rfl, rfl, by simp, by omega, hp, .inl ⟨rfl, hne, rfl, by simp, rfl⟩⟩
  · intro n s W h hs
    have hc := h
    obtain ⟨Q, o, v, m, all, k, rest, _, _, _, _, _, _, _, h⟩ := h
    rcases h with ⟨rfl, _⟩ | ⟨rfl, _⟩ | ⟨rfl, _⟩ | ⟨rfl, _⟩
    · exact st_step0 hbl hc
    · exact st_step1 hbl hc
    · exact st_step2 hbl hlim hc
    · exact absurd rfl hs
  · rintro W ⟨Q, buf, pos, o, v, m, all, hm, hfl, _⟩
    have d4 := hm.mach.cell 4
    simp [machC, hfl] at d4
    exact d4
  · rintro e w' ⟨hb, ⟨rfl, n, Q, o, v, m, all, k, rest, hm, hfl, hst, hlm, hal, hk, hr, h⟩ | ⟨rfl, Q, buf, pos, o, v, m, all, hm, hfl, hlt⟩⟩
    · rcases h with ⟨h, _⟩ | ⟨h, _⟩ | ⟨h, _⟩ | ⟨_, _, rfl, ht⟩
      · exact absurd h (by decide)
      · exact absurd h (by decide)
      · exact absurd h (by decide)
      · rw [ht, if_neg (by omega)]
        refine ⟨hb, rfl, fun _ => ⟨Q, _, _, 0, o, v, m, hm, hst, ?_, hbl⟩⟩
        rw [restBytes, List.length_drop]
        omega
    · rw [if_pos hlt]
      exact ⟨hb, rfl, fun h => absurd h (by decide)⟩
end Go.Proofs.YtdmmlpioaiammaaDoor
