/-
  From a reading of an argument to cells: slices of whatever elements (structs of one-cell fields, slices). No program in sight.
-/
import Derived.Test.YtdmmlpioaiammaaDoorOpen
import Derived.Deep.Slices
import Derived.Deep.Fields
namespace Go.Proofs.YtdmmlpioaiammaaDoor
open Go.RowKit Go.ChangeShapes Go.WideShapes Go.ChangeAt

section
variable {α : Type}
theorem list_of_choice {R : Nat → α → Prop} : ∀ (n : Nat), (∀ i, i < n → ∃ o, R i o) → ∃ l : List α, l.length = n ∧ ∀ i o, l[i]? = some o → R i o
  | 0, _ => ⟨[], rfl, by simp⟩
  | n + 1, h => by
    obtain ⟨l, hl, hR⟩ := list_of_choice n fun i hi => h i (by omega)
    obtain ⟨o, ho⟩ := h n (by omega)
    refine ⟨l ++ [o], by simp [hl], fun i x hx => ?_⟩
    rcases Nat.lt_or_ge i l.length with hi | hi
    · rw [List.getElem?_append_left hi] at hx; exact hR i x hx
    · rw [List.getElem?_append_right hi] at hx
      have h0 : i - l.length = 0 := by
        rcases Nat.eq_zero_or_pos (i - l.length) with h0 | h0
        · exact h0
        · rw [List.getElem?_eq_none (by simp; omega)] at hx; simp at hx
      rw [h0] at hx
      simp at hx
      obtain rfl : i = n := by omega
      rw [← hx]; exact ho
theorem flat_length {g : α → List Value} {k : Nat} : ∀ {l : List α}, (∀ o ∈ l, (g o).length = k) → (l.flatMap g).length = k * l.length
  | [], _ => rfl
  | a :: l, h => by
    rw [List.flatMap_cons, List.length_append, h a (by simp), flat_length fun o ho => h o (by simp [ho]), List.length_cons, Nat.mul_add, Nat.mul_one]
    omega
theorem flat_at {g : α → List Value} {k : Nat} : ∀ {l : List α}, (∀ o ∈ l, (g o).length = k) → ∀ {i j : Nat} {o : α}, l[i]? = some o → j < k → (l.flatMap g)[k * i + j]? = (g o)[j]?
  | [], _, _, _, _, h, _ => by simp at h
  | a :: l, h, i, j, o, ho, hj => by
    have ha := h a (by simp)
    rw [List.flatMap_cons]
    cases i with
    | zero =>
      simp at ho
      subst ho
      rw [List.getElem?_append_left (by omega)]
      simp
    | succ i =>
      rw [List.getElem?_append_right (by rw [ha, Nat.mul_add]; omega), ha, show k * (i + 1) + j - k = k * i + j by rw [Nat.mul_add]; omega]
      exact flat_at (fun o ho => h o (by simp [ho])) (by simpa using ho) hj
theorem flat_from {g : α → List Value} {k : Nat} : ∀ {l : List α}, (∀ o ∈ l, (g o).length = k) → ∀ {q : Nat} {u : Value}, (l.flatMap g)[q]? = some u → ∃ i j o, q = k * i + j ∧ j < k ∧ l[i]? = some o ∧ (g o)[j]? = some u
  | [], _, _, _, h => by simp at h
  | a :: l, h, q, u, hu => by
    have ha := h a (by simp)
    rw [List.flatMap_cons] at hu
    rcases Nat.lt_or_ge q k with hq | hq
    · rw [List.getElem?_append_left (by omega)] at hu
      exact ⟨0, q, a, by omega, hq, rfl, hu⟩
    · rw [List.getElem?_append_right (by omega), ha] at hu
      obtain ⟨i, j, o, e1, e2, e3, e4⟩ := flat_from (fun o ho => h o (by simp [ho])) hu
      exact ⟨i + 1, j, o, by rw [Nat.mul_add]; omega, e2, by simpa using e3, e4⟩
end

section
variable {H : Type} {enc : TypeId × Value → H} {P : Program} {W : World} {t e : TypeId} {a : Option Addr} {len cap : Nat} {d : DataW H} {p : List MemPlace}
/-- A slice argument: its elements' cells lie one behind the other, and each element has a reading. -/
theorem open_elems {α : Type} {g : α → List Value} {ok : α → Prop} {k : Nat} (ht : P.underlying t = some (.slice e)) (hk : P.cellsOf e = k) (hk0 : 0 < k)
    (hone : ∀ fuel cs x, cs.length = k → DataW.trod enc P W 0 (fun _ => true) true fuel e cs = some x → ∃ o, g o = cs ∧ ok o)
    (h : DataW.Trod enc P W 0 (fun _ => true) true t (.slice a len cap) d p) :
    ∃ l : List α, len = l.length ∧ Sl W W.heap.size a (l.flatMap g) ∧ (∀ o ∈ l, ok o) ∧ (∀ o ∈ l, (g o).length = k) ∧ len ≤ cap ∧ cap ≤ maxLen := by
  obtain ⟨fuel, hf⟩ := h
  rcases Go.Deep.open_slice ht hf with ⟨hcs, _⟩ | ⟨x, l0, c0, m, n, D, Pl, hcs, _, hl, hm, hmm, _, hel⟩
  · simp [Value.cells] at hcs
    obtain ⟨rfl, rfl, rfl⟩ := hcs
    exact ⟨[], rfl, .inl rfl, by simp, by simp, by simp, by simp [maxLen]⟩
  · simp [Value.cells] at hcs
    obtain ⟨rfl, rfl, rfl⟩ := hcs
    simp at hmm
    subst hmm
    rw [hk] at hel
    obtain ⟨l, hll, hR⟩ := list_of_choice (R := fun i (o : α) => W.cells? 0 (x.add (i * k)) k = some (g o) ∧ ok o) len (fun i hi => by
      obtain ⟨cs', hc, ht'⟩ := hel i (by omega)
      obtain ⟨_, hcl, _⟩ := World.cells?_some hc
      obtain ⟨o, ho, hok⟩ := hone n cs' _ hcl ht'
      exact ⟨o, by rw [ho]; exact hc, hok⟩)
    have hlen : ∀ o ∈ l, (g o).length = k := fun o ho => by
      obtain ⟨i, hi, rfl⟩ := List.getElem_of_mem ho
      obtain ⟨hc, _⟩ := hR i _ (List.getElem?_eq_getElem hi)
      exact (World.cells?_some hc).2.1
    refine ⟨l, hll.symm, ?_, fun o ho => ?_, hlen, hl, hm⟩
    · rcases Nat.eq_zero_or_pos len with h0 | h0
      · left
        have : l = [] := List.eq_nil_of_length_eq_zero (by omega)
        rw [this]; rfl
      · have hcell : ∀ q u, (l.flatMap g)[q]? = some u → W.cell? (x.add q) = some u := fun q u hu => by
          obtain ⟨i, j, o, rfl, hj, ho, hg⟩ := flat_from hlen hu
          obtain ⟨hc, _⟩ := hR i o ho
          have := (World.cells?_some hc).2.2 j hj
          rw [Go.Deep.add_add, Nat.mul_comm] at this
          rw [this, hg]
        have hnz : 0 < (l.flatMap g).length := by
          rw [flat_length hlen]
          exact Nat.mul_pos hk0 (by omega)
        have hc0 := hcell 0 _ (List.getElem?_eq_getElem hnz)
        have hs : x.spot = none := by simpa [Addr.add] using World.cell?_spot hc0
        obtain ⟨b, off, spot⟩ := x
        have hs : spot = none := hs
        subst hs
        have hcc : ∀ q u, (l.flatMap g)[q]? = some u → W.cell? ⟨b, off + q, none⟩ = some u := fun q u hu => by
          have := hcell q u hu
          rcases Nat.eq_zero_or_pos q with rfl | hi0
          · simpa [Addr.add] using this
          · simpa [Addr.add, show q ≠ 0 by omega] using this
        exact .inr ⟨b, off, rfl, cell_lt (hcc 0 _ (List.getElem?_eq_getElem hnz)), hcc⟩
    · obtain ⟨i, hi, rfl⟩ := List.getElem_of_mem ho
      exact (hR i _ (List.getElem?_eq_getElem hi)).2
/-- The fields of a struct, each of one cell. -/
theorem open_fields {fs : Array Field} {fuel : Nat} {cs : List Value} {x : DataW H × List MemPlace} (he : P.underlying e = some (.struct fs)) (hone : Go.Deep.oneCellFields P fs = true)
    (hc : cs.length = fs.size) (h : DataW.trod enc P W 0 (fun _ => true) true fuel e cs = some x) :
    ∀ (j : Nat) (f : Field), fs[j]? = some f → ∃ v n y, cs[j]? = some v ∧ DataW.trod enc P W 0 (fun _ => true) true n f.type [v] = some y := by
  intro j f hj
  obtain ⟨ys, n', _, _, _, hyl, hf⟩ := DataW.trod_struct he h
  obtain ⟨ho, hk⟩ := Go.Deep.hone_of hone j f hj
  have hjl : j < fs.size := (Array.getElem?_eq_some_iff.1 hj).1
  have h1 := hf j f hj
  rw [ho, hk, Go.Deep.take1_drop cs j default (by omega)] at h1
  have hys : ys[j]? = some (ys[j]'(by omega)) := List.getElem?_eq_getElem (by omega)
  refine ⟨_, _, _, ?_, h1.trans hys⟩
  rw [List.getD_eq_getElem?_getD, List.getElem?_eq_getElem (by omega)]
  rfl
/-- One cell that is a slice of bytes. -/
theorem open_bytes1 {fuel : Nat} {v : Value} {x : DataW H × List MemPlace} (ht : P.underlying t = some (.slice e)) (he : P.underlying e = some (.int .u8)) (hc : P.cellsOf e = 1)
    (h : DataW.trod enc P W 0 (fun _ => true) true fuel t [v] = some x) :
    ∃ a l cap, v = .slice a (l : List UInt8).length cap ∧ Sl W W.heap.size a (bytesV l) ∧ l.length ≤ cap ∧ cap ≤ maxLen := by
  have hv : ∃ a len cap, v = .slice a len cap := by
    rcases Go.Deep.open_slice ht h with ⟨hcs, _⟩ | ⟨x, l0, c0, m, n, D, Pl, hcs, _⟩
    · simp at hcs; exact ⟨_, _, _, hcs⟩
    · simp at hcs; exact ⟨_, _, _, hcs⟩
  obtain ⟨a, len, cap, rfl⟩ := hv
  obtain ⟨d, p⟩ := x
  have hT : DataW.Trod enc P W 0 (fun _ => true) true t (.slice a len cap) d p := ⟨fuel, by simpa [Value.cells] using h⟩
  obtain ⟨l, rfl, hs, h1, h2⟩ := open_bytes ht he hc hT
  exact ⟨a, l, cap, rfl, hs, h1, h2⟩
end
end Go.Proofs.YtdmmlpioaiammaaDoor
