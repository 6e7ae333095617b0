/-
  The []Op of layer 3's laws: opened to a list; few.
-/
import Derived.Test.YtpaimcigkpdjpaaElems
import Derived.Test.YtpaimcigkpdjpaaDev5
namespace Go.Proofs.Ytpaimcigkpdjpaa
open Go.RowKit Go.ChangeShapes Go.WideShapes Go.ChangeAt

structure DOp where
  kind : Int
  x : Int
  y : Int
  n : Int
  a : Option Addr
  data : List UInt8
  cap : Nat
def DOp.cells (o : DOp) : List Value := [.int .i64 o.kind, .int .i64 o.x, .int .i64 o.y, .int .i64 o.n, .slice o.a o.data.length o.cap]
structure DOp.ok (W : World) (o : DOp) : Prop where
  x1 : -9223372036854775808 ≤ o.x
  x2 : o.x ≤ 9223372036854775807
  y1 : -9223372036854775808 ≤ o.y
  y2 : o.y ≤ 9223372036854775807
  n1 : -9223372036854775808 ≤ o.n
  n2 : o.n ≤ 9223372036854775807
  le : o.data.length ≤ o.cap
  sl : Sl W W.heap.size o.a (bytesV o.data)

theorem five {α : Type} {cs : List α} {a b c d e : α} (h : cs.length = 5) (h0 : cs[0]? = some a) (h1 : cs[1]? = some b) (h2 : cs[2]? = some c) (h3 : cs[3]? = some d) (h4 : cs[4]? = some e) : cs = [a, b, c, d, e] := by
  match cs, h with
  | [x, y, z, t, u], _ => simp at h0 h1 h2 h3 h4; rw [h0, h1, h2, h3, h4]

theorem open_dops {H : Type} {enc : TypeId × Value → H} {W : World} {a : Option Addr} {len cap : Nat} {d : DataW H} {p : List MemPlace}
    (h : DataW.Trod enc Try.prog W 0 (fun _ => true) true 46 (.slice a len cap) d p) :
    ∃ l : List DOp, len = l.length ∧ Sl W W.heap.size a (l.flatMap DOp.cells) ∧ (∀ o ∈ l, o.ok W) ∧ len ≤ cap ∧ cap ≤ maxLen := by
  obtain ⟨l, h1, h2, h3, _, h5⟩ := open_elems (g := DOp.cells) (ok := DOp.ok W) (k := 5) Try.underlying46 (by kernel_rfl) (by omega) (fun fuel cs x hcl ht => by
    have hf := open_fields Try.underlying50 (by kernel_rfl) hcl ht
    obtain ⟨v0, n0, y0, c0, t0⟩ := hf 0 _ rfl
    obtain ⟨v1, n1, y1, c1, t1⟩ := hf 1 _ rfl
    obtain ⟨v2, n2, y2, c2, t2⟩ := hf 2 _ rfl
    obtain ⟨v3, n3, y3, c3, t3⟩ := hf 3 _ rfl
    obtain ⟨v4, n4, y4, c4, t4⟩ := hf 4 _ rfl
    obtain ⟨z0, e0, _, w0⟩ := DataW.trod_int Try.underlying3 t0
    obtain ⟨z1, e1, _, w1⟩ := DataW.trod_int Try.underlying3 t1
    obtain ⟨z2, e2, _, w2⟩ := DataW.trod_int Try.underlying3 t2
    obtain ⟨z3, e3, _, w3⟩ := DataW.trod_int Try.underlying3 t3
    obtain ⟨aa, l, cc, rfl, hs, hl, hm⟩ := open_bytes1 Try.underlying22 Try.underlying5 (by kernel_rfl) t4
    simp at e0 e1 e2 e3
    subst e0 e1 e2 e3
    have b1 := bounds_i64 w1
    have b2 := bounds_i64 w2
    have b3 := bounds_i64 w3
    refine ⟨⟨z0, z1, z2, z3, aa, l, cc⟩, ?_, b1.1, b1.2, b2.1, b2.2, b3.1, b3.2, hl, hs⟩
    exact (five hcl c0 c1 c2 c3 c4).symm) h
  exact ⟨l, h1, h2, h3, h5⟩
theorem dops_at {W : World} {B : Nat} {a : Option Addr} {l : List DOp} (h : Sl W B a (l.flatMap DOp.cells)) {i : Nat} {o : DOp} (hi : l[i]? = some o) :
    ∃ b off, a = some ⟨b, off, none⟩ ∧ b < B ∧ W.cell? ⟨b, off + i * 5, none⟩ = some (.int .i64 o.kind) ∧ W.cell? ⟨b, off + i * 5 + 1, none⟩ = some (.int .i64 o.x) ∧
      W.cell? ⟨b, off + i * 5 + 2, none⟩ = some (.int .i64 o.y) ∧ W.cell? ⟨b, off + i * 5 + 3, none⟩ = some (.int .i64 o.n) ∧ W.cell? ⟨b, off + i * 5 + 4, none⟩ = some (.slice o.a o.data.length o.cap) := by
  have hlen : ∀ o ∈ l, (DOp.cells o).length = 5 := fun _ _ => rfl
  rcases h with h | ⟨b, off, ha, hb, hc⟩
  · have := flat_length hlen
    rw [h] at this
    have hl : l = [] := List.eq_nil_of_length_eq_zero (by simp at this; omega)
    rw [hl] at hi
    simp at hi
  · have hq : ∀ (j : Nat) (u : Value), j < 5 → o.cells[j]? = some u → W.cell? ⟨b, off + i * 5 + j, none⟩ = some u := fun j u hj hu => by
      have := hc _ _ ((flat_at hlen hi hj).trans hu)
      rw [show off + i * 5 + j = off + (5 * i + j) by omega]; exact this
    exact ⟨b, off, ha, hb, hq 0 _ (by omega) rfl, hq 1 _ (by omega) rfl, hq 2 _ (by omega) rfl, hq 3 _ (by omega) rfl, hq 4 _ (by omega) rfl⟩

/-- what few lets pass -/
def DOp.few (o : DOp) : Prop := o.data.length ≤ 200 ∧ (o.kind = 4 → o.x ≤ 2000 ∨ 16777216 < o.x)
def FewPost (l : List DOp) (w : World) (e : Ending) (w' : World) : Prop := ∃ b : Bool, e = .returned (.bool b) ∧ (b = true → l.length ≤ 40 ∧ ∀ o ∈ l, o.few) ∧ w' = w

set_option maxRecDepth 100000 in
set_option maxHeartbeats 2000000 in
theorem few_any (l : List DOp) (a : Option Addr) (c B : Nat) (w : World) (hsl : Sl w B a (l.flatMap DOp.cells)) :
    Calls Try.prog 21 #[.slice a l.length c] w (FewPost l w) := by
  have HC := Lib.hid hsl
  clear hsl
  by_cases h4 : l.length ≤ 40
  case neg =>
    have t1 : decide ((40 : Int) < (l.length : Int)) = true := decide_eq_true (by omega)
    have t2 : decide (40 < l.length) = true := decide_eq_true (by omega)
    go_enter Try.func21, Try.ntmps21
    go_wp2_with fail
    go_ret
    exact ⟨false, rfl, fun h => by simp at h, rfl⟩
  have t1 : decide ((40 : Int) < (l.length : Int)) = false := decide_eq_false (by omega)
  have t2 : decide (40 < l.length) = false := decide_eq_false (by omega)
  go_enter Try.func21, Try.ntmps21
  go_wp2_with fail
  go_loopw [3] (fun i wr => ∃ (j : Nat), j ≤ l.length ∧ i = .int .i64 j ∧ (∀ o ∈ l.take j, o.few) ∧ wr = w) (fun i _ => l.length - (intOf i).toNat)
  case atStart => exact ⟨0, Nat.zero_le _, rfl, by simp, rfl⟩
  case round =>
    obtain ⟨j, hj, rfl, hli, rfl⟩ := hrel
    by_cases hlt : j < l.length
    · have hx := List.getElem?_eq_getElem hlt
      obtain ⟨b1, off, rfl, hbB, q0, q1, q2, q3, q4⟩ := dops_at HC.out hx
      have HS := Lib.hid (show l[j].few → ∀ o ∈ l.take (j + 1), o.few from fun hL o ho => by
        rw [List.take_add_one, hx] at ho
        rcases List.mem_append.1 ho with h | h
        · exact hli o h
        · simp at h; subst h; exact hL)
      generalize l[j] = t at HS q0 q1 q2 q3 q4
      obtain ⟨kind, x, y, n, aa, data, cc⟩ := t
      simp only [] at q0 q1 q2 q3 q4
      replace HS := Lib.hid (show (data.length ≤ 200 ∧ (kind = 4 → x ≤ 2000 ∨ 16777216 < x)) → _ from HS.out)
      generalize data.length = dl at HS q4
      clear hx hli q2 q3
      have k0 : (0 : Int) ≤ (j : Int) := Int.natCast_nonneg _
      have k1 : (j : Int) < (l.length : Int) := by omega
      by_cases hdl : dl ≤ 200
      case neg =>
        have t3 : decide ((200 : Int) < (dl : Int)) = true := decide_eq_true (by omega)
        have t4 : decide (200 < dl) = true := decide_eq_true (by omega)
        go_wp2_with fail
        go_ret
        exact ⟨false, rfl, fun h => by simp at h, rfl⟩
      have t3 : decide ((200 : Int) < (dl : Int)) = false := decide_eq_false (by omega)
      have t4 : decide (200 < dl) = false := decide_eq_false (by omega)
      by_cases h4 : kind = 4
      · subst h4
        by_cases hx1 : x ≤ 2000
        · have t6 : decide ((2000 : Int) < x) = false := decide_eq_false (by omega)
          have HL := Lib.hid (HS.out ⟨by omega, by omega⟩)
          clear HS
          go_wp2_with fail
          go_roundw
          case rel => exact ⟨j + 1, by omega, by go_num, HL.out, trivial⟩
          case measure => simp [intOf]; omega
        · have t6 : decide ((2000 : Int) < x) = true := decide_eq_true (by omega)
          by_cases hx2 : x ≤ 16777216
          · have t7 : decide (x ≤ (16777216 : Int)) = true := decide_eq_true (by omega)
            go_wp2_with fail
            go_ret
            exact ⟨false, rfl, fun h => by simp at h, rfl⟩
          · have t7 : decide (x ≤ (16777216 : Int)) = false := decide_eq_false (by omega)
            have HL := Lib.hid (HS.out ⟨by omega, by omega⟩)
            clear HS
            go_wp2_with fail
            go_roundw
            case rel => exact ⟨j + 1, by omega, by go_num, HL.out, trivial⟩
            case measure => simp [intOf]; omega
      · have t5 : decide (kind = 4) = false := decide_eq_false h4
        have HL := Lib.hid (HS.out ⟨by omega, by omega⟩)
        clear HS
        go_wp2_with fail
        go_roundw
        case rel => exact ⟨j + 1, by omega, by go_num, HL.out, trivial⟩
        case measure => simp [intOf]; omega
    · obtain rfl : j = l.length := by omega
      rw [List.take_length] at hli
      have HL := Lib.hid hli
      clear hli
      go_wp2_with fail
      go_ret
      exact ⟨true, rfl, fun _ => ⟨h4, HL.out⟩, rfl⟩
end Go.Proofs.Ytpaimcigkpdjpaa
