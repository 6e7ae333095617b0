/-
  The []Op of layer 12's laws: opened to a list; light.
-/
import Derived.Test.YtpaimcigkpdjpaaElems
import Derived.Test.YtpaimcigkpdjpaaWinMore
namespace Go.Proofs.Ytpaimcigkpdjpaa
open Go.RowKit Go.ChangeShapes Go.WideShapes Go.ChangeAt

structure WOp where
  kind : Int
  dist : Int
  n : Int
  a : Option Addr
  data : List UInt8
  cap : Nat
def WOp.cells (o : WOp) : List Value := [.int .i64 o.kind, .int .i64 o.dist, .int .i64 o.n, .slice o.a o.data.length o.cap]
structure WOp.ok (W : World) (o : WOp) : Prop where
  k1 : -9223372036854775808 ≤ o.kind
  k2 : o.kind ≤ 9223372036854775807
  d1 : -9223372036854775808 ≤ o.dist
  d2 : o.dist ≤ 9223372036854775807
  n1 : -9223372036854775808 ≤ o.n
  n2 : o.n ≤ 9223372036854775807
  le : o.data.length ≤ o.cap
  most : o.cap ≤ maxLen
  sl : Sl W W.heap.size o.a (bytesV o.data)

theorem four {α : Type} {cs : List α} {a b c d : α} (h : cs.length = 4) (h0 : cs[0]? = some a) (h1 : cs[1]? = some b) (h2 : cs[2]? = some c) (h3 : cs[3]? = some d) : cs = [a, b, c, d] := by
  match cs, h with
  | [x, y, z, t], _ => simp at h0 h1 h2 h3; rw [h0, h1, h2, h3]

theorem open_wops {H : Type} {enc : TypeId × Value → H} {W : World} {a : Option Addr} {len cap : Nat} {d : DataW H} {p : List MemPlace}
    (h : DataW.Trod enc Try.prog W 0 (fun _ => true) true 33 (.slice a len cap) d p) :
    ∃ l : List WOp, len = l.length ∧ Sl W W.heap.size a (l.flatMap WOp.cells) ∧ (∀ o ∈ l, o.ok W) ∧ len ≤ cap ∧ cap ≤ maxLen := by
  obtain ⟨l, h1, h2, h3, _, h5⟩ := open_elems (g := WOp.cells) (ok := WOp.ok W) (k := 4) Try.underlying33 (by kernel_rfl) (by omega) (fun fuel cs x hcl ht => by
    have hf := open_fields Try.underlying38 (by kernel_rfl) hcl ht
    obtain ⟨v0, n0, y0, c0, t0⟩ := hf 0 _ rfl
    obtain ⟨v1, n1, y1, c1, t1⟩ := hf 1 _ rfl
    obtain ⟨v2, n2, y2, c2, t2⟩ := hf 2 _ rfl
    obtain ⟨v3, n3, y3, c3, t3⟩ := hf 3 _ rfl
    obtain ⟨z0, e0, _, w0⟩ := DataW.trod_int Try.underlying3 t0
    obtain ⟨z1, e1, _, w1⟩ := DataW.trod_int Try.underlying3 t1
    obtain ⟨z2, e2, _, w2⟩ := DataW.trod_int Try.underlying3 t2
    obtain ⟨aa, l, cc, rfl, hs, hl, hm⟩ := open_bytes1 Try.underlying22 Try.underlying5 (by kernel_rfl) t3
    simp at e0 e1 e2
    subst e0 e1 e2
    have b0 := bounds_i64 w0
    have b1 := bounds_i64 w1
    have b2 := bounds_i64 w2
    refine ⟨⟨z0, z1, z2, aa, l, cc⟩, ?_, b0.1, b0.2, b1.1, b1.2, b2.1, b2.2, hl, hm, hs⟩
    exact (four hcl c0 c1 c2 c3).symm) h
  exact ⟨l, h1, h2, h3, h5⟩
theorem wops_at {W : World} {B : Nat} {a : Option Addr} {l : List WOp} (h : Sl W B a (l.flatMap WOp.cells)) {i : Nat} {o : WOp} (hi : l[i]? = some o) :
    ∃ b off, a = some ⟨b, off, none⟩ ∧ b < B ∧ W.cell? ⟨b, off + i * 4, none⟩ = some (.int .i64 o.kind) ∧ W.cell? ⟨b, off + i * 4 + 1, none⟩ = some (.int .i64 o.dist) ∧
      W.cell? ⟨b, off + i * 4 + 2, none⟩ = some (.int .i64 o.n) ∧ W.cell? ⟨b, off + i * 4 + 3, none⟩ = some (.slice o.a o.data.length o.cap) := by
  have hlen : ∀ o ∈ l, (WOp.cells o).length = 4 := fun _ _ => rfl
  rcases h with h | ⟨b, off, ha, hb, hc⟩
  · have := flat_length hlen
    rw [h] at this
    have hl : l = [] := List.eq_nil_of_length_eq_zero (by simp at this; omega)
    rw [hl] at hi
    simp at hi
  · have hq : ∀ (j : Nat) (u : Value), j < 4 → o.cells[j]? = some u → W.cell? ⟨b, off + i * 4 + j, none⟩ = some u := fun j u hj hu => by
      have := hc _ _ ((flat_at hlen hi hj).trans hu)
      rw [show off + i * 4 + j = off + (4 * i + j) by omega]; exact this
    exact ⟨b, off, ha, hb, hq 0 _ (by omega) rfl, hq 1 _ (by omega) rfl, hq 2 _ (by omega) rfl, hq 3 _ (by omega) rfl⟩


/-- what light lets pass -/
def WOp.light (o : WOp) : Prop := o.data.length ≤ 4000 ∧ (o.kind = 4 → o.n ≤ 20) ∧ (o.kind = 1 → o.n ≤ 40000 ∨ 1048576 < o.n)

def LightPost (l : List WOp) (w : World) (e : Ending) (w' : World) : Prop := ∃ b : Bool, e = .returned (.bool b) ∧ (b = true → l.length ≤ 40 ∧ ∀ o ∈ l, o.light) ∧ ∃ n, w' = w.drewN n

set_option maxRecDepth 100000 in
set_option maxHeartbeats 2000000 in
theorem light_any (l : List WOp) (a : Option Addr) (c B : Nat) (w : World) (hsl : Sl w B a (l.flatMap WOp.cells)) (hok : ∀ o ∈ l, o.ok w) :
    Calls Try.prog 12 #[.slice a l.length c] w (LightPost l w) := by
  have HC := Lib.hid hsl
  have HOK := Lib.hid hok
  clear hsl hok
  by_cases h4 : l.length ≤ 40
  case neg =>
    have t1 : decide ((40 : Int) < (l.length : Int)) = true := decide_eq_true (by omega)
    have t2 : decide (40 < l.length) = true := decide_eq_true (by omega)
    go_enter Try.func12, Try.ntmps12
    go_wp2_with fail
    go_ret
    exact ⟨false, rfl, fun h => by simp at h, 0, rfl⟩
  have t1 : decide ((40 : Int) < (l.length : Int)) = false := decide_eq_false (by omega)
  have t2 : decide (40 < l.length) = false := decide_eq_false (by omega)
  go_enter Try.func12, Try.ntmps12
  go_wp2_with fail
  go_loopw [3, 4] (fun s i wr => ∃ (j q : Nat) (z : Int), j ≤ l.length ∧ i = .int .i64 j ∧ s = .int .i64 z ∧ 0 ≤ z ∧ z ≤ 200000 * (j : Int) ∧ (∀ o ∈ l.take j, o.light) ∧ wr = w.drewN q) (fun _ i _ => l.length - (intOf i).toNat)
  case atStart => exact ⟨0, 0, 0, Nat.zero_le _, rfl, rfl, by omega, by omega, by simp, rfl⟩
  case round =>
    obtain ⟨j, q, z, hj, rfl, rfl, hz1, hz2, hli, hwr⟩ := hrel
    have HWR := Lib.hid hwr
    clear hwr
    by_cases hlt : j < l.length
    · have hx := List.getElem?_eq_getElem hlt
      obtain ⟨b1, off, rfl, hbB, q0, q1, q2, q3⟩ := wops_at (show Sl wr B a _ by rw [HWR.out]; exact HC.out.drewN q) hx
      have ho := HOK.out _ (List.getElem_mem hlt)
      have HS := Lib.hid (show l[j].light → ∀ o ∈ l.take (j + 1), o.light from fun hL o ho => by
        rw [List.take_add_one, hx] at ho
        rcases List.mem_append.1 ho with h | h
        · exact hli o h
        · simp at h; subst h; exact hL)
      generalize l[j] = t at HS q0 q1 q2 q3 ho
      obtain ⟨kind, dist, n, aa, data, cc⟩ := t
      have hn1 := ho.n1
      have hn2 := ho.n2
      simp only [] at q0 q1 q2 q3 hn1 hn2
      clear hx ho hli q1
      have k0 : (0 : Int) ≤ (j : Int) := Int.natCast_nonneg _
      have k1 : (j : Int) < (l.length : Int) := by omega
      replace HS := Lib.hid (show (data.length ≤ 4000 ∧ (kind = 4 → n ≤ 20) ∧ (kind = 1 → n ≤ 40000 ∨ 1048576 < n)) → _ from HS.out)
      generalize data.length = dl at HS q3
      by_cases hdl : dl ≤ 4000
      case neg =>
        have t3 : decide ((4000 : Int) < (dl : Int)) = true := decide_eq_true (by omega)
        have t4 : decide (4000 < dl) = true := decide_eq_true (by omega)
        go_wp2_with fail
        go_ret
        exact ⟨false, rfl, fun h => by simp at h, q, HWR.out⟩
      have t3 : decide ((4000 : Int) < (dl : Int)) = false := decide_eq_false (by omega)
      have t4 : decide (4000 < dl) = false := decide_eq_false (by omega)
      by_cases h4 : kind = 4
      · subst h4
        by_cases hn : n ≤ 20
        case neg =>
          have t5 : decide ((20 : Int) < n) = true := decide_eq_true (by omega)
          go_wp2_with fail
          go_ret
          exact ⟨false, rfl, fun h => by simp at h, q, HWR.out⟩
        have t5 : decide ((20 : Int) < n) = false := decide_eq_false (by omega)
        by_cases hn0 : 0 < n
        · have t6 : decide ((0 : Int) < n) = true := decide_eq_true (by omega)
          obtain ⟨m, rfl⟩ := Int.eq_ofNat_of_zero_le (show 0 ≤ n by omega)
          have hmd : m * dl ≤ 20 * 4000 := Nat.mul_le_mul (by omega) hdl
          have u0 : (m : Int) * (dl : Int) = ((m * dl : Nat) : Int) := by simp
          generalize m * dl = md at hmd u0
          have u1 : IntKind.i64.wrap ((m : Int) * (dl : Int)) = (md : Int) := by rw [u0]; exact IntWalk.i64_in _ (by omega)
          have u2 : IntKind.i64.wrap (z + (dl : Int) + (md : Int)) = z + (dl : Int) + (md : Int) := IntWalk.i64_in _ (by omega)
          have HL := Lib.hid (HS.out ⟨by omega, by omega, by omega⟩)
          clear HS
          go_wp2_with fail
          go_quiet (fail)
          go_wp2_with fail
          go_roundw
          case rel => exact ⟨j + 1, q + _, _, by omega, by go_num, rfl, by omega, by omega, HL.out, by rw [HWR.out]; exact World.drewN_drewN _ _ _⟩
          case measure => simp [intOf]; omega
        · have t6 : decide ((0 : Int) < n) = false := decide_eq_false (by omega)
          have HL := Lib.hid (HS.out ⟨by omega, by omega, by omega⟩)
          clear HS
          go_wp2_with fail
          go_roundw
          case rel => exact ⟨j + 1, q, _, by omega, by go_num, rfl, by omega, by omega, HL.out, HWR.out⟩
          case measure => simp [intOf]; omega
      have t5 : decide (kind = 4) = false := decide_eq_false h4
      by_cases h1 : kind = 1
      · subst h1
        by_cases hn : n ≤ 40000
        · have t6 : decide ((40000 : Int) < n) = false := decide_eq_false (by omega)
          have t7 : decide (n ≤ (40000 : Int)) = true := decide_eq_true (by omega)
          by_cases hn0 : 0 < n
          · have t8 : decide ((0 : Int) < n) = true := decide_eq_true (by omega)
            have HL := Lib.hid (HS.out ⟨by omega, by omega, by omega⟩)
            clear HS
            go_wp2_with fail
            go_roundw
            case rel => exact ⟨j + 1, q, _, by omega, by go_num, rfl, by omega, by omega, HL.out, HWR.out⟩
            case measure => simp [intOf]; omega
          · have t8 : decide ((0 : Int) < n) = false := decide_eq_false (by omega)
            have HL := Lib.hid (HS.out ⟨by omega, by omega, by omega⟩)
            clear HS
            go_wp2_with fail
            go_roundw
            case rel => exact ⟨j + 1, q, _, by omega, by go_num, rfl, by omega, by omega, HL.out, HWR.out⟩
            case measure => simp [intOf]; omega
        · have t6 : decide ((40000 : Int) < n) = true := decide_eq_true (by omega)
          have t7 : decide (n ≤ (40000 : Int)) = false := decide_eq_false (by omega)
          have t8 : decide ((0 : Int) < n) = true := decide_eq_true (by omega)
          by_cases hn0 : n ≤ 1048576
          · have t9 : decide (n ≤ (1048576 : Int)) = true := decide_eq_true (by omega)
            go_wp2_with fail
            go_ret
            exact ⟨false, rfl, fun h => by simp at h, q, HWR.out⟩
          · have t9 : decide (n ≤ (1048576 : Int)) = false := decide_eq_false (by omega)
            have HL := Lib.hid (HS.out ⟨by omega, by omega, by omega⟩)
            clear HS
            go_wp2_with fail
            go_roundw
            case rel => exact ⟨j + 1, q, _, by omega, by go_num, rfl, by omega, by omega, HL.out, HWR.out⟩
            case measure => simp [intOf]; omega
      have t6 : decide (kind = 1) = false := decide_eq_false h1
      have HL := Lib.hid (HS.out ⟨by omega, by omega, by omega⟩)
      clear HS
      go_wp2_with fail
      go_roundw
      case rel => exact ⟨j + 1, q, _, by omega, by go_num, rfl, by omega, by omega, HL.out, HWR.out⟩
      case measure => simp [intOf]; omega
    · obtain rfl : j = l.length := by omega
      rw [List.take_length] at hli
      have HL := Lib.hid hli
      clear hli
      by_cases h2 : z ≤ 200000
      · have t3 : decide (z ≤ 200000) = true := decide_eq_true h2
        go_wp2_with fail
        go_ret
        exact ⟨true, rfl, fun _ => ⟨h4, HL.out⟩, q, HWR.out⟩
      · have t3 : decide (z ≤ 200000) = false := decide_eq_false h2
        go_wp2_with fail
        go_ret
        exact ⟨false, rfl, fun h => by simp at h, q, HWR.out⟩
end Go.Proofs.Ytpaimcigkpdjpaa
