/-
  punnetref02.Ints: two lists of numbers are compared.
-/
import Derived.Test.YtcbginkbipefaaaProg
import Derived.Test.YtcbginkbipefaaaMem
import Derived.Deep.QuietTactic
import Derived.BigQuiet
namespace Go.Proofs.Ytcbginkbipefaaa
open Go.RowKit

/-- a list that is alike so far and unlike here is unlike -/
theorem unlike_at {l m : List Int} {k : Nat} (hl : k < l.length) (hm : k < m.length) (h : l[k] ≠ m[k]) : decide (l = m) = false := by
  simp only [decide_eq_false_iff_not]
  rintro rfl
  exact h rfl
theorem alike_all {l m : List Int} (hl : l.length = m.length) (h : ∀ i, i < l.length → l[i]? = m[i]?) : decide (l = m) = true := by
  simp only [decide_eq_true_eq]
  apply List.ext_getElem?
  intro i
  by_cases hi : i < l.length
  · exact h i hi
  · rw [List.getElem?_eq_none (by omega), List.getElem?_eq_none (by omega)]

set_option maxHeartbeats 400000 in
theorem ints_same (l m : List Int) (a b : Option Addr) (c d B C : Nat) (w : World) (hl : l.length ≤ maxLen) (hm : m.length ≤ maxLen) (ha : Sl w B a (intsV l)) (hb : Sl w C b (intsV m)) :
    Calls Try.prog 14 #[.slice a l.length c, .slice b m.length d] w fun e w' => e = .returned (.bool (decide (l = m))) ∧ ∃ n, w' = w.drewN n := by
  unfold maxLen at hl hm
  have HA := Lib.hid ha
  have HM := Lib.hid hb
  clear ha hb
  by_cases hlen : l.length = m.length
  · have HL := Lib.hid hlen
    have tl : ((l.length : Int) != (m.length : Int)) = false := by rw [hlen]; simp
    have tl2 : (l.length != m.length) = false := by rw [hlen]; simp
    have h1 : l.length ≤ m.length := by omega
    have h2 : m.length ≤ l.length := by omega
    clear hlen
    go_enter Try.func14, Try.ntmps14
    go_wp2
    go_loopw [5] (fun i wr => ∃ k : Nat, k ≤ l.length ∧ i = .int .i64 k ∧ (∀ i, i < k → l[i]? = m[i]?) ∧ ∃ n, wr = w.drewN n) (fun i _ => l.length - (intOf i).toNat)
    case atStart => exact ⟨0, Nat.zero_le _, rfl, by omega, 0, rfl⟩
    case round =>
      obtain ⟨k, hk, rfl, hp, q, rfl⟩ := hrel
      have HP := Lib.hid hp
      clear hp
      by_cases hlt : k < l.length
      · have hltm : k < m.length := by omega
        obtain ⟨b1, o1, rfl, _, c1⟩ := HA.out.int hlt
        obtain ⟨b2, o2, rfl, _, c2⟩ := HM.out.int hltm
        have k0 : (0 : Int) ≤ (k : Int) := Int.natCast_nonneg _
        have k1 : (k : Int) < (l.length : Int) := by omega
        have k2 : (k : Int) < (m.length : Int) := by omega
        by_cases he : l[k] = m[k]
        · have HN := Lib.hid (show ∀ i, i < k + 1 → l[i]? = m[i]? from fun i hi => by
            rcases Nat.lt_or_ge i k with h | h
            · exact HP.out i h
            · obtain rfl : i = k := by omega
              rw [List.getElem?_eq_getElem hlt, List.getElem?_eq_getElem hltm, he])
          rw [← he] at c2
          generalize l[k] = x at c1 c2
          clear he
          go_wp2_with fail
          go_quiet (fail)
          go_wp2_with fail
          go_roundw
          case rel => exact ⟨k + 1, by omega, by go_num, HN.out, _, rfl⟩
          case measure => simp [intOf]; omega
        · have HU := Lib.hid (unlike_at hlt hltm he)
          have te : (l[k] != m[k]) = true := by simpa using he
          generalize l[k] = x at c1 te
          generalize m[k] = y at c2 te
          clear he
          go_wp2_with fail
          go_quiet (fail)
          go_wp2_with fail
          go_ret
          exact ⟨by rw [HU.out]; rfl, _, World.drewN_drewN _ _ _⟩
      · obtain rfl : k = l.length := by omega
        have HU := Lib.hid (alike_all HL.out HP.out)
        go_wp2_with fail
        go_ret
        exact ⟨by rw [HU.out]; rfl, _, rfl⟩
  · have HU := Lib.hid (show decide (l = m) = false by simp only [decide_eq_false_iff_not]; rintro rfl; exact hlen rfl)
    have tl : ((l.length : Int) != (m.length : Int)) = true := by simp; omega
    have tl2 : (l.length != m.length) = true := by simpa using hlen
    clear hlen
    go_enter Try.func14, Try.ntmps14
    go_wp2
    go_ret
    exact ⟨by rw [HU.out]; rfl, 0, rfl⟩
end Go.Proofs.Ytcbginkbipefaaa
