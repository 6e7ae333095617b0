/-
  What runs.Pack computes.
-/
import Derived.Test.YtgnghlcdbilgjaaRuns
namespace Go.Proofs.Ytgnghlcdbilgjaa
open Go.RowKit

def okLen (x : Int) : Bool := decide (0 ≤ x) && decide (x ≤ 15)
theorem okLen_iff {x : Int} : okLen x = true ↔ 0 ≤ x ∧ x ≤ 15 := by simp [okLen]
theorem first_bad : ∀ l : List Int, l.all okLen = false → ∃ (j : Nat) (x : Int), l[j]? = some x ∧ okLen x = false ∧ ∀ (i : Nat) (y : Int), i < j → l[i]? = some y → okLen y = true
  | [], h => by simp at h
  | x :: l, h => by
    by_cases hx : okLen x = true
    · obtain ⟨j, y, h1, h2, h3⟩ := first_bad l (by simpa [hx] using h)
      refine ⟨j + 1, y, by simpa using h1, h2, fun i z hi hz => ?_⟩
      cases i with
      | zero => simp at hz; rw [← hz]; exact hx
      | succ i => exact h3 i z (by omega) (by simpa using hz)
    · exact ⟨0, x, rfl, by simpa using hx, fun i _ hi => by omega⟩

set_option maxHeartbeats 400000 in
theorem pack_bad (l : List Int) (a : Option Addr) (c B : Nat) (w : World) (hl : l.length ≤ 1000000) (hbad : l.all okLen = false) (hsl : Sl w B a (intsV l)) :
    Calls Try.prog 6 #[.slice a l.length c] w fun e w' => e = .returned (.tuple #[.slice none 0 0, .int .i64 23]) ∧ w = w' := by
  have HS := Lib.hid hsl
  obtain ⟨j, x, hj, hx, hbef⟩ := first_bad l hbad
  have hjl : j < l.length := (List.getElem?_eq_some_iff.1 hj).1
  have HJ := Lib.hid hj
  have HX := Lib.hid hx
  have HBF := Lib.hid hbef
  clear hsl hbad hj hx hbef
  go_enter Try.func6, Try.ntmps6
  go_wp2_with fail
  go_loopw [11] (fun i wr => w = wr ∧ ∃ k : Nat, k ≤ j ∧ i = .int .i64 k) (fun i _ => l.length - (intOf i).toNat)
  case atStart => exact ⟨rfl, 0, by omega, rfl⟩
  case round =>
    obtain ⟨rfl, k, hk, rfl⟩ := hrel
    have hkl : k < l.length := by omega
    obtain ⟨b, off, rfl, _, hcell⟩ := HS.out.int hkl
    have k0 : (0 : Int) ≤ (k : Int) := Int.natCast_nonneg _
    have k1 : (k : Int) < (l.length : Int) := by omega
    by_cases hlt : k < j
    · have hok := okLen_iff.1 (HBF.out k _ hlt (List.getElem?_eq_getElem hkl))
      generalize l[k] = y at hcell hok
      have t1 : decide (y < 0) = false := decide_eq_false (by omega)
      have t2 : decide (15 < y) = false := decide_eq_false (by omega)
      go_wp2_with fail
      go_roundw
      case rel => exact ⟨trivial, k + 1, by omega, by go_num⟩
      case measure => simp [intOf]; omega
    · obtain rfl : k = j := by omega
      have hxe : l[k] = x := by have h := HJ.out; rw [List.getElem?_eq_getElem hkl] at h; injection h
      have hno : ¬ (0 ≤ x ∧ x ≤ 15) := fun h => by have := HX.out; rw [okLen_iff.2 h] at this; cases this
      rw [hxe] at hcell
      clear hxe
      by_cases h0 : x < 0
      · have t1 : decide (x < 0) = true := decide_eq_true h0
        clear hno
        go_wp2_with fail
        go_ret2
        exact ⟨rfl, rfl⟩
      · have t1 : decide (x < 0) = false := decide_eq_false h0
        have t2 : decide (15 < x) = true := decide_eq_true (by omega)
        clear hno
        go_wp2_with fail
        go_ret2
        exact ⟨rfl, rfl⟩

theorem drop_group {l : List Int} {k s : Nat} {x : Int} (h : ∀ i, i < s → l[k + i]? = some x) : l.drop k = List.replicate s x ++ l.drop (k + s) := by
  induction s generalizing k with
  | zero => simp
  | succ s ih =>
    have h0 := h 0 (by omega)
    rw [Nat.add_zero] at h0
    have hk : k < l.length := (List.getElem?_eq_some_iff.1 h0).1
    have hx : l[k] = x := by rw [List.getElem?_eq_getElem hk] at h0; injection h0
    rw [List.drop_eq_getElem_cons hk, hx, List.replicate_succ, List.cons_append, ih (k := k + 1) (fun i hi => by have := h (i + 1) (by omega); rw [show k + 1 + i = k + (i + 1) by omega]; exact this), show k + 1 + s = k + (s + 1) by omega]

def PackPost (l : List Int) (w : World) (e : Ending) (w' : World) : Prop :=
  ∃ A c, e = .returned (.tuple #[.slice A (Rn.pack l).length c, .int .i64 0]) ∧ w'.ownsRow w.heap.size 32 2 (.slice A (Rn.pack l).length c) (Rn.pack l).length (runsV (Rn.pack l)) ∧ Below w.heap.size w w'
set_option maxRecDepth 100000 in
set_option maxHeartbeats 1000000 in
theorem pack_ok (l : List Int) (a : Option Addr) (c B : Nat) (w : World) (hl : l.length ≤ 100000) (hok : l.all okLen = true) (hsl : Sl w B a (intsV l)) (hB : B ≤ w.heap.size) :
    Calls Try.prog 6 #[.slice a l.length c] w (PackPost l w) := by
  have HS := Lib.hid hsl
  have HOK := Lib.hid (fun (k : Nat) (hk : k < l.length) => okLen_iff.1 (List.all_eq_true.1 hok l[k] (List.getElem_mem hk)))
  clear hsl hok
  go_enter Try.func6, Try.ntmps6
  go_wp2_with fail
  go_loopw [11] (fun i wr => w = wr ∧ ∃ k : Nat, k ≤ l.length ∧ i = .int .i64 k) (fun i _ => l.length - (intOf i).toNat)
  case atStart => exact ⟨rfl, 0, by omega, rfl⟩
  case round =>
    obtain ⟨rfl, k, hk, rfl⟩ := hrel
    by_cases hlt : k < l.length
    · obtain ⟨b, off, rfl, _, hcell⟩ := HS.out.int hlt
      have hy := HOK.out k hlt
      generalize l[k] = y at hcell hy
      have t1 : decide (y < 0) = false := decide_eq_false (by omega)
      have t2 : decide (15 < y) = false := decide_eq_false (by omega)
      have k0 : (0 : Int) ≤ (k : Int) := Int.natCast_nonneg _
      have k1 : (k : Int) < (l.length : Int) := by omega
      clear hy
      go_wp2_with fail
      go_roundw
      case rel => exact ⟨trivial, k + 1, by omega, by go_num⟩
      case measure => simp [intOf]; omega
    · clear hk
      have tk : decide ((k : Int) < (l.length : Int)) = false := decide_eq_false (by omega)
      have tk2 : decide (k < l.length) = false := decide_eq_false hlt
      obtain ⟨target, htg⟩ : ∃ target, Rn.pack l = target := ⟨_, rfl⟩
      have HTG := Lib.hid htg
      clear htg
      go_wp2_with fail
      go_loopw [6, 7] (fun lv iv wr => ∃ (q : List Rn.RunV) (k : Nat), k ≤ l.length ∧ iv = .int .i64 k ∧ wr.ownsRow w.heap.size 32 2 lv q.length (runsV q) ∧ q ++ Rn.pack (l.drop k) = target ∧ q.length ≤ k ∧ Below w.heap.size w wr) (fun _ iv _ => l.length - (intOf iv).toNat)
      case atStart => exact ⟨[], 0, by omega, rfl, World.ownsRow_nil _ _ _ _, by simpa using HTG.out, by simp, Below.refl _ _⟩
      case round =>
        obtain ⟨q, k, hk, rfl, hown, hq, hqk, hbr⟩ := hrel
        obtain ⟨A2, c2, rfl⟩ := own_form hown
        obtain ⟨wo, hwo⟩ : ∃ W, W = wr := ⟨_, rfl⟩
        subst hwo
        have HO := Lib.hid hown
        have HQ := Lib.hid hq
        have HB := Lib.hid hbr
        have hbs := hbr.size
        clear hown hq hbr
        by_cases hlt2 : k < l.length
        · obtain ⟨b, off, rfl, hbB, hcell⟩ := (HS.out.below HB.out hB).int hlt2
          have hy := HOK.out k hlt2
          have hlk : l[k]? = some l[k] := List.getElem?_eq_getElem hlt2
          generalize l[k] = y at hcell hy hlk
          have HLK1 := Lib.hid (show ∀ i, i < 1 → l[k + i]? = some y from fun i hi => by
            obtain rfl : i = 0 := by omega
            exact hlk)
          have k0 : (0 : Int) ≤ (k : Int) := Int.natCast_nonneg _
          have k1 : (k : Int) < (l.length : Int) := by omega
          clear hlk
          go_wp2_with fail
          go_loopw [8] (fun sv wr => ∃ (s n : Nat), 1 ≤ s ∧ k + s ≤ l.length ∧ sv = .int .i64 s ∧ (∀ i, i < s → l[k + i]? = some y) ∧ wr = wo.drewN n) (fun sv _ => l.length - (intOf sv).toNat)
          case atStart => exact ⟨1, 0, by omega, by omega, rfl, HLK1.out, rfl⟩
          case round =>
            obtain ⟨s, n, hs1, hs2, rfl, hsame, rfl⟩ := hrel
            have HSM := Lib.hid hsame
            clear hsame
            obtain ⟨ks, hks⟩ : ∃ ks, ks = k + s := ⟨_, rfl⟩
            have v1 : IntKind.i64.wrap ((k : Int) + (s : Int)) = (ks : Int) := by rw [IntWalk.i64_in _ (by omega)]; omega
            have v2 : (k : Int) + (s : Int) = (ks : Int) := by omega
            have v3 : IntKind.i64.wrap (ks : Int) = (ks : Int) := IntWalk.i64_in _ (by omega)
            have hksl : ks ≤ l.length := by omega
            have hkks : k < ks := by omega
            have HKS := Lib.hid hks
            clear hks
            have g0 : (0 : Int) ≤ (ks : Int) := Int.natCast_nonneg _
            have REST := Lib.hid (show (l.drop ks).head? ≠ some y → q ++ (Rn.group y s ++ Rn.pack (l.drop ks)) = target from fun hne => by
              have h := HQ.out
              rw [drop_group HSM.out, ← HKS.out, Rn.pack_replicate y _ hne s hs1] at h
              exact h)
            have REP := fun (N : Nat) => Lib.hid (rep_loop w.heap.size y s q A2 c2 (wo.drewN N) hy.1 hy.2 (by omega) hs1 (by omega) hbs HO.out)
            by_cases hend : ks < l.length
            · have hx1 := (HS.out.below HB.out hB).int hend
              obtain ⟨b', off', heq, _, hcell2⟩ := hx1
              obtain ⟨rfl, rfl⟩ : b = b' ∧ off = off' := by simpa using heq
              clear heq
              have u1 : decide ((ks : Int) < (l.length : Int)) = true := decide_eq_true (by omega)
              have u1' : decide (ks < l.length) = true := decide_eq_true hend
              have g1 : (ks : Int) < (l.length : Int) := by omega
              have hl2 : l[ks]? = some l[ks] := List.getElem?_eq_getElem hend
              generalize l[ks] = z at hcell2 hl2
              have HL2 := Lib.hid hl2
              clear hl2
              by_cases hzy : z = y
              · subst hzy
                go_wp2_with fail
                go_quiet (fail)
                go_wp2_with fail
                go_roundw
                case rel => exact ⟨s + 1, _, by omega, by have := HKS.out; omega, by go_num, fun i hi => by
                  rcases Nat.lt_or_ge i s with h | h
                  · exact HSM.out i h
                  · obtain rfl : i = s := by omega
                    rw [← HKS.out]; exact HL2.out, rfl⟩
                case measure => simp [intOf]; omega
              · have u2 : (z == y) = false := by simpa using hzy
                have HNE := Lib.hid (show (l.drop ks).head? ≠ some y by
                  rw [List.head?_drop, HL2.out]; intro h; injection h with h; exact hzy h)
                clear hzy
                go_wp2_with fail
                go_quiet (fail)
                go_wp2_with fail
                (with_reducible refine (REP _).out.mono ?_)
                rintro e w3 ⟨A3, c3, rfl, hown3, hb3⟩
                have HO3 := Lib.hid hown3
                have HB3 := Lib.hid ((below_drewN HB.out _).trans hb3)
                clear hown3 hb3
                go_wp2_with fail
                go_roundw
                case rel => exact ⟨q ++ Rn.group y s, ks, hksl, rfl, by have h := HO3.out; rw [List.length_append] at h ⊢; exact h, by rw [List.append_assoc]; exact REST.out HNE.out, by have h1 := Rn.group_len_le y s hs1; have h2 := HKS.out; simp; omega, HB3.out⟩
                case measure => simp [intOf]; omega
            · have u1 : decide ((ks : Int) < (l.length : Int)) = false := decide_eq_false (by omega)
              have u1' : decide (ks < l.length) = false := decide_eq_false hend
              have HNE := Lib.hid (show (l.drop ks).head? ≠ some y by
                rw [List.drop_of_length_le (by omega)]; simp)
              go_wp2_with fail
              go_quiet (fail)
              go_wp2_with fail
              (with_reducible refine (REP _).out.mono ?_)
              rintro e w3 ⟨A3, c3, rfl, hown3, hb3⟩
              have HO3 := Lib.hid hown3
              have HB3 := Lib.hid ((below_drewN HB.out _).trans hb3)
              clear hown3 hb3
              go_wp2_with fail
              go_roundw
              case rel => exact ⟨q ++ Rn.group y s, ks, hksl, rfl, by have h := HO3.out; rw [List.length_append] at h ⊢; exact h, by rw [List.append_assoc]; exact REST.out HNE.out, by have h1 := Rn.group_len_le y s hs1; have h2 := HKS.out; simp; omega, HB3.out⟩
              case measure => simp [intOf]; omega
        · obtain rfl : k = l.length := by omega
          have HT := Lib.hid (show q = target by have h := HQ.out; rw [List.drop_length] at h; simpa [Rn.pack, Rn.grp] using h)
          go_wp2_with fail
          go_ret2
          exact ⟨A2, c2, by rw [HTG.out, ← HT.out]; rfl, by rw [HTG.out, ← HT.out]; exact HO.out, HB.out⟩
end Go.Proofs.Ytgnghlcdbilgjaa
