/-
  inflate: stored blocks come out, as far as they may.
-/
import Derived.Test.YtdmmlpioaiammaaDoorInfAwake
namespace Go.Proofs.YtdmmlpioaiammaaDoor
open Go.RowKit

theorem drop_more {buf x y : List UInt8} {k : Nat} (h : buf.drop k = x ++ y) : buf.drop (k + x.length) = y := by
  rw [← List.drop_drop, h, List.drop_left]
def StI (B pm pr pw : Nat) (buf total : List UInt8) (lim : Nat) (n : Nat) (s : Int) (W : World) : Prop :=
  ∃ Q o v m all k rest, MS W B Q pm pr pw buf (8 * k) 0 o all v m ∧ m.fault = 0 ∧ m.stage = s ∧ m.lim = lim ∧ all.length ≤ lim ∧ k ≤ buf.length ∧ (∀ p ∈ rest, p.length ≤ 300) ∧
    ((s = 0 ∧ rest ≠ [] ∧ buf.drop k = enc rest ∧ total = all ++ rest.flatten ∧ n = 2 * (buf.length - k)) ∨
     (s = 1 ∧ ∃ p, p.length ≤ 300 ∧ buf.drop k = sizes p.length ++ (p ++ enc rest) ∧ m.fin = rest.isEmpty ∧ total = all ++ (p ++ rest.flatten) ∧ n = 2 * (buf.length - k)) ∨
     (s = 2 ∧ ∃ p, p.length ≤ 300 ∧ m.lft = p.length ∧ buf.drop k = p ++ enc rest ∧ m.fin = rest.isEmpty ∧ total = all ++ (p ++ rest.flatten) ∧ n = 2 * (buf.length - k) + 1) ∨
     (s = 11 ∧ n = 0 ∧ k = buf.length ∧ total = all))
def StF (B pm pr pw : Nat) (total : List UInt8) (lim : Nat) (W : World) : Prop :=
  ∃ Q buf pos o v m all, MS W B Q pm pr pw buf pos 0 o all v m ∧ m.fault = 28 ∧ lim < total.length
theorem enc_cons (p : List UInt8) (t : List (List UInt8)) : enc (p :: t) = (if t.isEmpty then 1 else 0) :: (sizes p.length ++ (p ++ enc t)) := by
  rw [enc]
  cases t <;> simp
theorem len_sizes (n : Nat) : (sizes n).length = 4 := rfl
theorem st_cells {B pm pr pw : Nat} {buf total : List UInt8} {lim n : Nat} {s : Int} {W : World} (h : StI B pm pr pw buf total lim n s W) : W.cell? ⟨pm, 5, none⟩ = some (.int .i64 s) ∧ W.cell? ⟨pm, 4, none⟩ = some (.int .i64 0) := by
  obtain ⟨Q, o, v, m, all, k, rest, hm, hfl, hst, _⟩ := h
  have d5 := hm.mach.cell 5
  have d4 := hm.mach.cell 4
  simp [machC, hst, hfl] at d5 d4
  exact ⟨d5, d4⟩
def StepsOn (B pm pr pw : Nat) (buf total : List UInt8) (lim n : Nat) (W : World) (e : Ending) (W' : World) : Prop :=
  Below B W W' ∧ ((e = .returned (.bool true) ∧ ∃ n' s', n' < n ∧ StI B pm pr pw buf total lim n' s' W') ∨ (e = .returned (.bool false) ∧ StF B pm pr pw total lim W'))
theorem st_step0 {B pm pr pw : Nat} {buf total : List UInt8} {lim n : Nat} {W : World} (hb : buf.length ≤ 1000000) (h : StI B pm pr pw buf total lim n 0 W) :
    Calls Tryd.prog 14 #[.pointer (some ⟨pm, 0, none⟩)] W (StepsOn B pm pr pw buf total lim n W) := by
  have d5 := (st_cells h).1
  obtain ⟨Q, o, v, m, all, k, rest, hm, hfl, hst, hlm, hal, hk, hr, h⟩ := h
  rcases h with ⟨_, hne, hd, ht, hn⟩ | ⟨h, _⟩ | ⟨h, _⟩ | ⟨h, _⟩
  case inl =>
    obtain ⟨p, t, rfl⟩ : ∃ p t, rest = p :: t := by cases rest with
      | nil => exact absurd rfl hne
      | cons p t => exact ⟨p, t, rfl⟩
    rw [enc_cons] at hd
    have hk1 : k < buf.length := by
      have := congrArg List.length hd
      rw [List.length_drop] at this
      simp at this
      omega
    have hd1 : buf.drop (k + 1) = sizes p.length ++ (p ++ enc t) := drop_more (x := [_]) hd
    refine (step0 pm true (fun W' => Below B W W' ∧ ∃ n' s', n' < n ∧ StI B pm pr pw buf total lim n' s' W') W d5 ((block_stored B Q pm pr pw buf k 0 o all v m t.isEmpty _ W hm hb hd).mono ?_)).mono ?_
    · rintro e W' ⟨rfl, ⟨v', hm'⟩, hb'⟩
      exact ⟨rfl, hb', 2 * (buf.length - (k + 1)), 1, by omega, Q, o, v', _, all, k + 1, t, hm', hfl, rfl, hlm, hal, by omega, fun q hq => hr q (by simp [hq]), .inr (.inl ⟨rfl, p, hr p (by simp), hd1, rfl, by rw [ht]; simp, rfl⟩)⟩
    · rintro e W' ⟨rfl, hb', hi⟩
      exact ⟨hb', .inl ⟨rfl, hi⟩⟩
  all_goals exact absurd h (by decide)
theorem st_step1 {B pm pr pw : Nat} {buf total : List UInt8} {lim n : Nat} {W : World} (hb : buf.length ≤ 1000000) (h : StI B pm pr pw buf total lim n 1 W) :
    Calls Tryd.prog 14 #[.pointer (some ⟨pm, 0, none⟩)] W (StepsOn B pm pr pw buf total lim n W) := by
  have d5 := (st_cells h).1
  obtain ⟨Q, o, v, m, all, k, rest, hm, hfl, hst, hlm, hal, hk, hr, h⟩ := h
  rcases h with ⟨h, _⟩ | ⟨_, p, hp, hd, hfin, ht, hn⟩ | ⟨h, _⟩ | ⟨h, _⟩
  case inr.inl =>
    have hk1 : k + 4 ≤ buf.length := by
      have := congrArg List.length hd
      rw [List.length_drop, List.length_append, len_sizes] at this
      omega
    have hd1 : buf.drop (k + 4) = p ++ enc rest := drop_more hd
    refine (step1 pm true (fun W' => Below B W W' ∧ ∃ n' s', n' < n ∧ StI B pm pr pw buf total lim n' s' W') W d5 ((storedSize_any B Q pm pr pw buf k 0 o all v m p.length _ W hm hb hp hd).mono ?_)).mono ?_
    · rintro e W' ⟨rfl, ⟨v', hm'⟩, hb'⟩
      exact ⟨rfl, hb', 2 * (buf.length - (k + 4)) + 1, 2, by omega, Q, o, v', _, all, k + 4, rest, hm', hfl, rfl, hlm, hal, hk1, hr, .inr (.inr (.inl ⟨rfl, p, hp, rfl, hd1, hfin, ht, rfl⟩))⟩
    · rintro e W' ⟨rfl, hb', hi⟩
      exact ⟨hb', .inl ⟨rfl, hi⟩⟩
  all_goals exact absurd h (by decide)
theorem st_step2 {B pm pr pw : Nat} {buf total : List UInt8} {lim n : Nat} {W : World} (hb : buf.length ≤ 1000000) (hlim : lim ≤ 1000000) (h : StI B pm pr pw buf total lim n 2 W) :
    Calls Tryd.prog 14 #[.pointer (some ⟨pm, 0, none⟩)] W (StepsOn B pm pr pw buf total lim n W) := by
  have d5 := (st_cells h).1
  obtain ⟨Q, o, v, m, all, k, rest, hm, hfl, hst, hlm, hal, hk, hr, h⟩ := h
  rcases h with ⟨h, _⟩ | ⟨h, _⟩ | ⟨_, p, hp, hlf, hd, hfin, ht, hn⟩ | ⟨h, _⟩
  case inr.inr.inl =>
    have hk1 : k + p.length ≤ buf.length := by
      have := congrArg List.length hd
      rw [List.length_drop, List.length_append] at this
      omega
    by_cases hp0 : p = []
    · subst hp0
      simp at hd hlf ht
      cases rest with
      | nil =>
        have hke : k = buf.length := by
          have := congrArg List.length hd
          rw [List.length_drop] at this
          simp [enc] at this
          omega
        refine (step2 pm true (fun W' => Below B W W' ∧ ∃ n' s', n' < n ∧ StI B pm pr pw buf total lim n' s' W') W d5 ((storedBytes_end B Q pm pr pw buf k 0 o all v m 11 _ W hm hlf (endBlock_last B Q pm pr pw buf _ 0 o all v m W hm (by simpa using hfin) hb)).mono ?_)).mono ?_
        · rintro e W' ⟨rfl, ⟨v', hm'⟩, hb'⟩
          rw [show 8 * ((8 * k + 7) / 8) = 8 * k by omega] at hm'
          exact ⟨rfl, hb', 0, 11, by omega, Q, o, v', _, all, k, [], hm', hfl, rfl, hlm, hal, hk, hr, .inr (.inr (.inr ⟨rfl, rfl, hke, by simpa using ht⟩))⟩
        · rintro e W' ⟨rfl, hb', hi⟩
          exact ⟨hb', .inl ⟨rfl, hi⟩⟩
      | cons q t =>
        refine (step2 pm true (fun W' => Below B W W' ∧ ∃ n' s', n' < n ∧ StI B pm pr pw buf total lim n' s' W') W d5 ((storedBytes_end B Q pm pr pw buf k 0 o all v m 0 _ W hm hlf (endBlock_more B Q pm pr pw buf _ 0 o all v m W hm (by simpa using hfin))).mono ?_)).mono ?_
        · rintro e W' ⟨rfl, ⟨v', hm'⟩, hb'⟩
          exact ⟨rfl, hb', 2 * (buf.length - k), 0, by omega, Q, o, v', _, all, k, q :: t, hm', hfl, rfl, hlm, hal, hk, hr, .inl ⟨rfl, by simp, hd, by simpa using ht, rfl⟩⟩
        · rintro e W' ⟨rfl, hb', hi⟩
          exact ⟨hb', .inl ⟨rfl, hi⟩⟩
    · have hpl := List.length_pos_iff.2 hp0
      by_cases hroom : m.lim = all.length
      · have hlt : lim < total.length := by rw [ht, List.length_append, List.length_append]; omega
        refine (step2 pm false (fun W' => Below B W W' ∧ StF B pm pr pw total lim W') W d5 ((storedBytes_full B Q pm pr pw buf k 0 o all v m W hm hb (by omega) (by omega) hroom (by omega)).mono ?_)).mono ?_
        · rintro e W' ⟨rfl, ⟨v', hm'⟩, hb'⟩
          exact ⟨rfl, hb', Q, buf, _, o, v', _, all, hm', rfl, hlt⟩
        · rintro e W' ⟨rfl, hb', hi⟩
          exact ⟨hb', .inr ⟨rfl, hi⟩⟩
      · obtain ⟨j, hj⟩ : ∃ j, j = min m.lft (m.lim - all.length) := ⟨_, rfl⟩
        have hj1 : 1 ≤ j := by omega
        have hjp : j ≤ p.length := by omega
        have hpt : (p.take j).length = j := by rw [List.length_take]; omega
        have hdt : (buf.drop k).take j = p.take j := by rw [hd, List.take_append_of_le_length hjp]
        have hd1 : buf.drop (k + j) = p.drop j ++ enc rest := by
          have := drop_more (x := p.take j) (y := p.drop j ++ enc rest) (hd.trans (by rw [← List.append_assoc, List.take_append_drop]))
          rw [hpt] at this
          exact this
        refine (step2 pm true (fun W' => Below B W W' ∧ ∃ n' s', n' < n ∧ StI B pm pr pw buf total lim n' s' W') W d5 ((storedBytes_take B Q pm pr pw buf k 0 o all v m j W hm hb (by omega) hj hj1 (by omega) (by omega)).mono ?_)).mono ?_
        · rintro e W' ⟨rfl, ⟨v', hm'⟩, hb'⟩
          rw [hdt] at hm'
          exact ⟨rfl, hb', 2 * (buf.length - (k + j)) + 1, 2, by omega, Q, o, v', _, all ++ p.take j, k + j, rest, hm', hfl, hst, hlm, by rw [List.length_append, hpt]; omega, by omega, hr, .inr (.inr (.inl ⟨rfl, p.drop j, by rw [List.length_drop]; omega, by show m.lft - j = _; rw [List.length_drop]; omega, hd1, hfin, by rw [ht, List.append_assoc, ← List.append_assoc (p.take j), List.take_append_drop], rfl⟩))⟩
        · rintro e W' ⟨rfl, hb', hi⟩
          exact ⟨hb', .inl ⟨rfl, hi⟩⟩
  all_goals exact absurd h (by decide)
end Go.Proofs.YtdmmlpioaiammaaDoor
