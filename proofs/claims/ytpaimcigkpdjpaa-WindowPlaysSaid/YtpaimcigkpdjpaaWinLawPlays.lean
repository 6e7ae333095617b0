/-
  The law WindowPlays returns true: walk.
-/
import Derived.Test.YtpaimcigkpdjpaaWinDoK2
import Derived.Test.YtpaimcigkpdjpaaWinDoK3
import Derived.Test.YtpaimcigkpdjpaaWinDoK4
import Derived.Test.YtpaimcigkpdjpaaWinLawRepeats
namespace Go.Proofs.Ytpaimcigkpdjpaa
open Go.RowKit

theorem do_any (p : Nat) (all : List UInt8) (A : Option Addr) (c : Nat) (o : WOp) (B : Nat) (w : World) (hp : Pair w p A c all) (hal : all.length ≤ 10000000) (hli : o.light) (hle : o.data.length ≤ o.cap) (hB : B ≤ p) (hs : Sl w B o.a (bytesV o.data)) :
    Calls Try.prog 13 #[.pointer (some ⟨p, 0, none⟩), .slice A all.length c, .agg (opC o.kind o.dist o.n o.a o.data.length o.cap)] w (DoPost p all w) := by
  obtain ⟨kind, dist, n, aa, data, cc⟩ := o
  obtain ⟨l1, l2, l3⟩ := hli
  simp only [] at l1 l2 l3 hle hs ⊢
  by_cases k0 : kind = 0
  · subst k0; exact do_0 p all A c dist n aa data cc B w hp hal l1 hle hB hs
  by_cases k1 : kind = 1
  · subst k1
    by_cases hn : n < 0 ∨ 1048576 < n
    · exact do_1arg p all A c dist n aa data cc B w hp hal l1 hle hB hs hn
    · have h3 := l3 rfl
      by_cases hd : dist < 1 ∨ ((min all.length 32768 : Nat) : Int) < dist
      · exact do_1dist p all A c dist n aa data cc B w hp hal l1 hle hB hs (by omega) (by omega) hd
      · obtain ⟨d, rfl⟩ := Int.eq_ofNat_of_zero_le (show 0 ≤ dist by omega)
        obtain ⟨k, rfl⟩ := Int.eq_ofNat_of_zero_le (show 0 ≤ n by omega)
        exact do_1yes p all A c d k aa data cc B w hp hal l1 hle hB hs d k rfl rfl (by omega) (by omega) (by omega) (by omega)
  by_cases k2 : kind = 2
  · subst k2
    by_cases hd : dist < 1 ∨ ((min all.length 32768 : Nat) : Int) < dist
    · exact do_2no p all A c dist n aa data cc B w hp hal l1 hle hB hs hd
    · obtain ⟨d, rfl⟩ := Int.eq_ofNat_of_zero_le (show 0 ≤ dist by omega)
      exact do_2yes p all A c d n aa data cc B w hp hal l1 hle hB hs d rfl (by omega) (by omega) (by omega)
  by_cases k3 : kind = 3
  · subst k3; exact do_3 p all A c dist n aa data cc B w hp hal l1 hle hB hs
  by_cases k4 : kind = 4
  · subst k4; exact do_4 p all A c dist n aa data cc B w hp hal l1 hle hB hs (l2 rfl)
  exact do_5 p all A c kind dist n aa data cc B w hp hal l1 hle hB hs k0 k1 k2 k3 k4

set_option maxRecDepth 100000 in
set_option maxHeartbeats 2000000 in
theorem windowPlays_walk (a : Option Addr) (l : List WOp) (cap : Nat) (w : World) (hl : l.length ≤ maxLen) (_hlc : l.length ≤ cap) (hok : ∀ o ∈ l, o.ok w) (hsl : Sl w w.heap.size a (l.flatMap WOp.cells)) :
    Calls Try.prog 4 #[.slice a l.length cap] w fun e w' => e = .returned (.bool true) ∧ Below w.heap.size w w' := by
  unfold maxLen at hl
  have HS := Lib.hid hsl
  have HOK := Lib.hid hok
  clear hsl hok
  go_enter Try.func4, Try.ntmps4
  go_wp2_with fail
  (with_reducible refine (awake12_any w).mono ?_)
  rintro e w1 ⟨rfl, hb1⟩
  have HB1 := Lib.hid hb1
  have hs1 := hb1.size
  have LI := Lib.hid (light_any l a cap w.heap.size w1 (HS.out.below hb1 (Nat.le_refl _)) (fun o ho => by
    have h := HOK.out o ho
    exact ⟨h.k1, h.k2, h.d1, h.d2, h.n1, h.n2, h.le, h.most, (h.sl.below hb1 (Nat.le_refl _)).more hb1.size⟩))
  clear hb1
  go_wp2_with fail
  (with_reducible refine LI.out.mono ?_)
  rintro e w2 ⟨b, rfl, hb, q, rfl⟩
  clear LI
  cases b with
  | false =>
    clear hb
    go_wp2_with fail
    go_ret
    exact ⟨rfl, below_drewN HB1.out q⟩
  | true =>
    obtain ⟨h40, hli⟩ := hb rfl
    have HLI := Lib.hid hli
    have HB2 := Lib.hid (below_drewN HB1.out q)
    clear hb hli
    go_wp2_with fail
    (with_reducible refine (winNew_any _).mono ?_)
    rintro e w3 ⟨rfl, hw3, hb3⟩
    have HW3 := Lib.hid hw3
    have HB3 := Lib.hid (HB2.out.trans (hb3.mono hs1))
    have hpp : w.heap.size ≤ (w1.drewN q).heap.size := hs1
    have hp3 := hw3.lt
    generalize (w1.drewN q).heap.size = p at HW3 hpp hp3 ⊢
    clear hw3 hb3
    go_wp2_with fail
    go_loopw [4, 5] (fun av i wr => ∃ (j : Nat) (A : Option Addr) (c : Nat) (al : List UInt8), j ≤ l.length ∧ i = .int .i64 j ∧ av = .slice A al.length c ∧ Pair wr p A c al ∧ al.length ≤ 200000 * j ∧ Below w.heap.size w wr) (fun _ i _ => l.length - (intOf i).toNat)
    case atStart => exact ⟨0, none, 0, [], Nat.zero_le _, rfl, rfl, ⟨HW3.out, .inl rfl, (fun x hx => by cases hx), Nat.le_refl _⟩, by simp, HB3.out⟩
    case round =>
      obtain ⟨j, A, c, al, hj, rfl, rfl, hpr, hall, hbr⟩ := hrel
      have HPR := Lib.hid hpr
      have HBR := Lib.hid hbr
      have hsr := hbr.size
      by_cases hlt : j < l.length
      · have hx := List.getElem?_eq_getElem hlt
        obtain ⟨b1, off, rfl, hbB, q0, q1, q2, q3⟩ := wops_at (HS.out.below hbr (Nat.le_refl _)) hx
        have ho := HOK.out _ (List.getElem_mem hlt)
        have hol := HLI.out _ (List.getElem_mem hlt)
        have DO := Lib.hid (do_any p al A c l[j] w.heap.size wr hpr (by omega) hol ho.le hpp (ho.sl.below hbr (Nat.le_refl _)))
        generalize l[j] = t at q0 q1 q2 q3 DO
        obtain ⟨kind, dist, n, aa, data, cc⟩ := t
        simp only [opC] at q0 q1 q2 q3 DO
        clear hx ho hol hpr hbr
        have k0 : (0 : Int) ≤ (j : Int) := Int.natCast_nonneg _
        have k1 : (j : Int) < (l.length : Int) := by omega
        go_wp2_with fail
        refine DO.out.mono ?_
        rintro e w4 ⟨A4, c4, al4, rfl, hp4, hl4, hf4⟩
        have LN := Lib.hid (winLen_any p al4 w4 hp4.win)
        have RL := Lib.hid (refLen_any A4 al4.length c4 w4)
        have AL := Lib.hid (winAll_any p al4 w4 hp4.win)
        have HP4 := Lib.hid hp4
        have HB4 := Lib.hid (HBR.out.trans (hf4.below (B := w.heap.size) hsr (fun k hk hh => by omega)))
        generalize min al4.length 32768 = m at LN RL
        clear hp4 hf4 DO
        go_wp2_with fail
        (with_reducible refine LN.out.mono ?_)
        rintro e w5 ⟨rfl, rfl⟩
        go_wp2_with fail
        (with_reducible refine RL.out.mono ?_)
        rintro e w5 ⟨rfl, rfl⟩
        go_wp2_with fail
        (with_reducible refine AL.out.mono ?_)
        rintro e w5 ⟨rfl, rfl⟩
        go_wp2_with fail
        go_roundw
        case rel => exact ⟨j + 1, A4, c4, al4, by omega, by go_num, rfl, HP4.out, by omega, HB4.out⟩
        case measure => simp [intOf]; omega
      · obtain rfl : j = l.length := by omega
        clear hpr hbr
        go_wp2_with fail
        go_ret
        exact ⟨rfl, HBR.out⟩
end Go.Proofs.Ytpaimcigkpdjpaa
