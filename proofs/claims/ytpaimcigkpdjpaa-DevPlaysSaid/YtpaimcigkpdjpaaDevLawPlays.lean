/-
  The law DevPlays returns true: walk.
-/
import Derived.Test.YtpaimcigkpdjpaaDevDo0
import Derived.Test.YtpaimcigkpdjpaaDevDo1
import Derived.Test.YtpaimcigkpdjpaaDevDo3
import Derived.Test.YtpaimcigkpdjpaaDevDo4
import Derived.Test.YtpaimcigkpdjpaaDevDo5
import Derived.Test.YtpaimcigkpdjpaaDevDo6
import Derived.Test.YtpaimcigkpdjpaaDevDo7
import Derived.Test.YtpaimcigkpdjpaaDevDo8
import Derived.Test.YtpaimcigkpdjpaaDevDo9
import Derived.Test.YtpaimcigkpdjpaaDevDoA
import Derived.Test.YtpaimcigkpdjpaaDevLawKeeps
namespace Go.Proofs.Ytpaimcigkpdjpaa
open Go.RowKit

theorem ddo_any (p g : Nat) (all : List UInt8) (r s : Nat) (A : Option Addr) (c : Nat) (o : DOp) (B : Nat) (w : World) (hp : DPair w p g A c all r s) (hal : all.length ≤ 2000) (hr : r ≤ 1000000) (hs : s ≤ 1000000) (hf : o.few) (hB : B ≤ p) (hBg : B ≤ g) (hsd : Sl w B o.a (bytesV o.data)) :
    Calls Try.prog 22 #[.pointer (some ⟨p, 0, none⟩), .slice A all.length c, .agg (dopC o.kind o.x o.y o.n o.a o.data.length o.cap)] w (DDoPost p g r s w) := by
  obtain ⟨kind, x, y, n, aa, data, cc⟩ := o
  obtain ⟨hd, l2⟩ := hf
  simp only [] at hd l2 hsd ⊢
  by_cases k0 : kind = 0
  · subst k0
    by_cases h : 0 ≤ (data.length : Int) ∧ 0 ≤ x ∧ x ≤ all.length ∧ (data.length : Int) ≤ all.length - x
    · obtain ⟨a, rfl⟩ := Int.eq_ofNat_of_zero_le h.2.1
      exact ddo_0yes p g all r s A c _ y n aa data cc B w hp hal hr hs hd hB hBg hsd a rfl (by omega)
    · exact ddo_0no p g all r s A c x y n aa data cc B w hp hal hr hs hd hB hBg hsd h
  by_cases k1 : kind = 1
  · subst k1
    by_cases h : 0 ≤ n ∧ 0 ≤ x ∧ x ≤ all.length ∧ n ≤ all.length - x
    · obtain ⟨a, rfl⟩ := Int.eq_ofNat_of_zero_le h.2.1
      obtain ⟨m, rfl⟩ := Int.eq_ofNat_of_zero_le h.1
      exact ddo_1yes p g all r s A c _ y _ aa data cc B w hp hal hr hs hd hB hBg hsd a m rfl rfl (by omega)
    · exact ddo_1no p g all r s A c x y n aa data cc B w hp hal hr hs hd hB hBg hsd h
  by_cases k2 : kind = 2
  · subst k2
    by_cases h : 0 ≤ n ∧ 0 ≤ x ∧ x ≤ all.length ∧ n ≤ all.length - x
    · obtain ⟨a, rfl⟩ := Int.eq_ofNat_of_zero_le h.2.1
      obtain ⟨m, rfl⟩ := Int.eq_ofNat_of_zero_le h.1
      by_cases h2 : 0 ≤ (m : Int) ∧ 0 ≤ y ∧ y ≤ all.length ∧ (m : Int) ≤ all.length - y
      · obtain ⟨b, rfl⟩ := Int.eq_ofNat_of_zero_le h2.2.1
        exact ddo_2yes p g all r s A c _ _ _ aa data cc B w hp hal hr hs hd hB hBg hsd a b m rfl rfl rfl (by omega) (by omega)
      · exact ddo_2noB p g all r s A c _ y _ aa data cc B w hp hal hr hs hd hB hBg hsd a m rfl rfl (by omega) h2
    · exact ddo_2noA p g all r s A c x y n aa data cc B w hp hal hr hs hd hB hBg hsd h
  by_cases k3 : kind = 3
  · subst k3
    by_cases h : 0 ≤ n ∧ 0 ≤ x ∧ x ≤ all.length ∧ n ≤ all.length - x
    · obtain ⟨a, rfl⟩ := Int.eq_ofNat_of_zero_le h.2.1
      obtain ⟨m, rfl⟩ := Int.eq_ofNat_of_zero_le h.1
      exact ddo_3yes p g all r s A c _ y _ aa data cc B w hp hal hr hs hd hB hBg hsd a m rfl rfl (by omega)
    · exact ddo_3no p g all r s A c x y n aa data cc B w hp hal hr hs hd hB hBg hsd h
  by_cases k4 : kind = 4
  · subst k4
    by_cases h : 0 ≤ x ∧ x ≤ 16777216
    · obtain ⟨a, rfl⟩ := Int.eq_ofNat_of_zero_le h.1
      have := l2 rfl
      exact ddo_4yes p g all r s A c _ y n aa data cc B w hp hal hr hs hd hB hBg hsd a rfl (by omega)
    · exact ddo_4no p g all r s A c x y n aa data cc B w hp hal hr hs hd hB hBg hsd h
  exact ddo_5 p g all r s A c kind x y n aa data cc B w hp hal hr hs hd hB hBg hsd k0 k1 k2 k3 k4

/-- the state between two rounds -/
def DRel (w : World) (p : Nat) (j : Nat) (av : Value) (wr : World) : Prop :=
  ∃ (g : Nat) (A : Option Addr) (c : Nat) (al : List UInt8) (r s : Nat), av = .slice A al.length c ∧ DPair wr p g A c al r s ∧ al.length ≤ 2000 ∧ r ≤ 4000 * j ∧ s ≤ 2000 * j ∧ w.heap.size ≤ g ∧ Below w.heap.size w wr

set_option maxRecDepth 100000 in
set_option maxHeartbeats 2000000 in
theorem devPlays_walk (size : Int) (a : Option Addr) (l : List DOp) (cap : Nat) (w : World) (_h1 : -9223372036854775808 ≤ size) (_h2 : size ≤ 9223372036854775807) (hl : l.length ≤ maxLen) (_hlc : l.length ≤ cap) (hok : ∀ o ∈ l, o.ok w) (hsl : Sl w w.heap.size a (l.flatMap DOp.cells)) :
    Calls Try.prog 6 #[.int .i64 size, .slice a l.length cap] w fun e w' => e = .returned (.bool true) ∧ Below w.heap.size w w' := by
  unfold maxLen at hl
  have HS := Lib.hid hsl
  have HOK := Lib.hid hok
  clear hsl hok
  have FW := Lib.hid (fun w1 (hb1 : Below w.heap.size w w1) => few_any l a cap w.heap.size w1 (HS.out.below hb1 (Nat.le_refl _)))
  by_cases hin : 0 ≤ size ∧ size ≤ 16777216
  case neg =>
    have NN := Lib.hid (fun W => devNew_no size W hin)
    by_cases h0 : size < 0
    · have t1 : decide ((2000 : Int) < size) = false := decide_eq_false (by omega)
      have t2 : decide (size < (0 : Int)) = true := decide_eq_true (by omega)
      clear hin
      go_enter Try.func6, Try.ntmps6
      go_wp2_with fail
      (with_reducible refine (awake3_any w).mono ?_)
      rintro e w1 ⟨rfl, hb1⟩
      have HB1 := Lib.hid hb1
      clear hb1
      go_wp2_with fail
      (with_reducible refine (FW.out w1 HB1.out).mono ?_)
      rintro e w2 ⟨b, rfl, hb, rfl⟩
      cases b with
      | false =>
        clear hb
        go_wp2_with fail
        go_ret
        exact ⟨rfl, HB1.out⟩
      | true =>
        clear hb
        go_wp2_with fail
        (with_reducible refine (NN.out _).mono ?_)
        rintro e w3 ⟨rfl, rfl⟩
        go_wp2_with fail
        go_ret
        exact ⟨rfl, HB1.out⟩
    · have t1 : decide ((2000 : Int) < size) = true := decide_eq_true (by omega)
      have t2 : decide (size < (0 : Int)) = false := decide_eq_false (by omega)
      have t3 : decide (size ≤ (16777216 : Int)) = false := decide_eq_false (by omega)
      have t4 : decide ((16777216 : Int) < size) = true := decide_eq_true (by omega)
      clear hin
      go_enter Try.func6, Try.ntmps6
      go_wp2_with fail
      (with_reducible refine (awake3_any w).mono ?_)
      rintro e w1 ⟨rfl, hb1⟩
      have HB1 := Lib.hid hb1
      clear hb1
      go_wp2_with fail
      (with_reducible refine (FW.out w1 HB1.out).mono ?_)
      rintro e w2 ⟨b, rfl, hb, rfl⟩
      cases b with
      | false =>
        clear hb
        go_wp2_with fail
        go_ret
        exact ⟨rfl, HB1.out⟩
      | true =>
        clear hb
        go_wp2_with fail
        (with_reducible refine (NN.out _).mono ?_)
        rintro e w3 ⟨rfl, rfl⟩
        go_wp2_with fail
        go_ret
        exact ⟨rfl, HB1.out⟩
  obtain ⟨z, rfl⟩ := Int.eq_ofNat_of_zero_le hin.1
  have hz : z ≤ 16777216 := by omega
  clear hin
  by_cases hz2 : z ≤ 2000
  case neg =>
    have t1 : decide ((2000 : Int) < (z : Int)) = true := decide_eq_true (by omega)
    have t1' : decide (2000 < z) = true := decide_eq_true (by omega)
    have t3 : decide ((z : Int) ≤ (16777216 : Int)) = true := decide_eq_true (by omega)
    have t3' : decide (z ≤ 16777216) = true := decide_eq_true (by omega)
    go_enter Try.func6, Try.ntmps6
    go_wp2_with fail
    (with_reducible refine (awake3_any w).mono ?_)
    rintro e w1 ⟨rfl, hb1⟩
    have HB1 := Lib.hid hb1
    clear hb1
    go_wp2_with fail
    (with_reducible refine (FW.out w1 HB1.out).mono ?_)
    rintro e w2 ⟨b, rfl, hb, rfl⟩
    cases b <;> (clear hb; go_wp2_with fail; go_ret; exact ⟨rfl, HB1.out⟩)
  have t1 : decide ((2000 : Int) < (z : Int)) = false := decide_eq_false (by omega)
  have t1' : decide (2000 < z) = false := decide_eq_false (by omega)
  have t2 : decide ((z : Int) < (0 : Int)) = false := decide_eq_false (by omega)
  have t4 : decide ((16777216 : Int) < (z : Int)) = false := decide_eq_false (by omega)
  have t4' : decide (16777216 < z) = false := decide_eq_false (by omega)
  obtain ⟨i0, hi0, hz0, hz1, hz2'⟩ := info_parts byteInfoC
  have Hi0 := Lib.hid hi0
  have Hz0 := Lib.hid hz0
  have Hz1 := Lib.hid hz1
  have Hz2 := Lib.hid hz2'
  clear hi0 hz0 hz1 hz2'
  go_enter Try.func6, Try.ntmps6
  go_wp2_with fail
  (with_reducible refine (awake3_any w).mono ?_)
  rintro e w1 ⟨rfl, hb1⟩
  have HB1 := Lib.hid hb1
  clear hb1
  go_wp2_with fail
  (with_reducible refine (FW.out w1 HB1.out).mono ?_)
  rintro e w2 ⟨b, rfl, hb, rfl⟩
  cases b with
  | false =>
    clear hb
    go_wp2_with fail
    go_ret
    exact ⟨rfl, HB1.out⟩
  | true =>
    obtain ⟨h40, hfw⟩ := hb rfl
    have HFW := Lib.hid hfw
    have hs1 := HB1.out.size
    clear hb hfw
    go_wp2_with fail
    (with_reducible refine (devNew_yes z _ hz).mono ?_)
    rintro e w3 ⟨p, g, rfl, hd3, hp3, hg3, hb3⟩
    have HD3 := Lib.hid hd3
    have HB3 := Lib.hid (HB1.out.trans (hb3.mono hs1))
    have hpp : w.heap.size ≤ p := by omega
    have hgg : w.heap.size ≤ g := by omega
    have hpl := hd3.cells.lt
    have hgl := hd3.bytes.lt
    clear hd3 hb3 hp3 hg3
    go_wp2_with (at_make; refine wpList_make_full _ rfl _ _ _ rfl w3.heap.size 5 i0 _ 1 Try.underlying22 Hi0.out Hz0.out Hz1.out .i64 .i64 _ _ z rfl rfl rfl rfl (by rw [Hz2.out]; omega) (by unfold maxLen; omega) (Nat.le_refl _) ?_; intro w4 hown4 hgrow4; rw [Win.made, half_noughts] at hown4; have HO4 := Lib.hid hown4; have HF4 := Lib.hid (show Fr (fun _ => False) w3 w4 from ⟨hgrow4.os, hgrow4.tape, hgrow4.output, hgrow4.size, fun k hk _ => hgrow4.block k hk (by simp)⟩); clear hown4 hgrow4)
    have HREL := Lib.hid (show DRel w p 0 (.slice (some ⟨w3.heap.size, 0, none⟩) z z) w4 from ⟨g, _, _, noughts z, 0, 0, by rw [len_noughts], DPair.of_own (HD3.out.fr HF4.out id id) (by rw [len_noughts]; exact HO4.out) hpl hgl, by rw [len_noughts]; exact hz2, by omega, by omega, hgg, HB3.out.trans (HF4.out.below HB3.out.size (fun _ _ => id))⟩)
    clear HO4 HF4 HD3 HB3 Hi0 Hz0 Hz1 Hz2 hgl
    go_wp2_with fail
    go_loopw [7, 8] (fun av i wr => ∃ (j : Nat), j ≤ l.length ∧ i = .int .i64 j ∧ DRel w p j av wr) (fun _ i _ => l.length - (intOf i).toNat)
    case atStart => exact ⟨0, Nat.zero_le _, rfl, HREL.out⟩
    case round =>
      obtain ⟨j, hj, rfl, hrel⟩ := hrel
      obtain ⟨g, A, c, al, r, s, rfl, hpr, hal, hr, hs, hgg, hbr⟩ := hrel
      have HPR := Lib.hid hpr
      have HBR := Lib.hid hbr
      have hsr := hbr.size
      by_cases hlt : j < l.length
      · have hx := List.getElem?_eq_getElem hlt
        obtain ⟨b1, off, rfl, hbB, q0, q1, q2, q3, q4⟩ := dops_at (HS.out.below hbr (Nat.le_refl _)) hx
        have ho := HOK.out _ (List.getElem_mem hlt)
        have hol := HFW.out _ (List.getElem_mem hlt)
        have DO := Lib.hid (ddo_any p g al r s A c l[j] w.heap.size wr hpr hal (by omega) (by omega) hol hpp hgg (ho.sl.below hbr (Nat.le_refl _)))
        generalize l[j] = t at q0 q1 q2 q3 q4 DO
        obtain ⟨kind, x, y, n, aa, data, cc⟩ := t
        simp only [dopC] at q0 q1 q2 q3 q4 DO
        clear hx ho hol hpr hbr
        have k0 : (0 : Int) ≤ (j : Int) := Int.natCast_nonneg _
        have k1 : (j : Int) < (l.length : Int) := by omega
        go_wp2_with fail
        refine DO.out.mono ?_
        rintro e w5 ⟨g5, A5, c5, al5, r5, s5, rfl, hp5, hl5, hr5, hs5, hg5, hf5⟩
        have HP5 := Lib.hid hp5
        have hgg5 : w.heap.size ≤ g5 := by omega
        have HB5 := Lib.hid (HBR.out.trans (hf5.below (B := w.heap.size) hsr (fun k hk hh => by omega)))
        have hs5' := HB5.out.size
        have CP := fun W (hd : DevS W p g5 al5 r5 s5) => Lib.hid (devCap_any p g5 al5 r5 s5 W hd)
        have AL := fun W (hd : DevS W p g5 al5 r5 s5) => Lib.hid (devAll_any p g5 al5 r5 s5 W hd (by omega) (by omega))
        have HSL := Lib.hid (fun W (hf : Fr (fun k => k = p) w5.drew W) => run_str (P := Try.prog) W w5.heap.size 22 9 5 A5 al5 c5 Try.underlying22 Try.underlying5 Try.underlying9 (HP5.out.sl.drew.frNe hf (Nat.le_refl _) (fun x hx h => HP5.out.np x hx (.inl h))))
        have r0 := HSL.out w5.drew (Fr.refl _ _)
        generalize strOf al5 = s1 at AL r0 HSL
        have hrr : r5 + al5.length ≤ 4000 * (j + 1) := by omega
        have hss : s5 ≤ 2000 * (j + 1) := by omega
        clear hp5 hf5 DO hr hs hr5 hs5 hg5 hgg q0 q1 q2 q3 q4
        go_wp2_with fail
        go_region_law ((go_simp; first
          | ((go_at_call 23; (with_reducible refine (CP _ ⟨HP5.out.dev.cells.drew, HP5.out.dev.bytes.drew, HP5.out.dev.ne⟩).out.mono ?_); rintro e w6 ⟨rfl, rfl⟩))
          | ((go_at_call 19; (with_reducible refine (AL _ ⟨HP5.out.dev.cells.drew, HP5.out.dev.bytes.drew, HP5.out.dev.ne⟩).out.mono ?_); rintro e w6 ⟨rfl, hd6, hf6⟩; have r6 := HSL.out _ hf6; have HD6 := Lib.hid hd6; have HF6 := Lib.hid (show Fr (fun k => k = p) w5 w6 from ⟨hf6.os, hf6.tape, hf6.output, hf6.size, hf6.block⟩); clear hd6 hf6))))
        all_goals
          go_wp2_with fail
          go_roundw
          case rel => exact ⟨j + 1, by omega, by go_num, g5, A5, c5, al5, _, s5, rfl, ⟨HD6.out, (HP5.out.sl.frNe HF6.out (Nat.le_refl _) (fun x hx h => HP5.out.np x hx (.inl h))).more HF6.out.size, HP5.out.np, HP5.out.cap⟩, hl5, hrr, hss, hgg5, HB5.out.trans (HF6.out.below (B := w.heap.size) hs5' (fun k hk hh => by omega))⟩
          case measure => simp [intOf]; omega
      · obtain rfl : j = l.length := by omega
        clear hpr hbr
        go_wp2_with fail
        go_ret
        exact ⟨rfl, HBR.out⟩
end Go.Proofs.Ytpaimcigkpdjpaa
