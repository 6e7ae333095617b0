/-
  window.Window's Back and Last; the reference's Len and Copy.
-/
import Derived.Test.YtpaimcigkpdjpaaWinCopy
import Derived.Test.YtpaimcigkpdjpaaAppend
namespace Go.Proofs.Ytpaimcigkpdjpaa
open Go.RowKit

theorem winBack_no (p : Nat) (all : List UInt8) (d : Int) (w : World) (hw : WinS w p all) (hd : d < 1 ∨ ((min all.length 32768 : Nat) : Int) < d) :
    Calls Try.prog 27 #[.pointer (some ⟨p, 0, none⟩), .int .i64 d] w fun e w' => e = .returned (.tuple #[.int .u8 0, .bool false]) ∧ w = w' := by
  by_cases h : d < 1
  · have t3 : decide (d < 1) = true := decide_eq_true h
    clear hd
    go_enter Try.func27, Try.ntmps27
    go_wp2_with fail
    go_ret2
    exact ⟨rfl, rfl⟩
  · have t3 : decide (d < 1) = false := decide_eq_false h
    have LN := Lib.hid (winLen_any p all w hw)
    generalize (min all.length 32768 : Nat) = m at hd LN
    have t4 : decide ((m : Int) < d) = true := decide_eq_true (by omega)
    clear hd hw
    go_enter Try.func27, Try.ntmps27
    go_wp2_with fail
    (with_reducible refine LN.out.mono ?_)
    rintro e w1 ⟨rfl, rfl⟩
    go_wp2_with fail
    go_ret2
    exact ⟨rfl, rfl⟩
theorem winBack_yes (p : Nat) (all : List UInt8) (d : Nat) (w : World) (hw : WinS w p all) (hn : all.length ≤ 1000000000) (hd : 1 ≤ d) (hd2 : d ≤ all.length) (hd3 : d ≤ 32768) :
    Calls Try.prog 27 #[.pointer (some ⟨p, 0, none⟩), .int .i64 (d : Int)] w fun e w' => e = .returned (.tuple #[.int .u8 ((all.getD (all.length - d) 0).toNat : Int), .bool true]) ∧ ∃ n, w' = w.drewN n := by
  have t3 : decide ((d : Int) < 1) = false := decide_eq_false (by omega)
  have LN := Lib.hid (winLen_any p all w hw)
  have BK := Lib.hid (win_back p all d w hw hn hd hd2 hd3)
  have hdm : d ≤ min all.length 32768 := by omega
  generalize (min all.length 32768 : Nat) = m at hdm LN
  have t4 : decide ((m : Int) < (d : Int)) = false := decide_eq_false (by omega)
  have t5 : decide (m < d) = false := decide_eq_false (by omega)
  generalize (all.getD (all.length - d) 0).toNat = y at BK
  clear hw hdm
  go_enter Try.func27, Try.ntmps27
  go_wp2_with fail
  (with_reducible refine LN.out.mono ?_)
  rintro e w1 ⟨rfl, rfl⟩
  go_wp2_with fail
  (with_reducible refine BK.out.mono ?_)
  rintro e w2 ⟨rfl, q, rfl⟩
  go_wp2_with fail
  go_ret2
  exact ⟨rfl, q, rfl⟩

theorem refLen_any (a : Option Addr) (n c : Nat) (w : World) : Calls Try.prog 15 #[.slice a n c] w fun e w' => e = .returned (.int .i64 ((min n 32768 : Nat) : Int)) ∧ w = w' := by
  have hm : ∀ W, (Builtin.min_ #[3, 3] 3 #[.int .i64 (n : Int), .int .i64 32768]).run Try.prog W = .ok (.int .i64 ((min n 32768 : Nat) : Int)) W := fun W => by
    have : ((min n 32768 : Nat) : Int) = if (32768 : Int) < (n : Int) then 32768 else (n : Int) := by split <;> omega
    rw [this]; simp [go_sem]
  generalize (min n 32768 : Nat) = m at hm
  go_enter Try.func15, Try.ntmps15
  go_wp2_with fail
  go_ret
  exact ⟨rfl, rfl⟩

/-- how many of n are told -/
def lastK (n : Int) (m : Nat) : Nat := (min n (m : Int)).toNat
theorem run_min2 (n : Int) (m : Nat) (W : World) : (Builtin.min_ #[3, 3] 3 #[.int .i64 n, .int .i64 (m : Int)]).run Try.prog W = .ok (.int .i64 (min n (m : Int))) W := by
  have : (min n (m : Int)) = if (m : Int) < n then (m : Int) else n := by split <;> omega
  rw [this]; simp [go_sem]
theorem run_max2 (n : Int) (m : Nat) (W : World) : (Builtin.max_ #[3, 3] 3 #[.int .i64 0, .int .i64 (min n (m : Int))]).run Try.prog W = .ok (.int .i64 (lastK n m : Int)) W := by
  have : (lastK n m : Int) = if (0 : Int) < min n (m : Int) then min n (m : Int) else 0 := by unfold lastK; split <;> omega
  rw [this]; simp [go_sem]

def WLastPost (all : List UInt8) (k : Nat) (w : World) (e : Ending) (w' : World) : Prop :=
  ∃ g, e = .returned (.slice (some ⟨g, 0, none⟩) k k) ∧ Whole w' g 5 (bytesV (all.drop (all.length - k))).toArray ∧ w.heap.size ≤ g ∧ Fr (fun _ => False) w w'
theorem last_snoc (all : List UInt8) (k j : Nat) (hk : k ≤ all.length) (hj : j < k) : (all.drop (all.length - k)).take (j + 1) = (all.drop (all.length - k)).take j ++ [all.getD (all.length - (k - j)) 0] := by
  rw [List.take_add_one, List.getElem?_drop, show all.length - k + j = all.length - (k - j) by omega, List.getD_eq_getElem?_getD, List.getElem?_eq_getElem (by omega)]
  rfl
set_option maxRecDepth 100000 in
set_option maxHeartbeats 1000000 in
theorem winLast_any (p : Nat) (all : List UInt8) (nn : Int) (w : World) (hw : WinS w p all) (hal : all.length ≤ 100000000) :
    Calls Try.prog 28 #[.pointer (some ⟨p, 0, none⟩), .int .i64 nn] w (WLastPost all (lastK nn (min all.length 32768)) w) := by
  have LN := Lib.hid (winLen_any p all w hw)
  have R1 := run_min2 nn (min all.length 32768)
  have R2 := run_max2 nn (min all.length 32768)
  have hk1 : lastK nn (min all.length 32768) ≤ min all.length 32768 := by unfold lastK; omega
  have hk2 : lastK nn (min all.length 32768) ≤ 32768 := by omega
  have hk3 : lastK nn (min all.length 32768) ≤ all.length := by omega
  clear hk1
  generalize lastK nn (min all.length 32768) = n at *
  generalize min all.length 32768 = m at LN R1 R2
  generalize min nn (m : Int) = mn at R1 R2
  have HW := Lib.hid hw
  have hpl := hw.lt
  clear hw
  obtain ⟨i0, hi0, hz0, hz1, hz2⟩ := info_parts byteInfoC
  have Hi0 := Lib.hid hi0
  have Hz0 := Lib.hid hz0
  have Hz1 := Lib.hid hz1
  have Hz2 := Lib.hid (show i0.bytes * n ≤ 281474976710656 by rw [hz2]; omega)
  clear hi0 hz0 hz1 hz2
  go_enter Try.func28, Try.ntmps28
  go_wp2_with fail
  (with_reducible refine LN.out.mono ?_)
  rintro e w1 ⟨rfl, rfl⟩
  go_wp2_with (at_make; refine wpList_make_full _ rfl _ _ _ rfl w.heap.size 5 i0 _ 1 Try.underlying22 Hi0.out Hz0.out Hz1.out .i64 .i64 _ _ n rfl rfl rfl rfl Hz2.out (by unfold maxLen; omega) (Nat.le_refl _) ?_; intro w1 hown1 hgrow1)
  have hw1 := whole_of_own hown1
  rw [Win.made] at hw1
  have HW1 := Lib.hid hw1
  have HF1 := Lib.hid ((Fr.refl (fun _ => False) w).grown hgrow1 (fun k _ hk => by cases hk))
  clear hown1 hgrow1 hw1
  go_loopw [16] (fun i wr => ∃ j : Nat, j ≤ n ∧ i = .int .i64 j ∧ Whole wr w.heap.size 5 (bytesV (Win.half ((all.drop (all.length - n)).take j) n)).toArray ∧ Fr (fun _ => False) w wr) (fun i _ => n - (intOf i).toNat)
  case atStart => exact ⟨0, Nat.zero_le _, rfl, by simpa using HW1.out, HF1.out⟩
  case round =>
    obtain ⟨j, hj, rfl, hwh, hfr⟩ := hrel
    have hwin := HW.out.fr hfr id
    have hlm : ((all.drop (all.length - n)).take j).length = j := by rw [List.length_take, List.length_drop]; omega
    by_cases hlt : j < n
    · have BK := Lib.hid (win_back p all (n - j) wr hwin (by omega) (by omega) (by omega) (by omega))
      have HSU := Lib.hid (last_snoc all n j (by omega) hlt)
      generalize all.getD (all.length - (n - j)) 0 = y at BK HSU
      have HHS := Lib.hid (Win.half_set _ n y (by rw [hlm]; exact hlt))
      have x0 := (hwh.cell _).trans (Win.half_at ((all.drop (all.length - n)).take j) n (by omega))
      have f0 := hwh.frozen j
      rw [hlm] at x0 HHS
      rw [← HSU.out] at HHS
      have HWH := Lib.hid hwh
      have HFR := Lib.hid hfr
      have hglt := hwh.lt
      clear hwh hwin hfr hlm
      have hxy := u8_bound y
      generalize hxx : (y.toNat : Int) = x at BK HHS
      clear hxx
      have u1 : IntKind.i64.wrap ((n : Int) - (j : Int)) = ((n - j : Nat) : Int) := by rw [IntWalk.i64_in _ (by omega)]; omega
      have u2 : (n : Int) - (j : Int) = ((n - j : Nat) : Int) := by omega
      generalize n - j = nj at BK u1 u2
      have k0 : (0 : Int) ≤ (j : Int) := Int.natCast_nonneg _
      have k1 : (j : Int) < (n : Int) := by omega
      go_wp2_with fail
      (with_reducible refine BK.out.mono ?_)
      rintro e w2 ⟨rfl, q, rfl⟩
      go_wp2_with fail
      go_roundw
      case rel =>
        refine ⟨j + 1, by omega, by go_num, ?_, (HFR.out.drewN q).setCell (p := ⟨w.heap.size, j, none⟩) (.inr (Nat.le_refl _)) _⟩
        rw [← HHS.out]
        exact (HWH.out.drewN q).set_ j _
      case measure => simp [intOf]; omega
    · obtain rfl : j = n := by omega
      have HH := Lib.hid (show Whole wr w.heap.size 5 (bytesV (all.drop (all.length - j))).toArray by
        have h := hwh
        unfold Win.half at h
        rw [hlm, Nat.sub_self, List.take_of_length_le (by rw [List.length_drop]; omega)] at h
        simpa using h)
      clear hwh hlm hwin
      go_wp2_with fail
      go_ret
      exact ⟨w.heap.size, rfl, HH.out, Nat.le_refl _, hfr⟩

theorem own_byte {w : World} {base : Nat} {e : TypeId} {A : Option Addr} {c : Nat} {l : List UInt8} (h : w.ownsRow base e 1 (.slice A l.length c) l.length (bytesV l)) {i : Nat} (hi : i < l.length) :
    ∃ g, A = some ⟨g, 0, none⟩ ∧ w.cell? ⟨g, i, none⟩ = some (.int .u8 ((l.getD i 0).toNat : Int)) := by
  obtain ⟨g, cap, hv, _, _⟩ := h.form (by omega)
  injection hv with hA _ _
  subst hA
  refine ⟨g, rfl, ?_⟩
  rw [h.cellAt i (by omega)]
  simp [bytesV, byteV, hi]

/-- the reference's Copy: the text then, what came -/
def RCopyPost (k : List UInt8) (d n : Nat) (w : World) (e : Ending) (w' : World) : Prop :=
  ∃ A c A2 c2, e = .returned (.tuple #[.slice A (k.length + n) c, .slice A2 n c2]) ∧ w'.ownsRow w.heap.size 5 1 (.slice A (k.length + n) c) (k.length + n) (bytesV (Win.copyN k d n)) ∧ Sl w' w'.heap.size A2 (bytesV ((Win.copyN k d n).drop k.length)) ∧ Below w.heap.size w w'

set_option maxRecDepth 100000 in
set_option maxHeartbeats 800000 in
theorem refCopy_any (k : List UInt8) (d n : Nat) (a : Option Addr) (c B : Nat) (w : World) (hk : k.length ≤ 1000000000) (hn : n ≤ 10000000) (hd1 : 1 ≤ d) (hd : d ≤ k.length) (hsl : Sl w B a (bytesV k)) (hB : B ≤ w.heap.size) :
    Calls Try.prog 26 #[.slice a k.length c, .int .i64 (d : Int), .int .i64 (n : Int)] w (RCopyPost k d n w) := by
  have HC := Lib.hid hsl
  clear hsl
  obtain ⟨i0, hi0, hz0, hz1, hz2⟩ := info_parts byteInfoC
  have HQ := Lib.hid (fun (A : Option Addr) (n cp : Nat) (hn : k.length ≤ n) => run_slice_from Try.underlying22 hi0 hz1 A n cp k.length hn)
  have Hi0 := Lib.hid hi0
  have Hz0 := Lib.hid hz0
  have Hz1 := Lib.hid hz1
  have Hz2 := Lib.hid hz2
  clear hi0 hz0 hz1 hz2
  have HLN := Lib.hid (Win.length_copyN k d)
  go_enter Try.func26, Try.ntmps26
  go_wp2_with (at_builtin; refine wpList_append_sl _ rfl _ _ _ rfl w.heap.size 5 i0 _ 1 Try.underlying22 Hi0.out Hz0.out Hz1.out Hz2.out rfl _ 0 [] rfl (World.ownsRow_lit w #[] 0 (Nat.le_refl _) (by decide) rfl) B a k.length c (bytesV k) (len_bytesV k) rfl (HC.out.alloc hB _) (bytes_oneCell k) (by unfold maxLen; omega) (by omega) (by simp) ?_; intro v1 w1 hown1 hgrow1 hat1; have HB1 := Lib.hid (own_below (World.ownsRow_lit (base := w.heap.size) (e := 5) (size := 1) w #[] 0 (Nat.le_refl _) (by decide) rfl) hgrow1 (Nat.le_refl _) (by simp) ((Below.refl _ _).alloc (Nat.le_refl _) _)); rw [Nat.zero_add, List.nil_append] at hown1; have HO1 := Lib.hid hown1; clear hown1 hgrow1 hat1)
  go_loopw [8, 9] (fun kv i wr => ∃ m : Nat, m ≤ n ∧ i = .int .i64 m ∧ wr.ownsRow w.heap.size 5 1 kv (k.length + m) (bytesV (Win.copyN k d m)) ∧ Below w.heap.size w wr) (fun _ i _ => n - (intOf i).toNat)
  case atStart => exact ⟨0, Nat.zero_le _, rfl, HO1.out, HB1.out⟩
  case round =>
    obtain ⟨m, hm, rfl, hown, hbr⟩ := hrel
    have hbs3 := hbr.size
    by_cases hlt2 : m < n
    · have hlm := HLN.out m
      obtain ⟨z, hz⟩ : ∃ z, z = Win.copyN k d m := ⟨_, rfl⟩
      have hsn : Win.copyN k d (m + 1) = z ++ [z.getD (z.length - d) 0] := by rw [hz]; rfl
      rw [← hz] at hown hlm
      rw [← hlm] at hown
      obtain ⟨A3, c3, rfl⟩ := own_form hown
      obtain ⟨g, rfl, hcell⟩ := own_byte hown (i := z.length - d) (by omega)
      have HBS := Lib.hid (show bytesV (Win.copyN k d (m + 1)) = bytesV z ++ [.int .u8 ((z.getD (z.length - d) 0).toNat : Int)] by rw [hsn, bytes_snoc])
      have hx256 := u8_bound (z.getD (z.length - d) 0)
      generalize (z.getD (z.length - d) 0).toNat = y at hcell HBS hx256
      clear hsn hz
      have i1 : (0 : Int) ≤ (z.length : Int) - (d : Int) := by omega
      have HLM := Lib.hid hlm
      have hzl : z.length ≤ 2000000000 := by omega
      have hzd : d ≤ z.length := by omega
      clear hlm
      generalize z.length = zl at hown hcell i1 HLM hzl hzd
      go_wp2_with (at_builtin; refine wpList_append_lies _ rfl _ _ _ rfl w.heap.size 5 i0 _ 1 1 Try.underlying22 Hi0.out Hz0.out Hz1.out Hz2.out rfl (by omega) _ zl (bytesV z) rfl (hown.alloc _) ⟨wr.heap.size, 0, none⟩ 1 1 [.int .u8 y] rfl rfl (World.news_of_block (cs := #[.int .u8 y]) (t := 5) (fr := (0, 0)) (heap_alloc_new wr _)) (by simp [Value.oneCell']) (by omega) (by unfold maxLen; omega) (by omega) (by simp; omega) (wr.heap.size + 1) (by simp) ?_; intro gg cap ww hown3 hgrow hat hlt1)
      have HO3 := Lib.hid (show ww.ownsRow w.heap.size 5 1 (.slice (some ⟨gg, 0, none⟩) (zl + 1) cap) (k.length + (m + 1)) (bytesV (Win.copyN k d (m + 1))) by
        rw [HBS.out, ← Nat.add_assoc, ← HLM.out]; exact hown3)
      have HB3 := Lib.hid (own_below (hown.alloc _) hgrow (Nat.le_refl _) (by simp; omega) (hbr.alloc hbs3 _))
      clear hown3 hgrow hown hat hbr
      go_wp2
      go_roundw
      case rel => exact ⟨m + 1, by omega, by go_num, HO3.out, HB3.out⟩
      case measure => simp [intOf]; omega
    · obtain rfl : m = n := by omega
      obtain ⟨A3, c3, rfl⟩ := own_form hown
      have hcap := own_cap hown
      have hlm := HLN.out m
      have hq := HQ.out A3 (k.length + m) c3 (by omega)
      rw [show k.length + m - k.length = m by omega] at hq
      have HS := Lib.hid ((Sl.of_own hown).rest c3 k.length (by rw [len_bytesV, hlm]; exact hcap))
      have HO := Lib.hid hown
      have HB := Lib.hid hbr
      clear hown hbr hlm
      generalize restAt A3 c3 k.length = a2 at hq HS
      have g1 : (0 : Int) ≤ (k.length : Int) := Int.natCast_nonneg _
      go_wp2_with fail
      go_quiet (fail)
      go_wp2_with fail
      go_ret2
      refine ⟨A3, c3, a2, c3 - k.length, rfl, HO.out, ?_, below_drewN HB.out _⟩
      have h := HS.out
      simpa [bytesV, List.map_drop] using h.drewN _

end Go.Proofs.Ytpaimcigkpdjpaa
