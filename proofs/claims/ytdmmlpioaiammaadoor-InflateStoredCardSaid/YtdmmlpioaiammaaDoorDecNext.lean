/-
  decode: Next, Most, Len; bitin: Skip.
-/
import Derived.Test.YtdmmlpioaiammaaDoorDecode
import Derived.Test.YtdmmlpioaiammaaDoorBitin
import Derived.Test.YtdmmlpioaiammaaDoorRefMath08
namespace Go.Proofs.YtdmmlpioaiammaaDoor
open Go.RowKit

theorem own_int_at {w : World} {base : Nat} {L : List Int} {A : Option Addr} {c n i : Nat} {v : Int} (h : w.ownsRow base 3 1 (.slice A n c) n (intsV L)) (hi : L[i]? = some v) :
    ∃ g, A = some ⟨g, 0, none⟩ ∧ base ≤ g ∧ g < w.heap.size ∧ w.cell? ⟨g, i, none⟩ = some (.int .i64 v) := by
  have hn : 0 < n := by
    have h1 := h.1
    rw [len_intsV] at h1
    have := (List.getElem?_eq_some_iff.1 hi).1
    omega
  obtain ⟨g, cap, hv, hb, hlt⟩ := h.form hn
  injection hv with hA
  subst hA
  refine ⟨g, rfl, hb, hlt, ?_⟩
  have := h.cells (g := g) rfl i (.int .i64 v) (by simp [intsV, hi])
  rcases Nat.eq_zero_or_pos i with rfl | hi
  · simpa [Addr.add] using this
  · simpa [Addr.add, show i ≠ 0 by omega] using this

def SkipYes (B p : Nat) (o : Value) (buf : List UInt8) (pos gone n : Nat) (w : World) (e : Ending) (w' : World) : Prop :=
  e = .returned (.bool true) ∧ RdS w' B p o buf (pos + n) gone ∧ Fr (fun x => x = p) w w'
set_option maxHeartbeats 400000 in
theorem skip_yes (B p : Nat) (o : Value) (buf : List UInt8) (pos gone n : Nat) (w : World) (h : RdS w B p o buf pos gone) (hb : buf.length ≤ 1000000000000) (hl : n ≤ (left buf pos).length) :
    Calls Tryd.prog 53 #[.pointer (some ⟨p, 0, none⟩), .int .i64 (n : Int)] w (SkipYes B p o buf pos gone n w) := by
  have HR := Lib.hid h
  have LA := Lib.hid (left_any B p o buf pos gone w h hb)
  have hll := length_left buf pos
  have c1 := h.cells.cell 1
  have f1 := h.cells.frozen 1
  simp at c1
  have hle := h.le
  generalize (left buf pos).length = q at LA hl hll
  have t1 : decide ((n : Int) < 0) = false := decide_eq_false (by omega)
  have t2 : decide ((q : Int) < (n : Int)) = false := decide_eq_false (by omega)
  have t3 : decide (q < n) = false := decide_eq_false (by omega)
  have t4 : ¬ q < n := by omega
  have n0 : (0 : Int) ≤ (n : Int) := Int.natCast_nonneg _
  have HLE := Lib.hid (show pos + n ≤ 8 * buf.length by omega)
  have hb2 : pos + n ≤ 8000000000000 := by omega
  clear h hll
  go_enter Tryd.func53, Tryd.ntmps53
  go_wp2_with fail
  (with_reducible refine LA.out.mono ?_)
  rintro e w1 ⟨rfl, m, rfl⟩
  go_wp2_with fail
  go_ret
  refine ⟨rfl, ⟨?_, ?_, HR.out.apart, HLE.out⟩, ?_⟩
  · have h := (HR.out.cells.drewN m).set_ 1 (.int .i64 ((pos + n : Nat) : Int))
    simpa using h
  · exact own_fr (HR.out.drewN m).own ((Fr.refl (fun k => k = p) (w.drewN m)).setCell (p := ⟨p, 1, none⟩) (.inl rfl) _) (fun g hg e => HR.out.apart (by rw [hg, e]))
  · exact ((Fr.refl (fun k => k = p) w).drewN m).setCell (p := ⟨p, 1, none⟩) (.inl rfl) _

/-- the numbers at the head of a round -/
def NI (l : List Int) (L : List Bool) (M n j b c f x : Nat) : Prop :=
  n = j + 1 ∧ j ≤ M ∧ j ≤ L.length ∧ b = Bit.num ((L.drop j).take (M - j)) ∧ c = cv L j ∧ f = nx l n ∧ x = pcnt l j ∧ NoHit l L j
theorem NI.start (l : List Int) (L : List Bool) (M : Nat) : NI l L M 1 0 (Bit.num (L.take M)) 0 0 0 :=
  ⟨rfl, by omega, by omega, by simp, (cv_zero L).symm, by simp [nx], by simp [pcnt], fun k h1 h2 => by omega⟩
theorem NI.bit {l : List Int} {L : List Bool} {M n j b c f x : Nat} (h : NI l L M n j b c f x) (hM : n ≤ M) (hL : n ≤ L.length) : cv L n = 2 * c + b % 2 ∧ Bit.num ((L.drop n).take (M - n)) = b / 2 := by
  obtain ⟨rfl, h2, h3, h4, h5, h6, h7, h8⟩ := h
  have a := num_take_cons L j M (by omega) (by omega)
  rw [← h4] at a
  have d : L[j].toNat ≤ 1 := by cases L[j] <;> decide
  refine ⟨?_, by omega⟩
  rw [cv_succ L j (by omega), ← h5]
  omega
theorem NI.step {l : List Int} {L : List Bool} {M n j b c f x : Nat} (h : NI l L M n j b c f x) (hM : n ≤ M) (hL : n ≤ L.length) (hno : f + l.count (n : Int) ≤ 2 * c + b % 2) :
    NI l L M (n + 1) n (b / 2) (2 * c + b % 2) (2 * (f + l.count (n : Int))) (x + l.count (n : Int)) := by
  obtain ⟨a1, a2⟩ := h.bit hM hL
  obtain ⟨rfl, h2, h3, h4, h5, h6, h7, h8⟩ := h
  refine ⟨rfl, hM, hL, a2.symm, a1.symm, ?_, ?_, ?_⟩
  · rw [nx_succ l (j + 1) (by omega), h6]
  · rw [h7]; rfl
  · intro k k1 k2
    by_cases e : k = j + 1
    · subst e; rw [a1, ← h6]; exact hno
    · exact h8 k k1 (by omega)
theorem NI.hit {l : List Int} {L : List Bool} {M n j b c f x : Nat} (h : NI l L M n j b c f x) (hM : n ≤ M) (hM15 : M ≤ 15) (hL : n ≤ L.length) (hy : 2 * c + b % 2 < f + l.count (n : Int)) :
    ∃ s, Hit l L s n ∧ f ≤ 2 * c + b % 2 ∧ (srt l 15)[x + (2 * c + b % 2) - f]? = some s := by
  obtain ⟨a1, a2⟩ := h.bit hM hL
  obtain ⟨rfl, h2, h3, h4, h5, h6, h7, h8⟩ := h
  obtain ⟨s, hs⟩ := hit_of (n := j + 1) (by omega) (by omega) hL h8 (by rw [a1, ← h6]; exact hy)
  obtain ⟨p1, p2⟩ := hs.place
  rw [a1, ← h6] at p1 p2
  rw [Nat.add_sub_cancel, ← h7] at p2
  exact ⟨s, hs, p1, p2⟩
theorem NI.le {l : List Int} {L : List Bool} {M n j b c f x : Nat} (h : NI l L M n j b c f x) (hM : n ≤ M) (hM15 : M ≤ 15) (hs : psum l 15 ≤ 32768) : c ≤ 32768 ∧ b < 32768 ∧ f + l.count (n : Int) ≤ 32768 ∧ x ≤ l.length := by
  obtain ⟨rfl, h2, h3, h4, h5, h6, h7, h8⟩ := h
  refine ⟨?_, ?_, ?_, ?_⟩
  · rw [h5]
    have := cv_lt L j h3
    have := Nat.pow_le_pow_right (n := 2) (by omega) (show j ≤ 15 by omega)
    omega
  · rw [h4]
    have := Bit.num_lt ((L.drop j).take (M - j))
    have h9 : ((L.drop j).take (M - j)).length ≤ 15 := by rw [List.length_take]; omega
    have := Nat.pow_le_pow_right (n := 2) (by omega) h9
    omega
  · rw [h6]; exact nx_bound l (j + 1) (by omega) (by omega) hs
  · rw [h7]; exact pcnt_len l j
theorem or_bit (c b : Nat) (hc : c ≤ 32768) : bits .or .i64 ((2 * c : Nat) : Int) ((b % 2 : Nat) : Int) = ((2 * c + b % 2 : Nat) : Int) := by
  have h1 : 2 * c ||| b % 2 = 2 * c + b % 2 := by
    have := Nat.two_pow_add_eq_or_of_lt (i := 1) (b := b % 2) (by omega) c
    rw [Nat.pow_one] at this
    exact this.symm
  show IntKind.i64.wrap ((BitVec.ofInt 64 ((2 * c : Nat) : Int) ||| BitVec.ofInt 64 ((b % 2 : Nat) : Int)).toNat : Int) = _
  rw [BitVec.toNat_or, BitVec.ofInt_natCast, BitVec.ofInt_natCast, BitVec.toNat_ofNat, BitVec.toNat_ofNat, Nat.mod_eq_of_lt (by omega), Nat.mod_eq_of_lt (by omega), h1, IntKind.wrap_i64]
  omega

/-- what Next tells of bits, and how many it takes -/
def NextIs (l : List Int) (L : List Bool) (M : Nat) (v : Value) (d : Nat) : Prop :=
  (∃ s n, Hit l L s n ∧ v = .tuple #[.int .i64 (s : Int), .int .i64 0] ∧ d = n) ∨ (L.length < M ∧ NoHit l L L.length ∧ v = .tuple #[.int .i64 0, .int .i64 4] ∧ d = 0) ∨ (M ≤ L.length ∧ NoHit l L M ∧ v = .tuple #[.int .i64 0, .int .i64 26] ∧ d = 0)
def NextPost (l : List Int) (M B p : Nat) (o : Value) (buf : List UInt8) (pos gone : Nat) (w : World) (e : Ending) (w' : World) : Prop :=
  ∃ v d, NextIs l (left buf pos) M v d ∧ e = .returned v ∧ RdS w' B p o buf (pos + d) gone ∧ Fr (fun x => x = p) w w'

set_option maxHeartbeats 4000000 in
theorem next_any (l : List Int) (M BT Q pt B p : Nat) (o : Value) (buf : List UInt8) (pos gone : Nat) (w : World) (hT : TabS w BT Q pt l) (hR : RdS w B p o buf pos gone) (hb : buf.length ≤ 1000000000) (hQ : Q ≤ p ∨ p < BT)
    (hk : kindOf l ≤ 3) (hl : l.length ≤ 1000000) (hM : mxOf l = (M : Int)) :
    Calls Tryd.prog 40 #[.pointer (some ⟨pt, 0, none⟩), .pointer (some ⟨p, 0, none⟩)] w (NextPost l M B p o buf pos gone w) := by
  obtain ⟨hrt, hsum⟩ := kind_le3 hk
  have HSUM := Lib.hid hsum
  have hM15 : M ≤ 15 := by have := mx_le hrt; omega
  have HR := Lib.hid hR
  obtain ⟨A, c, hW, hO, hgQ⟩ := hT.ex
  have HW := Lib.hid hW
  have HO := Lib.hid hO
  have c16 := hW.cell 16
  have c17 := hW.cell 17
  rw [tabV_sl] at c16
  rw [tabV_mx, hM] at c17
  have PK := Lib.hid (peek_yes B p o buf pos gone M w hR (by omega) (by omega))
  have HPT := Lib.hid (show pt ≠ p by have := hT.hi; have := hT.lo; omega)
  have HGQ := Lib.hid (show ∀ g, (Value.slice A (pcnt l 15) c).ownBlock = some g → g ≠ p from fun g hg => by have := hgQ g hg; have := (hO.lt g hg).1; omega)
  have HLA := Lib.hid (fun m => left_any B p o buf pos gone (w.drewN m) (hR.drewN m) (by omega))
  have HSK := Lib.hid (fun m n hn => skip_yes B p o buf pos gone n (w.drewN m) (hR.drewN m) (by omega) hn)
  obtain ⟨L, hL⟩ : ∃ L, L = left buf pos := ⟨_, rfl⟩
  have hLl : L.length ≤ 8 * buf.length := by rw [hL, length_left]; omega
  have HL := Lib.hid hL
  rw [← hL] at PK HLA HSK
  have HPOST := Lib.hid (show ∀ v d w', NextIs l L M v d → RdS w' B p o buf (pos + d) gone → Fr (fun x => x = p) w w' → NextPost l M B p o buf pos gone w (.returned v) w' from fun v d w' h1 h2 h3 => ⟨v, d, by rw [← HL.out]; exact h1, rfl, h2, h3⟩)
  obtain ⟨T, hTT⟩ : ∃ T, T = pcnt l 15 := ⟨_, rfl⟩
  have hTl := pcnt_len l 15
  rw [← hTT] at c16 HO HW HGQ hTl
  have HTT := Lib.hid hTT
  have HLS := Lib.hid (show (up (srt l 15)).length = T by rw [len_up, len_srt, HTT.out])
  clear hW hO hR hT hgQ hL hM hrt hsum hTT
  have M0 : (0 : Int) ≤ (M : Int) := Int.natCast_nonneg _
  generalize decide (M ≤ L.length) = db at PK
  go_enter Tryd.func40, Tryd.ntmps40
  go_wp2_with fail
  (with_reducible refine PK.out.mono ?_)
  rintro e w1 ⟨rfl, m1, rfl⟩
  have LA := Lib.hid (HLA.out m1)
  clear PK HLA
  go_wp2_with fail
  (with_reducible refine LA.out.mono ?_)
  rintro e w2 ⟨rfl, m2, rfl⟩
  clear LA
  have HST := Lib.hid (NI.start l L M)
  generalize Bit.num (L.take M) = b0 at HST
  obtain ⟨q, hq⟩ : ∃ q, q = m1 + m2 := ⟨_, rfl⟩
  rw [World.drewN_drewN, ← hq]
  clear hq
  go_wp2_with fail
  go_loop [6, 9, 10, 11, 12] (fun v6 v9 v10 v11 v12 => ∃ n j b cc f x : Nat, NI l L M n j b cc f x ∧ v6 = .int .u32 (b : Int) ∧ v9 = .int .i64 (cc : Int) ∧ v10 = .int .i64 (f : Int) ∧ v11 = .int .i64 (x : Int) ∧ v12 = .int .i64 (n : Int)) (fun _ _ _ _ v12 => 20 - (intOf v12).toNat)
  case atStart => exact ⟨1, 0, b0, 0, 0, 0, HST.out, rfl, rfl, rfl, rfl, rfl⟩
  case round =>
    obtain ⟨n, j, b, cc, f, x, hNI, rfl, rfl, rfl, rfl, rfl⟩ := hrel
    clear HST
    have HNI := Lib.hid hNI
    have n0 : (0 : Int) ≤ (n : Int) := Int.natCast_nonneg _
    by_cases hnM : n ≤ M
    case neg =>
      have e1 : j = M := by have := hNI.1; have := hNI.2.1; omega
      have hv := HPOST.out (.tuple #[.int .i64 0, .int .i64 26]) 0 (w.drewN q) (.inr (.inr ⟨by rw [← e1]; exact hNI.2.2.1, by rw [← e1]; exact hNI.2.2.2.2.2.2.2, rfl, rfl⟩)) (HR.out.drewN q) ((Fr.refl _ _).drewN q)
      have HV := Lib.hid hv
      have t1 : decide (n ≤ M) = false := decide_eq_false hnM
      have t2 : decide ((n : Int) ≤ (M : Int)) = false := decide_eq_false (by omega)
      clear hNI e1 hv
      go_wp2_with fail
      go_ret2
      exact HV.out
    have t1 : decide (n ≤ M) = true := decide_eq_true hnM
    by_cases hnL : n ≤ L.length
    case neg =>
      have e1 : j = L.length := by have := hNI.1; have := hNI.2.2.1; omega
      have hv := HPOST.out (.tuple #[.int .i64 0, .int .i64 4]) 0 (w.drewN q) (.inr (.inl ⟨by omega, by rw [← e1]; exact hNI.2.2.2.2.2.2.2, rfl, rfl⟩)) (HR.out.drewN q) ((Fr.refl _ _).drewN q)
      have HV := Lib.hid hv
      have t2 : decide (L.length < n) = true := decide_eq_true (by omega)
      have t3 : decide ((L.length : Int) < (n : Int)) = true := decide_eq_true (by omega)
      clear hNI e1 hv
      go_wp2_with fail
      go_ret2
      exact HV.out
    have t2 : decide (L.length < n) = false := decide_eq_false (by omega)
    obtain ⟨l1, l2, l3, l4⟩ := hNI.le hnM hM15 HSUM.out
    have hn1 : 1 ≤ n := by have := hNI.1; omega
    have hor := or_bit cc b l1
    have hcn := HW.out.cell n
    rw [tabV_many _ _ _ _ n hn1 (by omega)] at hcn
    have HSTEP := Lib.hid (fun h => hNI.step hnM hnL h)
    have HHIT := Lib.hid (fun h => hNI.hit hnM hM15 hnL h)
    generalize l.count (n : Int) = cn at hcn l3 HSTEP HHIT
    clear hNI
    have n1 : (n : Int) < 16 := by omega
    obtain ⟨c1, hc1⟩ : ∃ c1, c1 = 2 * cc + b % 2 := ⟨_, rfl⟩
    rw [← hc1] at hor HSTEP HHIT
    obtain ⟨bb, hbb⟩ : ∃ bb, bb = b % 2 := ⟨_, rfl⟩
    obtain ⟨bh, hbh⟩ : ∃ bh, bh = b / 2 := ⟨_, rfl⟩
    obtain ⟨c2, hc2⟩ : ∃ c2, c2 = 2 * cc := ⟨_, rfl⟩
    rw [← hbb, ← hc2] at hor
    rw [← hbh] at HSTEP
    have e1 : bits .and .u32 (b : Int) 1 = (bb : Int) := by
      have := u32_and_nat b 1 (by omega) (by omega)
      rw [Nat.and_one_is_mod, ← hbb] at this
      exact this
    have e2 : ((b : Int) / 2) = (bh : Int) := by omega
    have e3 : ((cc : Int) * 2) = (c2 : Int) := by omega
    have d1 : bb ≤ 1 := by omega
    have d2 : bh ≤ 32768 := by omega
    have d3 : c1 ≤ 65537 := by omega
    have d4 : c2 ≤ 65536 := by omega
    clear hc1 hbb hbh hc2
    obtain ⟨fc, hfc⟩ : ∃ fc, fc = f + cn := ⟨_, rfl⟩
    have e6 : (f : Int) + (cn : Int) = (fc : Int) := by omega
    have d6 : fc ≤ 32768 := by omega
    obtain ⟨xn, hxn⟩ : ∃ xn, xn = x + cn := ⟨_, rfl⟩
    have e7 : (x : Int) + (cn : Int) = (xn : Int) := by omega
    rw [← hfc] at HHIT l3
    rw [← hfc, ← hxn] at HSTEP
    have d7 : xn ≤ 2000000 := by omega
    clear hfc hxn
    by_cases hy : c1 < fc
    · obtain ⟨s, hs, hf, hsr⟩ := HHIT.out hy
      have hcs := own_int_at HO.out (up_get _ _ _ hsr)
      obtain ⟨g, rfl, hg1, hg2, hcell⟩ := hcs
      have hix := (List.getElem?_eq_some_iff.1 (up_get _ _ _ hsr)).1
      rw [HLS.out] at hix
      have SK := Lib.hid (HSK.out q n hnL)
      have HHS := Lib.hid hs
      have t3 : decide (c1 < fc) = true := decide_eq_true hy
      obtain ⟨xc, hxc⟩ : ∃ xc, xc = x + c1 := ⟨_, rfl⟩
      have e8 : (x : Int) + (c1 : Int) = (xc : Int) := by omega
      rw [← hxc] at hcell hix
      have d8 : xc ≤ 2000000 := by omega
      have e5 : (xc : Int) - (f : Int) = ((xc - f : Nat) : Int) := by omega
      clear hxc
      have HGP := Lib.hid (HGQ.out g rfl)
      obtain ⟨y, hyy⟩ : ∃ y, y = xc - f := ⟨_, rfl⟩
      rw [← hyy] at e5 hcell hix
      have y0 : (0 : Int) ≤ (y : Int) := Int.natCast_nonneg _
      have y1 : (y : Int) < (T : Int) := by omega
      clear hsr HSTEP HHIT HSK hy hs hyy
      go_wp2_with fail
      (with_reducible refine SK.out.mono ?_)
      rintro e w3 ⟨rfl, hr3, hf3⟩
      have HR3 := Lib.hid hr3
      have HF3 := Lib.hid (show Fr (fun k => k = p) w w3 from ⟨hf3.os, hf3.tape, hf3.output, hf3.size, hf3.block⟩)
      have k16 : w3.cell? ⟨pt, 16, none⟩ = some (.slice (some ⟨g, 0, none⟩) T c) := (HF3.out.cell (p := ⟨pt, 16, none⟩) HW.out.lt HPT.out).trans c16
      have kcl : w3.cell? ⟨g, y, none⟩ = some (.int .i64 (s : Int)) := (HF3.out.cell (p := ⟨g, y, none⟩) hg2 HGP.out).trans hcell
      clear hr3 hf3 SK c16 c17 hcell hcn
      go_wp2_with fail
      go_ret2
      exact HPOST.out _ n _ (.inl ⟨s, n, HHS.out, rfl, rfl⟩) HR3.out HF3.out
    · have HN := Lib.hid (HSTEP.out (by omega))
      have t3 : decide (c1 < fc) = false := decide_eq_false hy
      have t4 : ¬ c1 < fc := hy
      clear HSTEP HHIT HSK
      go_wp2_with fail
      go_round
      case rel => exact ⟨n + 1, n, bh, c1, 2 * fc, xn, HN.out, rfl, rfl, by go_num, rfl, by go_num⟩
      case measure => simp [intOf]; omega
end Go.Proofs.YtdmmlpioaiammaaDoor
