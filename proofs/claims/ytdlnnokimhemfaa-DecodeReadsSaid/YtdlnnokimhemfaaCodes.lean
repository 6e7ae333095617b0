/-
  canon: Codes.
-/
import Derived.Test.YtdlnnokimhemfaaCanonMath
import Derived.Test.YtdlnnokimhemfaaWholes
import Derived.Deep.RegionLaw
import Derived.Deep.RegionHeld3
namespace Go.Proofs.Ytdlnnokimhemfaa
open Go.RowKit

def u32sV (l : List Nat) : List Value := l.map fun v : Nat => Value.int .u32 (v : Int)
theorem len_u32sV (l : List Nat) : (u32sV l).length = l.length := by simp [u32sV]
theorem u32sV_set (l : List Nat) (k v : Nat) : u32sV (l.set k v) = (u32sV l).set k (.int .u32 (v : Int)) := by simp [u32sV, List.map_set]
theorem u32sV_get (l : List Nat) (k v : Nat) (h : l[k]? = some v) : (u32sV l)[k]? = some (.int .u32 (v : Int)) := by simp [u32sV, h]
theorem u32InfoC : (Try.prog.info? 29).map (fun i => (i.zero, i.size, i.bytes)) = some (some (.int .u32 0), 1, 4) := by kernel_rfl

def CodesNone (v : Int) (w : World) (e : Ending) (w' : World) : Prop := e = .returned (.tuple #[.slice none 0 0, .int .i64 v]) ∧ Below w.heap.size w w'
def CodesSome (l : List Nat) (w : World) (e : Ending) (w' : World) : Prop :=
  ∃ A c, e = .returned (.tuple #[.slice A l.length c, .int .i64 0]) ∧ w'.ownsRow w.heap.size 29 1 (.slice A l.length c) l.length (u32sV l) ∧ Below w.heap.size w w'

theorem wpList_store_wh2 {P : Program} {ops : Array Oper} {rest : List Oper} {o : Oper} {a : Act} {w : World} {Q : Exit → Act → World → Prop} (hgd : o.guard = none) (ty : TypeId) (x y : Operand) (ho : o.op = .store ty x y)
    (g : Nat) (cells : Array Value) (hx : a.eval x = .pointer (some ⟨g, 0, none⟩)) (hy : a.eval y = .agg cells)
    (t : TypeId) (old : Array Value) (hg : Whole w g t old) (hi : (P.info? ty).map (·.size) = some cells.size)
    (hold : old.size = cells.size) (h1 : cells.all (·.oneCell') = true)
    (h : ∀ w', Whole w' g t cells → Fr (fun k => k = g) w w' → w'.heap.size = w.heap.size → wpList P ops Q rest (a.put o.dst undef) w') : wpList P ops Q (o :: rest) a w :=
  wpList_store_row hgd ty x y ho g cells hx hy t old hg hi hold h1 (h _ (setRow_heap w g _ _ t _ hg) ⟨rfl, rfl, rfl, by simp [World.setRow], fun k _ hn => setRow_other w g k _ hn⟩ (by simp [World.setRow]))
set_option maxHeartbeats 400000 in
theorem codes_wrong (l : List Int) (a : Option Addr) (c B : Nat) (w : World) (hl : l.length ≤ 1000000) (hs : Sl w B a (intsV l)) (hB : B ≤ w.heap.size) (hk : kindOf l = 5) :
    Calls Try.prog 9 #[.slice a l.length c] w (CodesNone 1 w) := by
  have KA := Lib.hid (kind_any l a c B w hl hs hB)
  rw [hk] at KA
  clear hs hk
  go_enter Try.func9, Try.ntmps9
  go_wp2_with fail
  (with_reducible refine KA.out.mono ?_)
  rintro e w1 ⟨rfl, hb1⟩
  go_wp2_with fail
  go_ret2
  exact ⟨rfl, hb1⟩
set_option maxHeartbeats 400000 in
theorem codes_over (l : List Int) (a : Option Addr) (c B : Nat) (w : World) (hl : l.length ≤ 1000000) (hs : Sl w B a (intsV l)) (hB : B ≤ w.heap.size) (hk : kindOf l = 4) :
    Calls Try.prog 9 #[.slice a l.length c] w (CodesNone 24 w) := by
  have KA := Lib.hid (kind_any l a c B w hl hs hB)
  rw [hk] at KA
  clear hs hk
  go_enter Try.func9, Try.ntmps9
  go_wp2_with fail
  (with_reducible refine KA.out.mono ?_)
  rintro e w1 ⟨rfl, hb1⟩
  go_wp2_with fail
  go_ret2
  exact ⟨rfl, hb1⟩

theorem kind_le3 {l : List Int} (h : kindOf l ≤ 3) : rightB l = true ∧ psum l 15 ≤ 32768 := by
  unfold kindOf at h
  by_cases h1 : rightB l = false
  · rw [if_pos h1] at h; omega
  · rw [if_neg h1] at h
    by_cases h2 : 32768 < psum l 15
    · rw [if_pos h2] at h; omega
    · exact ⟨by simpa using h1, by omega⟩
theorem right_at {l : List Int} (h : rightB l = true) {k : Nat} (hk : k < l.length) : 0 ≤ l[k] ∧ l[k] ≤ 15 := by
  have := List.all_eq_true.1 h l[k] (List.getElem_mem hk)
  simpa using this

/-- the arrays of Codes: many at p, next at p + 1 -/
def CodesRel (w : World) (p : Nat) (l : List Int) (k : Nat) (wr : World) : Prop :=
  Whole wr p 57 (intsV (tal l)).toArray ∧ Whole wr (p + 1) 60 (u32sV (nxTo l k)).toArray ∧ Below w.heap.size w wr
/-- while the symbols get codes -/
def CodesRel2 (w : World) (p g : Nat) (l : List Int) (k : Nat) (wr : World) : Prop :=
  Whole wr (p + 1) 60 (u32sV (nxAt l (l.take k))).toArray ∧ Whole wr g 29 (u32sV (codesTo l k)).toArray ∧ Below w.heap.size w wr
theorem len_codesOf (l : List Int) : (codesOf l).length = l.length := by simp [codesOf]
theorem count_take_le (l : List Int) (k : Nat) (hk : k < l.length) : (l.take k).count l[k] + 1 ≤ l.count l[k] := by
  have h1 : (l.take (k + 1)).count l[k] ≤ l.count l[k] := (List.take_sublist (k + 1) l).count_le _
  rw [List.take_succ_eq_append_getElem hk, List.count_append, List.count_singleton_self] at h1
  exact h1
theorem codeAt_eq (l : List Int) (k m : Nat) (hk : k < l.length) (h : l[k] = (m : Int)) (hm : 1 ≤ m) : codeAt l k = Bit.rev m (nx l m + (l.take k).count (m : Int)) := by
  have e : l.getD k 0 = (m : Int) := by rw [List.getD_eq_getElem?_getD, List.getElem?_eq_getElem hk]; exact h
  unfold codeAt
  rw [e, if_pos (by omega), Int.toNat_natCast]
theorem codeAt_zero (l : List Int) (k : Nat) (hk : k < l.length) (h : ¬ 0 < l[k]) : codeAt l k = 0 := by
  have e : l.getD k 0 = l[k] := by rw [List.getD_eq_getElem?_getD, List.getElem?_eq_getElem hk]; rfl
  unfold codeAt
  rw [e, if_neg h]
theorem clamp_small (m : Nat) (h : m ≤ 32) : clamp (m : Int) = m := by unfold clamp; omega

set_option maxHeartbeats 2000000 in
theorem codes_ok (l : List Int) (a : Option Addr) (c B : Nat) (w : World) (hl : l.length ≤ 1000000) (hs : Sl w B a (intsV l)) (hB : B ≤ w.heap.size) (hk : kindOf l ≤ 3) :
    Calls Try.prog 9 #[.slice a l.length c] w (CodesSome (codesOf l) w) := by
  have KA := Lib.hid (kind_any l a c B w hl hs hB)
  obtain ⟨hrt, hsum⟩ := kind_le3 hk
  have HS := Lib.hid hs
  have HRT := Lib.hid hrt
  have t5 : (kindOf l == 5) = false := beq_eq_false_iff_ne.2 (by omega)
  have t4 : (kindOf l == 4) = false := beq_eq_false_iff_ne.2 (by omega)
  generalize kindOf l = kd at KA t5 t4 hk
  obtain ⟨i0, hi0, hz0, hz1, hz2⟩ := info_parts u32InfoC
  have hmk := fun W => run_make_wh Try.underlying24 hi0 hz0 hz1 (by rw [hz2]; decide) rfl l.length (by omega) W
  clear hs hrt hi0 hz0 hz1 hz2
  go_enter Try.func9, Try.ntmps9
  go_wp2_with fail
  (with_reducible refine KA.out.mono ?_)
  rintro e w1 ⟨rfl, hb1⟩
  have HB1 := Lib.hid hb1
  have hs1 := hb1.size
  have TA := Lib.hid (tally_any l a c B w1 hl (HS.out.below hb1 hB) (by omega))
  clear hb1 KA
  go_wp2_with fail
  (with_reducible refine TA.out.mono ?_)
  rintro e w2 ⟨rfl, hb2⟩
  have HB2 := Lib.hid (HB1.out.trans (hb2.mono hs1))
  have hs2 := hb2.size
  have hs2' := Nat.le_trans hs1 hb2.size
  obtain ⟨p, hp⟩ : ∃ p, p = w2.heap.size := ⟨_, rfl⟩
  rw [← hp] at hs2 hs2'
  have HP := Lib.hid hp
  clear hb2 hp TA
  generalize rightB l = r
  go_wp2_with (refine wpList_store_wh2 (by rfl) 57 (.tmp 4) (.tmp 20) (by rfl) w2.heap.size (intsV (tal l)).toArray (by rfl) (by rfl) _ _ (Whole.new _ _ _) (by rw [size_ints _ 16 (len_tal l)]; kernel_rfl) (by rw [size_ints _ 16 (len_tal l)]; rfl) (ints_all1 _) ?_; intro w3 hw3 hf3 hz3; have HSZ3 : w3.heap.size = w2.heap.size + 1 := by { rw [hz3]; simp }; have HZ3 := Lib.hid HSZ3; clear HSZ3; have HW3 := Lib.hid hw3; have HB3 := Lib.hid ((HB2.out.alloc (by have := HP.out; omega) _).trans (hf3.below (B := w.heap.size) (by have := HP.out; simp; omega) (fun k hk e => by have := HP.out; omega))); clear hw3 hf3 hz3)
  have HW4 := Lib.hid (show CodesRel w p l 1 (w3.alloc (.cells #[.int .u32 0, .int .u32 0, .int .u32 0, .int .u32 0, .int .u32 0, .int .u32 0, .int .u32 0, .int .u32 0, .int .u32 0, .int .u32 0, .int .u32 0, .int .u32 0, .int .u32 0, .int .u32 0, .int .u32 0, .int .u32 0] 60)) from by
    refine ⟨by rw [HP.out]; exact HW3.out.alloc _, ?_, HB3.out.alloc (by rw [HZ3.out, ← HP.out]; omega) _⟩
    have h := Whole.new w3 60 #[.int .u32 0, .int .u32 0, .int .u32 0, .int .u32 0, .int .u32 0, .int .u32 0, .int .u32 0, .int .u32 0, .int .u32 0, .int .u32 0, .int .u32 0, .int .u32 0, .int .u32 0, .int .u32 0, .int .u32 0, .int .u32 0]
    rw [HZ3.out, ← HP.out] at h
    rw [show nxTo l 1 = [0, 0, 0, 0, 0, 0, 0, 0, 0, 0, 0, 0, 0, 0, 0, 0] from rfl]
    exact h)
  rw [HZ3.out, ← HP.out]
  go_loopw [7] (fun i wr => ∃ k : Nat, 1 ≤ k ∧ k ≤ 15 ∧ i = .int .i64 ((k : Int) + 1) ∧ CodesRel w p l k wr) (fun i _ => 20 - (intOf i).toNat)
  case atStart => exact ⟨1, by omega, by omega, rfl, HW4.out⟩
  case round =>
    obtain ⟨k, hk1, hk2, rfl, hW, hN, hbr⟩ := hrel
    clear HW4 HW3 HB3 HB2
    have HW := Lib.hid hW
    have HN := Lib.hid hN
    have HBR := Lib.hid hbr
    by_cases hlt : k < 15
    · have hc1 := hW.cell k
      rw [show (intsV (tal l)).toArray[k]? = some (.int .i64 ((l.count (k : Int) : Nat) : Int)) by simp [intsV, tal_get l k (by omega)]] at hc1
      have hc2 := hN.cell k
      rw [show (u32sV (nxTo l k)).toArray[k]? = some (.int .u32 ((nx l k : Nat) : Int)) by simp only [List.getElem?_toArray]; rw [u32sV_get _ _ _ (nxTo_get l k k (by omega)), if_pos (Nat.le_refl _)]] at hc2
      have hc3 := hN.cell (k + 1)
      rw [show (u32sV (nxTo l k)).toArray[k + 1]? = some (.int .u32 0) by simp only [List.getElem?_toArray]; rw [u32sV_get _ _ _ (nxTo_get l k (k + 1) (by omega)), if_neg (by omega)]; rfl] at hc3
      have hf3 := hN.frozen (k + 1)
      have hb := nx_bound l k hk1 (by omega) hsum
      have HNX := Lib.hid (nx_succ l k hk1)
      have HSET := Lib.hid (HN.out.drew.set_ (k + 1) (.int .u32 ((nx l (k + 1) : Nat) : Int)))
      rw [show (u32sV (nxTo l k)).toArray.setIfInBounds (k + 1) (.int .u32 ((nx l (k + 1) : Nat) : Int)) = (u32sV (nxTo l (k + 1))).toArray by rw [← nxTo_set l k (by omega), u32sV_set]; simp] at HSET
      generalize l.count (k : Int) = cn at hc1 hb HNX
      generalize nx l k = n at hc2 hb HNX
      obtain ⟨n2, hn2⟩ : ∃ n2, n2 = nx l (k + 1) := ⟨_, rfl⟩
      rw [← hn2] at HNX HSET
      clear hW hN hbr hn2
      have k0 : (0 : Int) ≤ (k : Int) := Int.natCast_nonneg _
      have k1 : (k : Int) < 16 := by omega
      have k3 : (0 : Int) ≤ (k : Int) + 1 := by omega
      have k4 : (k : Int) + 1 < 16 := by omega
      have k5 : ((k : Int) + 1).toNat = k + 1 := by omega
      have v1 : IntKind.i64.wrap (k : Int) = (k : Int) := by rw [IntWalk.i64_in _ (by omega)]
      go_wp2_with fail
      go_region
      go_wp2_with fail
      go_roundw
      case rel =>
        refine ⟨k + 1, by omega, by omega, by go_num, (HW.out.far (by show p ≠ p + 1; omega) _).drew, ?_, (HBR.out.setCell (by show w.heap.size ≤ p + 1; omega) _).drew⟩
        have h := HSET.out
        rw [HNX.out] at h
        exact h
      case measure => simp [intOf]; omega
    · obtain rfl : k = 15 := by omega
      obtain ⟨wo, hwo⟩ : ∃ wo : World, wo = wr := ⟨_, rfl⟩
      subst hwo
      obtain ⟨g, hg⟩ : ∃ g, g = wo.heap.size := ⟨_, rfl⟩
      have hgp := hN.lt
      rw [← hg] at hgp
      have HG := Lib.hid hg
      have HR2 := Lib.hid (show CodesRel2 w p g l 0 (wo.alloc (.cells (List.replicate l.length (Value.int .u32 0)).toArray 29)) from by
        refine ⟨?_, ?_, HBR.out.alloc (by rw [← HG.out]; omega) _⟩
        · rw [List.take_zero, ← nxAt_nil]; exact HN.out.alloc _
        · rw [HG.out, codesTo_zero]
          have h := Whole.new wo 29 (List.replicate l.length (Value.int .u32 0)).toArray
          simpa [u32sV] using h)
      clear hW hN hbr hg HW HN
      rw [show ((15 : Nat) : Int) + 1 = 16 from rfl]
      go_wp2_with fail
      rw [← HG.out]
      go_loopw [44] (fun i wr => ∃ k : Nat, k ≤ l.length ∧ i = .int .i64 (k : Int) ∧ CodesRel2 w p g l k wr) (fun i _ => l.length - (intOf i).toNat)
      case atStart => exact ⟨0, by omega, rfl, HR2.out⟩
      case round =>
        obtain ⟨k, hk, rfl, hN, hC, hbr⟩ := hrel
        clear HR2
        have HN := Lib.hid hN
        have HC := Lib.hid hC
        have HBR := Lib.hid hbr
        by_cases hlt : k < l.length
        · obtain ⟨b, off, rfl, _, hcell⟩ := (HS.out.below hbr hB).int hlt
          obtain ⟨hx0, hx1⟩ := right_at HRT.out hlt
          have k0 : (0 : Int) ≤ (k : Int) := Int.natCast_nonneg _
          have k1 : (k : Int) < (l.length : Int) := by omega
          have HTK := Lib.hid (show l.take (k + 1) = l.take k ++ [l[k]] from List.take_succ_eq_append_getElem hlt)
          by_cases hx : 0 < l[k]
          · obtain ⟨m, hm⟩ := Int.eq_ofNat_of_zero_le hx0
            have hm1 : 1 ≤ m := by omega
            have hm2 : m ≤ 15 := by omega
            have hcc := codeAt_eq l k m hlt hm hm1
            have hnc := nx_cnt l m hm1 hm2 hsum
            have hct := count_take_le l k hlt
            rw [hm] at hcell hct HTK
            have hp15 : 2 ^ m ≤ 2 ^ 15 := Nat.pow_le_pow_right (by omega) hm2
            have hcn : nx l m + (l.take k).count (m : Int) + 1 ≤ 32768 := by omega
            have hcm := hN.cell m
            have hfm := hN.frozen m
            rw [show (u32sV (nxAt l (l.take k))).toArray[m]? = some (.int .u32 ((nx l m + (l.take k).count (m : Int) : Nat) : Int)) by simp only [List.getElem?_toArray]; rw [u32sV_get _ _ _ (nxAt_get l _ m hm1 (by omega))]] at hcm
            have hck := hC.cell k
            have hfk := hC.frozen k
            rw [show (u32sV (codesTo l k)).toArray[k]? = some (.int .u32 0) by simp only [List.getElem?_toArray]; rw [u32sV_get _ _ _ (codesTo_get l k k hlt), if_neg (by omega)]; rfl] at hck
            have HSETN := Lib.hid (nxAt_snoc l (l.take k) m m rfl hm1 (by omega))
            have HSETC := Lib.hid (codesTo_set l k hlt)
            rw [hcc] at HSETC
            obtain ⟨cd, hcd⟩ : ∃ cd, cd = nx l m + (l.take k).count (m : Int) := ⟨_, rfl⟩
            rw [← hcd] at hcm hcn HSETN HSETC
            have RV := Lib.hid (reverse_any cd (m : Int) wr (by omega) (by omega) (by omega))
            rw [clamp_small m (by omega)] at RV
            have hrl := Bit.rev_lt m cd
            generalize Bit.rev m cd = rv at RV HSETC hrl
            have m0 : (0 : Int) ≤ (m : Int) := Int.natCast_nonneg _
            have m3 : (0 : Int) < (m : Int) := by omega
            have m1 : (m : Int) < 16 := by omega
            have t1 : decide (0 < m) = true := decide_eq_true hm1
            have hgne : g ≠ p + 1 := by omega
            clear hN hC hbr hm hcc hnc hct hcd hx hx0 hx1 hmk
            go_wp2_with fail
            (with_reducible refine RV.out.mono ?_)
            rintro e w' ⟨rfl, rfl⟩
            go_wp2_with fail
            go_roundw
            case rel =>
              refine ⟨k + 1, by omega, by go_num, ?_, ?_, (HBR.out.setCell (by show w.heap.size ≤ g; omega) _).setCell (by show w.heap.size ≤ p + 1; omega) _⟩
              · rw [HTK.out, ← HSETN.out, u32sV_set]
                have h := (HN.out.far (q := ⟨g, k, none⟩) (by show p + 1 ≠ g; omega) (.int .u32 (rv : Int))).set_ m (.int .u32 ((cd + 1 : Nat) : Int))
                simpa using h
              · rw [← HSETC.out, u32sV_set]
                have h := (HC.out.set_ k (.int .u32 (rv : Int))).far (q := ⟨p + 1, m, none⟩) (by show g ≠ p + 1; omega) (.int .u32 ((cd + 1 : Nat) : Int))
                simpa using h
            case measure => simp [intOf]; omega
          · have h0 : l[k] = 0 := by omega
            rw [h0] at hcell HTK
            have HSK := Lib.hid (codesTo_skip l k hlt (codeAt_zero l k hlt hx))
            clear hN hC hbr hx hx0 hx1 h0 hmk
            go_wp2_with fail
            go_roundw
            case rel => exact ⟨k + 1, by omega, by go_num, by rw [HTK.out, nxAt_skip _ _ _ (by omega)]; exact HN.out, by rw [HSK.out]; exact HC.out, HBR.out⟩
            case measure => simp [intOf]; omega
        · obtain rfl : k = l.length := by omega
          clear hN hC hbr hmk
          go_wp2_with fail
          go_ret2
          refine ⟨some ⟨g, 0, none⟩, l.length, by rw [len_codesOf]; rfl, ?_, HBR.out⟩
          rw [len_codesOf]
          have h := HC.out
          rw [codesTo_all] at h
          exact own_of_wh h (by omega) (by rw [len_u32sV, len_codesOf]) (by unfold maxLen; omega)
end Go.Proofs.Ytdlnnokimhemfaa
