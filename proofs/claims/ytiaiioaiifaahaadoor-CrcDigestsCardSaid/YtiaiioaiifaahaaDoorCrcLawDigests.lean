/-
  The law CrcDigests returns true: walk.
-/
import Derived.Test.YtiaiioaiifaahaaDoorCrcJoin
import Derived.Test.YtiaiioaiifaahaaDoorParts
namespace Go.Proofs.YtiaiioaiifaahaaDoor
open Go.RowKit

/-- the digests' state: d of D, e of E, whole of both -/
structure DS (w : World) (B q : Nat) (D E all : List UInt8) : Prop where
  d : DigS w q (Crc.update 0 D) D.length
  e : DigS w (q + 1) (Crc.update 0 E) E.length
  h : DigS w (q + 1 + 1) (Crc.update 0 all) all.length
  bq : B ≤ q
  eq : D ++ E = all
theorem Sl.frNe' {w w' : World} {B : Nat} {A : Option Addr} {n c : Nat} {xs : List Value} {S : Nat → Prop} (h : Sl w B A xs) (hf : Fr S w w') (hB : B ≤ w.heap.size) (hn : ∀ g, (Value.slice A n c).ownBlock = some g → ¬ S g) : Sl w' B A xs := by
  rcases h with h | ⟨b, off, ha, hb, hc⟩
  · exact .inl h
  · exact .inr ⟨b, off, ha, hb, fun i u hu => (hf.cell (p := ⟨b, off + i, none⟩) (show b < _ by omega) (hn b (by rw [ha]; rfl))).trans (hc i u hu)⟩
theorem DS.below {w w' : World} {B q : Nat} {D E all : List UInt8} (h : DS w B q D E all) (hb : Below w.heap.size w w') : DS w' B q D E all :=
  have f : Fr (fun _ => False) w w' := Fr.of_below hb _
  ⟨Whole.fr h.d f id, Whole.fr h.e f id, Whole.fr h.h f id, h.bq, h.eq⟩

set_option maxRecDepth 100000 in
set_option maxHeartbeats 4000000 in
theorem crcDigests_walk (a : Option Addr) (l : List PartV) (cap at_ : Nat) (w : World) (hl : l.length ≤ maxLen) (_hlc : l.length ≤ cap) (hok : ∀ o ∈ l, o.ok w) (hsl : Sl w w.heap.size a (l.flatMap PartV.cells)) (hat : at_ < 256) (ht : Steps w) :
    Calls Tryd.prog 5 #[.slice a l.length cap, .int .u8 (at_ : Int)] w fun e w' => e = .returned (.bool true) ∧ Below w.heap.size w w' := by
  unfold maxLen at hl
  have HS := Lib.hid hsl
  have HK := Lib.hid hok
  have HT := Lib.hid ht
  have htl := ht.lt
  clear hsl hok ht
  by_cases few : l.length ≤ 30
  case neg =>
    have t1 : decide ((30 : Int) < (l.length : Int)) = true := decide_eq_true (by omega)
    go_enter Tryd.func5, Tryd.ntmps5
    go_wp2_with fail
    refine (awake_any w HT.out).mono ?_
    rintro e w1 ⟨rfl, hb1⟩
    go_wp2_with fail
    go_ret
    exact ⟨rfl, hb1⟩
  have t1 : decide ((30 : Int) < (l.length : Int)) = false := decide_eq_false (by omega)
  go_enter Tryd.func5, Tryd.ntmps5
  go_wp2_with fail
  refine (awake_any w HT.out).mono ?_
  rintro e w1 ⟨rfl, hb1⟩
  have HB1 := Lib.hid hb1
  have hs1 := hb1.size
  clear hb1
  go_wp2_with fail
  obtain ⟨w2, hw2, hD2, hB2⟩ : ∃ w2, ((w1.alloc (.cells #[.int .u32 0, .int .i64 0] 31)).alloc (.cells #[.int .u32 0, .int .i64 0] 31)).alloc (.cells #[.int .u32 0, .int .i64 0] 31) = w2 ∧ DS w2 w.heap.size w1.heap.size [] [] [] ∧ Below w.heap.size w w2 := by
    have h0 : Crc.update 0 [] = 0 := by decide
    refine ⟨_, rfl, ⟨?_, ?_, ?_, hs1, rfl⟩, ((HB1.out.alloc hs1 _).alloc (by simp; omega) _).alloc (by simp; omega) _⟩
    · unfold DigS; rw [h0]
      exact (((Whole.new w1 _ _).alloc _).alloc _)
    · unfold DigS; rw [h0]
      have h := ((Whole.new (w1.alloc (.cells #[.int .u32 0, .int .i64 0] 31)) 31 #[.int .u32 0, .int .i64 0]).alloc (.cells #[.int .u32 0, .int .i64 0] 31))
      simpa using h
    · unfold DigS; rw [h0]
      have h := (Whole.new ((w1.alloc (.cells #[.int .u32 0, .int .i64 0] 31)).alloc (.cells #[.int .u32 0, .int .i64 0] 31)) 31 #[.int .u32 0, .int .i64 0])
      simpa using h
  have HD2 := Lib.hid hD2
  have HB2 := Lib.hid hB2
  rw [hw2]
  clear hw2 hD2 hB2
  go_loopw [5, 9] (fun av i wr => ∃ (k : Nat) (A : Option Addr) (c : Nat) (all D E : List UInt8), k ≤ l.length ∧ i = .int .i64 k ∧ av = .slice A all.length c ∧ wr.ownsRow (w1.heap.size + 3) 5 1 (.slice A all.length c) all.length (bytesV all) ∧ (k ≤ at_ → E = []) ∧ all.length ≤ 300 * k ∧ DS wr w.heap.size w1.heap.size D E all ∧ Below w.heap.size w wr) (fun _ i _ => l.length - (intOf i).toNat)
  case atStart => exact ⟨0, none, 0, [], [], [], Nat.zero_le _, rfl, rfl, World.ownsRow_nil _ _ _ _, fun _ => rfl, by simp, HD2.out, HB2.out⟩
  case round =>
    obtain ⟨k, A, c, all, D, E, hk, rfl, rfl, hown, hE, hDl, hDS, hbel⟩ := hrel
    have HO := Lib.hid hown
    have HE := Lib.hid hE
    have HDS := Lib.hid hDS
    have HB := Lib.hid hbel
    have hbs := hbel.size
    have hDEl : D.length + E.length = all.length := by rw [← hDS.eq, List.length_append]
    have hpw : w1.heap.size + 1 + 1 < wr.heap.size := Whole.lt hDS.h
    have HDE := Lib.hid hDEl
    have hDb : D.length ≤ 9000 := by omega
    have hEb : E.length ≤ 9000 := by omega
    clear hown hE hDS hbel hDEl
    by_cases hlt : k < l.length
    · have hx := List.getElem?_eq_getElem hlt
      have hxo := HK.out _ (List.mem_of_getElem? hx)
      generalize l[k] = x at hx hxo
      obtain ⟨b, off, rfl, hbB, q0⟩ := parts_at (HS.out.below HB.out (Nat.le_refl _)) hx
      have HSX := Lib.hid hxo.sl
      obtain ⟨xa, xd, xc⟩ := x
      simp only [] at q0 HSX
      clear hxo hx
      have k0 : (0 : Int) ≤ (k : Int) := Int.natCast_nonneg _
      have k1 : (k : Int) < (l.length : Int) := by omega
      by_cases h300 : xd.length ≤ 300
      case neg =>
        have t2 : decide ((300 : Int) < (xd.length : Int)) = true := decide_eq_true (by omega)
        go_wp2_with fail
        go_ret
        exact ⟨rfl, HB.out⟩
      have t2 : decide ((300 : Int) < (xd.length : Int)) = false := decide_eq_false (by omega)
      have JN := Lib.hid (refJoin_any all xd A xa c xc wr.heap.size wr (by omega) (by omega) (Sl.of_own HO.out) ((HSX.out.below HB.out (Nat.le_refl _)).more hbs) (Nat.le_refl _))
      go_wp2_with fail
      (with_reducible refine JN.out.mono ?_)
      rintro e w3 ⟨A3, c3, rfl, hown3, hb3⟩
      rw [len_bytesV] at hown3 ⊢
      obtain ⟨all2, hall2⟩ : ∃ a2, a2 = all ++ xd := ⟨_, rfl⟩
      rw [← hall2] at hown3 ⊢
      have hal2 : all.length + xd.length = all2.length := by rw [hall2, List.length_append]
      have HAL2 := Lib.hid hal2
      have HALL := Lib.hid hall2
      have h2b : all2.length ≤ 300 * (k + 1) := by omega
      have HB3 := Lib.hid (HB.out.trans (hb3.mono hbs))
      have HO3 := Lib.hid (own_base hown3 (show w1.heap.size + 3 ≤ wr.heap.size by omega))
      have hD3 := HDS.out.below hb3
      have hs3 := HB3.out.size
      have q3 : w3.cell? ⟨b, off + k, none⟩ = some (.slice xa xd.length xc) := (hb3.cell (p := ⟨b, off + k, none⟩) (show b < _ by omega)).trans q0
      have WW := Lib.hid (digWrite_any (w1.heap.size + 1 + 1) (Crc.update 0 all) all.length xd xa xc w.heap.size w3 hD3.h (Crc.update_lt (by decide) _) (by omega) (by omega) (HSX.out.below HB3.out (Nat.le_refl _)) (HT.out.below HB3.out htl))
      have HD3 := Lib.hid hD3
      clear hown3 hb3 hD3 JN hall2 hal2
      go_wp2_with fail
      (with_reducible refine WW.out.mono ?_)
      rintro e w4 ⟨rfl, hw4, hf4⟩
      rw [← Crc.update_append, ← HALL.out, HAL2.out] at hw4
      have HW4 := Lib.hid hw4
      have HF4 := Lib.hid hf4
      have HB4 := Lib.hid (HB3.out.trans (hf4.below hs3 (fun y hy hh => by omega)))
      have hs4 := HB4.out.size
      have q4 : w4.cell? ⟨b, off + k, none⟩ = some (.slice xa xd.length xc) := (hf4.cell (p := ⟨b, off + k, none⟩) (show b < _ by omega) (show ¬ b = _ by omega)).trans q3
      have HO4 := Lib.hid (own_fr HO3.out hf4 (fun g hg hh => by have := (HO3.out.lt g hg).1; omega))
      clear hw4 hf4 WW
      by_cases hka : k < at_
      · have hE0 : E = [] := HE.out (by omega)
        subst hE0
        have t3 : decide ((k : Int) < (at_ : Int)) = true := decide_eq_true (by omega)
        have t4 : decide (k < at_) = true := decide_eq_true hka
        have WD := Lib.hid (digWrite_any w1.heap.size (Crc.update 0 D) D.length xd xa xc w.heap.size w4 (Whole.fr HD3.out.d HF4.out (show ¬ w1.heap.size = _ by omega)) (Crc.update_lt (by decide) _) (by omega) (by omega) (HSX.out.below HB4.out (Nat.le_refl _)) (HT.out.below HB4.out htl))
        go_wp2_with fail
        (with_reducible refine WD.out.mono ?_)
        rintro e w5 ⟨rfl, hw5, hf5⟩
        rw [← Crc.update_append] at hw5
        have HB5 := Lib.hid (HB4.out.trans (hf5.below hs4 (fun y hy hh => by omega)))
        have HD5 := Lib.hid (show DS w5 w.heap.size w1.heap.size (D ++ xd) [] all2 from
          ⟨by rw [List.length_append]; exact hw5, Whole.fr (Whole.fr HD3.out.e HF4.out (show ¬ w1.heap.size + 1 = _ by omega)) hf5 (show ¬ w1.heap.size + 1 = _ by omega), Whole.fr HW4.out hf5 (show ¬ w1.heap.size + 1 + 1 = _ by omega), HD3.out.bq, by
            rw [HALL.out, ← HD3.out.eq]; simp⟩)
        have HO5 := Lib.hid (own_fr HO4.out hf5 (fun g hg hh => by have := (HO4.out.lt g hg).1; omega))
        clear hw5 hf5 WD
        go_wp2_with fail
        go_roundw
        case rel => exact ⟨k + 1, A3, c3, all2, D ++ xd, [], by omega, by go_num, rfl, HO5.out, fun _ => rfl, h2b, HD5.out, HB5.out⟩
        case measure => simp [intOf]; omega
      · have t3 : decide ((k : Int) < (at_ : Int)) = false := decide_eq_false (by omega)
        have t4 : decide (k < at_) = false := decide_eq_false hka
        have WE := Lib.hid (digWrite_any (w1.heap.size + 1) (Crc.update 0 E) E.length xd xa xc w.heap.size w4 (Whole.fr HD3.out.e HF4.out (show ¬ w1.heap.size + 1 = _ by omega)) (Crc.update_lt (by decide) _) (by omega) (by omega) (HSX.out.below HB4.out (Nat.le_refl _)) (HT.out.below HB4.out htl))
        go_wp2_with fail
        (with_reducible refine WE.out.mono ?_)
        rintro e w5 ⟨rfl, hw5, hf5⟩
        rw [← Crc.update_append] at hw5
        have HB5 := Lib.hid (HB4.out.trans (hf5.below hs4 (fun y hy hh => by omega)))
        have HD5 := Lib.hid (show DS w5 w.heap.size w1.heap.size D (E ++ xd) all2 from
          ⟨Whole.fr (Whole.fr HD3.out.d HF4.out (show ¬ w1.heap.size = _ by omega)) hf5 (show ¬ w1.heap.size = _ by omega), by rw [List.length_append]; exact hw5, Whole.fr HW4.out hf5 (show ¬ w1.heap.size + 1 + 1 = _ by omega), HD3.out.bq, by
            rw [HALL.out, ← HD3.out.eq]; simp⟩)
        have HO5 := Lib.hid (own_fr HO4.out hf5 (fun g hg hh => by have := (HO4.out.lt g hg).1; omega))
        clear hw5 hf5 WE
        go_wp2_with fail
        go_roundw
        case rel => exact ⟨k + 1, A3, c3, all2, D, E ++ xd, by omega, by go_num, rfl, HO5.out, fun h => by omega, h2b, HD5.out, HB5.out⟩
        case measure => simp [intOf]; omega
    · have JO := Lib.hid (digJoin_any w1.heap.size (Crc.update 0 D) D.length (Crc.update 0 E) E.length wr HDS.out.d (Crc.update_lt (by decide) _) (Crc.update_lt (by decide) _) (by omega) (by omega))
      rw [← Crc.update_join, ← Crc.update_append, HDS.out.eq, HDE.out] at JO
      have e0 := Whole.cell HDS.out.e 0
      have e1 := Whole.cell HDS.out.e 1
      simp at e0 e1
      have HH := Lib.hid HDS.out.h
      have HRU := Lib.hid (fun W (hsl : Sl W wr.heap.size A (bytesV all)) => ref_update 0 A all c wr.heap.size W (by unfold maxLen; omega) (by decide) hsl)
      generalize hX : Crc.update 0 E = X at JO e0
      generalize hU : Crc.update 0 all = U at JO HH HRU
      clear hX hU
      go_wp2_with fail
      (with_reducible refine JO.out.mono ?_)
      rintro e w3 ⟨rfl, hw3, hf3⟩
      have HB3 := Lib.hid (HB.out.trans (hf3.below hbs (fun y hy hh => by omega)))
      have HO3 := own_fr HO.out hf3 (fun g hg hh => by have := (HO.out.lt g hg).1; omega)
      have HW3 := Lib.hid hw3
      have HV3 := Lib.hid (Whole.fr HH.out hf3 (show ¬ w1.heap.size + 1 + 1 = _ by omega))
      have RU := Lib.hid (HRU.out w3 ((Sl.of_own HO.out).frNe' hf3 (Nat.le_refl _) (fun g hg hh => by have := (HO.out.lt g hg).1; omega)))
      clear hw3 hf3 HO3 JO
      go_wp2_with fail
      refine RU.out.mono ?_
      rintro e w4 ⟨rfl, rfl⟩
      go_wp2_with fail
      refine (digSum_any (w1.heap.size + 1 + 1) U all.length w3 HV3.out).mono ?_
      rintro e w4 ⟨rfl, rfl⟩
      go_wp2_with fail
      refine (digLen_any (w1.heap.size + 1 + 1) U all.length w3 HV3.out).mono ?_
      rintro e w4 ⟨rfl, rfl⟩
      go_wp2_with fail
      refine (digSum_any w1.heap.size U all.length w3 HW3.out).mono ?_
      rintro e w4 ⟨rfl, rfl⟩
      go_wp2_with fail
      refine (digLen_any w1.heap.size U all.length w3 HW3.out).mono ?_
      rintro e w4 ⟨rfl, rfl⟩
      go_wp2_with fail
      go_ret
      exact ⟨rfl, HB3.out⟩
end Go.Proofs.YtiaiioaiifaahaaDoor
