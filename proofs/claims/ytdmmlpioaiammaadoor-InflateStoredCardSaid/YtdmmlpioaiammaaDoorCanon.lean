/-
  canon: tally, Kind.
-/
import Derived.Test.YtdmmlpioaiammaaDoorProg
import Derived.Test.YtdmmlpioaiammaaDoorAppend
import Derived.Laws.ResultCell
import Derived.Deep.Cut
import Derived.Deep.QuietTactic
import Derived.BigQuiet
import Derived.IntWalk
namespace Go.Proofs.YtdmmlpioaiammaaDoor
open Go.RowKit

/-- how many of each length from 0 to 15 -/
def tal (l : List Int) : List Int := (List.range 16).map fun i : Nat => ((l.count (i : Int) : Nat) : Int)
theorem len_tal (l : List Int) : (tal l).length = 16 := by simp [tal]
theorem tal_get (l : List Int) (i : Nat) (h : i < 16) : (tal l)[i]? = some ((l.count (i : Int) : Nat) : Int) := by simp [tal, h]
theorem tal_snoc (l : List Int) (x : Int) (k : Nat) (hx : x = (k : Int)) (h2 : k < 16) : (tal l).set k (((l.count x : Nat) : Int) + 1) = tal (l ++ [x]) := by
  apply List.ext_getElem?
  intro i
  by_cases hi : i < 16
  · rw [List.getElem?_set, tal_get _ i hi, tal_get _ i hi, len_tal, List.count_append]
    by_cases e : k = i
    · subst e hx; simp [h2]
    · rw [if_neg e]
      have : List.count (i : Int) [x] = 0 := List.count_eq_zero.2 (by simp; omega)
      rw [this]; simp
  · rw [List.getElem?_eq_none (by simp [len_tal]; omega), List.getElem?_eq_none (by simp [len_tal]; omega)]
theorem tal_skip (l : List Int) (x : Int) (h : x < 0 ∨ 15 < x) : tal (l ++ [x]) = tal l := by
  apply List.ext_getElem?
  intro i
  by_cases hi : i < 16
  · rw [tal_get _ i hi, tal_get _ i hi, List.count_append, show List.count (i : Int) [x] = 0 from List.count_eq_zero.2 (by simp; omega)]
    simp
  · rw [List.getElem?_eq_none (by simp [len_tal]; omega), List.getElem?_eq_none (by simp [len_tal]; omega)]
/-- are all lengths from 0 to 15 -/
def rightB (l : List Int) : Bool := l.all fun x => decide (0 ≤ x) && decide (x ≤ 15)
theorem rightB_snoc (l : List Int) (x : Int) : rightB (l ++ [x]) = (rightB l && (decide (0 ≤ x) && decide (x ≤ 15))) := by simp [rightB]

theorem wpList_store_wh {P : Program} {ops : Array Oper} {rest : List Oper} {o : Oper} {a : Act} {w : World} {Q : Exit → Act → World → Prop} (hgd : o.guard = none) (ty : TypeId) (x y : Operand) (ho : o.op = .store ty x y)
    (g : Nat) (cells : Array Value) (hx : a.eval x = .pointer (some ⟨g, 0, none⟩)) (hy : a.eval y = .agg cells)
    (t : TypeId) (old : Array Value) (hg : Whole w g t old) (hi : (P.info? ty).map (·.size) = some cells.size)
    (hold : old.size = cells.size) (h1 : cells.all (·.oneCell') = true)
    (h : ∀ w', Whole w' g t cells → Fr (fun k => k = g) w w' → wpList P ops Q rest (a.put o.dst undef) w') : wpList P ops Q (o :: rest) a w :=
  wpList_store_row hgd ty x y ho g cells hx hy t old hg hi hold h1 (h _ (setRow_heap w g _ _ t _ hg) ⟨rfl, rfl, rfl, by simp [World.setRow], fun k _ hn => setRow_other w g k _ hn⟩)
theorem ints_all1 (l : List Int) : (intsV l).toArray.all (·.oneCell') = true := Array.all_eq_true_iff_forall_mem.2 fun v hv => int64s_oneCell l v (by simpa using hv)
theorem size_ints (l : List Int) (n : Nat) (h : l.length = n) : (intsV l).toArray.size = n := by simp [intsV, h]

def TalRel (w : World) (l : List Int) (wr : World) : Prop := Whole wr (w.heap.size + 1) 78 (intsV (tal l)).toArray ∧ (∃ c, Whole wr w.heap.size 78 c ∧ c.size = 16) ∧ Below w.heap.size w wr

set_option maxHeartbeats 1000000 in
theorem tally_any (l : List Int) (a : Option Addr) (c B : Nat) (w : World) (hl : l.length ≤ 1000000) (hs : Sl w B a (intsV l)) (hB : B ≤ w.heap.size) :
    Calls Tryd.prog 59 #[.slice a l.length c] w fun e w' => e = .returned (.tuple #[.agg (intsV (tal l)).toArray, .bool (rightB l)]) ∧ Below w.heap.size w w' := by
  have HS := Lib.hid hs
  clear hs
  go_enter Tryd.func59, Tryd.ntmps59
  go_wp2_with fail
  have HW := Lib.hid (Whole.new (w.alloc (.cells #[.int .i64 0, .int .i64 0, .int .i64 0, .int .i64 0, .int .i64 0, .int .i64 0, .int .i64 0, .int .i64 0, .int .i64 0, .int .i64 0, .int .i64 0, .int .i64 0, .int .i64 0, .int .i64 0, .int .i64 0, .int .i64 0] 78)) 78 #[.int .i64 0, .int .i64 0, .int .i64 0, .int .i64 0, .int .i64 0, .int .i64 0, .int .i64 0, .int .i64 0, .int .i64 0, .int .i64 0, .int .i64 0, .int .i64 0, .int .i64 0, .int .i64 0, .int .i64 0, .int .i64 0])
  go_loopw [5, 10] (fun r i wr => ∃ k : Nat, k ≤ l.length ∧ i = .int .i64 k ∧ r = .bool (rightB (l.take k)) ∧ TalRel w (l.take k) wr) (fun _ i _ => l.length - (intOf i).toNat)
  case atStart =>
    refine ⟨0, Nat.zero_le _, rfl, rfl, ?_, ⟨_, (Whole.new _ _ _).alloc _, rfl⟩, ((Below.refl _ _).alloc (Nat.le_refl _) _).alloc (by simp) _⟩
    have h := HW.out
    rw [show #[Value.int .i64 0, .int .i64 0, .int .i64 0, .int .i64 0, .int .i64 0, .int .i64 0, .int .i64 0, .int .i64 0, .int .i64 0, .int .i64 0, .int .i64 0, .int .i64 0, .int .i64 0, .int .i64 0, .int .i64 0, .int .i64 0] = (intsV (tal [])).toArray from rfl] at h
    exact (show (w.alloc _).heap.size = w.heap.size + 1 by simp) ▸ h
  case round =>
    obtain ⟨k, hk, rfl, rfl, hW, ⟨c0, hc0, hc0s⟩, hbr⟩ := hrel
    clear HW
    by_cases hlt : k < l.length
    · obtain ⟨b, off, rfl, _, hcell⟩ := (HS.out.below hbr hB).int hlt
      have HT := Lib.hid (show l.take (k + 1) = l.take k ++ [l[k]] from List.take_succ_eq_append_getElem hlt)
      have HC0 := Lib.hid hc0
      have HBR := Lib.hid hbr
      have hsz := hW.lt
      have hcnt : (l.take k).count l[k] ≤ 1000000 := Nat.le_trans List.count_le_length (by rw [List.length_take]; omega)
      generalize l[k] = x at hcell HT hcnt
      have k0 : (0 : Int) ≤ (k : Int) := Int.natCast_nonneg _
      have k1 : (k : Int) < (l.length : Int) := by omega
      generalize l.take k = M at HT hW hcnt
      by_cases hx : 0 ≤ x ∧ x ≤ 15
      · obtain ⟨x0, x1⟩ := hx
        obtain ⟨m, rfl⟩ := Int.eq_ofNat_of_zero_le x0
        have hcm := hW.cell m
        have hfm := hW.frozen m
        rw [show (intsV (tal M)).toArray[m]? = some (.int .i64 ((M.count (m : Int) : Nat) : Int)) by simp [intsV, tal_get M m (by omega)]] at hcm
        have HW := Lib.hid hW
        have t1 : decide ((m : Int) ≤ 15) = true := decide_eq_true x1
        obtain ⟨cn, hcn⟩ : ∃ cn, cn = M.count (m : Int) := ⟨_, rfl⟩
        rw [← hcn] at hcm hcnt
        have HCN := Lib.hid hcn
        clear hW hc0 hbr hcn
        go_wp2_with fail
        go_roundw
        case rel =>
          refine ⟨k + 1, by omega, by go_num, ?_, ?_, ⟨c0, HC0.out.far (by show w.heap.size ≠ w.heap.size + 1; omega) _, hc0s⟩, HBR.out.setCell (by show w.heap.size ≤ w.heap.size + 1; omega) _⟩
          · rw [HT.out, rightB_snoc]; simp [x1]
          · have h := HW.out.set_ m (.int .i64 ((cn : Int) + 1))
            rw [HT.out, ← tal_snoc M m m rfl (by omega), ← HCN.out]
            simpa [intsV, List.map_set] using h
        case measure => simp [intOf]; omega
      · have HX := Lib.hid hx
        have HW := Lib.hid hW
        clear hW hc0 hbr
        by_cases h0 : 0 ≤ x
        · have t1 : decide (x ≤ 15) = false := decide_eq_false (by omega)
          have t0 : decide (0 ≤ x) = true := decide_eq_true h0
          clear hx
          go_wp2_with fail
          go_roundw
          case rel => exact ⟨k + 1, by omega, by go_num, by rw [HT.out, rightB_snoc, t1]; simp, by rw [HT.out, tal_skip _ _ (by have := HX.out; omega)]; exact HW.out, ⟨c0, HC0.out, hc0s⟩, HBR.out⟩
          case measure => simp [intOf]; omega
        · have t0 : decide (0 ≤ x) = false := decide_eq_false h0
          clear hx
          go_wp2_with fail
          go_roundw
          case rel => exact ⟨k + 1, by omega, by go_num, by rw [HT.out, rightB_snoc, t0]; simp, by rw [HT.out, tal_skip _ _ (by omega)]; exact HW.out, ⟨c0, HC0.out, hc0s⟩, HBR.out⟩
          case measure => simp [intOf]; omega
    · obtain rfl : k = l.length := by omega
      rw [List.take_length] at hW ⊢
      have HW := Lib.hid hW
      have HC0 := Lib.hid hc0
      have HBR := Lib.hid hbr
      clear hW hc0 hbr
      go_wp2_with (first | (refine wpList_load_row (by rfl) 78 (.tmp 4) (by rfl) (w.heap.size + 1) (by rfl) _ _ _ _ HW.out Tryd.underlying78 rfl (by rw [size_ints _ 16 (len_tal l)]; kernel_rfl) ?_) | (refine wpList_store_wh (by rfl) 78 (.tmp 2) (.tmp 26) (by rfl) w.heap.size (intsV (tal l)).toArray (by rfl) (by rfl) _ _ HC0.out (by rw [size_ints _ 16 (len_tal l)]; kernel_rfl) (by rw [size_ints _ 16 (len_tal l)]; exact hc0s) (ints_all1 _) ?_; intro w2 hw2 hf2; have HW2 := Lib.hid hw2; have HF2 := Lib.hid hf2; clear hw2 hf2))
      refine bodyPost_ret (v := .tuple #[.agg (intsV (tal l)).toArray, .bool (rightB l)]) ?_ rfl ⟨rfl, ?_⟩
      · rw [results_cell_tmp (p := 2) (u := 3) (ty := 78) Tryd.results59]
        have h := run_loadVar_row (P := Tryd.prog) w2 w.heap.size 78 78 _ (0, 0) _ HW2.out Tryd.underlying78 rfl (by rw [size_ints _ 16 (len_tal l)]; kernel_rfl)
        simp [asAddr, h]
      · exact HBR.out.trans (HF2.out.below (by have := HBR.out.size; omega) (fun k hk e => by omega))

/-- the parts of the whole that the codes of the lengths 1 .. k take -/
def psum (l : List Int) : Nat → Nat
  | 0 => 0
  | k + 1 => psum l k + l.count ((k + 1 : Nat) : Int) * 2 ^ (15 - (k + 1))
/-- how many codes of the lengths 1 .. k -/
def pcnt (l : List Int) : Nat → Nat
  | 0 => 0
  | k + 1 => pcnt l k + l.count ((k + 1 : Nat) : Int)
theorem psum_le (l : List Int) (k : Nat) (hk : k ≤ 15) : psum l k ≤ k * (32768 * l.length) := by
  induction k with
  | zero => simp [psum]
  | succ k ih =>
    have h1 := ih (by omega)
    have h2 : l.count ((k + 1 : Nat) : Int) ≤ l.length := List.count_le_length
    have h3 : 2 ^ (15 - (k + 1)) ≤ 2 ^ 15 := Nat.pow_le_pow_right (by omega) (by omega)
    have h4 : l.count ((k + 1 : Nat) : Int) * 2 ^ (15 - (k + 1)) ≤ l.length * 2 ^ 15 := Nat.mul_le_mul h2 h3
    unfold psum
    rw [Nat.add_mul]
    omega
theorem pcnt_le (l : List Int) (k : Nat) : pcnt l k ≤ k * l.length := by
  induction k with
  | zero => simp [pcnt]
  | succ k ih =>
    have h2 : l.count ((k + 1 : Nat) : Int) ≤ l.length := List.count_le_length
    unfold pcnt
    rw [Nat.add_mul]
    omega
theorem part_val {t s cn k : Nat} (h : t = s + cn * 2 ^ (15 - (k + 1))) (hk : k < 15) (hc : cn ≤ 1000000) (hs : s ≤ 491520000000) : wrap64 ((s : Int) + wrap64 ((cn : Int) * (32768 / 2 ^ (k + 1)))) = (t : Int) := by
  have hp : (32768 : Int) / 2 ^ (k + 1) = ((2 ^ (15 - (k + 1)) : Nat) : Int) := by
    have h1 : (32768 : Nat) / 2 ^ (k + 1) = 2 ^ (15 - (k + 1)) := by
      rw [show (32768 : Nat) = 2 ^ 15 from rfl, Nat.pow_div (by omega) (by omega)]
    rw [← h1]; simp
  rw [hp]
  have h3 : 2 ^ (15 - (k + 1)) ≤ 2 ^ 15 := Nat.pow_le_pow_right (by omega) (by omega)
  have h4 : cn * 2 ^ (15 - (k + 1)) ≤ 1000000 * 2 ^ 15 := Nat.mul_le_mul hc h3
  rw [← Int.natCast_mul]
  generalize cn * 2 ^ (15 - (k + 1)) = z at *
  subst h
  rw [show wrap64 ((z : Nat) : Int) = (z : Int) from IntWalk.wrap64_in _ (by omega)]
  rw [show wrap64 ((s : Int) + (z : Int)) = (s : Int) + (z : Int) from IntWalk.wrap64_in _ (by omega)]
  omega
/-- of which kind a set of lengths is -/
def kindOf (l : List Int) : Int :=
  if rightB l = false then 5 else if 32768 < psum l 15 then 4 else if pcnt l 15 = 0 then 0 else if psum l 15 = 32768 then 3 else if pcnt l 15 = 1 ∧ l.count 1 = 1 then 1 else 2

def KindRel (w : World) (p : Nat) (l : List Int) (wr : World) : Prop := Whole wr p 78 (intsV (tal l)).toArray ∧ Below w.heap.size w wr

set_option maxHeartbeats 1000000 in
theorem kind_any (l : List Int) (a : Option Addr) (c B : Nat) (w : World) (hl : l.length ≤ 1000000) (hs : Sl w B a (intsV l)) (hB : B ≤ w.heap.size) :
    Calls Tryd.prog 58 #[.slice a l.length c] w fun e w' => e = .returned (.int .i64 (kindOf l)) ∧ Below w.heap.size w w' := by
  have TA := Lib.hid (tally_any l a c B w hl hs hB)
  clear hs
  have hR : rightB l = true ∨ rightB l = false := by cases rightB l <;> simp
  obtain ⟨r, hr⟩ : ∃ r, r = rightB l := ⟨_, rfl⟩
  rw [← hr] at TA hR
  have HR := Lib.hid hr
  clear hr
  go_enter Tryd.func58, Tryd.ntmps58
  go_wp2_with fail
  (with_reducible refine TA.out.mono ?_)
  rintro e w1 ⟨rfl, hb1⟩
  have HB1 := Lib.hid hb1
  have hs1 := hb1.size
  clear hb1 TA
  rcases hR with rfl | rfl
  · go_wp2_with (refine wpList_store_wh (by rfl) 78 (.tmp 3) (.tmp 11) (by rfl) w1.heap.size (intsV (tal l)).toArray (by rfl) (by rfl) _ _ (Whole.new _ _ _) (by rw [size_ints _ 16 (len_tal l)]; kernel_rfl) (by rw [size_ints _ 16 (len_tal l)]; rfl) (ints_all1 _) ?_; intro w2 hw2 hf2; have HW2 := Lib.hid (show KindRel w w1.heap.size l w2 from ⟨hw2, (HB1.out.alloc (by omega) _).trans (hf2.below (by simp; omega) (fun k hk e => by omega))⟩); clear hw2 hf2)
    obtain ⟨q, hq⟩ : ∃ q, q = w1.heap.size := ⟨_, rfl⟩
    rw [← hq] at HW2 ⊢
    clear hq
    go_loopw [5, 6, 7] (fun s d i wr => ∃ k : Nat, k ≤ 15 ∧ i = .int .i64 ((k : Int) + 1) ∧ s = .int .i64 (psum l k : Int) ∧ d = .int .i64 (pcnt l k : Int) ∧ KindRel w q l wr) (fun _ _ i _ => 20 - (intOf i).toNat)
    case atStart => exact ⟨0, by omega, rfl, rfl, rfl, HW2.out⟩
    case round =>
      obtain ⟨k, hk, rfl, rfl, rfl, hW, hbr⟩ := hrel
      clear HW2
      have hps := psum_le l k hk
      have hpc := pcnt_le l k
      have hps2 := psum_le l 15 (Nat.le_refl _)
      have hpc2 := pcnt_le l 15
      have HW := Lib.hid hW
      have HBR := Lib.hid hbr
      by_cases hlt : k < 15
      · have hcm := hW.cell (k + 1)
        have hct : l.count (((k + 1 : Nat)) : Int) ≤ l.length := List.count_le_length
        rw [show (intsV (tal l)).toArray[k + 1]? = some (.int .i64 ((l.count ((k + 1 : Nat) : Int) : Nat) : Int)) by simp [intsV, tal_get l (k + 1) (by omega)]] at hcm
        have HPS := Lib.hid (show psum l (k + 1) = psum l k + l.count ((k + 1 : Nat) : Int) * 2 ^ (15 - (k + 1)) from rfl)
        have HPC := Lib.hid (show pcnt l (k + 1) = pcnt l k + l.count ((k + 1 : Nat) : Int) from rfl)
        generalize l.count ((k + 1 : Nat) : Int) = cn at hcm hct HPS HPC
        generalize psum l k = s at hps HPS
        generalize pcnt l k = d at hpc HPC
        clear hW hbr hps2 hpc2
        have k0 : (0 : Int) ≤ (k : Int) + 1 := by omega
        have k1 : (k : Int) + 1 < 16 := by omega
        have k2 : ((k : Int) + 1).toNat = k + 1 := by omega
        have HV := Lib.hid (show wrap64 ((s : Int) + wrap64 ((cn : Int) * (32768 / 2 ^ (k + 1)))) = ((psum l (k + 1) : Nat) : Int) from part_val HPS.out hlt (by omega) (by have : k * (32768 * l.length) ≤ 15 * (32768 * l.length) := Nat.mul_le_mul_right _ (by omega); omega))
        have hd2 : d ≤ 15000000 := by have : k * l.length ≤ 15 * l.length := Nat.mul_le_mul_right _ (by omega); omega
        obtain ⟨s2, hs2⟩ : ∃ s2, s2 = psum l (k + 1) := ⟨_, rfl⟩
        rw [← hs2] at HV
        have HS2 := Lib.hid hs2
        clear hs2 HPS
        clear hps hpc
        go_wp2_with fail
        go_quiet (fail)
        rw [HV.out]
        have hcm2 := hcm
        rw [← World.cell?_drewN wr nq] at hcm2
        go_wp2_with fail
        go_roundw
        case rel => exact ⟨k + 1, by omega, by go_num, by rw [HS2.out], by rw [HPC.out]; go_num, HW.out.drewN nq, below_drewN HBR.out nq⟩
        case measure => simp [intOf]; omega
      · obtain rfl : k = 15 := by omega
        have hc1 := hW.cell 1
        rw [show (intsV (tal l)).toArray[1]? = some (.int .i64 ((l.count (1 : Int) : Nat) : Int)) by simp [intsV, tal_get l 1 (by omega)]] at hc1
        have hct : l.count (1 : Int) ≤ l.length := List.count_le_length
        have HK := Lib.hid (show kindOf l = if 32768 < psum l 15 then 4 else if pcnt l 15 = 0 then 0 else if psum l 15 = 32768 then 3 else if pcnt l 15 = 1 ∧ l.count 1 = 1 then 1 else 2 by unfold kindOf; rw [← HR.out, if_neg (by simp)])
        generalize l.count (1 : Int) = c1 at hc1 hct HK
        generalize psum l 15 = s at HK hps
        generalize pcnt l 15 = d at HK hpc
        clear hW hbr hps2 hpc2 hlt hk
        by_cases e1 : 32768 < s
        · have t1 : decide ((32768 : Int) < (s : Int)) = true := decide_eq_true (by omega)
          have HE := Lib.hid (HK.out.trans (if_pos e1))
          go_wp2_with fail
          go_ret
          exact ⟨by rw [HE.out]; rfl, HBR.out⟩
        have t1 : decide ((32768 : Int) < (s : Int)) = false := decide_eq_false (by omega)
        have HK2 := Lib.hid (HK.out.trans (if_neg e1))
        by_cases e2 : d = 0
        · have t2 : ((d : Int) == 0) = true := by simp [e2]
          have HE := Lib.hid (HK2.out.trans (if_pos e2))
          have E2 := Lib.hid e2
          subst e2
          go_wp2_with fail
          go_ret
          exact ⟨by rw [HE.out]; rfl, HBR.out⟩
        have t2 : ((d : Int) == 0) = false := beq_eq_false_iff_ne.2 (by omega)
        have HK3 := Lib.hid (HK2.out.trans (if_neg e2))
        by_cases e3 : s = 32768
        · have HE := Lib.hid (HK3.out.trans (if_pos e3))
          subst e3
          go_wp2_with fail
          go_ret
          exact ⟨by rw [HE.out]; rfl, HBR.out⟩
        have t3 : ((s : Int) == 32768) = false := beq_eq_false_iff_ne.2 (by omega)
        have HK4 := Lib.hid (HK3.out.trans (if_neg e3))
        clear HK HK2 HK3
        by_cases e4 : d = 1
        · subst e4
          by_cases e5 : c1 = 1
          · have HE := Lib.hid (HK4.out.trans (if_pos ⟨rfl, e5⟩))
            subst e5
            go_wp2_with fail
            go_ret
            exact ⟨by rw [HE.out]; rfl, HBR.out⟩
          · have t5 : ((c1 : Int) == 1) = false := beq_eq_false_iff_ne.2 (by omega)
            have HE := Lib.hid (HK4.out.trans (if_neg (fun h => e5 h.2)))
            go_wp2_with fail
            go_ret
            exact ⟨by rw [HE.out]; rfl, HBR.out⟩
        · have t4 : ((d : Int) == 1) = false := beq_eq_false_iff_ne.2 (by omega)
          have HE := Lib.hid (HK4.out.trans (if_neg (fun h => e4 h.1)))
          go_wp2_with fail
          go_ret
          exact ⟨by rw [HE.out]; rfl, HBR.out⟩
  · go_wp2_with (refine wpList_store_wh (by rfl) 78 (.tmp 3) (.tmp 11) (by rfl) w1.heap.size (intsV (tal l)).toArray (by rfl) (by rfl) _ _ (Whole.new _ _ _) (by rw [size_ints _ 16 (len_tal l)]; kernel_rfl) (by rw [size_ints _ 16 (len_tal l)]; rfl) (ints_all1 _) ?_; intro w2 hw2 hf2; have HW2 := Lib.hid hw2; have HF2 := Lib.hid hf2; clear hw2 hf2)
    go_ret
    exact ⟨by unfold kindOf; rw [← HR.out]; rfl, (HB1.out.alloc (by omega) _).trans (HF2.out.below (by simp; omega) (fun k hk e => by omega))⟩
end Go.Proofs.YtdmmlpioaiammaaDoor
