/-
  The law ChainsTrue returns true: walk.
-/
import Derived.Test.YtjfmaebgihlegaaChainRef
import Derived.Test.YtjfmaebgihlegaaStr
import Derived.Lib.SlBytesConst
import Derived.Deep.RegionHeldLaw
namespace Go.Proofs.Ytjfmaebgihlegaa
open Go.RowKit Go.Maps

theorem waking15 : longL [97, 98, 99, 97, 98, 99, 97, 98] 3 1 = (5, 3) := by decide +kernel
set_option maxHeartbeats 1000000 in
theorem awake15_any (w : World) : Calls Try.prog 17 #[] w fun e w' => e = .returned (.bool true) ∧ Below w.heap.size w w' := by
  have kc := fun (w : World) (C : Array Value) (n c : Nat) => Lib.run_convert_bytes_const (P := Try.prog) w 22 5 C n c Try.underlying22 Try.underlying5
  have NW := Lib.hid (chainNew [97, 98, 99, 97, 98, 99, 97, 98] (some ⟨w.heap.size, 0, none⟩) 8 (w.heap.size + 1) (w.alloc (.cells #[.int .u8 97, .int .u8 98, .int .u8 99, .int .u8 97, .int .u8 98, .int .u8 99, .int .u8 97, .int .u8 98] 5 (8, 9))) (by decide) (Sl.new_ w _ _ _) (by simp))
  go_enter Try.func17, Try.ntmps17
  go_wp2_with fail
  (refine NW.out.mono ?_)
  rintro e w1 ⟨q, rfl, hF, hq, hsz, hb1⟩
  have HB1 := Lib.hid (((Below.refl w.heap.size w).alloc (Nat.le_refl _) _).trans (hb1.mono (by simp)))
  have hq2 : w.heap.size ≤ q := by simp at hq; omega
  have LE := Lib.hid (learn_any _ q _ 0 3 w1 hF (by decide) (by decide))
  have hw1 : w.heap.size ≤ w1.heap.size := by omega
  clear hF hb1 NW hsz
  go_wp2_with fail
  (refine LE.out.mono ?_)
  rintro e w2 ⟨rfl, hF2, hf2⟩
  have HB2 := Lib.hid (HB1.out.trans (hf2.below (B := w.heap.size) hw1 (fun k hk h => by omega)))
  have LO := Lib.hid (longest_some _ q _ _ 3 1 w2 hF2 (by decide) (by decide) (by decide))
  rw [waking15] at LO
  clear hF2 hf2 LE
  go_wp2_with fail
  (refine LO.out.mono ?_)
  rintro e w3 ⟨rfl, n3, rfl⟩
  go_wp2_with fail
  go_ret
  exact ⟨rfl, below_drewN HB2.out n3⟩

theorem chainsTrue_out (a : Option Addr) (D : List UInt8) (cap i d : Nat) (w : World) (hl : D.length ≤ maxLen) (hx : 600 < D.length ∨ D.length = 0) :
    Calls Try.prog 5 #[.slice a D.length cap, .int .u16 (i : Int), .int .u8 (d : Int)] w fun e w' => e = .returned (.bool true) ∧ Below w.heap.size w w' := by
  unfold maxLen at hl
  by_cases h4 : 600 < D.length
  · have t1 : decide ((600 : Int) < (D.length : Int)) = true := decide_eq_true (by omega)
    have t2 : decide (600 < D.length) = true := decide_eq_true (by omega)
    clear hx
    go_enter Try.func5, Try.ntmps5
    go_wp2_with fail
    (with_reducible refine (awake15_any w).mono ?_)
    rintro e w1 ⟨rfl, hb1⟩
    go_wp2_with fail
    go_ret
    exact ⟨rfl, hb1⟩
  · obtain rfl : D = [] := List.eq_nil_of_length_eq_zero (by omega)
    go_enter Try.func5, Try.ntmps5
    clear hx h4
    go_wp2_with fail
    (with_reducible refine (awake15_any w).mono ?_)
    rintro e w1 ⟨rfl, hb1⟩
    go_wp2_with fail
    go_ret
    exact ⟨rfl, hb1⟩

/-- bytes from a place on -/
def part (D : List UInt8) (i n : Nat) : List UInt8 := (D.drop i).take n
theorem len_part (D : List UInt8) (i n : Nat) (h : i + n ≤ D.length) : (part D i n).length = n := by unfold part; rw [List.length_take, List.length_drop]; omega
theorem part_get (D : List UInt8) (i n k : Nat) (h : i + n ≤ D.length) (hk : k < n) : (part D i n)[k]? = some (D.getD (i + k) 0) := by
  unfold part
  rw [List.getElem?_take, if_pos hk, List.getElem?_drop, List.getD_eq_getElem?_getD, List.getElem?_eq_getElem (by omega)]
  rfl
theorem bt_inj {D : List UInt8} {i j : Nat} (h : bt D i = bt D j) : D.getD i 0 = D.getD j 0 := UInt8.toNat_inj.1 h
theorem match_eq (D : List UInt8) (i s t : Nat) (h1 : 1 ≤ t) (h2 : t ≤ i) (h3 : i + s ≤ D.length) (h : ∀ j, j < s → bt D (i - t + j) = bt D (i + j)) : (part D (i - t) t ++ part D i s).take s = part D i s := by
  apply List.ext_getElem?
  intro k
  rw [List.getElem?_take]
  by_cases hk : k < s
  · rw [if_pos hk, part_get D i s k h3 hk]
    by_cases hkt : k < t
    · rw [List.getElem?_append_left (by rw [len_part D _ _ (by omega)]; exact hkt), part_get D _ _ k (by omega) hkt, bt_inj (h k hk)]
    · rw [List.getElem?_append_right (by rw [len_part D _ _ (by omega)]; omega), len_part D _ _ (by omega), part_get D i s (k - t) h3 (by omega)]
      have := h k hk
      rw [show i - t + k = i + (k - t) by omega] at this
      rw [bt_inj this]
  · rw [if_neg hk, List.getElem?_eq_none (by rw [len_part D i s h3]; omega)]
theorem Sl.part {w : World} {B : Nat} {a : Option Addr} {D : List UInt8} (h : Sl w B a (bytesV D)) (cap i n : Nat) (hc : D.length ≤ cap) : Sl w B (restAt a cap i) (bytesV (part D i n)) := by
  have h1 := (h.rest cap i (by rw [len_bytesV]; exact hc)).take n
  have e : bytesV (Go.Proofs.Ytjfmaebgihlegaa.part D i n) = ((bytesV D).drop i).take n := by simp [bytesV, Go.Proofs.Ytjfmaebgihlegaa.part, List.map_take, List.map_drop]
  rw [e]
  exact h1

/-- as step_append_sl, at an operation whose guard is met -/
theorem step_append_g {P : Program} {w : World} {ops : Array Oper} {o : Oper} {a : Act} {K : Act → World → Prop} {Q : Exit → Act → World → Prop} {E : Prop} (hw : Region.wanted o (yielded ops a.tmps) = true) (s x : Operand) (t : TypeId)
    (ho : o.op = .call { callee := .builtin .append, args := #[s, x], argTypes := #[t, t] })
    (base : Nat) (e : TypeId) (i : TypeInfo) (z : Value) (bytes : Nat) (ht : P.underlying t = some (.slice e)) (hi : P.info? e = some i) (hz : i.zero = some z)
    (hsize : i.size = 1) (hby : i.bytes = bytes) (hzs : z.cells.size = 1) (v : Value) (n : Nat) (xs : List Value) (hs : a.eval s = v) (hown : w.ownsRow base e 1 v n xs)
    (B : Nat) (A : Option Addr) (m c : Nat) (news : List Value) (hm : news.length = m) (hx : a.eval x = .slice A m c) (hr : Sl w B A news) (h1 : ∀ u ∈ news, u.oneCell' = true)
    (h63 : n + m ≤ maxLen) (hbytes : (n + m) * bytes ≤ 140737488355328) (hbase : base ≤ w.heap.size)
    (h : ∀ v' w', w'.ownsRow base e 1 v' (n + m) (xs ++ news) → w.grownBy w' v.ownBlock → (v'.ownBlock = v.ownBlock ∨ v'.ownBlock = some w.heap.size) → K (a.put o.dst v') w') :
    if Region.wanted o (yielded ops a.tmps) = true then Oper.wp P o a w K Q else E := by
  rw [if_pos hw]
  subst hm
  obtain ⟨v', w', hrun, h2, h3, h4⟩ := run_append_sl (P := P) w base t o.type e i z bytes ht hi hz hsize hby hzs v n xs hown B A c news hr h1 h63 hbytes hbase
  unfold Oper.wp execOp
  simp only [ho, resolve, invoke, builtin, Sem.run_bind, Sem.run_pure, Result.andThen_ok, List.map_toArray, List.map_cons, List.map_nil, hs, hx, hrun]
  exact h v' w' h2 h3 h4
theorem run_str2 {w : World} {base : Nat} {A : Option Addr} {c t s : Nat} {X Y : List UInt8} (h : w.ownsRow base 5 1 (.slice A (t + s) c) (t + s) (bytesV X ++ bytesV Y)) (he : (X ++ Y).take s = Y) (hl : Y.length = s) :
    (convert 22 9 (.slice A s c)).run Try.prog w = .ok (.string (strOf Y)) w := by
  have tk : (bytesV (X ++ Y)).take s = bytesV Y := by
    conv => rhs; rw [← he]
    simp only [bytesV, List.map_take]
  have h1 := (Sl.of_own h).take s
  rw [← bytes_append, tk] at h1
  have h2 := run_str (P := Try.prog) w w.heap.size 22 9 5 A Y c Try.underlying22 Try.underlying5 Try.underlying9 h1
  rw [hl] at h2
  exact h2

set_option maxRecDepth 100000 in
set_option maxHeartbeats 4000000 in
theorem chainsTrue_in (a : Option Addr) (D : List UInt8) (cap i d : Nat) (w : World) (hlc : D.length ≤ cap) (hsl : Sl w w.heap.size a (bytesV D)) (hi : i < 65536) (hd : d < 256) (hx1 : D.length ≤ 600) (hx2 : 0 < D.length) :
    Calls Try.prog 5 #[.slice a D.length cap, .int .u16 (i : Int), .int .u8 (d : Int)] w fun e w' => e = .returned (.bool true) ∧ Below w.heap.size w w' := by
  have HS := Lib.hid hsl
  have t1 : decide ((600 : Int) < (D.length : Int)) = false := decide_eq_false (by omega)
  have t2 : decide (600 < D.length) = false := decide_eq_false (by omega)
  have t3 : ((D.length : Int) == 0) = false := beq_eq_false_iff_ne.2 (by omega)
  have t4 : (D.length == 0) = false := beq_eq_false_iff_ne.2 (by omega)
  have t5 : decide ((D.length : Int) = 0) = false := decide_eq_false (by omega)
  have t6 : D ≠ [] := by intro h; rw [h] at hx2; simp at hx2
  have hmod : ((i : Int)).tmod (D.length : Int) = ((i % D.length : Nat) : Int) := by rw [Int.tmod_eq_emod_of_nonneg (by omega)]; simp
  have hmod2 : ((i : Int)) % (D.length : Int) = ((i % D.length : Nat) : Int) := by simp
  have hp := Nat.mod_lt i hx2
  generalize i % D.length = p at hmod hmod2 hp
  have p0 : (0 : Int) ≤ (p : Int) := Int.natCast_nonneg _
  have HMT := Lib.hid (longL_match D p d)
  have HNO := Lib.hid (longL_none D p d)
  obtain ⟨r, hr⟩ : ∃ r, r = longL D p d := ⟨_, rfl⟩
  have HR := Lib.hid hr
  rw [← hr] at HMT HNO
  clear hsl hr
  go_enter Try.func5, Try.ntmps5
  go_wp2_with fail
  (with_reducible refine (awake15_any w).mono ?_)
  rintro e w1 ⟨rfl, hb1⟩
  have HB1 := Lib.hid hb1
  have hs1 := hb1.size
  have NW := Lib.hid (chainNew D a cap w.heap.size w1 (by omega) (HS.out.below hb1 (Nat.le_refl _)) hs1)
  clear hb1
  go_wp2_with fail
  (with_reducible refine NW.out.mono ?_)
  rintro e w2 ⟨q, rfl, hF, hq, hsz, hb2⟩
  have HB2 := Lib.hid (HB1.out.trans (hb2.mono hs1))
  have hs2 := HB2.out.size
  have LE := Lib.hid (learn_any _ q D 0 p w2 hF (by omega) (by omega))
  rw [show max 0 p = p by omega] at LE
  clear hF hb2 NW hsz
  go_wp2_with fail
  (with_reducible refine LE.out.mono ?_)
  rintro e w3 ⟨rfl, hF3, hf3⟩
  have HB3 := Lib.hid (HB2.out.trans (hf3.below (B := w.heap.size) hs2 (fun k hk h => by omega)))
  have hs3 := HB3.out.size
  have LO := Lib.hid (show Calls Try.prog 20 #[.pointer (some ⟨q + 1, 0, none⟩), .int .i64 (p : Int), .int .i64 (d : Int)] w3 fun e w' => e = .returned (.tuple #[.int .i64 (r.1 : Int), .int .i64 (r.2 : Int)]) ∧ ∃ n, w' = w3.drewN n from by
    rw [HR.out]
    by_cases h3 : p + 3 ≤ D.length
    · exact longest_some _ q D p p d w3 hF3 (by omega) h3 (by omega)
    · have e : longL D p d = (0, 0) := by unfold longL; rw [if_neg h3]
      rw [e]
      exact longest_none _ q D p p p d w3 hF3 (by omega) (by omega))
  clear hF3 hf3 LE HR
  obtain ⟨s, t⟩ := r
  simp only at LO HMT HNO
  go_wp2_with fail
  (with_reducible refine LO.out.mono ?_)
  rintro e w4 ⟨rfl, n4, rfl⟩
  clear LO
  by_cases hs0 : s = 0
  · subst hs0
    have ht0 : t = 0 := by
      rcases HMT.out with h | h
      · exact h.2
      · omega
    subst ht0
    have hno := HNO.out rfl
    clear HNO HMT
    rw [show ((0 : Nat) : Int) = 0 from rfl]
    by_cases c1 : d = 0
    · subst c1
      rw [show ((0 : Nat) : Int) = 0 from rfl]
      clear hno
      go_wp2_with fail
      go_ret
      exact ⟨rfl, below_drewN HB3.out n4⟩
    have u1 : ((d : Int) == 0) = false := beq_eq_false_iff_ne.2 (by omega)
    by_cases c2 : p = 0
    · subst c2
      rw [show ((0 : Nat) : Int) = 0 from rfl]
      clear hno
      go_wp2_with fail
      go_ret
      exact ⟨rfl, below_drewN HB3.out n4⟩
    have u2 : ((p : Int) == 0) = false := beq_eq_false_iff_ne.2 (by omega)
    by_cases c3 : D.length < p + 3
    · have u3 : decide ((D.length : Int) < (p : Int) + 3) = true := decide_eq_true (by omega)
      have u4 : (D.length : Int) < (p : Int) + 3 := by omega
      clear hno
      go_wp2_with fail
      go_ret
      exact ⟨rfl, below_drewN HB3.out n4⟩
    have u3 : decide ((D.length : Int) < (p : Int) + 3) = false := decide_eq_false (by omega)
    have u4 : ¬ (D.length : Int) < (p : Int) + 3 := by omega
    have hlt : sameF D (p - 1) p 3 < 3 := by omega
    obtain ⟨pm, hpm⟩ : ∃ pm, pm = p - 1 := ⟨_, rfl⟩
    rw [← hpm] at hlt
    have e1 : (p : Int) - 1 = (pm : Int) := by omega
    have SA := Lib.hid (refSame_any D a cap w.heap.size pm p 3 3 (w3.drewN n4) ((HS.out.below HB3.out (Nat.le_refl _)).drewN n4) (by omega) (by omega) hp (by omega) (by omega))
    generalize sameF D pm p 3 = sf at SA hlt
    have u5 : decide ((sf : Int) < 3) = true := decide_eq_true (by omega)
    clear hno hpm
    go_wp2_with fail
    (refine SA.out.mono ?_)
    rintro e w5 ⟨rfl, n5, rfl⟩
    go_wp2_with fail
    go_ret
    exact ⟨rfl, below_drewN HB3.out _⟩
  · obtain ⟨m1, m2, m3, m4, m5, m6⟩ := HMT.out.resolve_left (fun h => hs0 h.1)
    have hmo : mostAt D p ≤ 258 ∧ p + mostAt D p ≤ D.length := by unfold mostAt; omega
    obtain ⟨W, hW⟩ : ∃ W, w3.drewN n4 = W := ⟨_, rfl⟩
    have HBW := Lib.hid (show Below w.heap.size w W by rw [← hW]; exact below_drewN HB3.out n4)
    rw [hW]
    have hsW := HBW.out.size
    obtain ⟨i0, hi0, hz0, hz1, hz2⟩ := info_parts byteInfoC
    have Hi0 := Lib.hid hi0
    have Hz0 := Lib.hid hz0
    have Hz1 := Lib.hid hz1
    have Hz2 := Lib.hid hz2
    obtain ⟨ps, hps⟩ : ∃ ps, ps = p + s := ⟨_, rfl⟩
    obtain ⟨pt, hpt⟩ : ∃ pt, pt = p - t := ⟨_, rfl⟩
    have sl1 := fun W => run_slice_fromto Try.underlying22 hi0 hz1 a D.length cap p ps (by omega) (by omega) W
    have sl2 := fun W => run_slice_fromto Try.underlying22 hi0 hz1 a D.length cap pt p (by omega) (by omega) W
    rw [show ps - p = s by omega] at sl1
    rw [show p - pt = t by omega] at sl2
    have HSL3 := Lib.hid (fun (A : Option Addr) (len c k : Nat) (hk : k ≤ c) W => run_slice_to Try.underlying22 hi0 A len c k hk W)
    have v1 : IntKind.i64.wrap ((p : Int) + (s : Int)) = (ps : Int) := by rw [IntWalk.i64_in _ (by omega)]; omega
    have v2 : IntKind.i64.wrap ((p : Int) - (t : Int)) = (pt : Int) := by rw [IntWalk.i64_in _ (by omega)]; omega
    have g1 : decide ((3 : Int) ≤ (s : Int)) = true := decide_eq_true (by omega)
    have g2 : decide ((s : Int) ≤ 258) = true := decide_eq_true (by omega)
    have g3 : decide ((1 : Int) ≤ (t : Int)) = true := decide_eq_true (by omega)
    have g4 : decide (t ≤ p) = true := decide_eq_true m4
    have g5 : decide (ps ≤ D.length) = true := decide_eq_true (by omega)
    have g6 : ((s : Int) == 0) = false := beq_eq_false_iff_ne.2 (by omega)
    have HEQ := Lib.hid (match_eq D p s t m3 m4 (by omega) m6)
    rw [← hpt] at HEQ
    have hlX : (part D pt t).length = t := len_part D pt t (by omega)
    have hlY : (part D p s).length = s := len_part D p s (by omega)
    have HX := Lib.hid (fun V (hb : Below w.heap.size w V) => (HS.out.below hb (Nat.le_refl _)).part cap pt t hlc)
    have HY := Lib.hid (fun V (hb : Below w.heap.size w V) => (HS.out.below hb (Nat.le_refl _)).part cap p s hlc)
    generalize part D pt t = X at HEQ hlX HX
    generalize part D p s = Y at HEQ hlY HY
    have HLX := Lib.hid hlX
    have HLY := Lib.hid hlY
    have R1 := Lib.hid (fun V (hb : Below w.heap.size w V) => by
      have h := run_str (P := Try.prog) V w.heap.size 22 9 5 (restAt a cap p) Y (cap - p) Try.underlying22 Try.underlying5 Try.underlying9 (HY.out V hb)
      rw [hlY] at h
      exact h)
    have HLIT := Lib.hid (World.ownsRow_lit (base := W.heap.size) (e := 5) (size := 1) W #[] 0 (Nat.le_refl _) (by decide) rfl)
    have HBA := Lib.hid (HBW.out.alloc hsW (.cells #[] 5))
    have ra := R1.out W.drew HBW.out.drew
    have rb := R1.out (W.alloc (.cells #[] 5)).drew HBA.out.drew
    obtain ⟨sy, hsy⟩ : ∃ sy, strOf Y = sy := ⟨_, rfl⟩
    have HSY := Lib.hid hsy
    rw [hsy] at R1 ra rb
    clear hsy
    have hs0' : s ≤ 258 := by omega
    have ht0' : t ≤ 600 := by omega
    have q0 : (0 : Int) ≤ (ps : Int) := Int.natCast_nonneg _
    have q1 : (0 : Int) ≤ (pt : Int) := Int.natCast_nonneg _
    have q2 : (p : Int) ≤ (ps : Int) := by omega
    have q3 : (pt : Int) ≤ (p : Int) := by omega
    have q4 : (ps : Int) ≤ (cap : Int) := by omega
    have q5 : (p : Int) ≤ (cap : Int) := by omega
    have q6 : (0 : Int) ≤ (s : Int) := Int.natCast_nonneg _
    clear hi0 hz0 hz1 hz2 hps hpt hlX hlY hW m6 HMT HNO HS hmo
    go_wp2_with fail
    go_region_held_law (fun V => (convert 22 9 (.slice (restAt a cap p) s (cap - p))).run Try.prog V = .ok (.string sy) V) (first | exact ra | exact rb | exact rd | exact rc) ((first
      | ((refine step_append_g (by rfl) (.tmp 97) (.tmp 103) _ (by rfl) W.heap.size 5 i0 _ 1 Try.underlying22 Hi0.out Hz0.out Hz1.out Hz2.out rfl (.slice (some ⟨W.heap.size, 0, none⟩) 0 0) 0 [] (by rfl) HLIT.out.drew w.heap.size (restAt a cap pt) t (cap - pt) (bytesV X) ((len_bytesV X).trans HLX.out) (by rfl) (HX.out _ HBA.out.drew) (bytes_oneCell X) (by unfold maxLen; omega) (by omega) (by simp) ?_; intro v5 w5 hown5 hgrow5 hat5; simp only [Nat.zero_add, List.nil_append] at hown5; obtain ⟨A5, c5, rfl⟩ := own_form hown5; have HB5 := Lib.hid (own_below HLIT.out.drew hgrow5 hsW (by simp; omega) HBA.out.drew); have rc := R1.out w5 HB5.out; have HO5 := Lib.hid hown5; have hs5 : W.heap.size ≤ w5.heap.size := (by have := hgrow5.size; simp at this; omega); clear hown5 hgrow5 hat5))
      | ((refine step_append_g (by rfl) (.tmp 104) (.tmp 110) _ (by rfl) W.heap.size 5 i0 _ 1 Try.underlying22 Hi0.out Hz0.out Hz1.out Hz2.out rfl (.slice A5 t c5) t (bytesV X) (by rfl) HO5.out w.heap.size (restAt a cap p) s (cap - p) (bytesV Y) ((len_bytesV Y).trans HLY.out) (by rfl) (HY.out _ HB5.out) (bytes_oneCell Y) (by unfold maxLen; omega) (by omega) hs5 ?_; intro v6 w6 hown6 hgrow6 hat6; obtain ⟨A6, c6, rfl⟩ := own_form hown6; have HB6 := Lib.hid (own_below HO5.out hgrow6 hsW (Nat.le_trans hsW hs5) HB5.out); have rd := R1.out w6 HB6.out; have sl3 := HSL3.out A6 (t + s) c6 s (Nat.le_trans (Nat.le_add_left s t) (own_cap hown6)); have re := (run_str2 hown6 HEQ.out HLY.out).trans (by rw [HSY.out]); clear hown6 hgrow6 hat6))))
    go_wp2_with fail
    go_ret
    exact ⟨by simp, HB6.out⟩

theorem chainsTrue_walk (a : Option Addr) (D : List UInt8) (cap i d : Nat) (w : World) (hl : D.length ≤ maxLen) (hlc : D.length ≤ cap) (hsl : Sl w w.heap.size a (bytesV D)) (hi : i < 65536) (hd : d < 256) :
    Calls Try.prog 5 #[.slice a D.length cap, .int .u16 (i : Int), .int .u8 (d : Int)] w fun e w' => e = .returned (.bool true) ∧ Below w.heap.size w w' := by
  by_cases hx : 600 < D.length ∨ D.length = 0
  · exact chainsTrue_out a D cap i d w hl hx
  · exact chainsTrue_in a D cap i d w hlc hsl hi hd (by omega) (by omega)
end Go.Proofs.Ytjfmaebgihlegaa
