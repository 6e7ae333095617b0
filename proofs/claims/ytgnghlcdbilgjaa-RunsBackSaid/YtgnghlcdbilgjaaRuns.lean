/-
  What runs.least, run, repeat and Pack compute.
-/
import Derived.Test.YtgnghlcdbilgjaaProg
import Derived.Test.YtgnghlcdbilgjaaAppendN
import Derived.Test.YtgnghlcdbilgjaaRunMath
import Derived.Deep.QuietTactic
import Derived.BigQuiet
namespace Go.Proofs.Ytgnghlcdbilgjaa
open Go.RowKit

def Rn.RunV.cells (r : Rn.RunV) : List Value := [.int .i64 r.sym, .int .i64 r.extra]
def runsV (l : List Rn.RunV) : List Value := l.flatMap Rn.RunV.cells
theorem runsV_append (a b : List Rn.RunV) : runsV (a ++ b) = runsV a ++ runsV b := by simp [runsV]
theorem runsV_one (r : Rn.RunV) : runsV [r] = [.int .i64 r.sym, .int .i64 r.extra] := by simp [runsV, Rn.RunV.cells]
theorem runInfo : (Try.prog.info? 32).map (fun i => (i.zero, i.size, i.bytes)) = some (some (.agg #[.int .i64 0, .int .i64 0]), 2, 16) := by kernel_rfl

theorem least_any (s : Int) (w : World) : Calls Try.prog 17 #[.int .i64 s] w fun e w' => e = .returned (.int .i64 (Rn.least s)) ∧ w = w' := by
  by_cases h1 : s = 16
  · subst h1
    go_enter Try.func17, Try.ntmps17
    go_wp2
    go_ret
    exact ⟨rfl, rfl⟩
  have t1 : (s == 16) = false := by simpa using h1
  by_cases h2 : s = 17
  · subst h2
    go_enter Try.func17, Try.ntmps17
    go_wp2
    go_ret
    exact ⟨rfl, rfl⟩
  have t2 : (s == 17) = false := by simpa using h2
  by_cases h3 : s = 18
  · subst h3
    go_enter Try.func17, Try.ntmps17
    go_wp2
    go_ret
    exact ⟨rfl, rfl⟩
  have t3 : (s == 18) = false := by simpa using h3
  have HL := Lib.hid (show Rn.least s = 1 by unfold Rn.least; rw [if_neg (by omega), if_neg h3])
  clear h1 h2 h3
  go_enter Try.func17, Try.ntmps17
  go_wp2
  go_ret
  exact ⟨by rw [HL.out]; rfl, rfl⟩
theorem least_bd (s : Int) : 1 ≤ Rn.least s ∧ Rn.least s ≤ 11 := by unfold Rn.least; split <;> (try split) <;> omega

theorem run_any (s : Int) (t : Nat) (w : World) (ht : t ≤ 1000000) :
    Calls Try.prog 15 #[.int .i64 s, .int .i64 (t : Int)] w fun e w' => e = .returned (.agg #[.int .i64 s, .int .i64 ((t : Int) - Rn.least s)]) ∧ Below w.heap.size w w' := by
  have LE := fun W => Lib.hid (least_any s W)
  have hb := least_bd s
  generalize Rn.least s = x at LE hb
  obtain ⟨hb1, hb2⟩ := hb
  go_enter Try.func15, Try.ntmps15
  go_wp2_with fail
  (with_reducible refine (LE _).out.mono ?_)
  rintro e w1 ⟨rfl, rfl⟩
  go_wp2_with fail
  exact bodyPost_ret (v := .agg #[.int .i64 s, .int .i64 ((t : Int) - x)]) (by simp [results, Try.results15, go_sem]) rfl ⟨rfl, (Below.refl _ _).alloc (Nat.le_refl _) _⟩

def RepPost (B : Nat) (l : List Rn.RunV) (w : World) (e : Ending) (w' : World) : Prop :=
  ∃ A c, e = .returned (.slice A l.length c) ∧ w'.ownsRow B 32 2 (.slice A l.length c) l.length (runsV l) ∧ Below B w w'

set_option maxRecDepth 100000 in
set_option maxHeartbeats 1000000 in
theorem rep_loop (B : Nat) (n : Int) (t : Nat) (l : List Rn.RunV) (A : Option Addr) (c : Nat) (w : World) (hn0 : 0 ≤ n) (hn : n ≤ 15) (ht : t ≤ 1000000) (ht1 : 1 ≤ t) (hl : l.length ≤ 1000000) (hB : B ≤ w.heap.size) (hown : w.ownsRow B 32 2 (.slice A l.length c) l.length (runsV l)) :
    Calls Try.prog 11 #[.slice A l.length c, .int .i64 n, .int .i64 (t : Int)] w (RepPost B (l ++ Rn.group n t) w) := by
  obtain ⟨i0, hi0, hz0, hz1, hz2⟩ := info_parts runInfo
  have Hi0 := Lib.hid hi0
  have Hz0 := Lib.hid hz0
  have Hz1 := Lib.hid hz1
  have Hz2 := Lib.hid hz2
  clear hi0 hz0 hz1 hz2
  have HO := Lib.hid hown
  clear hown
  obtain ⟨target, htg⟩ : ∃ target, l ++ Rn.group n t = target := ⟨_, rfl⟩
  have HTG := Lib.hid htg
  clear htg
  by_cases h0 : n = 0
  · subst h0
    have HTG0 := Lib.hid (show l ++ Rn.rep 0 t = target by rw [← HTG.out]; rfl)
    go_enter Try.func11, Try.ntmps11
    go_wp2_with fail
    go_loopw [0, 2] (fun lv tv wr => ∃ (q : List Rn.RunV) (m : Nat), tv = .int .i64 (m : Int) ∧ m ≤ t ∧ wr.ownsRow B 32 2 lv q.length (runsV q) ∧ q ++ Rn.rep 0 m = target ∧ q.length + m ≤ l.length + 1 + t ∧ Below B w wr) (fun _ tv _ => (intOf tv).toNat)
    case atStart => exact ⟨l, t, rfl, Nat.le_refl _, HO.out, HTG0.out, by omega, Below.refl _ _⟩
    case round =>
      obtain ⟨q, m, rfl, hmt, hown, htg, hql, hbr⟩ := hrel
      obtain ⟨A2, c2, rfl⟩ := own_form hown
      have HO2 := Lib.hid hown
      have HT := Lib.hid htg
      have HBR := Lib.hid hbr
      have hbs := Nat.le_trans hB hbr.size
      clear hown htg hbr
      by_cases hpos : 0 < m
      · by_cases h11 : 11 ≤ m
        · have u1 : decide ((11 : Int) ≤ (m : Int)) = true := decide_eq_true (by omega)
          have HSY := Lib.hid (show Rn.sym 0 m = 18 by unfold Rn.sym; rw [if_neg (by omega), if_pos ⟨rfl, h11⟩])
          have HMO := Lib.hid (show Rn.most 0 m = 138 by unfold Rn.most; rw [if_neg (by omega), if_pos ⟨rfl, h11⟩])
          obtain ⟨part, hpart⟩ : ∃ part, part = min m 138 := ⟨_, rfl⟩
          have hst := Rn.rep_step 0 m hpos
          rw [HSY.out, HMO.out, ← hpart] at hst
          have hp1 : 1 ≤ part := by omega
          have hp2 : part ≤ m := by omega
          have HST := Lib.hid hst
          have RU := fun W => Lib.hid (run_any 18 part W (by omega))
          have hlb := least_bd 18
          generalize hex : ((part : Nat) : Int) - Rn.least 18 = ex at RU HST
          have hmin : ∀ W, (Builtin.min_ #[3, 3] 3 #[.int .i64 (m : Int), .int .i64 138]).run Try.prog W = .ok (.int .i64 (part : Int)) W := fun W => by
            have : (part : Int) = if (138 : Int) < (m : Int) then 138 else (m : Int) := by split <;> omega
            rw [this]; simp [go_sem]
          clear hst hex hlb hpart
          go_wp2_with fail
          (with_reducible refine (RU _).out.mono ?_)
          rintro e w2 ⟨rfl, hb2⟩
          have hown2 := own_fr HO2.out (Fr.of_below hb2 (fun _ => False)) (fun _ _ => id)
          have HB2 := Lib.hid (HBR.out.trans (hb2.mono hbs))
          have hbs2 := Nat.le_trans hB HB2.out.size
          clear hb2
          go_wp2_with (at_builtin; refine wpList_append_lies _ rfl (.tmp 46) (.tmp 50) _ rfl B 32 i0 _ 2 16 Try.underlying24 Hi0.out Hz0.out Hz1.out Hz2.out rfl (by omega) _ q.length (runsV q) rfl (hown2.alloc _) ⟨w2.heap.size, 0, none⟩ 1 1 [.int .i64 18, .int .i64 ex] rfl rfl (World.news_of_block (cs := #[.int .i64 18, .int .i64 ex]) (t := 32) (fr := (0, 0)) (heap_alloc_new w2 _)) (by simp [Value.oneCell']) (by omega) (by unfold maxLen; omega) (by omega) (by simp; omega) (w2.heap.size + 1) (by simp) ?_; intro gg cap ww hown3 hgrow hat hlt1; have HO3 := Lib.hid hown3; have HB3 := Lib.hid (own_below (hown2.alloc _) hgrow (Nat.le_refl _) (by simp; omega) (HB2.out.alloc hbs2 _)); clear hown3 hgrow hat)
          go_roundw
          case rel => exact ⟨q ++ [⟨18, ex⟩], m - part, by go_num, by omega, by rw [List.length_append, runsV_append, runsV_one]; exact HO3.out, by rw [List.append_assoc, List.singleton_append, ← HST.out]; exact HT.out, by simp; omega, HB3.out⟩
          case measure => simp [intOf]; omega
        · have u1 : decide ((11 : Int) ≤ (m : Int)) = false := decide_eq_false (by omega)
          by_cases h3 : 3 ≤ m
          · have u2 : decide ((3 : Int) ≤ (m : Int)) = true := decide_eq_true (by omega)
            have HSY := Lib.hid (show Rn.sym 0 m = 17 by unfold Rn.sym; rw [if_neg (by omega), if_neg (by omega), if_pos ⟨rfl, h3⟩])
            have HMO := Lib.hid (show Rn.most 0 m = 10 by unfold Rn.most; rw [if_neg (by omega), if_neg (by omega), if_pos ⟨rfl, h3⟩])
            obtain ⟨part, hpart⟩ : ∃ part, part = min m 10 := ⟨_, rfl⟩
            have hst := Rn.rep_step 0 m hpos
            rw [HSY.out, HMO.out, ← hpart] at hst
            have hp1 : 1 ≤ part := by omega
            have hp2 : part ≤ m := by omega
            have HST := Lib.hid hst
            have RU := fun W => Lib.hid (run_any 17 part W (by omega))
            have hlb := least_bd 17
            generalize hex : ((part : Nat) : Int) - Rn.least 17 = ex at RU HST
            have hmin : ∀ W, (Builtin.min_ #[3, 3] 3 #[.int .i64 (m : Int), .int .i64 10]).run Try.prog W = .ok (.int .i64 (part : Int)) W := fun W => by
              have : (part : Int) = if (10 : Int) < (m : Int) then 10 else (m : Int) := by split <;> omega
              rw [this]; simp [go_sem]
            clear hst hex hlb hpart
            go_wp2_with fail
            (with_reducible refine (RU _).out.mono ?_)
            rintro e w2 ⟨rfl, hb2⟩
            have hown2 := own_fr HO2.out (Fr.of_below hb2 (fun _ => False)) (fun _ _ => id)
            have HB2 := Lib.hid (HBR.out.trans (hb2.mono hbs))
            have hbs2 := Nat.le_trans hB HB2.out.size
            clear hb2
            go_wp2_with (at_builtin; refine wpList_append_lies _ rfl (.tmp 46) (.tmp 50) _ rfl B 32 i0 _ 2 16 Try.underlying24 Hi0.out Hz0.out Hz1.out Hz2.out rfl (by omega) _ q.length (runsV q) rfl (hown2.alloc _) ⟨w2.heap.size, 0, none⟩ 1 1 [.int .i64 17, .int .i64 ex] rfl rfl (World.news_of_block (cs := #[.int .i64 17, .int .i64 ex]) (t := 32) (fr := (0, 0)) (heap_alloc_new w2 _)) (by simp [Value.oneCell']) (by omega) (by unfold maxLen; omega) (by omega) (by simp; omega) (w2.heap.size + 1) (by simp) ?_; intro gg cap ww hown3 hgrow hat hlt1; have HO3 := Lib.hid hown3; have HB3 := Lib.hid (own_below (hown2.alloc _) hgrow (Nat.le_refl _) (by simp; omega) (HB2.out.alloc hbs2 _)); clear hown3 hgrow hat)
            go_roundw
            case rel => exact ⟨q ++ [⟨17, ex⟩], m - part, by go_num, by omega, by rw [List.length_append, runsV_append, runsV_one]; exact HO3.out, by rw [List.append_assoc, List.singleton_append, ← HST.out]; exact HT.out, by simp; omega, HB3.out⟩
            case measure => simp [intOf]; omega
          · have u2 : decide ((3 : Int) ≤ (m : Int)) = false := decide_eq_false (by omega)
            have HSY := Lib.hid (show Rn.sym 0 m = 0 by unfold Rn.sym; rw [if_neg (by omega), if_neg (by omega), if_neg (by omega)])
            have HMO := Lib.hid (show Rn.most 0 m = 1 by unfold Rn.most; rw [if_neg (by omega), if_neg (by omega), if_neg (by omega)])
            obtain ⟨part, hpart⟩ : ∃ part, part = min m 1 := ⟨_, rfl⟩
            have hst := Rn.rep_step 0 m hpos
            rw [HSY.out, HMO.out, ← hpart] at hst
            have hp1 : 1 ≤ part := by omega
            have hp2 : part ≤ m := by omega
            have HST := Lib.hid hst
            have RU := fun W => Lib.hid (run_any 0 part W (by omega))
            have hlb := least_bd 0
            generalize hex : ((part : Nat) : Int) - Rn.least 0 = ex at RU HST
            have hmin : ∀ W, (Builtin.min_ #[3, 3] 3 #[.int .i64 (m : Int), .int .i64 1]).run Try.prog W = .ok (.int .i64 (part : Int)) W := fun W => by
              have : (part : Int) = if (1 : Int) < (m : Int) then 1 else (m : Int) := by split <;> omega
              rw [this]; simp [go_sem]
            clear hst hex hlb hpart
            go_wp2_with fail
            (with_reducible refine (RU _).out.mono ?_)
            rintro e w2 ⟨rfl, hb2⟩
            have hown2 := own_fr HO2.out (Fr.of_below hb2 (fun _ => False)) (fun _ _ => id)
            have HB2 := Lib.hid (HBR.out.trans (hb2.mono hbs))
            have hbs2 := Nat.le_trans hB HB2.out.size
            clear hb2
            go_wp2_with (at_builtin; refine wpList_append_lies _ rfl (.tmp 46) (.tmp 50) _ rfl B 32 i0 _ 2 16 Try.underlying24 Hi0.out Hz0.out Hz1.out Hz2.out rfl (by omega) _ q.length (runsV q) rfl (hown2.alloc _) ⟨w2.heap.size, 0, none⟩ 1 1 [.int .i64 0, .int .i64 ex] rfl rfl (World.news_of_block (cs := #[.int .i64 0, .int .i64 ex]) (t := 32) (fr := (0, 0)) (heap_alloc_new w2 _)) (by simp [Value.oneCell']) (by omega) (by unfold maxLen; omega) (by omega) (by simp; omega) (w2.heap.size + 1) (by simp) ?_; intro gg cap ww hown3 hgrow hat hlt1; have HO3 := Lib.hid hown3; have HB3 := Lib.hid (own_below (hown2.alloc _) hgrow (Nat.le_refl _) (by simp; omega) (HB2.out.alloc hbs2 _)); clear hown3 hgrow hat)
            go_roundw
            case rel => exact ⟨q ++ [⟨0, ex⟩], m - part, by go_num, by omega, by rw [List.length_append, runsV_append, runsV_one]; exact HO3.out, by rw [List.append_assoc, List.singleton_append, ← HST.out]; exact HT.out, by simp; omega, HB3.out⟩
            case measure => simp [intOf]; omega
      · obtain rfl : m = 0 := by omega
        have HT2 := Lib.hid (show q = target by have h := HT.out; rw [Rn.rep_nil, List.append_nil] at h; exact h)
        go_wp2_with fail
        go_ret
        exact ⟨A2, c2, by rw [HTG.out, ← HT2.out]; rfl, by rw [HTG.out, ← HT2.out]; exact HO2.out, HBR.out⟩
  · have t0 : (n != 0) = true := by simpa using h0
    have t00 : (n == 0) = false := by simpa using h0
    have HTG1 := Lib.hid (show (l ++ [⟨n, 0⟩]) ++ Rn.rep n (t - 1) = target by rw [← HTG.out]; unfold Rn.group; simp [h0])
    go_enter Try.func11, Try.ntmps11
    go_wp2_with (at_builtin; refine wpList_append_lies _ rfl (.tmp 12) (.tmp 15) _ rfl B 32 i0 _ 2 16 Try.underlying24 Hi0.out Hz0.out Hz1.out Hz2.out rfl (by omega) _ l.length (runsV l) rfl (HO.out.alloc _) ⟨w.heap.size, 0, none⟩ 1 1 [.int .i64 n, .int .i64 0] rfl rfl (World.news_of_block (cs := #[.int .i64 n, .int .i64 0]) (t := 32) (fr := (0, 0)) (heap_alloc_new w _)) (by simp [Value.oneCell']) (by omega) (by unfold maxLen; omega) (by omega) (by simp; omega) (w.heap.size + 1) (by simp) ?_; intro gg cap ww hown1 hgrow hat hlt1; have HO1 := Lib.hid hown1; have HB1 := Lib.hid (own_below (HO.out.alloc _) hgrow (Nat.le_refl _) (by simp; omega) ((Below.refl B w).alloc hB _)); clear hown1 hgrow hat)
    go_loopw [0, 2] (fun lv tv wr => ∃ (q : List Rn.RunV) (m : Nat), tv = .int .i64 (m : Int) ∧ m ≤ t ∧ wr.ownsRow B 32 2 lv q.length (runsV q) ∧ q ++ Rn.rep n m = target ∧ q.length + m ≤ l.length + 1 + t ∧ Below B w wr) (fun _ tv _ => (intOf tv).toNat)
    case atStart => exact ⟨l ++ [⟨n, 0⟩], t - 1, by go_num, by omega, by rw [List.length_append, runsV_append, runsV_one]; exact HO1.out, HTG1.out, by simp only [List.length_append, List.length_cons, List.length_nil]; omega, HB1.out⟩
    case round =>
      obtain ⟨q, m, rfl, hmt, hown, htg, hql, hbr⟩ := hrel
      obtain ⟨A2, c2, rfl⟩ := own_form hown
      have HO2 := Lib.hid hown
      have HT := Lib.hid htg
      have HBR := Lib.hid hbr
      have hbs := Nat.le_trans hB hbr.size
      clear hown htg hbr
      by_cases hpos : 0 < m
      · by_cases h3 : 3 ≤ m
        · have u2 : decide ((3 : Int) ≤ (m : Int)) = true := decide_eq_true (by omega)
          have HSY := Lib.hid (show Rn.sym n m = 16 by unfold Rn.sym; rw [if_pos ⟨h0, h3⟩])
          have HMO := Lib.hid (show Rn.most n m = 6 by unfold Rn.most; rw [if_pos ⟨h0, h3⟩])
          obtain ⟨part, hpart⟩ : ∃ part, part = min m 6 := ⟨_, rfl⟩
          have hst := Rn.rep_step n m hpos
          rw [HSY.out, HMO.out, ← hpart] at hst
          have hp1 : 1 ≤ part := by omega
          have hp2 : part ≤ m := by omega
          have HST := Lib.hid hst
          have RU := fun W => Lib.hid (run_any 16 part W (by omega))
          have hlb := least_bd 16
          generalize hex : ((part : Nat) : Int) - Rn.least 16 = ex at RU HST
          have hmin : ∀ W, (Builtin.min_ #[3, 3] 3 #[.int .i64 (m : Int), .int .i64 6]).run Try.prog W = .ok (.int .i64 (part : Int)) W := fun W => by
            have : (part : Int) = if (6 : Int) < (m : Int) then 6 else (m : Int) := by split <;> omega
            rw [this]; simp [go_sem]
          clear hst hex hlb hpart
          go_wp2_with fail
          (with_reducible refine (RU _).out.mono ?_)
          rintro e w2 ⟨rfl, hb2⟩
          have hown2 := own_fr HO2.out (Fr.of_below hb2 (fun _ => False)) (fun _ _ => id)
          have HB2 := Lib.hid (HBR.out.trans (hb2.mono hbs))
          have hbs2 := Nat.le_trans hB HB2.out.size
          clear hb2
          go_wp2_with (at_builtin; refine wpList_append_lies _ rfl (.tmp 46) (.tmp 50) _ rfl B 32 i0 _ 2 16 Try.underlying24 Hi0.out Hz0.out Hz1.out Hz2.out rfl (by omega) _ q.length (runsV q) rfl (hown2.alloc _) ⟨w2.heap.size, 0, none⟩ 1 1 [.int .i64 16, .int .i64 ex] rfl rfl (World.news_of_block (cs := #[.int .i64 16, .int .i64 ex]) (t := 32) (fr := (0, 0)) (heap_alloc_new w2 _)) (by simp [Value.oneCell']) (by omega) (by unfold maxLen; omega) (by omega) (by simp; omega) (w2.heap.size + 1) (by simp) ?_; intro gg cap ww hown3 hgrow hat hlt1; have HO3 := Lib.hid hown3; have HB3 := Lib.hid (own_below (hown2.alloc _) hgrow (Nat.le_refl _) (by simp; omega) (HB2.out.alloc hbs2 _)); clear hown3 hgrow hat)
          go_roundw
          case rel => exact ⟨q ++ [⟨16, ex⟩], m - part, by go_num, by omega, by rw [List.length_append, runsV_append, runsV_one]; exact HO3.out, by rw [List.append_assoc, List.singleton_append, ← HST.out]; exact HT.out, by simp; omega, HB3.out⟩
          case measure => simp [intOf]; omega
        · have u2 : decide ((3 : Int) ≤ (m : Int)) = false := decide_eq_false (by omega)
          have HSY := Lib.hid (show Rn.sym n m = n by unfold Rn.sym; rw [if_neg (by omega), if_neg (by omega), if_neg (by omega)])
          have HMO := Lib.hid (show Rn.most n m = 1 by unfold Rn.most; rw [if_neg (by omega), if_neg (by omega), if_neg (by omega)])
          obtain ⟨part, hpart⟩ : ∃ part, part = min m 1 := ⟨_, rfl⟩
          have hst := Rn.rep_step n m hpos
          rw [HSY.out, HMO.out, ← hpart] at hst
          have hp1 : 1 ≤ part := by omega
          have hp2 : part ≤ m := by omega
          have HST := Lib.hid hst
          have RU := fun W => Lib.hid (run_any n part W (by omega))
          have hlb := least_bd n
          generalize hex : ((part : Nat) : Int) - Rn.least n = ex at RU HST
          have hmin : ∀ W, (Builtin.min_ #[3, 3] 3 #[.int .i64 (m : Int), .int .i64 1]).run Try.prog W = .ok (.int .i64 (part : Int)) W := fun W => by
            have : (part : Int) = if (1 : Int) < (m : Int) then 1 else (m : Int) := by split <;> omega
            rw [this]; simp [go_sem]
          clear hst hex hlb hpart
          go_wp2_with fail
          (with_reducible refine (RU _).out.mono ?_)
          rintro e w2 ⟨rfl, hb2⟩
          have hown2 := own_fr HO2.out (Fr.of_below hb2 (fun _ => False)) (fun _ _ => id)
          have HB2 := Lib.hid (HBR.out.trans (hb2.mono hbs))
          have hbs2 := Nat.le_trans hB HB2.out.size
          clear hb2
          go_wp2_with (at_builtin; refine wpList_append_lies _ rfl (.tmp 46) (.tmp 50) _ rfl B 32 i0 _ 2 16 Try.underlying24 Hi0.out Hz0.out Hz1.out Hz2.out rfl (by omega) _ q.length (runsV q) rfl (hown2.alloc _) ⟨w2.heap.size, 0, none⟩ 1 1 [.int .i64 n, .int .i64 ex] rfl rfl (World.news_of_block (cs := #[.int .i64 n, .int .i64 ex]) (t := 32) (fr := (0, 0)) (heap_alloc_new w2 _)) (by simp [Value.oneCell']) (by omega) (by unfold maxLen; omega) (by omega) (by simp; omega) (w2.heap.size + 1) (by simp) ?_; intro gg cap ww hown3 hgrow hat hlt1; have HO3 := Lib.hid hown3; have HB3 := Lib.hid (own_below (hown2.alloc _) hgrow (Nat.le_refl _) (by simp; omega) (HB2.out.alloc hbs2 _)); clear hown3 hgrow hat)
          go_roundw
          case rel => exact ⟨q ++ [⟨n, ex⟩], m - part, by go_num, by omega, by rw [List.length_append, runsV_append, runsV_one]; exact HO3.out, by rw [List.append_assoc, List.singleton_append, ← HST.out]; exact HT.out, by simp; omega, HB3.out⟩
          case measure => simp [intOf]; omega
      · obtain rfl : m = 0 := by omega
        have HT2 := Lib.hid (show q = target by have h := HT.out; rw [Rn.rep_nil, List.append_nil] at h; exact h)
        go_wp2_with fail
        go_ret
        exact ⟨A2, c2, by rw [HTG.out, ← HT2.out]; rfl, by rw [HTG.out, ← HT2.out]; exact HO2.out, HBR.out⟩
end Go.Proofs.Ytgnghlcdbilgjaa
