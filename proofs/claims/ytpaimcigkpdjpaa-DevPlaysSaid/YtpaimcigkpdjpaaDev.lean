/-
  What the methods of dev.Device do to a device: its bytes, and how many were read and written.
-/
import Derived.Test.YtpaimcigkpdjpaaWinCopy
namespace Go.Proofs.Ytpaimcigkpdjpaa
open Go.RowKit

/-- a device at block p, its bytes at block g -/
structure DevS (w : World) (p g : Nat) (data : List UInt8) (r s : Nat) : Prop where
  cells : Whole w p 65 #[.slice (some ⟨g, 0, none⟩) data.length data.length, .int .i64 (r : Int), .int .i64 (s : Int)]
  bytes : Whole w g 5 (bytesV data).toArray
  ne : g ≠ p
theorem DevS.fr {S : Nat → Prop} {w w' : World} {p g : Nat} {data : List UInt8} {r s : Nat} (h : DevS w p g data r s) (hf : Fr S w w') (hp : ¬ S p) (hg : ¬ S g) : DevS w' p g data r s :=
  ⟨h.cells.fr hf hp, h.bytes.fr hf hg, h.ne⟩

theorem devSized (n : Int) (w : World) : Calls Try.prog 30 #[.int .i64 n] w fun e w' => e = .returned (.bool (decide (0 ≤ n ∧ n ≤ 16777216))) ∧ w = w' := by
  by_cases h0 : 0 ≤ n
  · have t0 : decide ((0 : Int) ≤ n) = true := decide_eq_true h0
    by_cases h1 : n ≤ 16777216
    · have t1 : decide (n ≤ 16777216) = true := decide_eq_true h1
      have HT := Lib.hid (show decide (0 ≤ n ∧ n ≤ 16777216) = true from decide_eq_true ⟨h0, h1⟩)
      go_enter Try.func30, Try.ntmps30
      go_wp2_with fail
      go_ret
      exact ⟨by first | rfl | (rw [HT.out]; rfl), rfl⟩
    · have t1 : decide (n ≤ 16777216) = false := decide_eq_false h1
      have HT := Lib.hid (show decide (0 ≤ n ∧ n ≤ 16777216) = false from decide_eq_false (fun h => h1 h.2))
      go_enter Try.func30, Try.ntmps30
      go_wp2_with fail
      go_ret
      exact ⟨by first | rfl | (rw [HT.out]; rfl), rfl⟩
  · have t0 : decide ((0 : Int) ≤ n) = false := decide_eq_false h0
    have HT := Lib.hid (show decide (0 ≤ n ∧ n ≤ 16777216) = false from decide_eq_false (fun h => h0 h.1))
    go_enter Try.func30, Try.ntmps30
    go_wp2_with fail
    go_ret
    exact ⟨by first | rfl | (rw [HT.out]; rfl), rfl⟩

def noughts (n : Nat) : List UInt8 := List.replicate n 0
theorem half_noughts (n : Nat) : Win.half [] n = noughts n := by simp [Win.half, noughts]
theorem len_noughts (n : Nat) : (noughts n).length = n := by simp [noughts]
set_option maxHeartbeats 400000 in
theorem devNew_yes (n : Nat) (w : World) (hn : n ≤ 16777216) :
    Calls Try.prog 17 #[.int .i64 (n : Int)] w fun e w' => ∃ p g, e = .returned (.tuple #[.pointer (some ⟨p, 0, none⟩), .int .i64 0]) ∧ DevS w' p g (noughts n) 0 0 ∧ w.heap.size ≤ p ∧ w.heap.size ≤ g ∧ Below w.heap.size w w' := by
  have SZ := Lib.hid (devSized (n : Int) w)
  rw [show decide ((0 : Int) ≤ (n : Int) ∧ (n : Int) ≤ 16777216) = true from decide_eq_true (by omega)] at SZ
  obtain ⟨i0, hi0, hz0, hz1, hz2⟩ := info_parts byteInfoC
  have Hi0 := Lib.hid hi0
  have Hz0 := Lib.hid hz0
  have Hz1 := Lib.hid hz1
  have Hz2 := Lib.hid (show i0.bytes * n ≤ 281474976710656 by rw [hz2]; omega)
  clear hi0 hz0 hz1 hz2
  go_enter Try.func17, Try.ntmps17
  go_wp2_with fail
  (with_reducible refine SZ.out.mono ?_)
  rintro e w1 ⟨rfl, rfl⟩
  go_wp2_with (at_make; refine wpList_make_full _ rfl _ _ _ rfl w.heap.size 5 i0 _ 1 Try.underlying22 Hi0.out Hz0.out Hz1.out .i64 .i64 _ _ n rfl rfl rfl rfl Hz2.out (by unfold maxLen; omega) (Nat.le_refl _) ?_; intro w1 hown1 hgrow1; have hw1 := whole_of_own hown1; rw [Win.made, half_noughts] at hw1; have HW1 := Lib.hid hw1; have HB1 := Lib.hid ((Below.refl w.heap.size w).grown hgrow1 (Nat.le_refl _) (fun k hk => by cases hk)); clear hown1 hgrow1 hw1)
  go_ret2
  have hlt := HW1.out.lt
  refine ⟨w1.heap.size, w.heap.size, rfl, ⟨?_, HW1.out.alloc _, by omega⟩, HB1.out.size, Nat.le_refl _, HB1.out.alloc HB1.out.size _⟩
  rw [len_noughts]
  exact Whole.new _ _ _
theorem devNew_no (n : Int) (w : World) (hn : ¬ (0 ≤ n ∧ n ≤ 16777216)) :
    Calls Try.prog 17 #[.int .i64 n] w fun e w' => e = .returned (.tuple #[.pointer none, .int .i64 2]) ∧ w = w' := by
  have SZ := Lib.hid (devSized n w)
  rw [show decide ((0 : Int) ≤ n ∧ n ≤ 16777216) = false from decide_eq_false hn] at SZ
  clear hn
  go_enter Try.func17, Try.ntmps17
  go_wp2_with fail
  (with_reducible refine SZ.out.mono ?_)
  rintro e w1 ⟨rfl, rfl⟩
  go_wp2_with fail
  go_ret2
  exact ⟨rfl, rfl⟩

section
variable {w : World} {p g : Nat} {data : List UInt8} {r s : Nat}
theorem DevS.c0 (h : DevS w p g data r s) : w.cell? ⟨p, 0, none⟩ = some (.slice (some ⟨g, 0, none⟩) data.length data.length) := by have := h.cells.cell 0; simpa using this
theorem DevS.c1 (h : DevS w p g data r s) : w.cell? ⟨p, 1, none⟩ = some (.int .i64 (r : Int)) := by have := h.cells.cell 1; simpa using this
theorem DevS.c2 (h : DevS w p g data r s) : w.cell? ⟨p, 2, none⟩ = some (.int .i64 (s : Int)) := by have := h.cells.cell 2; simpa using this
end
theorem devCap_any (p g : Nat) (data : List UInt8) (r s : Nat) (w : World) (hd : DevS w p g data r s) : Calls Try.prog 23 #[.pointer (some ⟨p, 0, none⟩)] w fun e w' => e = .returned (.int .i64 (data.length : Int)) ∧ w = w' := by
  have c0 := hd.c0
  clear hd
  go_enter Try.func23, Try.ntmps23
  go_wp2_with fail
  go_ret
  exact ⟨rfl, rfl⟩
theorem devExists_yes (p g : Nat) (data : List UInt8) (r s : Nat) (w : World) (a n : Nat) (hd : DevS w p g data r s) (hl : data.length ≤ 1000000000) (h : a + n ≤ data.length) : Calls Try.prog 31 #[.pointer (some ⟨p, 0, none⟩), .int .i64 (a : Int), .int .i64 (n : Int)] w fun e w' => e = .returned (.bool true) ∧ w = w' := by
  have c0 := hd.c0
  clear hd
  have t0 : decide ((0 : Int) ≤ (n : Int)) = true := decide_eq_true (by omega)
  have t1 : decide ((0 : Int) ≤ (a : Int)) = true := decide_eq_true (by omega)
  have t2 : decide ((a : Int) ≤ (data.length : Int)) = true := decide_eq_true (by omega)
  have t2' : decide (a ≤ data.length) = true := decide_eq_true (by omega)
  have t3 : decide ((n : Int) ≤ (data.length : Int) - (a : Int)) = true := decide_eq_true (by omega)
  go_enter Try.func31, Try.ntmps31
  go_wp2_with fail
  go_ret
  exact ⟨rfl, rfl⟩
theorem devExists_no (p g : Nat) (data : List UInt8) (r s : Nat) (w : World) (a n : Int) (hd : DevS w p g data r s) (hl : data.length ≤ 1000000000) (h : ¬ (0 ≤ n ∧ 0 ≤ a ∧ a ≤ data.length ∧ n ≤ data.length - a)) : Calls Try.prog 31 #[.pointer (some ⟨p, 0, none⟩), .int .i64 a, .int .i64 n] w fun e w' => e = .returned (.bool false) ∧ w = w' := by
  have c0 := hd.c0
  clear hd
  by_cases h0 : 0 ≤ n
  · have t0 : decide ((0 : Int) ≤ n) = true := decide_eq_true h0
    by_cases h1 : 0 ≤ a
    · have t1 : decide ((0 : Int) ≤ a) = true := decide_eq_true h1
      by_cases h2 : a ≤ data.length
      · have t2 : decide (a ≤ (data.length : Int)) = true := decide_eq_true h2
        have t3 : decide (n ≤ (data.length : Int) - a) = false := decide_eq_false (fun h3 => h ⟨h0, h1, h2, h3⟩)
        clear h
        go_enter Try.func31, Try.ntmps31
        go_wp2_with fail
        go_ret
        exact ⟨rfl, rfl⟩
      · have t2 : decide (a ≤ (data.length : Int)) = false := decide_eq_false h2
        clear h
        go_enter Try.func31, Try.ntmps31
        go_wp2_with fail
        go_ret
        exact ⟨rfl, rfl⟩
    · have t1 : decide ((0 : Int) ≤ a) = false := decide_eq_false h1
      clear h
      go_enter Try.func31, Try.ntmps31
      go_wp2_with fail
      go_ret
      exact ⟨rfl, rfl⟩
  · have t0 : decide ((0 : Int) ≤ n) = false := decide_eq_false h0
    clear h
    go_enter Try.func31, Try.ntmps31
    go_wp2_with fail
    go_ret
    exact ⟨rfl, rfl⟩

def part (l : List UInt8) (a n : Nat) : List UInt8 := (l.drop a).take n
theorem len_part (l : List UInt8) (a n : Nat) (h : a + n ≤ l.length) : (part l a n).length = n := by simp [part]; omega
theorem sl_part {w : World} {g : Nat} {t : TypeId} {l : List UInt8} (h : Whole w g t (bytesV l).toArray) (a n c : Nat) (hc : l.length ≤ c) : Sl w w.heap.size (restAt (some ⟨g, 0, none⟩) c a) (bytesV (part l a n)) := by
  have h1 := ((sl_of_whole h).rest c a (by rw [len_bytesV]; exact hc)).take n
  simpa [part, bytesV, List.map_take, List.map_drop] using h1

def ReadPost (p g : Nat) (data : List UInt8) (r s a n : Nat) (w : World) (e : Ending) (w' : World) : Prop :=
  ∃ A c, e = .returned (.tuple #[.slice A n c, .int .i64 0]) ∧ w'.ownsRow w.heap.size 5 1 (.slice A n c) n (bytesV (part data a n)) ∧ DevS w' p g data (r + n) s ∧ Fr (fun k => k = p) w w'
set_option maxHeartbeats 400000 in
theorem devRead_yes (p g : Nat) (data : List UInt8) (r s : Nat) (w : World) (a n : Nat) (hd : DevS w p g data r s) (hl : data.length ≤ 1000000000) (hr : r ≤ 1000000000000) (h : a + n ≤ data.length) :
    Calls Try.prog 20 #[.pointer (some ⟨p, 0, none⟩), .int .i64 (a : Int), .int .i64 (n : Int)] w (ReadPost p g data r s a n w) := by
  have c0 := hd.c0
  have c1 := hd.c1
  have f1 := hd.cells.frozen 1
  have EX := Lib.hid (devExists_yes p g data r s w a n hd hl h)
  obtain ⟨W, hW, hd2, hF⟩ : ∃ W, w.setCell ⟨p, 1, none⟩ (.int .i64 ((r : Int) + (n : Int))) = W ∧ DevS W p g data (r + n) s ∧ Fr (fun k => k = p) w W :=
    ⟨_, rfl, ⟨by have h := hd.cells.set_ 1 (.int .i64 ((r : Int) + (n : Int))); simpa using h, hd.bytes.far (q := ⟨p, 1, none⟩) hd.ne _, hd.ne⟩, (Fr.refl (fun k => k = p) w).setCell (p := ⟨p, 1, none⟩) (.inl rfl) _⟩
  obtain ⟨i0, hi0, hz0, hz1, hz2⟩ := info_parts byteInfoC
  have hq := run_slice_fromto Try.underlying22 hi0 hz1 (some ⟨g, 0, none⟩) data.length data.length a (a + n) (by omega) h
  clear hi0 hz0 hz1 hz2
  rw [show a + n - a = n by omega] at hq
  have CL := clone_any (part data a n) (restAt (some ⟨g, 0, none⟩) data.length a) (data.length - a) W.heap.size W (by rw [len_part data a n h]; omega) (sl_part hd2.bytes a n data.length (Nat.le_refl _)) (Nat.le_refl _)
  rw [len_part data a n h] at CL
  have HCL := Lib.hid CL
  have HW := Lib.hid hW
  have HD2 := Lib.hid hd2
  have HF := Lib.hid hF
  have d0 := hd2.c0
  have hln := len_part data a n h
  have HLN := Lib.hid hln
  clear hd hd2 hF CL hW hln
  generalize restAt (some ⟨g, 0, none⟩) data.length a = A1 at hq HCL
  generalize data.length - a = cc at hq HCL
  have e1 : IntKind.i64.wrap ((a : Int) + (n : Int)) = ((a + n : Nat) : Int) := by rw [IntWalk.i64_in _ (by omega)]; omega
  have e2 : (a : Int) + (n : Int) = ((a + n : Nat) : Int) := by omega
  generalize a + n = an at e1 e2 hq h
  go_enter Try.func20, Try.ntmps20
  go_wp2_with fail
  (with_reducible refine EX.out.mono ?_)
  rintro e w1 ⟨rfl, rfl⟩
  go_wp2_with fail
  rw [HW.out]
  (with_reducible refine HCL.out.mono ?_)
  rintro e w2 ⟨A2, c2, rfl, hown2, hb2⟩
  rw [len_bytesV, HLN.out] at hown2 ⊢
  have HO2 := Lib.hid (own_base hown2 HF.out.size)
  have HD3 := Lib.hid (HD2.out.fr (Fr.of_below hb2 (fun _ => False)) id id)
  have HF3 := Lib.hid (HF.out.trans (Fr.of_below hb2 (fun _ => False)) (fun _ _ h => h.elim))
  clear hown2 hb2
  go_wp2_with fail
  go_ret2
  exact ⟨A2, c2, rfl, HO2.out, HD3.out, HF3.out⟩
theorem devRead_no (p g : Nat) (data : List UInt8) (r s : Nat) (w : World) (a n : Int) (hd : DevS w p g data r s) (hl : data.length ≤ 1000000000) (h : ¬ (0 ≤ n ∧ 0 ≤ a ∧ a ≤ data.length ∧ n ≤ data.length - a)) :
    Calls Try.prog 20 #[.pointer (some ⟨p, 0, none⟩), .int .i64 a, .int .i64 n] w fun e w' => e = .returned (.tuple #[.slice none 0 0, .int .i64 2]) ∧ w = w' := by
  have EX := Lib.hid (devExists_no p g data r s w a n hd hl h)
  clear h hd
  go_enter Try.func20, Try.ntmps20
  go_wp2_with fail
  (with_reducible refine EX.out.mono ?_)
  rintro e w1 ⟨rfl, rfl⟩
  go_wp2_with fail
  go_ret2
  exact ⟨rfl, rfl⟩
end Go.Proofs.Ytpaimcigkpdjpaa
