/-
  bitin.Reader.Feed: the bits of bytes come behind those that are left.
-/
import Derived.Test.YtdmmlpioaiammaaDoorBitin
import Derived.Laws.CopyOwn
import Derived.Deep.Cut
namespace Go.Proofs.YtdmmlpioaiammaaDoor
open Go.RowKit

def FeedPost (B p : Nat) (o : Value) (buf : List UInt8) (pos gone : Nat) (b : List UInt8) (w : World) (e : Ending) (w' : World) : Prop :=
  ∃ o' buf' pos' gone', e = .returned (.tuple #[]) ∧ left buf' pos' = left buf pos ++ Bit.ofBytes b ∧ 8 * gone' + pos' = 8 * gone + pos ∧ RdS w' B p o' buf' pos' gone' ∧ buf'.length ≤ buf.length + b.length ∧
    (o'.ownBlock = o.ownBlock ∨ ∀ g, o'.ownBlock = some g → w.heap.size ≤ g) ∧ Fr (fun x => x = p ∨ some x = o.ownBlock) w w'

theorem left_append (buf b : List UInt8) (pos : Nat) (h : pos ≤ 8 * buf.length) : left (buf ++ b) pos = left buf pos ++ Bit.ofBytes b := by
  unfold left
  rw [Bit.ofBytes_append', List.drop_append_of_le_length (by rw [Bit.length_ofBytes']; exact h)]

theorem feed_key (B p : Nat) (A : Option Addr) (cap : Nat) (buf : List UInt8) (pos gone : Nat) (b : List UInt8) (w : World) (h : RdS w B p (.slice A buf.length cap) buf pos gone) :
    ∀ (v' : Value) (w1 : World), w1.ownsRow B 5 1 v' (buf.length + b.length) (bytesV buf ++ bytesV b) → w.grownBy w1 (Value.slice A buf.length cap).ownBlock → (v'.ownBlock = (Value.slice A buf.length cap).ownBlock ∨ v'.ownBlock = some w.heap.size) →
      Whole w1 p 47 #[Value.slice A buf.length cap, .int .i64 (pos : Int), .int .i64 (gone : Int)] ∧ FeedPost B p (.slice A buf.length cap) buf pos gone b w (.returned (.tuple #[])) (w1.setCell ⟨p, 0, none⟩ v') := by
  intro v' w1 ho hg hat
  have hle := h.le
  have hplt := h.cells.lt
  have hW := h.cells.grown hg h.apart
  have hvp : v'.ownBlock ≠ some p := by
    rcases hat with h1 | h1
    · rw [h1]; exact h.apart
    · rw [h1]; intro e; injection e with e; omega
  refine ⟨hW, v', buf ++ b, pos, gone, rfl, left_append buf b pos hle, rfl, ⟨?_, ?_, hvp, by rw [List.length_append]; omega⟩, by simp, ?_, ?_⟩
  · have h := hW.set_ 0 v'
    simpa using h
  · rw [List.length_append, bytes_append]
    exact own_keep ho fun g hg' => Below.heap_setCell w1 _ _ g (fun e => hvp (by rw [hg', e]))
  · rcases hat with h1 | h1
    · exact .inl h1
    · exact .inr fun g hg' => by rw [h1] at hg'; injection hg' with hg'; omega
  · exact ((Fr.refl _ w).grown hg fun k _ hk => .inr hk.symm).setCell (.inl (.inl rfl)) _

set_option maxHeartbeats 800000 in
theorem feed_plain (B p : Nat) (o : Value) (buf : List UInt8) (pos gone : Nat) (b : List UInt8) (a : Option Addr) (c C : Nat) (w : World) (h : RdS w B p o buf pos gone) (hb : buf.length ≤ 1000000000) (hbb : b.length ≤ 1000000000) (hB : B ≤ w.heap.size) (hsl : Sl w C a (bytesV b))
    (ht : pos / 8 = 0 ∨ 0 < pos / 8 ∧ pos / 8 < buf.length - pos / 8) :
    Calls Tryd.prog 13 #[.pointer (some ⟨p, 0, none⟩), .slice a b.length c] w (FeedPost B p o buf pos gone b w) := by
  have HR := Lib.hid h
  have hle := h.le
  have hplt := h.cells.lt
  have c0 := h.cells.cell 0
  have c1 := h.cells.cell 1
  have c2 := h.cells.cell 2
  have f0 := h.cells.frozen 0
  simp at c0 c1 c2
  obtain ⟨A, cap, rfl⟩ := own_form h.own
  have hown := h.own
  have hnp := h.apart
  have HS := Lib.hid hsl
  clear h hsl
  obtain ⟨i0, hi0, hz0, hz1, hz2⟩ := info_parts byteInfoR
  have Hi0 := Lib.hid hi0
  have Hz0 := Lib.hid hz0
  have Hz1 := Lib.hid hz1
  have Hz2 := Lib.hid hz2
  clear hi0 hz0 hz1 hz2
  have e1 : (pos : Int) / 8 = ((pos / 8 : Nat) : Int) := by omega
  have hf8 : pos / 8 ≤ buf.length := by omega
  have KEY := Lib.hid (feed_key B p A cap buf pos gone b w HR.out)
  rcases ht with ht | ⟨ht1, ht2⟩
  · have t1 : decide ((0 : Int) < ((pos / 8 : Nat) : Int)) = false := by simp; omega
    have t1' : decide (0 < pos / 8) = false := by simp; omega
    generalize pos / 8 = f at e1 t1 t1' ht hf8
    clear ht
    go_enter Tryd.func13, Tryd.ntmps13
    go_wp2_with (at_builtin; refine wpList_append_sl _ rfl _ _ _ rfl B 5 i0 _ 1 Tryd.underlying25 Hi0.out Hz0.out Hz1.out Hz2.out rfl _ buf.length (bytesV buf) rfl hown C a b.length c (bytesV b) (len_bytesV b) rfl HS.out (bytes_oneCell b) (by unfold maxLen; omega) (by omega) hB ?_; intro v1 w1 hown1 hgrow1 hat1; obtain ⟨hWW, hPP⟩ := KEY.out v1 w1 hown1 hgrow1 hat1; have HPP := Lib.hid hPP; obtain ⟨A1, c1', hv1⟩ := own_form hown1; rw [hv1] at HPP; rw [hv1]; have x0 := hWW.frozen 0; have y0 := hWW.cell 0; simp at y0; clear hWW hPP hown1 hgrow1 hat1 hv1)
    go_end0
    exact HPP.out
  · have t1 : decide ((0 : Int) < ((pos / 8 : Nat) : Int)) = true := by simp; omega
    have t1' : decide (0 < pos / 8) = true := by simp; omega
    have e2 : ((buf.length : Int) - ((pos / 8 : Nat) : Int)) ≤ ((pos / 8 : Nat) : Int) → False := by omega
    have t2 : decide (((buf.length : Int) - ((pos / 8 : Nat) : Int)) ≤ ((pos / 8 : Nat) : Int)) = false := by simp; omega
    generalize pos / 8 = f at e1 t1 t1' t2 ht1 ht2 hf8
    clear e2
    go_enter Tryd.func13, Tryd.ntmps13
    go_wp2_with (at_builtin; refine wpList_append_sl _ rfl _ _ _ rfl B 5 i0 _ 1 Tryd.underlying25 Hi0.out Hz0.out Hz1.out Hz2.out rfl _ buf.length (bytesV buf) rfl hown C a b.length c (bytesV b) (len_bytesV b) rfl HS.out (bytes_oneCell b) (by unfold maxLen; omega) (by omega) hB ?_; intro v1 w1 hown1 hgrow1 hat1; obtain ⟨hWW, hPP⟩ := KEY.out v1 w1 hown1 hgrow1 hat1; have HPP := Lib.hid hPP; obtain ⟨A1, c1', hv1⟩ := own_form hown1; rw [hv1] at HPP; rw [hv1]; have x0 := hWW.frozen 0; have y0 := hWW.cell 0; simp at y0; clear hWW hPP hown1 hgrow1 hat1 hv1)
    go_end0
    exact HPP.out

theorem copy_down {P : Program} (w : World) (B : Nat) (t ty e : TypeId) (ht : P.underlying t = some (.slice e)) (hs : (P.info? e).map (·.size) = some 1) (A : Option Addr) (n cap k : Nat) (xs : List Value)
    (hown : w.ownsRow B e 1 (.slice A n cap) n xs) (h1 : ∀ u ∈ xs, u.oneCell' = true) (hk : k ≤ n) (hk0 : 0 < k) :
    ∃ W, (Builtin.copy_ #[t, t] ty #[.slice A n cap, .slice (restAt A cap k) (n - k) (cap - k)]).run P w = .ok (.int .i64 ((n - k : Nat) : Int)) W ∧ W.ownsRow B e 1 (.slice A (n - k) cap) (n - k) (xs.drop k) ∧ w.grownBy W (Value.slice A n cap).ownBlock := by
  rcases hown.2 with ⟨hv, hn⟩ | ⟨g, cap', cur, hv, hg, hh, hnc, hcm, hcs, htake⟩
  · omega
  · injection hv with hA _ hc
    subst hA hc
    have hxl : xs.length = n := own_sl hown
    rw [Nat.mul_one] at htake hcs
    have hcl : cur.toList.length = cap := by rw [Array.length_toList, hcs]
    by_cases hkn : n - k = 0
    · refine ⟨w, ?_, ⟨by rw [List.length_drop]; omega, .inr ⟨g, cap, cur, rfl, hg, hh, by omega, hcm, by omega, ?_⟩⟩, World.grownBy.refl w _⟩
      · have h := run_copy_none (P := P) w t t ty e (some ⟨g, 0, none⟩) (restAt (some ⟨g, 0, none⟩) cap k) n cap (n - k) (cap - k) ht hs (by rw [hkn]; simp)
        rw [h, hkn]; rfl
      · rw [hkn, Nat.zero_mul, List.take_zero, List.drop_of_length_le (by omega)]
    · have hr : restAt (some ⟨g, 0, none⟩) cap k = some ⟨g, k, none⟩ := by
        unfold restAt
        rw [if_neg (by omega)]
        simp [Addr.add, show k ≠ 0 by omega]
      rw [hr]
      have hcl2 : (xs.drop k).length = n - k := by rw [List.length_drop]; omega
      have h := run_copy_row (P := P) w t t ty e g 0 n cap ⟨g, k, none⟩ (n - k) (cap - k) cur e (xs.drop k) ht hs hh (by rw [hcl2]; exact (Nat.min_eq_left (by omega)).symm) (fun j v hv => by
        rw [List.getElem?_drop] at hv
        have hlt : k + j < n := by
          rcases Nat.lt_or_ge (k + j) n with h | h
          · exact h
          · rw [List.getElem?_eq_none (by omega)] at hv; cases hv
        have hc : w.cell? ⟨g, k + j, none⟩ = cur[k + j]? := cell_of_row w g (k + j) cur e (0, 0) hh
        have hx : cur.toList[k + j]? = some v := by
          rw [← htake, List.getElem?_take, if_pos hlt] at hv
          exact hv
        have hcur : cur[k + j]? = some v := by simpa using hx
        rcases Nat.eq_zero_or_pos j with rfl | hj
        · simpa [Addr.add] using hc.trans hcur
        · simpa [Addr.add, show j ≠ 0 by omega] using hc.trans hcur) (by rw [hcl2]; omega) (fun v hv => h1 v (List.mem_of_mem_drop hv))
      refine ⟨_, h.trans (by rw [hcl2]; rfl), ⟨by rw [hcl2]; omega, .inr ⟨g, cap, _, rfl, hg, setRow_heap w g cur _ e (0, 0) hh, by omega, hcm, ?_, ?_⟩⟩, ⟨rfl, rfl, rfl, by simp [World.setRow], fun q _ hq => setRow_other w g q _ (fun e => hq (by rw [e]; rfl))⟩⟩
      · simp; omega
      · simp only [List.take_zero, List.nil_append, Nat.zero_add, Nat.mul_one]
        rw [List.take_append_of_le_length (by omega), List.take_of_length_le (by omega)]

set_option maxHeartbeats 1000000 in
theorem feed_compact (B p : Nat) (o : Value) (buf : List UInt8) (pos gone : Nat) (b : List UInt8) (a : Option Addr) (c C : Nat) (w : World) (h : RdS w B p o buf pos gone) (hb : buf.length ≤ 1000000000) (hbb : b.length ≤ 1000000000) (_hB : B ≤ w.heap.size) (hgo : gone ≤ 1000000000000) (hsl : Sl w C a (bytesV b)) (hC : C ≤ B) (hBp : B ≤ p)
    (ht1 : 0 < pos / 8) (ht2 : buf.length - pos / 8 ≤ pos / 8) :
    Calls Tryd.prog 13 #[.pointer (some ⟨p, 0, none⟩), .slice a b.length c] w (FeedPost B p o buf pos gone b w) := by
  have HR := Lib.hid h
  have hle := h.le
  have hplt := h.cells.lt
  have c0 := h.cells.cell 0
  have c1 := h.cells.cell 1
  have c2 := h.cells.cell 2
  have f0 := h.cells.frozen 0
  simp at c0 c1 c2
  obtain ⟨A, cap, rfl⟩ := own_form h.own
  have hown := h.own
  have hnp := h.apart
  have hcap : buf.length ≤ cap := by
    rcases hown.2 with ⟨hv, hz⟩ | ⟨g, cap, cur, hv, _, _, hnc, _⟩
    · omega
    · injection hv with _ _ h3; omega
  clear h
  obtain ⟨i0, hi0, hz0, hz1, hz2⟩ := info_parts byteInfoR
  have e1 : (pos : Int) / 8 = ((pos / 8 : Nat) : Int) := by omega
  have hf8 : 8 * (pos / 8) ≤ pos := by omega
  have hfb : pos / 8 ≤ buf.length := by omega
  have hleft : left (buf.drop (pos / 8)) (pos - 8 * (pos / 8)) = left buf pos := by
    unfold left
    rw [Bit.ofBytes_drop, List.drop_drop]
    congr 1
    omega
  have HLE := Lib.hid hleft
  clear hleft
  have t1 : decide ((0 : Int) < ((pos / 8 : Nat) : Int)) = true := by simp; omega
  have t1' : decide (0 < pos / 8) = true := by simp; omega
  have t2 : decide (((buf.length : Int) - ((pos / 8 : Nat) : Int)) ≤ ((pos / 8 : Nat) : Int)) = true := by simp; omega
  generalize pos / 8 = f at e1 t1 t1' t2 ht1 ht2 hf8 hfb HLE
  have hq := run_slice_from Tryd.underlying25 hi0 hz1 A buf.length cap f hfb
  obtain ⟨W2, hcopy, hown2, hgrow2⟩ := copy_down (P := Tryd.prog) w.drew B 25 3 5 Tryd.underlying25 (by rw [hi0]; simp [hz1]) A buf.length cap f (bytesV buf) hown.drew (bytes_oneCell buf) hfb ht1
  have hq2 := run_slice_to Tryd.underlying25 hi0 A buf.length cap (buf.length - f) (by omega)
  have Hi0 := Lib.hid hi0
  have Hz0 := Lib.hid hz0
  have Hz1 := Lib.hid hz1
  have Hz2 := Lib.hid hz2
  have hW2 := HR.out.cells.drew.grown hgrow2 hnp
  have HW2 := Lib.hid hW2
  have d0 := hW2.cell 0
  have d1 := hW2.cell 1
  have d2 := hW2.cell 2
  have g0 := hW2.frozen 0
  have g1 := hW2.frozen 1
  have g2 := hW2.frozen 2
  simp at d0 d1 d2
  have HO2 := Lib.hid hown2
  have HG2 := Lib.hid hgrow2
  have hl2 : (buf.drop f).length = buf.length - f := List.length_drop
  have HL2 := Lib.hid hl2
  have HS := Lib.hid hsl
  clear hi0 hz0 hz1 hz2 hW2 hown2 hgrow2 hl2 hsl
  have hle2 : buf.length - f ≤ buf.length := by omega
  generalize hn2 : buf.length - f = n2 at hcopy hq hq2 HO2 HL2 hle2
  have HN2 := Lib.hid hn2
  clear hn2
  have e3 : (pos : Int) - 8 * (f : Int) = ((pos - 8 * f : Nat) : Int) := by omega
  go_enter Tryd.func13, Tryd.ntmps13
  go_wp2_with fail
  go_still_tail 10, (by kernel_rfl)
  go_upto_region 6 with (fail)
  have hR3 : RdS (((W2.setCell ⟨p, 0, none⟩ (.slice A n2 cap)).setCell ⟨p, 1, none⟩ (.int .i64 ((pos - 8 * f : Nat) : Int))).setCell ⟨p, 2, none⟩ (.int .i64 ((gone : Int) + (f : Int)))) B p (.slice A (buf.drop f).length cap) (buf.drop f) (pos - 8 * f) (gone + f) := by
    refine ⟨?_, ?_, ?_, by rw [HL2.out, ← HN2.out]; omega⟩
    · have h := ((HW2.out.set_ 0 (.slice A n2 cap)).set_ 1 (.int .i64 ((pos - 8 * f : Nat) : Int))).set_ 2 (.int .i64 ((gone : Int) + (f : Int)))
      rw [HL2.out]
      simpa using h
    · rw [HL2.out, bytesV, List.map_drop]
      refine own_keep HO2.out fun g hg => ?_
      have hgp : g ≠ p := fun e => hnp (by rw [← e]; cases A <;> simp_all [Value.ownBlock])
      rw [Below.heap_setCell _ _ _ _ hgp, Below.heap_setCell _ _ _ _ hgp, Below.heap_setCell _ _ _ _ hgp]
    · cases A <;> simp_all [Value.ownBlock]
  have hF3 : Fr (fun x => x = p ∨ some x = (Value.slice A buf.length cap).ownBlock) w (((W2.setCell ⟨p, 0, none⟩ (.slice A n2 cap)).setCell ⟨p, 1, none⟩ (.int .i64 ((pos - 8 * f : Nat) : Int))).setCell ⟨p, 2, none⟩ (.int .i64 ((gone : Int) + (f : Int)))) :=
    (((((Fr.refl _ w).drew.grown HG2.out fun k _ hk => .inr hk.symm).setCell (.inl (.inl rfl)) _).setCell (.inl (.inl rfl)) _).setCell (.inl (.inl rfl)) _)
  generalize (((W2.setCell ⟨p, 0, none⟩ (.slice A n2 cap)).setCell ⟨p, 1, none⟩ (.int .i64 ((pos - 8 * f : Nat) : Int))).setCell ⟨p, 2, none⟩ (.int .i64 ((gone : Int) + (f : Int)))) = W3 at hR3 hF3
  have HR3 := Lib.hid hR3
  have HF3 := Lib.hid hF3
  have k0 := hR3.cells.cell 0
  have j0 := hR3.cells.frozen 0
  rw [HL2.out] at k0
  simp at k0
  have hown3 := hR3.own
  rw [HL2.out] at hown3
  have KEY := Lib.hid (feed_key B p A cap (buf.drop f) (pos - 8 * f) (gone + f) b W3 hR3)
  rw [HL2.out] at KEY
  have hs3 := hF3.size
  have HS3 : Hid (Sl W3 C a (bytesV b)) := HS.out.keep fun q hq => hF3.cell (by omega) (fun h => by
    rcases h with h | h
    · omega
    · have := hown.lt q.block h.symm; omega)
  clear hR3 hF3 d0 d1 d2 g0 g1 g2 c0 c1 c2 f0 hcopy hq hq2 hown
  go_wp2_with (at_builtin; refine wpList_append_sl _ rfl _ _ _ rfl B 5 i0 _ 1 Tryd.underlying25 Hi0.out Hz0.out Hz1.out Hz2.out rfl _ n2 (bytesV (buf.drop f)) rfl hown3 C a b.length c (bytesV b) (len_bytesV b) rfl HS3.out (bytes_oneCell b) (by unfold maxLen; omega) (by omega) (by omega) ?_; intro v1 w1 hown1 hgrow1 hat1; obtain ⟨hWW, hPP⟩ := KEY.out v1 w1 hown1 hgrow1 hat1; have HPP := Lib.hid hPP; obtain ⟨A1, c1', hv1⟩ := own_form hown1; rw [hv1] at HPP; rw [hv1]; have x0 := hWW.frozen 0; have y0 := hWW.cell 0; simp at y0; clear hWW hPP hown1 hgrow1 hat1 hv1)
  go_end0
  obtain ⟨o', buf', pos', gone', q1, q2, q3, q4, q5, q6, q7⟩ := HPP.out
  refine ⟨o', buf', pos', gone', q1, by rw [q2, HLE.out], by omega, q4, by have := HL2.out; omega, ?_, HF3.out.trans q7 fun k hk h => ?_⟩
  · rcases q6 with q6 | q6
    · left; rw [q6]; cases A <;> rfl
    · right; intro g hg; have := q6 g hg; omega
  · rcases h with h | h
    · exact .inl h
    · right; rw [h]; cases A <;> rfl

theorem feed_any (B p : Nat) (o : Value) (buf : List UInt8) (pos gone : Nat) (b : List UInt8) (a : Option Addr) (c C : Nat) (w : World) (h : RdS w B p o buf pos gone) (hb : buf.length ≤ 1000000000) (hbb : b.length ≤ 1000000000) (hB : B ≤ w.heap.size) (hgo : gone ≤ 1000000000000) (hsl : Sl w C a (bytesV b)) (hC : C ≤ B) (hBp : B ≤ p) :
    Calls Tryd.prog 13 #[.pointer (some ⟨p, 0, none⟩), .slice a b.length c] w (FeedPost B p o buf pos gone b w) := by
  by_cases h0 : pos / 8 = 0
  · exact feed_plain B p o buf pos gone b a c C w h hb hbb hB hsl (.inl h0)
  · by_cases h1 : pos / 8 < buf.length - pos / 8
    · exact feed_plain B p o buf pos gone b a c C w h hb hbb hB hsl (.inr ⟨by omega, h1⟩)
    · exact feed_compact B p o buf pos gone b a c C w h hb hbb hB hgo hsl hC hBp (by omega) (by omega)
end Go.Proofs.YtdmmlpioaiammaaDoor
