/-
  The law InflateStored returns true: walk.
-/
import Derived.Test.YtdmmlpioaiammaaDoorInfStoredAll
import Derived.Test.YtdmmlpioaiammaaDoorParts
import Derived.Test.YtdmmlpioaiammaaDoorStr
namespace Go.Proofs.YtdmmlpioaiammaaDoor
open Go.RowKit

set_option maxHeartbeats 400000 in
theorem awake13_any (w : World) : Calls Tryd.prog 4 #[] w fun e w' => e = .returned (.bool true) ∧ Below w.heap.size w w' := by
  obtain ⟨W1, hW1⟩ : ∃ W1, w.alloc (.cells #[.int .u8 3, .int .u8 0] 5) = W1 := ⟨_, rfl⟩
  have hsl : Sl W1 W1.heap.size (some ⟨w.heap.size, 0, none⟩) (bytesV [3, 0]) := by rw [← hW1]; exact (Sl.new_ w _ _ _).more (by simp)
  have HB1 := Lib.hid (show Below w.heap.size w W1 by rw [← hW1]; exact (Below.refl _ w).alloc (Nat.le_refl _) _)
  have IA := Lib.hid (infAll_any 0 (some ⟨w.heap.size, 0, none⟩) 2 2 [] 0 0 W1 (by decide) (by decide) (fun pm pr pw w1 h1 h2 h3 h4 h5 h6 h7 hb => wrote_awake pm pr pw W1.heap.size _ 2 W1 w1 (hsl.below hb (Nat.le_refl _)) (Nat.le_refl _) h1 h2 h3 h4 h5 h6 h7 hb))
  have HW := Lib.hid hW1
  clear hsl hW1
  go_enter Tryd.func4, Tryd.ntmps4
  go_wp2_with fail
  rw [HW.out]
  refine IA.out.mono ?_
  rintro e w2 ⟨hb2, ⟨h, _⟩ | ⟨_, A, c, rfl, _⟩⟩
  · exact absurd rfl h
  have HB2 := Lib.hid (HB1.out.trans (hb2.mono HB1.out.size))
  clear hb2
  go_wp2_with fail
  go_ret
  exact ⟨rfl, HB2.out⟩

/-- after k rounds: what is written, what is still to come -/
structure StR (W : World) (q : Nat) (L : List (List UInt8)) (k : Nat) (A : Option Addr) (c : Nat) (all : List UInt8) (Ab : Option Addr) (cb : Nat) (b : List UInt8) : Prop where
  oa : W.ownsRow q 5 1 (.slice A all.length c) all.length (bytesV all)
  ob : W.ownsRow q 5 1 (.slice Ab b.length cb) b.length (bytesV b)
  ne : ∀ g, (Value.slice A all.length c).ownBlock = some g → (Value.slice Ab b.length cb).ownBlock = some g → False
  ea : all ++ (L.drop k).flatten = L.flatten
  eb : b ++ enc (L.drop k) = enc L
  la : all.length ≤ 300 * k
  lb : b.length ≤ 305 * k
  small : ∀ p ∈ L.take k, p.length ≤ 300
theorem enc_next {L : List (List UInt8)} {k : Nat} {x : List UInt8} (h : L[k]? = some x) : enc (L.drop k) = [if k + 1 = L.length then 1 else 0] ++ (sizes x.length ++ (x ++ enc (L.drop (k + 1)))) := by
  obtain ⟨hk, hx⟩ := List.getElem?_eq_some_iff.1 h
  rw [List.drop_eq_getElem_cons hk, enc, hx]
  have : (List.drop (k + 1) L = []) ↔ k + 1 = L.length := by rw [List.drop_eq_nil_iff]; omega
  by_cases e : k + 1 = L.length
  · simp [e]
  · rw [if_neg (fun h => e (this.1 h)), if_neg e]; rfl
theorem flat_next {L : List (List UInt8)} {k : Nat} {x : List UInt8} (h : L[k]? = some x) : (L.drop k).flatten = x ++ (L.drop (k + 1)).flatten := by
  obtain ⟨hk, hx⟩ := List.getElem?_eq_some_iff.1 h
  rw [List.drop_eq_getElem_cons hk, hx, List.flatten_cons]
theorem take_next {L : List (List UInt8)} {k : Nat} {x : List UInt8} (h : L[k]? = some x) (hs : ∀ p ∈ L.take k, p.length ≤ 300) (hx : x.length ≤ 300) : ∀ p ∈ L.take (k + 1), p.length ≤ 300 := by
  intro p hp
  rw [List.take_add_one, h] at hp
  rcases List.mem_append.1 hp with hp | hp
  · exact hs p hp
  · simp at hp; subst hp; exact hx
theorem quo_rem {n : Nat} (_hn : n ≤ 300) : ((n : Int)).tmod 256 = ((n % 256 : Nat) : Int) ∧ ((n : Int)).tdiv 256 = ((n / 256 : Nat) : Int) := by
  constructor
  · rw [Int.tmod_eq_emod_of_nonneg (by omega)]; simp
  · rw [Int.tdiv_eq_ediv_of_nonneg (by omega)]; simp
theorem stR_ne {v u u' : Value} {W : World} (h : ∀ g, v.ownBlock = some g → u.ownBlock = some g → False) (hat : u'.ownBlock = u.ownBlock ∨ u'.ownBlock = some W.heap.size) (hlt : ∀ g, v.ownBlock = some g → g < W.heap.size) : ∀ g, v.ownBlock = some g → u'.ownBlock = some g → False := by
  intro g h1 h2
  rcases hat with e | e
  · exact h g h1 (e ▸ h2)
  · rw [e] at h2; injection h2 with h2; have := hlt g h1; omega
theorem head_bytes {n q r : Nat} {fb : UInt8} {z : Int} (hz : ((fb.toNat : Nat) : Int) = z) (hq : q = n % 256) (hr : r = n / 256) (hn : n ≤ 300) :
    [Value.int .u8 z, .int .u8 q, .int .u8 r, .int .u8 (255 - q), .int .u8 (255 - r)] = bytesV ([fb] ++ sizes n) := by
  subst hq hr hz
  simp [bytesV, byteV, sizes]
  omega
theorem stR_len (b : List UInt8) (fb : UInt8) (x : List UInt8) : (b ++ ([fb] ++ (sizes x.length ++ x))).length = b.length + 5 + x.length := by
  simp [sizes]; omega
theorem stR_step {W W' : World} {qb : Nat} {L : List (List UInt8)} {k : Nat} {A Ab A' Ab' : Option Addr} {c cb c' cb' : Nat} {all b x : List UInt8} {fb : UInt8} {z : Int} {q r : Nat} (h : StR W qb L k A c all Ab cb b) (hx : L[k]? = some x) (h3 : x.length ≤ 300)
    (hf : fb = if k + 1 = L.length then 1 else 0) (hz : ((fb.toNat : Nat) : Int) = z) (hq : q = x.length % 256) (hr : r = x.length / 256)
    (ha : W'.ownsRow qb 5 1 (.slice A' (all.length + x.length) c') (all.length + x.length) (bytesV all ++ bytesV x))
    (hb : W'.ownsRow qb 5 1 (.slice Ab' (b.length + 5 + x.length) cb') (b.length + 5 + x.length) (bytesV b ++ [Value.int .u8 z, .int .u8 q, .int .u8 r, .int .u8 (255 - q), .int .u8 (255 - r)] ++ bytesV x))
    (hne : ∀ g, (Value.slice Ab' (b.length + 5 + x.length) cb').ownBlock = some g → (Value.slice A' (all.length + x.length) c').ownBlock = some g → False) :
    StR W' qb L (k + 1) A' c' (all ++ x) Ab' cb' (b ++ ([fb] ++ (sizes x.length ++ x))) := by
  rw [head_bytes hz hq hr h3] at hb
  have e1 : (all ++ x).length = all.length + x.length := List.length_append
  have e2 := stR_len b fb x
  refine ⟨by rw [e1, bytes_append]; exact ha, by rw [e2, bytes_append, ← List.append_assoc [fb], bytes_append ([fb] ++ _), ← List.append_assoc]; exact hb, ?_, ?_, ?_, ?_, ?_, take_next hx h.small h3⟩
  · rw [e1, e2]; exact fun g h1 h2 => hne g h2 h1
  · rw [← h.ea, flat_next hx, List.append_assoc]
  · rw [← h.eb, enc_next hx, ← hf]; simp
  · have := h.la; omega
  · have := h.lb; omega

set_option maxRecDepth 100000 in
set_option maxHeartbeats 8000000 in
theorem inflateStored_walk (a : Option Addr) (l : List PartV) (cap : Nat) (lim : Nat) (w : World) (hl : l.length ≤ maxLen) (_hlc : l.length ≤ cap) (hok : ∀ o ∈ l, o.ok w) (hsl : Sl w w.heap.size a (l.flatMap PartV.cells)) (hlim : lim < 65536) :
    Calls Tryd.prog 3 #[.slice a l.length cap, .int .u16 (lim : Int)] w fun e w' => e = .returned (.bool true) ∧ Below w.heap.size w w' := by
  unfold maxLen at hl
  have HS := Lib.hid hsl
  have HK := Lib.hid hok
  clear hsl hok
  have AW := Lib.hid (awake13_any w)
  by_cases few : 1 ≤ l.length ∧ l.length ≤ 20
  case neg =>
    by_cases h1 : l.length < 1
    · have t1 : decide ((l.length : Int) < 1) = true := decide_eq_true (by omega)
      go_enter Tryd.func3, Tryd.ntmps3
      go_wp2_with fail
      refine AW.out.mono ?_
      rintro e w1 ⟨rfl, hb1⟩
      go_wp2_with fail
      go_ret
      exact ⟨rfl, hb1⟩
    · have t1 : decide ((l.length : Int) < 1) = false := decide_eq_false (by omega)
      have t2 : decide ((20 : Int) < (l.length : Int)) = true := decide_eq_true (by omega)
      go_enter Tryd.func3, Tryd.ntmps3
      go_wp2_with fail
      refine AW.out.mono ?_
      rintro e w1 ⟨rfl, hb1⟩
      go_wp2_with fail
      go_ret
      exact ⟨rfl, hb1⟩
  obtain ⟨few1, few2⟩ := few
  have t1 : decide ((l.length : Int) < 1) = false := decide_eq_false (by omega)
  have t2 : decide ((20 : Int) < (l.length : Int)) = false := decide_eq_false (by omega)
  obtain ⟨i0, hi0, hz0, hz1, hz2⟩ := info_parts byteInfoC
  have Hi0 := Lib.hid hi0
  have Hz0 := Lib.hid hz0
  have Hz1 := Lib.hid hz1
  have Hz2 := Lib.hid hz2
  clear hi0 hz0 hz1 hz2
  obtain ⟨L, hL⟩ : ∃ L, L = l.map PartV.data := ⟨_, rfl⟩
  have hLl : L.length = l.length := by rw [hL, List.length_map]
  have HLE := Lib.hid hL
  have HLL := Lib.hid hLl
  clear hL hLl
  go_enter Tryd.func3, Tryd.ntmps3
  go_wp2_with fail
  refine AW.out.mono ?_
  rintro e w1 ⟨rfl, hb1⟩
  have HB1 := Lib.hid hb1
  have hs1 := hb1.size
  clear hb1 AW
  go_wp2_with fail
  go_loopw [5, 6, 7] (fun av bv i wr => ∃ (k : Nat) (A : Option Addr) (c : Nat) (all : List UInt8) (Ab : Option Addr) (cb : Nat) (b : List UInt8), k ≤ l.length ∧ i = .int .i64 k ∧ av = .slice A all.length c ∧ bv = .slice Ab b.length cb ∧ StR wr w1.heap.size L k A c all Ab cb b ∧ Below w.heap.size w wr ∧ w1.heap.size ≤ wr.heap.size) (fun _ _ i _ => l.length - (intOf i).toNat)
  case atStart => exact ⟨0, none, 0, [], none, 0, [], Nat.zero_le _, rfl, rfl, rfl, ⟨World.ownsRow_nil _ _ _ _, World.ownsRow_nil _ _ _ _, fun g h => by simp [Value.ownBlock] at h, rfl, rfl, Nat.le_refl _, Nat.le_refl _, by simp⟩, HB1.out, Nat.le_refl _⟩
  case round =>
    obtain ⟨k, A, c, all, Ab, cb, b, hk, rfl, rfl, rfl, hst, hbel, hws⟩ := hrel
    have HST := Lib.hid hst
    have HB := Lib.hid hbel
    have hbs := hbel.size
    have hal : all.length ≤ 300 * k := hst.la
    have hbl : b.length ≤ 305 * k := hst.lb
    clear hst hbel
    by_cases hlt : k < l.length
    · have hx := List.getElem?_eq_getElem hlt
      have hxo := HK.out _ (List.mem_of_getElem? hx)
      generalize l[k] = x at hx hxo
      obtain ⟨pb, off, rfl, hbB, q0⟩ := parts_at (HS.out.below HB.out (Nat.le_refl _)) hx
      have HSX := Lib.hid hxo.sl
      have HLX := Lib.hid (show L[k]? = some x.data by rw [HLE.out, List.getElem?_map, hx]; rfl)
      obtain ⟨xa, xd, xc⟩ := x
      simp only [] at q0 HSX HLX
      clear hxo hx
      have k0 : (0 : Int) ≤ (k : Int) := Int.natCast_nonneg _
      have k1 : (k : Int) < (l.length : Int) := by omega
      by_cases h300 : xd.length ≤ 300
      case neg =>
        have t3 : decide ((300 : Int) < (xd.length : Int)) = true := decide_eq_true (by omega)
        go_wp2_with fail
        go_ret
        exact ⟨rfl, HB.out⟩
      have t3 : decide ((300 : Int) < (xd.length : Int)) = false := decide_eq_false (by omega)
      obtain ⟨q, hq⟩ : ∃ q, q = xd.length % 256 := ⟨_, rfl⟩
      obtain ⟨r, hr⟩ : ∃ r, r = xd.length / 256 := ⟨_, rfl⟩
      obtain ⟨r1, r2⟩ := quo_rem h300
      rw [← hq] at r1
      rw [← hr] at r2
      have hq6 : q < 256 := by omega
      have hr6 : r < 2 := by omega
      have HQ := Lib.hid hq
      have HR := Lib.hid hr
      obtain ⟨fb, hfb⟩ : ∃ fb : UInt8, fb = if k + 1 = L.length then 1 else 0 := ⟨_, rfl⟩
      have HFB := Lib.hid hfb
      have hcase : ((((k : Int) == (l.length : Int) - 1) = true) ∧ fb = 1) ∨ ((((k : Int) == (l.length : Int) - 1) = false) ∧ fb = 0) := by
        rw [hfb, HLL.out]
        by_cases e : k + 1 = l.length
        · exact .inl ⟨beq_iff_eq.2 (by omega), by rw [if_pos e]⟩
        · exact .inr ⟨beq_eq_false_iff_ne.2 (by omega), by rw [if_neg e]⟩
      clear hq hr hfb
      rcases hcase with ⟨t4, hfb⟩ | ⟨t4, hfb⟩
      all_goals
        have HFB1 := Lib.hid hfb
        clear hfb
        go_wp2_with (first
          | (at_builtin; refine wpList_append_sl _ rfl (.tmp 41) (.tmp 57) _ rfl w1.heap.size 5 i0 _ 1 Tryd.underlying25 Hi0.out Hz0.out Hz1.out Hz2.out rfl (.slice Ab b.length cb) b.length (bytesV b) rfl (HST.out.ob.alloc _) _ (some ⟨wr.heap.size, 0, none⟩) 5 5 _ rfl rfl (Sl.new_ _ _ _ _) (by simp [Value.oneCell']) (by unfold maxLen; omega) (by omega) (by simp; omega) ?_; intro v5 w5 hown5 hgrow5 hat5; obtain ⟨A5, c5, rfl⟩ := own_form hown5; have HO5 := Lib.hid hown5; have HB5 := Lib.hid (own_below (HST.out.ob.alloc _) hgrow5 hs1 (by simp; omega) (HB.out.alloc hbs _)); have HA5 := Lib.hid (own_fr (HST.out.oa.alloc _) ((Fr.refl (fun k => (Value.slice Ab b.length cb).ownBlock = some k) _).grown hgrow5 (fun _ _ e => e)) (fun g h1 h2 => HST.out.ne g h1 h2)); have HN5 := Lib.hid (stR_ne HST.out.ne hat5 (fun g hg => by have := (HST.out.oa.lt g hg).2; simp; omega)); have hs5 := hgrow5.size; simp at hs5; have q5 := (HB5.out.cell (p := ⟨pb, off + k, none⟩) hbB).trans ((HB.out.cell (p := ⟨pb, off + k, none⟩) hbB).symm.trans q0); clear hown5 hgrow5 hat5)
          | (at_builtin; refine wpList_append_sl _ rfl (.tmp 59) (.tmp 63) _ rfl w1.heap.size 5 i0 _ 1 Tryd.underlying25 Hi0.out Hz0.out Hz1.out Hz2.out rfl (.slice A5 (b.length + 5) c5) (b.length + 5) _ rfl HO5.out w.heap.size xa xd.length xc (bytesV xd) (len_bytesV xd) rfl (HSX.out.below HB5.out (Nat.le_refl _)) (bytes_oneCell xd) (by unfold maxLen; omega) (by omega) (by omega) ?_; intro v6 w6 hown6 hgrow6 hat6; obtain ⟨A6, c6, rfl⟩ := own_form hown6; have HO6 := Lib.hid hown6; have HB6 := Lib.hid (own_below HO5.out hgrow6 hs1 (by omega) HB5.out); have HA6 := Lib.hid (own_fr HA5.out ((Fr.refl (fun k => (Value.slice A5 (b.length + 5) c5).ownBlock = some k) _).grown hgrow6 (fun _ _ e => e)) (fun g h1 h2 => HN5.out g h1 h2)); have HN6 := Lib.hid (stR_ne HN5.out hat6 (fun g hg => (HA5.out.lt g hg).2)); have hs6 := hgrow6.size; have q6 := (HB6.out.cell (p := ⟨pb, off + k, none⟩) hbB).trans ((HB.out.cell (p := ⟨pb, off + k, none⟩) hbB).symm.trans q0); clear hown6 hgrow6 hat6)
          | (at_builtin; refine wpList_append_sl _ rfl (.tmp 65) (.tmp 69) _ rfl w1.heap.size 5 i0 _ 1 Tryd.underlying25 Hi0.out Hz0.out Hz1.out Hz2.out rfl (.slice A all.length c) all.length _ rfl HA6.out w.heap.size xa xd.length xc (bytesV xd) (len_bytesV xd) rfl (HSX.out.below HB6.out (Nat.le_refl _)) (bytes_oneCell xd) (by unfold maxLen; omega) (by omega) (by omega) ?_; intro v7 w7 hown7 hgrow7 hat7; obtain ⟨A7, c7, rfl⟩ := own_form hown7; have HO7 := Lib.hid hown7; have HB7 := Lib.hid (own_below HA6.out hgrow7 hs1 (by omega) HB6.out); have HA7 := Lib.hid (own_fr HO6.out ((Fr.refl (fun k => (Value.slice A all.length c).ownBlock = some k) _).grown hgrow7 (fun _ _ e => e)) (fun g h1 h2 => HN6.out g h2 h1)); have HN7 := Lib.hid (stR_ne (fun g h1 h2 => HN6.out g h2 h1) hat7 (fun g hg => (HO6.out.lt g hg).2)); have hs7 := hgrow7.size; clear hown7 hgrow7 hat7))
        have HX := Lib.hid (stR_step HST.out HLX.out h300 HFB.out (by rw [HFB1.out]; rfl) HQ.out HR.out HO7.out HA7.out HN7.out)
        clear HO5 HA5 HN5 HO6 HA6 HN6 HO7 HA7 HN7
        go_wp2_with fail
        go_roundw
        case rel => exact ⟨k + 1, A7, c7, all ++ xd, A6, c6, b ++ ([fb] ++ (sizes xd.length ++ xd)), by omega, by go_num, by rw [List.length_append], by rw [stR_len], HX.out, HB7.out, by omega⟩
        case measure => simp [intOf]; omega
    · obtain rfl : k = l.length := by omega
      have hst := HST.out
      have e0 : L.drop l.length = [] := by rw [List.drop_eq_nil_iff, HLL.out]; exact Nat.le_refl _
      have e1 := hst.ea
      have e2 := hst.eb
      rw [e0] at e1 e2
      obtain rfl : all = L.flatten := by simpa using e1
      obtain rfl : b = enc L := by simpa [enc] using e2
      have hsm : ∀ p ∈ L, p.length ≤ 300 := by have := hst.small; rwa [List.take_of_length_le (by rw [HLL.out]; exact Nat.le_refl _)] at this
      have hne : L ≠ [] := fun h => by have := HLL.out; rw [h] at this; simp at this; omega
      obtain ⟨flt, hflt⟩ : ∃ flt : Int, flt = if lim < L.flatten.length then 28 else 0 := ⟨_, rfl⟩
      have IA := infAll_any lim Ab (enc L).length cb L.flatten 0 flt wr (by omega) (by decide) (fun pm pr pw w1 h1 h2 h3 h4 h5 h6 h7 hb => by rw [hflt]; exact wrote_stored L lim pm pr pw wr.heap.size Ab cb wr w1 hne hsm (by omega) (by omega) ((Sl.of_own hst.ob).below hb (Nat.le_refl _)) (Nat.le_refl _) h1 h2 h3 h4 h5 h6 h7 hb)
      rw [show (((enc L).length : Nat) : Int) - ((0 : Nat) : Int) = ((enc L).length : Int) by omega] at IA
      have IA := Lib.hid IA
      have HSA := Lib.hid (Sl.of_own hst.oa)
      have HFL := Lib.hid hflt
      clear hst e0 e1 e2 hsm hne hflt HST
      generalize L.flatten = all at IA HSA HFL hal
      generalize enc L = b at IA hbl
      go_wp2_with fail
      (with_reducible refine IA.out.mono ?_)
      rintro e w2 ⟨hb2, ⟨hf, rfl⟩ | ⟨hf, A2, c2, rfl, hs2⟩⟩
      · have HB2 := Lib.hid (HB.out.trans (hb2.mono hbs))
        by_cases hlt2 : lim < all.length
        · have t3 : decide ((lim : Int) < (all.length : Int)) = true := decide_eq_true (by omega)
          obtain rfl : flt = 28 := by rw [HFL.out, if_pos hlt2]
          clear hb2 hf IA HFL
          go_wp2_with fail
          go_ret
          exact ⟨rfl, HB2.out⟩
        · exact absurd (by rw [HFL.out, if_neg hlt2]) hf
      · have hle : all.length ≤ lim := by
          by_cases hlt2 : lim < all.length
          · rw [HFL.out, if_pos hlt2] at hf; exact absurd hf (by decide)
          · omega
        have t3 : decide ((lim : Int) < (all.length : Int)) = false := decide_eq_false (by omega)
        have HB2 := Lib.hid (HB.out.trans (hb2.mono hbs))
        have g1 := run_str (P := Tryd.prog) w2 w2.heap.size 25 9 5 A2 all c2 Tryd.underlying25 Tryd.underlying5 Tryd.underlying9 hs2
        have g2 := run_str (P := Tryd.prog) w2 w2.heap.size 25 9 5 A all c Tryd.underlying25 Tryd.underlying5 Tryd.underlying9 ((HSA.out.below hb2 (Nat.le_refl _)).more hb2.size)
        generalize strOf all = sx at g1 g2
        clear hb2 IA HFL hs2 HSA hf
        go_wp2_with fail
        go_ret
        exact ⟨by simp, HB2.out⟩
end Go.Proofs.YtdmmlpioaiammaaDoor
