/-
  lazy.parse: the walk.
-/
import Derived.Test.YtjfmaebgihlegaaDoorLazyParse
namespace Go.Proofs.YtjfmaebgihlegaaDoor
open Go.RowKit Go.Maps

def GivesT (E : TypeId) (l : List TokV) (w : World) (e : Ending) (w' : World) : Prop :=
  ∃ A c, e = .returned (.slice A l.length c) ∧ w'.ownsRow w.heap.size E 3 (.slice A l.length c) l.length (l.flatMap TokV.cells) ∧ Below w.heap.size w w'
theorem lzS_start {w w2 w4 : World} {q : Nat} {D : List UInt8} {cd cg : Nat} {cw : Bool} {i0 s t : Nat} (hq : w.heap.size < q) (hsz : w2.heap.size = q + 2)
    (hb2 : Below (w.heap.size + 1) (w.alloc (.cells #[.int .i64 (cd : Int), .bool cw, .int .i64 (cg : Int)] 25)) w2)
    (hF : FindM w4 (w.heap.size + 1) q D i0 i0 (fun k => k = q + 2)) (hf : Fr (fun k => q ≤ k ∧ ¬ k = q + 2) (w2.alloc (.cells #[.pointer (some ⟨q + 1, 0, none⟩)] 59)) w4) :
    LzS w (w4.alloc (.cells #[.int .i64 (s : Int), .int .i64 (t : Int)] 62)) q w4.heap.size D ⟨cd, cw, cg⟩ i0 s t [] (.slice none 0 0) := by
  have hs := hf.size
  simp at hs
  have h1 := hF.bar (Y := lzX q w4.heap.size (.slice none 0 0)) (fun k hk => by
    rcases hk with e | e | e
    · exact .inl e
    · exact .inr (by omega)
    · cases e)
  refine ⟨h1.fr (by omega) ((Fr.refl (fun _ => False) _).alloc _) (fun _ _ x => x.elim), World.ownsRow_nil _ _ _ _, Whole.new _ _ _, ?_, ?_, ?_, hq, by omega⟩
  · have h := (Whole.new w2 59 #[.pointer (some ⟨q + 1, 0, none⟩)]).fr hf (fun x => x.2 hsz)
    rw [hsz] at h
    exact h.alloc _
  · have h := ((Whole.new w 25 #[.int .i64 (cd : Int), .bool cw, .int .i64 (cg : Int)]).below hb2 (by omega)).alloc (.cells #[.pointer (some ⟨q + 1, 0, none⟩)] 59)
    exact (h.fr hf (fun x => by have := x.1; omega)).alloc _
  · have h0 : Below w.heap.size w w2 := ((Below.refl _ _).alloc (Nat.le_refl _) _).trans (hb2.mono (by omega))
    exact ((h0.alloc (by omega) _).trans (hf.below (by simp; omega) (fun k hk x => by have := x.1; omega))).alloc (by omega) _

theorem lz_next {D : List UInt8} {c : CareV} {i m sz : Nat} {L R : List TokV} {tk : TokV} (h : L ++ lzF D c (m + 1) i = R) (hi : i < D.length) (e1 : lzTok D c i = tk) (e2 : lzStep D c i = sz) : (L ++ [tk]) ++ lzF D c m (i + sz) = R := by
  rw [← h, lzF_succ D c m i hi, e1, e2]; simp

theorem sl_at {w : World} {B bb off k : Nat} {D : List UInt8} (h : Sl w B (some ⟨bb, off, none⟩) (bytesV D)) (hk : k < D.length) : w.cell? ⟨bb, off + k, none⟩ = some (.int .u8 (D[k].toNat : Int)) := by
  obtain ⟨b, o, e, _, hc⟩ := h.byte hk
  injection e with e
  injection e with e1 e2
  subst e1 e2
  exact hc
theorem below_alloc (w : World) (o : Obj) : Below w.heap.size w (w.alloc o) := (Below.refl _ _).alloc (Nat.le_refl _) _
theorem tok_own {w' : World} {base n : Nat} {e : TypeId} {v' : Value} {xs : List Value} {x len dist : Int} {lit : UInt8} (h : w'.ownsRow base e 3 v' n (xs ++ [.int .u8 x, .int .i64 len, .int .i64 dist])) (hx : x = (lit.toNat : Int)) : w'.ownsRow base e 3 v' n (xs ++ (TokV.mk lit len dist).cells) := by
  subst hx; exact h

set_option maxRecDepth 100000 in
set_option maxHeartbeats 8000000 in
theorem parse_any (D : List UInt8) (A : Option Addr) (C B i0 : Nat) (c : CareV) (w : World) (hl : D.length ≤ 1000000) (hs : Sl w B A (bytesV D)) (hB : B ≤ w.heap.size) (hi : i0 ≤ D.length) (hd : c.dep ≤ 32768) (hgd : c.good ≤ 100000) :
    Calls Tryd.prog 15 #[.slice A D.length C, .int .i64 (i0 : Int), careV c] w (GivesT 48 (lzF D c (D.length - i0) i0) w) := by
  have hmf : ∀ (fn : Fn) (first cap : Array Value) (w : World), (Instr.makeFunc fn first cap).run Tryd.prog w = .ok (.func fn first cap) w := fun _ _ _ _ => rfl
  obtain ⟨ti, hi0, hz0, hz1, hz2⟩ := info_parts tokInfo
  have Hi0 := Lib.hid hi0
  have Hz0 := Lib.hid hz0
  have Hz1 := Lib.hid hz1
  have Hz2 := Lib.hid hz2
  have HS := Lib.hid hs
  obtain ⟨R, hR⟩ : ∃ R, R = lzF D c (D.length - i0) i0 := ⟨_, rfl⟩
  have hRl : R.length ≤ D.length := by rw [hR]; have := len_lzF D c (D.length - i0) i0; omega
  have HR := Lib.hid hR
  rw [← hR]
  obtain ⟨cd, cw, cg⟩ := c
  simp only at hd hgd
  have NW := Lib.hid (chainNew D A C B (w.alloc (.cells #[.int .i64 (cd : Int), .bool cw, .int .i64 (cg : Int)] 25)) (by omega) (hs.alloc hB _) (by simp; omega))
  clear hi0 hz0 hz1 hz2 hs hR
  unfold careV
  simp only
  go_enter Tryd.func15, Tryd.ntmps15
  go_wp2_with fail
  (with_reducible refine NW.out.mono ?_)
  rintro e w2 ⟨q, rfl, hF, hq, hsz, hb2⟩
  simp only [World.size_alloc] at hF hq hb2
  have MA := Lib.hid (match_any (w.heap.size + 1) q (q + 2) w.heap.size D 0 i0 cd (fun k => k = q + 2) (w2.alloc (.cells #[.pointer (some ⟨q + 1, 0, none⟩)] 59))
    ((hF.bar (fun k hk => .inr (by omega))).fr (by omega) ((Fr.refl (fun _ => False) _).alloc _) (fun _ _ x => x.elim)) (fun k hk => by simp; omega) hl (by omega) hi hd (by omega) rfl (by omega)
    (by have h := (Whole.new w2 59 #[.pointer (some ⟨q + 1, 0, none⟩)]).cell 0; rw [hsz] at h; exact h)
    (by rw [World.cell?_alloc_lt _ _ _ (by show w.heap.size < _; omega)]; exact (hb2.cell (p := ⟨w.heap.size, 0, none⟩) (by show w.heap.size < _; omega)).trans ((Whole.new w 25 _).cell 0)))
  have HB2 := Lib.hid hb2
  have HSZ := Lib.hid hsz
  clear hF hb2 NW
  go_wp2_with fail
  (with_reducible refine MA.out.mono ?_)
  rintro e w4 ⟨rfl, hF4, hf4⟩
  have HST := Lib.hid (lzS_start (cd := cd) (cw := cw) (cg := cg) (s := (longL D i0 cd).1) (t := (longL D i0 cd).2) (by omega) HSZ.out HB2.out hF4 hf4)
  have hqw : w.heap.size < q := by omega
  clear hF4 hf4 MA HB2 hsz HSZ hq
  go_wp2_with fail
  obtain ⟨H, hH⟩ : ∃ H, w4.heap.size = H := ⟨_, rfl⟩
  rw [hH] at HST ⊢
  clear hH
  go_loopw [1, 9] (fun p v wr => ∃ (i n : Nat) (L : List TokV), p = .int .i64 (i : Int) ∧ LzS w wr q H D ⟨cd, cw, cg⟩ i (longL D i cd).1 (longL D i cd).2 L v ∧ L ++ lzF D ⟨cd, cw, cg⟩ n i = R ∧ i ≤ D.length ∧ D.length ≤ i + n) (fun p _ _ => D.length - (intOf p).toNat)
  case atStart => exact ⟨i0, D.length - i0, [], rfl, HST.out, by rw [HR.out]; rfl, hi, by omega⟩
  case round =>
    obtain ⟨i, n, L, rfl, hS, hLR, hil, hin⟩ := hrel
    clear HST HR hi
    obtain ⟨A9, c9, rfl⟩ := own_form hS.own
    have hsw := hS.bel.size
    have hHl := hS.lt
    have hLl : L.length ≤ D.length := by have := congrArg List.length hLR; rw [List.length_append] at this; omega
    have i0' : (0 : Int) ≤ (i : Int) := Int.natCast_nonneg _
    by_cases hlt : i < D.length
    case neg =>
      have hL : L = R := by rw [← hLR, lzF_end _ _ _ _ (by omega), List.append_nil]
      have t0 : decide (i < D.length) = false := decide_eq_false hlt
      have HO := Lib.hid (own_base hS.own (show w.heap.size ≤ H + 1 by have := hS.ord; omega))
      have HB := Lib.hid hS.bel
      subst hL
      clear hS hLR hlt
      go_wp2_with fail
      go_ret
      exact ⟨A9, c9, rfl, HO.out, HB.out⟩
    have t0 : decide (i < D.length) = true := decide_eq_true hlt
    obtain ⟨m, rfl⟩ : ∃ m, n = m + 1 := ⟨n - 1, by omega⟩
    have HNX := Lib.hid (fun (tk : TokV) (sz : Nat) e1 e2 => lz_next (tk := tk) (sz := sz) hLR hlt e1 e2)
    obtain ⟨bb, off, rfl, hbB, dcell⟩ := (HS.out.below hS.bel hB).byte hlt
    have hlit : D.getD i 0 = D[i] := by rw [List.getD_eq_getElem?_getD, List.getElem?_eq_getElem hlt]; rfl
    obtain ⟨lit, hlt2⟩ : ∃ lit, lit = D[i] := ⟨_, rfl⟩
    rw [← hlt2] at dcell hlit
    have HWT := Lib.hid (fun h1 h2 h3 h4 => lz_wait (D := D) (c := ⟨cd, cw, cg⟩) (i := i) h1 h2 h3 h4)
    have HLT := Lib.hid (fun h1 => lz_lit (D := D) (c := ⟨cd, cw, cg⟩) (i := i) h1)
    have HHT := Lib.hid (fun h1 h2 => lz_hit (D := D) (c := ⟨cd, cw, cg⟩) (i := i) h1 h2)
    have HFI := Lib.hid (longL_fits D i cd)
    rw [hlit] at HWT HLT
    simp only at HWT HLT HHT
    obtain ⟨⟨s, t⟩, hst⟩ : ∃ r, r = longL D i cd := ⟨_, rfl⟩
    rw [← hst] at hS HWT HLT HHT HFI
    simp only at hS HWT HLT HHT HFI
    have HSS := Lib.hid hS
    have HLI := Lib.hid hlt2
    obtain ⟨x, hx⟩ : ∃ x : Int, x = (lit.toNat : Int) := ⟨_, rfl⟩
    rw [← hx] at dcell
    have HX := Lib.hid hx
    have i1 : (i : Int) < (D.length : Int) := by omega
    have c1 := hS.care.cell 1
    have c2 := hS.care.cell 2
    have h0 := hS.here.cell 0
    have h1 := hS.here.cell 1
    simp at c1 c2 h0 h1
    have MN := Lib.hid (fun V (hV : LzS w V q H D ⟨cd, cw, cg⟩ i s t L (.slice A9 L.length c9)) => match_any (w.heap.size + 1) q (q + 2) w.heap.size D i (i + 1) cd _ V hV.fin hV.off hl (by omega) (by omega) hd (by omega) (.inl rfl) hqw (by have h := hV.var.cell 0; simpa using h) (by have h := hV.care.cell 0; simpa using h))
    clear hlit hlt2 hst hx hLR
    by_cases hA : cw = true ∧ 3 ≤ s ∧ s < cg
    · obtain ⟨rfl, a2, a3⟩ := hA
      have t1 : decide ((3 : Int) ≤ (s : Int)) = true := decide_eq_true (by omega)
      have t2 : decide (s < cg) = true := decide_eq_true a3
      have M0 := MN.out wr hS
      rw [show ((i + 1 : Nat) : Int) = (i : Int) + 1 by omega] at M0
      have M1 := Lib.hid M0
      clear hS MN M0
      go_wp2_with fail
      (with_reducible refine M1.out.mono ?_)
      rintro e w5 ⟨rfl, hF5, hf5⟩
      have hS5 := HSS.out.matched hF5 hf5
      generalize hs' : (longL D (i + 1) cd).1 = s' at HWT HHT ⊢
      generalize ht' : (longL D (i + 1) cd).2 = t'
      have HS' := Lib.hid hs'
      have HT' := Lib.hid ht'
      have HS5 := Lib.hid hS5
      have hl5 := hS5.lt
      have g0 := hS5.here.cell 0
      simp at g0
      clear hF5 hf5 M1 hs' ht' hS5 c1 c2 h0 h1
      go_upto_region 8 with (fail)
      obtain ⟨W6, hW6⟩ : ∃ W, w5.alloc (.cells #[.int .i64 (s' : Int), .int .i64 (t' : Int)] 62) = W := ⟨_, rfl⟩
      obtain ⟨N, hN⟩ : ∃ N, w5.heap.size = N := ⟨_, rfl⟩
      have hS6 : LzS w W6 q H D ⟨cd, true, cg⟩ (i + 1) s t L (.slice A9 L.length c9) := by rw [← hW6]; exact HS5.out.fresh (below_alloc _ _)
      have hN6 : Whole W6 N 62 #[.int .i64 (s' : Int), .int .i64 (t' : Int)] := by rw [← hW6, ← hN]; exact Whole.new _ _ _
      have HNO := Lib.hid (show ∀ g, (Value.slice A9 L.length c9).ownBlock = some g → g ≠ N from fun g hg e => by have := (HS5.out.own.lt g hg).2; omega)
      rw [hW6, hN]
      have g0 := hS6.here.cell 0
      simp at g0
      have n0 := hN6.cell 0
      simp at n0
      have hs6 := hS6.bel.size
      have hl6 := hS6.lt
      have dc6 := sl_at (HS.out.below hS6.bel hB) hlt
      rw [← HLI.out, ← HX.out] at dc6
      have HS6 := Lib.hid hS6
      have HN6 := Lib.hid hN6
      clear hW6 hN hS6 hN6 dcell
      by_cases hss : s < s'
      · have t3 : decide (s < s') = true := decide_eq_true hss
        have HE := Lib.hid (HWT.out (by trivial) a2 a3 hss)
        clear HS5 hl5
        go_wp2_with (at_builtin; refine wpList_append_sz _ rfl _ _ _ rfl (H + 1) 48 ti _ 3 24 Tryd.underlying31 Hi0.out Hz0.out Hz1.out Hz2.out rfl (by omega) (.slice A9 L.length c9) L.length (L.flatMap TokV.cells) rfl (HS6.out.own.alloc _) _ (some ⟨W6.heap.size, 0, none⟩) 1 1 [.int .u8 x, .int .i64 0, .int .i64 0] rfl rfl (Sl.new_ _ _ _ _) (by simp [Value.oneCell']) (by unfold maxLen; omega) (by omega) (by simp; omega) ?_; intro v7 w7 hown7 hgrow7 hat7; have hS7 := (HS6.out.fresh (below_alloc _ _)).put (tok_own hown7 HX.out) hgrow7 hat7; have hN7 := (HN6.out.alloc _).grown hgrow7 (fun e => HNO.out _ e rfl); have HS7 := Lib.hid hS7; have HN7 := Lib.hid hN7; have p0 := hN7.cell 0; have p1 := hN7.cell 1; have q0 := hS7.here.cell 0; have q1 := hS7.here.cell 1; have r0 := hS7.here.frozen 0; have r1 := hS7.here.frozen 1; simp at p0 p1 q0 q1; clear hown7 hgrow7 hat7 hS7 hN7)
        go_roundw
        case rel => exact ⟨i + 1, m, L ++ [⟨lit, 0, 0⟩], by go_num, by rw [HS'.out, HT'.out]; exact HS7.out.seth s' t', HNX.out _ _ HE.out.1 HE.out.2, hlt, by omega⟩
        case measure => simp [intOf]; omega
      · have t3 : decide (s < s') = false := decide_eq_false hss
        have HE := Lib.hid (HHT.out a2 (fun h => hss (by first | exact h.2.2 | exact h.2)))
        have h1' := HS6.out.here.cell 1
        simp at h1'
        have hfit := HFI.out
        obtain ⟨kk, hkk⟩ : ∃ kk, kk = i + 1 := ⟨_, rfl⟩
        rw [← hkk] at HS6
        have hkk2 : kk ≤ i + 1 := by omega
        clear HS5 hl5 hkk
        clear HWT HLT HHT
        go_upto_region 15 with (fail)
        obtain ⟨W8, hW8⟩ : ∃ W, W6.alloc (.cells #[.int .u8 0, .int .i64 (s : Int), .int .i64 (t : Int)] 48) = W := ⟨_, rfl⟩
        obtain ⟨N8, hN8⟩ : ∃ N, W6.heap.size = N := ⟨_, rfl⟩
        have hS8 : LzS w W8 q H D ⟨cd, true, cg⟩ kk s t L (.slice A9 L.length c9) := by rw [← hW8]; exact HS6.out.fresh (below_alloc _ _)
        have hM8 : Whole W8 N8 48 #[.int .u8 0, .int .i64 (s : Int), .int .i64 (t : Int)] := by rw [← hW8, ← hN8]; exact Whole.new _ _ _
        have HNO8 := Lib.hid (show ∀ g, (Value.slice A9 L.length c9).ownBlock = some g → g ≠ N8 from fun g hg e => by have := (HS6.out.own.lt g hg).2; omega)
        rw [hW8, hN8]
        have m0 := hM8.cell 0
        have m1 := hM8.cell 1
        have m2 := hM8.cell 2
        simp at m0 m1 m2
        have hl8 := hS8.lt
        have HS8 := Lib.hid hS8
        have HM8 := Lib.hid hM8
        have SZ := Lib.hid (show ∀ V, Calls Tryd.prog 21 #[.agg #[.int .u8 0, .int .i64 (s : Int), .int .i64 (t : Int)]] V (fun e w' => e = .returned (.int .i64 (s : Int)) ∧ Below V.heap.size V w') from fun V => by
          have h := size_any 0 (s : Int) (t : Int) V
          have e := (lzTok_right D ⟨cd, true, cg⟩ i).2
          rw [HE.out.1, HE.out.2] at e
          rw [e] at h
          first | exact h | (rw [← HX.out] at h; exact h))
        clear hW8 hN8 hS8 hM8
        go_wp2_with (at_builtin; refine wpList_append_sz _ rfl _ _ _ rfl (H + 1) 48 ti _ 3 24 Tryd.underlying31 Hi0.out Hz0.out Hz1.out Hz2.out rfl (by omega) (.slice A9 L.length c9) L.length (L.flatMap TokV.cells) rfl (HS8.out.own.alloc _) _ (some ⟨W8.heap.size, 0, none⟩) 1 1 [.int .u8 0, .int .i64 (s : Int), .int .i64 (t : Int)] rfl rfl (Sl.new_ _ _ _ _) (by simp [Value.oneCell']) (by unfold maxLen; omega) (by omega) (by simp; omega) ?_; intro v9 w9 hown9 hgrow9 hat9; have hS9 := (HS8.out.fresh (below_alloc _ _)).put (tok_own hown9 (show (0 : Int) = (((0 : UInt8).toNat : Nat) : Int) from rfl)) hgrow9 hat9; have hM9 := (HM8.out.alloc _).grown hgrow9 (fun e => HNO8.out _ e rfl); have HS9 := Lib.hid hS9; have p0 := hM9.cell 0; have p1 := hM9.cell 1; have p2 := hM9.cell 2; simp at p0 p1 p2; clear hown9 hgrow9 hat9 hS9 hM9)
        (with_reducible refine (SZ.out _).mono ?_)
        rintro e w10 ⟨rfl, hb10⟩
        have hS10 := HS9.out.fresh hb10
        have HS10 := Lib.hid hS10
        have M2 := match_any (w.heap.size + 1) q (q + 2) w.heap.size D kk (i + s) cd _ w10 hS10.fin hS10.off hl (by omega) (by omega) hd (by omega) (.inl rfl) hqw (by have h := hS10.var.cell 0; simpa using h) (by have h := hS10.care.cell 0; simpa using h)
        rw [show ((i + s : Nat) : Int) = (i : Int) + (s : Int) by omega] at M2
        have HM2 := Lib.hid M2
        clear hb10 hS10 M2
        go_wp2_with fail
        (with_reducible refine HM2.out.mono ?_)
        rintro e w11 ⟨rfl, hF11, hf11⟩
        have hS11 := HS10.out.matched hF11 hf11
        have HS11 := Lib.hid hS11
        have q0 := hS11.here.cell 0
        have q1 := hS11.here.cell 1
        have r0 := hS11.here.frozen 0
        have r1 := hS11.here.frozen 1
        simp at q0 q1
        clear hF11 hf11 hS11 HM2
        generalize hs2 : (longL D (i + s) cd).1 = s2
        generalize ht2 : (longL D (i + s) cd).2 = t2
        have HS2' := Lib.hid hs2
        have HT2' := Lib.hid ht2
        clear hs2 ht2
        go_wp2_with fail
        go_roundw
        case rel => exact ⟨i + s, m, L ++ [⟨0, (s : Int), (t : Int)⟩], by go_num, by rw [HS2'.out, HT2'.out]; exact HS11.out.seth s2 t2, HNX.out _ _ HE.out.1 HE.out.2, by omega, by omega⟩
        case measure => simp [intOf]; omega
    · have hA2 : cw = false ∨ (cw = true ∧ ¬ 3 ≤ s) ∨ (cw = true ∧ 3 ≤ s ∧ ¬ s < cg) := by
        cases cw with
        | false => exact .inl rfl
        | true => by_cases h3 : 3 ≤ s
                  · exact .inr (.inr ⟨rfl, h3, fun h => hA ⟨rfl, h3, h⟩⟩)
                  · exact .inr (.inl ⟨rfl, h3⟩)
      obtain ⟨W6, rfl⟩ : ∃ W : World, W = wr := ⟨_, rfl⟩
      obtain ⟨kk, hkk⟩ : ∃ kk, kk = i := ⟨_, rfl⟩
      have HS6 := Lib.hid (show LzS w W6 q H D ⟨cd, cw, cg⟩ kk s t L (.slice A9 L.length c9) by rw [hkk]; exact hS)
      have hkk2 : kk ≤ i + 1 := by omega
      have hfit := HFI.out
      have HHT2 := Lib.hid (fun (h3 : 3 ≤ s) => HHT.out h3 (fun h => hA (by first | exact ⟨h.1, h3, h.2.1⟩ | simp_all)))
      clear hkk hS HSS MN hA HFI
      by_cases h3 : 3 ≤ s
      · have t1 : decide ((3 : Int) ≤ (s : Int)) = true := decide_eq_true (by omega)
        have HE := Lib.hid (HHT2.out h3)
        clear HHT2
        rcases hA2 with rfl | ⟨rfl, a2⟩ | ⟨rfl, a2, a3⟩
        · skip
          clear HWT HLT HHT
          go_upto_region 15 with (fail)
          obtain ⟨W8, hW8⟩ : ∃ W, W6.alloc (.cells #[.int .u8 0, .int .i64 (s : Int), .int .i64 (t : Int)] 48) = W := ⟨_, rfl⟩
          obtain ⟨N8, hN8⟩ : ∃ N, W6.heap.size = N := ⟨_, rfl⟩
          have hS8 : LzS w W8 q H D ⟨cd, false, cg⟩ kk s t L (.slice A9 L.length c9) := by rw [← hW8]; exact HS6.out.fresh (below_alloc _ _)
          have hM8 : Whole W8 N8 48 #[.int .u8 0, .int .i64 (s : Int), .int .i64 (t : Int)] := by rw [← hW8, ← hN8]; exact Whole.new _ _ _
          have HNO8 := Lib.hid (show ∀ g, (Value.slice A9 L.length c9).ownBlock = some g → g ≠ N8 from fun g hg e => by have := (HS6.out.own.lt g hg).2; omega)
          rw [hW8, hN8]
          have m0 := hM8.cell 0
          have m1 := hM8.cell 1
          have m2 := hM8.cell 2
          simp at m0 m1 m2
          have hl8 := hS8.lt
          have HS8 := Lib.hid hS8
          have HM8 := Lib.hid hM8
          have SZ := Lib.hid (show ∀ V, Calls Tryd.prog 21 #[.agg #[.int .u8 0, .int .i64 (s : Int), .int .i64 (t : Int)]] V (fun e w' => e = .returned (.int .i64 (s : Int)) ∧ Below V.heap.size V w') from fun V => by
            have h := size_any 0 (s : Int) (t : Int) V
            have e := (lzTok_right D ⟨cd, false, cg⟩ i).2
            rw [HE.out.1, HE.out.2] at e
            rw [e] at h
            first | exact h | (rw [← HX.out] at h; exact h))
          clear hW8 hN8 hS8 hM8
          go_wp2_with (at_builtin; refine wpList_append_sz _ rfl _ _ _ rfl (H + 1) 48 ti _ 3 24 Tryd.underlying31 Hi0.out Hz0.out Hz1.out Hz2.out rfl (by omega) (.slice A9 L.length c9) L.length (L.flatMap TokV.cells) rfl (HS8.out.own.alloc _) _ (some ⟨W8.heap.size, 0, none⟩) 1 1 [.int .u8 0, .int .i64 (s : Int), .int .i64 (t : Int)] rfl rfl (Sl.new_ _ _ _ _) (by simp [Value.oneCell']) (by unfold maxLen; omega) (by omega) (by simp; omega) ?_; intro v9 w9 hown9 hgrow9 hat9; have hS9 := (HS8.out.fresh (below_alloc _ _)).put (tok_own hown9 (show (0 : Int) = (((0 : UInt8).toNat : Nat) : Int) from rfl)) hgrow9 hat9; have hM9 := (HM8.out.alloc _).grown hgrow9 (fun e => HNO8.out _ e rfl); have HS9 := Lib.hid hS9; have p0 := hM9.cell 0; have p1 := hM9.cell 1; have p2 := hM9.cell 2; simp at p0 p1 p2; clear hown9 hgrow9 hat9 hS9 hM9)
          (with_reducible refine (SZ.out _).mono ?_)
          rintro e w10 ⟨rfl, hb10⟩
          have hS10 := HS9.out.fresh hb10
          have HS10 := Lib.hid hS10
          have M2 := match_any (w.heap.size + 1) q (q + 2) w.heap.size D kk (i + s) cd _ w10 hS10.fin hS10.off hl (by omega) (by omega) hd (by omega) (.inl rfl) hqw (by have h := hS10.var.cell 0; simpa using h) (by have h := hS10.care.cell 0; simpa using h)
          rw [show ((i + s : Nat) : Int) = (i : Int) + (s : Int) by omega] at M2
          have HM2 := Lib.hid M2
          clear hb10 hS10 M2
          go_wp2_with fail
          (with_reducible refine HM2.out.mono ?_)
          rintro e w11 ⟨rfl, hF11, hf11⟩
          have hS11 := HS10.out.matched hF11 hf11
          have HS11 := Lib.hid hS11
          have q0 := hS11.here.cell 0
          have q1 := hS11.here.cell 1
          have r0 := hS11.here.frozen 0
          have r1 := hS11.here.frozen 1
          simp at q0 q1
          clear hF11 hf11 hS11 HM2
          generalize hs2 : (longL D (i + s) cd).1 = s2
          generalize ht2 : (longL D (i + s) cd).2 = t2
          have HS2' := Lib.hid hs2
          have HT2' := Lib.hid ht2
          clear hs2 ht2
          go_wp2_with fail
          go_roundw
          case rel => exact ⟨i + s, m, L ++ [⟨0, (s : Int), (t : Int)⟩], by go_num, by rw [HS2'.out, HT2'.out]; exact HS11.out.seth s2 t2, HNX.out _ _ HE.out.1 HE.out.2, by omega, by omega⟩
          case measure => simp [intOf]; omega
        · omega
        · have t2 : decide (s < cg) = false := decide_eq_false a3
          clear HWT HLT HHT
          go_upto_region 15 with (fail)
          obtain ⟨W8, hW8⟩ : ∃ W, W6.alloc (.cells #[.int .u8 0, .int .i64 (s : Int), .int .i64 (t : Int)] 48) = W := ⟨_, rfl⟩
          obtain ⟨N8, hN8⟩ : ∃ N, W6.heap.size = N := ⟨_, rfl⟩
          have hS8 : LzS w W8 q H D ⟨cd, true, cg⟩ kk s t L (.slice A9 L.length c9) := by rw [← hW8]; exact HS6.out.fresh (below_alloc _ _)
          have hM8 : Whole W8 N8 48 #[.int .u8 0, .int .i64 (s : Int), .int .i64 (t : Int)] := by rw [← hW8, ← hN8]; exact Whole.new _ _ _
          have HNO8 := Lib.hid (show ∀ g, (Value.slice A9 L.length c9).ownBlock = some g → g ≠ N8 from fun g hg e => by have := (HS6.out.own.lt g hg).2; omega)
          rw [hW8, hN8]
          have m0 := hM8.cell 0
          have m1 := hM8.cell 1
          have m2 := hM8.cell 2
          simp at m0 m1 m2
          have hl8 := hS8.lt
          have HS8 := Lib.hid hS8
          have HM8 := Lib.hid hM8
          have SZ := Lib.hid (show ∀ V, Calls Tryd.prog 21 #[.agg #[.int .u8 0, .int .i64 (s : Int), .int .i64 (t : Int)]] V (fun e w' => e = .returned (.int .i64 (s : Int)) ∧ Below V.heap.size V w') from fun V => by
            have h := size_any 0 (s : Int) (t : Int) V
            have e := (lzTok_right D ⟨cd, true, cg⟩ i).2
            rw [HE.out.1, HE.out.2] at e
            rw [e] at h
            first | exact h | (rw [← HX.out] at h; exact h))
          clear hW8 hN8 hS8 hM8
          go_wp2_with (at_builtin; refine wpList_append_sz _ rfl _ _ _ rfl (H + 1) 48 ti _ 3 24 Tryd.underlying31 Hi0.out Hz0.out Hz1.out Hz2.out rfl (by omega) (.slice A9 L.length c9) L.length (L.flatMap TokV.cells) rfl (HS8.out.own.alloc _) _ (some ⟨W8.heap.size, 0, none⟩) 1 1 [.int .u8 0, .int .i64 (s : Int), .int .i64 (t : Int)] rfl rfl (Sl.new_ _ _ _ _) (by simp [Value.oneCell']) (by unfold maxLen; omega) (by omega) (by simp; omega) ?_; intro v9 w9 hown9 hgrow9 hat9; have hS9 := (HS8.out.fresh (below_alloc _ _)).put (tok_own hown9 (show (0 : Int) = (((0 : UInt8).toNat : Nat) : Int) from rfl)) hgrow9 hat9; have hM9 := (HM8.out.alloc _).grown hgrow9 (fun e => HNO8.out _ e rfl); have HS9 := Lib.hid hS9; have p0 := hM9.cell 0; have p1 := hM9.cell 1; have p2 := hM9.cell 2; simp at p0 p1 p2; clear hown9 hgrow9 hat9 hS9 hM9)
          (with_reducible refine (SZ.out _).mono ?_)
          rintro e w10 ⟨rfl, hb10⟩
          have hS10 := HS9.out.fresh hb10
          have HS10 := Lib.hid hS10
          have M2 := match_any (w.heap.size + 1) q (q + 2) w.heap.size D kk (i + s) cd _ w10 hS10.fin hS10.off hl (by omega) (by omega) hd (by omega) (.inl rfl) hqw (by have h := hS10.var.cell 0; simpa using h) (by have h := hS10.care.cell 0; simpa using h)
          rw [show ((i + s : Nat) : Int) = (i : Int) + (s : Int) by omega] at M2
          have HM2 := Lib.hid M2
          clear hb10 hS10 M2
          go_wp2_with fail
          (with_reducible refine HM2.out.mono ?_)
          rintro e w11 ⟨rfl, hF11, hf11⟩
          have hS11 := HS10.out.matched hF11 hf11
          have HS11 := Lib.hid hS11
          have q0 := hS11.here.cell 0
          have q1 := hS11.here.cell 1
          have r0 := hS11.here.frozen 0
          have r1 := hS11.here.frozen 1
          simp at q0 q1
          clear hF11 hf11 hS11 HM2
          generalize hs2 : (longL D (i + s) cd).1 = s2
          generalize ht2 : (longL D (i + s) cd).2 = t2
          have HS2' := Lib.hid hs2
          have HT2' := Lib.hid ht2
          clear hs2 ht2
          go_wp2_with fail
          go_roundw
          case rel => exact ⟨i + s, m, L ++ [⟨0, (s : Int), (t : Int)⟩], by go_num, by rw [HS2'.out, HT2'.out]; exact HS11.out.seth s2 t2, HNX.out _ _ HE.out.1 HE.out.2, by omega, by omega⟩
          case measure => simp [intOf]; omega
      · have t1 : decide ((3 : Int) ≤ (s : Int)) = false := decide_eq_false (by omega)
        have HE := Lib.hid (HLT.out h3)
        clear HHT2
        rcases hA2 with rfl | ⟨rfl, a2⟩ | ⟨rfl, a2, a3⟩
        · skip
          clear HWT HLT HHT
          go_upto_region 15 with (fail)
          obtain ⟨W8, hW8⟩ : ∃ W, W6.alloc (.cells #[.int .u8 x, .int .i64 0, .int .i64 0] 48) = W := ⟨_, rfl⟩
          obtain ⟨N8, hN8⟩ : ∃ N, W6.heap.size = N := ⟨_, rfl⟩
          have hS8 : LzS w W8 q H D ⟨cd, false, cg⟩ kk s t L (.slice A9 L.length c9) := by rw [← hW8]; exact HS6.out.fresh (below_alloc _ _)
          have hM8 : Whole W8 N8 48 #[.int .u8 x, .int .i64 0, .int .i64 0] := by rw [← hW8, ← hN8]; exact Whole.new _ _ _
          have HNO8 := Lib.hid (show ∀ g, (Value.slice A9 L.length c9).ownBlock = some g → g ≠ N8 from fun g hg e => by have := (HS6.out.own.lt g hg).2; omega)
          rw [hW8, hN8]
          have m0 := hM8.cell 0
          have m1 := hM8.cell 1
          have m2 := hM8.cell 2
          simp at m0 m1 m2
          have hl8 := hS8.lt
          have HS8 := Lib.hid hS8
          have HM8 := Lib.hid hM8
          have SZ := Lib.hid (show ∀ V, Calls Tryd.prog 21 #[.agg #[.int .u8 x, .int .i64 0, .int .i64 0]] V (fun e w' => e = .returned (.int .i64 1) ∧ Below V.heap.size V w') from fun V => by
            have h := size_any lit 0 0 V
            have e := (lzTok_right D ⟨cd, false, cg⟩ i).2
            rw [HE.out.1, HE.out.2] at e
            rw [e] at h
            first | exact h | (rw [← HX.out] at h; exact h))
          clear hW8 hN8 hS8 hM8
          go_wp2_with (at_builtin; refine wpList_append_sz _ rfl _ _ _ rfl (H + 1) 48 ti _ 3 24 Tryd.underlying31 Hi0.out Hz0.out Hz1.out Hz2.out rfl (by omega) (.slice A9 L.length c9) L.length (L.flatMap TokV.cells) rfl (HS8.out.own.alloc _) _ (some ⟨W8.heap.size, 0, none⟩) 1 1 [.int .u8 x, .int .i64 0, .int .i64 0] rfl rfl (Sl.new_ _ _ _ _) (by simp [Value.oneCell']) (by unfold maxLen; omega) (by omega) (by simp; omega) ?_; intro v9 w9 hown9 hgrow9 hat9; have hS9 := (HS8.out.fresh (below_alloc _ _)).put (tok_own hown9 HX.out) hgrow9 hat9; have hM9 := (HM8.out.alloc _).grown hgrow9 (fun e => HNO8.out _ e rfl); have HS9 := Lib.hid hS9; have p0 := hM9.cell 0; have p1 := hM9.cell 1; have p2 := hM9.cell 2; simp at p0 p1 p2; clear hown9 hgrow9 hat9 hS9 hM9)
          (with_reducible refine (SZ.out _).mono ?_)
          rintro e w10 ⟨rfl, hb10⟩
          have hS10 := HS9.out.fresh hb10
          have HS10 := Lib.hid hS10
          have M2 := match_any (w.heap.size + 1) q (q + 2) w.heap.size D kk (i + 1) cd _ w10 hS10.fin hS10.off hl (by omega) (by omega) hd (by omega) (.inl rfl) hqw (by have h := hS10.var.cell 0; simpa using h) (by have h := hS10.care.cell 0; simpa using h)
          rw [show ((i + 1 : Nat) : Int) = (i : Int) + 1 by omega] at M2
          have HM2 := Lib.hid M2
          clear hb10 hS10 M2
          go_wp2_with fail
          (with_reducible refine HM2.out.mono ?_)
          rintro e w11 ⟨rfl, hF11, hf11⟩
          have hS11 := HS10.out.matched hF11 hf11
          have HS11 := Lib.hid hS11
          have q0 := hS11.here.cell 0
          have q1 := hS11.here.cell 1
          have r0 := hS11.here.frozen 0
          have r1 := hS11.here.frozen 1
          simp at q0 q1
          clear hF11 hf11 hS11 HM2
          generalize hs2 : (longL D (i + 1) cd).1 = s2
          generalize ht2 : (longL D (i + 1) cd).2 = t2
          have HS2' := Lib.hid hs2
          have HT2' := Lib.hid ht2
          clear hs2 ht2
          go_wp2_with fail
          go_roundw
          case rel => exact ⟨i + 1, m, L ++ [⟨lit, 0, 0⟩], by go_num, by rw [HS2'.out, HT2'.out]; exact HS11.out.seth s2 t2, HNX.out _ _ HE.out.1 HE.out.2, by omega, by omega⟩
          case measure => simp [intOf]; omega
        · skip
          clear HWT HLT HHT
          go_upto_region 15 with (fail)
          obtain ⟨W8, hW8⟩ : ∃ W, W6.alloc (.cells #[.int .u8 x, .int .i64 0, .int .i64 0] 48) = W := ⟨_, rfl⟩
          obtain ⟨N8, hN8⟩ : ∃ N, W6.heap.size = N := ⟨_, rfl⟩
          have hS8 : LzS w W8 q H D ⟨cd, true, cg⟩ kk s t L (.slice A9 L.length c9) := by rw [← hW8]; exact HS6.out.fresh (below_alloc _ _)
          have hM8 : Whole W8 N8 48 #[.int .u8 x, .int .i64 0, .int .i64 0] := by rw [← hW8, ← hN8]; exact Whole.new _ _ _
          have HNO8 := Lib.hid (show ∀ g, (Value.slice A9 L.length c9).ownBlock = some g → g ≠ N8 from fun g hg e => by have := (HS6.out.own.lt g hg).2; omega)
          rw [hW8, hN8]
          have m0 := hM8.cell 0
          have m1 := hM8.cell 1
          have m2 := hM8.cell 2
          simp at m0 m1 m2
          have hl8 := hS8.lt
          have HS8 := Lib.hid hS8
          have HM8 := Lib.hid hM8
          have SZ := Lib.hid (show ∀ V, Calls Tryd.prog 21 #[.agg #[.int .u8 x, .int .i64 0, .int .i64 0]] V (fun e w' => e = .returned (.int .i64 1) ∧ Below V.heap.size V w') from fun V => by
            have h := size_any lit 0 0 V
            have e := (lzTok_right D ⟨cd, true, cg⟩ i).2
            rw [HE.out.1, HE.out.2] at e
            rw [e] at h
            first | exact h | (rw [← HX.out] at h; exact h))
          clear hW8 hN8 hS8 hM8
          go_wp2_with (at_builtin; refine wpList_append_sz _ rfl _ _ _ rfl (H + 1) 48 ti _ 3 24 Tryd.underlying31 Hi0.out Hz0.out Hz1.out Hz2.out rfl (by omega) (.slice A9 L.length c9) L.length (L.flatMap TokV.cells) rfl (HS8.out.own.alloc _) _ (some ⟨W8.heap.size, 0, none⟩) 1 1 [.int .u8 x, .int .i64 0, .int .i64 0] rfl rfl (Sl.new_ _ _ _ _) (by simp [Value.oneCell']) (by unfold maxLen; omega) (by omega) (by simp; omega) ?_; intro v9 w9 hown9 hgrow9 hat9; have hS9 := (HS8.out.fresh (below_alloc _ _)).put (tok_own hown9 HX.out) hgrow9 hat9; have hM9 := (HM8.out.alloc _).grown hgrow9 (fun e => HNO8.out _ e rfl); have HS9 := Lib.hid hS9; have p0 := hM9.cell 0; have p1 := hM9.cell 1; have p2 := hM9.cell 2; simp at p0 p1 p2; clear hown9 hgrow9 hat9 hS9 hM9)
          (with_reducible refine (SZ.out _).mono ?_)
          rintro e w10 ⟨rfl, hb10⟩
          have hS10 := HS9.out.fresh hb10
          have HS10 := Lib.hid hS10
          have M2 := match_any (w.heap.size + 1) q (q + 2) w.heap.size D kk (i + 1) cd _ w10 hS10.fin hS10.off hl (by omega) (by omega) hd (by omega) (.inl rfl) hqw (by have h := hS10.var.cell 0; simpa using h) (by have h := hS10.care.cell 0; simpa using h)
          rw [show ((i + 1 : Nat) : Int) = (i : Int) + 1 by omega] at M2
          have HM2 := Lib.hid M2
          clear hb10 hS10 M2
          go_wp2_with fail
          (with_reducible refine HM2.out.mono ?_)
          rintro e w11 ⟨rfl, hF11, hf11⟩
          have hS11 := HS10.out.matched hF11 hf11
          have HS11 := Lib.hid hS11
          have q0 := hS11.here.cell 0
          have q1 := hS11.here.cell 1
          have r0 := hS11.here.frozen 0
          have r1 := hS11.here.frozen 1
          simp at q0 q1
          clear hF11 hf11 hS11 HM2
          generalize hs2 : (longL D (i + 1) cd).1 = s2
          generalize ht2 : (longL D (i + 1) cd).2 = t2
          have HS2' := Lib.hid hs2
          have HT2' := Lib.hid ht2
          clear hs2 ht2
          go_wp2_with fail
          go_roundw
          case rel => exact ⟨i + 1, m, L ++ [⟨lit, 0, 0⟩], by go_num, by rw [HS2'.out, HT2'.out]; exact HS11.out.seth s2 t2, HNX.out _ _ HE.out.1 HE.out.2, by omega, by omega⟩
          case measure => simp [intOf]; omega
        · omega
end Go.Proofs.YtjfmaebgihlegaaDoor
