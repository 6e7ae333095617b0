/-
  inflate.Machine: its state; goOn, fail, room, put, endBlock.
-/
import Derived.Test.YtdmmlpioaiammaaDoorAlign
import Derived.Test.YtdmmlpioaiammaaDoorWinPut
import Derived.Deep.QuietTactic
import Derived.BigQuiet
namespace Go.Proofs.YtdmmlpioaiammaaDoor
open Go.RowKit

structure MV where
  lim : Nat
  fault : Int
  stage : Int
  fin : Bool
  lft : Nat
  lits : Value
  dists : Value
  sym : Int
def machC (pr pw : Nat) (v : Value) (m : MV) : List Value :=
  [.int .i64 (m.lim : Int), .pointer (some ⟨pr, 0, none⟩), .pointer (some ⟨pw, 0, none⟩), v, .int .i64 m.fault, .int .i64 m.stage, .bool m.fin, .int .i64 (m.lft : Int), .int .i64 0, .int .i64 0, .int .i64 0, .int .i64 0, .slice none 0 0, .pointer none, .slice none 0 0, m.lits, m.dists, .int .i64 m.sym, .int .i64 0]
/-- the machine at block pm, its reader at pr, its window at pw, what came out in rows from block Q on -/
structure MS (w : World) (B Q pm pr pw : Nat) (buf : List UInt8) (pos gone : Nat) (o : Value) (all : List UInt8) (v : Value) (m : MV) : Prop where
  mach : Whole w pm 44 (machC pr pw v m).toArray
  rd : RdS w B pr o buf pos gone
  ro : ∀ g, o.ownBlock = some g → g < Q ∧ g ≠ pm ∧ g ≠ pw
  win : WinS w pw all
  own : w.ownsRow Q 5 1 v all.length (bytesV all)
  bm : B ≤ pm ∧ B ≤ pr ∧ B ≤ pw
  qm : pm < Q ∧ pr < Q ∧ pw < Q
  ne : pm ≠ pr ∧ pm ≠ pw ∧ pr ≠ pw
  qs : Q ≤ w.heap.size
section
variable {w w' : World} {B Q pm pr pw : Nat} {buf : List UInt8} {pos gone : Nat} {o : Value} {all : List UInt8} {v : Value} {m : MV}
/-- what leaves it alone -/
theorem MS.fr {S : Nat → Prop} (h : MS w B Q pm pr pw buf pos gone o all v m) (hf : Fr S w w') (hS : ∀ k, B ≤ k → k < w.heap.size → ¬ S k) : MS w' B Q pm pr pw buf pos gone o all v m := by
  have hb := h.bm
  have hq := h.qm
  have hs := h.qs
  exact ⟨h.mach.fr hf (hS _ hb.1 (by omega)), h.rd.fr hf (hS _ hb.2.1 (by omega)) (fun g hg => hS _ (h.rd.own.lt g hg).1 (h.rd.own.lt g hg).2), h.ro, h.win.fr hf (hS _ hb.2.2 (by omega)), own_fr h.own hf (fun g hg => hS _ (by have := (h.own.lt g hg).1; omega) (h.own.lt g hg).2), h.bm, h.qm, h.ne, Nat.le_trans hs hf.size⟩
theorem MS.drewN (h : MS w B Q pm pr pw buf pos gone o all v m) (n : Nat) : MS (w.drewN n) B Q pm pr pw buf pos gone o all v m := h.fr ((Fr.refl (fun _ => False) w).drewN n) (fun _ _ _ => id)
theorem MS.below (h : MS w B Q pm pr pw buf pos gone o all v m) (hb : Below w.heap.size w w') : MS w' B Q pm pr pw buf pos gone o all v m := h.fr (Fr.of_below hb (fun _ => False)) (fun _ _ _ => id)
/-- the reader moves -/
theorem MS.read (h : MS w B Q pm pr pw buf pos gone o all v m) {pos' : Nat} (hr : RdS w' B pr o buf pos' gone) (hf : Fr (fun k => k = pr) w w') : MS w' B Q pm pr pw buf pos' gone o all v m := by
  have hn := h.ne
  have hq := h.qm
  exact ⟨h.mach.fr hf (fun e => hn.1 e), hr, h.ro, h.win.fr hf (fun e => hn.2.2 e.symm), own_fr h.own hf (fun g hg e => by have := (h.own.lt g hg).1; omega), h.bm, h.qm, h.ne, Nat.le_trans h.qs hf.size⟩
/-- a field of its own, but for what came out -/
theorem MS.upd (h : MS w B Q pm pr pw buf pos gone o all v m) {i : Nat} {u : Value} {m' : MV} (e : (machC pr pw v m).set i u = machC pr pw v m') : MS (w.setCell ⟨pm, i, none⟩ u) B Q pm pr pw buf pos gone o all v m' := by
  have hn := h.ne
  have hq := h.qm
  have hf : Fr (fun k => k = pm) w (w.setCell ⟨pm, i, none⟩ u) := (Fr.refl (fun k => k = pm) w).setCell (p := ⟨pm, i, none⟩) (.inl rfl) _
  have hW := h.mach.set_ i u
  rw [List.setIfInBounds_toArray, e] at hW
  exact ⟨hW, h.rd.fr hf (fun e => hn.1 e.symm) (fun g hg e => (h.ro g hg).2.1 e), h.ro, h.win.fr hf (fun e => hn.2.1 e.symm), own_fr h.own hf (fun g hg e => by have := (h.own.lt g hg).1; omega), h.bm, h.qm, h.ne, Nat.le_trans h.qs hf.size⟩
/-- bytes come out -/
theorem MS.out (h : MS w B Q pm pr pw buf pos gone o all v m) {v' : Value} {b : List UInt8} (hwin : WinS w' pw (all ++ b)) (hf : Fr (fun k => k = pw ∨ v.ownBlock = some k) w w') (hown : w'.ownsRow Q 5 1 v' (all ++ b).length (bytesV (all ++ b))) (hat : ∀ g, v'.ownBlock = some g → Q ≤ g) :
    MS (w'.setCell ⟨pm, 3, none⟩ v') B Q pm pr pw buf pos gone o (all ++ b) v' m := by
  have hn := h.ne
  have hq := h.qm
  have hvq : ∀ g, v.ownBlock = some g → Q ≤ g := fun g hg => (h.own.lt g hg).1
  have hf2 : Fr (fun k => k = pm) w' (w'.setCell ⟨pm, 3, none⟩ v') := (Fr.refl (fun k => k = pm) w').setCell (p := ⟨pm, 3, none⟩) (.inl rfl) _
  have hM := (h.mach.fr hf (fun e => by rcases e with e | e; exact hn.2.1 e; have := hvq _ e; omega)).set_ 3 v'
  rw [List.setIfInBounds_toArray, show (machC pr pw v m).set 3 v' = machC pr pw v' m from rfl] at hM
  have hR := (h.rd.fr hf (fun e => by rcases e with e | e; exact hn.2.2 e; have := hvq _ e; omega) (fun g hg e => by rcases e with e | e; exact (h.ro g hg).2.2 e; have := hvq _ e; have := (h.ro g hg).1; omega))
  exact ⟨hM, hR.fr hf2 (fun e => hn.1 e.symm) (fun g hg e => (h.ro g hg).2.1 e), h.ro, hwin.fr hf2 (fun e => hn.2.1 e.symm), own_fr hown hf2 (fun g hg e => by have := hat g hg; omega), h.bm, h.qm, h.ne, Nat.le_trans (Nat.le_trans h.qs hf.size) hf2.size⟩
end

/-- a call's end: the machine's state, nothing below B turned -/
def MPost (res : Value) (B Q pm pr pw : Nat) (buf : List UInt8) (pos gone : Nat) (o : Value) (all : List UInt8) (m : MV) (w : World) (e : Ending) (w' : World) : Prop :=
  e = .returned res ∧ (∃ v, MS w' B Q pm pr pw buf pos gone o all v m) ∧ Below B w w'

set_option maxHeartbeats 400000 in
theorem goOn_any (B Q pm pr pw : Nat) (buf : List UInt8) (pos gone : Nat) (o : Value) (all : List UInt8) (v : Value) (m : MV) (s : Int) (w : World) (h : MS w B Q pm pr pw buf pos gone o all v m) :
    Calls Tryd.prog 29 #[.pointer (some ⟨pm, 0, none⟩), .int .i64 s] w (MPost (.bool true) B Q pm pr pw buf pos gone o all { m with stage := s } w) := by
  have HM := Lib.hid h
  have c5 := h.mach.cell 5
  have f5 := h.mach.frozen 5
  simp [machC] at c5
  clear h
  go_enter Tryd.func29, Tryd.ntmps29
  go_wp2_with fail
  go_ret
  exact ⟨rfl, ⟨v, HM.out.upd rfl⟩, (Below.refl B w).setCell HM.out.bm.1 _⟩
set_option maxHeartbeats 400000 in
theorem fail_any (B Q pm pr pw : Nat) (buf : List UInt8) (pos gone : Nat) (o : Value) (all : List UInt8) (v : Value) (m : MV) (s : Int) (w : World) (h : MS w B Q pm pr pw buf pos gone o all v m) :
    Calls Tryd.prog 33 #[.pointer (some ⟨pm, 0, none⟩), .int .i64 s] w (MPost (.bool false) B Q pm pr pw buf pos gone o all { m with fault := s } w) := by
  have HM := Lib.hid h
  have c4 := h.mach.cell 4
  have f4 := h.mach.frozen 4
  simp [machC] at c4
  clear h
  go_enter Tryd.func33, Tryd.ntmps33
  go_wp2_with fail
  go_ret
  exact ⟨rfl, ⟨v, HM.out.upd rfl⟩, (Below.refl B w).setCell HM.out.bm.1 _⟩
set_option maxHeartbeats 400000 in
theorem room_any (B Q pm pr pw : Nat) (buf : List UInt8) (pos gone : Nat) (o : Value) (all : List UInt8) (v : Value) (m : MV) (w : World) (h : MS w B Q pm pr pw buf pos gone o all v m) (hl : all.length ≤ 1000000000) (hm : m.lim ≤ 1000000000) :
    Calls Tryd.prog 36 #[.pointer (some ⟨pm, 0, none⟩)] w fun e w' => e = .returned (.int .i64 ((m.lim : Int) - (all.length : Int))) ∧ ∃ n, w' = w.drewN n := by
  have c0 := h.mach.cell 0
  have c2 := h.mach.cell 2
  simp [machC] at c0 c2
  have WA := Lib.hid (fun n => winAll_any pw all (w.drewN n) (h.win.drewN n))
  have v1 : IntKind.i64.wrap ((m.lim : Int) - (all.length : Int)) = (m.lim : Int) - (all.length : Int) := IntWalk.i64_in _ (by omega)
  clear h
  go_enter Tryd.func36, Tryd.ntmps36
  go_wp2_with fail
  go_quiet ((go_at_call 51; exact quietly (WA.out _)))
  go_wp2_with fail
  go_ret
  exact ⟨rfl, _, rfl⟩
set_option maxHeartbeats 1000000 in
theorem put_any (B Q pm pr pw : Nat) (buf : List UInt8) (pos gone : Nat) (o : Value) (all : List UInt8) (v : Value) (m : MV) (b : List UInt8) (A : Option Addr) (c C : Nat) (w : World) (h : MS w B Q pm pr pw buf pos gone o all v m) (hl : all.length ≤ 1000000) (hb : b.length ≤ 32768) (hbc : b.length ≤ c) (hC : C ≤ w.heap.size) (hsl : Sl w C A (bytesV b)) (hne : ∀ x, A = some x → x.block ≠ pw) :
    Calls Tryd.prog 38 #[.pointer (some ⟨pm, 0, none⟩), .slice A b.length c] w (MPost (.tuple #[]) B Q pm pr pw buf pos gone o (all ++ b) m w) := by
  have HM := Lib.hid h
  have c2 := h.mach.cell 2
  simp [machC] at c2
  have PU := Lib.hid (winPut_any pw all b A c C w h.win (by omega) hb hbc hC hsl hne)
  obtain ⟨Av, cv, rfl⟩ := own_form h.own
  have HS := Lib.hid hsl
  have HNE := Lib.hid hne
  obtain ⟨i0, hi0, hz0, hz1, hz2⟩ := info_parts byteInfoC
  have Hi0 := Lib.hid hi0
  have Hz0 := Lib.hid hz0
  have Hz1 := Lib.hid hz1
  have Hz2 := Lib.hid hz2
  have hn := h.ne
  have hq := h.qm
  have hqs := h.qs
  have hbm := h.bm
  clear h hsl hne hi0 hz0 hz1 hz2
  go_enter Tryd.func38, Tryd.ntmps38
  go_wp2_with fail
  (with_reducible refine PU.out.mono ?_)
  rintro e w1 ⟨rfl, hw1, hf1⟩
  have hm1 := HM.out.mach.fr hf1 (fun e => hn.2.1 e)
  have c3 := hm1.cell 3
  have f3 := hm1.frozen 3
  simp [machC] at c3
  have HO1 := Lib.hid (own_fr HM.out.own hf1 (fun g hg e => by have := (HM.out.own.lt g hg).1; omega))
  have HS1 := Lib.hid (HS.out.frNe hf1 hC (fun x hx => HNE.out x hx))
  have HW1 := Lib.hid hw1
  have HF1 := Lib.hid hf1
  have HM1 := Lib.hid hm1
  have hs1 := hf1.size
  clear hw1 hf1 hm1 PU c2
  go_wp2_with (at_builtin; refine wpList_append_sl _ rfl _ _ _ rfl Q 5 i0 _ 1 Tryd.underlying25 Hi0.out Hz0.out Hz1.out Hz2.out rfl (.slice Av all.length cv) all.length (bytesV all) rfl HO1.out C A b.length c (bytesV b) (len_bytesV b) rfl HS1.out (bytes_oneCell b) (by unfold maxLen; omega) (by omega) (by omega) ?_; intro v2 w2 hown2 hgrow2 hat2; obtain ⟨Av2, cv2, rfl⟩ := own_form hown2; have hf12 := (Fr.refl (fun k => (Value.slice Av all.length cv).ownBlock = some k) w1).grown hgrow2 (fun _ _ e => e); have hm2 := HM1.out.fr hf12 (fun e => by have := (HO1.out.lt _ e).1; omega); have d3 := hm2.cell 3; have g3 := hm2.frozen 3; simp [machC] at d3; have HO2 := Lib.hid hown2; have HF12 := Lib.hid hf12; clear hown2 hgrow2 hat2 hf12 hm2)
  go_end0
  have hFr : Fr (fun k => k = pw ∨ (Value.slice Av all.length cv).ownBlock = some k) w w2 := (HF1.out.mono (T := fun k => k = pw ∨ (Value.slice Av all.length cv).ownBlock = some k) (fun _ _ e => .inl e)).trans HF12.out (fun _ _ e => .inr e)
  have hO : w2.ownsRow Q 5 1 (.slice Av2 (all.length + b.length) cv2) (all ++ b).length (bytesV (all ++ b)) := by rw [List.length_append, bytes_append]; exact HO2.out
  refine ⟨rfl, ⟨_, HM.out.out (HW1.out.fr HF12.out (fun e => by have := (HO1.out.lt _ e).1; omega)) hFr hO (fun g hg => (hO.lt g hg).1)⟩, ?_⟩
  have hsz : B ≤ w.heap.size := by omega
  exact (hFr.below hsz (fun k hk e => by rcases e with e | e; omega; have := (HM.out.own.lt _ e).1; omega)).setCell hbm.1 _
set_option maxHeartbeats 400000 in
theorem endBlock_more (B Q pm pr pw : Nat) (buf : List UInt8) (pos gone : Nat) (o : Value) (all : List UInt8) (v : Value) (m : MV) (w : World) (h : MS w B Q pm pr pw buf pos gone o all v m) (hf : m.fin = false) :
    Calls Tryd.prog 34 #[.pointer (some ⟨pm, 0, none⟩)] w (MPost (.bool true) B Q pm pr pw buf pos gone o all { m with stage := 0 } w) := by
  have c6 := h.mach.cell 6
  simp [machC, hf] at c6
  have GO := Lib.hid (goOn_any B Q pm pr pw buf pos gone o all v m 0 w h)
  clear h hf
  go_enter Tryd.func34, Tryd.ntmps34
  go_wp2_with fail
  (with_reducible refine GO.out.mono ?_)
  rintro e w1 ⟨rfl, hm, hb⟩
  have HM := Lib.hid hm
  have HB := Lib.hid hb
  clear hm hb GO
  go_wp2_with fail
  go_ret
  exact ⟨rfl, HM.out, HB.out⟩
set_option maxHeartbeats 400000 in
theorem endBlock_last (B Q pm pr pw : Nat) (buf : List UInt8) (pos gone : Nat) (o : Value) (all : List UInt8) (v : Value) (m : MV) (w : World) (h : MS w B Q pm pr pw buf pos gone o all v m) (hf : m.fin = true) (hb : buf.length ≤ 1000000) :
    Calls Tryd.prog 34 #[.pointer (some ⟨pm, 0, none⟩)] w (MPost (.bool true) B Q pm pr pw buf (8 * ((pos + 7) / 8)) gone o all { m with stage := 11 } w) := by
  have c6 := h.mach.cell 6
  have c1 := h.mach.cell 1
  simp [machC, hf] at c6 c1
  have HM := Lib.hid h
  have AL := Lib.hid (align_any B pr o buf pos gone w h.rd (by omega))
  have hbm := h.bm
  have hq := h.qm
  have hqs := h.qs
  clear h hf
  go_enter Tryd.func34, Tryd.ntmps34
  go_wp2_with fail
  (with_reducible refine AL.out.mono ?_)
  rintro e w1 ⟨rfl, hr1, hf1⟩
  have hm1 := HM.out.read hr1 hf1
  have GO := Lib.hid (goOn_any B Q pm pr pw buf _ gone o all v m 11 w1 hm1)
  have HB1 := Lib.hid (hf1.below (B := B) (by omega) (fun k hk e => by omega))
  clear hr1 hf1 hm1 AL
  go_wp2_with fail
  (with_reducible refine GO.out.mono ?_)
  rintro e w2 ⟨rfl, hm, hb⟩
  have HM2 := Lib.hid hm
  have HB2 := Lib.hid (HB1.out.trans hb)
  clear hm hb GO
  go_wp2_with fail
  go_ret
  exact ⟨rfl, HM2.out, HB2.out⟩
end Go.Proofs.YtdmmlpioaiammaaDoor
