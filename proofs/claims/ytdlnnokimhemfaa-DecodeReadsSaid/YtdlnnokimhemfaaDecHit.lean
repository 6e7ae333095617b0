/-
  decode: Next where bits begin with a code; the page's example of layer 9.
-/
import Derived.Test.YtdlnnokimhemfaaDecNext
import Derived.Test.YtdlnnokimhemfaaFeed
namespace Go.Proofs.Ytdlnnokimhemfaa
open Go.RowKit

theorem NextIs.of_hit {l : List Int} {L : List Bool} {M d s n : Nat} {v : Value} (h : NextIs l L M v d) (hh : Hit l L s n) (hsum : psum l 15 ≤ 32768) (hM : mxOf l = (M : Int)) : v = .tuple #[.int .i64 (s : Int), .int .i64 0] ∧ d = n := by
  rcases h with ⟨s', n', h1, h2, h3⟩ | ⟨h1, h2, _⟩ | ⟨h1, h2, _⟩
  · obtain ⟨e1, e2⟩ := Hit.unique hsum hh h1
    subst e1 e2
    exact ⟨h2, h3⟩
  · have a := h2 n hh.2.2.1 hh.2.2.2.2.1
    have b := hh.here hsum
    omega
  · have a := h2 n hh.2.2.1 (hh.le_mx M hM)
    have b := hh.here hsum
    omega
def HitPost (s n B p : Nat) (o : Value) (buf : List UInt8) (pos gone : Nat) (w : World) (e : Ending) (w' : World) : Prop :=
  e = .returned (.tuple #[.int .i64 (s : Int), .int .i64 0]) ∧ RdS w' B p o buf (pos + n) gone ∧ Fr (fun x => x = p) w w'
theorem mx_nat (l : List Int) : ∃ M : Nat, mxOf l = (M : Int) := Int.eq_ofNat_of_zero_le (mx_nn l)
theorem next_hit (l : List Int) (s n BT Q pt B p : Nat) (o : Value) (buf : List UInt8) (pos gone : Nat) (w : World) (hT : TabS w BT Q pt l) (hR : RdS w B p o buf pos gone) (hb : buf.length ≤ 1000000000) (hQ : Q ≤ p)
    (hk : kindOf l ≤ 3) (hl : l.length ≤ 1000000) (hh : Hit l (left buf pos) s n) :
    Calls Try.prog 26 #[.pointer (some ⟨pt, 0, none⟩), .pointer (some ⟨p, 0, none⟩)] w (HitPost s n B p o buf pos gone w) := by
  obtain ⟨M, hM⟩ := mx_nat l
  refine (next_any l M BT Q pt B p o buf pos gone w hT hR hb hQ hk hl hM).mono ?_
  rintro e w' ⟨v, d, h1, h2, h3, h4⟩
  obtain ⟨e1, e2⟩ := h1.of_hit hh (kind_le3 hk).2 hM
  subst e1 e2
  exact ⟨h2, h3, h4⟩
theorem left_drop (buf : List UInt8) (pos n : Nat) : left buf (pos + n) = (left buf pos).drop n := by unfold left; rw [List.drop_drop]

theorem waking9 : kindOf [1, 2, 2] = 3 ∧ mayOf [1, 2, 2] 0 = 0 := by decide +kernel
theorem waking9a : Hit [1, 2, 2] (Bit.ofBytes [6]) 0 1 := by
  refine ⟨by decide, by decide, by decide, by decide, by decide +kernel, by decide +kernel⟩
theorem waking9b : Hit [1, 2, 2] ((Bit.ofBytes [6]).drop 1) 2 2 := by
  refine ⟨by decide, by decide, by decide, by decide, by decide +kernel, by decide +kernel⟩

set_option maxHeartbeats 2000000 in
theorem awake09_any (w : World) : Calls Try.prog 16 #[] w fun e w' => e = .returned (.bool true) ∧ Below w.heap.size w w' := by
  have NW := Lib.hid (decNew_yes [1, 2, 2] 0 (some ⟨w.heap.size, 0, none⟩) 3 (w.heap.size + 1) (w.alloc (.cells #[.int .i64 1, .int .i64 2, .int .i64 2] 3)) (by decide) (Sl.new_ w _ _ _) (by simp) waking9.2)
  go_enter Try.func16, Try.ntmps16
  go_wp2_with fail
  (refine NW.out.mono ?_)
  rintro e w1 ⟨pt, rfl, hT, hb1⟩
  have HB1 := Lib.hid (((Below.refl w.heap.size w).alloc (Nat.le_refl _) _).trans (hb1.mono (by simp)))
  have hs1 := HB1.out.size
  have HT := Lib.hid hT
  have hpt := hT.lo
  clear hT hb1 NW
  have BN := Lib.hid (bitinNew_any w1.heap.size w1 (Nat.le_refl _))
  go_wp2_with fail
  (with_reducible refine BN.out.mono ?_)
  rintro e w2 ⟨rfl, hr2, hb2⟩
  have HB2 := Lib.hid (HB1.out.trans (hb2.mono hs1))
  have HT2 := Lib.hid (HT.out.below hb2)
  obtain ⟨p, hp⟩ : ∃ p, p = w1.heap.size := ⟨_, rfl⟩
  have hs2 := hb2.size
  rw [← hp] at hr2 HT2 hs2 ⊢
  have HP := Lib.hid hp
  have hlt2 := hr2.cells.lt
  have hwp : w.heap.size ≤ p := by omega
  have FE := Lib.hid (feed_plain p p (.slice none 0 0) [] 0 0 [6] (some ⟨w2.heap.size, 0, none⟩) 1 (w2.heap.size + 1) (w2.alloc (.cells #[.int .u8 6] 5)) (hr2.fr ((Fr.refl (fun _ => False) w2).alloc _) id (by simp)) (by simp) (by simp) (by simp; omega) (Sl.new_ w2 _ _ _) (.inl (by decide)))
  clear hr2 hb2 BN hp
  go_wp2_with fail
  (refine FE.out.mono ?_)
  rintro e w3 ⟨o, buf, pos, gone, rfl, hleft, _, hr3, hbl, _, hf3⟩
  have hleft' : left buf pos = Bit.ofBytes [6] := by rw [hleft]; rfl
  have HF3 : Fr (fun k => p ≤ k) w2 w3 := ((Fr.refl (fun k => p ≤ k) w2).alloc _).trans hf3 (fun k _ h => by
    rcases h with h | h
    · omega
    · simp [Value.ownBlock] at h)
  have HT3 := Lib.hid (HT2.out.fr HF3)
  have HB3 := Lib.hid (HB2.out.trans (HF3.below (B := w.heap.size) (by omega) (fun k hk h => by have := HP.out; omega)))
  have HLF := Lib.hid hleft'
  have hs3 := HF3.size
  have N1 := Lib.hid (next_hit [1, 2, 2] 0 1 _ p pt p p o buf pos gone w3 HT3.out hr3 (by simp at hbl; omega) (Nat.le_refl _) (by rw [waking9.1]; decide) (by decide) (by rw [HLF.out]; exact waking9a))
  clear hleft hleft' hr3 HF3 hf3 FE
  go_wp2_with fail
  (with_reducible refine N1.out.mono ?_)
  rintro e w4 ⟨rfl, hr4, hf4⟩
  have HF4 := Lib.hid (hf4.mono (T := fun k => p ≤ k) (fun k _ h => by omega))
  have HT4 := Lib.hid (HT3.out.fr HF4.out)
  have HB4 := Lib.hid (HB3.out.trans (HF4.out.below (B := w.heap.size) (by omega) (fun k hk h => by have := HP.out; omega)))
  have hs4 := HF4.out.size
  have N2 := Lib.hid (next_hit [1, 2, 2] 2 2 _ p pt p p o buf (pos + 1) gone w4 HT4.out hr4 (by simp at hbl; omega) (Nat.le_refl _) (by rw [waking9.1]; decide) (by decide) (by rw [left_drop, HLF.out]; exact waking9b))
  clear hr4 hf4 N1
  go_wp2_with fail
  (with_reducible refine N2.out.mono ?_)
  rintro e w5 ⟨rfl, hr5, hf5⟩
  have HB5 := Lib.hid (HB4.out.trans ((hf5.mono (T := fun k => p ≤ k) (fun k _ h => by omega)).below (B := w.heap.size) (by omega) (fun k hk h => by have := HP.out; omega)))
  clear hr5 hf5 N2
  go_wp2_with fail
  go_ret
  exact ⟨rfl, HB5.out⟩
end Go.Proofs.Ytdlnnokimhemfaa
