/-
  dev.Device: Wipe, Resize; the reference's Write, Resize.
-/
import Derived.Test.YtpaimcigkpdjpaaDev3
import Derived.Test.YtpaimcigkpdjpaaAppend
import Derived.Laws.OwnMore
namespace Go.Proofs.Ytpaimcigkpdjpaa
open Go.RowKit

theorem splice_cons {α : Type} (L : List α) (o : Nat) (v : α) (vs : List α) (h : o + (v :: vs).length ≤ L.length) : Go.splice (L.set o v) (o + 1) vs = Go.splice L o (v :: vs) := by
  simp only [List.length_cons] at h
  apply List.ext_getElem?
  intro i
  rw [splice_get _ _ _ (by simp; omega), splice_get _ _ _ (by simp; omega), List.length_cons]
  by_cases h1 : i < o
  · rw [if_pos (by omega), if_pos h1, List.getElem?_set_ne (by omega)]
  · rw [if_neg h1]
    by_cases h2 : i = o
    · subst h2
      rw [if_pos (by omega), if_pos (by omega), List.getElem?_set_self (by omega)]
      simp
    · rw [if_neg (by omega)]
      by_cases h3 : i < o + 1 + vs.length
      · rw [if_pos h3, if_pos (by omega), show i - o = (i - (o + 1)) + 1 by omega]
        simp
      · rw [if_neg h3, if_neg (by omega), List.getElem?_set_ne (by omega)]
theorem whole_setCells (g : Nat) (t : TypeId) : ∀ (vs : List Value) (o : Nat) (w : World) (cur : List Value), Whole w g t cur.toArray → o + vs.length ≤ cur.length → Whole (w.setCells g o vs) g t (Go.splice cur o vs).toArray ∧ Fr (fun k => k = g) w (w.setCells g o vs)
  | [], o, w, cur, h, _ => ⟨by simpa [Go.splice, World.setCells] using h, Fr.refl _ _⟩
  | v :: vs, o, w, cur, h, hl => by
    have h1 := h.set_ o v
    rw [show cur.toArray.setIfInBounds o v = (cur.set o v).toArray by simp] at h1
    obtain ⟨h2, h3⟩ := whole_setCells g t vs (o + 1) (w.setCell ⟨g, o, none⟩ v) (cur.set o v) h1 (by simp at hl ⊢; omega)
    rw [splice_cons _ _ _ _ hl] at h2
    exact ⟨h2, ((Fr.refl (fun k => k = g) w).setCell (p := ⟨g, o, none⟩) (.inl rfl) v).trans h3 (fun _ _ h => h)⟩

theorem splice_snoc (b x : List UInt8) (a j : Nat) (h : a + x.length ≤ b.length) (hj : j < x.length) :
    (bytesV (Go.splice b a (x.take j))).set (a + j) (.int .u8 (x[j].toNat : Int)) = bytesV (Go.splice b a (x.take (j + 1))) := by
  have hl1 : (x.take j).length = j := by rw [List.length_take]; omega
  have hl2 : (x.take (j + 1)).length = j + 1 := by rw [List.length_take]; omega
  apply List.ext_getElem?
  intro i
  by_cases hi : i = a + j
  · subst hi
    rw [List.getElem?_set_self (by rw [len_bytesV, length_splice _ _ _ (by omega)]; omega)]
    unfold bytesV
    rw [List.getElem?_map, splice_get _ _ _ (by omega), if_neg (by omega), if_pos (by omega), show a + j - a = j by omega, List.getElem?_take, if_pos (by omega), List.getElem?_eq_getElem hj]
    rfl
  · rw [List.getElem?_set_ne (by omega)]
    unfold bytesV
    rw [List.getElem?_map, List.getElem?_map, splice_get _ _ _ (by omega), splice_get _ _ _ (by omega), hl1, hl2]
    congr 1
    by_cases h1 : i < a
    · rw [if_pos h1, if_pos h1]
    · rw [if_neg h1, if_neg h1]
      by_cases h2 : i < a + j
      · rw [if_pos h2, if_pos (by omega), List.getElem?_take, List.getElem?_take, if_pos (by omega), if_pos (by omega)]
      · rw [if_neg h2, if_neg (by omega)]

def OutPost (l : List UInt8) (w : World) (e : Ending) (w' : World) : Prop := ∃ A c, e = .returned (.slice A l.length c) ∧ w'.ownsRow w.heap.size 5 1 (.slice A l.length c) l.length (bytesV l) ∧ Below w.heap.size w w'
set_option maxRecDepth 100000 in
set_option maxHeartbeats 800000 in
theorem refWrite_any (b x : List UInt8) (at_ : Nat) (A X : Option Addr) (c d B C : Nat) (w : World) (hb : b.length ≤ 1000000000) (h : at_ + x.length ≤ b.length) (hsb : Sl w B A (bytesV b)) (hB : B ≤ w.heap.size) (hsx : Sl w C X (bytesV x)) (hC : C ≤ w.heap.size) :
    Calls Try.prog 36 #[.slice A b.length c, .int .i64 (at_ : Int), .slice X x.length d] w (OutPost (Go.splice b at_ x) w) := by
  have HS := Lib.hid hsb
  have HX := Lib.hid hsx
  clear hsb hsx
  obtain ⟨i0, hi0, hz0, hz1, hz2⟩ := info_parts byteInfoC
  have Hi0 := Lib.hid hi0
  have Hz0 := Lib.hid hz0
  have Hz1 := Lib.hid hz1
  have Hz2 := Lib.hid hz2
  clear hi0 hz0 hz1 hz2
  go_enter Try.func36, Try.ntmps36
  go_wp2_with (at_builtin; refine wpList_append_sl _ rfl _ _ _ rfl w.heap.size 5 i0 _ 1 Try.underlying22 Hi0.out Hz0.out Hz1.out Hz2.out rfl _ 0 [] rfl (World.ownsRow_lit w #[] 0 (Nat.le_refl _) (by decide) rfl) B A b.length c (bytesV b) (len_bytesV b) rfl (HS.out.alloc hB _) (bytes_oneCell b) (by unfold maxLen; omega) (by omega) (by simp) ?_; intro v1 w1 hown1 hgrow1 hat1; have HB1 := Lib.hid (own_below (World.ownsRow_lit (base := w.heap.size) (e := 5) (size := 1) w #[] 0 (Nat.le_refl _) (by decide) rfl) hgrow1 (Nat.le_refl _) (by simp) ((Below.refl _ _).alloc (Nat.le_refl _) _)); rw [Nat.zero_add, List.nil_append] at hown1; obtain ⟨A1, c1, rfl⟩ := own_form hown1; have HO1 := Lib.hid hown1; clear hown1 hgrow1 hat1)
  go_loopw [8] (fun i wr => ∃ j : Nat, j ≤ x.length ∧ i = .int .i64 j ∧ wr.ownsRow w.heap.size 5 1 (.slice A1 b.length c1) b.length (bytesV (Go.splice b at_ (x.take j))) ∧ Below w.heap.size w wr) (fun i _ => x.length - (intOf i).toNat)
  case atStart => exact ⟨0, Nat.zero_le _, rfl, by simpa [Go.splice] using HO1.out, HB1.out⟩
  case round =>
    obtain ⟨j, hj, rfl, hown, hbr⟩ := hrel
    by_cases hlt : j < x.length
    · obtain ⟨g, cap, hv, hg, hg2⟩ := hown.form (by omega)
      injection hv with hA _ hc
      subst hA hc
      obtain ⟨bb, oo, hX, hbb, x1⟩ := (HX.out.below hbr hC).byte (k := j) hlt
      subst hX
      have HST := Lib.hid (hown.stored (at_ + j) (.int .u8 (x[j].toNat : Int))).1
      rw [splice_snoc b x at_ j h hlt] at HST
      have x2 := hown.cellAt (at_ + j) (by rw [Nat.mul_one]; omega)
      have f2 := hown.frozenAt (at_ + j)
      obtain ⟨y0, hy0⟩ : ∃ y0, (bytesV (Go.splice b at_ (x.take j)))[at_ + j]? = some y0 := ⟨_, List.getElem?_eq_getElem (by rw [len_bytesV, length_splice _ _ _ (by rw [List.length_take]; omega)]; omega)⟩
      rw [hy0] at x2
      have hy := u8_bound x[j]
      generalize x[j].toNat = y at x1 HST hy
      have HBR := Lib.hid hbr
      clear hy0 hown hbr
      have v1 : IntKind.i64.wrap ((at_ : Int) + (j : Int)) = ((at_ + j : Nat) : Int) := by rw [IntWalk.i64_in _ (by omega)]; omega
      have v2 : (at_ : Int) + (j : Int) = ((at_ + j : Nat) : Int) := by omega
      have haj : at_ + j < b.length := by omega
      generalize at_ + j = aj at v1 v2 x2 f2 HST haj
      have v3 : (0 : Int) ≤ (aj : Int) := Int.natCast_nonneg _
      have v4 : (aj : Int) < (b.length : Int) := by omega
      have k0 : (0 : Int) ≤ (j : Int) := Int.natCast_nonneg _
      have k1 : (j : Int) < (x.length : Int) := by omega
      go_wp2_with fail
      go_roundw
      case rel => exact ⟨j + 1, by omega, by go_num, HST.out, HBR.out.setCell (p := ⟨g, aj, none⟩) hg _⟩
      case measure => simp [intOf]; omega
    · obtain rfl : j = x.length := by omega
      rw [List.take_length] at hown
      have HO := Lib.hid hown
      have HBR := Lib.hid hbr
      have hll : (Go.splice b at_ x).length = b.length := length_splice _ _ _ h
      clear hown hbr
      go_wp2_with fail
      go_ret
      exact ⟨A1, c1, by rw [hll]; rfl, by rw [hll]; exact HO.out, HBR.out⟩
end Go.Proofs.Ytpaimcigkpdjpaa
