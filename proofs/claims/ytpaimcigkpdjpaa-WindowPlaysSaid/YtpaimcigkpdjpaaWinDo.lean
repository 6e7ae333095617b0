/-
  Layer 12's do: a call at a window and at the document's text.
-/
import Derived.Test.YtpaimcigkpdjpaaWinOps
namespace Go.Proofs.Ytpaimcigkpdjpaa
open Go.RowKit

theorem winPut_nil (p : Nat) (a : Option Addr) (c : Nat) (w : World) :
    Calls Try.prog 9 #[.pointer (some ⟨p, 0, none⟩), .slice a 0 c] w fun e w' => e = .returned (.tuple #[]) ∧ w = w' := by
  go_enter Try.func9, Try.ntmps9
  go_wp2_with fail
  go_loopw [1] (fun bv wr => bv = .slice a 0 c ∧ wr = w) (fun _ _ => 0)
  case atStart => exact ⟨rfl, rfl⟩
  case round =>
    obtain ⟨rfl, rfl⟩ := hrel
    go_wp2_with fail
    go_end0
    exact ⟨rfl, rfl⟩
theorem winPut_op (p : Nat) (all b : List UInt8) (a : Option Addr) (c B : Nat) (w : World) (hw : WinS w p all) (hn : all.length ≤ 1000000000) (hb : b.length ≤ 32768) (hbc : b.length ≤ c) (hB : B ≤ w.heap.size) (hsl : Sl w B a (bytesV b)) (hBp : B ≤ p) :
    Calls Try.prog 9 #[.pointer (some ⟨p, 0, none⟩), .slice a b.length c] w fun e w' => e = .returned (.tuple #[]) ∧ WinS w' p (all ++ b) ∧ Fr (fun k => k = p) w w' := by
  cases b with
  | nil =>
    refine (winPut_nil p a c w).mono ?_
    rintro e w' ⟨rfl, rfl⟩
    exact ⟨rfl, by simpa using hw, Fr.refl _ _⟩
  | cons x b =>
    refine winPut_any p all (x :: b) a c B w hw hn hb hbc hB hsl ?_
    intro y hy
    rcases hsl with h | ⟨b1, off, ha, hb1, _⟩
    · simp [bytesV] at h
    · rw [ha] at hy
      injection hy with hy
      subst hy
      show b1 ≠ p
      omega

/-- a window and a text that hold the same -/
structure Pair (w : World) (p : Nat) (A : Option Addr) (c : Nat) (all : List UInt8) : Prop where
  win : WinS w p all
  sl : Sl w w.heap.size A (bytesV all)
  ne : ∀ x, A = some x → x.block ≠ p
  cap : all.length ≤ c
def DoPost (p : Nat) (all : List UInt8) (w : World) (e : Ending) (w' : World) : Prop :=
  ∃ A' c' all', e = .returned (.tuple #[.slice A' (all' : List UInt8).length c', .bool true]) ∧ Pair w' p A' c' all' ∧ all'.length ≤ all.length + 200000 ∧ Fr (fun k => k = p) w w'
def opC (kind dist n : Int) (aa : Option Addr) (dl cc : Nat) : Array Value := #[.int .i64 kind, .int .i64 dist, .int .i64 n, .slice aa dl cc]
theorem Pair.fr {w w' : World} {p : Nat} {A : Option Addr} {c : Nat} {all : List UInt8} (h : Pair w p A c all) (hf : Fr (fun _ => False) w w') : Pair w' p A c all :=
  ⟨h.win.fr hf id, (h.sl.frNe hf (Nat.le_refl _) (fun _ _ => id)).more hf.size, h.ne, h.cap⟩
theorem own_ne_p {w : World} {base : Nat} {A : Option Addr} {c n p : Nat} {xs : List Value} (h : w.ownsRow base 5 1 (.slice A n c) n xs) (hp : p < base) (hn : 0 < n) : ∀ x, A = some x → x.block ≠ p := by
  intro x hx
  obtain ⟨g, cap, hv, hg, _⟩ := h.form (by omega)
  injection hv with hA _ _
  rw [hA] at hx
  injection hx with hx
  subst hx
  show g ≠ p
  omega
end Go.Proofs.Ytpaimcigkpdjpaa
