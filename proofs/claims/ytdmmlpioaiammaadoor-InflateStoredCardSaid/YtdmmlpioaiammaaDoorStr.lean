/-
  string(b) of bytes; slices.Clone of bytes: laws.
-/
import Derived.Test.YtdmmlpioaiammaaDoorAppend
namespace Go.Proofs.YtdmmlpioaiammaaDoor
open Go.RowKit

def strOf (l : List UInt8) : ByteArray := ⟨l.toArray⟩
theorem strOf_toList (l : List UInt8) : (strOf l).data.toList = l := by simp [strOf]
theorem strOf_inj {a b : List UInt8} (h : strOf a = strOf b) : a = b := by
  have := congrArg (fun s : ByteArray => s.data.toList) h
  simpa [strOf] using this
theorem fold_push (l : List UInt8) (s : ByteArray) : (l.map fun c : UInt8 => (c.toNat : Int)).foldl (fun r n => r.push (UInt8.ofNat n.toNat)) s = ⟨s.data ++ l.toArray⟩ := by
  induction l generalizing s with
  | nil => simp
  | cons c l ih =>
    simp only [List.map_cons, List.foldl_cons, Int.toNat_natCast]
    rw [ih]
    simp [ByteArray.push]

theorem run_str {P : Program} (w : World) (B : Nat) (src dst e : TypeId) (a : Option Addr) (l : List UInt8) (c : Nat) (hs : P.underlying src = some (.slice e)) (he : P.underlying e = some (.int .u8)) (hd : P.underlying dst = some .string) (h : Sl w B a (bytesV l)) :
    (convert src dst (.slice a l.length c)).run P w = .ok (.string (strOf l)) w := by
  rw [run_convert_bytes_string w src dst e a l.length c hs he hd]
  rcases h with h0 | ⟨b, off, rfl, _, hc⟩
  · have hl : l = [] := by simpa [bytesV] using h0
    subst hl
    cases a with
    | none => simp [Conv.bytesToString, strOf]; rfl
    | some ad =>
      have := run_bytesToString (P := P) w ad 0 c [] (run_loadCells_list w ad [] (by simp))
      exact this
  · have hm : bytesV l = (l.map fun c : UInt8 => (c.toNat : Int)).map (Value.int .u8) := by simp [bytesV, byteV]
    have hload := run_loadCells_list (P := P) w ⟨b, off, none⟩ (bytesV l) (fun j v hv => by
      have := hc j v hv
      rcases Nat.eq_zero_or_pos j with rfl | hj
      · simpa [Addr.add] using this
      · simpa [Addr.add, show j ≠ 0 by omega] using this)
    rw [len_bytesV, hm] at hload
    rw [run_bytesToString w ⟨b, off, none⟩ l.length c _ hload, fold_push]
    simp [strOf]
end Go.Proofs.YtdmmlpioaiammaaDoor
