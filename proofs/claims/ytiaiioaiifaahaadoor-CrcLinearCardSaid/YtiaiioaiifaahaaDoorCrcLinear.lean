/-
  The law CrcLinear returns true: the walk.
-/
import Derived.Test.YtiaiioaiifaahaaDoorCrcLaws
import Derived.Test.YtiaiioaiifaahaaDoorCrcLinMath
import Derived.Deep.RegionHeld3
namespace Go.Proofs.YtiaiioaiifaahaaDoor
open Go.RowKit

theorem run_min4 {P : Program} (ts : Array TypeId) (t : TypeId) (k k' k'' k3 : IntKind) (x y z u n : Int) (h1 : n ≤ x) (h2 : n ≤ y) (h3 : n ≤ z) (h4 : n ≤ u) (h5 : n = x ∨ n = y ∨ n = z ∨ n = u) (w : World) :
    (Builtin.min_ ts t #[.int k x, .int k' y, .int k'' z, .int k3 u]).run P w = .ok (.int k n) w := by
  simp [Builtin.min_, Builtin.min2]
  repeat' split
  all_goals omega
theorem byteInfo : (Tryd.prog.info? 5).map (fun i => (i.zero, i.size, i.bytes)) = some (some (.int .u8 0), 1, 1) := by kernel_rfl

theorem sum_len (a : Option Addr) (l : List UInt8) (n cap : Nat) (B : Nat) (w : World) (hn : l.length = n) (hl : n ≤ maxLen) (hsl : Sl w B a (bytesV l)) (ht : Steps w) :
    Calls Tryd.prog 9 #[.slice a n cap] w fun e w' => e = .returned (.int .u32 ((Crc.update 0 l : Nat) : Int)) ∧ w = w' := by
  subst hn
  exact sum_any a l cap B w hl hsl ht

set_option maxHeartbeats 800000 in
theorem crcLinear_walk (a1 : Option Addr) (l1 : List UInt8) (cap1 : Nat) (a2 : Option Addr) (l2 : List UInt8) (cap2 : Nat) (a3 : Option Addr) (l3 : List UInt8) (cap3 : Nat) (w : World)
    (hl1 : l1.length ≤ maxLen) (lc1 : l1.length ≤ cap1) (hsl1 : Sl w w.heap.size a1 (bytesV l1)) (hl2 : l2.length ≤ maxLen) (lc2 : l2.length ≤ cap2) (hsl2 : Sl w w.heap.size a2 (bytesV l2)) (hl3 : l3.length ≤ maxLen) (lc3 : l3.length ≤ cap3) (hsl3 : Sl w w.heap.size a3 (bytesV l3)) (ht : Steps w) :
    Calls Tryd.prog 4 #[.slice a1 l1.length cap1, .slice a2 l2.length cap2, .slice a3 l3.length cap3] w fun e w' => e = .returned (.bool true) ∧ Below w.heap.size w w' := by
  have HC1 := Lib.hid hsl1
  have HC2 := Lib.hid hsl2
  have HC3 := Lib.hid hsl3
  have HT := Lib.hid ht
  have hlt := ht.lt
  clear hsl1 hsl2 hsl3 ht
  unfold maxLen at hl1 hl2 hl3
  obtain ⟨n, hn⟩ : ∃ n, n = min (min l1.length l2.length) (min l3.length 1000) := ⟨_, rfl⟩
  have n1 : n ≤ l1.length := by omega
  have n2 : n ≤ l2.length := by omega
  have n3 : n ≤ l3.length := by omega
  have n4 : n ≤ 1000 := by omega
  have hmin := run_min4 (P := Tryd.prog) #[3, 3, 3, 3] 3 .i64 .i64 .i64 .i64 l1.length l2.length l3.length 1000 n (by omega) (by omega) (by omega) (by omega) (by omega)
  clear hn
  obtain ⟨i0, hi0, hz0, hz1, hz2⟩ := info_parts byteInfo
  have Hi0 := Lib.hid hi0
  have Hz0 := Lib.hid hz0
  have Hz1 := Lib.hid hz1
  have Hz2 := Lib.hid hz2
  clear hi0 hz0 hz1 hz2
  go_enter Tryd.func4, Tryd.ntmps4
  go_wp2_with fail
  refine (awake_any w HT.out).mono ?_
  rintro e w1 ⟨rfl, hb⟩
  go_wp2_with fail
  have h01 := hb.size
  go_loopw [8, 9] (fun v i wr => ∃ k : Nat, k ≤ n ∧ i = .int .i64 k ∧ wr.ownsRow w1.heap.size 5 1 v k (bytesV (Crc.mix l1 l2 l3 k)) ∧ Below w1.heap.size w1 wr) (fun _ i _ => n - (intOf i).toNat)
  case atStart => exact ⟨0, Nat.zero_le _, rfl, World.ownsRow_nil _ _ _ _, Below.refl _ _⟩
  case round =>
    obtain ⟨k, hk, rfl, hown, hbr⟩ := hrel
    by_cases hkn : k < n
    · obtain ⟨b1, o1, rfl, hb1, hc1⟩ := ((HC1.out.below hb (Nat.le_refl _)).below hbr h01).byte (k := k) (by omega)
      obtain ⟨b2, o2, rfl, hb2, hc2⟩ := ((HC2.out.below hb (Nat.le_refl _)).below hbr h01).byte (k := k) (by omega)
      obtain ⟨b3, o3, rfl, hb3, hc3⟩ := ((HC3.out.below hb (Nat.le_refl _)).below hbr h01).byte (k := k) (by omega)
      have hsn := Crc.mix_snoc l1 l2 l3 k (by omega) (by omega) (by omega)
      have HS := Lib.hid hsn
      have g1 := u8_bound l1[k]
      have g2 := u8_bound l2[k]
      have g3 := u8_bound l3[k]
      have e1 := u8_xor_nat l1[k].toNat l2[k].toNat g1 g2
      have g4 : l1[k].toNat ^^^ l2[k].toNat < 256 := by rw [← UInt8.toNat_xor]; exact u8_bound _
      have e2 := u8_xor_nat (l1[k].toNat ^^^ l2[k].toNat) l3[k].toNat g4 g3
      rw [← UInt8.toNat_xor, ← UInt8.toNat_xor] at e2
      rw [← UInt8.toNat_xor] at e1
      generalize l1[k] ^^^ l2[k] ^^^ l3[k] = q at e2 HS
      generalize (l1[k] ^^^ l2[k]).toNat = c12 at e1 e2
      clear hsn g1 g2 g3 g4
      generalize l1[k].toNat = c1 at hc1 e1
      generalize l2[k].toNat = c2 at hc2 e1
      generalize l3[k].toNat = c3 at hc3 e2
      have k0 : (0 : Int) ≤ (k : Int) := Int.natCast_nonneg _
      have k1 : (k : Int) < (l1.length : Int) := by omega
      have k2 : (k : Int) < (l2.length : Int) := by omega
      have k3 : (k : Int) < (l3.length : Int) := by omega
      have hbs := hbr.size
      have ne := fun (b : Nat) (hbb : b < w.heap.size) => own_ne hown (Nat.lt_of_lt_of_le hbb h01)
      go_wp2_with fail
      go_region_held3 (fun w' => w'.cell? ⟨b1, o1 + k, none⟩ = some (.int .u8 c1) ∧ w'.cell? ⟨b2, o2 + k, none⟩ = some (.int .u8 c2) ∧ w'.cell? ⟨b3, o3 + k, none⟩ = some (.int .u8 c3))
        (first | go_keep | (go_split_ands; exact ⟨hgrow.cell (by assumption) (ne b1 hb1), hgrow.cell (by assumption) (ne b2 hb2), hgrow.cell (by assumption) (ne b3 hb3)⟩))
        ((refine step_append_lies _ (by rfl) _ _ _ (by rfl) w1.heap.size 5 i0 _ 1 1 Tryd.underlying23 Hi0.out Hz0.out Hz1.out Hz2.out rfl (by omega) _ k (bytesV (Crc.mix l1 l2 l3 k)) (by rfl) ((hown.alloc _).drew) ⟨wr.heap.size, 0, none⟩ 1 1 [.int .u8 q.toNat] (by rfl) (by rfl) (World.news_of_block (cs := #[.int .u8 q.toNat]) (t := 5) (fr := (0, 0)) (heap_alloc_new wr _)) (by simp [Value.oneCell']) (by omega) (by unfold maxLen; omega) (by omega) (by simp; omega) (wr.heap.size + 1) (by simp) ?_; intro gg cap ww hown1 hgrow hat hlt1))
      have hown2 : ww.ownsRow w1.heap.size 5 1 (.slice (some ⟨gg, 0, none⟩) (k + 1) cap) (k + 1) (bytesV (Crc.mix l1 l2 l3 (k + 1))) := by
        rw [HS.out, bytesV, List.map_append]; exact hown1
      have hb2' : Below w1.heap.size w1 ww := own_below ((hown.alloc _).drew) hgrow (Nat.le_refl _) (by simp; omega) ((hbr.alloc hbs _).drew)
      have HO := Lib.hid hown2
      clear hown1 hown2 hgrow ne hown
      go_wp2
      go_roundw
      case rel => exact ⟨k + 1, by omega, by go_num, HO.out, hb2'⟩
      case measure => simp [intOf]; omega
    · obtain rfl : k = n := by omega
      obtain ⟨A, c, rfl⟩ := own_form hown
      have HX := Lib.hid (Sl.of_own hown)
      have hbt := hb.mono (Nat.le_refl w.heap.size)
      have HB := Lib.hid (hbt.trans (hbr.mono h01))
      have HT1 := Lib.hid (HT.out.below HB.out hlt)
      have HD1 := Lib.hid (show Sl wr w.heap.size a1 (bytesV (l1.take k)) by rw [bytesV, List.map_take]; exact (HC1.out.below HB.out (Nat.le_refl _)).take k)
      have HD2 := Lib.hid (show Sl wr w.heap.size a2 (bytesV (l2.take k)) by rw [bytesV, List.map_take]; exact (HC2.out.below HB.out (Nat.le_refl _)).take k)
      have HD3 := Lib.hid (show Sl wr w.heap.size a3 (bytesV (l3.take k)) by rw [bytesV, List.map_take]; exact (HC3.out.below HB.out (Nat.le_refl _)).take k)
      clear hown hb hbt hbr
      go_wp2_with fail
      have s0 : ∀ m, Calls Tryd.prog 9 #[.slice A k c] (wr.drewN m) fun e w' => e = .returned (.int .u32 ((Crc.update 0 (Crc.mix l1 l2 l3 k) : Nat) : Int)) ∧ wr.drewN m = w' :=
        fun m => sum_len A _ k c _ _ (Crc.mix_length _ _ _ _) (by unfold maxLen; omega) (HX.out.drewN m) HT1.out
      have s1 : ∀ m, Calls Tryd.prog 9 #[.slice a1 k cap1] (wr.drewN m) fun e w' => e = .returned (.int .u32 ((Crc.update 0 (l1.take k) : Nat) : Int)) ∧ wr.drewN m = w' :=
        fun m => sum_len a1 _ k cap1 _ _ (by simp; omega) (by unfold maxLen; omega) (HD1.out.drewN m) HT1.out
      have s2 : ∀ m, Calls Tryd.prog 9 #[.slice a2 k cap2] (wr.drewN m) fun e w' => e = .returned (.int .u32 ((Crc.update 0 (l2.take k) : Nat) : Int)) ∧ wr.drewN m = w' :=
        fun m => sum_len a2 _ k cap2 _ _ (by simp; omega) (by unfold maxLen; omega) (HD2.out.drewN m) HT1.out
      have s3 : ∀ m, Calls Tryd.prog 9 #[.slice a3 k cap3] (wr.drewN m) fun e w' => e = .returned (.int .u32 ((Crc.update 0 (l3.take k) : Nat) : Int)) ∧ wr.drewN m = w' :=
        fun m => sum_len a3 _ k cap3 _ _ (by simp; omega) (by unfold maxLen; omega) (HD3.out.drewN m) HT1.out
      have S0 := Lib.hid s0
      have S1 := Lib.hid s1
      have S2 := Lib.hid s2
      have S3 := Lib.hid s3
      clear s0 s1 s2 s3
      have hu := Crc.update_mix l1 l2 l3 k (by omega) (by omega) (by omega)
      have b1 := Crc.update_lt (s := 0) (by decide) (l1.take k)
      have b2 := Crc.update_lt (s := 0) (by decide) (l2.take k)
      have b3 := Crc.update_lt (s := 0) (by decide) (l3.take k)
      generalize Crc.update 0 (Crc.mix l1 l2 l3 k) = t0 at S0 hu
      generalize Crc.update 0 (l1.take k) = t1 at S1 hu b1
      generalize Crc.update 0 (l2.take k) = t2 at S2 hu b2
      generalize Crc.update 0 (l3.take k) = t3 at S3 hu b3
      have e1 := u32_xor_nat t1 t2 b1 b2
      have e2 := u32_xor_nat (t1 ^^^ t2) t3 (Crc.x32 b1 b2) b3
      rw [← hu] at e2
      generalize t1 ^^^ t2 = t12 at e1 e2 hu
      clear hu
      have q1 := run_slice_to Tryd.underlying23 Hi0.out a1 l1.length cap1 k (by omega)
      have q2 := run_slice_to Tryd.underlying23 Hi0.out a2 l2.length cap2 k (by omega)
      have q3 := run_slice_to Tryd.underlying23 Hi0.out a3 l3.length cap3 k (by omega)
      go_quiet ((go_at_call 9; first | (with_reducible exact quietly (S0.out _)) | (with_reducible exact quietly (S1.out _)) | (with_reducible exact quietly (S2.out _)) | (with_reducible exact quietly (S3.out _))))
      go_wp2
      go_ret
      exact ⟨rfl, below_drewN HB.out _⟩
end Go.Proofs.YtiaiioaiifaahaaDoor
