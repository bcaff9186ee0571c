/- Walks: Zeros, Join, the known rows. -/
import Derived.Test.YtfjgdajnjeelmaaCrcW6
import Derived.Lib.SlBytesConst
namespace Go.Proofs.Ytfjgdajnjeelmaa
open Go.RowKit Crc
theorem crc_Zeros (n m : Int) (x : W) (w : World) (hn : n = x.toNat) (hm : m ≤ 9223372036854775807) :
    Calls Try.prog 12 #[.int .u32 n, .int .i64 m] w fun e w' => e = .returned (.int .u32 (Crc.zeros x m.toNat).toNat) ∧ Below w.heap.size w w' := by
  subst hn
  have hx := x.isLt
  go_enter Try.func12, Try.ntmps12
  go_wp2_with fail
  refine (crc_far _ (~~~ x) m _ (not_int' x) hm).mono ?_
  rintro e w1 ⟨rfl, hb⟩
  have HB := Lib.hid hb; clear hb
  have hy := (Crc.far (~~~ x) m.toNat).isLt
  go_wp2_with fail
  go_ret
  exact ⟨ret_u32 (not_int' _), HB.out⟩
theorem crc_Join (n c m : Int) (x y : W) (w : World) (hn : n = x.toNat) (hc : c = y.toNat) (hm : m ≤ 9223372036854775807) :
    Calls Try.prog 14 #[.int .u32 n, .int .u32 c, .int .i64 m] w fun e w' => e = .returned (.int .u32 (Crc.joinS x y m.toNat).toNat) ∧ Below w.heap.size w w' := by
  subst hn hc
  have hy := y.isLt
  go_enter Try.func14, Try.ntmps14
  go_wp2_with fail
  refine (crc_far _ x m _ rfl hm).mono ?_
  rintro e w1 ⟨rfl, hb⟩
  have HB := Lib.hid hb; clear hb
  have hz := (Crc.far x m.toNat).isLt
  go_wp2_with fail
  go_ret
  exact ⟨ret_u32 (xor_int _ _), HB.out⟩

theorem conv2 {P : Program} (t e : TypeId) (ht : P.underlying t = some (.slice e)) (he : P.underlying e = some (.int .u8)) (w : World) (X : Obj) (C : Array Value) (n c : Nat) :
    (convert t t (.slice (some ⟨w.heap.size + 1, 0, none⟩) n c)).run P ((w.alloc X).alloc (.cells C e)) = .ok (.slice (some ⟨w.heap.size + 1, 0, none⟩) n c) ((w.alloc X).alloc (.cells C e (C.size, C.size + 1))) := by
  have := Lib.run_convert_bytes_const (P := P) (w.alloc X) t e C n c ht he
  simpa using this
theorem ListsAt.one (w : World) (t : TypeId) (fr : Nat × Nat) (a1 : Option Addr) (n1 c1 : Nat) (l1 : List UInt8) (h1 : BytesAt w a1 l1) (e1 : n1 = l1.length) (m1 : l1.length ≤ 9223372036854775807) :
    ListsAt (w.alloc (.cells #[.slice a1 n1 c1] t fr)) (some ⟨w.heap.size, 0, none⟩) [l1] := by
  subst e1
  refine ListsAt.new w t fr [_] [l1] fun i hi => ?_
  have : i = 0 := by simpa using hi
  subst this
  exact ⟨a1, c1, rfl, h1, m1⟩
theorem ListsAt.two (w : World) (t : TypeId) (fr : Nat × Nat) (a1 a2 : Option Addr) (n1 n2 c1 c2 : Nat) (l1 l2 : List UInt8) (h1 : BytesAt w a1 l1) (h2 : BytesAt w a2 l2) (e1 : n1 = l1.length) (e2 : n2 = l2.length)
    (m1 : l1.length ≤ 9223372036854775807) (m2 : l2.length ≤ 9223372036854775807) :
    ListsAt (w.alloc (.cells #[.slice a1 n1 c1, .slice a2 n2 c2] t fr)) (some ⟨w.heap.size, 0, none⟩) [l1, l2] := by
  subst e1 e2
  refine ListsAt.new w t fr [_, _] [l1, l2] fun i hi => ?_
  have : i = 0 ∨ i = 1 := by simp at hi; omega
  rcases this with rfl | rfl
  · exact ⟨a1, c1, rfl, h1, m1⟩
  · exact ⟨a2, c2, rfl, h2, m2⟩
theorem below_new2 (w : World) (a b : Obj) : Below w.heap.size w ((w.alloc a).alloc b) := (below_new w a).alloc (by simp) b
theorem below_new3 (w : World) (a b c : Obj) : Below w.heap.size w (((w.alloc a).alloc b).alloc c) := (below_new2 w a b).alloc (by simp; omega) c
theorem size_alloc (w : World) (o : Obj) : (w.alloc o).heap.size = w.heap.size + 1 := by simp
namespace Crc
theorem k0 : ((Crc.sum ([] : List (List UInt8)).flatten).toNat : Int) = 0 := by decide +kernel
theorem k1 : ((Crc.sum ([[49, 50, 51, 52], [53, 54, 55, 56, 57]] : List (List UInt8)).flatten).toNat : Int) = 3808858755 := by decide +kernel
theorem k2 : Crc.more (Crc.sum [49, 50, 51, 52, 53]) [54, 55, 56, 57] = 3808858755#32 := by decide +kernel
theorem k3 : Crc.zeros 0#32 4 = 1214729159#32 := by decide +kernel
theorem k4 : Crc.zeros 7#32 0 = 7#32 := by decide +kernel
theorem k5 : Crc.joinS 9#32 0#32 0 = 9#32 := by decide +kernel
theorem k6 : (Crc.sum [97] == 3251651376#32) = true := by decide +kernel
end Crc
set_option maxHeartbeats 1000000 in
theorem crc_known (w : World) : Calls Try.prog 5 #[] w fun e w' => e = .returned (.bool true) ∧ Below w.heap.size w w' := by
  have kc := fun (w : World) (C : Array Value) (n c : Nat) => Lib.run_convert_bytes_const (P := Try.prog) w 24 5 C n c Try.underlying24 Try.underlying5
  have kc2 := fun (w : World) (X : Obj) (C : Array Value) (n c : Nat) => conv2 (P := Try.prog) 24 5 Try.underlying24 Try.underlying5 w X C n c
  go_enter Try.func5, Try.ntmps5
  go_wp2_with fail
  refine (crc_Sum [] _ _ _ _ (fun i h => by simp at h) rfl (by simp)).mono ?_
  rintro e w1 ⟨rfl, hb⟩
  have HB1 := Lib.hid hb; clear hb
  rw [k0]
  go_wp2_with fail
  refine (crc_Sum [[49, 50, 51, 52], [53, 54, 55, 56, 57]] _ _ _ _ ?_ rfl (by simp)).mono ?_
  · have h1 := (BytesAt.new w1 5 (4, 5) [49, 50, 51, 52] [_, _, _, _] rfl).below (below_new _ (.cells #[.int .u8 53, .int .u8 54, .int .u8 55, .int .u8 56, .int .u8 57] 5 (5, 6))) rfl
    have h2 := BytesAt.new (w1.alloc (.cells #[.int .u8 49, .int .u8 50, .int .u8 51, .int .u8 52] 5 (4, 5))) 5 (5, 6) [53, 54, 55, 56, 57] [_, _, _, _, _] rfl
    have h3 := ListsAt.two _ 24 (0, 0) _ _ 4 5 4 5 _ _ h1 h2 rfl rfl (by simp) (by simp)
    simp only [size_alloc] at h3
    exact h3
  rintro e w2 ⟨rfl, hb⟩
  have HB2 := Lib.hid (HB1.out.trans (((below_new3 _ _ _ _).trans (hb.mono (by simp; omega))).mono HB1.out.size)); clear hb HB1
  rw [k1]
  go_wp2_with fail
  refine (crc_Sum [[49, 50, 51, 52, 53]] _ _ _ _ ?_ rfl (by simp)).mono ?_
  · have h1 := BytesAt.new w2 5 (5, 6) [49, 50, 51, 52, 53] [_, _, _, _, _] rfl
    have h3 := ListsAt.one _ 24 (0, 0) _ 5 5 _ h1 rfl (by simp)
    simp only [size_alloc] at h3
    exact h3
  rintro e w3 ⟨rfl, hb⟩
  have HB3 := Lib.hid (HB2.out.trans (((below_new2 _ _ _).trans (hb.mono (by simp; omega))).mono HB2.out.size)); clear hb HB2
  go_wp2_with fail
  refine (crc_More _ _ [54, 55, 56, 57] _ _ _ _ rfl (BytesAt.new w3 5 (4, 5) [54, 55, 56, 57] [_, _, _, _] rfl) rfl (by simp)).mono ?_
  rintro e w4 ⟨rfl, hb⟩
  have HB4 := Lib.hid (HB3.out.trans (((below_new _ _).trans (hb.mono (by simp))).mono HB3.out.size)); clear hb HB3
  rw [k2]
  go_wp2_with fail
  refine (crc_Zeros _ _ 0#32 _ rfl (by decide)).mono ?_
  rintro e w5 ⟨rfl, hb⟩
  have HB5 := Lib.hid (HB4.out.trans (hb.mono HB4.out.size)); clear hb HB4
  rw [show Crc.zeros 0#32 ((4 : Int).toNat) = 1214729159#32 from k3]
  go_wp2_with fail
  refine (crc_Zeros _ _ 7#32 _ rfl (by decide)).mono ?_
  rintro e w6 ⟨rfl, hb⟩
  have HB6 := Lib.hid (HB5.out.trans (hb.mono HB5.out.size)); clear hb HB5
  rw [show Crc.zeros 7#32 ((-3 : Int).toNat) = 7#32 from k4]
  go_wp2_with fail
  refine (crc_Join _ _ _ 9#32 0#32 _ rfl rfl (by decide)).mono ?_
  rintro e w7 ⟨rfl, hb⟩
  have HB7 := Lib.hid (HB6.out.trans (hb.mono HB6.out.size)); clear hb HB6
  rw [show Crc.joinS 9#32 0#32 ((0 : Int).toNat) = 9#32 from k5]
  go_wp2_with fail
  refine (crc_Holds _ 3251651376#32 [97] _ _ _ _ rfl (BytesAt.new w7 5 (1, 2) [97] [_] rfl) rfl (by simp)).mono ?_
  rintro e w8 ⟨rfl, hb⟩
  have HB8 := Lib.hid (HB7.out.trans (((below_new _ _).trans (hb.mono (by simp))).mono HB7.out.size)); clear hb HB7
  rw [k6]
  go_wp2_with fail
  go_ret
  exact ⟨rfl, HB8.out⟩
end Go.Proofs.Ytfjgdajnjeelmaa
