
/- Walks: frames: check, header, Size, num. -/
import Derived.Test.YtpbjhfajekfjeaaChain
import Derived.Test.YtpbjhfajekfjeaaCrcW4
namespace Go.Proofs.Ytpbjhfajekfjeaa
open Go.RowKit
namespace Frm
def b8 (n : Nat) : UInt8 := UInt8.ofNat n
def hd (k n : Nat) : List UInt8 := [b8 k, b8 (n / 16777216), b8 (n / 65536), b8 (n / 256), b8 n]
def be4 (x : Crc.W) : List UInt8 := [b8 (x.toNat / 16777216), b8 (x.toNat / 65536), b8 (x.toNat / 256), b8 x.toNat]
def frameF (k : Nat) (body : List UInt8) : List UInt8 := hd k body.length ++ be4 (Crc.sum (hd k body.length ++ body)) ++ body
theorem b8_int (n : Nat) : (n : Int) % 256 = ((b8 n).toNat : Int) := by
  unfold b8; rw [UInt8.toNat_ofNat']; omega
theorem b8_24 (n : Nat) : (n : Int) / 16777216 % 256 = ((b8 (n / 16777216)).toNat : Int) := by rw [← b8_int]; omega
theorem b8_16 (n : Nat) : (n : Int) / 65536 % 256 = ((b8 (n / 65536)).toNat : Int) := by rw [← b8_int]; omega
theorem b8_8 (n : Nat) : (n : Int) / 256 % 256 = ((b8 (n / 256)).toNat : Int) := by rw [← b8_int]; omega
end Frm
open Frm
theorem fnum (n : Int) (w : World) : Calls Try.prog 8 #[.int .i64 n] w fun e w' => e = .returned (.int .i64 n) ∧ w = w' := by
  go_enter Try.func8, Try.ntmps8
  go_wp2_with fail
  go_ret
  exact ⟨rfl, rfl⟩
theorem frame_Size (a : Option Addr) (n c : Nat) (w : World) (hn : n ≤ 1099511627776) : Calls Try.prog 16 #[.slice a n c] w fun e w' => e = .returned (.int .i64 ((9 + n : Nat) : Int)) ∧ w = w' := by
  go_enter Try.func16, Try.ntmps16
  go_wp2_with fail
  go_ret
  exact ⟨by simp, rfl⟩
/-- What check answers. -/
def chk (k : Int) (n : Nat) : Nat := if k < 0 ∨ 255 < k then 2 else if 16777216 < n then 3 else 0
theorem frame_check (k : Int) (a : Option Addr) (n c : Nat) (w : World) (hn : n ≤ 1099511627776) : Calls Try.prog 21 #[.int .i64 k, .slice a n c] w fun e w' => e = .returned (.int .i64 (chk k n : Int)) ∧ w = w' := by
  by_cases h1 : k < 0
  · have HC : Hid (chk k n = 2) := Lib.hid (by unfold chk; rw [if_pos (.inl h1)])
    go_enter Try.func21, Try.ntmps21
    go_wp2_with fail
    go_ret
    exact ⟨by rw [HC.out]; rfl, rfl⟩
  · by_cases h2 : 255 < k
    · have HC : Hid (chk k n = 2) := Lib.hid (by unfold chk; rw [if_pos (.inr h2)])
      go_enter Try.func21, Try.ntmps21
      go_wp2_with fail
      go_ret
      exact ⟨by rw [HC.out]; rfl, rfl⟩
    · by_cases h3 : 16777216 < n
      · have HC : Hid (chk k n = 3) := Lib.hid (by unfold chk; rw [if_neg (by omega), if_pos h3])
        have h3' : (16777216 : Int) < (n : Int) := by omega
        go_enter Try.func21, Try.ntmps21
        go_wp2_with fail
        go_ret
        exact ⟨by rw [HC.out]; rfl, rfl⟩
      · have HC : Hid (chk k n = 0) := Lib.hid (by unfold chk; rw [if_neg (by omega), if_neg h3])
        have h3' : ¬ (16777216 : Int) < (n : Int) := by omega
        go_enter Try.func21, Try.ntmps21
        go_wp2_with fail
        go_ret
        exact ⟨by rw [HC.out]; rfl, rfl⟩
/-- A header's cells. -/
def hdv (k n : Nat) : Array Value := #[.int .u8 ((b8 k).toNat : Int), .int .u8 ((b8 (n / 16777216)).toNat : Int), .int .u8 ((b8 (n / 65536)).toNat : Int), .int .u8 ((b8 (n / 256)).toNat : Int), .int .u8 ((b8 n).toNat : Int)]
theorem hdv_bytes (k n : Nat) : (hdv k n).toList = (hd k n).map fun c => Value.int .u8 (c.toNat : Int) := rfl
theorem frame_header (k n : Nat) (w : World) (hk : k ≤ 255) (hn : n ≤ 16777216) : Calls Try.prog 22 #[.int .i64 (k : Int), .int .i64 (n : Int)] w fun e w' => e = .returned (.agg (hdv k n)) ∧ Below w.heap.size w w' := by
  have e0 : (k : Int) = ((b8 k).toNat : Int) := by rw [← b8_int]; omega
  have e1 : (n : Int) / 16777216 = ((b8 (n / 16777216)).toNat : Int) := by rw [← b8_24]; omega
  have e2 := b8_16 n
  have e3 := b8_8 n
  have e4 := b8_int n
  have HE := Lib.hid (And.intro e0 (And.intro e1 (And.intro e2 (And.intro e3 e4))))
  clear e0 e1 e2 e3 e4
  go_enter Try.func22, Try.ntmps22
  go_wp2_with fail
  refine bodyPost_ret (v := .agg #[.int .u8 (k : Int), .int .u8 ((n : Int) / 16777216), .int .u8 ((n : Int) / 65536 % 256), .int .u8 ((n : Int) / 256 % 256), .int .u8 ((n : Int) % 256)]) (by simp [results, Try.results22, go_sem]) rfl ⟨?_, below_new _ _⟩
  obtain ⟨e0, e1, e2, e3, e4⟩ := HE.out
  unfold hdv
  rw [e1, e2, e3, e4, ← e0]
theorem frm_shift (x : Crc.W) : (x.toNat : Int) / 16777216 % 256 = ((b8 (x.toNat / 16777216)).toNat : Int) ∧ (x.toNat : Int) / 65536 % 256 = ((b8 (x.toNat / 65536)).toNat : Int) ∧ (x.toNat : Int) / 256 % 256 = ((b8 (x.toNat / 256)).toNat : Int) ∧ (x.toNat : Int) % 256 = ((b8 x.toNat).toNat : Int) ∧ (x.toNat : Int) / 16777216 = ((b8 (x.toNat / 16777216)).toNat : Int) :=
  ⟨b8_24 _, b8_16 _, b8_8 _, b8_int _, by rw [← b8_24]; have := x.isLt; omega⟩
set_option maxHeartbeats 400000 in
theorem frame_Put (k : Nat) (body : List UInt8) (a : Option Addr) (cap : Nat) (w : World) (hk : k ≤ 255) (hb : BytesAt w a body) (hn : body.length ≤ 16777216) :
    Calls Try.prog 13 #[.int .i64 (k : Int), .slice a body.length cap] w fun e w' => ∃ v, e = .returned (.tuple #[v, .int .i64 0]) ∧ w'.ownsRow w.heap.size 5 1 v (frameF k body).length (bvs (frameF k body)) ∧ Below w.heap.size w w' := by
  have HB := Lib.hid hb; clear hb
  have hck : Hid (chk (k : Int) body.length = 0) := Lib.hid (by unfold chk; rw [if_neg (by omega), if_neg (by omega)])
  go_enter Try.func13, Try.ntmps13
  go_wp2_with fail
  refine (frame_check _ _ _ _ _ (by omega)).mono ?_
  rintro e w1 ⟨rfl, rfl⟩
  rw [hck.out]
  go_wp2_with fail
  refine (frame_header k body.length _ hk hn).mono ?_
  rintro e w2 ⟨rfl, hb⟩
  have HB2 := Lib.hid hb; clear hb
  unfold hdv
  have HX : Hid (BytesAt (w2.alloc (.cells (hdv k body.length) 54)) (some ⟨w2.heap.size, 0, none⟩) (hd k body.length)) := Lib.hid (BytesAt.fresh w2 _ (0, 0) (hd k body.length) _ (hdv_bytes k body.length))
  have HSX : Hid ((w2.alloc (.cells (hdv k body.length) 54)).heap.size = w2.heap.size + 1) := Lib.hid (by simp)
  have HD : Hid (Below w.heap.size w (w2.alloc (.cells (hdv k body.length) 54))) := Lib.hid (HB2.out.alloc HB2.out.size _)
  unfold hdv at HX HSX HD
  go_wp2_with fail
  generalize w2.alloc (.cells #[.int .u8 ((b8 k).toNat : Int), .int .u8 ((b8 (body.length / 16777216)).toNat : Int), .int .u8 ((b8 (body.length / 65536)).toNat : Int), .int .u8 ((b8 (body.length / 256)).toNat : Int), .int .u8 ((b8 body.length).toNat : Int)] 54) = w3 at *
  have HC : Hid (Chain [w3, w] w3) := Lib.hid (((Chain.one w).next HD.out (by simp)).push (Below.refl _ _))
  rw [← HSX.out]
  refine (crc_Sum [hd k body.length, body] _ _ _ _ (lists2 rfl rfl rfl (by simp [hd]) (by omega) (HX.out.below (below_new _ _) rfl) ((HB.out.below HD.out rfl).below (below_new _ _) rfl)) rfl (by simp)).mono ?_
  rintro e w4 ⟨rfl, hb⟩
  replace HC := Lib.hid (HC.out.next ((below_new _ _).trans (hb.mono (by simp))) (by simp)); clear hb
  obtain ⟨x, hx⟩ : ∃ x, x = Crc.sum [hd k body.length, body].flatten := ⟨_, rfl⟩
  rw [← hx]
  have HXS : Hid (x = Crc.sum (hd k body.length ++ body)) := Lib.hid (by rw [hx]; simp)
  clear hx
  have hsh := Lib.hid (frm_shift x)
  have hxl : (x.toNat : Int) < 4294967296 := by have := x.isLt; omega
  go_wp2_with fail
  obtain ⟨_, h16, h8, h1, h24⟩ := hsh.out
  rw [h24, h16, h8, h1]
  clear h24 h16 h8 h1 hsh
  have HX5 : Hid (BytesAt (w4.alloc (.cells #[.int .u8 ((b8 (x.toNat / 16777216)).toNat : Int), .int .u8 ((b8 (x.toNat / 65536)).toNat : Int), .int .u8 ((b8 (x.toNat / 256)).toNat : Int), .int .u8 ((b8 x.toNat).toNat : Int)] 5)) (some ⟨w4.heap.size, 0, none⟩) (be4 x)) := Lib.hid (BytesAt.fresh w4 _ (0, 0) (be4 x) _ rfl)
  have HS5 : Hid ((w4.alloc (.cells #[.int .u8 ((b8 (x.toNat / 16777216)).toNat : Int), .int .u8 ((b8 (x.toNat / 65536)).toNat : Int), .int .u8 ((b8 (x.toNat / 256)).toNat : Int), .int .u8 ((b8 x.toNat).toNat : Int)] 5)).heap.size = w4.heap.size + 1) := Lib.hid (by simp)
  replace HC := Lib.hid (HC.out.next (below_new w4 (.cells #[.int .u8 ((b8 (x.toNat / 16777216)).toNat : Int), .int .u8 ((b8 (x.toNat / 65536)).toNat : Int), .int .u8 ((b8 (x.toNat / 256)).toNat : Int), .int .u8 ((b8 x.toNat).toNat : Int)] 5)) (by simp))
  generalize w4.alloc (.cells #[.int .u8 ((b8 (x.toNat / 16777216)).toNat : Int), .int .u8 ((b8 (x.toNat / 65536)).toNat : Int), .int .u8 ((b8 (x.toNat / 256)).toNat : Int), .int .u8 ((b8 x.toNat).toNat : Int)] 5) = w5 at *
  rw [← HS5.out]
  refine (wire_Join [hd k body.length, be4 x, body] _ _ _ _ (lists3 rfl rfl rfl rfl (by simp [hd]) (by simp [be4]) (by omega) ((HX.out.below (HC.out.to w3 (by simp)) rfl).below (below_new _ _) rfl) (HX5.out.below (below_new _ _) rfl) ((HB.out.below (HC.out.to w (by simp)) rfl).below (below_new _ _) rfl)) rfl (by simp) (by simp [hd, be4]; omega)).mono ?_
  rintro e w6 ⟨v, rfl, ho, hb⟩
  rw [show [hd k body.length, be4 x, body].flatten = frameF k body by rw [HXS.out]; simp [frameF]] at ho
  have HO := Lib.hid ho; clear ho
  have HZ0 := Lib.hid (HC.out.to w (by simp)).size
  replace HC := Lib.hid (HC.out.to w (by simp) |>.trans (((below_new _ _).trans (hb.mono (by simp))).mono (HC.out.to w (by simp)).size))
  have HZ : Hid (w.heap.size ≤ (w5.alloc (.cells #[.slice (some ⟨w2.heap.size, 0, none⟩) 5 5, .slice (some ⟨w4.heap.size, 0, none⟩) 4 4, .slice a body.length cap] 22)).heap.size) := Lib.hid (by have := HZ0.out; simp; omega)
  clear hb
  go_wp2_with fail
  go_ret2
  exact ⟨_, rfl, own_mono HO.out HZ.out, HC.out⟩
theorem frame_Put_no (k : Int) (a : Option Addr) (n cap : Nat) (w : World) (hn : n ≤ 1099511627776) (hc : chk k n ≠ 0) :
    Calls Try.prog 13 #[.int .i64 k, .slice a n cap] w fun e w' => e = .returned (.tuple #[.slice none 0 0, .int .i64 (chk k n : Int)]) ∧ w = w' := by
  obtain ⟨c, hcc⟩ : ∃ c, c = chk k n := ⟨_, rfl⟩
  rw [← hcc] at hc ⊢
  have HCC := Lib.hid hcc; clear hcc
  have hne : (((c : Nat) : Int) == 0) = false := by simp; omega
  have hne2 : (((c : Nat) : Int) != 0) = true := by simp; omega
  go_enter Try.func13, Try.ntmps13
  go_wp2_with fail
  refine (frame_check _ _ _ _ _ hn).mono ?_
  rintro e w1 ⟨rfl, rfl⟩
  rw [← HCC.out]
  go_wp2_with fail
  go_ret2
  exact ⟨rfl, rfl⟩
end Go.Proofs.Ytpbjhfajekfjeaa

