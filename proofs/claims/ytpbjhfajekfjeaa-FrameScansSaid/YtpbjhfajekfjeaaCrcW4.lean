
/- Walks: the program's run. -/
import Derived.Test.YtpbjhfajekfjeaaCrcW3
namespace Go.Proofs.Ytpbjhfajekfjeaa
open Go.RowKit Crc
namespace Crc
def lo4 (y : W) : Nat := y.toNat % 16
theorem lo4_lt (y : W) : lo4 y < 16 := Nat.mod_lt _ (by decide)
theorem lo4_int (y : W) : bits .and .u32 (y.toNat : Int) 15 = (lo4 y : Int) := by
  rw [show (15 : Int) = ((15 : Nat) : Int) from rfl, u32_and_nat _ _ y.isLt (by decide), nat_mask4]; rfl
theorem tb_lo4 (y : W) : tb (lo4 y) = nib (y &&& 15#32) := by
  unfold tb
  congr 1
  apply BitVec.eq_of_toNat_eq
  rw [BitVec.toNat_ofNat, BitVec.toNat_and, show (15#32).toNat = 15 from rfl, nat_mask4]
  have := lo4_lt y
  rw [Nat.mod_eq_of_lt (by omega)]; rfl
theorem nib_int (y : W) : bits .xor .u32 ((y.toNat : Int) / 16) ((tb (lo4 y)).toNat : Int) = ((nib y).toNat : Int) := by
  have e := shr_int y 4
  rw [show ((2 ^ 4 : Nat) : Int) = 16 from rfl] at e
  rw [e, xor_int, nib_table, tb_lo4]
end Crc
set_option maxHeartbeats 400000 in
theorem crc_run (n : Int) (x : W) (l : List UInt8) (a : Option Addr) (len cap : Nat) (w : World) (hn : n = x.toNat) (hl : BytesAt w a l) (hlen : len = l.length) (hm : l.length ≤ 9223372036854775807) :
    Calls Try.prog 28 #[.int .u32 n, .slice a len cap] w fun e w' => e = .returned (.int .u32 (runl x l).toNat) ∧ Below w.heap.size w w' := by
  subst hn hlen
  go_enter Try.func28, Try.ntmps28
  have H := Lib.hid hl; clear hl
  go_wp2_with fail
  refine (crc_half _).mono ?_
  rintro e w1 ⟨rfl, hb⟩
  go_wp2_with (refine wpList_store_row rfl 64 (.tmp 5) (.tmp 8) rfl w1.heap.size _ rfl rfl 64 _ (heap_alloc_new _ _) (by rw [wrow_size]; kernel_rfl) (by rw [wrow_size]; rfl) (wrow_one _ _) ?_)
  have hrow := setRow_heap _ _ _ (wrow tb 16) _ _ (heap_alloc_new w1 (Obj.cells (List.replicate 16 (Value.int .u32 0)).toArray 64))
  have hb2 := below_setRow (hb.alloc hb.size (Obj.cells (List.replicate 16 (Value.int .u32 0)).toArray 64)) hb.size (wrow tb 16)
  have hl2 := H.out.below hb2 rfl
  clear H
  change RowAt _ _ _ _ _ at hrow
  simp only [List.replicate_succ, List.replicate_zero] at hrow hb2 hl2
  generalize World.setRow _ _ _ = W2 at *
  have HB := Lib.hid hb2; clear hb2
  have HL := Lib.hid hl2; clear hl2
  clear hb
  have HR := Lib.hid hrow; clear hrow
  generalize w1.heap.size = g at *
  go_loop [0, 11] (fun s i => ∃ k : Nat, k ≤ l.length ∧ i = .int .i64 k ∧ s = .int .u32 (runl x (l.take k)).toNat) (fun _ i => l.length - (intOf i).toNat)
  case atStart => exact ⟨0, by omega, rfl, rfl⟩
  case round =>
    obtain ⟨k, hk, rfl, rfl⟩ := hrel
    by_cases hlt : k < l.length
    · have HS := Lib.hid (runl_take_succ x l k hlt)
      obtain ⟨b, off, rfl, hc⟩ := HL.out k hlt
      have hbt := l[k].toNat_lt
      generalize runl x (l.take k) = y at *
      generalize l[k] = c at *
      have e1 := xor_byte_int y c
      have e2 := lo4_int (y ^^^ byte c)
      have b2 := lo4_lt (y ^^^ byte c)
      have c2 := HR.out.cell _ b2
      have e3 := nib_int (y ^^^ byte c)
      have e4 := lo4_int (nib (y ^^^ byte c))
      have b4 := lo4_lt (nib (y ^^^ byte c))
      have c4 := HR.out.cell _ b4
      have e5 := nib_int (nib (y ^^^ byte c))
      rw [← step_nib] at e5
      have hy1 := (y ^^^ byte c).isLt
      have hy2 := (nib (y ^^^ byte c)).isLt
      generalize y ^^^ byte c = y1 at *
      generalize Crc.step y1 = y3 at *
      generalize nib y1 = y2 at *
      generalize lo4 y1 = i1 at *
      generalize lo4 y2 = i2 at *
      go_wp2_with fail
      go_round
      case rel => exact ⟨k + 1, by omega, by go_num, u32_eq (by rw [HS.out])⟩
      case measure => simp [intOf]; omega
    · obtain rfl : k = l.length := by omega
      go_wp2_with fail
      go_ret
      exact ⟨rfl, HB.out⟩

theorem Crc.not_int' (x : W) : bits .xor .u32 IntKind.u32.max (x.toNat : Int) = ((~~~ x).toNat : Int) := by
  rw [show IntKind.u32.max = ((4294967295#32).toNat : Int) from rfl, xor_int]
  have e : 4294967295#32 ^^^ x = ~~~ x := by
    rw [show (4294967295#32 : W) = BitVec.allOnes 32 from by decide, BitVec.allOnes_xor]
  rw [e]
namespace Crc
def runs (s : W) (ll : List (List UInt8)) : W := ll.foldl runl s
theorem runs_flat (s : W) (ll : List (List UInt8)) : runs s ll = runl s ll.flatten := by
  induction ll generalizing s with
  | nil => rfl
  | cons l ll ih => rw [List.flatten_cons, runl_append]; exact ih _
theorem runs_take_succ (s : W) (ll : List (List UInt8)) (k : Nat) (h : k < ll.length) : runs s (ll.take (k + 1)) = runl (runs s (ll.take k)) ll[k] := by
  rw [List.take_succ_eq_append_getElem h]; simp only [runs, List.foldl_append, List.foldl_cons, List.foldl_nil]
theorem eq_int (x y : W) : ((x.toNat : Int) == (y.toNat : Int)) = (x == y) := by
  rw [Bool.eq_iff_iff]; simp only [beq_iff_eq, ← BitVec.toNat_inj]; omega
end Crc

theorem crc_Sum (ll : List (List UInt8)) (a : Option Addr) (len cap : Nat) (w : World) (hl : ListsAt w a ll) (hlen : len = ll.length) (hm : ll.length ≤ 9223372036854775807) :
    Calls Try.prog 23 #[.slice a len cap] w fun e w' => e = .returned (.int .u32 (Crc.sum ll.flatten).toNat) ∧ Below w.heap.size w w' := by
  subst hlen
  go_enter Try.func23, Try.ntmps23
  have H := Lib.hid hl; clear hl
  go_wp2_with fail
  go_loopw [3, 8] (fun s i wr => ∃ k : Nat, k ≤ ll.length ∧ i = .int .i64 k ∧ s = .int .u32 (runs (4294967295#32) (ll.take k)).toNat ∧ Below w.heap.size w wr) (fun _ i _ => ll.length - (intOf i).toNat)
  case atStart => exact ⟨0, by omega, rfl, rfl, Below.refl _ _⟩
  case round =>
    rename_i wr _
    obtain ⟨k, hk, rfl, rfl, hb⟩ := hrel
    have HB := Lib.hid hb; clear hb
    by_cases hlt : k < ll.length
    · have HS := Lib.hid (runs_take_succ (4294967295#32) ll k hlt)
      obtain ⟨b, off, a', cap', rfl, hc, hl, hm'⟩ := (H.out.below HB.out rfl) k hlt
      have HL := Lib.hid hl; clear hl
      generalize runs (4294967295#32) (ll.take k) = y at *
      generalize ll[k] = l at *
      go_wp2_with fail
      refine (crc_run _ y l _ _ _ _ rfl HL.out rfl hm').mono ?_
      rintro e w1 ⟨rfl, hb⟩
      have HB1 := Lib.hid (HB.out.trans (hb.mono HB.out.size)); clear hb
      go_wp2_with fail
      go_roundw
      case rel => exact ⟨k + 1, by omega, by go_num, u32_eq (by rw [HS.out]), HB1.out⟩
      case measure => simp [intOf]; omega
    · obtain rfl : k = ll.length := by omega
      have hy := (runs (4294967295#32) ll).isLt
      have e : (~~~ runs (4294967295#32) ll) = Crc.sum ll.flatten := by
        rw [runs_flat]; rfl
      have E := Lib.hid e; clear e
      go_wp2_with fail
      go_ret
      exact ⟨ret_u32 (by rw [← E.out]; exact not_int' _), HB.out⟩

end Go.Proofs.Ytpbjhfajekfjeaa
