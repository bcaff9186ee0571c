
/- Walks: the other writers. -/
import Derived.Test.YtpbjhfajekfjeaaWireW1
import Derived.Maps.AppendAt
import Derived.OwnWalk
namespace Go.Proofs.Ytpbjhfajekfjeaa
open Go.RowKit Wire
theorem u64_wrap (n : Int) : IntKind.u64.wrap n = n % 18446744073709551616 := by simp [IntKind.wrap, IntKind.bits, IntKind.signed]
theorem xor_ones (a : Nat) (h : a < 18446744073709551616) : bits .xor .u64 (a : Int) 18446744073709551615 = ((18446744073709551615 - a : Nat) : Int) := by
  rw [show (18446744073709551615 : Int) = ((18446744073709551615 : Nat) : Int) from rfl, u64_xor_nat _ _ h (by decide)]
  have e : (BitVec.ofNat 64 a ^^^ BitVec.allOnes 64) = ~~~ (BitVec.ofNat 64 a) := BitVec.xor_allOnes
  have e2 := congrArg BitVec.toNat e
  rw [BitVec.toNat_xor, BitVec.toNat_not, BitVec.toNat_ofNat, BitVec.toNat_allOnes, Nat.mod_eq_of_lt (by omega)] at e2
  have e3 : a ^^^ 18446744073709551615 = 18446744073709551615 - a := e2
  rw [e3]
theorem fold_bits (n : Int) (h1 : -9223372036854775808 ≤ n) (h2 : n ≤ 9223372036854775807) :
    bits .xor .u64 (IntKind.u64.wrap (IntKind.u64.wrap n * 2)) (IntKind.u64.wrap (n / 9223372036854775808)) = ((Wire.fold n : Nat) : Int) := by
  rw [u64_wrap, u64_wrap, u64_wrap]
  by_cases h : n < 0
  · have e1 : n % 18446744073709551616 * 2 % 18446744073709551616 = (((2 * n + 18446744073709551616).toNat : Nat) : Int) := by omega
    have e2 : n / 9223372036854775808 % 18446744073709551616 = 18446744073709551615 := by omega
    rw [e1, e2, xor_ones _ (by omega)]
    unfold Wire.fold
    rw [if_pos h]; omega
  · have e1 : n % 18446744073709551616 * 2 % 18446744073709551616 = (((2 * n).toNat : Nat) : Int) := by omega
    have e2 : n / 9223372036854775808 % 18446744073709551616 = ((0 : Nat) : Int) := by omega
    rw [e1, e2, u64_xor_nat _ _ (by omega) (by decide), Nat.xor_zero]
    unfold Wire.fold
    rw [if_neg h]; omega
theorem u64_ret {a b : Int} (h : a = b) : Ending.returned (.int .u64 a) = .returned (.int .u64 b) := by rw [h]
theorem join_take_succ (ll : List (List UInt8)) (k : Nat) (h : k < ll.length) : (ll.take (k + 1)).flatten = (ll.take k).flatten ++ ll[k] := by
  rw [List.take_succ_eq_append_getElem h]; simp only [List.flatten_append, List.flatten_cons, List.flatten_nil, List.append_nil]
theorem join_take_le (ll : List (List UInt8)) (k : Nat) : (ll.take k).flatten.length ≤ ll.flatten.length := by
  conv => rhs; rw [← List.take_append_drop k ll]
  rw [List.flatten_append, List.length_append]; omega
set_option maxHeartbeats 400000 in
theorem wire_Join (ll : List (List UInt8)) (a : Option Addr) (len cap : Nat) (w : World) (hl : ListsAt w a ll) (hlen : len = ll.length) (hm : ll.length ≤ 9223372036854775807) (hsum : ll.flatten.length ≤ 70368744177664) :
    Calls Try.prog 24 #[.slice a len cap] w (GivesB w ll.flatten) := by
  subst hlen
  have BT := Lib.hid byteT
  have HL := Lib.hid hl; clear hl
  go_enter Try.func24, Try.ntmps24
  go_wp2_with fail
  go_loopw [3, 9] (fun v i wr => ∃ k : Nat, k ≤ ll.length ∧ i = .int .i64 k ∧ wr.ownsRow w.heap.size 5 1 v (ll.take k).flatten.length (bvs (ll.take k).flatten) ∧ Below w.heap.size w wr) (fun _ i _ => ll.length - (intOf i).toNat)
  case atStart => exact ⟨0, by omega, rfl, own_new w _ 5 [] (Nat.le_refl _) (by simp), below_new _ _⟩
  case round =>
    obtain ⟨k, hk, rfl, hown, hb⟩ := hrel
    have HO := Lib.hid hown; clear hown
    have HB := Lib.hid hb; clear hb
    by_cases hlt : k < ll.length
    · obtain ⟨b, off, a', cap', rfl, hc, hla, hlm⟩ := (HL.out.below HB.out rfl) k hlt
      have HLA := Lib.hid hla; clear hla
      have HF := Lib.hid (join_take_succ ll k hlt)
      have h1 := join_take_le ll (k + 1)
      have h2 : (ll.take k).flatten.length + ll[k].length ≤ 70368744177664 := by rw [HF.out, List.length_append] at h1; omega
      clear h1
      have HBS := Lib.hid HB.out.size
      go_wp2_with (at_builtin; refine wpList_appb rfl _ _ 22 22 rfl w.heap.size 5 BT.out u3 (ll.take k).flatten rfl HO.out _ ll[k] rfl (HLA.out.src Try.underlying22 cap') h2 HBS.out ?_; intro v' w1 hown1 _ hbel1 _)
      rw [← HF.out] at hown1
      have HO1 := Lib.hid hown1; clear hown1
      have HB1 := Lib.hid (HB.out.trans hbel1); clear hbel1
      go_wp2_with fail
      go_roundw
      case rel => exact ⟨k + 1, by omega, by go_num, HO1.out, HB1.out⟩
      case measure => simp [intOf]; omega
    · obtain rfl : k = ll.length := by omega
      have HO1 : Hid (wr.ownsRow w.heap.size 5 1 u3 ll.flatten.length (bvs ll.flatten)) := Lib.hid (by have := HO.out; rwa [List.take_length] at this)
      clear HO
      go_wp2_with fail
      go_ret
      exact ⟨_, rfl, HO1.out, HB.out⟩
theorem grown_step {w wr w1 : World} {vb vr : Option Nat} (h : w.grownBy wr vb) (hg : wr.grownBy w1 vr) (hv : vr = vb ∨ ∀ k, vr = some k → w.heap.size ≤ k) : w.grownBy w1 vb := by
  refine ⟨hg.os.trans h.os, hg.tape.trans h.tape, hg.output.trans h.output, Nat.le_trans h.size hg.size, fun k hk hne => ?_⟩
  rw [hg.block k (Nat.lt_of_lt_of_le hk h.size) (fun e => ?_)]
  · exact h.block k hk hne
  · rcases hv with hv | hv
    · exact hne (e.trans hv)
    · have := hv k e.symm; omega
theorem grown_new {w wr : World} {vb : Option Nat} (h : w.grownBy wr vb) (o : Obj) : w.grownBy (wr.alloc o) vb :=
  ⟨h.os, h.tape, h.output, by have := h.size; simp; omega, fun k hk hne => by rw [Below.heap_alloc _ _ _ (Nat.lt_of_lt_of_le hk h.size)]; exact h.block k hk hne⟩
end Go.Proofs.Ytpbjhfajekfjeaa
