/- Walks: the other writers. -/
import Derived.Test.YtbgnkdbbkkoinaaWireW1
import Derived.Maps.AppendAt
import Derived.OwnWalk
namespace Go.Proofs.Ytbgnkdbbkkoinaa
open Go.RowKit Wire
set_option maxHeartbeats 400000 in
theorem ref_Number (x : Int) (n : Nat) (w : World) (hx : x = n) (hn : n < 18446744073709551616) :
    Calls Try.prog 12 #[.int .u64 x] w (GivesB w (enc n)) := by
  subst hx
  have BT := Lib.hid byteT
  go_enter Try.func12, Try.ntmps12
  go_wp2_with fail
  go_loopw [0, 3] (fun x v wr => ∃ (r m : Nat) (pre : List UInt8), x = .int .u64 m ∧ m < 2 * 128 ^ r ∧ r ≤ 9 ∧ pre.length + r = 9 ∧ pre ++ encF (r + 1) m = enc n ∧ wr.ownsRow w.heap.size 5 1 v pre.length (bvs pre) ∧ Below w.heap.size w wr) (fun x _ _ => (intOf x).toNat)
  case atStart => exact ⟨9, n, [], rfl, by omega, by omega, rfl, rfl, World.ownsRow_nil _ _ _ _, Below.refl _ _⟩
  case round =>
    obtain ⟨r, m, pre, rfl, hm, hr, hpr, henc, hown, hb⟩ := hrel
    have HO := Lib.hid hown; clear hown
    have HB := Lib.hid hb; clear hb
    have HE := Lib.hid henc; clear henc
    have hm64 : m < 18446744073709551616 := by
      have : 128 ^ r ≤ 128 ^ 9 := Nat.pow_le_pow_right (by decide) hr
      omega
    have HM := Lib.hid hm; clear hm
    have HBS := Lib.hid HB.out.size
    by_cases h127 : 127 < m
    · obtain ⟨r', rfl⟩ : ∃ r', r = r' + 1 := by
        cases r with
        | zero => have := HM.out; omega
        | succ r' => exact ⟨r', rfl⟩
      go_wp2_with (at_builtin; refine wpList_appb rfl _ _ 23 23 rfl w.heap.size 5 BT.out u3 pre rfl (HO.out.alloc _) _ [UInt8.ofNat (m % 128 + 128)] rfl (src_one Try.underlying23 wr 5 (UInt8.ofNat (m % 128 + 128)) _ (digit_sum' m)) (by simp; omega) (by have := HBS.out; simp; omega) ?_; intro v' w1 hown1 _ hbel1 _)
      have HO1 := Lib.hid hown1; clear hown1
      have HB1 := Lib.hid ((HB.out.alloc HB.out.size (.cells #[.int .u8 ((m : Int) % 128 + 128)] 5)).trans hbel1); clear hbel1
      have hmm : m / 128 < m := by omega
      have HM1 : Hid (m / 128 < 2 * 128 ^ r') := Lib.hid (by have := HM.out; rw [Nat.pow_succ] at this; omega)
      go_wp2_with fail
      go_roundw
      case rel => exact ⟨r', m / 128, pre ++ [UInt8.ofNat (m % 128 + 128)], by go_num, HM1.out, by omega, by simp; omega, by rw [← HE.out, encF_step _ _ h127]; simp, HO1.out, HB1.out⟩
      case measure => simp [intOf]; omega
    · go_wp2_with (at_builtin; refine wpList_appb rfl _ _ 23 23 rfl w.heap.size 5 BT.out u3 pre rfl (HO.out.alloc _) _ [UInt8.ofNat m] rfl (src_one Try.underlying23 wr 5 (UInt8.ofNat m) _ (digit_last' m h127)) (by simp; omega) (by have := HBS.out; simp; omega) ?_; intro v' w1 hown1 _ hbel1 _)
      have HB1 := Lib.hid ((HB.out.alloc HB.out.size (.cells #[.int .u8 (m : Int)] 5)).trans hbel1); clear hbel1
      rw [show pre ++ [UInt8.ofNat m] = enc n from by rw [← HE.out, encF_last _ _ h127]] at hown1
      have HO1 := Lib.hid hown1; clear hown1
      go_wp2_with fail
      go_ret
      exact ⟨_, rfl, HO1.out, HB1.out⟩
theorem u64_wrap (n : Int) : IntKind.u64.wrap n = n % 18446744073709551616 := by simp [IntKind.wrap, IntKind.bits, IntKind.signed]
theorem xor_ones (a : Nat) (h : a < 18446744073709551616) : bits .xor .u64 (a : Int) 18446744073709551615 = ((18446744073709551615 - a : Nat) : Int) := by
  rw [show (18446744073709551615 : Int) = ((18446744073709551615 : Nat) : Int) from rfl, u64_xor_nat _ _ h (by decide)]
  have e : (BitVec.ofNat 64 a ^^^ BitVec.allOnes 64) = ~~~ (BitVec.ofNat 64 a) := BitVec.xor_allOnes
  have e2 := congrArg BitVec.toNat e
  rw [BitVec.toNat_xor, BitVec.toNat_not, BitVec.toNat_ofNat, BitVec.toNat_allOnes, Nat.mod_eq_of_lt (by omega)] at e2
  have e3 : a ^^^ 18446744073709551615 = 18446744073709551615 - a := e2
  rw [e3]
theorem fold_bits (n : Int) (h1 : -9223372036854775808 ≤ n) (h2 : n ≤ 9223372036854775807) :
    bits .xor .u64 (IntKind.u64.wrap (IntKind.u64.wrap n * 2)) (IntKind.u64.wrap (n / 9223372036854775808)) = ((Wire.fold n : Nat) : Int) := by
  rw [u64_wrap, u64_wrap, u64_wrap]
  by_cases h : n < 0
  · have e1 : n % 18446744073709551616 * 2 % 18446744073709551616 = (((2 * n + 18446744073709551616).toNat : Nat) : Int) := by omega
    have e2 : n / 9223372036854775808 % 18446744073709551616 = 18446744073709551615 := by omega
    rw [e1, e2, xor_ones _ (by omega)]
    unfold Wire.fold
    rw [if_pos h]; omega
  · have e1 : n % 18446744073709551616 * 2 % 18446744073709551616 = (((2 * n).toNat : Nat) : Int) := by omega
    have e2 : n / 9223372036854775808 % 18446744073709551616 = ((0 : Nat) : Int) := by omega
    rw [e1, e2, u64_xor_nat _ _ (by omega) (by decide), Nat.xor_zero]
    unfold Wire.fold
    rw [if_neg h]; omega
theorem wire_Signed (n : Int) (w : World) (h1 : -9223372036854775808 ≤ n) (h2 : n ≤ 9223372036854775807) :
    Calls Try.prog 13 #[.int .i64 n] w (GivesB w (enc (Wire.fold n))) := by
  go_enter Try.func13, Try.ntmps13
  go_wp2_with fail
  have hf := fold_lt n h1 h2
  refine (wire_Number _ (Wire.fold n) _ (fold_bits n h1 h2) (by omega)).mono ?_
  rintro e w1 ⟨v, rfl, hown, hb⟩
  have HO := Lib.hid hown; clear hown
  have HB := Lib.hid hb; clear hb
  go_wp2_with fail
  go_ret
  exact ⟨_, rfl, HO.out, HB.out⟩
theorem u64_ret {a b : Int} (h : a = b) : Ending.returned (.int .u64 a) = .returned (.int .u64 b) := by rw [h]
theorem ref_Folded (n : Int) (w : World) (h1 : -9223372036854775808 ≤ n) (h2 : n ≤ 9223372036854775807) :
    Calls Try.prog 37 #[.int .i64 n] w fun e w' => e = .returned (.int .u64 (Wire.fold n : Nat)) ∧ w = w' := by
  by_cases h : n < 0
  · go_enter Try.func37, Try.ntmps37
    go_wp2_with fail
    go_ret
    exact ⟨u64_ret (by unfold Wire.fold; rw [if_pos h]; omega), rfl⟩
  · go_enter Try.func37, Try.ntmps37
    go_wp2_with fail
    go_ret
    exact ⟨u64_ret (by unfold Wire.fold; rw [if_neg (by omega)]; omega), rfl⟩
theorem ref_Signed (n : Int) (w : World) (h1 : -9223372036854775808 ≤ n) (h2 : n ≤ 9223372036854775807) :
    Calls Try.prog 14 #[.int .i64 n] w (GivesB w (enc (Wire.fold n))) := by
  have hf := fold_lt n h1 h2
  go_enter Try.func14, Try.ntmps14
  go_wp2_with fail
  refine (ref_Folded n _ h1 h2).mono ?_
  rintro e w1 ⟨rfl, rfl⟩
  go_wp2_with fail
  refine (ref_Number _ (Wire.fold n) _ rfl (by omega)).mono ?_
  rintro e w1 ⟨v, rfl, hown, hb⟩
  have HO := Lib.hid hown; clear hown
  have HB := Lib.hid hb; clear hb
  go_wp2_with fail
  go_ret
  exact ⟨_, rfl, HO.out, HB.out⟩
theorem wire_Flag (b : Bool) (w : World) : Calls Try.prog 15 #[.bool b] w (GivesB w [if b then 1 else 0]) := by
  cases b
  · go_enter Try.func15, Try.ntmps15
    go_wp2_with fail
    go_ret
    exact ⟨_, rfl, own_new w _ 5 [_] (Nat.le_refl _) (by decide), below_new _ _⟩
  · go_enter Try.func15, Try.ntmps15
    go_wp2_with fail
    go_ret
    exact ⟨_, rfl, own_new w _ 5 [_] (Nat.le_refl _) (by decide), below_new _ _⟩
theorem ref_Flag (b : Bool) (w : World) : Calls Try.prog 16 #[.bool b] w (GivesB w [if b then 1 else 0]) := by
  cases b
  · go_enter Try.func16, Try.ntmps16
    go_wp2_with fail
    go_ret
    exact ⟨_, rfl, own_new w _ 5 [_] (Nat.le_refl _) (by decide), below_new _ _⟩
  · go_enter Try.func16, Try.ntmps16
    go_wp2_with fail
    go_ret
    exact ⟨_, rfl, own_new w _ 5 [_] (Nat.le_refl _) (by decide), below_new _ _⟩
theorem wire_Bytes (l : List UInt8) (a : Option Addr) (len cap : Nat) (w : World) (hl : BytesAt w a l) (hlen : len = l.length) (hm : l.length ≤ 35184372088832) :
    Calls Try.prog 8 #[.slice a len cap] w (GivesB w (enc l.length ++ l)) := by
  subst hlen
  have BT := Lib.hid byteT
  have HL := Lib.hid hl; clear hl
  have HE := enc_length l.length
  go_enter Try.func8, Try.ntmps8
  go_wp2_with fail
  refine (wire_Number _ l.length _ rfl (by omega)).mono ?_
  rintro e w1 ⟨v, rfl, hown, hb⟩
  have HO := Lib.hid hown; clear hown
  have HB := Lib.hid hb; clear hb
  have HBS := Lib.hid HB.out.size
  go_wp2_with (at_builtin; refine wpList_appb rfl _ _ 23 23 rfl w.heap.size 5 BT.out v (enc l.length) rfl HO.out _ l rfl ((HL.out.below HB.out rfl).src Try.underlying23 cap) (by omega) HBS.out ?_; intro v' w2 hown2 _ hbel2 _)
  have HO2 := Lib.hid hown2; clear hown2
  have HB2 := Lib.hid (HB.out.trans hbel2); clear hbel2
  go_wp2_with fail
  go_ret
  exact ⟨_, rfl, HO2.out, HB2.out⟩
theorem ref_Bytes (l : List UInt8) (a : Option Addr) (len cap : Nat) (w : World) (hl : BytesAt w a l) (hlen : len = l.length) (hm : l.length ≤ 35184372088832) :
    Calls Try.prog 11 #[.slice a len cap] w (GivesB w (enc l.length ++ l)) := by
  subst hlen
  have BT := Lib.hid byteT
  have HL := Lib.hid hl; clear hl
  have HE := enc_length l.length
  go_enter Try.func11, Try.ntmps11
  go_wp2_with fail
  refine (ref_Number _ l.length _ rfl (by omega)).mono ?_
  rintro e w1 ⟨v, rfl, hown, hb⟩
  have HO := Lib.hid hown; clear hown
  have HB := Lib.hid hb; clear hb
  have HBS := Lib.hid HB.out.size
  go_wp2_with (at_builtin; refine wpList_appb rfl _ _ 23 23 rfl w.heap.size 5 BT.out v (enc l.length) rfl HO.out _ l rfl ((HL.out.below HB.out rfl).src Try.underlying23 cap) (by omega) HBS.out ?_; intro v' w2 hown2 _ hbel2 _)
  have HO2 := Lib.hid hown2; clear hown2
  have HB2 := Lib.hid (HB.out.trans hbel2); clear hbel2
  go_wp2_with fail
  go_ret
  exact ⟨_, rfl, HO2.out, HB2.out⟩

theorem join_take_succ (ll : List (List UInt8)) (k : Nat) (h : k < ll.length) : (ll.take (k + 1)).flatten = (ll.take k).flatten ++ ll[k] := by
  rw [List.take_succ_eq_append_getElem h]; simp only [List.flatten_append, List.flatten_cons, List.flatten_nil, List.append_nil]
theorem join_take_le (ll : List (List UInt8)) (k : Nat) : (ll.take k).flatten.length ≤ ll.flatten.length := by
  conv => rhs; rw [← List.take_append_drop k ll]
  rw [List.flatten_append, List.length_append]; omega
set_option maxHeartbeats 400000 in
theorem wire_Join (ll : List (List UInt8)) (a : Option Addr) (len cap : Nat) (w : World) (hl : ListsAt w a ll) (hlen : len = ll.length) (hm : ll.length ≤ 9223372036854775807) (hsum : ll.flatten.length ≤ 70368744177664) :
    Calls Try.prog 10 #[.slice a len cap] w (GivesB w ll.flatten) := by
  subst hlen
  have BT := Lib.hid byteT
  have HL := Lib.hid hl; clear hl
  go_enter Try.func10, Try.ntmps10
  go_wp2_with fail
  go_loopw [3, 9] (fun v i wr => ∃ k : Nat, k ≤ ll.length ∧ i = .int .i64 k ∧ wr.ownsRow w.heap.size 5 1 v (ll.take k).flatten.length (bvs (ll.take k).flatten) ∧ Below w.heap.size w wr) (fun _ i _ => ll.length - (intOf i).toNat)
  case atStart => exact ⟨0, by omega, rfl, own_new w _ 5 [] (Nat.le_refl _) (by simp), below_new _ _⟩
  case round =>
    obtain ⟨k, hk, rfl, hown, hb⟩ := hrel
    have HO := Lib.hid hown; clear hown
    have HB := Lib.hid hb; clear hb
    by_cases hlt : k < ll.length
    · obtain ⟨b, off, a', cap', rfl, hc, hla, hlm⟩ := (HL.out.below HB.out rfl) k hlt
      have HLA := Lib.hid hla; clear hla
      have HF := Lib.hid (join_take_succ ll k hlt)
      have h1 := join_take_le ll (k + 1)
      have h2 : (ll.take k).flatten.length + ll[k].length ≤ 70368744177664 := by rw [HF.out, List.length_append] at h1; omega
      clear h1
      have HBS := Lib.hid HB.out.size
      go_wp2_with (at_builtin; refine wpList_appb rfl _ _ 23 23 rfl w.heap.size 5 BT.out u3 (ll.take k).flatten rfl HO.out _ ll[k] rfl (HLA.out.src Try.underlying23 cap') h2 HBS.out ?_; intro v' w1 hown1 _ hbel1 _)
      rw [← HF.out] at hown1
      have HO1 := Lib.hid hown1; clear hown1
      have HB1 := Lib.hid (HB.out.trans hbel1); clear hbel1
      go_wp2_with fail
      go_roundw
      case rel => exact ⟨k + 1, by omega, by go_num, HO1.out, HB1.out⟩
      case measure => simp [intOf]; omega
    · obtain rfl : k = ll.length := by omega
      have HO1 : Hid (wr.ownsRow w.heap.size 5 1 u3 ll.flatten.length (bvs ll.flatten)) := Lib.hid (by have := HO.out; rwa [List.take_length] at this)
      clear HO
      go_wp2_with fail
      go_ret
      exact ⟨_, rfl, HO1.out, HB.out⟩
theorem grown_step {w wr w1 : World} {vb vr : Option Nat} (h : w.grownBy wr vb) (hg : wr.grownBy w1 vr) (hv : vr = vb ∨ ∀ k, vr = some k → w.heap.size ≤ k) : w.grownBy w1 vb := by
  refine ⟨hg.os.trans h.os, hg.tape.trans h.tape, hg.output.trans h.output, Nat.le_trans h.size hg.size, fun k hk hne => ?_⟩
  rw [hg.block k (Nat.lt_of_lt_of_le hk h.size) (fun e => ?_)]
  · exact h.block k hk hne
  · rcases hv with hv | hv
    · exact hne (e.trans hv)
    · have := hv k e.symm; omega
theorem grown_new {w wr : World} {vb : Option Nat} (h : w.grownBy wr vb) (o : Obj) : w.grownBy (wr.alloc o) vb :=
  ⟨h.os, h.tape, h.output, by have := h.size; simp; omega, fun k hk hne => by rw [Below.heap_alloc _ _ _ (Nat.lt_of_lt_of_le hk h.size)]; exact h.block k hk hne⟩
/-- What spoil leaves: its argument's row may be another one. -/
theorem spoil_own (l : List UInt8) (v : Value) (w : World) (base : Nat) (hown : w.ownsRow base 5 1 v l.length (bvs l)) (hm : l.length ≤ 35184372088832) :
    Calls Try.prog 17 #[v] w fun e w' => e = .returned (.tuple #[]) ∧ w.grownBy w' v.ownBlock := by
  obtain ⟨a, cap, rfl, hle, hcm⟩ := own_slice hown
  have BT := Lib.hid byteT
  have HO : Hid (w.ownsRow 0 5 1 (.slice a l.length cap) l.length (bvs l)) := Lib.hid (own_mono hown (Nat.zero_le _)); clear hown
  go_enter Try.func17, Try.ntmps17
  go_wp2_with fail
  go_loopw [2] (fun i wr => ∃ (k : Nat) (m : List UInt8), k ≤ l.length ∧ i = .int .i64 k ∧ m.length = l.length ∧ wr.ownsRow 0 5 1 (.slice a l.length cap) l.length (bvs m) ∧ w.grownBy wr (Value.ownBlock (.slice a l.length cap))) (fun i _ => l.length - (intOf i).toNat)
  case atStart => exact ⟨0, l, by omega, rfl, rfl, HO.out, World.grownBy.refl _ _⟩
  case round =>
    clear HO
    obtain ⟨k, m, hk, rfl, hml, hown, hb⟩ := hrel
    have HO := Lib.hid hown; clear hown
    have HB := Lib.hid hb; clear hb
    have HML := Lib.hid hml; clear hml
    by_cases hlt : k < l.length
    · obtain ⟨g, cap', hv, hg1, _⟩ := own_form HO.out (by omega)
      simp only [Value.slice.injEq] at hv
      obtain ⟨rfl, _, rfl⟩ := hv
      obtain ⟨hcell, hfree⟩ := own_byte HO.out k (by rw [HML.out]; exact hlt)
      generalize m[k]'_ = old at *
      go_wp2_with fail
      go_roundw
      case rel => exact ⟨k + 1, m.set k 90, by omega, by go_num, by simp [HML.out], own_put HO.out k 90 _ rfl, HB.out.trans ⟨rfl, rfl, rfl, by simp [World.setCell], fun j _ hne => Below.heap_setCell _ _ _ _ (fun e => hne (by rw [e]; rfl))⟩⟩
      case measure => simp [intOf]; omega
    · go_wp2_with fail
      go_loopw [0, 3] (fun v i wr => ∃ (j : Nat) (m : List UInt8), j ≤ 9 ∧ i = .int .i64 j ∧ m.length = l.length + j ∧ wr.ownsRow 0 5 1 v m.length (bvs m) ∧ w.grownBy wr (Value.ownBlock (.slice a l.length cap)) ∧ (v.ownBlock = Value.ownBlock (.slice a l.length cap) ∨ ∀ k, v.ownBlock = some k → w.heap.size ≤ k)) (fun _ i _ => 9 - (intOf i).toNat)
      case atStart => exact ⟨0, m, by omega, rfl, HML.out, by rw [HML.out]; exact HO.out, HB.out, .inl rfl⟩
      case round =>
        clear HO HB HML
        obtain ⟨j, m2, hj, rfl, hml, hown, hb, hvb⟩ := hrel
        have HO := Lib.hid hown; clear hown
        have HB := Lib.hid hb; clear hb
        have HML := Lib.hid hml; clear hml
        have HVB := Lib.hid hvb; clear hvb
        by_cases hlt2 : j < 9
        · go_wp2_with (at_builtin; refine wpList_appb rfl _ _ 23 23 rfl 0 5 BT.out u0 m2 rfl (HO.out.alloc _) _ [91] rfl (src_one Try.underlying23 wr 5 91 _ rfl) (by have := HML.out; simp; omega) (Nat.zero_le _) ?_; intro v' w1 hown1 hgr1 _ hv1)
          have HO1 := Lib.hid hown1; clear hown1
          have HB1 := Lib.hid (grown_step (grown_new HB.out _) hgr1 HVB.out); clear hgr1
          have HV1 := Lib.hid hv1; clear hv1
          go_wp2_with fail
          go_roundw
          case rel => exact ⟨j + 1, m2 ++ [91], by omega, by go_num, by simp [HML.out]; omega, HO1.out, HB1.out, by
            rcases HV1.out with h1 | h1
            · rw [h1]; exact HVB.out
            · right
              intro k hk
              rw [h1] at hk
              obtain rfl := Option.some.inj hk
              have := HB.out.size
              simp; omega⟩
          case measure => simp [intOf]; omega
        · go_wp2_with fail
          go_end0
          exact ⟨rfl, HB.out⟩
theorem num_any (n : Int) (w : World) : Calls Try.prog 24 #[.int .i64 n] w fun e w' => e = .returned (.int .i64 n) ∧ w = w' := by
  go_enter Try.func24, Try.ntmps24
  go_wp2_with fail
  go_ret
  exact ⟨rfl, rfl⟩
end Go.Proofs.Ytbgnkdbbkkoinaa
