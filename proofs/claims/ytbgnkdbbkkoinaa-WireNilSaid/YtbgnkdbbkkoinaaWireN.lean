/- The walk of the law WireNil: readers and functions that are not there. -/
import Derived.Test.YtbgnkdbbkkoinaaChain
import Derived.Test.YtbgnkdbbkkoinaaFn
namespace Go.Proofs.Ytbgnkdbbkkoinaa
open Go.RowKit Wire
/-- A reader that is none. -/
def NoRd (w : World) (v : Value) : Prop := v = .pointer none ∨ ∃ g, v = .pointer (some ⟨g, 0, none⟩) ∧ w.heap[g]? = some (.cells #[.slice none 0 0, .int .i64 0] 73 (0, 0))
section
variable {w : World} {v : Value}
theorem no_there (h : NoRd w v) : Calls Try.prog 38 #[v] w fun e w' => e = .returned (.bool false) ∧ w = w' := by
  rcases h with rfl | ⟨g, rfl, hg⟩
  · go_enter Try.func38, Try.ntmps38
    go_wp2_with fail
    go_ret
    exact ⟨rfl, rfl⟩
  · have h0 : w.cell? ⟨g, 0, none⟩ = some (.slice none 0 0) := cell_of_row _ _ _ _ _ _ hg
    have u23 := Try.underlying23
    go_enter Try.func38, Try.ntmps38
    go_wp2_with fail
    go_ret
    exact ⟨rfl, rfl⟩
theorem no_Left (h : NoRd w v) : Calls Try.prog 26 #[v] w fun e w' => e = .returned (.int .i64 0) ∧ w = w' := by
  have H := Lib.hid h; clear h
  go_enter Try.func26, Try.ntmps26
  go_wp2_with fail
  refine (no_there H.out).mono ?_
  rintro e w1 ⟨rfl, rfl⟩
  go_wp2_with fail
  go_ret
  exact ⟨rfl, rfl⟩
theorem no_End (h : NoRd w v) : Calls Try.prog 25 #[v] w fun e w' => e = .returned (.int .i64 1) ∧ w = w' := by
  have H := Lib.hid h; clear h
  go_enter Try.func25, Try.ntmps25
  go_wp2_with fail
  refine (no_there H.out).mono ?_
  rintro e w1 ⟨rfl, rfl⟩
  go_wp2_with fail
  go_ret
  exact ⟨rfl, rfl⟩
theorem no_Number (h : NoRd w v) : Calls Try.prog 20 #[v] w fun e w' => e = .returned (.tuple #[.int .u64 0, .int .i64 1]) ∧ w = w' := by
  have H := Lib.hid h; clear h
  go_enter Try.func20, Try.ntmps20
  go_wp2_with fail
  go_step3
  go_wp2_with fail
  refine (no_there H.out).mono ?_
  rintro e w1 ⟨rfl, rfl⟩
  go_wp2_with fail
  try rw [Exit.noGoto_ret]
  go_ret2
  exact ⟨rfl, rfl⟩
theorem no_Signed (h : NoRd w v) : Calls Try.prog 21 #[v] w fun e w' => e = .returned (.tuple #[.int .i64 0, .int .i64 1]) ∧ w = w' := by
  have H := Lib.hid h; clear h
  go_enter Try.func21, Try.ntmps21
  go_wp2_with fail
  refine (no_Number H.out).mono ?_
  rintro e w1 ⟨rfl, rfl⟩
  go_wp2_with fail
  go_ret2
  exact ⟨i64_tup (by decide +kernel) rfl, rfl⟩
theorem no_Flag (h : NoRd w v) : Calls Try.prog 23 #[v] w fun e w' => e = .returned (.tuple #[.bool false, .int .i64 1]) ∧ w = w' := by
  have H := Lib.hid h; clear h
  go_enter Try.func23, Try.ntmps23
  go_wp2_with fail
  refine (no_there H.out).mono ?_
  rintro e w1 ⟨rfl, rfl⟩
  go_wp2_with fail
  go_ret2
  exact ⟨rfl, rfl⟩
theorem no_Bytes (m : Int) (h : NoRd w v) : Calls Try.prog 22 #[v, .int .i64 m] w fun e w' => e = .returned (.tuple #[.slice none 0 0, .int .i64 1]) ∧ w = w' := by
  have H := Lib.hid h; clear h
  go_enter Try.func22, Try.ntmps22
  go_wp2_with fail
  refine (no_there H.out).mono ?_
  rintro e w1 ⟨rfl, rfl⟩
  go_wp2_with fail
  go_ret2
  exact ⟨rfl, rfl⟩
theorem no_nothing (h : NoRd w v) : Calls Try.prog 36 #[v] w fun e w' => e = .returned (.bool true) ∧ Below w.heap.size w w' := by
  have H := Lib.hid h; clear h
  go_enter Try.func36, Try.ntmps36
  go_wp2_with fail
  refine (no_Number H.out).mono ?_
  rintro e w1 ⟨rfl, rfl⟩
  go_wp2_with fail
  refine (no_Signed H.out).mono ?_
  rintro e w1 ⟨rfl, rfl⟩
  go_wp2_with fail
  refine (no_Flag H.out).mono ?_
  rintro e w1 ⟨rfl, rfl⟩
  go_wp2_with fail
  refine (no_Bytes (-1) H.out).mono ?_
  rintro e w1 ⟨rfl, rfl⟩
  go_wp2_with fail
  refine (num_any 1 _).mono ?_
  rintro e w1 ⟨rfl, rfl⟩
  go_wp2_with fail
  refine (num_any 1 _).mono ?_
  rintro e w1 ⟨rfl, rfl⟩
  go_wp2_with fail
  refine (num_any 1 _).mono ?_
  rintro e w1 ⟨rfl, rfl⟩
  go_wp2_with fail
  refine (num_any 1 _).mono ?_
  rintro e w1 ⟨rfl, rfl⟩
  go_wp2_with fail
  refine (no_End H.out).mono ?_
  rintro e w1 ⟨rfl, rfl⟩
  go_wp2_with fail
  refine (num_any 1 _).mono ?_
  rintro e w1 ⟨rfl, rfl⟩
  go_wp2_with fail
  refine (no_Left H.out).mono ?_
  rintro e w1 ⟨rfl, rfl⟩
  go_wp2_with fail
  go_ret
  exact ⟨rfl, Below.refl _ _⟩
end
section
variable (w : World)
theorem put_nil (a : Option Addr) (n c : Nat) : Calls Try.prog 33 #[.slice a n c, .nilFunc] w fun e w' => e = .returned (.tuple #[.slice none 0 0, .int .i64 1]) ∧ w = w' := by
  have en := eql_nilf Try.underlying68
  go_enter Try.func33, Try.ntmps33
  go_wp2_with fail
  go_ret2
  exact ⟨rfl, rfl⟩
theorem put_empty : Calls Try.prog 33 #[.slice none 0 0, .func (.func 34) #[] #[]] w fun e w' => ∃ v, e = .returned (.tuple #[v, .int .i64 0]) ∧ w'.ownsRow w.heap.size 5 1 v 1 (bvs [0]) ∧ Below w.heap.size w w' := by
  have en := eql_func Try.underlying68
  go_enter Try.func33, Try.ntmps33
  go_wp2_with fail
  refine (wire_Number 0 0 _ rfl (by decide)).mono ?_
  rintro e w1 ⟨v, rfl, ho, hb⟩
  rw [show enc 0 = [0] from by decide +kernel] at ho
  have HO := Lib.hid ho; clear ho
  have HB := Lib.hid hb; clear hb
  go_wp2_with fail
  go_loop [6, 17] (fun b i => b = v ∧ i = .int .i64 0) (fun _ _ => 0)
  case atStart => exact ⟨rfl, rfl⟩
  case round =>
    obtain ⟨rfl, rfl⟩ := hrel
    go_wp2_with fail
    go_ret2
    exact ⟨_, rfl, HO.out, HB.out⟩
theorem take_nil (g : Nat) (ad : Addr) (cap : Nat) (l : List UInt8) (p : Nat) (h : wRd w g (some ad) cap l p) (m : Int) : Calls Try.prog 35 #[.pointer (some ⟨g, 0, none⟩), .int .i64 m, .nilFunc] w fun e w' => e = .returned (.tuple #[.slice none 0 0, .int .i64 1]) ∧ w = w' := by
  have H := Lib.hid h; clear h
  have en := eql_nilf Try.underlying93
  go_enter Try.func35, Try.ntmps35
  go_wp2_with fail
  refine (rd_there H.out).mono ?_
  rintro e w1 ⟨rfl, rfl⟩
  go_wp2_with fail
  go_ret2
  exact ⟨rfl, rfl⟩
theorem take_none (v : Value) (h : NoRd w v) (m : Int) (f : Value) : Calls Try.prog 29 #[v, .int .i64 m, f] w fun e w' => e = .returned (.tuple #[.slice none 0 0, .int .i64 1]) ∧ w = w' := by
  have H := Lib.hid h; clear h
  go_enter Try.func29, Try.ntmps29
  go_wp2_with fail
  refine (no_there H.out).mono ?_
  rintro e w1 ⟨rfl, rfl⟩
  go_wp2_with fail
  go_ret2
  exact ⟨rfl, rfl⟩
set_option maxRecDepth 100000 in
theorem nil_walk : Calls Try.prog 7 #[] w fun e w' => e = .returned (.bool true) ∧ Below w.heap.size w w' := by
  go_enter Try.func7, Try.ntmps7
  go_wp2_with fail
  refine (put_nil _ _ _ _).mono ?_
  rintro e w1 ⟨rfl, rfl⟩
  go_wp2_with fail
  refine (put_empty _).mono ?_
  rintro e w1 ⟨v, rfl, ho, hb⟩
  obtain ⟨a1, c1, rfl, h1⟩ := own_bytesAt ho
  have H1 := Lib.hid h1; clear h1 ho
  have HD1 := Lib.hid hb; clear hb
  go_wp2_with fail
  refine (rd_Open [0] _ _ _ _ (BytesAt.fresh w1 5 (0, 0) [0] _ rfl) rfl (by simp)).mono ?_
  rintro e w2 ⟨g, ad, cap, rfl, hg, hr, hb, _⟩
  have HC : Hid (Chain [w1, w] w2) := Lib.hid (((Chain.one w).next HD1.out (by simp) |>.push (Below.refl _ _)).next ((below_new _ _).trans (hb.mono (by simp))) (by simp)); clear hb
  have HR := Lib.hid hr; clear hr
  go_wp2_with fail
  refine (take_nil _ _ _ _ _ _ HR.out 5).mono ?_
  rintro e w3 ⟨rfl, rfl⟩
  go_wp2_with fail
  refine (take_none _ _ (.inl rfl) (-1) _).mono ?_
  rintro e w3 ⟨rfl, rfl⟩
  have s1 := (H1.out.below (HC.out.to w1 (by simp)) rfl).str 1 c1 rfl
  go_wp2_with fail
  refine (num_any 1 _).mono ?_
  rintro e w3 ⟨rfl, rfl⟩
  go_wp2_with fail
  refine (num_any 0 _).mono ?_
  rintro e w3 ⟨rfl, rfl⟩
  go_wp2_with fail
  refine (num_any 1 _).mono ?_
  rintro e w3 ⟨rfl, rfl⟩
  go_wp2_with fail
  refine (num_any 1 _).mono ?_
  rintro e w3 ⟨rfl, rfl⟩
  go_wp2_with fail
  refine (no_nothing (.inl rfl)).mono ?_
  rintro e w3 ⟨rfl, hb⟩
  replace HC := Lib.hid (HC.out.to w (by simp) |>.trans (hb.mono (HC.out.to w (by simp)).size)); clear hb s1
  go_wp2_with fail
  refine (no_nothing (.inr ⟨_, rfl, heap_alloc_new w3 _⟩)).mono ?_
  rintro e w4 ⟨rfl, hb⟩
  replace HC := Lib.hid (HC.out.trans (((below_new _ _).trans (hb.mono (by simp))).mono HC.out.size)); clear hb
  go_wp2_with fail
  refine (rd_known _).mono ?_
  rintro e w5 ⟨rfl, hb⟩
  replace HC := Lib.hid (HC.out.trans (hb.mono HC.out.size)); clear hb
  go_wp2_with fail
  go_ret
  exact ⟨rfl, HC.out⟩
end
end Go.Proofs.Ytbgnkdbbkkoinaa

