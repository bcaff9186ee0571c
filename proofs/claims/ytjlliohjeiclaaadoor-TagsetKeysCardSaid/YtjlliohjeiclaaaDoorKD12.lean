/- Words, contracts and walks that the proof stands on (TgQ OpenG). -/
import Derived.Deep.DeepHandedRow
import Derived.Deep.DeepWitnessRowRef
import Derived.Deep.Grids
import Derived.Deep.Slices
import Derived.Lib.LaidIn
import Derived.Lib.LaidU8T
import Derived.OpenShut
import Derived.ProofKit
import Derived.Shelf.Vars
import Derived.SliceStrings
import Derived.Test.YtjlliohjeiclaaaDoorCards
import Derived.Test.YtjlliohjeiclaaaDoorKD1
import Derived.Test.YtjlliohjeiclaaaDoorKD11
import Derived.Test.YtjlliohjeiclaaaDoorTie
namespace Go.Proofs.YtjlliohjeiclaaaDoor
open Go.RowKit St Pm
theorem elO_form (o : Option Ev) : ∃ (e : Ev) (b : Bool), elO o = .tuple #[.agg #[.int .i64 e.1.g, .int .i64 e.1.r, .string e.1.l, .int .i64 e.1.n, .int .i64 e.1.i, .string e.2], .bool b] := by
 cases o with
 | none => exact ⟨(⟨0, 0, ⟨#[]⟩, 0, 0⟩, ⟨#[]⟩), false, rfl⟩
 | some e => exact ⟨e, true, rfl⟩
set_option maxRecDepth 100000 in
set_option maxHeartbeats 4000000 in
theorem law_TKeys (x : ByteArray) (s : Sv) (k : ByteArray) (w : World) (hx : x.size ≤ 9223372036854775807) (hl : s.l.size ≤ 9223372036854775807) (hk : k.size ≤ 9223372036854775807) (hG : Glob w) :
 Calls Tryd.prog 3 #[.string x, .agg #[.int .i64 s.g, .int .i64 s.r, .string s.l, .int .i64 s.n, .int .i64 s.i], .string k] w fun e w' => e = .returned (.bool true) ∧ Below w.heap.size w w' := by
 have HG := Lib.hid hG
 clear hG
 have HC : Hid (Chain [w] w) := Lib.hid (Chain.one w)
 go_enter Tryd.func3, Tryd.ntmps3
 go_upto_region 1 with (fail)
 obtain ⟨y, hy⟩ : ∃ c, w.heap.size = c := ⟨_, rfl⟩
 try rw [hy]
 obtain ⟨w1, hw1⟩ : ∃ X, allocs w [.cells #[.int .i64 s.g, .int .i64 s.r, .string s.l, .int .i64 s.n, .int .i64 s.i] 27] = X := ⟨_, rfl⟩
 rw [show w.alloc (.cells #[.int .i64 s.g, .int .i64 s.r, .string s.l, .int .i64 s.n, .int .i64 s.i] 27) = w1 from hw1]
 have hb : Below w.heap.size w w1 := by rw [← hw1]; exact allocs_below _ _
 have HS : Hid (w1.heap[y]? = some (.cells #[.int .i64 s.g, .int .i64 s.r, .string s.l, .int .i64 s.n, .int .i64 s.i] 27 (0, 0))) := Lib.hid (by have := allocs_get [.cells #[.int .i64 s.g, .int .i64 s.r, .string s.l, .int .i64 s.n, .int .i64 s.i] 27] w 0 _ rfl; rw [hw1, hy] at this; exact this)
 have Sy : Hid (w.heap.size = y) := Lib.hid hy
 replace HC := Lib.hid (HC.out.push hb)
 clear hb hw1 hy
 by_cases h1 : k.size ≤ 2000
 case neg =>
  have h1i : (2000 : Int) < (k.size : Int) := by omega
  go_wp2_with fail
  refine (known_11 _ (HG.out.below (HC.out.to w (by simp)))).mono ?_
  rintro e w2 ⟨rfl, hb⟩
  replace HC := Lib.hid (HC.out.push hb)
  clear hb
  go_wp2_with fail
  go_ret
  exact ⟨rfl, (HC.out.to w (by simp))⟩
 case pos =>
 have h1i : ¬ (2000 : Int) < (k.size : Int) := by omega
 by_cases h2 : x.size ≤ 2000
 case neg =>
  have h2i : (2000 : Int) < (x.size : Int) := by omega
  go_wp2_with fail
  refine (known_11 _ (HG.out.below (HC.out.to w (by simp)))).mono ?_
  rintro e w2 ⟨rfl, hb⟩
  replace HC := Lib.hid (HC.out.push hb)
  clear hb
  go_wp2_with fail
  go_ret
  exact ⟨rfl, (HC.out.to w (by simp))⟩
 case pos =>
 have h2i : ¬ (2000 : Int) < (x.size : Int) := by omega
 have kS0 := cell_of_row _ _ 0 _ _ _ HS.out
 have kS1 := cell_of_row _ _ 1 _ _ _ HS.out
 have kS2 := cell_of_row _ _ 2 _ _ _ HS.out
 have kS3 := cell_of_row _ _ 3 _ _ _ HS.out
 have kS4 := cell_of_row _ _ 4 _ _ _ HS.out
 by_cases h3 : s.l.size ≤ 2000
 case neg =>
  have h3i : (2000 : Int) < (s.l.size : Int) := by omega
  go_wp2_with fail
  refine (known_11 _ (HG.out.below (HC.out.to w (by simp)))).mono ?_
  rintro e w2 ⟨rfl, hb⟩
  replace HC := Lib.hid (HC.out.push hb)
  clear hb
  go_wp2_with fail
  go_ret
  exact ⟨rfl, (HC.out.to w (by simp))⟩
 case pos =>
 have h3i : ¬ (2000 : Int) < (s.l.size : Int) := by omega
 obtain ⟨kv, ev, hkv, g0, g2⟩ : ∃ (kv : ByteArray) (ev : Int), (if okV (s, x) = true then Value.tuple #[.string (tagK (s, x)), .int .i64 0] else .tuple #[.string ⟨#[]⟩, .int .i64 2]) = .tuple #[.string kv, .int .i64 ev] ∧ (okV (s, x) = true → kv = tagK (s, x) ∧ ev = 0) ∧ (okV (s, x) = false → kv = ⟨#[]⟩ ∧ ev = 2) := by
  cases hq : okV (s, x) with
  | true => exact ⟨_, _, if_pos rfl, fun _ => ⟨rfl, rfl⟩, fun h => (by cases h)⟩
  | false => exact ⟨_, _, if_neg (by simp), fun h => (by cases h), fun _ => ⟨rfl, rfl⟩⟩
 have K0 := Lib.hid g0
 have K2 := Lib.hid g2
 have HKV := Lib.hid hkv
 obtain ⟨e0, b0, he0⟩ := elO_form (ofT k)
 have HE0 := Lib.hid he0
 have HER : Hid (elO (ofR k) = .tuple #[.agg #[.int .i64 e0.1.g, .int .i64 e0.1.r, .string e0.1.l, .int .i64 e0.1.n, .int .i64 e0.1.i, .string e0.2], .bool b0]) := Lib.hid (by rw [ofR_eq]; exact he0)
 clear hkv g0 g2 he0
 go_wp2_with fail
 refine (ts_Key x s _ hl (HG.out.below (HC.out.to w (by simp)))).mono ?_
 rintro e w2 ⟨he, hb⟩
 replace HC := Lib.hid (HC.out.push hb)
 clear hb
 rw [HKV.out] at he
 subst he
 go_wp2_with fail
 refine (ts_OfKey k _ (by omega)).mono ?_
 rintro e w3 ⟨he, hb⟩
 replace HC := Lib.hid (HC.out.push hb)
 clear hb
 rw [HE0.out] at he
 subst he
 go_upto_region 5 with (fail)
 obtain ⟨c4, hc4⟩ : ∃ c, w3.heap.size = c := ⟨_, rfl⟩
 try rw [hc4]
 obtain ⟨w4, hw4⟩ : ∃ X, allocs w3 [.cells #[.int .i64 e0.1.g, .int .i64 e0.1.r, .string e0.1.l, .int .i64 e0.1.n, .int .i64 e0.1.i, .string e0.2] 33] = X := ⟨_, rfl⟩
 rw [show w3.alloc (.cells #[.int .i64 e0.1.g, .int .i64 e0.1.r, .string e0.1.l, .int .i64 e0.1.n, .int .i64 e0.1.i, .string e0.2] 33) = w4 from hw4]
 have hb : Below w3.heap.size w3 w4 := by rw [← hw4]; exact allocs_below _ _
 have HX : Hid (w4.heap[c4]? = some (.cells #[.int .i64 e0.1.g, .int .i64 e0.1.r, .string e0.1.l, .int .i64 e0.1.n, .int .i64 e0.1.i, .string e0.2] 33 (0, 0))) := Lib.hid (by have := allocs_get [.cells #[.int .i64 e0.1.g, .int .i64 e0.1.r, .string e0.1.l, .int .i64 e0.1.n, .int .i64 e0.1.i, .string e0.2] 33] w3 0 _ rfl; rw [hw4, hc4] at this; exact this)
 have Sc4 : Hid (w3.heap.size = c4) := Lib.hid hc4
 replace HC := Lib.hid (HC.out.push hb)
 clear hb hw4 hc4
 go_wp2_with fail
 refine (r11_OfKey k _ (by omega)).mono ?_
 rintro e w5 ⟨he, hb⟩
 replace HC := Lib.hid (HC.out.push hb)
 clear hb
 rw [HER.out] at he
 subst he
 go_upto_region 6 with (fail)
 obtain ⟨c6, hc6⟩ : ∃ c, w5.heap.size = c := ⟨_, rfl⟩
 try rw [hc6]
 obtain ⟨w6, hw6⟩ : ∃ X, allocs w5 [.cells #[.int .i64 e0.1.g, .int .i64 e0.1.r, .string e0.1.l, .int .i64 e0.1.n, .int .i64 e0.1.i, .string e0.2] 33] = X := ⟨_, rfl⟩
 rw [show w5.alloc (.cells #[.int .i64 e0.1.g, .int .i64 e0.1.r, .string e0.1.l, .int .i64 e0.1.n, .int .i64 e0.1.i, .string e0.2] 33) = w6 from hw6]
 have hb : Below w5.heap.size w5 w6 := by rw [← hw6]; exact allocs_below _ _
 have HY : Hid (w6.heap[c6]? = some (.cells #[.int .i64 e0.1.g, .int .i64 e0.1.r, .string e0.1.l, .int .i64 e0.1.n, .int .i64 e0.1.i, .string e0.2] 33 (0, 0))) := Lib.hid (by have := allocs_get [.cells #[.int .i64 e0.1.g, .int .i64 e0.1.r, .string e0.1.l, .int .i64 e0.1.n, .int .i64 e0.1.i, .string e0.2] 33] w5 0 _ rfl; rw [hw6, hc6] at this; exact this)
 have Sc6 : Hid (w5.heap.size = c6) := Lib.hid hc6
 replace HC := Lib.hid (HC.out.push hb)
 clear hb hw6 hc6
 have ne0 := ev_neq e0 e0 w6
 simp only [decide_true, Bool.not_true] at ne0
 have nb0 : (b0 != b0) = false := by simp
 have kX0 := cell_of_row _ _ 0 _ _ _ (boxStays HX.out (HC.out.to w4 (by simp)))
 have kX1 := cell_of_row _ _ 1 _ _ _ (boxStays HX.out (HC.out.to w4 (by simp)))
 have kX2 := cell_of_row _ _ 2 _ _ _ (boxStays HX.out (HC.out.to w4 (by simp)))
 have kX3 := cell_of_row _ _ 3 _ _ _ (boxStays HX.out (HC.out.to w4 (by simp)))
 have kX4 := cell_of_row _ _ 4 _ _ _ (boxStays HX.out (HC.out.to w4 (by simp)))
 have kX5 := cell_of_row _ _ 5 _ _ _ (boxStays HX.out (HC.out.to w4 (by simp)))
 have kY0 := cell_of_row _ _ 0 _ _ _ HY.out
 have kY1 := cell_of_row _ _ 1 _ _ _ HY.out
 have kY2 := cell_of_row _ _ 2 _ _ _ HY.out
 have kY3 := cell_of_row _ _ 3 _ _ _ HY.out
 have kY4 := cell_of_row _ _ 4 _ _ _ HY.out
 have kY5 := cell_of_row _ _ 5 _ _ _ HY.out
 go_wp2_with fail
 clear kX0 kX1 kX2 kX3 kX4 kX5 kY0 kY1 kY2 kY3 kY4 kY5
 refine (ref5_Text x _).mono ?_
 rintro e _ ⟨rfl, rfl⟩
 clear ne0
 by_cases h4 : x.size ≤ 256
 case neg =>
  rw [decide_eq_false h4]
  have hbad : okV (s, x) = false := by cases h : okV (s, x) with | false => rfl | true => exact absurd (okV_iff.1 h).2 h4
  obtain ⟨rfl, rfl⟩ := K2.out hbad
  clear hbad
  have hee : ((⟨#[]⟩ : ByteArray).toList == (⟨#[]⟩ : ByteArray).toList) = true := by simp
  go_wp2_with fail
  refine (num_11 2 _).mono ?_
  rintro e _ ⟨rfl, rfl⟩
  go_wp2_with fail
  refine (known_11 _ (HG.out.below (HC.out.to w (by simp)))).mono ?_
  rintro e w9 ⟨rfl, hb⟩
  replace HC := Lib.hid (HC.out.push hb)
  clear hb
  go_wp2_with fail
  go_ret
  exact ⟨rfl, (HC.out.to w (by simp))⟩
 case pos =>
 rw [decide_eq_true h4]
 have kS0 := cell_of_row _ _ 0 _ _ _ (boxStays HS.out (HC.out.to w1 (by simp)))
 have kS1 := cell_of_row _ _ 1 _ _ _ (boxStays HS.out (HC.out.to w1 (by simp)))
 have kS2 := cell_of_row _ _ 2 _ _ _ (boxStays HS.out (HC.out.to w1 (by simp)))
 have kS3 := cell_of_row _ _ 3 _ _ _ (boxStays HS.out (HC.out.to w1 (by simp)))
 have kS4 := cell_of_row _ _ 4 _ _ _ (boxStays HS.out (HC.out.to w1 (by simp)))
 go_wp2_with fail
 clear kS0 kS1 kS2 kS3 kS4
 refine (ref6_Stamp s _ hl).mono ?_
 rintro e w7 ⟨rfl, hb⟩
 replace HC := Lib.hid (HC.out.push hb)
 clear hb
 cases hok : s.ok
 case false =>
  have hbad : okV (s, x) = false := by cases h : okV (s, x) with | false => rfl | true => have := (okV_iff.1 h).1; rw [show (s, x).1 = s from rfl, hok] at this; cases this
  clear hok
  obtain ⟨rfl, rfl⟩ := K2.out hbad
  clear hbad
  have hee : ((⟨#[]⟩ : ByteArray).toList == (⟨#[]⟩ : ByteArray).toList) = true := by simp
  go_wp2_with fail
  refine (num_11 2 _).mono ?_
  rintro e _ ⟨rfl, rfl⟩
  go_wp2_with fail
  refine (known_11 _ (HG.out.below (HC.out.to w (by simp)))).mono ?_
  rintro e w9 ⟨rfl, hb⟩
  replace HC := Lib.hid (HC.out.push hb)
  clear hb
  go_wp2_with fail
  go_ret
  exact ⟨rfl, (HC.out.to w (by simp))⟩
 case true =>
 have hOK : okV (s, x) = true := okV_iff.2 ⟨hok, h4⟩
 obtain ⟨rfl, rfl⟩ := K0.out hOK
 have OF := ofT_tag hOK
 have TSZ := Lib.hid (tag_size hOK)
 have HOF : Hid (elO (ofT (tagK (s, x))) = .tuple #[.agg #[.int .i64 s.g, .int .i64 s.r, .string s.l, .int .i64 s.n, .int .i64 s.i, .string x], .bool true]) := Lib.hid (by rw [OF]; rfl)
 have RK := Lib.hid (fun V => r11_Key x s V hok (by omega))
 clear OF hOK
 generalize tagK (s, x) = kb at *
 go_wp2_with fail
 refine (ts_OfKey kb _ (by have := TSZ.out; omega)).mono ?_
 rintro e w8 ⟨he, hb⟩
 replace HC := Lib.hid (HC.out.push hb)
 clear hb
 rw [HOF.out] at he
 subst he
 go_upto_region 11 with (fail)
 obtain ⟨c9, hc9⟩ : ∃ c, w8.heap.size = c := ⟨_, rfl⟩
 try rw [hc9]
 obtain ⟨w9, hw9⟩ : ∃ X, allocs w8 [.cells #[.int .i64 s.g, .int .i64 s.r, .string s.l, .int .i64 s.n, .int .i64 s.i, .string x] 33] = X := ⟨_, rfl⟩
 rw [show w8.alloc (.cells #[.int .i64 s.g, .int .i64 s.r, .string s.l, .int .i64 s.n, .int .i64 s.i, .string x] 33) = w9 from hw9]
 have hb : Below w8.heap.size w8 w9 := by rw [← hw9]; exact allocs_below _ _
 have HZ : Hid (w9.heap[c9]? = some (.cells #[.int .i64 s.g, .int .i64 s.r, .string s.l, .int .i64 s.n, .int .i64 s.i, .string x] 33 (0, 0))) := Lib.hid (by have := allocs_get [.cells #[.int .i64 s.g, .int .i64 s.r, .string s.l, .int .i64 s.n, .int .i64 s.i, .string x] 33] w8 0 _ rfl; rw [hw9, hc9] at this; exact this)
 have Sc9 : Hid (w8.heap.size = c9) := Lib.hid hc9
 replace HC := Lib.hid (HC.out.push hb)
 clear hb hw9 hc9
 have kS0 := cell_of_row _ _ 0 _ _ _ (boxStays HS.out (HC.out.to w1 (by simp)))
 have kS1 := cell_of_row _ _ 1 _ _ _ (boxStays HS.out (HC.out.to w1 (by simp)))
 have kS2 := cell_of_row _ _ 2 _ _ _ (boxStays HS.out (HC.out.to w1 (by simp)))
 have kS3 := cell_of_row _ _ 3 _ _ _ (boxStays HS.out (HC.out.to w1 (by simp)))
 have kS4 := cell_of_row _ _ 4 _ _ _ (boxStays HS.out (HC.out.to w1 (by simp)))
 go_wp2_with fail
 clear kS0 kS1 kS2 kS3 kS4
 refine (RK.out _).mono ?_
 rintro e w10 ⟨rfl, hb⟩
 replace HC := Lib.hid (HC.out.push hb)
 clear hb
 have hee : (kb.toList == kb.toList) = true := by simp
 go_wp2_with fail
 refine (num_11 0 _).mono ?_
 rintro e _ ⟨rfl, rfl⟩
 have eq0 := ev_eql (s, x) (s, x) w10
 simp only [decide_true] at eq0
 have kS0 := cell_of_row _ _ 0 _ _ _ (boxStays HS.out (HC.out.to w1 (by simp)))
 have kS1 := cell_of_row _ _ 1 _ _ _ (boxStays HS.out (HC.out.to w1 (by simp)))
 have kS2 := cell_of_row _ _ 2 _ _ _ (boxStays HS.out (HC.out.to w1 (by simp)))
 have kS3 := cell_of_row _ _ 3 _ _ _ (boxStays HS.out (HC.out.to w1 (by simp)))
 have kS4 := cell_of_row _ _ 4 _ _ _ (boxStays HS.out (HC.out.to w1 (by simp)))
 have kZ0 := cell_of_row _ _ 0 _ _ _ (boxStays HZ.out (HC.out.to w9 (by simp)))
 have kZ1 := cell_of_row _ _ 1 _ _ _ (boxStays HZ.out (HC.out.to w9 (by simp)))
 have kZ2 := cell_of_row _ _ 2 _ _ _ (boxStays HZ.out (HC.out.to w9 (by simp)))
 have kZ3 := cell_of_row _ _ 3 _ _ _ (boxStays HZ.out (HC.out.to w9 (by simp)))
 have kZ4 := cell_of_row _ _ 4 _ _ _ (boxStays HZ.out (HC.out.to w9 (by simp)))
 have kZ5 := cell_of_row _ _ 5 _ _ _ (boxStays HZ.out (HC.out.to w9 (by simp)))
 go_wp2_with fail
 clear kS0 kS1 kS2 kS3 kS4 kZ0 kZ1 kZ2 kZ3 kZ4 kZ5
 refine (known_11 _ (HG.out.below (HC.out.to w (by simp)))).mono ?_
 rintro e w11 ⟨rfl, hb⟩
 replace HC := Lib.hid (HC.out.push hb)
 clear hb
 go_wp2_with fail
 go_ret
 exact ⟨rfl, (HC.out.to w (by simp))⟩
end Go.Proofs.YtjlliohjeiclaaaDoor
namespace Go.Proofs.YtjlliohjeiclaaaDoor
open Go.ChangeShapes Go.WideShapes Go.ChangeAt Go.RowKit Go.Deep St
section
variable {H : Type} {enc : TypeId × Value → H} {w : World} {base : Nat} {held : Bool}
theorem maxLen_small {n : Nat} (h : n ≤ maxLen) : n ≤ 9223372036854775807 := by unfold maxLen at h; omega
set_option maxRecDepth 100000 in
theorem open_br {fuel : Nat} {cs : List Value} {x : DataW H × List MemPlace} (h : DataW.trod enc Tryd.prog w base (fun _ => true) held fuel 23 cs = some x) :
 ∃ (r : Int) (l : ByteArray), cs = [.int .i64 r, .string l] ∧ l.size ≤ maxLen := by
 obtain ⟨xs, n, _, _, hlen, hz, hff⟩ := DataW.trod_struct Tryd.underlying23 h
 rw [show Tryd.prog.cellsOf 23 = 2 by kernel_rfl] at hlen
 match cs, hlen with
 | [v0, v1], _ =>
  have q0 := hff 0 _ rfl
  have q1 := hff 1 _ rfl
  rw [List.getElem?_eq_getElem (by rw [hz]; decide)] at q0 q1
  change DataW.trod enc _ w base _ held n 3 (List.take (Tryd.prog.cellsOf 3) [v0, v1]) = _ at q0
  change DataW.trod enc _ w base _ held n 9 (List.take (Tryd.prog.cellsOf 9) [v1]) = _ at q1
  rw [show Tryd.prog.cellsOf 3 = 1 by kernel_rfl] at q0
  rw [show Tryd.prog.cellsOf 9 = 1 by kernel_rfl] at q1
  obtain ⟨r, k0, _⟩ := DataW.trod_int Tryd.underlying3 q0
  obtain ⟨l, k1, _, k2⟩ := DataW.trod_string Tryd.underlying9 q1
  simp only [List.take, List.cons.injEq, and_true] at k0 k1
  subst k0 k1
  exact ⟨r, l, rfl, k2⟩
set_option maxRecDepth 100000 in
theorem open_nm {fuel : Nat} {cs : List Value} {x : DataW H × List MemPlace} (h : DataW.trod enc Tryd.prog w base (fun _ => true) held fuel 25 cs = some x) :
 ∃ (r : Int) (l : ByteArray) (k : Int), cs = [.int .i64 r, .string l, .int .i64 k] ∧ l.size ≤ maxLen := by
 obtain ⟨xs, n, _, _, hlen, hz, hff⟩ := DataW.trod_struct Tryd.underlying25 h
 rw [show Tryd.prog.cellsOf 25 = 3 by kernel_rfl] at hlen
 match cs, hlen with
 | [v0, v1, v2], _ =>
  have q0 := hff 0 _ rfl
  have q1 := hff 1 _ rfl
  rw [List.getElem?_eq_getElem (by rw [hz]; decide)] at q0 q1
  change DataW.trod enc _ w base _ held n 23 (List.take (Tryd.prog.cellsOf 23) [v0, v1, v2]) = _ at q0
  change DataW.trod enc _ w base _ held n 2 (List.take (Tryd.prog.cellsOf 2) [v2]) = _ at q1
  rw [show Tryd.prog.cellsOf 23 = 2 by kernel_rfl] at q0
  rw [show Tryd.prog.cellsOf 2 = 1 by kernel_rfl] at q1
  obtain ⟨r, l, k0, kl⟩ := open_br q0
  obtain ⟨k, k1, _⟩ := DataW.trod_int Tryd.underlying2 q1
  simp only [List.take, List.cons.injEq, and_true] at k0 k1
  obtain ⟨k0, k0'⟩ := k0
  subst k0 k0' k1
  exact ⟨r, l, k, rfl, kl⟩
set_option maxRecDepth 100000 in
theorem open_sv {fuel : Nat} {cs : List Value} {x : DataW H × List MemPlace} (h : DataW.trod enc Tryd.prog w base (fun _ => true) held fuel 27 cs = some x) :
 ∃ s : Sv, cs = [.int .i64 s.g, .int .i64 s.r, .string s.l, .int .i64 s.n, .int .i64 s.i] ∧ s.l.size ≤ maxLen := by
 obtain ⟨xs, n, _, _, hlen, hz, hff⟩ := DataW.trod_struct Tryd.underlying27 h
 rw [show Tryd.prog.cellsOf 27 = 5 by kernel_rfl] at hlen
 match cs, hlen with
 | [v0, v1, v2, v3, v4], _ =>
  have q0 := hff 0 _ rfl
  have q1 := hff 1 _ rfl
  have q2 := hff 2 _ rfl
  rw [List.getElem?_eq_getElem (by rw [hz]; decide)] at q0 q1 q2
  change DataW.trod enc _ w base _ held n 2 (List.take (Tryd.prog.cellsOf 2) [v0, v1, v2, v3, v4]) = _ at q0
  change DataW.trod enc _ w base _ held n 25 (List.take (Tryd.prog.cellsOf 25) [v1, v2, v3, v4]) = _ at q1
  change DataW.trod enc _ w base _ held n 3 (List.take (Tryd.prog.cellsOf 3) [v4]) = _ at q2
  rw [show Tryd.prog.cellsOf 2 = 1 by kernel_rfl] at q0
  rw [show Tryd.prog.cellsOf 25 = 3 by kernel_rfl] at q1
  rw [show Tryd.prog.cellsOf 3 = 1 by kernel_rfl] at q2
  obtain ⟨g, k0, _⟩ := DataW.trod_int Tryd.underlying2 q0
  obtain ⟨r, l, k, k1, kl⟩ := open_nm q1
  obtain ⟨i, k2, _⟩ := DataW.trod_int Tryd.underlying3 q2
  simp only [List.take, List.cons.injEq, and_true] at k0 k1 k2
  obtain ⟨e1, e2, e3⟩ := k1
  subst k0 e1 e2 e3 k2
  exact ⟨⟨g, r, l, k, i⟩, rfl, kl⟩
set_option maxRecDepth 100000 in
theorem open_str {v : Value} {b : Nat} {r : Reach} {fuel : Nat} {x : DataW H × List MemPlace} (hok : Value.okWide Tryd.prog w r b 9 v)
 (h : DataW.trod enc Tryd.prog w base (fun _ => true) held fuel 9 v.cells.toList = some x) :
 ∃ s, v = .string s ∧ s.size ≤ 9223372036854775807 := by
 obtain ⟨s, rfl⟩ : ∃ s, v = .string s := by
  cases v with
  | string s => exact ⟨s, rfl⟩
  | _ => simp [Value.okWide, Cell.okWide, Cell.ok, Tryd.underlying9] at hok
 obtain ⟨t, k5, _, kt⟩ := DataW.trod_string Tryd.underlying9 h
 simp [Value.cells] at k5
 subst k5
 exact ⟨_, rfl, maxLen_small kt⟩
set_option maxRecDepth 100000 in
theorem open_svv {v : Value} {b : Nat} {r : Reach} {fuel : Nat} {x : DataW H × List MemPlace} (hok : Value.okWide Tryd.prog w r b 27 v)
 (h : DataW.trod enc Tryd.prog w base (fun _ => true) held fuel 27 v.cells.toList = some x) :
 ∃ s : Sv, v = .agg #[.int .i64 s.g, .int .i64 s.r, .string s.l, .int .i64 s.n, .int .i64 s.i] ∧ s.l.size ≤ 9223372036854775807 := by
 obtain ⟨cs, rfl⟩ : ∃ cs, v = .agg cs := by
  simp only [Value.okWide, Tryd.underlying27] at hok
  obtain ⟨cs, h1, _⟩ := hok
  exact ⟨cs, h1⟩
 obtain ⟨s, e, h1⟩ := open_sv h
 obtain ⟨q, rfl⟩ : ∃ q : List Value, cs = q.toArray := ⟨cs.toList, by simp⟩
 simp [Value.cells] at e
 exact ⟨s, by rw [e], maxLen_small h1⟩
end
theorem laid_eq1 : (Rows.laid_unicode_utf8_acceptRanges : DataW Unit) = Lib.acceptData := by kernel_rfl
theorem laid_eq2 : Rows.laid_unicode_utf8_first = Lib.firstData := by kernel_rfl
theorem glob_of {W : World} (hL : laidMetH Tryd.prog [("unicode/utf8.acceptRanges", Rows.laid_unicode_utf8_acceptRanges), ("unicode/utf8.first", Rows.laid_unicode_utf8_first)] W) (hS : W.ShapedOpen Tryd.prog) : Glob W := by
 refine ⟨utf8Tabs_of_readsT (U8Types.of196 lay196) ⟨by kernel_rfl, by kernel_rfl, by kernel_rfl, by kernel_rfl, by kernel_rfl, by kernel_rfl, by kernel_rfl⟩ ?_ ?_, ?_⟩
 · rw [← laid_eq2]; exact Lib.laidMet.reads hL (.tail _ (.head _))
 · rw [← laid_eq1]; exact Lib.laidMet.reads hL (.head _)
 · exact cell_of_shapedOpen_int (P := Tryd.prog) (g := 2) (t := 3) (zero := #[.int .i64 0]) hS (of_decide_eq_true (by kernel_rfl)) (by kernel_rfl) rfl (by kernel_rfl) (by kernel_rfl) Tryd.underlying3
noncomputable def laidWorld (os : Os) : World :=
 let w0 := World.holding Tryd.prog os ⟨#[], #[], []⟩
 let put (h : Array Obj) (g : Nat) (cs : Array Value) : Array Obj := h.modify g fun
  | .cells _ t frozen => .cells cs t frozen
  | o => o
 let h1 := put w0.heap 0 (Lib.firstTab.map fun z => Value.int .u8 z).toArray
 let h2 := put h1 1 ((List.range 16).flatMap fun i => [Value.int .u8 (Lib.accLo i), Value.int .u8 (Lib.accHi i)]).toArray
 { w0 with heap := h2 }
theorem laid_met (os : Os) (args : Array Value) : laidMet Tryd.prog [("unicode/utf8.acceptRanges", Rows.laid_unicode_utf8_acceptRanges), ("unicode/utf8.first", Rows.laid_unicode_utf8_first)] ((laidWorld os).forCall (fun _ _ => 0) ⟨#[], args, []⟩).memory :=
 (LaidIn.of_run (l := [("unicode/utf8.acceptRanges", Rows.laid_unicode_utf8_acceptRanges), ("unicode/utf8.first", Rows.laid_unicode_utf8_first)]) [1, 0] 8 (by kernel_rfl) (by kernel_rfl) (by kernel_rfl) (by kernel_rfl)).met
end Go.Proofs.YtjlliohjeiclaaaDoor
