/- Words, contracts and walks that the proof stands on (KnB Grw KnC ElS). -/
import Derived.Sort.Grow
import Derived.Test.YtjlliohjeiclaaaGreatDoorKA1
import Derived.Test.YtjlliohjeiclaaaGreatDoorKA2
import Derived.Test.YtjlliohjeiclaaaGreatDoorKA3
namespace Go.Proofs.YtjlliohjeiclaaaGreatDoor
open Go.RowKit St Pm Ku
namespace Kn
def okK (l : List ByteArray) (k : Int) (x : ByteArray) (d : Int) (t : ByteArray) : Bool := pathG l && (keyG x && (thingG k && (decide (kindK d ≠ 0) && decide (t.size ≤ 256))))
def bareK (d m : Int) (t : ByteArray) : Bool := decide ((if d = 1 then 0 else m) = 0) && decide ((if d = 1 ∨ d = 6 then t else ⟨#[]⟩) = ⟨#[]⟩)
def checkK (l : List ByteArray) (k : Int) (x : ByteArray) (d m : Int) (t : ByteArray) : Int := if okK l k x d t = true then (if bareK d m t = true then (if kindK d = k then 0 else 7) else 2) else 2
theorem check_bad {l : List ByteArray} {k : Int} {x : ByteArray} {d m : Int} {t : ByteArray} (h : okK l k x d t = false) : checkK l k x d m t = 2 := by unfold checkK; rw [h]; rfl
theorem check_bare {l : List ByteArray} {k : Int} {x : ByteArray} {d m : Int} {t : ByteArray} (h : bareK d m t = false) : checkK l k x d m t = 2 := by unfold checkK; rw [h]; split <;> rfl
end Kn
open Kn
theorem key_Text (s : ByteArray) (w : World) : Calls Tryz.prog 85 #[.string s] w fun e w' => e = .returned (.bool (decide (s.size ≤ 256))) ∧ Below w.heap.size w w' := by
 go_enter Tryz.func85, Tryz.ntmps85
 go_wp2
 go_ret
 refine ⟨?_, Below.refl _ _⟩
 by_cases h : s.size ≤ 256 <;> simp [h] <;> omega
theorem fields_neq (m : Int) (t : ByteArray) (w : World) : (binOp .neq 182 (.agg #[.int .i64 m, .string t]) (.agg #[.int .i64 0, .string ⟨#[]⟩])).run Tryz.prog w = .ok (.bool (!(decide (m = 0) && decide (t = ⟨#[]⟩)))) w := by
 rw [run_neq_struct]
 simp [go_sem, Tryz.underlying182]
 have e : (⟨#[]⟩ : ByteArray).toList = [] := by rw [ByteArray.toList_eq]
 have ht : t.toList = [] ↔ t = ⟨#[]⟩ := by
  constructor
  · intro h
    apply ByteArray.ext
    apply Array.toList_inj.1
    rw [ByteArray.toList_eq] at h
    simpa using h
  · intro h; rw [h]; exact e
 by_cases h1 : m = 0 <;> by_cases h2 : t = ⟨#[]⟩ <;> simp [h1, h2, ht]
theorem kn_OfB (d : Int) (w : World) : Calls Tryz.prog 121 #[.int .i64 d] w fun e w' => e = .returned (.int .i64 (kindK d)) ∧ Below w.heap.size w w' := (kn_Of d w).mono fun _ _ ⟨h1, h2⟩ => ⟨h1, by rw [← h2]; exact Below.refl _ _⟩
theorem kn_thingB (k : Int) (w : World) : Calls Tryz.prog 84 #[.int .i64 k] w fun e w' => e = .returned (.bool (thingG k)) ∧ Below w.heap.size w w' := (kn_thing k w).mono fun _ _ ⟨h1, h2⟩ => ⟨h1, by rw [← h2]; exact Below.refl _ _⟩
set_option maxRecDepth 100000 in
set_option maxHeartbeats 4000000 in
theorem kn_Check (l : List ByteArray) (k : Int) (x : ByteArray) (d m : Int) (t : ByteArray) (a : Option Addr) (n c : Nat) (w : World) (hl : CellsAt w a (txV l)) (hn : n = l.length) (hs : ∀ x ∈ l, x.size ≤ 9223372036854775807) (hx : x.size ≤ 9223372036854775807) (hG : Glob w) :
 Calls Tryz.prog 76 #[.agg #[.slice a n c, .int .i64 k, .string x, .int .i64 d, .int .i64 m, .string t]] w fun e w' => e = .returned (.int .i64 (checkK l k x d m t)) ∧ Below w.heap.size w w' := by
 have HL := Lib.hid hl
 have HN := Lib.hid hn
 have HSZ := Lib.hid hs
 have HX := Lib.hid hx
 have G := Lib.hid hG
 obtain ⟨re, hre⟩ : ∃ r, checkK l k x d m t = r := ⟨_, rfl⟩
 have RE := Lib.hid hre
 rw [hre]
 clear hl hn hs hx hG hre
 have HC : Hid (Chain [w] w) := Lib.hid (Chain.one w)
 go_enter Tryz.func76, Tryz.ntmps76
 go_upto_region 1 with (fail)
 obtain ⟨z, hz⟩ : ∃ c, w.heap.size = c := ⟨_, rfl⟩
 try rw [hz]
 obtain ⟨w1, hw1⟩ : ∃ X, allocs w [.cells #[.slice a n c, .int .i64 k, .string x, .int .i64 d, .int .i64 m, .string t] 82] = X := ⟨_, rfl⟩
 rw [show w.alloc (.cells #[.slice a n c, .int .i64 k, .string x, .int .i64 d, .int .i64 m, .string t] 82) = w1 from hw1]
 have hb : Below w.heap.size w w1 := by rw [← hw1]; exact allocs_below _ _
 have HO : Hid (w1.heap[z]? = some (.cells #[.slice a n c, .int .i64 k, .string x, .int .i64 d, .int .i64 m, .string t] 82 (0, 0))) := Lib.hid (by have := allocs_get [.cells #[.slice a n c, .int .i64 k, .string x, .int .i64 d, .int .i64 m, .string t] 82] w 0 _ rfl; rw [hw1, hz] at this; exact this)
 have Sz : Hid (w.heap.size = z) := Lib.hid hz
 replace HC := Lib.hid (HC.out.push hb)
 clear hb hw1 hz
 have kO0 := cell_of_row _ _ 0 _ _ _ HO.out
 have kO1 := cell_of_row _ _ 1 _ _ _ HO.out
 have kO2 := cell_of_row _ _ 2 _ _ _ HO.out
 have kO3 := cell_of_row _ _ 3 _ _ _ HO.out
 have kO4 := cell_of_row _ _ 4 _ _ _ HO.out
 have kO5 := cell_of_row _ _ 5 _ _ _ HO.out
 go_wp2_with fail
 refine (key_Path l a n c _ (HL.out.below (HC.out.to w (by simp)) rfl) HN.out HSZ.out (G.out.below (HC.out.to w (by simp)))).mono ?_
 rintro e w2 ⟨rfl, hb⟩
 clear kO0 kO1 kO2 kO3 kO4 kO5
 replace HC := Lib.hid (HC.out.push hb)
 clear hb
 obtain ⟨b1, h1⟩ : ∃ b, pathG l = b := ⟨_, rfl⟩
 rw [h1]
 have H1 := Lib.hid h1
 clear h1
 cases b1
 case false =>
  obtain rfl : (2 : Int) = re := by rw [← RE.out]; exact (check_bad (by unfold okK; simp [H1.out])).symm
  have kO0 := cell_of_row _ _ 0 _ _ _ (boxStays HO.out (HC.out.to w1 (by simp)))
  have kO1 := cell_of_row _ _ 1 _ _ _ (boxStays HO.out (HC.out.to w1 (by simp)))
  have kO2 := cell_of_row _ _ 2 _ _ _ (boxStays HO.out (HC.out.to w1 (by simp)))
  have kO3 := cell_of_row _ _ 3 _ _ _ (boxStays HO.out (HC.out.to w1 (by simp)))
  have kO4 := cell_of_row _ _ 4 _ _ _ (boxStays HO.out (HC.out.to w1 (by simp)))
  have kO5 := cell_of_row _ _ 5 _ _ _ (boxStays HO.out (HC.out.to w1 (by simp)))
  go_wp2_with fail
  go_ret
  exact ⟨rfl, (HC.out.to w (by simp))⟩
 have kO0 := cell_of_row _ _ 0 _ _ _ (boxStays HO.out (HC.out.to w1 (by simp)))
 have kO1 := cell_of_row _ _ 1 _ _ _ (boxStays HO.out (HC.out.to w1 (by simp)))
 have kO2 := cell_of_row _ _ 2 _ _ _ (boxStays HO.out (HC.out.to w1 (by simp)))
 have kO3 := cell_of_row _ _ 3 _ _ _ (boxStays HO.out (HC.out.to w1 (by simp)))
 have kO4 := cell_of_row _ _ 4 _ _ _ (boxStays HO.out (HC.out.to w1 (by simp)))
 have kO5 := cell_of_row _ _ 5 _ _ _ (boxStays HO.out (HC.out.to w1 (by simp)))
 go_wp2_with fail
 refine (key_Key x _ HX.out (G.out.below (HC.out.to w (by simp)))).mono ?_
 rintro e w3 ⟨rfl, hb⟩
 clear kO0 kO1 kO2 kO3 kO4 kO5
 replace HC := Lib.hid (HC.out.push hb)
 clear hb
 obtain ⟨b2, h2⟩ : ∃ b, keyG x = b := ⟨_, rfl⟩
 rw [h2]
 have H2 := Lib.hid h2
 clear h2
 cases b2
 case false =>
  obtain rfl : (2 : Int) = re := by rw [← RE.out]; exact (check_bad (by unfold okK; simp [H2.out])).symm
  have kO0 := cell_of_row _ _ 0 _ _ _ (boxStays HO.out (HC.out.to w1 (by simp)))
  have kO1 := cell_of_row _ _ 1 _ _ _ (boxStays HO.out (HC.out.to w1 (by simp)))
  have kO2 := cell_of_row _ _ 2 _ _ _ (boxStays HO.out (HC.out.to w1 (by simp)))
  have kO3 := cell_of_row _ _ 3 _ _ _ (boxStays HO.out (HC.out.to w1 (by simp)))
  have kO4 := cell_of_row _ _ 4 _ _ _ (boxStays HO.out (HC.out.to w1 (by simp)))
  have kO5 := cell_of_row _ _ 5 _ _ _ (boxStays HO.out (HC.out.to w1 (by simp)))
  go_wp2_with fail
  go_ret
  exact ⟨rfl, (HC.out.to w (by simp))⟩
 have kO0 := cell_of_row _ _ 0 _ _ _ (boxStays HO.out (HC.out.to w1 (by simp)))
 have kO1 := cell_of_row _ _ 1 _ _ _ (boxStays HO.out (HC.out.to w1 (by simp)))
 have kO2 := cell_of_row _ _ 2 _ _ _ (boxStays HO.out (HC.out.to w1 (by simp)))
 have kO3 := cell_of_row _ _ 3 _ _ _ (boxStays HO.out (HC.out.to w1 (by simp)))
 have kO4 := cell_of_row _ _ 4 _ _ _ (boxStays HO.out (HC.out.to w1 (by simp)))
 have kO5 := cell_of_row _ _ 5 _ _ _ (boxStays HO.out (HC.out.to w1 (by simp)))
 go_wp2_with fail
 refine (kn_thingB k _).mono ?_
 rintro e w4 ⟨rfl, hb⟩
 clear kO0 kO1 kO2 kO3 kO4 kO5
 replace HC := Lib.hid (HC.out.push hb)
 clear hb
 obtain ⟨b3, h3⟩ : ∃ b, thingG k = b := ⟨_, rfl⟩
 rw [h3]
 have H3 := Lib.hid h3
 clear h3
 cases b3
 case false =>
  obtain rfl : (2 : Int) = re := by rw [← RE.out]; exact (check_bad (by unfold okK; simp [H3.out])).symm
  have kO0 := cell_of_row _ _ 0 _ _ _ (boxStays HO.out (HC.out.to w1 (by simp)))
  have kO1 := cell_of_row _ _ 1 _ _ _ (boxStays HO.out (HC.out.to w1 (by simp)))
  have kO2 := cell_of_row _ _ 2 _ _ _ (boxStays HO.out (HC.out.to w1 (by simp)))
  have kO3 := cell_of_row _ _ 3 _ _ _ (boxStays HO.out (HC.out.to w1 (by simp)))
  have kO4 := cell_of_row _ _ 4 _ _ _ (boxStays HO.out (HC.out.to w1 (by simp)))
  have kO5 := cell_of_row _ _ 5 _ _ _ (boxStays HO.out (HC.out.to w1 (by simp)))
  go_wp2_with fail
  go_ret
  exact ⟨rfl, (HC.out.to w (by simp))⟩
 have kO0 := cell_of_row _ _ 0 _ _ _ (boxStays HO.out (HC.out.to w1 (by simp)))
 have kO1 := cell_of_row _ _ 1 _ _ _ (boxStays HO.out (HC.out.to w1 (by simp)))
 have kO2 := cell_of_row _ _ 2 _ _ _ (boxStays HO.out (HC.out.to w1 (by simp)))
 have kO3 := cell_of_row _ _ 3 _ _ _ (boxStays HO.out (HC.out.to w1 (by simp)))
 have kO4 := cell_of_row _ _ 4 _ _ _ (boxStays HO.out (HC.out.to w1 (by simp)))
 have kO5 := cell_of_row _ _ 5 _ _ _ (boxStays HO.out (HC.out.to w1 (by simp)))
 go_wp2_with fail
 refine (kn_OfB d _).mono ?_
 rintro e w5 ⟨rfl, hb⟩
 clear kO0 kO1 kO2 kO3 kO4 kO5
 replace HC := Lib.hid (HC.out.push hb)
 clear hb
 obtain ⟨kd, h4⟩ : ∃ q, kindK d = q := ⟨_, rfl⟩
 rw [h4]
 have H4 := Lib.hid h4
 clear h4
 by_cases h40 : kd = 0
 · subst h40
   obtain rfl : (2 : Int) = re := by rw [← RE.out]; exact (check_bad (by unfold okK; simp [H4.out])).symm
   have kO0 := cell_of_row _ _ 0 _ _ _ (boxStays HO.out (HC.out.to w1 (by simp)))
   have kO1 := cell_of_row _ _ 1 _ _ _ (boxStays HO.out (HC.out.to w1 (by simp)))
   have kO2 := cell_of_row _ _ 2 _ _ _ (boxStays HO.out (HC.out.to w1 (by simp)))
   have kO3 := cell_of_row _ _ 3 _ _ _ (boxStays HO.out (HC.out.to w1 (by simp)))
   have kO4 := cell_of_row _ _ 4 _ _ _ (boxStays HO.out (HC.out.to w1 (by simp)))
   have kO5 := cell_of_row _ _ 5 _ _ _ (boxStays HO.out (HC.out.to w1 (by simp)))
   go_wp2_with fail
   go_ret
   exact ⟨rfl, (HC.out.to w (by simp))⟩
 have h40b : (kd == 0) = false := by simp [h40]
 have kO0 := cell_of_row _ _ 0 _ _ _ (boxStays HO.out (HC.out.to w1 (by simp)))
 have kO1 := cell_of_row _ _ 1 _ _ _ (boxStays HO.out (HC.out.to w1 (by simp)))
 have kO2 := cell_of_row _ _ 2 _ _ _ (boxStays HO.out (HC.out.to w1 (by simp)))
 have kO3 := cell_of_row _ _ 3 _ _ _ (boxStays HO.out (HC.out.to w1 (by simp)))
 have kO4 := cell_of_row _ _ 4 _ _ _ (boxStays HO.out (HC.out.to w1 (by simp)))
 have kO5 := cell_of_row _ _ 5 _ _ _ (boxStays HO.out (HC.out.to w1 (by simp)))
 go_wp2_with fail
 refine (key_Text t _).mono ?_
 rintro e w6 ⟨rfl, hb⟩
 clear kO0 kO1 kO2 kO3 kO4 kO5
 replace HC := Lib.hid (HC.out.push hb)
 clear hb
 obtain ⟨b5, h5⟩ : ∃ b, decide (t.size ≤ 256) = b := ⟨_, rfl⟩
 rw [h5]
 have H5 := Lib.hid h5
 clear h5
 cases b5
 case false =>
  obtain rfl : (2 : Int) = re := by rw [← RE.out]; exact (check_bad (by unfold okK; simp [H5.out])).symm
  have kO0 := cell_of_row _ _ 0 _ _ _ (boxStays HO.out (HC.out.to w1 (by simp)))
  have kO1 := cell_of_row _ _ 1 _ _ _ (boxStays HO.out (HC.out.to w1 (by simp)))
  have kO2 := cell_of_row _ _ 2 _ _ _ (boxStays HO.out (HC.out.to w1 (by simp)))
  have kO3 := cell_of_row _ _ 3 _ _ _ (boxStays HO.out (HC.out.to w1 (by simp)))
  have kO4 := cell_of_row _ _ 4 _ _ _ (boxStays HO.out (HC.out.to w1 (by simp)))
  have kO5 := cell_of_row _ _ 5 _ _ _ (boxStays HO.out (HC.out.to w1 (by simp)))
  go_wp2_with fail
  go_ret
  exact ⟨rfl, (HC.out.to w (by simp))⟩
 have HOK : Hid (okK l k x d t = true) := Lib.hid (by unfold okK; simp [H1.out, H2.out, H3.out, H4.out, h40]; simpa using H5.out)
 clear h40b
 have kO0 := cell_of_row _ _ 0 _ _ _ (boxStays HO.out (HC.out.to w1 (by simp)))
 have kO1 := cell_of_row _ _ 1 _ _ _ (boxStays HO.out (HC.out.to w1 (by simp)))
 have kO2 := cell_of_row _ _ 2 _ _ _ (boxStays HO.out (HC.out.to w1 (by simp)))
 have kO3 := cell_of_row _ _ 3 _ _ _ (boxStays HO.out (HC.out.to w1 (by simp)))
 have kO4 := cell_of_row _ _ 4 _ _ _ (boxStays HO.out (HC.out.to w1 (by simp)))
 have kO5 := cell_of_row _ _ 5 _ _ _ (boxStays HO.out (HC.out.to w1 (by simp)))
 go_upto_region 4 with (fail)
 have LZ : Hid (z < w6.heap.size ∧ w.heap.size ≤ w6.heap.size) := Lib.hid ⟨Nat.lt_of_lt_of_le (Array.getElem?_eq_some_iff.1 HO.out).1 (HC.out.to w1 (by simp)).size, (HC.out.to w (by simp)).size⟩
 clear kO0 kO1 kO2 kO3 kO4 kO5
 obtain ⟨y, hy⟩ : ∃ c, w6.heap.size = c := ⟨_, rfl⟩
 try rw [hy]
 obtain ⟨w7, hw7⟩ : ∃ X, allocs w6 [.cells #[.int .i64 m, .string t] 182] = X := ⟨_, rfl⟩
 rw [show w6.alloc (.cells #[.int .i64 m, .string t] 182) = w7 from hw7]
 have hb : Below w6.heap.size w6 w7 := by rw [← hw7]; exact allocs_below _ _
 have HB : Hid (w7.heap[y]? = some (.cells #[.int .i64 m, .string t] 182 (0, 0))) := Lib.hid (by have := allocs_get [.cells #[.int .i64 m, .string t] 182] w6 0 _ rfl; rw [hw7, hy] at this; exact this)
 have Sy : Hid (w6.heap.size = y) := Lib.hid hy
 replace HC := Lib.hid (HC.out.push hb)
 clear hb hw7 hy
 have ZY : Hid (w.heap.size ≤ y ∧ z ≠ y) := Lib.hid (by have h1 := LZ.out; have h2 := Sy.out; omega)
 have kO0 := cell_of_row _ _ 0 _ _ _ (boxStays HO.out (HC.out.to w1 (by simp)))
 have kO1 := cell_of_row _ _ 1 _ _ _ (boxStays HO.out (HC.out.to w1 (by simp)))
 have kO2 := cell_of_row _ _ 2 _ _ _ (boxStays HO.out (HC.out.to w1 (by simp)))
 have kO3 := cell_of_row _ _ 3 _ _ _ (boxStays HO.out (HC.out.to w1 (by simp)))
 have kO4 := cell_of_row _ _ 4 _ _ _ (boxStays HO.out (HC.out.to w1 (by simp)))
 have kO5 := cell_of_row _ _ 5 _ _ _ (boxStays HO.out (HC.out.to w1 (by simp)))
 have kB0 := cell_of_row _ _ 0 _ _ _ HB.out
 have kB1 := cell_of_row _ _ 1 _ _ _ HB.out
 have fB0 := frozen_of_row _ (y) 0 _ _ HB.out
 have fB1 := frozen_of_row _ (y) 1 _ _ HB.out
 rcases (by omega : d = 1 ∨ d = 6 ∨ (d ≠ 1 ∧ d ≠ 6)) with rfl | rfl | ⟨hd1, hd6⟩
 · go_upto_region 9 with (fail)
   have BB : Hid ((w7.setCell ⟨y, 0, none⟩ (.int .i64 0)).heap[y]? = some (.cells #[.int .i64 0, .string t] 182 (0, 0))) := Lib.hid (by have := heap_setCell_same w7 y 0 _ _ (.int .i64 0) HB.out; simpa using this)
   have BO : Hid ((w7.setCell ⟨y, 0, none⟩ (.int .i64 0)).heap[z]? = some (.cells #[.slice a n c, .int .i64 k, .string x, .int .i64 1, .int .i64 m, .string t] 82 (0, 0))) := Lib.hid ((Below.heap_setCell _ _ _ _ (by simpa using ZY.out.2)).trans (boxStays HO.out (HC.out.to w1 (by simp))))
   have BW : Hid (Below w.heap.size w (w7.setCell ⟨y, 0, none⟩ (.int .i64 0))) := Lib.hid ((HC.out.to w (by simp)).setCell (p := ⟨y, 0, none⟩) ZY.out.1 _)
   have BAR : Hid (∀ b, (!(decide ((0 : Int) = 0) && decide (t = ⟨#[]⟩))) = b → bareK 1 m t = !b) := Lib.hid (fun b hb => by subst hb; unfold bareK; simp)
   clear kO0 kO1 kO2 kO3 kO4 kO5 kB0 kB1 fB0 fB1
   clear HC HB HO
   generalize w7.setCell ⟨y, 0, none⟩ (.int .i64 0) = wS at *
   have EN := fields_neq (0:Int) t
   obtain ⟨bb, hbb⟩ : ∃ b, (!(decide ((0:Int) = 0) && decide (t = ⟨#[]⟩))) = b := ⟨_, rfl⟩
   rw [hbb] at EN
   have HBB := Lib.hid hbb
   have y0 := cell_of_row _ y 0 _ _ _ BB.out
   have y1 := cell_of_row _ y 1 _ _ _ BB.out
   clear hbb
   cases bb
   case true =>
    obtain rfl : (2 : Int) = re := by rw [← RE.out]; exact (check_bare (BAR.out _ HBB.out)).symm
    go_wp2_with fail
    go_ret
    exact ⟨rfl, BW.out⟩
   have HRE : Hid (re = if kd = k then 0 else 7) := Lib.hid (by
    rw [← RE.out]
    unfold checkK
    rw [HOK.out, BAR.out _ HBB.out, H4.out]
    rfl)
   go_upto_region 11 with (fail)
   clear EN y0 y1
   refine relG_start (slots := [48, 49, 50, 51, 52, 53]) (so := []) (by kernel_rfl) (by kernel_rfl) (by rfl) ?_
   refine relG_pure (i := 0) (o := ⟨some 48, _, _, _, _, _⟩) (v := ?v1) [] [1] rfl rfl (by kernel_rfl) (by kernel_rfl) (fun t w1 hB hf hbf => ?y1) ?n1
   case y1 =>
    simp only [BasF] at hbf
    clear hf
    obtain ⟨⟨b1, k1⟩, _⟩ := hbf
    have yo := boxStays BO.out hB
    have o1 := cell_of_row _ z 1 _ _ _ yo
    have o3 := cell_of_row _ z 3 _ _ _ yo
    clear yo
    refine Or.inl ⟨wanted_none rfl, ?_⟩
    rintro _ rfl
    go_simp <;> with_reducible rfl
   refine relG_pure (i := 1) (o := ⟨some 49, _, _, _, _, _⟩) (v := ?v2) [(0, 48, 0)] [] rfl rfl (by kernel_rfl) (by kernel_rfl) (fun t w1 hB hf hbf => ?y2) ?n2
   case y2 =>
    simp only [DepF, List.getD_cons_zero] at hf
    obtain ⟨⟨_, ⟨e48, i48⟩, rfl⟩, _⟩ := hf
    clear hbf
    have yo := boxStays BO.out hB
    have o1 := cell_of_row _ z 1 _ _ _ yo
    have o3 := cell_of_row _ z 3 _ _ _ yo
    clear yo
    refine Or.inl ⟨wanted_none rfl, ?_⟩
    rintro _ rfl
    go_simp <;> with_reducible rfl
   refine relG_call (i := 2) (o := ⟨some 50, _, _, _, _, _⟩) ((fun v _ => v = .int .i64 kd)) [(1, 49, 0)] [] rfl rfl (by kernel_rfl) (by kernel_rfl) ((fun _ _ _ h _ => h)) ?_ ?_
   · intro t w1 hB hf hbf K hK
     simp only [DepF, List.getD_cons_zero] at hf
     obtain ⟨⟨_, ⟨e49, i49⟩, rfl⟩, _⟩ := hf
     clear hbf
     have yo := boxStays BO.out hB
     have o1 := cell_of_row _ z 1 _ _ _ yo
     have o3 := cell_of_row _ z 3 _ _ _ yo
     clear yo
     refine ⟨wanted_none rfl, ?_⟩
     go_simp
     refine (kn_OfB _ w1).mono ?_
     rintro e w2 ⟨rfl, hb⟩
     exact hK.out _ w2 (by rw [H4.out]) hb
   refine relG_pure (i := 3) (o := ⟨some 51, _, _, _, _, _⟩) (v := ?v3) [] [1] rfl rfl (by kernel_rfl) (by kernel_rfl) (fun t w1 hB hf hbf => ?y3) ?n3
   case y3 =>
    simp only [BasF] at hbf
    clear hf
    obtain ⟨⟨b1, k1⟩, _⟩ := hbf
    have yo := boxStays BO.out hB
    have o1 := cell_of_row _ z 1 _ _ _ yo
    have o3 := cell_of_row _ z 3 _ _ _ yo
    clear yo
    refine Or.inl ⟨wanted_none rfl, ?_⟩
    rintro _ rfl
    go_simp <;> with_reducible rfl
   refine relG_pure (i := 4) (o := ⟨some 52, _, _, _, _, _⟩) (v := ?v4) [(3, 51, 0)] [] rfl rfl (by kernel_rfl) (by kernel_rfl) (fun t w1 hB hf hbf => ?y4) ?n4
   case y4 =>
    simp only [DepF, List.getD_cons_zero] at hf
    obtain ⟨⟨_, ⟨e51, i51⟩, rfl⟩, _⟩ := hf
    clear hbf
    have yo := boxStays BO.out hB
    have o1 := cell_of_row _ z 1 _ _ _ yo
    have o3 := cell_of_row _ z 3 _ _ _ yo
    clear yo
    refine Or.inl ⟨wanted_none rfl, ?_⟩
    rintro _ rfl
    go_simp <;> with_reducible rfl
   refine relG_pure (i := 5) (o := ⟨some 53, _, _, _, _, _⟩) (v := ?v5) [(2, 50, 2), (4, 52, 0)] [] rfl rfl (by kernel_rfl) (by kernel_rfl) (fun t w1 hB hf hbf => ?y5) ?n5
   case y5 =>
    simp only [DepF, List.getD_cons_zero, List.getD_cons_succ] at hf
    obtain ⟨⟨_, ⟨e50, i50⟩, rfl⟩, ⟨_, ⟨e52, i52⟩, rfl⟩, _⟩ := hf
    clear hbf
    have yo := boxStays BO.out hB
    have o1 := cell_of_row _ z 1 _ _ _ yo
    have o3 := cell_of_row _ z 3 _ _ _ yo
    clear yo
    refine Or.inl ⟨wanted_none rfl, ?_⟩
    rintro _ rfl
    go_simp <;> with_reducible rfl
   refine relG_done [(0, 48, 5), (1, 49, 4), (2, 50, 3), (3, 51, 2), (4, 52, 1), (5, 53, 0)] (by kernel_rfl) rfl (by kernel_rfl) (fun f wE hB hf => ?_)
   simp only [FinF, List.getD_cons_zero, List.getD_cons_succ] at hf
   obtain ⟨⟨_, e48, rfl⟩, ⟨_, e49, rfl⟩, ⟨_, e50, rfl⟩, ⟨_, e51, rfl⟩, ⟨_, e52, rfl⟩, ⟨_, e53, rfl⟩, _⟩ := hf
   simp only [regT, List.foldl_cons, List.foldl_nil, List.setIfInBounds_toArray, List.set_cons_zero, List.set_cons_succ, e48, e49, e50, e51, e52, e53]
   clear e48 e49 e50 e51 e52 e53
   have BW2 := Lib.hid (BW.out.trans (hB.mono BW.out.size))
   clear hB
   by_cases hkk : kd = k
   · have hkb : (kd != k) = false := by simp [hkk]
     obtain rfl : re = 0 := by rw [HRE.out, if_pos hkk]
     go_wp2_with fail
     go_ret
     exact ⟨rfl, BW2.out⟩
   · have hkb : (kd != k) = true := by simp [hkk]
     obtain rfl : re = 7 := by rw [HRE.out, if_neg hkk]
     go_wp2_with fail
     go_ret
     exact ⟨rfl, BW2.out⟩
 · go_upto_region 9 with (fail)
   have BB := HB
   have BO : Hid (w7.heap[z]? = some (.cells #[.slice a n c, .int .i64 k, .string x, .int .i64 6, .int .i64 m, .string t] 82 (0, 0))) := Lib.hid (boxStays HO.out (HC.out.to w1 (by simp)))
   have BW : Hid (Below w.heap.size w w7) := Lib.hid (HC.out.to w (by simp))
   have BAR : Hid (∀ b, (!(decide (m = 0) && decide (t = ⟨#[]⟩))) = b → bareK 6 m t = !b) := Lib.hid (fun b hb => by subst hb; unfold bareK; simp)
   clear HC HB HO kO0 kO1 kO2 kO3 kO4 kO5 kB0 kB1 fB0 fB1
   generalize w7 = wS at *
   have EN := fields_neq m t
   obtain ⟨bb, hbb⟩ : ∃ b, (!(decide (m = 0) && decide (t = ⟨#[]⟩))) = b := ⟨_, rfl⟩
   rw [hbb] at EN
   have HBB := Lib.hid hbb
   have y0 := cell_of_row _ y 0 _ _ _ BB.out
   have y1 := cell_of_row _ y 1 _ _ _ BB.out
   clear hbb
   cases bb
   case true =>
    obtain rfl : (2 : Int) = re := by rw [← RE.out]; exact (check_bare (BAR.out _ HBB.out)).symm
    go_wp2_with fail
    go_ret
    exact ⟨rfl, BW.out⟩
   have HRE : Hid (re = if kd = k then 0 else 7) := Lib.hid (by
    rw [← RE.out]
    unfold checkK
    rw [HOK.out, BAR.out _ HBB.out, H4.out]
    rfl)
   go_upto_region 11 with (fail)
   clear EN y0 y1
   refine relG_start (slots := [48, 49, 50, 51, 52, 53]) (so := []) (by kernel_rfl) (by kernel_rfl) (by rfl) ?_
   refine relG_pure (i := 0) (o := ⟨some 48, _, _, _, _, _⟩) (v := ?v6) [] [1] rfl rfl (by kernel_rfl) (by kernel_rfl) (fun t w1 hB hf hbf => ?y6) ?n6
   case y6 =>
    simp only [BasF] at hbf
    clear hf
    obtain ⟨⟨b1, k1⟩, _⟩ := hbf
    have yo := boxStays BO.out hB
    have o1 := cell_of_row _ z 1 _ _ _ yo
    have o3 := cell_of_row _ z 3 _ _ _ yo
    clear yo
    refine Or.inl ⟨wanted_none rfl, ?_⟩
    rintro _ rfl
    go_simp <;> with_reducible rfl
   refine relG_pure (i := 1) (o := ⟨some 49, _, _, _, _, _⟩) (v := ?v7) [(0, 48, 0)] [] rfl rfl (by kernel_rfl) (by kernel_rfl) (fun t w1 hB hf hbf => ?y7) ?n7
   case y7 =>
    simp only [DepF, List.getD_cons_zero] at hf
    obtain ⟨⟨_, ⟨e48, i48⟩, rfl⟩, _⟩ := hf
    clear hbf
    have yo := boxStays BO.out hB
    have o1 := cell_of_row _ z 1 _ _ _ yo
    have o3 := cell_of_row _ z 3 _ _ _ yo
    clear yo
    refine Or.inl ⟨wanted_none rfl, ?_⟩
    rintro _ rfl
    go_simp <;> with_reducible rfl
   refine relG_call (i := 2) (o := ⟨some 50, _, _, _, _, _⟩) ((fun v _ => v = .int .i64 kd)) [(1, 49, 0)] [] rfl rfl (by kernel_rfl) (by kernel_rfl) ((fun _ _ _ h _ => h)) ?_ ?_
   · intro t w1 hB hf hbf K hK
     simp only [DepF, List.getD_cons_zero] at hf
     obtain ⟨⟨_, ⟨e49, i49⟩, rfl⟩, _⟩ := hf
     clear hbf
     have yo := boxStays BO.out hB
     have o1 := cell_of_row _ z 1 _ _ _ yo
     have o3 := cell_of_row _ z 3 _ _ _ yo
     clear yo
     refine ⟨wanted_none rfl, ?_⟩
     go_simp
     refine (kn_OfB _ w1).mono ?_
     rintro e w2 ⟨rfl, hb⟩
     exact hK.out _ w2 (by rw [H4.out]) hb
   refine relG_pure (i := 3) (o := ⟨some 51, _, _, _, _, _⟩) (v := ?v8) [] [1] rfl rfl (by kernel_rfl) (by kernel_rfl) (fun t w1 hB hf hbf => ?y8) ?n8
   case y8 =>
    simp only [BasF] at hbf
    clear hf
    obtain ⟨⟨b1, k1⟩, _⟩ := hbf
    have yo := boxStays BO.out hB
    have o1 := cell_of_row _ z 1 _ _ _ yo
    have o3 := cell_of_row _ z 3 _ _ _ yo
    clear yo
    refine Or.inl ⟨wanted_none rfl, ?_⟩
    rintro _ rfl
    go_simp <;> with_reducible rfl
   refine relG_pure (i := 4) (o := ⟨some 52, _, _, _, _, _⟩) (v := ?v9) [(3, 51, 0)] [] rfl rfl (by kernel_rfl) (by kernel_rfl) (fun t w1 hB hf hbf => ?y9) ?n9
   case y9 =>
    simp only [DepF, List.getD_cons_zero] at hf
    obtain ⟨⟨_, ⟨e51, i51⟩, rfl⟩, _⟩ := hf
    clear hbf
    have yo := boxStays BO.out hB
    have o1 := cell_of_row _ z 1 _ _ _ yo
    have o3 := cell_of_row _ z 3 _ _ _ yo
    clear yo
    refine Or.inl ⟨wanted_none rfl, ?_⟩
    rintro _ rfl
    go_simp <;> with_reducible rfl
   refine relG_pure (i := 5) (o := ⟨some 53, _, _, _, _, _⟩) (v := ?v10) [(2, 50, 2), (4, 52, 0)] [] rfl rfl (by kernel_rfl) (by kernel_rfl) (fun t w1 hB hf hbf => ?y10) ?n10
   case y10 =>
    simp only [DepF, List.getD_cons_zero, List.getD_cons_succ] at hf
    obtain ⟨⟨_, ⟨e50, i50⟩, rfl⟩, ⟨_, ⟨e52, i52⟩, rfl⟩, _⟩ := hf
    clear hbf
    have yo := boxStays BO.out hB
    have o1 := cell_of_row _ z 1 _ _ _ yo
    have o3 := cell_of_row _ z 3 _ _ _ yo
    clear yo
    refine Or.inl ⟨wanted_none rfl, ?_⟩
    rintro _ rfl
    go_simp <;> with_reducible rfl
   refine relG_done [(0, 48, 5), (1, 49, 4), (2, 50, 3), (3, 51, 2), (4, 52, 1), (5, 53, 0)] (by kernel_rfl) rfl (by kernel_rfl) (fun f wE hB hf => ?_)
   simp only [FinF, List.getD_cons_zero, List.getD_cons_succ] at hf
   obtain ⟨⟨_, e48, rfl⟩, ⟨_, e49, rfl⟩, ⟨_, e50, rfl⟩, ⟨_, e51, rfl⟩, ⟨_, e52, rfl⟩, ⟨_, e53, rfl⟩, _⟩ := hf
   simp only [regT, List.foldl_cons, List.foldl_nil, List.setIfInBounds_toArray, List.set_cons_zero, List.set_cons_succ, e48, e49, e50, e51, e52, e53]
   clear e48 e49 e50 e51 e52 e53
   have BW2 := Lib.hid (BW.out.trans (hB.mono BW.out.size))
   clear hB
   by_cases hkk : kd = k
   · have hkb : (kd != k) = false := by simp [hkk]
     obtain rfl : re = 0 := by rw [HRE.out, if_pos hkk]
     go_wp2_with fail
     go_ret
     exact ⟨rfl, BW2.out⟩
   · have hkb : (kd != k) = true := by simp [hkk]
     obtain rfl : re = 7 := by rw [HRE.out, if_neg hkk]
     go_wp2_with fail
     go_ret
     exact ⟨rfl, BW2.out⟩
 · go_upto_region 9 with (fail)
   have BB : Hid ((w7.setCell ⟨y, 1, none⟩ (.string ⟨#[]⟩)).heap[y]? = some (.cells #[.int .i64 m, .string ⟨#[]⟩] 182 (0, 0))) := Lib.hid (by have := heap_setCell_same w7 y 1 _ _ (.string ⟨#[]⟩) HB.out; simpa using this)
   have BO : Hid ((w7.setCell ⟨y, 1, none⟩ (.string ⟨#[]⟩)).heap[z]? = some (.cells #[.slice a n c, .int .i64 k, .string x, .int .i64 d, .int .i64 m, .string t] 82 (0, 0))) := Lib.hid ((Below.heap_setCell _ _ _ _ (by simpa using ZY.out.2)).trans (boxStays HO.out (HC.out.to w1 (by simp))))
   have BW : Hid (Below w.heap.size w (w7.setCell ⟨y, 1, none⟩ (.string ⟨#[]⟩))) := Lib.hid ((HC.out.to w (by simp)).setCell (p := ⟨y, 1, none⟩) ZY.out.1 _)
   have BAR : Hid (∀ b, (!(decide (m = 0) && decide ((⟨#[]⟩ : ByteArray) = ⟨#[]⟩))) = b → bareK d m t = !b) := Lib.hid (fun b hb => by subst hb; unfold bareK; simp [hd1, hd6])
   clear HC HB HO kO0 kO1 kO2 kO3 kO4 kO5 kB0 kB1 fB0 fB1
   generalize w7.setCell ⟨y, 1, none⟩ (.string ⟨#[]⟩) = wS at *
   have EN := fields_neq m (⟨#[]⟩:ByteArray)
   obtain ⟨bb, hbb⟩ : ∃ b, (!(decide (m = 0) && decide ((⟨#[]⟩:ByteArray) = ⟨#[]⟩))) = b := ⟨_, rfl⟩
   rw [hbb] at EN
   have HBB := Lib.hid hbb
   have y0 := cell_of_row _ y 0 _ _ _ BB.out
   have y1 := cell_of_row _ y 1 _ _ _ BB.out
   clear hbb
   cases bb
   case true =>
    obtain rfl : (2 : Int) = re := by rw [← RE.out]; exact (check_bare (BAR.out _ HBB.out)).symm
    go_wp2_with fail
    go_ret
    exact ⟨rfl, BW.out⟩
   have HRE : Hid (re = if kd = k then 0 else 7) := Lib.hid (by
    rw [← RE.out]
    unfold checkK
    rw [HOK.out, BAR.out _ HBB.out, H4.out]
    rfl)
   go_upto_region 11 with (fail)
   clear EN y0 y1
   refine relG_start (slots := [48, 49, 50, 51, 52, 53]) (so := []) (by kernel_rfl) (by kernel_rfl) (by rfl) ?_
   refine relG_pure (i := 0) (o := ⟨some 48, _, _, _, _, _⟩) (v := ?v11) [] [1] rfl rfl (by kernel_rfl) (by kernel_rfl) (fun t w1 hB hf hbf => ?y11) ?n11
   case y11 =>
    simp only [BasF] at hbf
    clear hf
    obtain ⟨⟨b1, k1⟩, _⟩ := hbf
    have yo := boxStays BO.out hB
    have o1 := cell_of_row _ z 1 _ _ _ yo
    have o3 := cell_of_row _ z 3 _ _ _ yo
    clear yo
    refine Or.inl ⟨wanted_none rfl, ?_⟩
    rintro _ rfl
    go_simp <;> with_reducible rfl
   refine relG_pure (i := 1) (o := ⟨some 49, _, _, _, _, _⟩) (v := ?v12) [(0, 48, 0)] [] rfl rfl (by kernel_rfl) (by kernel_rfl) (fun t w1 hB hf hbf => ?y12) ?n12
   case y12 =>
    simp only [DepF, List.getD_cons_zero] at hf
    obtain ⟨⟨_, ⟨e48, i48⟩, rfl⟩, _⟩ := hf
    clear hbf
    have yo := boxStays BO.out hB
    have o1 := cell_of_row _ z 1 _ _ _ yo
    have o3 := cell_of_row _ z 3 _ _ _ yo
    clear yo
    refine Or.inl ⟨wanted_none rfl, ?_⟩
    rintro _ rfl
    go_simp <;> with_reducible rfl
   refine relG_call (i := 2) (o := ⟨some 50, _, _, _, _, _⟩) ((fun v _ => v = .int .i64 kd)) [(1, 49, 0)] [] rfl rfl (by kernel_rfl) (by kernel_rfl) ((fun _ _ _ h _ => h)) ?_ ?_
   · intro t w1 hB hf hbf K hK
     simp only [DepF, List.getD_cons_zero] at hf
     obtain ⟨⟨_, ⟨e49, i49⟩, rfl⟩, _⟩ := hf
     clear hbf
     have yo := boxStays BO.out hB
     have o1 := cell_of_row _ z 1 _ _ _ yo
     have o3 := cell_of_row _ z 3 _ _ _ yo
     clear yo
     refine ⟨wanted_none rfl, ?_⟩
     go_simp
     refine (kn_OfB _ w1).mono ?_
     rintro e w2 ⟨rfl, hb⟩
     exact hK.out _ w2 (by rw [H4.out]) hb
   refine relG_pure (i := 3) (o := ⟨some 51, _, _, _, _, _⟩) (v := ?v13) [] [1] rfl rfl (by kernel_rfl) (by kernel_rfl) (fun t w1 hB hf hbf => ?y13) ?n13
   case y13 =>
    simp only [BasF] at hbf
    clear hf
    obtain ⟨⟨b1, k1⟩, _⟩ := hbf
    have yo := boxStays BO.out hB
    have o1 := cell_of_row _ z 1 _ _ _ yo
    have o3 := cell_of_row _ z 3 _ _ _ yo
    clear yo
    refine Or.inl ⟨wanted_none rfl, ?_⟩
    rintro _ rfl
    go_simp <;> with_reducible rfl
   refine relG_pure (i := 4) (o := ⟨some 52, _, _, _, _, _⟩) (v := ?v14) [(3, 51, 0)] [] rfl rfl (by kernel_rfl) (by kernel_rfl) (fun t w1 hB hf hbf => ?y14) ?n14
   case y14 =>
    simp only [DepF, List.getD_cons_zero] at hf
    obtain ⟨⟨_, ⟨e51, i51⟩, rfl⟩, _⟩ := hf
    clear hbf
    have yo := boxStays BO.out hB
    have o1 := cell_of_row _ z 1 _ _ _ yo
    have o3 := cell_of_row _ z 3 _ _ _ yo
    clear yo
    refine Or.inl ⟨wanted_none rfl, ?_⟩
    rintro _ rfl
    go_simp <;> with_reducible rfl
   refine relG_pure (i := 5) (o := ⟨some 53, _, _, _, _, _⟩) (v := ?v15) [(2, 50, 2), (4, 52, 0)] [] rfl rfl (by kernel_rfl) (by kernel_rfl) (fun t w1 hB hf hbf => ?y15) ?n15
   case y15 =>
    simp only [DepF, List.getD_cons_zero, List.getD_cons_succ] at hf
    obtain ⟨⟨_, ⟨e50, i50⟩, rfl⟩, ⟨_, ⟨e52, i52⟩, rfl⟩, _⟩ := hf
    clear hbf
    have yo := boxStays BO.out hB
    have o1 := cell_of_row _ z 1 _ _ _ yo
    have o3 := cell_of_row _ z 3 _ _ _ yo
    clear yo
    refine Or.inl ⟨wanted_none rfl, ?_⟩
    rintro _ rfl
    go_simp <;> with_reducible rfl
   refine relG_done [(0, 48, 5), (1, 49, 4), (2, 50, 3), (3, 51, 2), (4, 52, 1), (5, 53, 0)] (by kernel_rfl) rfl (by kernel_rfl) (fun f wE hB hf => ?_)
   simp only [FinF, List.getD_cons_zero, List.getD_cons_succ] at hf
   obtain ⟨⟨_, e48, rfl⟩, ⟨_, e49, rfl⟩, ⟨_, e50, rfl⟩, ⟨_, e51, rfl⟩, ⟨_, e52, rfl⟩, ⟨_, e53, rfl⟩, _⟩ := hf
   simp only [regT, List.foldl_cons, List.foldl_nil, List.setIfInBounds_toArray, List.set_cons_zero, List.set_cons_succ, e48, e49, e50, e51, e52, e53]
   clear e48 e49 e50 e51 e52 e53
   have BW2 := Lib.hid (BW.out.trans (hB.mono BW.out.size))
   clear hB
   by_cases hkk : kd = k
   · have hkb : (kd != k) = false := by simp [hkk]
     obtain rfl : re = 0 := by rw [HRE.out, if_pos hkk]
     go_wp2_with fail
     go_ret
     exact ⟨rfl, BW2.out⟩
   · have hkb : (kd != k) = true := by simp [hkk]
     obtain rfl : re = 7 := by rw [HRE.out, if_neg hkk]
     go_wp2_with fail
     go_ret
     exact ⟨rfl, BW2.out⟩
theorem ref5_TextB (s : ByteArray) (w : World) : Calls Tryz.prog 48 #[.string s] w fun e w' => e = .returned (.bool (decide (s.size ≤ 256))) ∧ Below w.heap.size w w' := (ref5_Text s w).mono fun _ _ ⟨h1, h2⟩ => ⟨h1, by rw [← h2]; exact Below.refl _ _⟩
end Go.Proofs.YtjlliohjeiclaaaGreatDoor
namespace Go.Proofs.YtjlliohjeiclaaaGreatDoor
open Go.RowKit
def Grw (w w' : World) : Prop := ∃ (q : Nat) (os : Array Obj), w' = Sort.grow (w.drewN q) os
theorem drewN_drewN (w : World) (a b : Nat) : (w.drewN a).drewN b = w.drewN (a + b) := by
 induction b with
 | zero => rfl
 | succ b ih => show ((w.drewN a).drewN b).drew = (w.drewN (a + b)).drew; rw [ih]
theorem grow_drewN (w : World) (os : Array Obj) (n : Nat) : (Sort.grow w os).drewN n = Sort.grow (w.drewN n) os := by
 induction n with
 | zero => rfl
 | succ n ih => show ((Sort.grow w os).drewN n).drew = _; rw [ih]; rfl
theorem Grw.refl (w : World) : Grw w w := ⟨0, #[], by simp [Sort.grow]; rfl⟩
theorem Grw.trans {a b c : World} (h : Grw a b) (k : Grw b c) : Grw a c := by
 obtain ⟨q, os, rfl⟩ := h
 obtain ⟨q', os', rfl⟩ := k
 exact ⟨q + q', os ++ os', by rw [grow_drewN, Sort.grow_grow, drewN_drewN]⟩
theorem Grw.drew {a b : World} (h : Grw a b) : Grw a b.drew := h.trans ⟨1, #[], by simp [Sort.grow]; rfl⟩
theorem Grw.alloc {a b : World} (h : Grw a b) (o : Obj) : Grw a (b.alloc o) := h.trans ⟨0, #[o], by rw [Sort.alloc_eq_grow]; rfl⟩
theorem Grw.below {a b : World} (h : Grw a b) : Below a.heap.size a b := by
 obtain ⟨q, os, rfl⟩ := h
 have hd : ∀ n, (a.drewN n).heap = a.heap ∧ (a.drewN n).os = a.os ∧ (a.drewN n).tape = a.tape ∧ (a.drewN n).output = a.output := fun n => by
  induction n with
  | zero => exact ⟨rfl, rfl, rfl, rfl⟩
  | succ n ih => exact ih
 obtain ⟨h1, h2, h3, h4⟩ := hd q
 refine ⟨h2, h3, h4, by simp [Sort.grow, h1], fun k hk => ?_⟩
 show ((a.drewN q).heap ++ os)[k]? = _
 rw [h1, Array.getElem?_append_left hk]
end Go.Proofs.YtjlliohjeiclaaaGreatDoor
namespace Go.Proofs.YtjlliohjeiclaaaGreatDoor
open Go.RowKit St Pm Ku Kn
theorem key_CmpW (a b : ByteArray) (w : World) : Calls Tryz.prog 180 #[.string a, .string b] w fun e w' => e = .returned (.int .i64 (txtC a b)) ∧ Grw w w' := by
 go_enter Tryz.func180, Tryz.ntmps180
 go_wp2_with fail
 refine (ks_Compare a b w).mono ?_
 rintro e _ ⟨rfl, rfl⟩
 go_wp2_with fail
 go_ret
 rw [cmpB_txt]
 exact ⟨rfl, Grw.refl _⟩
theorem stp_number (a b : Int) (w : World) : Calls Tryz.prog 107 #[.int .i64 a, .int .i64 b] w fun e w' => e = .returned (.int .i64 (numC a b)) ∧ Grw w w' := by
 rcases (by omega : a < b ∨ b < a ∨ a = b) with h | h | h
 · rw [numC_lt h]
   go_enter Tryz.func107, Tryz.ntmps107
   go_wp2
   go_ret
   exact ⟨rfl, Grw.refl _⟩
 · rw [numC_gt h]
   have h2 : ¬ a < b := by omega
   go_enter Tryz.func107, Tryz.ntmps107
   go_wp2
   go_ret
   exact ⟨rfl, Grw.refl _⟩
 · subst h
   rw [numC_eq rfl]
   have h2 : ¬ a < a := by omega
   go_enter Tryz.func107, Tryz.ntmps107
   go_wp2
   go_ret
   exact ⟨rfl, Grw.refl _⟩
set_option maxRecDepth 100000 in
theorem stp_first (x y z : Int) (w : World) : Calls Tryz.prog 106 #[.agg #[.int .i64 x, .int .i64 y, .int .i64 z]] w fun e w' => e = .returned (.int .i64 (firstC x (firstC y z))) ∧ Grw w w' := by
 have i0 : ∀ W, (Instr.index 163 (.agg #[.int .i64 x, .int .i64 y, .int .i64 z]) (.int .i64 0)).run Tryz.prog W = .ok (.int .i64 x) W := fun W => by kernel_rfl
 have i1 : ∀ W, (Instr.index 163 (.agg #[.int .i64 x, .int .i64 y, .int .i64 z]) (.int .i64 1)).run Tryz.prog W = .ok (.int .i64 y) W := fun W => by kernel_rfl
 have i2 : ∀ W, (Instr.index 163 (.agg #[.int .i64 x, .int .i64 y, .int .i64 z]) (.int .i64 2)).run Tryz.prog W = .ok (.int .i64 z) W := fun W => by kernel_rfl
 obtain ⟨re, hre⟩ : ∃ r, firstC x (firstC y z) = r := ⟨_, rfl⟩
 have RE := Lib.hid hre
 rw [hre]
 clear hre
 go_enter Tryz.func106, Tryz.ntmps106
 go_upto_region 1 with (fail)
 go_step3
 go_wp2_with fail
 go_step3
 go_wp2_with fail
 have HG : Hid (Grw w (w.alloc (.cells #[.int .i64 x, .int .i64 y, .int .i64 z] 163))) := Lib.hid ((Grw.refl w).alloc _)
 generalize w.alloc (.cells #[.int .i64 x, .int .i64 y, .int .i64 z] 163) = w1 at *
 go_loopw [3, 5, 7] (fun o _ i wr => ∃ j : Nat, o = .int .i64 0 ∧ i = .int .i64 (j : Int) ∧ w1 = wr ∧ ((j = 0 ∧ Hid (firstC x (firstC y z) = re)) ∨ (j = 1 ∧ Hid (firstC y z = re)) ∨ (j = 2 ∧ Hid (z = re)) ∨ (j = 3 ∧ Hid ((0 : Int) = re)))) (fun _ _ i _ => 3 - (intOf i).toNat)
 case atStart => exact ⟨0, rfl, rfl, rfl, .inl ⟨rfl, RE⟩⟩
 case round =>
  obtain ⟨j, rfl, rfl, rfl, hj⟩ := hrel
  clear RE
  rcases hj with ⟨rfl, RE⟩ | ⟨rfl, RE⟩ | ⟨rfl, RE⟩ | ⟨rfl, RE⟩
  · by_cases hx : x = 0
    · subst hx
      go_wp2_with fail
      go_roundw
      case rel => exact ⟨1, rfl, rfl, by first | trivial | rfl, .inr (.inl ⟨rfl, RE⟩)⟩
      case measure => simp [intOf]
    · have hb : (x == 0) = false := by simpa using hx
      obtain rfl : x = re := by rw [← RE.out]; unfold firstC; rw [if_neg hx]
      go_wp2_with fail
      try rw [Exit.noGoto_ret]
      go_ret
      exact ⟨rfl, HG.out⟩
  · by_cases hx : y = 0
    · subst hx
      go_wp2_with fail
      go_roundw
      case rel => exact ⟨2, rfl, rfl, by first | trivial | rfl, .inr (.inr (.inl ⟨rfl, RE⟩))⟩
      case measure => simp [intOf]
    · have hb : (y == 0) = false := by simpa using hx
      obtain rfl : y = re := by rw [← RE.out]; unfold firstC; rw [if_neg hx]
      go_wp2_with fail
      try rw [Exit.noGoto_ret]
      go_ret
      exact ⟨rfl, HG.out⟩
  · by_cases hx : z = 0
    · subst hx
      go_wp2_with fail
      go_roundw
      case rel => exact ⟨3, rfl, rfl, by first | trivial | rfl, .inr (.inr (.inr ⟨rfl, RE⟩))⟩
      case measure => simp [intOf]
    · have hb : (z == 0) = false := by simpa using hx
      obtain rfl : z = re := RE.out
      go_wp2_with fail
      try rw [Exit.noGoto_ret]
      go_ret
      exact ⟨rfl, HG.out⟩
  · obtain rfl : (0 : Int) = re := RE.out
    go_wp2_with fail
    try rw [Exit.noGoto_ret]
    go_ret
    exact ⟨rfl, HG.out⟩
set_option maxRecDepth 100000 in
set_option maxHeartbeats 1000000 in
theorem stp_CmpBranch (r1 : Int) (l1 : ByteArray) (r2 : Int) (l2 : ByteArray) (w : World) :
 Calls Tryz.prog 140 #[.agg #[.int .i64 r1, .string l1], .agg #[.int .i64 r2, .string l2]] w fun e w' => e = .returned (.int .i64 (brC r1 l1 r2 l2)) ∧ Grw w w' := by
 have HV : Hid (firstC (numC r1 r2) (firstC (txtC l1 l2) 0) = brC r1 l1 r2 l2) := Lib.hid (by unfold brC; congr 1; unfold firstC; split <;> simp_all)
 go_enter Tryz.func140, Tryz.ntmps140
 go_upto_region 1 with (fail)
 have GW : Hid (Grw w ((w.alloc (.cells #[.int .i64 r1, .string l1] 39)).alloc (.cells #[.int .i64 r2, .string l2] 39))) := Lib.hid (((Grw.refl w).alloc _).alloc _)
 have x1 := boxStays (heap_alloc_new w (.cells #[.int .i64 r1, .string l1] 39)) (below_new _ (.cells #[.int .i64 r2, .string l2] 39))
 have x2 := heap_alloc_new (w.alloc (.cells #[.int .i64 r1, .string l1] 39)) (.cells #[.int .i64 r2, .string l2] 39)
 rw [World.size_alloc] at x2
 have X1 := Lib.hid x1
 have X2 := Lib.hid x2
 clear x1 x2
 generalize (w.alloc (.cells #[.int .i64 r1, .string l1] 39)).alloc (.cells #[.int .i64 r2, .string l2] 39) = w1 at *
 refine wp_region_noPanic ?_
 refine wp_region_held_drew (S := fun w' => Grw w1 w') (by kernel_rfl) (Grw.refl _).drew (fun hS => ?_)
 refine wpAnyH_take (i := 0) (oi := ⟨some 5, _, _, _, _, _⟩) (v := ?_) rfl (by kernel_rfl) (by kernel_rfl) (by kernel_rfl) (fun _ _ _ h => h) (Or.inl ⟨by rfl, ?_⟩) hS ?_
 rotate_left 1
 · intro w' hB; have h1 := boxStays X1.out hB.below; have h2 := boxStays X2.out hB.below; have k0 := cell_of_row _ _ 0 _ _ _ h1; have k1 := cell_of_row _ _ 1 _ _ _ h1; have q0 := cell_of_row _ _ 0 _ _ _ h2; have q1 := cell_of_row _ _ 1 _ _ _ h2; clear h1 h2; (go_simp <;> with_reducible rfl)
 try simp only [Act.put, List.setIfInBounds_toArray, List.set_cons_zero, List.set_cons_succ]
 refine wpAnyH_take (i := 1) (oi := ⟨some 6, _, _, _, _, _⟩) (v := ?_) rfl (by kernel_rfl) (by kernel_rfl) (by kernel_rfl) (fun _ _ _ h => h) (Or.inl ⟨by rfl, ?_⟩) hS ?_
 rotate_left 1
 · intro w' hB; have h1 := boxStays X1.out hB.below; have h2 := boxStays X2.out hB.below; have k0 := cell_of_row _ _ 0 _ _ _ h1; have k1 := cell_of_row _ _ 1 _ _ _ h1; have q0 := cell_of_row _ _ 0 _ _ _ h2; have q1 := cell_of_row _ _ 1 _ _ _ h2; clear h1 h2; (go_simp <;> with_reducible rfl)
 try simp only [Act.put, List.setIfInBounds_toArray, List.set_cons_zero, List.set_cons_succ]
 refine wpAnyH_take (i := 2) (oi := ⟨some 7, _, _, _, _, _⟩) (v := ?_) rfl (by kernel_rfl) (by kernel_rfl) (by kernel_rfl) (fun _ _ _ h => h) (Or.inl ⟨by rfl, ?_⟩) hS ?_
 rotate_left 1
 · intro w' hB; have h1 := boxStays X1.out hB.below; have h2 := boxStays X2.out hB.below; have k0 := cell_of_row _ _ 0 _ _ _ h1; have k1 := cell_of_row _ _ 1 _ _ _ h1; have q0 := cell_of_row _ _ 0 _ _ _ h2; have q1 := cell_of_row _ _ 1 _ _ _ h2; clear h1 h2; (go_simp <;> with_reducible rfl)
 try simp only [Act.put, List.setIfInBounds_toArray, List.set_cons_zero, List.set_cons_succ]
 refine wpAnyH_take (i := 3) (oi := ⟨some 8, _, _, _, _, _⟩) (v := ?_) rfl (by kernel_rfl) (by kernel_rfl) (by kernel_rfl) (fun _ _ _ h => h) (Or.inl ⟨by rfl, ?_⟩) hS ?_
 rotate_left 1
 · intro w' hB; have h1 := boxStays X1.out hB.below; have h2 := boxStays X2.out hB.below; have k0 := cell_of_row _ _ 0 _ _ _ h1; have k1 := cell_of_row _ _ 1 _ _ _ h1; have q0 := cell_of_row _ _ 0 _ _ _ h2; have q1 := cell_of_row _ _ 1 _ _ _ h2; clear h1 h2; (go_simp <;> with_reducible rfl)
 try simp only [Act.put, List.setIfInBounds_toArray, List.set_cons_zero, List.set_cons_succ]
 refine wpAnyH_take (i := 5) (oi := ⟨some 10, _, _, _, _, _⟩) (v := ?_) rfl (by kernel_rfl) (by kernel_rfl) (by kernel_rfl) (fun _ _ _ h => h) (Or.inl ⟨by rfl, ?_⟩) hS ?_
 rotate_left 1
 · intro w' hB; have h1 := boxStays X1.out hB.below; have h2 := boxStays X2.out hB.below; have k0 := cell_of_row _ _ 0 _ _ _ h1; have k1 := cell_of_row _ _ 1 _ _ _ h1; have q0 := cell_of_row _ _ 0 _ _ _ h2; have q1 := cell_of_row _ _ 1 _ _ _ h2; clear h1 h2; (go_simp <;> with_reducible rfl)
 try simp only [Act.put, List.setIfInBounds_toArray, List.set_cons_zero, List.set_cons_succ]
 refine wpAnyH_take (i := 6) (oi := ⟨some 11, _, _, _, _, _⟩) (v := ?_) rfl (by kernel_rfl) (by kernel_rfl) (by kernel_rfl) (fun _ _ _ h => h) (Or.inl ⟨by rfl, ?_⟩) hS ?_
 rotate_left 1
 · intro w' hB; have h1 := boxStays X1.out hB.below; have h2 := boxStays X2.out hB.below; have k0 := cell_of_row _ _ 0 _ _ _ h1; have k1 := cell_of_row _ _ 1 _ _ _ h1; have q0 := cell_of_row _ _ 0 _ _ _ h2; have q1 := cell_of_row _ _ 1 _ _ _ h2; clear h1 h2; (go_simp <;> with_reducible rfl)
 try simp only [Act.put, List.setIfInBounds_toArray, List.set_cons_zero, List.set_cons_succ]
 refine wpAnyH_take (i := 7) (oi := ⟨some 12, _, _, _, _, _⟩) (v := ?_) rfl (by kernel_rfl) (by kernel_rfl) (by kernel_rfl) (fun _ _ _ h => h) (Or.inl ⟨by rfl, ?_⟩) hS ?_
 rotate_left 1
 · intro w' hB; have h1 := boxStays X1.out hB.below; have h2 := boxStays X2.out hB.below; have k0 := cell_of_row _ _ 0 _ _ _ h1; have k1 := cell_of_row _ _ 1 _ _ _ h1; have q0 := cell_of_row _ _ 0 _ _ _ h2; have q1 := cell_of_row _ _ 1 _ _ _ h2; clear h1 h2; (go_simp <;> with_reducible rfl)
 try simp only [Act.put, List.setIfInBounds_toArray, List.set_cons_zero, List.set_cons_succ]
 refine wpAnyH_take (i := 8) (oi := ⟨some 13, _, _, _, _, _⟩) (v := ?_) rfl (by kernel_rfl) (by kernel_rfl) (by kernel_rfl) (fun _ _ _ h => h) (Or.inl ⟨by rfl, ?_⟩) hS ?_
 rotate_left 1
 · intro w' hB; have h1 := boxStays X1.out hB.below; have h2 := boxStays X2.out hB.below; have k0 := cell_of_row _ _ 0 _ _ _ h1; have k1 := cell_of_row _ _ 1 _ _ _ h1; have q0 := cell_of_row _ _ 0 _ _ _ h2; have q1 := cell_of_row _ _ 1 _ _ _ h2; clear h1 h2; (go_simp <;> with_reducible rfl)
 try simp only [Act.put, List.setIfInBounds_toArray, List.set_cons_zero, List.set_cons_succ]
 refine wpAnyH_ready (rs := [4]) (by kernel_rfl) (by simp) (AllReadyH.cons (o := ⟨some 9, _, _, _, _, _⟩) rfl (fun K hK => ?_) AllReadyH.nil)
 go_simp
 refine (stp_number r1 r2 _).mono ?_
 rintro e w2 ⟨rfl, hb⟩
 refine hK.out _ _ (hS.trans (hb)) (fun _ => ?_)
 clear hK K
 replace hS := hS.trans (hb)
 clear hb
 try simp only [Act.put, List.setIfInBounds_toArray, List.set_cons_zero, List.set_cons_succ]
 refine wpAnyH_ready (rs := [9]) (by kernel_rfl) (by simp) (AllReadyH.cons (o := ⟨some 14, _, _, _, _, _⟩) rfl (fun K hK => ?_) AllReadyH.nil)
 go_simp
 refine (key_CmpW l1 l2 _).mono ?_
 rintro e w3 ⟨rfl, hb⟩
 refine hK.out _ _ (hS.trans (hb)) (fun _ => ?_)
 clear hK K
 replace hS := hS.trans (hb)
 clear hb
 try simp only [Act.put, List.setIfInBounds_toArray, List.set_cons_zero, List.set_cons_succ]
 refine wpAnyH_take (i := 10) (oi := ⟨some 15, _, _, _, _, _⟩) (v := ?_) rfl (by kernel_rfl) (by kernel_rfl) (by kernel_rfl) (fun _ _ _ h => h) (Or.inl ⟨by rfl, ?_⟩) hS ?_
 rotate_left 1
 · intro w' hB; have h1 := boxStays X1.out hB.below; have h2 := boxStays X2.out hB.below; have k0 := cell_of_row _ _ 0 _ _ _ h1; have k1 := cell_of_row _ _ 1 _ _ _ h1; have q0 := cell_of_row _ _ 0 _ _ _ h2; have q1 := cell_of_row _ _ 1 _ _ _ h2; clear h1 h2; (go_simp <;> with_reducible rfl)
 try simp only [Act.put, List.setIfInBounds_toArray, List.set_cons_zero, List.set_cons_succ]
 refine wpAnyH_ready (rs := [11]) (by kernel_rfl) (by simp) (AllReadyH.cons (o := ⟨some 16, _, _, _, _, _⟩) rfl (fun K hK => ?_) AllReadyH.nil)
 go_simp
 refine (stp_first (numC r1 r2) (txtC l1 l2) 0 _).mono ?_
 rintro e w4 ⟨rfl, hb⟩
 refine hK.out _ _ (hS.trans (hb)) (fun _ => ?_)
 clear hK K
 replace hS := hS.trans (hb)
 clear hb
 try simp only [Act.put, List.setIfInBounds_toArray, List.set_cons_zero, List.set_cons_succ]
 refine wpAnyH_take (i := 12) (oi := ⟨some 4, _, _, _, _, _⟩) (v := ?_) rfl (by kernel_rfl) (by kernel_rfl) (by kernel_rfl) (fun _ _ _ h => h) (Or.inl ⟨by rfl, ?_⟩) hS ?_
 rotate_left 1
 · intro w' hB; have h1 := boxStays X1.out hB.below; have h2 := boxStays X2.out hB.below; have k0 := cell_of_row _ _ 0 _ _ _ h1; have k1 := cell_of_row _ _ 1 _ _ _ h1; have q0 := cell_of_row _ _ 0 _ _ _ h2; have q1 := cell_of_row _ _ 1 _ _ _ h2; clear h1 h2; (go_simp <;> with_reducible rfl)
 try simp only [Act.put, List.setIfInBounds_toArray, List.set_cons_zero, List.set_cons_succ]
 refine wpAnyH_done (by kernel_rfl) (NoPanic.normal ?_) _
 have HS := Lib.hid (GW.out.trans hS)
 clear hS
 go_wp2_with fail
 go_ret
 exact ⟨by rw [HV.out]; rfl, HS.out⟩
set_option maxRecDepth 100000 in
set_option maxHeartbeats 1000000 in
theorem stp_CmpName (r1 : Int) (l1 : ByteArray) (n1 : Int) (r2 : Int) (l2 : ByteArray) (n2 : Int) (w : World) :
 Calls Tryz.prog 108 #[.agg #[.int .i64 r1, .string l1, .int .i64 n1], .agg #[.int .i64 r2, .string l2, .int .i64 n2]] w fun e w' => e = .returned (.int .i64 (nmC r1 l1 n1 r2 l2 n2)) ∧ Grw w w' := by
 have HV : Hid (firstC (brC r1 l1 r2 l2) (firstC (numC n1 n2) 0) = nmC r1 l1 n1 r2 l2 n2) := Lib.hid (by unfold nmC; congr 1; unfold firstC; split <;> simp_all)
 go_enter Tryz.func108, Tryz.ntmps108
 go_upto_region 1 with (fail)
 have GW : Hid (Grw w ((w.alloc (.cells #[.int .i64 r1, .string l1, .int .i64 n1] 41)).alloc (.cells #[.int .i64 r2, .string l2, .int .i64 n2] 41))) := Lib.hid (((Grw.refl w).alloc _).alloc _)
 have x1 := boxStays (heap_alloc_new w (.cells #[.int .i64 r1, .string l1, .int .i64 n1] 41)) (below_new _ (.cells #[.int .i64 r2, .string l2, .int .i64 n2] 41))
 have x2 := heap_alloc_new (w.alloc (.cells #[.int .i64 r1, .string l1, .int .i64 n1] 41)) (.cells #[.int .i64 r2, .string l2, .int .i64 n2] 41)
 rw [World.size_alloc] at x2
 have X1 := Lib.hid x1
 have X2 := Lib.hid x2
 clear x1 x2
 generalize (w.alloc (.cells #[.int .i64 r1, .string l1, .int .i64 n1] 41)).alloc (.cells #[.int .i64 r2, .string l2, .int .i64 n2] 41) = w1 at *
 refine wp_region_noPanic ?_
 refine wp_region_held_drew (S := fun w' => Grw w1 w') (by kernel_rfl) (Grw.refl _).drew (fun hS => ?_)
 refine wpAnyH_take (i := 0) (oi := ⟨some 5, _, _, _, _, _⟩) (v := ?_) rfl (by kernel_rfl) (by kernel_rfl) (by kernel_rfl) (fun _ _ _ h => h) (Or.inl ⟨by rfl, ?_⟩) hS ?_
 rotate_left 1
 · intro w' hB; have h1 := boxStays X1.out hB.below; have h2 := boxStays X2.out hB.below; have k0 := cell_of_row _ _ 0 _ _ _ h1; have k1 := cell_of_row _ _ 1 _ _ _ h1; have k2 := cell_of_row _ _ 2 _ _ _ h1; have q0 := cell_of_row _ _ 0 _ _ _ h2; have q1 := cell_of_row _ _ 1 _ _ _ h2; have q2 := cell_of_row _ _ 2 _ _ _ h2; clear h1 h2; (go_simp <;> with_reducible rfl)
 try simp only [Act.put, List.setIfInBounds_toArray, List.set_cons_zero, List.set_cons_succ]
 refine wpAnyH_take (i := 1) (oi := ⟨some 6, _, _, _, _, _⟩) (v := ?_) rfl (by kernel_rfl) (by kernel_rfl) (by kernel_rfl) (fun _ _ _ h => h) (Or.inl ⟨by rfl, ?_⟩) hS ?_
 rotate_left 1
 · intro w' hB; have h1 := boxStays X1.out hB.below; have h2 := boxStays X2.out hB.below; have k0 := cell_of_row _ _ 0 _ _ _ h1; have k1 := cell_of_row _ _ 1 _ _ _ h1; have k2 := cell_of_row _ _ 2 _ _ _ h1; have q0 := cell_of_row _ _ 0 _ _ _ h2; have q1 := cell_of_row _ _ 1 _ _ _ h2; have q2 := cell_of_row _ _ 2 _ _ _ h2; clear h1 h2; (go_simp <;> with_reducible rfl)
 try simp only [Act.put, List.setIfInBounds_toArray, List.set_cons_zero, List.set_cons_succ]
 refine wpAnyH_take (i := 2) (oi := ⟨some 7, _, _, _, _, _⟩) (v := ?_) rfl (by kernel_rfl) (by kernel_rfl) (by kernel_rfl) (fun _ _ _ h => h) (Or.inl ⟨by rfl, ?_⟩) hS ?_
 rotate_left 1
 · intro w' hB; have h1 := boxStays X1.out hB.below; have h2 := boxStays X2.out hB.below; have k0 := cell_of_row _ _ 0 _ _ _ h1; have k1 := cell_of_row _ _ 1 _ _ _ h1; have k2 := cell_of_row _ _ 2 _ _ _ h1; have q0 := cell_of_row _ _ 0 _ _ _ h2; have q1 := cell_of_row _ _ 1 _ _ _ h2; have q2 := cell_of_row _ _ 2 _ _ _ h2; clear h1 h2; (go_simp <;> with_reducible rfl)
 try simp only [Act.put, List.setIfInBounds_toArray, List.set_cons_zero, List.set_cons_succ]
 refine wpAnyH_take (i := 3) (oi := ⟨some 8, _, _, _, _, _⟩) (v := ?_) rfl (by kernel_rfl) (by kernel_rfl) (by kernel_rfl) (fun _ _ _ h => h) (Or.inl ⟨by rfl, ?_⟩) hS ?_
 rotate_left 1
 · intro w' hB; have h1 := boxStays X1.out hB.below; have h2 := boxStays X2.out hB.below; have k0 := cell_of_row _ _ 0 _ _ _ h1; have k1 := cell_of_row _ _ 1 _ _ _ h1; have k2 := cell_of_row _ _ 2 _ _ _ h1; have q0 := cell_of_row _ _ 0 _ _ _ h2; have q1 := cell_of_row _ _ 1 _ _ _ h2; have q2 := cell_of_row _ _ 2 _ _ _ h2; clear h1 h2; (go_simp <;> with_reducible rfl)
 try simp only [Act.put, List.setIfInBounds_toArray, List.set_cons_zero, List.set_cons_succ]
 refine wpAnyH_take (i := 5) (oi := ⟨some 10, _, _, _, _, _⟩) (v := ?_) rfl (by kernel_rfl) (by kernel_rfl) (by kernel_rfl) (fun _ _ _ h => h) (Or.inl ⟨by rfl, ?_⟩) hS ?_
 rotate_left 1
 · intro w' hB; have h1 := boxStays X1.out hB.below; have h2 := boxStays X2.out hB.below; have k0 := cell_of_row _ _ 0 _ _ _ h1; have k1 := cell_of_row _ _ 1 _ _ _ h1; have k2 := cell_of_row _ _ 2 _ _ _ h1; have q0 := cell_of_row _ _ 0 _ _ _ h2; have q1 := cell_of_row _ _ 1 _ _ _ h2; have q2 := cell_of_row _ _ 2 _ _ _ h2; clear h1 h2; (go_simp <;> with_reducible rfl)
 try simp only [Act.put, List.setIfInBounds_toArray, List.set_cons_zero, List.set_cons_succ]
 refine wpAnyH_take (i := 6) (oi := ⟨some 11, _, _, _, _, _⟩) (v := ?_) rfl (by kernel_rfl) (by kernel_rfl) (by kernel_rfl) (fun _ _ _ h => h) (Or.inl ⟨by rfl, ?_⟩) hS ?_
 rotate_left 1
 · intro w' hB; have h1 := boxStays X1.out hB.below; have h2 := boxStays X2.out hB.below; have k0 := cell_of_row _ _ 0 _ _ _ h1; have k1 := cell_of_row _ _ 1 _ _ _ h1; have k2 := cell_of_row _ _ 2 _ _ _ h1; have q0 := cell_of_row _ _ 0 _ _ _ h2; have q1 := cell_of_row _ _ 1 _ _ _ h2; have q2 := cell_of_row _ _ 2 _ _ _ h2; clear h1 h2; (go_simp <;> with_reducible rfl)
 try simp only [Act.put, List.setIfInBounds_toArray, List.set_cons_zero, List.set_cons_succ]
 refine wpAnyH_take (i := 7) (oi := ⟨some 12, _, _, _, _, _⟩) (v := ?_) rfl (by kernel_rfl) (by kernel_rfl) (by kernel_rfl) (fun _ _ _ h => h) (Or.inl ⟨by rfl, ?_⟩) hS ?_
 rotate_left 1
 · intro w' hB; have h1 := boxStays X1.out hB.below; have h2 := boxStays X2.out hB.below; have k0 := cell_of_row _ _ 0 _ _ _ h1; have k1 := cell_of_row _ _ 1 _ _ _ h1; have k2 := cell_of_row _ _ 2 _ _ _ h1; have q0 := cell_of_row _ _ 0 _ _ _ h2; have q1 := cell_of_row _ _ 1 _ _ _ h2; have q2 := cell_of_row _ _ 2 _ _ _ h2; clear h1 h2; (go_simp <;> with_reducible rfl)
 try simp only [Act.put, List.setIfInBounds_toArray, List.set_cons_zero, List.set_cons_succ]
 refine wpAnyH_take (i := 8) (oi := ⟨some 13, _, _, _, _, _⟩) (v := ?_) rfl (by kernel_rfl) (by kernel_rfl) (by kernel_rfl) (fun _ _ _ h => h) (Or.inl ⟨by rfl, ?_⟩) hS ?_
 rotate_left 1
 · intro w' hB; have h1 := boxStays X1.out hB.below; have h2 := boxStays X2.out hB.below; have k0 := cell_of_row _ _ 0 _ _ _ h1; have k1 := cell_of_row _ _ 1 _ _ _ h1; have k2 := cell_of_row _ _ 2 _ _ _ h1; have q0 := cell_of_row _ _ 0 _ _ _ h2; have q1 := cell_of_row _ _ 1 _ _ _ h2; have q2 := cell_of_row _ _ 2 _ _ _ h2; clear h1 h2; (go_simp <;> with_reducible rfl)
 try simp only [Act.put, List.setIfInBounds_toArray, List.set_cons_zero, List.set_cons_succ]
 refine wpAnyH_ready (rs := [4]) (by kernel_rfl) (by simp) (AllReadyH.cons (o := ⟨some 9, _, _, _, _, _⟩) rfl (fun K hK => ?_) AllReadyH.nil)
 go_simp
 refine (stp_CmpBranch r1 l1 r2 l2 _).mono ?_
 rintro e w2 ⟨rfl, hb⟩
 refine hK.out _ _ (hS.trans (hb)) (fun _ => ?_)
 clear hK K
 replace hS := hS.trans (hb)
 clear hb
 try simp only [Act.put, List.setIfInBounds_toArray, List.set_cons_zero, List.set_cons_succ]
 refine wpAnyH_ready (rs := [9]) (by kernel_rfl) (by simp) (AllReadyH.cons (o := ⟨some 14, _, _, _, _, _⟩) rfl (fun K hK => ?_) AllReadyH.nil)
 go_simp
 refine (stp_number n1 n2 _).mono ?_
 rintro e w3 ⟨rfl, hb⟩
 refine hK.out _ _ (hS.trans (hb)) (fun _ => ?_)
 clear hK K
 replace hS := hS.trans (hb)
 clear hb
 try simp only [Act.put, List.setIfInBounds_toArray, List.set_cons_zero, List.set_cons_succ]
 refine wpAnyH_take (i := 10) (oi := ⟨some 15, _, _, _, _, _⟩) (v := ?_) rfl (by kernel_rfl) (by kernel_rfl) (by kernel_rfl) (fun _ _ _ h => h) (Or.inl ⟨by rfl, ?_⟩) hS ?_
 rotate_left 1
 · intro w' hB; have h1 := boxStays X1.out hB.below; have h2 := boxStays X2.out hB.below; have k0 := cell_of_row _ _ 0 _ _ _ h1; have k1 := cell_of_row _ _ 1 _ _ _ h1; have k2 := cell_of_row _ _ 2 _ _ _ h1; have q0 := cell_of_row _ _ 0 _ _ _ h2; have q1 := cell_of_row _ _ 1 _ _ _ h2; have q2 := cell_of_row _ _ 2 _ _ _ h2; clear h1 h2; (go_simp <;> with_reducible rfl)
 try simp only [Act.put, List.setIfInBounds_toArray, List.set_cons_zero, List.set_cons_succ]
 refine wpAnyH_ready (rs := [11]) (by kernel_rfl) (by simp) (AllReadyH.cons (o := ⟨some 16, _, _, _, _, _⟩) rfl (fun K hK => ?_) AllReadyH.nil)
 go_simp
 refine (stp_first (brC r1 l1 r2 l2) (numC n1 n2) 0 _).mono ?_
 rintro e w4 ⟨rfl, hb⟩
 refine hK.out _ _ (hS.trans (hb)) (fun _ => ?_)
 clear hK K
 replace hS := hS.trans (hb)
 clear hb
 try simp only [Act.put, List.setIfInBounds_toArray, List.set_cons_zero, List.set_cons_succ]
 refine wpAnyH_take (i := 12) (oi := ⟨some 4, _, _, _, _, _⟩) (v := ?_) rfl (by kernel_rfl) (by kernel_rfl) (by kernel_rfl) (fun _ _ _ h => h) (Or.inl ⟨by rfl, ?_⟩) hS ?_
 rotate_left 1
 · intro w' hB; have h1 := boxStays X1.out hB.below; have h2 := boxStays X2.out hB.below; have k0 := cell_of_row _ _ 0 _ _ _ h1; have k1 := cell_of_row _ _ 1 _ _ _ h1; have k2 := cell_of_row _ _ 2 _ _ _ h1; have q0 := cell_of_row _ _ 0 _ _ _ h2; have q1 := cell_of_row _ _ 1 _ _ _ h2; have q2 := cell_of_row _ _ 2 _ _ _ h2; clear h1 h2; (go_simp <;> with_reducible rfl)
 try simp only [Act.put, List.setIfInBounds_toArray, List.set_cons_zero, List.set_cons_succ]
 refine wpAnyH_done (by kernel_rfl) (NoPanic.normal ?_) _
 have HS := Lib.hid (GW.out.trans hS)
 clear hS
 go_wp2_with fail
 go_ret
 exact ⟨by rw [HV.out]; rfl, HS.out⟩
theorem numC_refl (a : Int) : numC a a = 0 := numC_eq rfl
theorem txtC_refl2 (a : ByteArray) : txtC a a = 0 := txt_eq rfl
theorem svC_refl (s : Sv) : svC s s = 0 := by unfold svC nmC brC; rw [numC_refl, txtC_refl2, numC_refl, numC_refl, numC_refl]; rfl
theorem firstC_assoc (a b c : Int) : firstC a (firstC b c) = firstC (firstC a b) c := by unfold firstC; split <;> simp_all
set_option maxRecDepth 100000 in
set_option maxHeartbeats 1000000 in
theorem stp_CmpS (s t : Sv) (w : World) :
 Calls Tryz.prog 63 #[.agg #[.int .i64 s.g, .int .i64 s.r, .string s.l, .int .i64 s.n, .int .i64 s.i], .agg #[.int .i64 t.g, .int .i64 t.r, .string t.l, .int .i64 t.n, .int .i64 t.i]] w fun e w' => e = .returned (.int .i64 (svC s t)) ∧ Grw w w' := by
 have HV : Hid (firstC (numC s.g t.g) (firstC (nmC s.r s.l s.n t.r t.l t.n) (numC s.i t.i)) = svC s t) := Lib.hid (by unfold svC; rw [firstC_assoc])
 have HR : Hid (s = t → svC s t = 0) := Lib.hid (fun e => by rw [e]; exact svC_refl t)
 have EN := fun W => sv_eql s t W
 obtain ⟨d, hd⟩ : ∃ d, decide (s = t) = d := ⟨_, rfl⟩
 rw [hd] at EN
 have HD := Lib.hid hd
 clear hd
 obtain ⟨g1, r1, l1, n1, i1⟩ := s
 obtain ⟨g2, r2, l2, n2, i2⟩ := t
 simp only at HV EN ⊢
 go_enter Tryz.func63, Tryz.ntmps63
 go_upto_region 1 with (fail)
 have GW : Hid (Grw w ((w.alloc (.cells #[.int .i64 g1, .int .i64 r1, .string l1, .int .i64 n1, .int .i64 i1] 43)).alloc (.cells #[.int .i64 g2, .int .i64 r2, .string l2, .int .i64 n2, .int .i64 i2] 43))) := Lib.hid (((Grw.refl w).alloc _).alloc _)
 have x1 := boxStays (heap_alloc_new w (.cells #[.int .i64 g1, .int .i64 r1, .string l1, .int .i64 n1, .int .i64 i1] 43)) (below_new _ (.cells #[.int .i64 g2, .int .i64 r2, .string l2, .int .i64 n2, .int .i64 i2] 43))
 have x2 := heap_alloc_new (w.alloc (.cells #[.int .i64 g1, .int .i64 r1, .string l1, .int .i64 n1, .int .i64 i1] 43)) (.cells #[.int .i64 g2, .int .i64 r2, .string l2, .int .i64 n2, .int .i64 i2] 43)
 rw [World.size_alloc] at x2
 have X1 := Lib.hid x1
 have X2 := Lib.hid x2
 clear x1 x2
 generalize (w.alloc (.cells #[.int .i64 g1, .int .i64 r1, .string l1, .int .i64 n1, .int .i64 i1] 43)).alloc (.cells #[.int .i64 g2, .int .i64 r2, .string l2, .int .i64 n2, .int .i64 i2] 43) = w1 at *
 have k0 := cell_of_row _ _ 0 _ _ _ X1.out
 have k1 := cell_of_row _ _ 1 _ _ _ X1.out
 have k2 := cell_of_row _ _ 2 _ _ _ X1.out
 have k3 := cell_of_row _ _ 3 _ _ _ X1.out
 have k4 := cell_of_row _ _ 4 _ _ _ X1.out
 have q0 := cell_of_row _ _ 0 _ _ _ X2.out
 have q1 := cell_of_row _ _ 1 _ _ _ X2.out
 have q2 := cell_of_row _ _ 2 _ _ _ X2.out
 have q3 := cell_of_row _ _ 3 _ _ _ X2.out
 have q4 := cell_of_row _ _ 4 _ _ _ X2.out
 cases d
 case true =>
  have hz : svC ⟨g1, r1, l1, n1, i1⟩ ⟨g2, r2, l2, n2, i2⟩ = 0 := HR.out (of_decide_eq_true HD.out)
  have HZ := Lib.hid hz
  clear hz
  go_wp2_with fail
  go_ret
  exact ⟨by rw [HZ.out]; rfl, GW.out⟩
 go_upto_region 3 with (fail)
 clear k0 k1 k2 k3 k4 q0 q1 q2 q3 q4 EN
 refine wp_region_noPanic ?_
 refine wp_region_held_drew (S := fun w' => Grw w1 w') (by kernel_rfl) (Grw.refl _).drew (fun hS => ?_)
 refine wpAnyH_take (i := 0) (oi := ⟨some 8, _, _, _, _, _⟩) (v := ?_) rfl (by kernel_rfl) (by kernel_rfl) (by kernel_rfl) (fun _ _ _ h => h) (Or.inl ⟨by rfl, ?_⟩) hS ?_
 rotate_left 1
 · intro w' hB; have h1 := boxStays X1.out hB.below; have h2 := boxStays X2.out hB.below; have k0 := cell_of_row _ _ 0 _ _ _ h1; have k1 := cell_of_row _ _ 1 _ _ _ h1; have k2 := cell_of_row _ _ 2 _ _ _ h1; have k3 := cell_of_row _ _ 3 _ _ _ h1; have k4 := cell_of_row _ _ 4 _ _ _ h1; have q0 := cell_of_row _ _ 0 _ _ _ h2; have q1 := cell_of_row _ _ 1 _ _ _ h2; have q2 := cell_of_row _ _ 2 _ _ _ h2; have q3 := cell_of_row _ _ 3 _ _ _ h2; have q4 := cell_of_row _ _ 4 _ _ _ h2; clear h1 h2; (go_simp <;> with_reducible rfl)
 try simp only [Act.put, List.setIfInBounds_toArray, List.set_cons_zero, List.set_cons_succ]
 refine wpAnyH_take (i := 1) (oi := ⟨some 9, _, _, _, _, _⟩) (v := ?_) rfl (by kernel_rfl) (by kernel_rfl) (by kernel_rfl) (fun _ _ _ h => h) (Or.inl ⟨by rfl, ?_⟩) hS ?_
 rotate_left 1
 · intro w' hB; have h1 := boxStays X1.out hB.below; have h2 := boxStays X2.out hB.below; have k0 := cell_of_row _ _ 0 _ _ _ h1; have k1 := cell_of_row _ _ 1 _ _ _ h1; have k2 := cell_of_row _ _ 2 _ _ _ h1; have k3 := cell_of_row _ _ 3 _ _ _ h1; have k4 := cell_of_row _ _ 4 _ _ _ h1; have q0 := cell_of_row _ _ 0 _ _ _ h2; have q1 := cell_of_row _ _ 1 _ _ _ h2; have q2 := cell_of_row _ _ 2 _ _ _ h2; have q3 := cell_of_row _ _ 3 _ _ _ h2; have q4 := cell_of_row _ _ 4 _ _ _ h2; clear h1 h2; (go_simp <;> with_reducible rfl)
 try simp only [Act.put, List.setIfInBounds_toArray, List.set_cons_zero, List.set_cons_succ]
 refine wpAnyH_take (i := 2) (oi := ⟨some 10, _, _, _, _, _⟩) (v := ?_) rfl (by kernel_rfl) (by kernel_rfl) (by kernel_rfl) (fun _ _ _ h => h) (Or.inl ⟨by rfl, ?_⟩) hS ?_
 rotate_left 1
 · intro w' hB; have h1 := boxStays X1.out hB.below; have h2 := boxStays X2.out hB.below; have k0 := cell_of_row _ _ 0 _ _ _ h1; have k1 := cell_of_row _ _ 1 _ _ _ h1; have k2 := cell_of_row _ _ 2 _ _ _ h1; have k3 := cell_of_row _ _ 3 _ _ _ h1; have k4 := cell_of_row _ _ 4 _ _ _ h1; have q0 := cell_of_row _ _ 0 _ _ _ h2; have q1 := cell_of_row _ _ 1 _ _ _ h2; have q2 := cell_of_row _ _ 2 _ _ _ h2; have q3 := cell_of_row _ _ 3 _ _ _ h2; have q4 := cell_of_row _ _ 4 _ _ _ h2; clear h1 h2; (go_simp <;> with_reducible rfl)
 try simp only [Act.put, List.setIfInBounds_toArray, List.set_cons_zero, List.set_cons_succ]
 refine wpAnyH_take (i := 3) (oi := ⟨some 11, _, _, _, _, _⟩) (v := ?_) rfl (by kernel_rfl) (by kernel_rfl) (by kernel_rfl) (fun _ _ _ h => h) (Or.inl ⟨by rfl, ?_⟩) hS ?_
 rotate_left 1
 · intro w' hB; have h1 := boxStays X1.out hB.below; have h2 := boxStays X2.out hB.below; have k0 := cell_of_row _ _ 0 _ _ _ h1; have k1 := cell_of_row _ _ 1 _ _ _ h1; have k2 := cell_of_row _ _ 2 _ _ _ h1; have k3 := cell_of_row _ _ 3 _ _ _ h1; have k4 := cell_of_row _ _ 4 _ _ _ h1; have q0 := cell_of_row _ _ 0 _ _ _ h2; have q1 := cell_of_row _ _ 1 _ _ _ h2; have q2 := cell_of_row _ _ 2 _ _ _ h2; have q3 := cell_of_row _ _ 3 _ _ _ h2; have q4 := cell_of_row _ _ 4 _ _ _ h2; clear h1 h2; (go_simp <;> with_reducible rfl)
 try simp only [Act.put, List.setIfInBounds_toArray, List.set_cons_zero, List.set_cons_succ]
 refine wpAnyH_take (i := 5) (oi := ⟨some 13, _, _, _, _, _⟩) (v := ?_) rfl (by kernel_rfl) (by kernel_rfl) (by kernel_rfl) (fun _ _ _ h => h) (Or.inl ⟨by rfl, ?_⟩) hS ?_
 rotate_left 1
 · intro w' hB; have h1 := boxStays X1.out hB.below; have h2 := boxStays X2.out hB.below; have k0 := cell_of_row _ _ 0 _ _ _ h1; have k1 := cell_of_row _ _ 1 _ _ _ h1; have k2 := cell_of_row _ _ 2 _ _ _ h1; have k3 := cell_of_row _ _ 3 _ _ _ h1; have k4 := cell_of_row _ _ 4 _ _ _ h1; have q0 := cell_of_row _ _ 0 _ _ _ h2; have q1 := cell_of_row _ _ 1 _ _ _ h2; have q2 := cell_of_row _ _ 2 _ _ _ h2; have q3 := cell_of_row _ _ 3 _ _ _ h2; have q4 := cell_of_row _ _ 4 _ _ _ h2; clear h1 h2; (go_simp <;> with_reducible rfl)
 try simp only [Act.put, List.setIfInBounds_toArray, List.set_cons_zero, List.set_cons_succ]
 refine wpAnyH_take (i := 6) (oi := ⟨some 14, _, _, _, _, _⟩) (v := ?_) rfl (by kernel_rfl) (by kernel_rfl) (by kernel_rfl) (fun _ _ _ h => h) (Or.inl ⟨by rfl, ?_⟩) hS ?_
 rotate_left 1
 · intro w' hB; have h1 := boxStays X1.out hB.below; have h2 := boxStays X2.out hB.below; have k0 := cell_of_row _ _ 0 _ _ _ h1; have k1 := cell_of_row _ _ 1 _ _ _ h1; have k2 := cell_of_row _ _ 2 _ _ _ h1; have k3 := cell_of_row _ _ 3 _ _ _ h1; have k4 := cell_of_row _ _ 4 _ _ _ h1; have q0 := cell_of_row _ _ 0 _ _ _ h2; have q1 := cell_of_row _ _ 1 _ _ _ h2; have q2 := cell_of_row _ _ 2 _ _ _ h2; have q3 := cell_of_row _ _ 3 _ _ _ h2; have q4 := cell_of_row _ _ 4 _ _ _ h2; clear h1 h2; (go_simp <;> with_reducible rfl)
 try simp only [Act.put, List.setIfInBounds_toArray, List.set_cons_zero, List.set_cons_succ]
 refine wpAnyH_take (i := 7) (oi := ⟨some 15, _, _, _, _, _⟩) (v := ?_) rfl (by kernel_rfl) (by kernel_rfl) (by kernel_rfl) (fun _ _ _ h => h) (Or.inl ⟨by rfl, ?_⟩) hS ?_
 rotate_left 1
 · intro w' hB; have h1 := boxStays X1.out hB.below; have h2 := boxStays X2.out hB.below; have k0 := cell_of_row _ _ 0 _ _ _ h1; have k1 := cell_of_row _ _ 1 _ _ _ h1; have k2 := cell_of_row _ _ 2 _ _ _ h1; have k3 := cell_of_row _ _ 3 _ _ _ h1; have k4 := cell_of_row _ _ 4 _ _ _ h1; have q0 := cell_of_row _ _ 0 _ _ _ h2; have q1 := cell_of_row _ _ 1 _ _ _ h2; have q2 := cell_of_row _ _ 2 _ _ _ h2; have q3 := cell_of_row _ _ 3 _ _ _ h2; have q4 := cell_of_row _ _ 4 _ _ _ h2; clear h1 h2; (go_simp <;> with_reducible rfl)
 try simp only [Act.put, List.setIfInBounds_toArray, List.set_cons_zero, List.set_cons_succ]
 refine wpAnyH_take (i := 8) (oi := ⟨some 16, _, _, _, _, _⟩) (v := ?_) rfl (by kernel_rfl) (by kernel_rfl) (by kernel_rfl) (fun _ _ _ h => h) (Or.inl ⟨by rfl, ?_⟩) hS ?_
 rotate_left 1
 · intro w' hB; have h1 := boxStays X1.out hB.below; have h2 := boxStays X2.out hB.below; have k0 := cell_of_row _ _ 0 _ _ _ h1; have k1 := cell_of_row _ _ 1 _ _ _ h1; have k2 := cell_of_row _ _ 2 _ _ _ h1; have k3 := cell_of_row _ _ 3 _ _ _ h1; have k4 := cell_of_row _ _ 4 _ _ _ h1; have q0 := cell_of_row _ _ 0 _ _ _ h2; have q1 := cell_of_row _ _ 1 _ _ _ h2; have q2 := cell_of_row _ _ 2 _ _ _ h2; have q3 := cell_of_row _ _ 3 _ _ _ h2; have q4 := cell_of_row _ _ 4 _ _ _ h2; clear h1 h2; (go_simp <;> with_reducible rfl)
 try simp only [Act.put, List.setIfInBounds_toArray, List.set_cons_zero, List.set_cons_succ]
 refine wpAnyH_take (i := 10) (oi := ⟨some 18, _, _, _, _, _⟩) (v := ?_) rfl (by kernel_rfl) (by kernel_rfl) (by kernel_rfl) (fun _ _ _ h => h) (Or.inl ⟨by rfl, ?_⟩) hS ?_
 rotate_left 1
 · intro w' hB; have h1 := boxStays X1.out hB.below; have h2 := boxStays X2.out hB.below; have k0 := cell_of_row _ _ 0 _ _ _ h1; have k1 := cell_of_row _ _ 1 _ _ _ h1; have k2 := cell_of_row _ _ 2 _ _ _ h1; have k3 := cell_of_row _ _ 3 _ _ _ h1; have k4 := cell_of_row _ _ 4 _ _ _ h1; have q0 := cell_of_row _ _ 0 _ _ _ h2; have q1 := cell_of_row _ _ 1 _ _ _ h2; have q2 := cell_of_row _ _ 2 _ _ _ h2; have q3 := cell_of_row _ _ 3 _ _ _ h2; have q4 := cell_of_row _ _ 4 _ _ _ h2; clear h1 h2; (go_simp <;> with_reducible rfl)
 try simp only [Act.put, List.setIfInBounds_toArray, List.set_cons_zero, List.set_cons_succ]
 refine wpAnyH_take (i := 11) (oi := ⟨some 19, _, _, _, _, _⟩) (v := ?_) rfl (by kernel_rfl) (by kernel_rfl) (by kernel_rfl) (fun _ _ _ h => h) (Or.inl ⟨by rfl, ?_⟩) hS ?_
 rotate_left 1
 · intro w' hB; have h1 := boxStays X1.out hB.below; have h2 := boxStays X2.out hB.below; have k0 := cell_of_row _ _ 0 _ _ _ h1; have k1 := cell_of_row _ _ 1 _ _ _ h1; have k2 := cell_of_row _ _ 2 _ _ _ h1; have k3 := cell_of_row _ _ 3 _ _ _ h1; have k4 := cell_of_row _ _ 4 _ _ _ h1; have q0 := cell_of_row _ _ 0 _ _ _ h2; have q1 := cell_of_row _ _ 1 _ _ _ h2; have q2 := cell_of_row _ _ 2 _ _ _ h2; have q3 := cell_of_row _ _ 3 _ _ _ h2; have q4 := cell_of_row _ _ 4 _ _ _ h2; clear h1 h2; (go_simp <;> with_reducible rfl)
 try simp only [Act.put, List.setIfInBounds_toArray, List.set_cons_zero, List.set_cons_succ]
 refine wpAnyH_take (i := 12) (oi := ⟨some 20, _, _, _, _, _⟩) (v := ?_) rfl (by kernel_rfl) (by kernel_rfl) (by kernel_rfl) (fun _ _ _ h => h) (Or.inl ⟨by rfl, ?_⟩) hS ?_
 rotate_left 1
 · intro w' hB; have h1 := boxStays X1.out hB.below; have h2 := boxStays X2.out hB.below; have k0 := cell_of_row _ _ 0 _ _ _ h1; have k1 := cell_of_row _ _ 1 _ _ _ h1; have k2 := cell_of_row _ _ 2 _ _ _ h1; have k3 := cell_of_row _ _ 3 _ _ _ h1; have k4 := cell_of_row _ _ 4 _ _ _ h1; have q0 := cell_of_row _ _ 0 _ _ _ h2; have q1 := cell_of_row _ _ 1 _ _ _ h2; have q2 := cell_of_row _ _ 2 _ _ _ h2; have q3 := cell_of_row _ _ 3 _ _ _ h2; have q4 := cell_of_row _ _ 4 _ _ _ h2; clear h1 h2; (go_simp <;> with_reducible rfl)
 try simp only [Act.put, List.setIfInBounds_toArray, List.set_cons_zero, List.set_cons_succ]
 refine wpAnyH_take (i := 13) (oi := ⟨some 21, _, _, _, _, _⟩) (v := ?_) rfl (by kernel_rfl) (by kernel_rfl) (by kernel_rfl) (fun _ _ _ h => h) (Or.inl ⟨by rfl, ?_⟩) hS ?_
 rotate_left 1
 · intro w' hB; have h1 := boxStays X1.out hB.below; have h2 := boxStays X2.out hB.below; have k0 := cell_of_row _ _ 0 _ _ _ h1; have k1 := cell_of_row _ _ 1 _ _ _ h1; have k2 := cell_of_row _ _ 2 _ _ _ h1; have k3 := cell_of_row _ _ 3 _ _ _ h1; have k4 := cell_of_row _ _ 4 _ _ _ h1; have q0 := cell_of_row _ _ 0 _ _ _ h2; have q1 := cell_of_row _ _ 1 _ _ _ h2; have q2 := cell_of_row _ _ 2 _ _ _ h2; have q3 := cell_of_row _ _ 3 _ _ _ h2; have q4 := cell_of_row _ _ 4 _ _ _ h2; clear h1 h2; (go_simp <;> with_reducible rfl)
 try simp only [Act.put, List.setIfInBounds_toArray, List.set_cons_zero, List.set_cons_succ]
 refine wpAnyH_ready (rs := [4]) (by kernel_rfl) (by simp) (AllReadyH.cons (o := ⟨some 12, _, _, _, _, _⟩) rfl (fun K hK => ?_) AllReadyH.nil)
 go_simp
 refine (stp_number g1 g2 _).mono ?_
 rintro e w2 ⟨rfl, hb⟩
 refine hK.out _ _ (hS.trans (hb)) (fun _ => ?_)
 clear hK K
 replace hS := hS.trans (hb)
 clear hb
 try simp only [Act.put, List.setIfInBounds_toArray, List.set_cons_zero, List.set_cons_succ]
 refine wpAnyH_ready (rs := [9]) (by kernel_rfl) (by simp) (AllReadyH.cons (o := ⟨some 17, _, _, _, _, _⟩) rfl (fun K hK => ?_) AllReadyH.nil)
 go_simp
 refine (stp_CmpName r1 l1 n1 r2 l2 n2 _).mono ?_
 rintro e w3 ⟨rfl, hb⟩
 refine hK.out _ _ (hS.trans (hb)) (fun _ => ?_)
 clear hK K
 replace hS := hS.trans (hb)
 clear hb
 try simp only [Act.put, List.setIfInBounds_toArray, List.set_cons_zero, List.set_cons_succ]
 refine wpAnyH_ready (rs := [14]) (by kernel_rfl) (by simp) (AllReadyH.cons (o := ⟨some 22, _, _, _, _, _⟩) rfl (fun K hK => ?_) AllReadyH.nil)
 go_simp
 refine (stp_number i1 i2 _).mono ?_
 rintro e w4 ⟨rfl, hb⟩
 refine hK.out _ _ (hS.trans (hb)) (fun _ => ?_)
 clear hK K
 replace hS := hS.trans (hb)
 clear hb
 try simp only [Act.put, List.setIfInBounds_toArray, List.set_cons_zero, List.set_cons_succ]
 refine wpAnyH_take (i := 15) (oi := ⟨some 23, _, _, _, _, _⟩) (v := ?_) rfl (by kernel_rfl) (by kernel_rfl) (by kernel_rfl) (fun _ _ _ h => h) (Or.inl ⟨by rfl, ?_⟩) hS ?_
 rotate_left 1
 · intro w' hB; have h1 := boxStays X1.out hB.below; have h2 := boxStays X2.out hB.below; have k0 := cell_of_row _ _ 0 _ _ _ h1; have k1 := cell_of_row _ _ 1 _ _ _ h1; have k2 := cell_of_row _ _ 2 _ _ _ h1; have k3 := cell_of_row _ _ 3 _ _ _ h1; have k4 := cell_of_row _ _ 4 _ _ _ h1; have q0 := cell_of_row _ _ 0 _ _ _ h2; have q1 := cell_of_row _ _ 1 _ _ _ h2; have q2 := cell_of_row _ _ 2 _ _ _ h2; have q3 := cell_of_row _ _ 3 _ _ _ h2; have q4 := cell_of_row _ _ 4 _ _ _ h2; clear h1 h2; (go_simp <;> with_reducible rfl)
 try simp only [Act.put, List.setIfInBounds_toArray, List.set_cons_zero, List.set_cons_succ]
 refine wpAnyH_ready (rs := [16]) (by kernel_rfl) (by simp) (AllReadyH.cons (o := ⟨some 24, _, _, _, _, _⟩) rfl (fun K hK => ?_) AllReadyH.nil)
 go_simp
 refine (stp_first (numC g1 g2) (nmC r1 l1 n1 r2 l2 n2) (numC i1 i2) _).mono ?_
 rintro e w5 ⟨rfl, hb⟩
 refine hK.out _ _ (hS.trans (hb)) (fun _ => ?_)
 clear hK K
 replace hS := hS.trans (hb)
 clear hb
 try simp only [Act.put, List.setIfInBounds_toArray, List.set_cons_zero, List.set_cons_succ]
 refine wpAnyH_take (i := 17) (oi := ⟨some 4, _, _, _, _, _⟩) (v := ?_) rfl (by kernel_rfl) (by kernel_rfl) (by kernel_rfl) (fun _ _ _ h => h) (Or.inl ⟨by rfl, ?_⟩) hS ?_
 rotate_left 1
 · intro w' hB; have h1 := boxStays X1.out hB.below; have h2 := boxStays X2.out hB.below; have k0 := cell_of_row _ _ 0 _ _ _ h1; have k1 := cell_of_row _ _ 1 _ _ _ h1; have k2 := cell_of_row _ _ 2 _ _ _ h1; have k3 := cell_of_row _ _ 3 _ _ _ h1; have k4 := cell_of_row _ _ 4 _ _ _ h1; have q0 := cell_of_row _ _ 0 _ _ _ h2; have q1 := cell_of_row _ _ 1 _ _ _ h2; have q2 := cell_of_row _ _ 2 _ _ _ h2; have q3 := cell_of_row _ _ 3 _ _ _ h2; have q4 := cell_of_row _ _ 4 _ _ _ h2; clear h1 h2; (go_simp <;> with_reducible rfl)
 try simp only [Act.put, List.setIfInBounds_toArray, List.set_cons_zero, List.set_cons_succ]
 refine wpAnyH_done (by kernel_rfl) (NoPanic.normal ?_) _
 have HS := Lib.hid (GW.out.trans hS)
 clear hS
 go_wp2_with fail
 go_ret
 exact ⟨by rw [← HV.out]; rfl, HS.out⟩
theorem stp_Cmp (s t : Sv) (w : World) :
 Calls Tryz.prog 63 #[.agg #[.int .i64 s.g, .int .i64 s.r, .string s.l, .int .i64 s.n, .int .i64 s.i], .agg #[.int .i64 t.g, .int .i64 t.r, .string t.l, .int .i64 t.n, .int .i64 t.i]] w fun e w' => e = .returned (.int .i64 (svC s t)) ∧ Below w.heap.size w w' := (stp_CmpS s t w).mono fun _ _ ⟨h1, h2⟩ => ⟨h1, h2.below⟩
end Go.Proofs.YtjlliohjeiclaaaGreatDoor
namespace Go.Proofs.YtjlliohjeiclaaaGreatDoor
namespace St
open Pm
theorem numC_neg (a b : Int) : numC b a = - numC a b := by
 unfold numC
 split <;> split <;> first | omega | (split <;> omega) | skip
theorem txtC_neg (a b : ByteArray) : txtC b a = - txtC a b := by
 unfold txtC
 cases h : klt a b with
 | true => rw [klt_asymm h]; simp
 | false => cases h' : klt b a <;> simp
theorem firstC_neg (a b : Int) : firstC (-a) (-b) = - firstC a b := by
 unfold firstC
 by_cases h : a = 0
 · rw [if_pos (by omega), if_pos h]
 · rw [if_neg (by omega), if_neg h]
theorem svC_neg (s t : Sv) : svC t s = - svC s t := by
 unfold svC nmC brC
 rw [numC_neg s.g t.g, numC_neg s.r t.r, txtC_neg s.l t.l, numC_neg s.n t.n, numC_neg s.i t.i, firstC_neg, firstC_neg, firstC_neg, firstC_neg]
theorem svC_le {s t : Sv} (hs : s.ok = true) (ht : t.ok = true) : decide (svC s t ≤ 0) = !(t.st.lt s.st) := by
 rw [← svC_lt ht hs, svC_neg s t]
 by_cases h : svC s t ≤ 0
 · rw [decide_eq_true h, decide_eq_false (by omega)]; rfl
 · rw [decide_eq_false h, decide_eq_true (by omega)]; rfl
theorem left_start (A B : List El) : Left A B A B := ⟨⟨[], rfl, fun x hx => by cases hx⟩, ⟨[], rfl, fun x hx => by cases hx⟩⟩
section
variable {A B a b : List El} {x y : El}
theorem left_mem (hA : SrtE A) (hB : SrtE B) (h : Left A B a b) : (∀ z ∈ a, z ∈ A) ∧ (∀ z ∈ b, z ∈ B) ∧ SrtE a ∧ SrtE b := by
 obtain ⟨pa, ea, _⟩ := h.ga
 obtain ⟨pb, eb, _⟩ := h.gb
 refine ⟨fun z hz => by rw [ea]; exact List.mem_append_right _ hz, fun z hz => by rw [eb]; exact List.mem_append_right _ hz, ?_, ?_⟩
 · rw [ea] at hA; exact (List.pairwise_append.1 hA).2.1
 · rw [eb] at hB; exact (List.pairwise_append.1 hB).2.1
theorem left_b (hA : SrtE A) (hB : SrtE B) (hok : ∀ z ∈ A ++ B, z.1.ok = true) (h : Left A B (x :: a) (y :: b)) (hlt : y.1.lt x.1 = true) : Left A B (x :: a) b := by
 obtain ⟨m1, m2, s1, s2⟩ := left_mem hA hB h
 obtain ⟨pa, ea, la⟩ := h.ga
 obtain ⟨pb, eb, lb⟩ := h.gb
 refine ⟨⟨pa, ea, fun z hz w hw => la z hz w (List.mem_cons_of_mem _ hw)⟩, ⟨pb ++ [y], by rw [eb]; simp, fun z hz w hw => ?_⟩⟩
 rcases List.mem_append.1 hz with hz | hz
 · exact lb z hz w hw
 · rw [List.mem_singleton.1 hz]
   have okA : ∀ z ∈ x :: a, z.1.ok = true := fun z hz => hok z (List.mem_append_left _ (m1 z hz))
   have oky := hok y (List.mem_append_right _ (m2 y List.mem_cons_self))
   rcases List.mem_cons.1 hw with rfl | hw'
   · exact hlt
   · exact lt_trans oky (okA _ List.mem_cons_self) (okA _ hw) hlt (lt_of (l := []) s1 w hw')
theorem left_b0 (h : Left A B [] (y :: b)) : Left A B [] b := by
 obtain ⟨pa, ea, la⟩ := h.ga
 obtain ⟨pb, eb, lb⟩ := h.gb
 exact ⟨⟨pa, ea, fun z hz w hw => la z hz w (List.mem_cons_of_mem _ hw)⟩, ⟨pb ++ [y], by rw [eb]; simp, fun z hz w hw => by cases hw⟩⟩
theorem left_a0 (hA : SrtE A) (hB : SrtE B) (hok : ∀ z ∈ A ++ B, z.1.ok = true) (h : Left A B (x :: a) []) : Left A B a [] ∧ hasS B x.1 = false := by
 obtain ⟨m1, m2, s1, s2⟩ := left_mem hA hB h
 obtain ⟨pa, ea, la⟩ := h.ga
 obtain ⟨pb, eb, lb⟩ := h.gb
 refine ⟨⟨⟨pa ++ [x], by rw [ea]; simp, fun z hz w hw => by cases hw⟩, ⟨pb, eb, fun z hz w hw => lb z hz w (List.mem_cons_of_mem _ hw)⟩⟩, ?_⟩
 cases e : hasS B x.1 with
 | false => rfl
 | true =>
  obtain ⟨z, hz, hzx⟩ := hasS_iff.1 e
  rw [eb, List.append_nil] at hz
  have h1 := lb z hz x List.mem_cons_self
  rw [hzx, lt_irrefl (hok x (List.mem_append_left _ (m1 x List.mem_cons_self)))] at h1
  cases h1
theorem left_both (hA : SrtE A) (hB : SrtE B) (hok : ∀ z ∈ A ++ B, z.1.ok = true) (h : Left A B (x :: a) (y :: b)) (hnl : y.1.lt x.1 = false) (hb : hasS B x.1 = true) : y.1 = x.1 ∧ Left A B a b := by
 obtain ⟨m1, m2, s1, s2⟩ := left_mem hA hB h
 obtain ⟨pa, ea, la⟩ := h.ga
 obtain ⟨pb, eb, lb⟩ := h.gb
 have okA : ∀ z ∈ x :: a, z.1.ok = true := fun z hz => hok z (List.mem_append_left _ (m1 z hz))
 have okB : ∀ z ∈ y :: b, z.1.ok = true := fun z hz => hok z (List.mem_append_right _ (m2 z hz))
 have hyx : y.1 = x.1 := by
  obtain ⟨z, hz, hzx⟩ := hasS_iff.1 hb
  rw [eb] at hz
  rcases List.mem_append.1 hz with hz | hz
  · have h1 := lb z hz x List.mem_cons_self
    rw [hzx, lt_irrefl (okA x List.mem_cons_self)] at h1
    cases h1
  · rcases List.mem_cons.1 hz with rfl | hz
    · exact hzx
    · have h1 := lt_of (l := []) s2 z hz
      rw [hzx, hnl] at h1
      cases h1
 refine ⟨hyx, ⟨⟨pa ++ [x], by rw [ea]; simp, fun z hz w hw => ?_⟩, ⟨pb ++ [y], by rw [eb]; simp, fun z hz w hw => ?_⟩⟩⟩
 · rcases List.mem_append.1 hz with hz | hz
   · exact la z hz w (List.mem_cons_of_mem _ hw)
   · rw [List.mem_singleton.1 hz, ← hyx]
     exact lt_of (l := []) s2 w hw
 · rcases List.mem_append.1 hz with hz | hz
   · exact lb z hz w (List.mem_cons_of_mem _ hw)
   · rw [List.mem_singleton.1 hz, hyx]
     exact lt_of (l := []) s1 w hw
theorem left_a (hA : SrtE A) (hB : SrtE B) (hok : ∀ z ∈ A ++ B, z.1.ok = true) (h : Left A B (x :: a) (y :: b)) (hnl : y.1.lt x.1 = false) (hb : hasS B x.1 = false) : Left A B a (y :: b) := by
 obtain ⟨m1, m2, s1, s2⟩ := left_mem hA hB h
 obtain ⟨pa, ea, la⟩ := h.ga
 obtain ⟨pb, eb, lb⟩ := h.gb
 have okA : ∀ z ∈ x :: a, z.1.ok = true := fun z hz => hok z (List.mem_append_left _ (m1 z hz))
 have okB : ∀ z ∈ y :: b, z.1.ok = true := fun z hz => hok z (List.mem_append_right _ (m2 z hz))
 have hlt : x.1.lt y.1 = true := by
  cases e : x.1.lt y.1 with
  | true => rfl
  | false =>
   have := lt_tri (okA x List.mem_cons_self) (okB y List.mem_cons_self) e hnl
   rw [hasS_iff.2 ⟨y, m2 y List.mem_cons_self, this.symm⟩] at hb
   cases hb
 refine ⟨⟨pa ++ [x], by rw [ea]; simp, fun z hz w hw => ?_⟩, ⟨pb, eb, fun z hz w hw => lb z hz w (List.mem_cons_of_mem _ hw)⟩⟩
 rcases List.mem_append.1 hz with hz | hz
 · exact la z hz w hw
 · rw [List.mem_singleton.1 hz]
   rcases List.mem_cons.1 hw with rfl | hw'
   · exact hlt
   · exact lt_trans (okA x List.mem_cons_self) (okB y List.mem_cons_self) (okB w hw) hlt (lt_of (l := []) s2 w hw')
end
theorem elsF_00 (base A B : List El) : elsF base A B [] [] = [] := by rw [elsF]
theorem elsF_0b (base A B b : List El) (y : El) : elsF base A B [] (y :: b) = (if hasS base y.1 then [] else [y]) ++ elsF base A B [] b := by rw [elsF]
theorem elsF_a0 (base A B a : List El) (x : El) (h : hasS B x.1 = false) : elsF base A B (x :: a) [] = (if hasS base x.1 then [] else [x]) ++ elsF base A B a [] := by
 rw [elsF, h]
 cases hasS base x.1 <;> simp
theorem elsF_lt (base A B a b : List El) (x y : El) (h : y.1.lt x.1 = true) : elsF base A B (x :: a) (y :: b) = (if hasS base y.1 then [] else [y]) ++ elsF base A B (x :: a) b := by rw [elsF, if_pos h]
theorem elsF_both (base A B a b : List El) (x y : El) (h : y.1.lt x.1 = false) (hb : hasS B x.1 = true) : elsF base A B (x :: a) (y :: b) = [x] ++ elsF base A B a b := by
 rw [elsF, if_neg (by rw [h]; simp), hb]
 simp
theorem elsF_not (base A B a b : List El) (x y : El) (h : y.1.lt x.1 = false) (hb : hasS B x.1 = false) : elsF base A B (x :: a) (y :: b) = (if hasS base x.1 then [] else [x]) ++ elsF base A B a (y :: b) := by
 rw [elsF, if_neg (by rw [h]; simp), hb]
 cases hasS base x.1 <;> simp
def hasW (l : List Ev) (s : Sv) : Bool := l.any fun y => decide (y.1 = s)
theorem hasW_S {l : List El} {x : El} (hl : ∀ z ∈ l, z.1.ok = true) (hx : x.1.ok = true) : hasW (l.map toV) (toV x).1 = hasS l x.1 := by
 unfold hasW hasS
 rw [List.any_map]
 have : ∀ z ∈ l, ((fun y : Ev => decide (y.1 = (toV x).1)) ∘ toV) z = decide (z.1 = x.1) := by
  intro z hz
  show decide (z.1.sv = x.1.sv) = decide (z.1 = x.1)
  rw [decide_eq_decide]
  exact ⟨fun h => by rw [← (Stp.ok_sv (hl z hz)).2, h, (Stp.ok_sv hx).2], fun h => by rw [h]⟩
 clear hl
 induction l with
 | nil => rfl
 | cons z l ih => rw [List.any_cons, List.any_cons, this z List.mem_cons_self, ih fun w hw => this w (List.mem_cons_of_mem _ hw)]
theorem lab_size {x : El} (hx : x.1.ok = true) : (toV x).1.l.size ≤ 12 := by
 have h := (Stp.ok_iff.1 hx).2.2.2.1
 unfold okLabel at h
 simp only [Bool.and_eq_true, decide_eq_true_eq] at h
 show (ByteArray.mk x.1.label.toArray).size ≤ 12
 simpa [ByteArray.size] using h.2
theorem le_lt {x y : El} (hx : x.1.ok = true) (hy : y.1.ok = true) : decide (svC (toV x).1 (toV y).1 ≤ 0) = !(y.1.lt x.1) := by
 have := svC_le (Stp.ok_sv hx).1 (Stp.ok_sv hy).1
 rw [(Stp.ok_sv hx).2, (Stp.ok_sv hy).2] at this
 exact this
theorem elsF_length (base A B : List El) : ∀ (n : Nat) (a b : List El), a.length + b.length ≤ n → (elsF base A B a b).length ≤ a.length + b.length := by
 intro n
 induction n with
 | zero =>
  intro a b h
  obtain rfl : a = [] := List.eq_nil_of_length_eq_zero (by omega)
  obtain rfl : b = [] := List.eq_nil_of_length_eq_zero (by omega)
  rw [elsF_00]; simp
 | succ n ih =>
  intro a b h
  have hi : ∀ (c : Bool) (z : El), (if c = true then [] else [z]).length ≤ 1 := fun c z => by cases c <;> simp
  match a, b, h with
  | [], [], _ => rw [elsF_00]; simp
  | [], y :: b, h =>
   rw [elsF_0b, List.length_append]
   have := ih [] b (by simp at h ⊢; omega)
   have := hi (hasS base y.1) y
   simp at *; omega
  | x :: a, [], h =>
   rw [elsF, List.length_append]
   have := ih a [] (by simp at h ⊢; omega)
   have h2 : (if (hasS B x.1 || !hasS base x.1) = true then [x] else []).length ≤ 1 := by split <;> simp
   simp at *; omega
  | x :: a, y :: b, h =>
   cases e : y.1.lt x.1 with
   | true =>
    rw [elsF_lt _ _ _ _ _ _ _ e, List.length_append]
    have := ih (x :: a) b (by simp at h ⊢; omega)
    have := hi (hasS base y.1) y
    simp at *; omega
   | false =>
    cases e2 : hasS B x.1 with
    | true =>
     rw [elsF_both _ _ _ _ _ _ _ e e2, List.length_append]
     have := ih a b (by simp at h ⊢; omega)
     simp at *; omega
    | false =>
     rw [elsF_not _ _ _ _ _ _ _ e e2, List.length_append]
     have := ih a (y :: b) (by simp at h ⊢; omega)
     have := hi (hasS base x.1) x
     simp at *; omega
end St
end Go.Proofs.YtjlliohjeiclaaaGreatDoor
