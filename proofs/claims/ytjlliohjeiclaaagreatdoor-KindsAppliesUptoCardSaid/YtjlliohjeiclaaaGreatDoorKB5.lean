/- Words, contracts and walks that the proof stands on (KnB Grw). -/
import Derived.Sort.Grow
import Derived.Test.YtjlliohjeiclaaaGreatDoorKB1
import Derived.Test.YtjlliohjeiclaaaGreatDoorKB3
import Derived.Test.YtjlliohjeiclaaaGreatDoorKB4
namespace Go.Proofs.YtjlliohjeiclaaaGreatDoor
open Go.RowKit St Pm Ku
namespace Kn
def okK (l : List ByteArray) (k : Int) (x : ByteArray) (d : Int) (t : ByteArray) : Bool := pathG l && (keyG x && (thingG k && (decide (kindK d ≠ 0) && decide (t.size ≤ 256))))
def bareK (d m : Int) (t : ByteArray) : Bool := decide ((if d = 1 then 0 else m) = 0) && decide ((if d = 1 ∨ d = 6 then t else ⟨#[]⟩) = ⟨#[]⟩)
def checkK (l : List ByteArray) (k : Int) (x : ByteArray) (d m : Int) (t : ByteArray) : Int := if okK l k x d t = true then (if bareK d m t = true then (if kindK d = k then 0 else 7) else 2) else 2
theorem check_bad {l : List ByteArray} {k : Int} {x : ByteArray} {d m : Int} {t : ByteArray} (h : okK l k x d t = false) : checkK l k x d m t = 2 := by unfold checkK; rw [h]; rfl
theorem check_bare {l : List ByteArray} {k : Int} {x : ByteArray} {d m : Int} {t : ByteArray} (h : bareK d m t = false) : checkK l k x d m t = 2 := by unfold checkK; rw [h]; split <;> rfl
end Kn
open Kn
theorem key_Text (s : ByteArray) (w : World) : Calls Tryz.prog 85 #[.string s] w fun e w' => e = .returned (.bool (decide (s.size ≤ 256))) ∧ Below w.heap.size w w' := by
 go_enter Tryz.func85, Tryz.ntmps85
 go_wp2
 go_ret
 refine ⟨?_, Below.refl _ _⟩
 by_cases h : s.size ≤ 256 <;> simp [h] <;> omega
theorem fields_neq (m : Int) (t : ByteArray) (w : World) : (binOp .neq 182 (.agg #[.int .i64 m, .string t]) (.agg #[.int .i64 0, .string ⟨#[]⟩])).run Tryz.prog w = .ok (.bool (!(decide (m = 0) && decide (t = ⟨#[]⟩)))) w := by
 rw [run_neq_struct]
 simp [go_sem, Tryz.underlying182]
 have e : (⟨#[]⟩ : ByteArray).toList = [] := by rw [ByteArray.toList_eq]
 have ht : t.toList = [] ↔ t = ⟨#[]⟩ := by
  constructor
  · intro h
    apply ByteArray.ext
    apply Array.toList_inj.1
    rw [ByteArray.toList_eq] at h
    simpa using h
  · intro h; rw [h]; exact e
 by_cases h1 : m = 0 <;> by_cases h2 : t = ⟨#[]⟩ <;> simp [h1, h2, ht]
theorem kn_OfB (d : Int) (w : World) : Calls Tryz.prog 121 #[.int .i64 d] w fun e w' => e = .returned (.int .i64 (kindK d)) ∧ Below w.heap.size w w' := (kn_Of d w).mono fun _ _ ⟨h1, h2⟩ => ⟨h1, by rw [← h2]; exact Below.refl _ _⟩
theorem kn_thingB (k : Int) (w : World) : Calls Tryz.prog 84 #[.int .i64 k] w fun e w' => e = .returned (.bool (thingG k)) ∧ Below w.heap.size w w' := (kn_thing k w).mono fun _ _ ⟨h1, h2⟩ => ⟨h1, by rw [← h2]; exact Below.refl _ _⟩
set_option maxRecDepth 100000 in
set_option maxHeartbeats 4000000 in
theorem kn_Check (l : List ByteArray) (k : Int) (x : ByteArray) (d m : Int) (t : ByteArray) (a : Option Addr) (n c : Nat) (w : World) (hl : CellsAt w a (txV l)) (hn : n = l.length) (hs : ∀ x ∈ l, x.size ≤ 9223372036854775807) (hx : x.size ≤ 9223372036854775807) (hG : Glob w) :
 Calls Tryz.prog 76 #[.agg #[.slice a n c, .int .i64 k, .string x, .int .i64 d, .int .i64 m, .string t]] w fun e w' => e = .returned (.int .i64 (checkK l k x d m t)) ∧ Below w.heap.size w w' := by
 have HL := Lib.hid hl
 have HN := Lib.hid hn
 have HSZ := Lib.hid hs
 have HX := Lib.hid hx
 have G := Lib.hid hG
 obtain ⟨re, hre⟩ : ∃ r, checkK l k x d m t = r := ⟨_, rfl⟩
 have RE := Lib.hid hre
 rw [hre]
 clear hl hn hs hx hG hre
 have HC : Hid (Chain [w] w) := Lib.hid (Chain.one w)
 go_enter Tryz.func76, Tryz.ntmps76
 go_upto_region 1 with (fail)
 obtain ⟨z, hz⟩ : ∃ c, w.heap.size = c := ⟨_, rfl⟩
 try rw [hz]
 obtain ⟨w1, hw1⟩ : ∃ X, allocs w [.cells #[.slice a n c, .int .i64 k, .string x, .int .i64 d, .int .i64 m, .string t] 82] = X := ⟨_, rfl⟩
 rw [show w.alloc (.cells #[.slice a n c, .int .i64 k, .string x, .int .i64 d, .int .i64 m, .string t] 82) = w1 from hw1]
 have hb : Below w.heap.size w w1 := by rw [← hw1]; exact allocs_below _ _
 have HO : Hid (w1.heap[z]? = some (.cells #[.slice a n c, .int .i64 k, .string x, .int .i64 d, .int .i64 m, .string t] 82 (0, 0))) := Lib.hid (by have := allocs_get [.cells #[.slice a n c, .int .i64 k, .string x, .int .i64 d, .int .i64 m, .string t] 82] w 0 _ rfl; rw [hw1, hz] at this; exact this)
 have Sz : Hid (w.heap.size = z) := Lib.hid hz
 replace HC := Lib.hid (HC.out.push hb)
 clear hb hw1 hz
 have kO0 := cell_of_row _ _ 0 _ _ _ HO.out
 have kO1 := cell_of_row _ _ 1 _ _ _ HO.out
 have kO2 := cell_of_row _ _ 2 _ _ _ HO.out
 have kO3 := cell_of_row _ _ 3 _ _ _ HO.out
 have kO4 := cell_of_row _ _ 4 _ _ _ HO.out
 have kO5 := cell_of_row _ _ 5 _ _ _ HO.out
 go_wp2_with fail
 refine (key_Path l a n c _ (HL.out.below (HC.out.to w (by simp)) rfl) HN.out HSZ.out (G.out.below (HC.out.to w (by simp)))).mono ?_
 rintro e w2 ⟨rfl, hb⟩
 clear kO0 kO1 kO2 kO3 kO4 kO5
 replace HC := Lib.hid (HC.out.push hb)
 clear hb
 obtain ⟨b1, h1⟩ : ∃ b, pathG l = b := ⟨_, rfl⟩
 rw [h1]
 have H1 := Lib.hid h1
 clear h1
 cases b1
 case false =>
  obtain rfl : (2 : Int) = re := by rw [← RE.out]; exact (check_bad (by unfold okK; simp [H1.out])).symm
  have kO0 := cell_of_row _ _ 0 _ _ _ (boxStays HO.out (HC.out.to w1 (by simp)))
  have kO1 := cell_of_row _ _ 1 _ _ _ (boxStays HO.out (HC.out.to w1 (by simp)))
  have kO2 := cell_of_row _ _ 2 _ _ _ (boxStays HO.out (HC.out.to w1 (by simp)))
  have kO3 := cell_of_row _ _ 3 _ _ _ (boxStays HO.out (HC.out.to w1 (by simp)))
  have kO4 := cell_of_row _ _ 4 _ _ _ (boxStays HO.out (HC.out.to w1 (by simp)))
  have kO5 := cell_of_row _ _ 5 _ _ _ (boxStays HO.out (HC.out.to w1 (by simp)))
  go_wp2_with fail
  go_ret
  exact ⟨rfl, (HC.out.to w (by simp))⟩
 have kO0 := cell_of_row _ _ 0 _ _ _ (boxStays HO.out (HC.out.to w1 (by simp)))
 have kO1 := cell_of_row _ _ 1 _ _ _ (boxStays HO.out (HC.out.to w1 (by simp)))
 have kO2 := cell_of_row _ _ 2 _ _ _ (boxStays HO.out (HC.out.to w1 (by simp)))
 have kO3 := cell_of_row _ _ 3 _ _ _ (boxStays HO.out (HC.out.to w1 (by simp)))
 have kO4 := cell_of_row _ _ 4 _ _ _ (boxStays HO.out (HC.out.to w1 (by simp)))
 have kO5 := cell_of_row _ _ 5 _ _ _ (boxStays HO.out (HC.out.to w1 (by simp)))
 go_wp2_with fail
 refine (key_Key x _ HX.out (G.out.below (HC.out.to w (by simp)))).mono ?_
 rintro e w3 ⟨rfl, hb⟩
 clear kO0 kO1 kO2 kO3 kO4 kO5
 replace HC := Lib.hid (HC.out.push hb)
 clear hb
 obtain ⟨b2, h2⟩ : ∃ b, keyG x = b := ⟨_, rfl⟩
 rw [h2]
 have H2 := Lib.hid h2
 clear h2
 cases b2
 case false =>
  obtain rfl : (2 : Int) = re := by rw [← RE.out]; exact (check_bad (by unfold okK; simp [H2.out])).symm
  have kO0 := cell_of_row _ _ 0 _ _ _ (boxStays HO.out (HC.out.to w1 (by simp)))
  have kO1 := cell_of_row _ _ 1 _ _ _ (boxStays HO.out (HC.out.to w1 (by simp)))
  have kO2 := cell_of_row _ _ 2 _ _ _ (boxStays HO.out (HC.out.to w1 (by simp)))
  have kO3 := cell_of_row _ _ 3 _ _ _ (boxStays HO.out (HC.out.to w1 (by simp)))
  have kO4 := cell_of_row _ _ 4 _ _ _ (boxStays HO.out (HC.out.to w1 (by simp)))
  have kO5 := cell_of_row _ _ 5 _ _ _ (boxStays HO.out (HC.out.to w1 (by simp)))
  go_wp2_with fail
  go_ret
  exact ⟨rfl, (HC.out.to w (by simp))⟩
 have kO0 := cell_of_row _ _ 0 _ _ _ (boxStays HO.out (HC.out.to w1 (by simp)))
 have kO1 := cell_of_row _ _ 1 _ _ _ (boxStays HO.out (HC.out.to w1 (by simp)))
 have kO2 := cell_of_row _ _ 2 _ _ _ (boxStays HO.out (HC.out.to w1 (by simp)))
 have kO3 := cell_of_row _ _ 3 _ _ _ (boxStays HO.out (HC.out.to w1 (by simp)))
 have kO4 := cell_of_row _ _ 4 _ _ _ (boxStays HO.out (HC.out.to w1 (by simp)))
 have kO5 := cell_of_row _ _ 5 _ _ _ (boxStays HO.out (HC.out.to w1 (by simp)))
 go_wp2_with fail
 refine (kn_thingB k _).mono ?_
 rintro e w4 ⟨rfl, hb⟩
 clear kO0 kO1 kO2 kO3 kO4 kO5
 replace HC := Lib.hid (HC.out.push hb)
 clear hb
 obtain ⟨b3, h3⟩ : ∃ b, thingG k = b := ⟨_, rfl⟩
 rw [h3]
 have H3 := Lib.hid h3
 clear h3
 cases b3
 case false =>
  obtain rfl : (2 : Int) = re := by rw [← RE.out]; exact (check_bad (by unfold okK; simp [H3.out])).symm
  have kO0 := cell_of_row _ _ 0 _ _ _ (boxStays HO.out (HC.out.to w1 (by simp)))
  have kO1 := cell_of_row _ _ 1 _ _ _ (boxStays HO.out (HC.out.to w1 (by simp)))
  have kO2 := cell_of_row _ _ 2 _ _ _ (boxStays HO.out (HC.out.to w1 (by simp)))
  have kO3 := cell_of_row _ _ 3 _ _ _ (boxStays HO.out (HC.out.to w1 (by simp)))
  have kO4 := cell_of_row _ _ 4 _ _ _ (boxStays HO.out (HC.out.to w1 (by simp)))
  have kO5 := cell_of_row _ _ 5 _ _ _ (boxStays HO.out (HC.out.to w1 (by simp)))
  go_wp2_with fail
  go_ret
  exact ⟨rfl, (HC.out.to w (by simp))⟩
 have kO0 := cell_of_row _ _ 0 _ _ _ (boxStays HO.out (HC.out.to w1 (by simp)))
 have kO1 := cell_of_row _ _ 1 _ _ _ (boxStays HO.out (HC.out.to w1 (by simp)))
 have kO2 := cell_of_row _ _ 2 _ _ _ (boxStays HO.out (HC.out.to w1 (by simp)))
 have kO3 := cell_of_row _ _ 3 _ _ _ (boxStays HO.out (HC.out.to w1 (by simp)))
 have kO4 := cell_of_row _ _ 4 _ _ _ (boxStays HO.out (HC.out.to w1 (by simp)))
 have kO5 := cell_of_row _ _ 5 _ _ _ (boxStays HO.out (HC.out.to w1 (by simp)))
 go_wp2_with fail
 refine (kn_OfB d _).mono ?_
 rintro e w5 ⟨rfl, hb⟩
 clear kO0 kO1 kO2 kO3 kO4 kO5
 replace HC := Lib.hid (HC.out.push hb)
 clear hb
 obtain ⟨kd, h4⟩ : ∃ q, kindK d = q := ⟨_, rfl⟩
 rw [h4]
 have H4 := Lib.hid h4
 clear h4
 by_cases h40 : kd = 0
 · subst h40
   obtain rfl : (2 : Int) = re := by rw [← RE.out]; exact (check_bad (by unfold okK; simp [H4.out])).symm
   have kO0 := cell_of_row _ _ 0 _ _ _ (boxStays HO.out (HC.out.to w1 (by simp)))
   have kO1 := cell_of_row _ _ 1 _ _ _ (boxStays HO.out (HC.out.to w1 (by simp)))
   have kO2 := cell_of_row _ _ 2 _ _ _ (boxStays HO.out (HC.out.to w1 (by simp)))
   have kO3 := cell_of_row _ _ 3 _ _ _ (boxStays HO.out (HC.out.to w1 (by simp)))
   have kO4 := cell_of_row _ _ 4 _ _ _ (boxStays HO.out (HC.out.to w1 (by simp)))
   have kO5 := cell_of_row _ _ 5 _ _ _ (boxStays HO.out (HC.out.to w1 (by simp)))
   go_wp2_with fail
   go_ret
   exact ⟨rfl, (HC.out.to w (by simp))⟩
 have h40b : (kd == 0) = false := by simp [h40]
 have kO0 := cell_of_row _ _ 0 _ _ _ (boxStays HO.out (HC.out.to w1 (by simp)))
 have kO1 := cell_of_row _ _ 1 _ _ _ (boxStays HO.out (HC.out.to w1 (by simp)))
 have kO2 := cell_of_row _ _ 2 _ _ _ (boxStays HO.out (HC.out.to w1 (by simp)))
 have kO3 := cell_of_row _ _ 3 _ _ _ (boxStays HO.out (HC.out.to w1 (by simp)))
 have kO4 := cell_of_row _ _ 4 _ _ _ (boxStays HO.out (HC.out.to w1 (by simp)))
 have kO5 := cell_of_row _ _ 5 _ _ _ (boxStays HO.out (HC.out.to w1 (by simp)))
 go_wp2_with fail
 refine (key_Text t _).mono ?_
 rintro e w6 ⟨rfl, hb⟩
 clear kO0 kO1 kO2 kO3 kO4 kO5
 replace HC := Lib.hid (HC.out.push hb)
 clear hb
 obtain ⟨b5, h5⟩ : ∃ b, decide (t.size ≤ 256) = b := ⟨_, rfl⟩
 rw [h5]
 have H5 := Lib.hid h5
 clear h5
 cases b5
 case false =>
  obtain rfl : (2 : Int) = re := by rw [← RE.out]; exact (check_bad (by unfold okK; simp [H5.out])).symm
  have kO0 := cell_of_row _ _ 0 _ _ _ (boxStays HO.out (HC.out.to w1 (by simp)))
  have kO1 := cell_of_row _ _ 1 _ _ _ (boxStays HO.out (HC.out.to w1 (by simp)))
  have kO2 := cell_of_row _ _ 2 _ _ _ (boxStays HO.out (HC.out.to w1 (by simp)))
  have kO3 := cell_of_row _ _ 3 _ _ _ (boxStays HO.out (HC.out.to w1 (by simp)))
  have kO4 := cell_of_row _ _ 4 _ _ _ (boxStays HO.out (HC.out.to w1 (by simp)))
  have kO5 := cell_of_row _ _ 5 _ _ _ (boxStays HO.out (HC.out.to w1 (by simp)))
  go_wp2_with fail
  go_ret
  exact ⟨rfl, (HC.out.to w (by simp))⟩
 have HOK : Hid (okK l k x d t = true) := Lib.hid (by unfold okK; simp [H1.out, H2.out, H3.out, H4.out, h40]; simpa using H5.out)
 clear h40b
 have kO0 := cell_of_row _ _ 0 _ _ _ (boxStays HO.out (HC.out.to w1 (by simp)))
 have kO1 := cell_of_row _ _ 1 _ _ _ (boxStays HO.out (HC.out.to w1 (by simp)))
 have kO2 := cell_of_row _ _ 2 _ _ _ (boxStays HO.out (HC.out.to w1 (by simp)))
 have kO3 := cell_of_row _ _ 3 _ _ _ (boxStays HO.out (HC.out.to w1 (by simp)))
 have kO4 := cell_of_row _ _ 4 _ _ _ (boxStays HO.out (HC.out.to w1 (by simp)))
 have kO5 := cell_of_row _ _ 5 _ _ _ (boxStays HO.out (HC.out.to w1 (by simp)))
 go_upto_region 4 with (fail)
 have LZ : Hid (z < w6.heap.size ∧ w.heap.size ≤ w6.heap.size) := Lib.hid ⟨Nat.lt_of_lt_of_le (Array.getElem?_eq_some_iff.1 HO.out).1 (HC.out.to w1 (by simp)).size, (HC.out.to w (by simp)).size⟩
 clear kO0 kO1 kO2 kO3 kO4 kO5
 obtain ⟨y, hy⟩ : ∃ c, w6.heap.size = c := ⟨_, rfl⟩
 try rw [hy]
 obtain ⟨w7, hw7⟩ : ∃ X, allocs w6 [.cells #[.int .i64 m, .string t] 182] = X := ⟨_, rfl⟩
 rw [show w6.alloc (.cells #[.int .i64 m, .string t] 182) = w7 from hw7]
 have hb : Below w6.heap.size w6 w7 := by rw [← hw7]; exact allocs_below _ _
 have HB : Hid (w7.heap[y]? = some (.cells #[.int .i64 m, .string t] 182 (0, 0))) := Lib.hid (by have := allocs_get [.cells #[.int .i64 m, .string t] 182] w6 0 _ rfl; rw [hw7, hy] at this; exact this)
 have Sy : Hid (w6.heap.size = y) := Lib.hid hy
 replace HC := Lib.hid (HC.out.push hb)
 clear hb hw7 hy
 have ZY : Hid (w.heap.size ≤ y ∧ z ≠ y) := Lib.hid (by have h1 := LZ.out; have h2 := Sy.out; omega)
 have kO0 := cell_of_row _ _ 0 _ _ _ (boxStays HO.out (HC.out.to w1 (by simp)))
 have kO1 := cell_of_row _ _ 1 _ _ _ (boxStays HO.out (HC.out.to w1 (by simp)))
 have kO2 := cell_of_row _ _ 2 _ _ _ (boxStays HO.out (HC.out.to w1 (by simp)))
 have kO3 := cell_of_row _ _ 3 _ _ _ (boxStays HO.out (HC.out.to w1 (by simp)))
 have kO4 := cell_of_row _ _ 4 _ _ _ (boxStays HO.out (HC.out.to w1 (by simp)))
 have kO5 := cell_of_row _ _ 5 _ _ _ (boxStays HO.out (HC.out.to w1 (by simp)))
 have kB0 := cell_of_row _ _ 0 _ _ _ HB.out
 have kB1 := cell_of_row _ _ 1 _ _ _ HB.out
 have fB0 := frozen_of_row _ (y) 0 _ _ HB.out
 have fB1 := frozen_of_row _ (y) 1 _ _ HB.out
 rcases (by omega : d = 1 ∨ d = 6 ∨ (d ≠ 1 ∧ d ≠ 6)) with rfl | rfl | ⟨hd1, hd6⟩
 · go_upto_region 9 with (fail)
   have BB : Hid ((w7.setCell ⟨y, 0, none⟩ (.int .i64 0)).heap[y]? = some (.cells #[.int .i64 0, .string t] 182 (0, 0))) := Lib.hid (by have := heap_setCell_same w7 y 0 _ _ (.int .i64 0) HB.out; simpa using this)
   have BO : Hid ((w7.setCell ⟨y, 0, none⟩ (.int .i64 0)).heap[z]? = some (.cells #[.slice a n c, .int .i64 k, .string x, .int .i64 1, .int .i64 m, .string t] 82 (0, 0))) := Lib.hid ((Below.heap_setCell _ _ _ _ (by simpa using ZY.out.2)).trans (boxStays HO.out (HC.out.to w1 (by simp))))
   have BW : Hid (Below w.heap.size w (w7.setCell ⟨y, 0, none⟩ (.int .i64 0))) := Lib.hid ((HC.out.to w (by simp)).setCell (p := ⟨y, 0, none⟩) ZY.out.1 _)
   have BAR : Hid (∀ b, (!(decide ((0 : Int) = 0) && decide (t = ⟨#[]⟩))) = b → bareK 1 m t = !b) := Lib.hid (fun b hb => by subst hb; unfold bareK; simp)
   clear kO0 kO1 kO2 kO3 kO4 kO5 kB0 kB1 fB0 fB1
   clear HC HB HO
   generalize w7.setCell ⟨y, 0, none⟩ (.int .i64 0) = wS at *
   have EN := fields_neq (0:Int) t
   obtain ⟨bb, hbb⟩ : ∃ b, (!(decide ((0:Int) = 0) && decide (t = ⟨#[]⟩))) = b := ⟨_, rfl⟩
   rw [hbb] at EN
   have HBB := Lib.hid hbb
   have y0 := cell_of_row _ y 0 _ _ _ BB.out
   have y1 := cell_of_row _ y 1 _ _ _ BB.out
   clear hbb
   cases bb
   case true =>
    obtain rfl : (2 : Int) = re := by rw [← RE.out]; exact (check_bare (BAR.out _ HBB.out)).symm
    go_wp2_with fail
    go_ret
    exact ⟨rfl, BW.out⟩
   have HRE : Hid (re = if kd = k then 0 else 7) := Lib.hid (by
    rw [← RE.out]
    unfold checkK
    rw [HOK.out, BAR.out _ HBB.out, H4.out]
    rfl)
   go_upto_region 11 with (fail)
   clear EN y0 y1
   refine relG_start (slots := [48, 49, 50, 51, 52, 53]) (so := []) (by kernel_rfl) (by kernel_rfl) (by rfl) ?_
   refine relG_pure (i := 0) (o := ⟨some 48, _, _, _, _, _⟩) (v := ?v1) [] [1] rfl rfl (by kernel_rfl) (by kernel_rfl) (fun t w1 hB hf hbf => ?y1) ?n1
   case y1 =>
    simp only [BasF] at hbf
    clear hf
    obtain ⟨⟨b1, k1⟩, _⟩ := hbf
    have yo := boxStays BO.out hB
    have o1 := cell_of_row _ z 1 _ _ _ yo
    have o3 := cell_of_row _ z 3 _ _ _ yo
    clear yo
    refine Or.inl ⟨wanted_none rfl, ?_⟩
    rintro _ rfl
    go_simp <;> with_reducible rfl
   refine relG_pure (i := 1) (o := ⟨some 49, _, _, _, _, _⟩) (v := ?v2) [(0, 48, 0)] [] rfl rfl (by kernel_rfl) (by kernel_rfl) (fun t w1 hB hf hbf => ?y2) ?n2
   case y2 =>
    simp only [DepF, List.getD_cons_zero] at hf
    obtain ⟨⟨_, ⟨e48, i48⟩, rfl⟩, _⟩ := hf
    clear hbf
    have yo := boxStays BO.out hB
    have o1 := cell_of_row _ z 1 _ _ _ yo
    have o3 := cell_of_row _ z 3 _ _ _ yo
    clear yo
    refine Or.inl ⟨wanted_none rfl, ?_⟩
    rintro _ rfl
    go_simp <;> with_reducible rfl
   refine relG_call (i := 2) (o := ⟨some 50, _, _, _, _, _⟩) ((fun v _ => v = .int .i64 kd)) [(1, 49, 0)] [] rfl rfl (by kernel_rfl) (by kernel_rfl) ((fun _ _ _ h _ => h)) ?_ ?_
   · intro t w1 hB hf hbf K hK
     simp only [DepF, List.getD_cons_zero] at hf
     obtain ⟨⟨_, ⟨e49, i49⟩, rfl⟩, _⟩ := hf
     clear hbf
     have yo := boxStays BO.out hB
     have o1 := cell_of_row _ z 1 _ _ _ yo
     have o3 := cell_of_row _ z 3 _ _ _ yo
     clear yo
     refine ⟨wanted_none rfl, ?_⟩
     go_simp
     refine (kn_OfB _ w1).mono ?_
     rintro e w2 ⟨rfl, hb⟩
     exact hK.out _ w2 (by rw [H4.out]) hb
   refine relG_pure (i := 3) (o := ⟨some 51, _, _, _, _, _⟩) (v := ?v3) [] [1] rfl rfl (by kernel_rfl) (by kernel_rfl) (fun t w1 hB hf hbf => ?y3) ?n3
   case y3 =>
    simp only [BasF] at hbf
    clear hf
    obtain ⟨⟨b1, k1⟩, _⟩ := hbf
    have yo := boxStays BO.out hB
    have o1 := cell_of_row _ z 1 _ _ _ yo
    have o3 := cell_of_row _ z 3 _ _ _ yo
    clear yo
    refine Or.inl ⟨wanted_none rfl, ?_⟩
    rintro _ rfl
    go_simp <;> with_reducible rfl
   refine relG_pure (i := 4) (o := ⟨some 52, _, _, _, _, _⟩) (v := ?v4) [(3, 51, 0)] [] rfl rfl (by kernel_rfl) (by kernel_rfl) (fun t w1 hB hf hbf => ?y4) ?n4
   case y4 =>
    simp only [DepF, List.getD_cons_zero] at hf
    obtain ⟨⟨_, ⟨e51, i51⟩, rfl⟩, _⟩ := hf
    clear hbf
    have yo := boxStays BO.out hB
    have o1 := cell_of_row _ z 1 _ _ _ yo
    have o3 := cell_of_row _ z 3 _ _ _ yo
    clear yo
    refine Or.inl ⟨wanted_none rfl, ?_⟩
    rintro _ rfl
    go_simp <;> with_reducible rfl
   refine relG_pure (i := 5) (o := ⟨some 53, _, _, _, _, _⟩) (v := ?v5) [(2, 50, 2), (4, 52, 0)] [] rfl rfl (by kernel_rfl) (by kernel_rfl) (fun t w1 hB hf hbf => ?y5) ?n5
   case y5 =>
    simp only [DepF, List.getD_cons_zero, List.getD_cons_succ] at hf
    obtain ⟨⟨_, ⟨e50, i50⟩, rfl⟩, ⟨_, ⟨e52, i52⟩, rfl⟩, _⟩ := hf
    clear hbf
    have yo := boxStays BO.out hB
    have o1 := cell_of_row _ z 1 _ _ _ yo
    have o3 := cell_of_row _ z 3 _ _ _ yo
    clear yo
    refine Or.inl ⟨wanted_none rfl, ?_⟩
    rintro _ rfl
    go_simp <;> with_reducible rfl
   refine relG_done [(0, 48, 5), (1, 49, 4), (2, 50, 3), (3, 51, 2), (4, 52, 1), (5, 53, 0)] (by kernel_rfl) rfl (by kernel_rfl) (fun f wE hB hf => ?_)
   simp only [FinF, List.getD_cons_zero, List.getD_cons_succ] at hf
   obtain ⟨⟨_, e48, rfl⟩, ⟨_, e49, rfl⟩, ⟨_, e50, rfl⟩, ⟨_, e51, rfl⟩, ⟨_, e52, rfl⟩, ⟨_, e53, rfl⟩, _⟩ := hf
   simp only [regT, List.foldl_cons, List.foldl_nil, List.setIfInBounds_toArray, List.set_cons_zero, List.set_cons_succ, e48, e49, e50, e51, e52, e53]
   clear e48 e49 e50 e51 e52 e53
   have BW2 := Lib.hid (BW.out.trans (hB.mono BW.out.size))
   clear hB
   by_cases hkk : kd = k
   · have hkb : (kd != k) = false := by simp [hkk]
     obtain rfl : re = 0 := by rw [HRE.out, if_pos hkk]
     go_wp2_with fail
     go_ret
     exact ⟨rfl, BW2.out⟩
   · have hkb : (kd != k) = true := by simp [hkk]
     obtain rfl : re = 7 := by rw [HRE.out, if_neg hkk]
     go_wp2_with fail
     go_ret
     exact ⟨rfl, BW2.out⟩
 · go_upto_region 9 with (fail)
   have BB := HB
   have BO : Hid (w7.heap[z]? = some (.cells #[.slice a n c, .int .i64 k, .string x, .int .i64 6, .int .i64 m, .string t] 82 (0, 0))) := Lib.hid (boxStays HO.out (HC.out.to w1 (by simp)))
   have BW : Hid (Below w.heap.size w w7) := Lib.hid (HC.out.to w (by simp))
   have BAR : Hid (∀ b, (!(decide (m = 0) && decide (t = ⟨#[]⟩))) = b → bareK 6 m t = !b) := Lib.hid (fun b hb => by subst hb; unfold bareK; simp)
   clear HC HB HO kO0 kO1 kO2 kO3 kO4 kO5 kB0 kB1 fB0 fB1
   generalize w7 = wS at *
   have EN := fields_neq m t
   obtain ⟨bb, hbb⟩ : ∃ b, (!(decide (m = 0) && decide (t = ⟨#[]⟩))) = b := ⟨_, rfl⟩
   rw [hbb] at EN
   have HBB := Lib.hid hbb
   have y0 := cell_of_row _ y 0 _ _ _ BB.out
   have y1 := cell_of_row _ y 1 _ _ _ BB.out
   clear hbb
   cases bb
   case true =>
    obtain rfl : (2 : Int) = re := by rw [← RE.out]; exact (check_bare (BAR.out _ HBB.out)).symm
    go_wp2_with fail
    go_ret
    exact ⟨rfl, BW.out⟩
   have HRE : Hid (re = if kd = k then 0 else 7) := Lib.hid (by
    rw [← RE.out]
    unfold checkK
    rw [HOK.out, BAR.out _ HBB.out, H4.out]
    rfl)
   go_upto_region 11 with (fail)
   clear EN y0 y1
   refine relG_start (slots := [48, 49, 50, 51, 52, 53]) (so := []) (by kernel_rfl) (by kernel_rfl) (by rfl) ?_
   refine relG_pure (i := 0) (o := ⟨some 48, _, _, _, _, _⟩) (v := ?v6) [] [1] rfl rfl (by kernel_rfl) (by kernel_rfl) (fun t w1 hB hf hbf => ?y6) ?n6
   case y6 =>
    simp only [BasF] at hbf
    clear hf
    obtain ⟨⟨b1, k1⟩, _⟩ := hbf
    have yo := boxStays BO.out hB
    have o1 := cell_of_row _ z 1 _ _ _ yo
    have o3 := cell_of_row _ z 3 _ _ _ yo
    clear yo
    refine Or.inl ⟨wanted_none rfl, ?_⟩
    rintro _ rfl
    go_simp <;> with_reducible rfl
   refine relG_pure (i := 1) (o := ⟨some 49, _, _, _, _, _⟩) (v := ?v7) [(0, 48, 0)] [] rfl rfl (by kernel_rfl) (by kernel_rfl) (fun t w1 hB hf hbf => ?y7) ?n7
   case y7 =>
    simp only [DepF, List.getD_cons_zero] at hf
    obtain ⟨⟨_, ⟨e48, i48⟩, rfl⟩, _⟩ := hf
    clear hbf
    have yo := boxStays BO.out hB
    have o1 := cell_of_row _ z 1 _ _ _ yo
    have o3 := cell_of_row _ z 3 _ _ _ yo
    clear yo
    refine Or.inl ⟨wanted_none rfl, ?_⟩
    rintro _ rfl
    go_simp <;> with_reducible rfl
   refine relG_call (i := 2) (o := ⟨some 50, _, _, _, _, _⟩) ((fun v _ => v = .int .i64 kd)) [(1, 49, 0)] [] rfl rfl (by kernel_rfl) (by kernel_rfl) ((fun _ _ _ h _ => h)) ?_ ?_
   · intro t w1 hB hf hbf K hK
     simp only [DepF, List.getD_cons_zero] at hf
     obtain ⟨⟨_, ⟨e49, i49⟩, rfl⟩, _⟩ := hf
     clear hbf
     have yo := boxStays BO.out hB
     have o1 := cell_of_row _ z 1 _ _ _ yo
     have o3 := cell_of_row _ z 3 _ _ _ yo
     clear yo
     refine ⟨wanted_none rfl, ?_⟩
     go_simp
     refine (kn_OfB _ w1).mono ?_
     rintro e w2 ⟨rfl, hb⟩
     exact hK.out _ w2 (by rw [H4.out]) hb
   refine relG_pure (i := 3) (o := ⟨some 51, _, _, _, _, _⟩) (v := ?v8) [] [1] rfl rfl (by kernel_rfl) (by kernel_rfl) (fun t w1 hB hf hbf => ?y8) ?n8
   case y8 =>
    simp only [BasF] at hbf
    clear hf
    obtain ⟨⟨b1, k1⟩, _⟩ := hbf
    have yo := boxStays BO.out hB
    have o1 := cell_of_row _ z 1 _ _ _ yo
    have o3 := cell_of_row _ z 3 _ _ _ yo
    clear yo
    refine Or.inl ⟨wanted_none rfl, ?_⟩
    rintro _ rfl
    go_simp <;> with_reducible rfl
   refine relG_pure (i := 4) (o := ⟨some 52, _, _, _, _, _⟩) (v := ?v9) [(3, 51, 0)] [] rfl rfl (by kernel_rfl) (by kernel_rfl) (fun t w1 hB hf hbf => ?y9) ?n9
   case y9 =>
    simp only [DepF, List.getD_cons_zero] at hf
    obtain ⟨⟨_, ⟨e51, i51⟩, rfl⟩, _⟩ := hf
    clear hbf
    have yo := boxStays BO.out hB
    have o1 := cell_of_row _ z 1 _ _ _ yo
    have o3 := cell_of_row _ z 3 _ _ _ yo
    clear yo
    refine Or.inl ⟨wanted_none rfl, ?_⟩
    rintro _ rfl
    go_simp <;> with_reducible rfl
   refine relG_pure (i := 5) (o := ⟨some 53, _, _, _, _, _⟩) (v := ?v10) [(2, 50, 2), (4, 52, 0)] [] rfl rfl (by kernel_rfl) (by kernel_rfl) (fun t w1 hB hf hbf => ?y10) ?n10
   case y10 =>
    simp only [DepF, List.getD_cons_zero, List.getD_cons_succ] at hf
    obtain ⟨⟨_, ⟨e50, i50⟩, rfl⟩, ⟨_, ⟨e52, i52⟩, rfl⟩, _⟩ := hf
    clear hbf
    have yo := boxStays BO.out hB
    have o1 := cell_of_row _ z 1 _ _ _ yo
    have o3 := cell_of_row _ z 3 _ _ _ yo
    clear yo
    refine Or.inl ⟨wanted_none rfl, ?_⟩
    rintro _ rfl
    go_simp <;> with_reducible rfl
   refine relG_done [(0, 48, 5), (1, 49, 4), (2, 50, 3), (3, 51, 2), (4, 52, 1), (5, 53, 0)] (by kernel_rfl) rfl (by kernel_rfl) (fun f wE hB hf => ?_)
   simp only [FinF, List.getD_cons_zero, List.getD_cons_succ] at hf
   obtain ⟨⟨_, e48, rfl⟩, ⟨_, e49, rfl⟩, ⟨_, e50, rfl⟩, ⟨_, e51, rfl⟩, ⟨_, e52, rfl⟩, ⟨_, e53, rfl⟩, _⟩ := hf
   simp only [regT, List.foldl_cons, List.foldl_nil, List.setIfInBounds_toArray, List.set_cons_zero, List.set_cons_succ, e48, e49, e50, e51, e52, e53]
   clear e48 e49 e50 e51 e52 e53
   have BW2 := Lib.hid (BW.out.trans (hB.mono BW.out.size))
   clear hB
   by_cases hkk : kd = k
   · have hkb : (kd != k) = false := by simp [hkk]
     obtain rfl : re = 0 := by rw [HRE.out, if_pos hkk]
     go_wp2_with fail
     go_ret
     exact ⟨rfl, BW2.out⟩
   · have hkb : (kd != k) = true := by simp [hkk]
     obtain rfl : re = 7 := by rw [HRE.out, if_neg hkk]
     go_wp2_with fail
     go_ret
     exact ⟨rfl, BW2.out⟩
 · go_upto_region 9 with (fail)
   have BB : Hid ((w7.setCell ⟨y, 1, none⟩ (.string ⟨#[]⟩)).heap[y]? = some (.cells #[.int .i64 m, .string ⟨#[]⟩] 182 (0, 0))) := Lib.hid (by have := heap_setCell_same w7 y 1 _ _ (.string ⟨#[]⟩) HB.out; simpa using this)
   have BO : Hid ((w7.setCell ⟨y, 1, none⟩ (.string ⟨#[]⟩)).heap[z]? = some (.cells #[.slice a n c, .int .i64 k, .string x, .int .i64 d, .int .i64 m, .string t] 82 (0, 0))) := Lib.hid ((Below.heap_setCell _ _ _ _ (by simpa using ZY.out.2)).trans (boxStays HO.out (HC.out.to w1 (by simp))))
   have BW : Hid (Below w.heap.size w (w7.setCell ⟨y, 1, none⟩ (.string ⟨#[]⟩))) := Lib.hid ((HC.out.to w (by simp)).setCell (p := ⟨y, 1, none⟩) ZY.out.1 _)
   have BAR : Hid (∀ b, (!(decide (m = 0) && decide ((⟨#[]⟩ : ByteArray) = ⟨#[]⟩))) = b → bareK d m t = !b) := Lib.hid (fun b hb => by subst hb; unfold bareK; simp [hd1, hd6])
   clear HC HB HO kO0 kO1 kO2 kO3 kO4 kO5 kB0 kB1 fB0 fB1
   generalize w7.setCell ⟨y, 1, none⟩ (.string ⟨#[]⟩) = wS at *
   have EN := fields_neq m (⟨#[]⟩:ByteArray)
   obtain ⟨bb, hbb⟩ : ∃ b, (!(decide (m = 0) && decide ((⟨#[]⟩:ByteArray) = ⟨#[]⟩))) = b := ⟨_, rfl⟩
   rw [hbb] at EN
   have HBB := Lib.hid hbb
   have y0 := cell_of_row _ y 0 _ _ _ BB.out
   have y1 := cell_of_row _ y 1 _ _ _ BB.out
   clear hbb
   cases bb
   case true =>
    obtain rfl : (2 : Int) = re := by rw [← RE.out]; exact (check_bare (BAR.out _ HBB.out)).symm
    go_wp2_with fail
    go_ret
    exact ⟨rfl, BW.out⟩
   have HRE : Hid (re = if kd = k then 0 else 7) := Lib.hid (by
    rw [← RE.out]
    unfold checkK
    rw [HOK.out, BAR.out _ HBB.out, H4.out]
    rfl)
   go_upto_region 11 with (fail)
   clear EN y0 y1
   refine relG_start (slots := [48, 49, 50, 51, 52, 53]) (so := []) (by kernel_rfl) (by kernel_rfl) (by rfl) ?_
   refine relG_pure (i := 0) (o := ⟨some 48, _, _, _, _, _⟩) (v := ?v11) [] [1] rfl rfl (by kernel_rfl) (by kernel_rfl) (fun t w1 hB hf hbf => ?y11) ?n11
   case y11 =>
    simp only [BasF] at hbf
    clear hf
    obtain ⟨⟨b1, k1⟩, _⟩ := hbf
    have yo := boxStays BO.out hB
    have o1 := cell_of_row _ z 1 _ _ _ yo
    have o3 := cell_of_row _ z 3 _ _ _ yo
    clear yo
    refine Or.inl ⟨wanted_none rfl, ?_⟩
    rintro _ rfl
    go_simp <;> with_reducible rfl
   refine relG_pure (i := 1) (o := ⟨some 49, _, _, _, _, _⟩) (v := ?v12) [(0, 48, 0)] [] rfl rfl (by kernel_rfl) (by kernel_rfl) (fun t w1 hB hf hbf => ?y12) ?n12
   case y12 =>
    simp only [DepF, List.getD_cons_zero] at hf
    obtain ⟨⟨_, ⟨e48, i48⟩, rfl⟩, _⟩ := hf
    clear hbf
    have yo := boxStays BO.out hB
    have o1 := cell_of_row _ z 1 _ _ _ yo
    have o3 := cell_of_row _ z 3 _ _ _ yo
    clear yo
    refine Or.inl ⟨wanted_none rfl, ?_⟩
    rintro _ rfl
    go_simp <;> with_reducible rfl
   refine relG_call (i := 2) (o := ⟨some 50, _, _, _, _, _⟩) ((fun v _ => v = .int .i64 kd)) [(1, 49, 0)] [] rfl rfl (by kernel_rfl) (by kernel_rfl) ((fun _ _ _ h _ => h)) ?_ ?_
   · intro t w1 hB hf hbf K hK
     simp only [DepF, List.getD_cons_zero] at hf
     obtain ⟨⟨_, ⟨e49, i49⟩, rfl⟩, _⟩ := hf
     clear hbf
     have yo := boxStays BO.out hB
     have o1 := cell_of_row _ z 1 _ _ _ yo
     have o3 := cell_of_row _ z 3 _ _ _ yo
     clear yo
     refine ⟨wanted_none rfl, ?_⟩
     go_simp
     refine (kn_OfB _ w1).mono ?_
     rintro e w2 ⟨rfl, hb⟩
     exact hK.out _ w2 (by rw [H4.out]) hb
   refine relG_pure (i := 3) (o := ⟨some 51, _, _, _, _, _⟩) (v := ?v13) [] [1] rfl rfl (by kernel_rfl) (by kernel_rfl) (fun t w1 hB hf hbf => ?y13) ?n13
   case y13 =>
    simp only [BasF] at hbf
    clear hf
    obtain ⟨⟨b1, k1⟩, _⟩ := hbf
    have yo := boxStays BO.out hB
    have o1 := cell_of_row _ z 1 _ _ _ yo
    have o3 := cell_of_row _ z 3 _ _ _ yo
    clear yo
    refine Or.inl ⟨wanted_none rfl, ?_⟩
    rintro _ rfl
    go_simp <;> with_reducible rfl
   refine relG_pure (i := 4) (o := ⟨some 52, _, _, _, _, _⟩) (v := ?v14) [(3, 51, 0)] [] rfl rfl (by kernel_rfl) (by kernel_rfl) (fun t w1 hB hf hbf => ?y14) ?n14
   case y14 =>
    simp only [DepF, List.getD_cons_zero] at hf
    obtain ⟨⟨_, ⟨e51, i51⟩, rfl⟩, _⟩ := hf
    clear hbf
    have yo := boxStays BO.out hB
    have o1 := cell_of_row _ z 1 _ _ _ yo
    have o3 := cell_of_row _ z 3 _ _ _ yo
    clear yo
    refine Or.inl ⟨wanted_none rfl, ?_⟩
    rintro _ rfl
    go_simp <;> with_reducible rfl
   refine relG_pure (i := 5) (o := ⟨some 53, _, _, _, _, _⟩) (v := ?v15) [(2, 50, 2), (4, 52, 0)] [] rfl rfl (by kernel_rfl) (by kernel_rfl) (fun t w1 hB hf hbf => ?y15) ?n15
   case y15 =>
    simp only [DepF, List.getD_cons_zero, List.getD_cons_succ] at hf
    obtain ⟨⟨_, ⟨e50, i50⟩, rfl⟩, ⟨_, ⟨e52, i52⟩, rfl⟩, _⟩ := hf
    clear hbf
    have yo := boxStays BO.out hB
    have o1 := cell_of_row _ z 1 _ _ _ yo
    have o3 := cell_of_row _ z 3 _ _ _ yo
    clear yo
    refine Or.inl ⟨wanted_none rfl, ?_⟩
    rintro _ rfl
    go_simp <;> with_reducible rfl
   refine relG_done [(0, 48, 5), (1, 49, 4), (2, 50, 3), (3, 51, 2), (4, 52, 1), (5, 53, 0)] (by kernel_rfl) rfl (by kernel_rfl) (fun f wE hB hf => ?_)
   simp only [FinF, List.getD_cons_zero, List.getD_cons_succ] at hf
   obtain ⟨⟨_, e48, rfl⟩, ⟨_, e49, rfl⟩, ⟨_, e50, rfl⟩, ⟨_, e51, rfl⟩, ⟨_, e52, rfl⟩, ⟨_, e53, rfl⟩, _⟩ := hf
   simp only [regT, List.foldl_cons, List.foldl_nil, List.setIfInBounds_toArray, List.set_cons_zero, List.set_cons_succ, e48, e49, e50, e51, e52, e53]
   clear e48 e49 e50 e51 e52 e53
   have BW2 := Lib.hid (BW.out.trans (hB.mono BW.out.size))
   clear hB
   by_cases hkk : kd = k
   · have hkb : (kd != k) = false := by simp [hkk]
     obtain rfl : re = 0 := by rw [HRE.out, if_pos hkk]
     go_wp2_with fail
     go_ret
     exact ⟨rfl, BW2.out⟩
   · have hkb : (kd != k) = true := by simp [hkk]
     obtain rfl : re = 7 := by rw [HRE.out, if_neg hkk]
     go_wp2_with fail
     go_ret
     exact ⟨rfl, BW2.out⟩
theorem kr_OfB (d : Int) (w : World) : Calls Tryz.prog 128 #[.int .i64 d] w fun e w' => e = .returned (.int .i64 (kindK d)) ∧ Below w.heap.size w w' := (kr_Of d w).mono fun _ _ ⟨h1, h2⟩ => ⟨h1, by rw [← h2]; exact Below.refl _ _⟩
theorem ref5_TextB (s : ByteArray) (w : World) : Calls Tryz.prog 48 #[.string s] w fun e w' => e = .returned (.bool (decide (s.size ≤ 256))) ∧ Below w.heap.size w w' := (ref5_Text s w).mono fun _ _ ⟨h1, h2⟩ => ⟨h1, by rw [← h2]; exact Below.refl _ _⟩
theorem kindK_ne {d : Int} (h1 : 1 ≤ d) (h2 : d ≤ 7) : kindK d ≠ 0 := by
 rcases (by omega : d = 1 ∨ d = 2 ∨ d = 3 ∨ d = 4 ∨ d = 5 ∨ d = 6 ∨ d = 7) with rfl | rfl | rfl | rfl | rfl | rfl | rfl <;> decide
theorem kindK_out {d : Int} (h : d < 1 ∨ 7 < d) : kindK d = 0 := kindK_none (by omega)
theorem toList_nil {t : ByteArray} (h : ¬ t = ⟨#[]⟩) : (t.toList == []) = false := by
 rw [beq_eq_false_iff_ne]
 intro e
 apply h
 apply ByteArray.ext
 apply Array.toList_inj.1
 rw [ByteArray.toList_eq] at e
 simpa using e
set_option maxRecDepth 100000 in
set_option maxHeartbeats 4000000 in
theorem kr_Check (l : List ByteArray) (k : Int) (x : ByteArray) (d m : Int) (t : ByteArray) (a : Option Addr) (n c : Nat) (w : World) (hl : CellsAt w a (txV l)) (hn : n = l.length) :
 Calls Tryz.prog 87 #[.agg #[.slice a n c, .int .i64 k, .string x, .int .i64 d, .int .i64 m, .string t]] w fun e w' => e = .returned (.int .i64 (checkK l k x d m t)) ∧ Below w.heap.size w w' := by
 have HL := Lib.hid hl
 have HN := Lib.hid hn
 obtain ⟨re, hre⟩ : ∃ r, checkK l k x d m t = r := ⟨_, rfl⟩
 have RE := Lib.hid hre
 rw [hre]
 clear hl hn hre
 have HC : Hid (Chain [w] w) := Lib.hid (Chain.one w)
 go_enter Tryz.func87, Tryz.ntmps87
 go_upto_region 1 with (fail)
 obtain ⟨z, hz⟩ : ∃ c, w.heap.size = c := ⟨_, rfl⟩
 try rw [hz]
 obtain ⟨w1, hw1⟩ : ∃ X, allocs w [.cells #[.slice a n c, .int .i64 k, .string x, .int .i64 d, .int .i64 m, .string t] 82] = X := ⟨_, rfl⟩
 rw [show w.alloc (.cells #[.slice a n c, .int .i64 k, .string x, .int .i64 d, .int .i64 m, .string t] 82) = w1 from hw1]
 have hb : Below w.heap.size w w1 := by rw [← hw1]; exact allocs_below _ _
 have HO : Hid (w1.heap[z]? = some (.cells #[.slice a n c, .int .i64 k, .string x, .int .i64 d, .int .i64 m, .string t] 82 (0, 0))) := Lib.hid (by have := allocs_get [.cells #[.slice a n c, .int .i64 k, .string x, .int .i64 d, .int .i64 m, .string t] 82] w 0 _ rfl; rw [hw1, hz] at this; exact this)
 have Sz : Hid (w.heap.size = z) := Lib.hid hz
 replace HC := Lib.hid (HC.out.push hb)
 clear hb hw1 hz
 have kO0 := cell_of_row _ _ 0 _ _ _ HO.out
 have kO1 := cell_of_row _ _ 1 _ _ _ HO.out
 have kO2 := cell_of_row _ _ 2 _ _ _ HO.out
 have kO3 := cell_of_row _ _ 3 _ _ _ HO.out
 have kO4 := cell_of_row _ _ 4 _ _ _ HO.out
 have kO5 := cell_of_row _ _ 5 _ _ _ HO.out
 go_wp2_with fail
 refine (ref5_Path l a n c _ (HL.out.below (HC.out.to w (by simp)) rfl) HN.out).mono ?_
 rintro e w2 ⟨rfl, hb⟩
 clear kO0 kO1 kO2 kO3 kO4 kO5
 replace HC := Lib.hid (HC.out.push hb)
 clear hb
 obtain ⟨b1, h1⟩ : ∃ b, pathG l = b := ⟨_, rfl⟩
 rw [h1]
 have H1 := Lib.hid h1
 clear h1
 cases b1
 case false =>
  obtain rfl : (2 : Int) = re := by rw [← RE.out]; exact (check_bad (by unfold okK; simp [H1.out])).symm
  have kO0 := cell_of_row _ _ 0 _ _ _ (boxStays HO.out (HC.out.to w1 (by simp)))
  have kO1 := cell_of_row _ _ 1 _ _ _ (boxStays HO.out (HC.out.to w1 (by simp)))
  have kO2 := cell_of_row _ _ 2 _ _ _ (boxStays HO.out (HC.out.to w1 (by simp)))
  have kO3 := cell_of_row _ _ 3 _ _ _ (boxStays HO.out (HC.out.to w1 (by simp)))
  have kO4 := cell_of_row _ _ 4 _ _ _ (boxStays HO.out (HC.out.to w1 (by simp)))
  have kO5 := cell_of_row _ _ 5 _ _ _ (boxStays HO.out (HC.out.to w1 (by simp)))
  go_wp2_with fail
  go_ret
  exact ⟨rfl, (HC.out.to w (by simp))⟩
 have kO0 := cell_of_row _ _ 0 _ _ _ (boxStays HO.out (HC.out.to w1 (by simp)))
 have kO1 := cell_of_row _ _ 1 _ _ _ (boxStays HO.out (HC.out.to w1 (by simp)))
 have kO2 := cell_of_row _ _ 2 _ _ _ (boxStays HO.out (HC.out.to w1 (by simp)))
 have kO3 := cell_of_row _ _ 3 _ _ _ (boxStays HO.out (HC.out.to w1 (by simp)))
 have kO4 := cell_of_row _ _ 4 _ _ _ (boxStays HO.out (HC.out.to w1 (by simp)))
 have kO5 := cell_of_row _ _ 5 _ _ _ (boxStays HO.out (HC.out.to w1 (by simp)))
 go_wp2_with fail
 refine (ref5_Key x _).mono ?_
 rintro e w3 ⟨rfl, hb⟩
 clear kO0 kO1 kO2 kO3 kO4 kO5
 replace HC := Lib.hid (HC.out.push hb)
 clear hb
 obtain ⟨b2, h2⟩ : ∃ b, keyG x = b := ⟨_, rfl⟩
 rw [h2]
 have H2 := Lib.hid h2
 clear h2
 cases b2
 case false =>
  obtain rfl : (2 : Int) = re := by rw [← RE.out]; exact (check_bad (by unfold okK; simp [H2.out])).symm
  have kO0 := cell_of_row _ _ 0 _ _ _ (boxStays HO.out (HC.out.to w1 (by simp)))
  have kO1 := cell_of_row _ _ 1 _ _ _ (boxStays HO.out (HC.out.to w1 (by simp)))
  have kO2 := cell_of_row _ _ 2 _ _ _ (boxStays HO.out (HC.out.to w1 (by simp)))
  have kO3 := cell_of_row _ _ 3 _ _ _ (boxStays HO.out (HC.out.to w1 (by simp)))
  have kO4 := cell_of_row _ _ 4 _ _ _ (boxStays HO.out (HC.out.to w1 (by simp)))
  have kO5 := cell_of_row _ _ 5 _ _ _ (boxStays HO.out (HC.out.to w1 (by simp)))
  go_wp2_with fail
  go_ret
  exact ⟨rfl, (HC.out.to w (by simp))⟩
 have RNG : Hid ((k < 1 ∨ 5 < k → thingG k = false) ∧ (1 ≤ k → k ≤ 5 → thingG k = true)) := Lib.hid ⟨fun h => by unfold thingG; simp; omega, fun h1 h2 => by unfold thingG; simp [h1, h2]⟩
 rcases (by omega : k < 1 ∨ 5 < k ∨ (1 ≤ k ∧ k ≤ 5)) with hk | hk | ⟨hk1, hk2⟩
 ·
  obtain rfl : (2 : Int) = re := by rw [← RE.out]; exact (check_bad (by unfold okK; simp [RNG.out.1 (.inl hk)])).symm
  have kO0 := cell_of_row _ _ 0 _ _ _ (boxStays HO.out (HC.out.to w1 (by simp)))
  have kO1 := cell_of_row _ _ 1 _ _ _ (boxStays HO.out (HC.out.to w1 (by simp)))
  have kO2 := cell_of_row _ _ 2 _ _ _ (boxStays HO.out (HC.out.to w1 (by simp)))
  have kO3 := cell_of_row _ _ 3 _ _ _ (boxStays HO.out (HC.out.to w1 (by simp)))
  have kO4 := cell_of_row _ _ 4 _ _ _ (boxStays HO.out (HC.out.to w1 (by simp)))
  have kO5 := cell_of_row _ _ 5 _ _ _ (boxStays HO.out (HC.out.to w1 (by simp)))
  go_wp2_with fail
  go_ret
  exact ⟨rfl, (HC.out.to w (by simp))⟩
 ·
  have hk0 : ¬ k < 1 := by omega
  obtain rfl : (2 : Int) = re := by rw [← RE.out]; exact (check_bad (by unfold okK; simp [RNG.out.1 (.inr hk)])).symm
  have kO0 := cell_of_row _ _ 0 _ _ _ (boxStays HO.out (HC.out.to w1 (by simp)))
  have kO1 := cell_of_row _ _ 1 _ _ _ (boxStays HO.out (HC.out.to w1 (by simp)))
  have kO2 := cell_of_row _ _ 2 _ _ _ (boxStays HO.out (HC.out.to w1 (by simp)))
  have kO3 := cell_of_row _ _ 3 _ _ _ (boxStays HO.out (HC.out.to w1 (by simp)))
  have kO4 := cell_of_row _ _ 4 _ _ _ (boxStays HO.out (HC.out.to w1 (by simp)))
  have kO5 := cell_of_row _ _ 5 _ _ _ (boxStays HO.out (HC.out.to w1 (by simp)))
  go_wp2_with fail
  go_ret
  exact ⟨rfl, (HC.out.to w (by simp))⟩
 have hk3 : ¬ k < 1 := by omega
 have hk4 : ¬ 5 < k := by omega
 have HTH := Lib.hid (RNG.out.2 hk1 hk2)
 rcases (by omega : d < 1 ∨ 7 < d ∨ (1 ≤ d ∧ d ≤ 7)) with hd | hd | ⟨hd1, hd2⟩
 ·
  obtain rfl : (2 : Int) = re := by rw [← RE.out]; exact (check_bad (by unfold okK; simp [kindK_out (.inl hd)])).symm
  have kO0 := cell_of_row _ _ 0 _ _ _ (boxStays HO.out (HC.out.to w1 (by simp)))
  have kO1 := cell_of_row _ _ 1 _ _ _ (boxStays HO.out (HC.out.to w1 (by simp)))
  have kO2 := cell_of_row _ _ 2 _ _ _ (boxStays HO.out (HC.out.to w1 (by simp)))
  have kO3 := cell_of_row _ _ 3 _ _ _ (boxStays HO.out (HC.out.to w1 (by simp)))
  have kO4 := cell_of_row _ _ 4 _ _ _ (boxStays HO.out (HC.out.to w1 (by simp)))
  have kO5 := cell_of_row _ _ 5 _ _ _ (boxStays HO.out (HC.out.to w1 (by simp)))
  go_wp2_with fail
  go_ret
  exact ⟨rfl, (HC.out.to w (by simp))⟩
 ·
  have hd0 : ¬ d < 1 := by omega
  obtain rfl : (2 : Int) = re := by rw [← RE.out]; exact (check_bad (by unfold okK; simp [kindK_out (.inr hd)])).symm
  have kO0 := cell_of_row _ _ 0 _ _ _ (boxStays HO.out (HC.out.to w1 (by simp)))
  have kO1 := cell_of_row _ _ 1 _ _ _ (boxStays HO.out (HC.out.to w1 (by simp)))
  have kO2 := cell_of_row _ _ 2 _ _ _ (boxStays HO.out (HC.out.to w1 (by simp)))
  have kO3 := cell_of_row _ _ 3 _ _ _ (boxStays HO.out (HC.out.to w1 (by simp)))
  have kO4 := cell_of_row _ _ 4 _ _ _ (boxStays HO.out (HC.out.to w1 (by simp)))
  have kO5 := cell_of_row _ _ 5 _ _ _ (boxStays HO.out (HC.out.to w1 (by simp)))
  go_wp2_with fail
  go_ret
  exact ⟨rfl, (HC.out.to w (by simp))⟩
 have hd3 : ¬ d < 1 := by omega
 have hd4 : ¬ 7 < d := by omega
 have HKD := Lib.hid (kindK_ne hd1 hd2)
 have kO0 := cell_of_row _ _ 0 _ _ _ (boxStays HO.out (HC.out.to w1 (by simp)))
 have kO1 := cell_of_row _ _ 1 _ _ _ (boxStays HO.out (HC.out.to w1 (by simp)))
 have kO2 := cell_of_row _ _ 2 _ _ _ (boxStays HO.out (HC.out.to w1 (by simp)))
 have kO3 := cell_of_row _ _ 3 _ _ _ (boxStays HO.out (HC.out.to w1 (by simp)))
 have kO4 := cell_of_row _ _ 4 _ _ _ (boxStays HO.out (HC.out.to w1 (by simp)))
 have kO5 := cell_of_row _ _ 5 _ _ _ (boxStays HO.out (HC.out.to w1 (by simp)))
 go_upto_region 3 with (fail)
 have eL : (⟨#[]⟩ : ByteArray).toList = [] := by rw [ByteArray.toList_eq]
 rcases (by omega : d = 1 ∨ d = 6 ∨ (d ≠ 1 ∧ d ≠ 6)) with rfl | rfl | ⟨hd5, hd6⟩
 · by_cases ht : t = ⟨#[]⟩
   · subst ht
     have HBR : Hid (bareK (1:Int) m (⟨#[]⟩:ByteArray) = true) := Lib.hid (by unfold bareK; simp)
     go_wp2_with fail
     refine (ref5_TextB (⟨#[]⟩:ByteArray) _).mono ?_
     rintro e w4 ⟨rfl, hb⟩
     clear kO0 kO1 kO2 kO3 kO4 kO5
     replace HC := Lib.hid (HC.out.push hb)
     clear hb
     obtain ⟨b5, h5⟩ : ∃ b, decide ((⟨#[]⟩:ByteArray).size ≤ 256) = b := ⟨_, rfl⟩
     rw [h5]
     have H5 := Lib.hid h5
     clear h5
     cases b5
     case false =>
      obtain rfl : (2 : Int) = re := by rw [← RE.out]; exact (check_bad (by unfold okK; simp [H5.out])).symm
      have kO0 := cell_of_row _ _ 0 _ _ _ (boxStays HO.out (HC.out.to w1 (by simp)))
      have kO1 := cell_of_row _ _ 1 _ _ _ (boxStays HO.out (HC.out.to w1 (by simp)))
      have kO2 := cell_of_row _ _ 2 _ _ _ (boxStays HO.out (HC.out.to w1 (by simp)))
      have kO3 := cell_of_row _ _ 3 _ _ _ (boxStays HO.out (HC.out.to w1 (by simp)))
      have kO4 := cell_of_row _ _ 4 _ _ _ (boxStays HO.out (HC.out.to w1 (by simp)))
      have kO5 := cell_of_row _ _ 5 _ _ _ (boxStays HO.out (HC.out.to w1 (by simp)))
      go_wp2_with fail
      go_ret
      exact ⟨rfl, (HC.out.to w (by simp))⟩
     have HOK : Hid (okK l k x (1:Int) (⟨#[]⟩:ByteArray) = true) := Lib.hid (by unfold okK; rw [H1.out, H2.out, HTH.out, H5.out]; simp [HKD.out])
     have HRE : Hid (re = if kindK (1:Int) = k then 0 else 7) := Lib.hid (by rw [← RE.out]; unfold checkK; rw [HOK.out, HBR.out]; rfl)
     have kO0 := cell_of_row _ _ 0 _ _ _ (boxStays HO.out (HC.out.to w1 (by simp)))
     have kO1 := cell_of_row _ _ 1 _ _ _ (boxStays HO.out (HC.out.to w1 (by simp)))
     have kO2 := cell_of_row _ _ 2 _ _ _ (boxStays HO.out (HC.out.to w1 (by simp)))
     have kO3 := cell_of_row _ _ 3 _ _ _ (boxStays HO.out (HC.out.to w1 (by simp)))
     have kO4 := cell_of_row _ _ 4 _ _ _ (boxStays HO.out (HC.out.to w1 (by simp)))
     have kO5 := cell_of_row _ _ 5 _ _ _ (boxStays HO.out (HC.out.to w1 (by simp)))
     go_upto_region 5 with (fail)
     have BW := Lib.hid (HC.out.to w (by simp))
     have BO := Lib.hid (boxStays HO.out (HC.out.to w1 (by simp)))
     clear kO0 kO1 kO2 kO3 kO4 kO5
     clear HC
     refine relG_start (slots := [62, 63, 64, 65, 66, 67]) (so := []) (by kernel_rfl) (by kernel_rfl) (by rfl) ?_
     refine relG_pure (i := 0) (o := ⟨some 62, _, _, _, _, _⟩) (v := ?v16) [] [1] rfl rfl (by kernel_rfl) (by kernel_rfl) (fun t w1 hB hf hbf => ?y16) ?n16
     case y16 =>
      simp only [BasF] at hbf
      clear hf
      obtain ⟨⟨b1, k1⟩, _⟩ := hbf
      have yo := boxStays BO.out hB
      have o1 := cell_of_row _ z 1 _ _ _ yo
      have o3 := cell_of_row _ z 3 _ _ _ yo
      clear yo
      refine Or.inl ⟨wanted_none rfl, ?_⟩
      rintro _ rfl
      go_simp <;> with_reducible rfl
     refine relG_pure (i := 1) (o := ⟨some 63, _, _, _, _, _⟩) (v := ?v17) [(0, 62, 0)] [] rfl rfl (by kernel_rfl) (by kernel_rfl) (fun t w1 hB hf hbf => ?y17) ?n17
     case y17 =>
      simp only [DepF, List.getD_cons_zero] at hf
      obtain ⟨⟨_, ⟨e62, i62⟩, rfl⟩, _⟩ := hf
      clear hbf
      have yo := boxStays BO.out hB
      have o1 := cell_of_row _ z 1 _ _ _ yo
      have o3 := cell_of_row _ z 3 _ _ _ yo
      clear yo
      refine Or.inl ⟨wanted_none rfl, ?_⟩
      rintro _ rfl
      go_simp <;> with_reducible rfl
     refine relG_call (i := 2) (o := ⟨some 64, _, _, _, _, _⟩) ((fun v _ => v = .int .i64 (kindK (1:Int)))) [(1, 63, 0)] [] rfl rfl (by kernel_rfl) (by kernel_rfl) ((fun _ _ _ h _ => h)) ?_ ?_
     · intro t w1 hB hf hbf K hK
       simp only [DepF, List.getD_cons_zero] at hf
       obtain ⟨⟨_, ⟨e63, i63⟩, rfl⟩, _⟩ := hf
       clear hbf
       have yo := boxStays BO.out hB
       have o1 := cell_of_row _ z 1 _ _ _ yo
       have o3 := cell_of_row _ z 3 _ _ _ yo
       clear yo
       refine ⟨wanted_none rfl, ?_⟩
       go_simp
       refine (kr_OfB _ w1).mono ?_
       rintro e w2 ⟨rfl, hb⟩
       exact hK.out _ w2 (rfl) hb
     refine relG_pure (i := 3) (o := ⟨some 65, _, _, _, _, _⟩) (v := ?v18) [] [1] rfl rfl (by kernel_rfl) (by kernel_rfl) (fun t w1 hB hf hbf => ?y18) ?n18
     case y18 =>
      simp only [BasF] at hbf
      clear hf
      obtain ⟨⟨b1, k1⟩, _⟩ := hbf
      have yo := boxStays BO.out hB
      have o1 := cell_of_row _ z 1 _ _ _ yo
      have o3 := cell_of_row _ z 3 _ _ _ yo
      clear yo
      refine Or.inl ⟨wanted_none rfl, ?_⟩
      rintro _ rfl
      go_simp <;> with_reducible rfl
     refine relG_pure (i := 4) (o := ⟨some 66, _, _, _, _, _⟩) (v := ?v19) [(3, 65, 0)] [] rfl rfl (by kernel_rfl) (by kernel_rfl) (fun t w1 hB hf hbf => ?y19) ?n19
     case y19 =>
      simp only [DepF, List.getD_cons_zero] at hf
      obtain ⟨⟨_, ⟨e65, i65⟩, rfl⟩, _⟩ := hf
      clear hbf
      have yo := boxStays BO.out hB
      have o1 := cell_of_row _ z 1 _ _ _ yo
      have o3 := cell_of_row _ z 3 _ _ _ yo
      clear yo
      refine Or.inl ⟨wanted_none rfl, ?_⟩
      rintro _ rfl
      go_simp <;> with_reducible rfl
     refine relG_pure (i := 5) (o := ⟨some 67, _, _, _, _, _⟩) (v := ?v20) [(2, 64, 2), (4, 66, 0)] [] rfl rfl (by kernel_rfl) (by kernel_rfl) (fun t w1 hB hf hbf => ?y20) ?n20
     case y20 =>
      simp only [DepF, List.getD_cons_zero, List.getD_cons_succ] at hf
      obtain ⟨⟨_, ⟨e64, i64⟩, rfl⟩, ⟨_, ⟨e66, i66⟩, rfl⟩, _⟩ := hf
      clear hbf
      have yo := boxStays BO.out hB
      have o1 := cell_of_row _ z 1 _ _ _ yo
      have o3 := cell_of_row _ z 3 _ _ _ yo
      clear yo
      refine Or.inl ⟨wanted_none rfl, ?_⟩
      rintro _ rfl
      go_simp <;> with_reducible rfl
     refine relG_done [(0, 62, 5), (1, 63, 4), (2, 64, 3), (3, 65, 2), (4, 66, 1), (5, 67, 0)] (by kernel_rfl) rfl (by kernel_rfl) (fun f wE hB hf => ?_)
     simp only [FinF, List.getD_cons_zero, List.getD_cons_succ] at hf
     obtain ⟨⟨_, e62, rfl⟩, ⟨_, e63, rfl⟩, ⟨_, e64, rfl⟩, ⟨_, e65, rfl⟩, ⟨_, e66, rfl⟩, ⟨_, e67, rfl⟩, _⟩ := hf
     simp only [regT, List.foldl_cons, List.foldl_nil, List.setIfInBounds_toArray, List.set_cons_zero, List.set_cons_succ, e62, e63, e64, e65, e66, e67]
     clear e62 e63 e64 e65 e66 e67
     have BW2 := Lib.hid (BW.out.trans (hB.mono BW.out.size))
     clear hB
     by_cases hkk : kindK (1:Int) = k
     · have hkb : (kindK (1:Int) != k) = false := by simp [hkk]
       obtain rfl : re = 0 := by rw [HRE.out, if_pos hkk]
       go_wp2_with fail
       go_ret
       exact ⟨rfl, BW2.out⟩
     · have hkb : (kindK (1:Int) != k) = true := by simp [hkk]
       obtain rfl : re = 7 := by rw [HRE.out, if_neg hkk]
       go_wp2_with fail
       go_ret
       exact ⟨rfl, BW2.out⟩
   · have hte := toList_nil ht
     obtain rfl : (2 : Int) = re := by rw [← RE.out]; exact (check_bare (by unfold bareK; simp [ht])).symm
     go_wp2_with fail
     go_ret
     exact ⟨rfl, (HC.out.to w (by simp))⟩
 · by_cases hm : m = 0
   · subst hm
     by_cases ht : t = ⟨#[]⟩
     · subst ht
       have HBR : Hid (bareK (6:Int) (0:Int) (⟨#[]⟩:ByteArray) = true) := Lib.hid (by unfold bareK; simp)
       go_wp2_with fail
       refine (ref5_TextB (⟨#[]⟩:ByteArray) _).mono ?_
       rintro e w4 ⟨rfl, hb⟩
       clear kO0 kO1 kO2 kO3 kO4 kO5
       replace HC := Lib.hid (HC.out.push hb)
       clear hb
       obtain ⟨b5, h5⟩ : ∃ b, decide ((⟨#[]⟩:ByteArray).size ≤ 256) = b := ⟨_, rfl⟩
       rw [h5]
       have H5 := Lib.hid h5
       clear h5
       cases b5
       case false =>
        obtain rfl : (2 : Int) = re := by rw [← RE.out]; exact (check_bad (by unfold okK; simp [H5.out])).symm
        have kO0 := cell_of_row _ _ 0 _ _ _ (boxStays HO.out (HC.out.to w1 (by simp)))
        have kO1 := cell_of_row _ _ 1 _ _ _ (boxStays HO.out (HC.out.to w1 (by simp)))
        have kO2 := cell_of_row _ _ 2 _ _ _ (boxStays HO.out (HC.out.to w1 (by simp)))
        have kO3 := cell_of_row _ _ 3 _ _ _ (boxStays HO.out (HC.out.to w1 (by simp)))
        have kO4 := cell_of_row _ _ 4 _ _ _ (boxStays HO.out (HC.out.to w1 (by simp)))
        have kO5 := cell_of_row _ _ 5 _ _ _ (boxStays HO.out (HC.out.to w1 (by simp)))
        go_wp2_with fail
        go_ret
        exact ⟨rfl, (HC.out.to w (by simp))⟩
       have HOK : Hid (okK l k x (6:Int) (⟨#[]⟩:ByteArray) = true) := Lib.hid (by unfold okK; rw [H1.out, H2.out, HTH.out, H5.out]; simp [HKD.out])
       have HRE : Hid (re = if kindK (6:Int) = k then 0 else 7) := Lib.hid (by rw [← RE.out]; unfold checkK; rw [HOK.out, HBR.out]; rfl)
       have kO0 := cell_of_row _ _ 0 _ _ _ (boxStays HO.out (HC.out.to w1 (by simp)))
       have kO1 := cell_of_row _ _ 1 _ _ _ (boxStays HO.out (HC.out.to w1 (by simp)))
       have kO2 := cell_of_row _ _ 2 _ _ _ (boxStays HO.out (HC.out.to w1 (by simp)))
       have kO3 := cell_of_row _ _ 3 _ _ _ (boxStays HO.out (HC.out.to w1 (by simp)))
       have kO4 := cell_of_row _ _ 4 _ _ _ (boxStays HO.out (HC.out.to w1 (by simp)))
       have kO5 := cell_of_row _ _ 5 _ _ _ (boxStays HO.out (HC.out.to w1 (by simp)))
       go_upto_region 5 with (fail)
       have BW := Lib.hid (HC.out.to w (by simp))
       have BO := Lib.hid (boxStays HO.out (HC.out.to w1 (by simp)))
       clear kO0 kO1 kO2 kO3 kO4 kO5
       clear HC
       refine relG_start (slots := [62, 63, 64, 65, 66, 67]) (so := []) (by kernel_rfl) (by kernel_rfl) (by rfl) ?_
       refine relG_pure (i := 0) (o := ⟨some 62, _, _, _, _, _⟩) (v := ?v21) [] [1] rfl rfl (by kernel_rfl) (by kernel_rfl) (fun t w1 hB hf hbf => ?y21) ?n21
       case y21 =>
        simp only [BasF] at hbf
        clear hf
        obtain ⟨⟨b1, k1⟩, _⟩ := hbf
        have yo := boxStays BO.out hB
        have o1 := cell_of_row _ z 1 _ _ _ yo
        have o3 := cell_of_row _ z 3 _ _ _ yo
        clear yo
        refine Or.inl ⟨wanted_none rfl, ?_⟩
        rintro _ rfl
        go_simp <;> with_reducible rfl
       refine relG_pure (i := 1) (o := ⟨some 63, _, _, _, _, _⟩) (v := ?v22) [(0, 62, 0)] [] rfl rfl (by kernel_rfl) (by kernel_rfl) (fun t w1 hB hf hbf => ?y22) ?n22
       case y22 =>
        simp only [DepF, List.getD_cons_zero] at hf
        obtain ⟨⟨_, ⟨e62, i62⟩, rfl⟩, _⟩ := hf
        clear hbf
        have yo := boxStays BO.out hB
        have o1 := cell_of_row _ z 1 _ _ _ yo
        have o3 := cell_of_row _ z 3 _ _ _ yo
        clear yo
        refine Or.inl ⟨wanted_none rfl, ?_⟩
        rintro _ rfl
        go_simp <;> with_reducible rfl
       refine relG_call (i := 2) (o := ⟨some 64, _, _, _, _, _⟩) ((fun v _ => v = .int .i64 (kindK (6:Int)))) [(1, 63, 0)] [] rfl rfl (by kernel_rfl) (by kernel_rfl) ((fun _ _ _ h _ => h)) ?_ ?_
       · intro t w1 hB hf hbf K hK
         simp only [DepF, List.getD_cons_zero] at hf
         obtain ⟨⟨_, ⟨e63, i63⟩, rfl⟩, _⟩ := hf
         clear hbf
         have yo := boxStays BO.out hB
         have o1 := cell_of_row _ z 1 _ _ _ yo
         have o3 := cell_of_row _ z 3 _ _ _ yo
         clear yo
         refine ⟨wanted_none rfl, ?_⟩
         go_simp
         refine (kr_OfB _ w1).mono ?_
         rintro e w2 ⟨rfl, hb⟩
         exact hK.out _ w2 (rfl) hb
       refine relG_pure (i := 3) (o := ⟨some 65, _, _, _, _, _⟩) (v := ?v23) [] [1] rfl rfl (by kernel_rfl) (by kernel_rfl) (fun t w1 hB hf hbf => ?y23) ?n23
       case y23 =>
        simp only [BasF] at hbf
        clear hf
        obtain ⟨⟨b1, k1⟩, _⟩ := hbf
        have yo := boxStays BO.out hB
        have o1 := cell_of_row _ z 1 _ _ _ yo
        have o3 := cell_of_row _ z 3 _ _ _ yo
        clear yo
        refine Or.inl ⟨wanted_none rfl, ?_⟩
        rintro _ rfl
        go_simp <;> with_reducible rfl
       refine relG_pure (i := 4) (o := ⟨some 66, _, _, _, _, _⟩) (v := ?v24) [(3, 65, 0)] [] rfl rfl (by kernel_rfl) (by kernel_rfl) (fun t w1 hB hf hbf => ?y24) ?n24
       case y24 =>
        simp only [DepF, List.getD_cons_zero] at hf
        obtain ⟨⟨_, ⟨e65, i65⟩, rfl⟩, _⟩ := hf
        clear hbf
        have yo := boxStays BO.out hB
        have o1 := cell_of_row _ z 1 _ _ _ yo
        have o3 := cell_of_row _ z 3 _ _ _ yo
        clear yo
        refine Or.inl ⟨wanted_none rfl, ?_⟩
        rintro _ rfl
        go_simp <;> with_reducible rfl
       refine relG_pure (i := 5) (o := ⟨some 67, _, _, _, _, _⟩) (v := ?v25) [(2, 64, 2), (4, 66, 0)] [] rfl rfl (by kernel_rfl) (by kernel_rfl) (fun t w1 hB hf hbf => ?y25) ?n25
       case y25 =>
        simp only [DepF, List.getD_cons_zero, List.getD_cons_succ] at hf
        obtain ⟨⟨_, ⟨e64, i64⟩, rfl⟩, ⟨_, ⟨e66, i66⟩, rfl⟩, _⟩ := hf
        clear hbf
        have yo := boxStays BO.out hB
        have o1 := cell_of_row _ z 1 _ _ _ yo
        have o3 := cell_of_row _ z 3 _ _ _ yo
        clear yo
        refine Or.inl ⟨wanted_none rfl, ?_⟩
        rintro _ rfl
        go_simp <;> with_reducible rfl
       refine relG_done [(0, 62, 5), (1, 63, 4), (2, 64, 3), (3, 65, 2), (4, 66, 1), (5, 67, 0)] (by kernel_rfl) rfl (by kernel_rfl) (fun f wE hB hf => ?_)
       simp only [FinF, List.getD_cons_zero, List.getD_cons_succ] at hf
       obtain ⟨⟨_, e62, rfl⟩, ⟨_, e63, rfl⟩, ⟨_, e64, rfl⟩, ⟨_, e65, rfl⟩, ⟨_, e66, rfl⟩, ⟨_, e67, rfl⟩, _⟩ := hf
       simp only [regT, List.foldl_cons, List.foldl_nil, List.setIfInBounds_toArray, List.set_cons_zero, List.set_cons_succ, e62, e63, e64, e65, e66, e67]
       clear e62 e63 e64 e65 e66 e67
       have BW2 := Lib.hid (BW.out.trans (hB.mono BW.out.size))
       clear hB
       by_cases hkk : kindK (6:Int) = k
       · have hkb : (kindK (6:Int) != k) = false := by simp [hkk]
         obtain rfl : re = 0 := by rw [HRE.out, if_pos hkk]
         go_wp2_with fail
         go_ret
         exact ⟨rfl, BW2.out⟩
       · have hkb : (kindK (6:Int) != k) = true := by simp [hkk]
         obtain rfl : re = 7 := by rw [HRE.out, if_neg hkk]
         go_wp2_with fail
         go_ret
         exact ⟨rfl, BW2.out⟩
     · have hte := toList_nil ht
       obtain rfl : (2 : Int) = re := by rw [← RE.out]; exact (check_bare (by unfold bareK; simp [ht])).symm
       go_wp2_with fail
       go_ret
       exact ⟨rfl, (HC.out.to w (by simp))⟩
   ·
    obtain rfl : (2 : Int) = re := by rw [← RE.out]; exact (check_bare (by unfold bareK; simp [hm])).symm
    go_wp2_with fail
    go_ret
    exact ⟨rfl, (HC.out.to w (by simp))⟩
 · by_cases hm : m = 0
   · subst hm
     have HBR : Hid (bareK d (0:Int) t = true) := Lib.hid (by unfold bareK; simp [hd5, hd6])
     go_wp2_with fail
     refine (ref5_TextB t _).mono ?_
     rintro e w4 ⟨rfl, hb⟩
     clear kO0 kO1 kO2 kO3 kO4 kO5
     replace HC := Lib.hid (HC.out.push hb)
     clear hb
     obtain ⟨b5, h5⟩ : ∃ b, decide (t.size ≤ 256) = b := ⟨_, rfl⟩
     rw [h5]
     have H5 := Lib.hid h5
     clear h5
     cases b5
     case false =>
      obtain rfl : (2 : Int) = re := by rw [← RE.out]; exact (check_bad (by unfold okK; simp [H5.out])).symm
      have kO0 := cell_of_row _ _ 0 _ _ _ (boxStays HO.out (HC.out.to w1 (by simp)))
      have kO1 := cell_of_row _ _ 1 _ _ _ (boxStays HO.out (HC.out.to w1 (by simp)))
      have kO2 := cell_of_row _ _ 2 _ _ _ (boxStays HO.out (HC.out.to w1 (by simp)))
      have kO3 := cell_of_row _ _ 3 _ _ _ (boxStays HO.out (HC.out.to w1 (by simp)))
      have kO4 := cell_of_row _ _ 4 _ _ _ (boxStays HO.out (HC.out.to w1 (by simp)))
      have kO5 := cell_of_row _ _ 5 _ _ _ (boxStays HO.out (HC.out.to w1 (by simp)))
      go_wp2_with fail
      go_ret
      exact ⟨rfl, (HC.out.to w (by simp))⟩
     have HOK : Hid (okK l k x d t = true) := Lib.hid (by unfold okK; rw [H1.out, H2.out, HTH.out, H5.out]; simp [HKD.out])
     have HRE : Hid (re = if kindK d = k then 0 else 7) := Lib.hid (by rw [← RE.out]; unfold checkK; rw [HOK.out, HBR.out]; rfl)
     have kO0 := cell_of_row _ _ 0 _ _ _ (boxStays HO.out (HC.out.to w1 (by simp)))
     have kO1 := cell_of_row _ _ 1 _ _ _ (boxStays HO.out (HC.out.to w1 (by simp)))
     have kO2 := cell_of_row _ _ 2 _ _ _ (boxStays HO.out (HC.out.to w1 (by simp)))
     have kO3 := cell_of_row _ _ 3 _ _ _ (boxStays HO.out (HC.out.to w1 (by simp)))
     have kO4 := cell_of_row _ _ 4 _ _ _ (boxStays HO.out (HC.out.to w1 (by simp)))
     have kO5 := cell_of_row _ _ 5 _ _ _ (boxStays HO.out (HC.out.to w1 (by simp)))
     go_upto_region 5 with (fail)
     have BW := Lib.hid (HC.out.to w (by simp))
     have BO := Lib.hid (boxStays HO.out (HC.out.to w1 (by simp)))
     clear kO0 kO1 kO2 kO3 kO4 kO5
     clear HC
     refine relG_start (slots := [62, 63, 64, 65, 66, 67]) (so := []) (by kernel_rfl) (by kernel_rfl) (by rfl) ?_
     refine relG_pure (i := 0) (o := ⟨some 62, _, _, _, _, _⟩) (v := ?v26) [] [1] rfl rfl (by kernel_rfl) (by kernel_rfl) (fun t w1 hB hf hbf => ?y26) ?n26
     case y26 =>
      simp only [BasF] at hbf
      clear hf
      obtain ⟨⟨b1, k1⟩, _⟩ := hbf
      have yo := boxStays BO.out hB
      have o1 := cell_of_row _ z 1 _ _ _ yo
      have o3 := cell_of_row _ z 3 _ _ _ yo
      clear yo
      refine Or.inl ⟨wanted_none rfl, ?_⟩
      rintro _ rfl
      go_simp <;> with_reducible rfl
     refine relG_pure (i := 1) (o := ⟨some 63, _, _, _, _, _⟩) (v := ?v27) [(0, 62, 0)] [] rfl rfl (by kernel_rfl) (by kernel_rfl) (fun t w1 hB hf hbf => ?y27) ?n27
     case y27 =>
      simp only [DepF, List.getD_cons_zero] at hf
      obtain ⟨⟨_, ⟨e62, i62⟩, rfl⟩, _⟩ := hf
      clear hbf
      have yo := boxStays BO.out hB
      have o1 := cell_of_row _ z 1 _ _ _ yo
      have o3 := cell_of_row _ z 3 _ _ _ yo
      clear yo
      refine Or.inl ⟨wanted_none rfl, ?_⟩
      rintro _ rfl
      go_simp <;> with_reducible rfl
     refine relG_call (i := 2) (o := ⟨some 64, _, _, _, _, _⟩) ((fun v _ => v = .int .i64 (kindK d))) [(1, 63, 0)] [] rfl rfl (by kernel_rfl) (by kernel_rfl) ((fun _ _ _ h _ => h)) ?_ ?_
     · intro t w1 hB hf hbf K hK
       simp only [DepF, List.getD_cons_zero] at hf
       obtain ⟨⟨_, ⟨e63, i63⟩, rfl⟩, _⟩ := hf
       clear hbf
       have yo := boxStays BO.out hB
       have o1 := cell_of_row _ z 1 _ _ _ yo
       have o3 := cell_of_row _ z 3 _ _ _ yo
       clear yo
       refine ⟨wanted_none rfl, ?_⟩
       go_simp
       refine (kr_OfB _ w1).mono ?_
       rintro e w2 ⟨rfl, hb⟩
       exact hK.out _ w2 (rfl) hb
     refine relG_pure (i := 3) (o := ⟨some 65, _, _, _, _, _⟩) (v := ?v28) [] [1] rfl rfl (by kernel_rfl) (by kernel_rfl) (fun t w1 hB hf hbf => ?y28) ?n28
     case y28 =>
      simp only [BasF] at hbf
      clear hf
      obtain ⟨⟨b1, k1⟩, _⟩ := hbf
      have yo := boxStays BO.out hB
      have o1 := cell_of_row _ z 1 _ _ _ yo
      have o3 := cell_of_row _ z 3 _ _ _ yo
      clear yo
      refine Or.inl ⟨wanted_none rfl, ?_⟩
      rintro _ rfl
      go_simp <;> with_reducible rfl
     refine relG_pure (i := 4) (o := ⟨some 66, _, _, _, _, _⟩) (v := ?v29) [(3, 65, 0)] [] rfl rfl (by kernel_rfl) (by kernel_rfl) (fun t w1 hB hf hbf => ?y29) ?n29
     case y29 =>
      simp only [DepF, List.getD_cons_zero] at hf
      obtain ⟨⟨_, ⟨e65, i65⟩, rfl⟩, _⟩ := hf
      clear hbf
      have yo := boxStays BO.out hB
      have o1 := cell_of_row _ z 1 _ _ _ yo
      have o3 := cell_of_row _ z 3 _ _ _ yo
      clear yo
      refine Or.inl ⟨wanted_none rfl, ?_⟩
      rintro _ rfl
      go_simp <;> with_reducible rfl
     refine relG_pure (i := 5) (o := ⟨some 67, _, _, _, _, _⟩) (v := ?v30) [(2, 64, 2), (4, 66, 0)] [] rfl rfl (by kernel_rfl) (by kernel_rfl) (fun t w1 hB hf hbf => ?y30) ?n30
     case y30 =>
      simp only [DepF, List.getD_cons_zero, List.getD_cons_succ] at hf
      obtain ⟨⟨_, ⟨e64, i64⟩, rfl⟩, ⟨_, ⟨e66, i66⟩, rfl⟩, _⟩ := hf
      clear hbf
      have yo := boxStays BO.out hB
      have o1 := cell_of_row _ z 1 _ _ _ yo
      have o3 := cell_of_row _ z 3 _ _ _ yo
      clear yo
      refine Or.inl ⟨wanted_none rfl, ?_⟩
      rintro _ rfl
      go_simp <;> with_reducible rfl
     refine relG_done [(0, 62, 5), (1, 63, 4), (2, 64, 3), (3, 65, 2), (4, 66, 1), (5, 67, 0)] (by kernel_rfl) rfl (by kernel_rfl) (fun f wE hB hf => ?_)
     simp only [FinF, List.getD_cons_zero, List.getD_cons_succ] at hf
     obtain ⟨⟨_, e62, rfl⟩, ⟨_, e63, rfl⟩, ⟨_, e64, rfl⟩, ⟨_, e65, rfl⟩, ⟨_, e66, rfl⟩, ⟨_, e67, rfl⟩, _⟩ := hf
     simp only [regT, List.foldl_cons, List.foldl_nil, List.setIfInBounds_toArray, List.set_cons_zero, List.set_cons_succ, e62, e63, e64, e65, e66, e67]
     clear e62 e63 e64 e65 e66 e67
     have BW2 := Lib.hid (BW.out.trans (hB.mono BW.out.size))
     clear hB
     by_cases hkk : kindK d = k
     · have hkb : (kindK d != k) = false := by simp [hkk]
       obtain rfl : re = 0 := by rw [HRE.out, if_pos hkk]
       go_wp2_with fail
       go_ret
       exact ⟨rfl, BW2.out⟩
     · have hkb : (kindK d != k) = true := by simp [hkk]
       obtain rfl : re = 7 := by rw [HRE.out, if_neg hkk]
       go_wp2_with fail
       go_ret
       exact ⟨rfl, BW2.out⟩
   ·
    obtain rfl : (2 : Int) = re := by rw [← RE.out]; exact (check_bare (by unfold bareK; simp [hd5, hm])).symm
    go_wp2_with fail
    go_ret
    exact ⟨rfl, (HC.out.to w (by simp))⟩
end Go.Proofs.YtjlliohjeiclaaaGreatDoor
namespace Go.Proofs.YtjlliohjeiclaaaGreatDoor
open Go.RowKit
def Grw (w w' : World) : Prop := ∃ (q : Nat) (os : Array Obj), w' = Sort.grow (w.drewN q) os
theorem drewN_drewN (w : World) (a b : Nat) : (w.drewN a).drewN b = w.drewN (a + b) := by
 induction b with
 | zero => rfl
 | succ b ih => show ((w.drewN a).drewN b).drew = (w.drewN (a + b)).drew; rw [ih]
theorem grow_drewN (w : World) (os : Array Obj) (n : Nat) : (Sort.grow w os).drewN n = Sort.grow (w.drewN n) os := by
 induction n with
 | zero => rfl
 | succ n ih => show ((Sort.grow w os).drewN n).drew = _; rw [ih]; rfl
theorem Grw.refl (w : World) : Grw w w := ⟨0, #[], by simp [Sort.grow]; rfl⟩
theorem Grw.trans {a b c : World} (h : Grw a b) (k : Grw b c) : Grw a c := by
 obtain ⟨q, os, rfl⟩ := h
 obtain ⟨q', os', rfl⟩ := k
 exact ⟨q + q', os ++ os', by rw [grow_drewN, Sort.grow_grow, drewN_drewN]⟩
theorem Grw.drew {a b : World} (h : Grw a b) : Grw a b.drew := h.trans ⟨1, #[], by simp [Sort.grow]; rfl⟩
theorem Grw.alloc {a b : World} (h : Grw a b) (o : Obj) : Grw a (b.alloc o) := h.trans ⟨0, #[o], by rw [Sort.alloc_eq_grow]; rfl⟩
theorem Grw.below {a b : World} (h : Grw a b) : Below a.heap.size a b := by
 obtain ⟨q, os, rfl⟩ := h
 have hd : ∀ n, (a.drewN n).heap = a.heap ∧ (a.drewN n).os = a.os ∧ (a.drewN n).tape = a.tape ∧ (a.drewN n).output = a.output := fun n => by
  induction n with
  | zero => exact ⟨rfl, rfl, rfl, rfl⟩
  | succ n ih => exact ih
 obtain ⟨h1, h2, h3, h4⟩ := hd q
 refine ⟨h2, h3, h4, by simp [Sort.grow, h1], fun k hk => ?_⟩
 show ((a.drewN q).heap ++ os)[k]? = _
 rw [h1, Array.getElem?_append_left hk]
end Go.Proofs.YtjlliohjeiclaaaGreatDoor
