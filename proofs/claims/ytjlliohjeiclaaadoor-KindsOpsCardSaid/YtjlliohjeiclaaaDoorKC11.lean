/- Words, contracts and walks that the proof stands on (KnX). -/
import Derived.Test.YtjlliohjeiclaaaDoorKC10
import Derived.Test.YtjlliohjeiclaaaDoorKC7
namespace Go.Proofs.YtjlliohjeiclaaaDoor
open Go.RowKit St Pm Ku Kn
namespace Kn
def stampedG (l : List ByteArray) (k : Int) (x : ByteArray) (d m : Int) (t : ByteArray) : Bool := decide (checkK l k x d m t = 0) && bringsG d
end Kn
open Kn
set_option maxRecDepth 100000 in
set_option maxHeartbeats 2000000 in
theorem kn_Stamped (l : List ByteArray) (k : Int) (x : ByteArray) (d m : Int) (t : ByteArray) (a : Option Addr) (n c : Nat) (w : World) (hl : CellsAt w a (txV l)) (hn : n = l.length) (hs : ∀ x ∈ l, x.size ≤ 9223372036854775807) (hx : x.size ≤ 9223372036854775807) (hG : Glob w) :
 Calls Tryd.prog 25 #[.agg #[.slice a n c, .int .i64 k, .string x, .int .i64 d, .int .i64 m, .string t]] w fun e w' => e = .returned (.bool (stampedG l k x d m t)) ∧ Below w.heap.size w w' := by
 have HL := Lib.hid hl
 have HN := Lib.hid hn
 have HS := Lib.hid hs
 have HX := Lib.hid hx
 have G := Lib.hid hG
 obtain ⟨ce, hce⟩ : ∃ r, checkK l k x d m t = r := ⟨_, rfl⟩
 have HV : Hid (stampedG l k x d m t = (decide (ce = 0) && bringsG d)) := Lib.hid (by unfold stampedG; rw [hce])
 have CE := Lib.hid hce
 obtain ⟨re, hre⟩ : ∃ r, stampedG l k x d m t = r := ⟨_, rfl⟩
 rw [hre] at HV ⊢
 clear hl hn hs hx hG hce hre
 have HC : Hid (Chain [w] w) := Lib.hid (Chain.one w)
 go_enter Tryd.func25, Tryd.ntmps25
 go_upto_region 1 with (fail)
 obtain ⟨z, hz⟩ : ∃ c, w.heap.size = c := ⟨_, rfl⟩
 try rw [hz]
 obtain ⟨w1, hw1⟩ : ∃ X, allocs w [.cells #[.slice a n c, .int .i64 k, .string x, .int .i64 d, .int .i64 m, .string t] 54] = X := ⟨_, rfl⟩
 rw [show w.alloc (.cells #[.slice a n c, .int .i64 k, .string x, .int .i64 d, .int .i64 m, .string t] 54) = w1 from hw1]
 have hb : Below w.heap.size w w1 := by rw [← hw1]; exact allocs_below _ _
 have HO : Hid (w1.heap[z]? = some (.cells #[.slice a n c, .int .i64 k, .string x, .int .i64 d, .int .i64 m, .string t] 54 (0, 0))) := Lib.hid (by have := allocs_get [.cells #[.slice a n c, .int .i64 k, .string x, .int .i64 d, .int .i64 m, .string t] 54] w 0 _ rfl; rw [hw1, hz] at this; exact this)
 have Sz : Hid (w.heap.size = z) := Lib.hid hz
 replace HC := Lib.hid (HC.out.push hb)
 clear hb hw1 hz
 have kO0 := cell_of_row _ _ 0 _ _ _ HO.out
 have kO1 := cell_of_row _ _ 1 _ _ _ HO.out
 have kO2 := cell_of_row _ _ 2 _ _ _ HO.out
 have kO3 := cell_of_row _ _ 3 _ _ _ HO.out
 have kO4 := cell_of_row _ _ 4 _ _ _ HO.out
 have kO5 := cell_of_row _ _ 5 _ _ _ HO.out
 go_wp2_with fail
 refine (kn_Check l k x d m t a n c _ (HL.out.below (HC.out.to w (by simp)) rfl) HN.out HS.out HX.out (G.out.below (HC.out.to w (by simp)))).mono ?_
 rintro e w2 ⟨rfl, hb⟩
 clear kO0 kO1 kO2 kO3 kO4 kO5
 replace HC := Lib.hid (HC.out.push hb)
 clear hb
 rw [CE.out]
 by_cases h0 : ce = 0
 · subst h0
   obtain rfl : bringsG d = re := by rw [HV.out]; simp
   have kO0 := cell_of_row _ _ 0 _ _ _ (boxStays HO.out (HC.out.to w1 (by simp)))
   have kO1 := cell_of_row _ _ 1 _ _ _ (boxStays HO.out (HC.out.to w1 (by simp)))
   have kO2 := cell_of_row _ _ 2 _ _ _ (boxStays HO.out (HC.out.to w1 (by simp)))
   have kO3 := cell_of_row _ _ 3 _ _ _ (boxStays HO.out (HC.out.to w1 (by simp)))
   have kO4 := cell_of_row _ _ 4 _ _ _ (boxStays HO.out (HC.out.to w1 (by simp)))
   have kO5 := cell_of_row _ _ 5 _ _ _ (boxStays HO.out (HC.out.to w1 (by simp)))
   go_wp2_with fail
   refine (kn_bringsB d _).mono ?_
   rintro e w3 ⟨rfl, hb⟩
   clear kO0 kO1 kO2 kO3 kO4 kO5
   replace HC := Lib.hid (HC.out.push hb)
   clear hb
   go_wp2_with fail
   go_ret
   exact ⟨rfl, (HC.out.to w (by simp))⟩
 · have h0b : (ce == 0) = false := by simp [h0]
   obtain rfl : false = re := by rw [HV.out]; simp [h0]
   go_wp2_with fail
   go_ret
   exact ⟨rfl, (HC.out.to w (by simp))⟩
set_option maxRecDepth 100000 in
set_option maxHeartbeats 4000000 in
theorem kr_Stamped (l : List ByteArray) (k : Int) (x : ByteArray) (d m : Int) (t : ByteArray) (a : Option Addr) (n c : Nat) (w : World) (hl : CellsAt w a (txV l)) (hn : n = l.length) :
 Calls Tryd.prog 26 #[.agg #[.slice a n c, .int .i64 k, .string x, .int .i64 d, .int .i64 m, .string t]] w fun e w' => e = .returned (.bool (stampedG l k x d m t)) ∧ Below w.heap.size w w' := by
 have HL := Lib.hid hl
 have HN := Lib.hid hn
 obtain ⟨ce, hce⟩ : ∃ r, checkK l k x d m t = r := ⟨_, rfl⟩
 have HV : Hid (stampedG l k x d m t = (decide (ce = 0) && bringsG d)) := Lib.hid (by unfold stampedG; rw [hce])
 have CE := Lib.hid hce
 obtain ⟨re, hre⟩ : ∃ r, stampedG l k x d m t = r := ⟨_, rfl⟩
 rw [hre] at HV ⊢
 clear hl hn hce hre
 have HC : Hid (Chain [w] w) := Lib.hid (Chain.one w)
 go_enter Tryd.func26, Tryd.ntmps26
 go_upto_region 1 with (fail)
 obtain ⟨z, hz⟩ : ∃ c, w.heap.size = c := ⟨_, rfl⟩
 try rw [hz]
 obtain ⟨w1, hw1⟩ : ∃ X, allocs w [.cells #[.slice a n c, .int .i64 k, .string x, .int .i64 d, .int .i64 m, .string t] 54] = X := ⟨_, rfl⟩
 rw [show w.alloc (.cells #[.slice a n c, .int .i64 k, .string x, .int .i64 d, .int .i64 m, .string t] 54) = w1 from hw1]
 have hb : Below w.heap.size w w1 := by rw [← hw1]; exact allocs_below _ _
 have HO : Hid (w1.heap[z]? = some (.cells #[.slice a n c, .int .i64 k, .string x, .int .i64 d, .int .i64 m, .string t] 54 (0, 0))) := Lib.hid (by have := allocs_get [.cells #[.slice a n c, .int .i64 k, .string x, .int .i64 d, .int .i64 m, .string t] 54] w 0 _ rfl; rw [hw1, hz] at this; exact this)
 have Sz : Hid (w.heap.size = z) := Lib.hid hz
 replace HC := Lib.hid (HC.out.push hb)
 clear hb hw1 hz
 have kO0 := cell_of_row _ _ 0 _ _ _ HO.out
 have kO1 := cell_of_row _ _ 1 _ _ _ HO.out
 have kO2 := cell_of_row _ _ 2 _ _ _ HO.out
 have kO3 := cell_of_row _ _ 3 _ _ _ HO.out
 have kO4 := cell_of_row _ _ 4 _ _ _ HO.out
 have kO5 := cell_of_row _ _ 5 _ _ _ HO.out
 go_wp2_with fail
 refine (kr_Check l k x d m t a n c _ (HL.out.below (HC.out.to w (by simp)) rfl) HN.out).mono ?_
 rintro e w2 ⟨rfl, hb⟩
 clear kO0 kO1 kO2 kO3 kO4 kO5
 replace HC := Lib.hid (HC.out.push hb)
 clear hb
 rw [CE.out]
 by_cases h0 : ce = 0
 · subst h0
   obtain rfl : bringsG d = re := by rw [HV.out]; simp
   rcases (by omega : d = 2 ∨ d = 4 ∨ d = 5 ∨ d = 7 ∨ (d ≠ 2 ∧ d ≠ 4 ∧ d ≠ 5 ∧ d ≠ 7)) with rfl | rfl | rfl | rfl | ⟨h2, h4, h5, h7⟩
   all_goals
    have kO0 := cell_of_row _ _ 0 _ _ _ (boxStays HO.out (HC.out.to w1 (by simp)))
    have kO1 := cell_of_row _ _ 1 _ _ _ (boxStays HO.out (HC.out.to w1 (by simp)))
    have kO2 := cell_of_row _ _ 2 _ _ _ (boxStays HO.out (HC.out.to w1 (by simp)))
    have kO3 := cell_of_row _ _ 3 _ _ _ (boxStays HO.out (HC.out.to w1 (by simp)))
    have kO4 := cell_of_row _ _ 4 _ _ _ (boxStays HO.out (HC.out.to w1 (by simp)))
    have kO5 := cell_of_row _ _ 5 _ _ _ (boxStays HO.out (HC.out.to w1 (by simp)))
   · go_wp2_with fail
     go_ret
     exact ⟨rfl, (HC.out.to w (by simp))⟩
   · go_wp2_with fail
     go_ret
     exact ⟨rfl, (HC.out.to w (by simp))⟩
   · go_wp2_with fail
     go_ret
     exact ⟨rfl, (HC.out.to w (by simp))⟩
   · go_wp2_with fail
     go_ret
     exact ⟨rfl, (HC.out.to w (by simp))⟩
   · have e2 : (d == 2) = false := by simp [h2]
     have e4 : (d == 4) = false := by simp [h4]
     have e5 : (d == 5) = false := by simp [h5]
     have e7 : (d == 7) = false := by simp [h7]
     have eb : Hid (bringsG d = false) := Lib.hid (by unfold bringsG; simp [h2, h4, h5, h7])
     go_wp2_with fail
     go_ret
     exact ⟨by rw [eb.out]; rfl, (HC.out.to w (by simp))⟩
 · have h0b : (ce == 0) = false := by simp [h0]
   obtain rfl : false = re := by rw [HV.out]; simp [h0]
   go_wp2_with fail
   go_ret
   exact ⟨rfl, (HC.out.to w (by simp))⟩
end Go.Proofs.YtjlliohjeiclaaaDoor
