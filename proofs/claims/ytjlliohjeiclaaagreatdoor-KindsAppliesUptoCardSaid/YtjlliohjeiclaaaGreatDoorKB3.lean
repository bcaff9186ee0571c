/- Words, contracts and walks that the proof stands on (TxP KyT GrowN KnA KsA KuA Tail KsB KuB KsC KuC). -/
import Derived.BigQuiet
import Derived.Deep.DeepMust
import Derived.Deep.QuietTactic
import Derived.Deep.RegionHeld3
import Derived.Laws.RangeAny
import Derived.Lib.Bytealg
import Derived.Lib.TrimUEq
import Derived.Lib.ValidAsc
import Derived.Lib.ValidU
import Derived.LoopTactic
import Derived.Shelf.Small.Strs
import Derived.Shelf.Small.Wraps
import Derived.Shelf.Strings.BuilderK
import Derived.Shelf.Strings.Cut
import Derived.Shelf.Unicode.ValidAny
import Derived.Test.YtjlliohjeiclaaaGreatDoorKB1
import Derived.Test.YtjlliohjeiclaaaGreatDoorKB2
namespace Go.Proofs.YtjlliohjeiclaaaGreatDoor
open Go.RowKit
def txV (l : List ByteArray) : List Value := l.map Value.string
theorem tx_get {w : World} {a : Option Addr} {l : List ByteArray} (h : CellsAt w a (txV l)) (k : Nat) (hk : k < l.length) : ∃ b off, a = some ⟨b, off, none⟩ ∧ w.cell? ⟨b, off + k, none⟩ = some (.string l[k]) := h.get k _ (by simp [txV, hk])
end Go.Proofs.YtjlliohjeiclaaaGreatDoor
namespace Go.Proofs.YtjlliohjeiclaaaGreatDoor
open Go.RowKit St
set_option maxRecDepth 100000 in
set_option maxHeartbeats 2000000 in
theorem ref9_SameTexts (l m : List ByteArray) (a b : Option Addr) (n1 n2 c1 c2 : Nat) (w : World) (hl : CellsAt w a (txV l)) (hm : CellsAt w b (txV m)) (hn1 : n1 = l.length) (hn2 : n2 = m.length) (hb : n1 ≤ 9223372036854775807) :
 Calls Tryz.prog 43 #[.slice a n1 c1, .slice b n2 c2] w fun e w' => e = .returned (.bool (decide (l = m))) ∧ Below w.heap.size w w' := by
 have HL := Lib.hid hl
 have HM := Lib.hid hm
 clear hl hm
 go_enter Tryz.func43, Tryz.ntmps43
 by_cases hlen : n1 = n2
 · subst hlen
   have hN : Hid (l.length = m.length) := Lib.hid (by omega)
   have E : Hid (l.take n1 = m.take n1 → decide (l = m) = true) := Lib.hid (fun h => eq_all hN.out (by rw [← hn1]; exact h))
   have F : Hid (∀ k (h1 : k < l.length) (h2 : k < m.length), l[k] ≠ m[k] → decide (l = m) = false) := Lib.hid (fun k h1 h2 h => ne_at h1 h2 h)
   generalize decide (l = m) = res at *
   go_wp2_with fail
   go_loopw [5] (fun i wr => ∃ k : Nat, k ≤ n1 ∧ i = .int .i64 (k : Int) ∧ Hid (l.take k = m.take k) ∧ Hid (Below w.heap.size w wr)) (fun i _ => n1 - (intOf i).toNat)
   case atStart => exact ⟨0, Nat.zero_le _, rfl, Lib.hid rfl, Lib.hid (Below.refl _ _)⟩
   case round =>
    obtain ⟨k, hk, rfl, HT, HB⟩ := hrel
    by_cases hlt : k < n1
    · have hk1 : k < l.length := by omega
      have hk2 : k < m.length := by omega
      obtain ⟨ba, oa, rfl, ca⟩ := tx_get (HL.out.below HB.out rfl) k hk1
      obtain ⟨bb, ob, rfl, cb⟩ := tx_get (HM.out.below HB.out rfl) k hk2
      have G1 : Hid (l[k] ≠ m[k] → res = false) := Lib.hid (F.out k hk1 hk2)
      have G2 : Hid (l[k] = m[k] → l.take (k + 1) = m.take (k + 1)) := Lib.hid (take_eq hk1 hk2 HT.out)
      generalize l[k] = x at *
      generalize m[k] = y at *
      have hki : (k : Int) < (n1 : Int) := by omega
      by_cases hxy : x = y
      · have H := Lib.hid (G2.out hxy)
        have hd : (x.toList == y.toList) = true := by rw [Pm.eq_iff]; simpa using hxy
        clear hxy
        go_wp2_with fail
        go_quiet (fail)
        go_wp2_with fail
        refine ⟨⟨k + 1, by omega, by go_num, H, Lib.hid (below_drews HB.out _)⟩, by simp [intOf]; omega⟩
      · have hr := Lib.hid (G1.out hxy)
        have hd : (x.toList == y.toList) = false := by rw [Pm.eq_iff]; simpa using hxy
        clear hxy
        go_wp2_with fail
        go_quiet (fail)
        go_wp2_with fail
        go_ret
        rw [hr.out]
        exact ⟨rfl, below_drews HB.out _⟩
    · obtain rfl : k = n1 := by omega
      have hr := Lib.hid (E.out HT.out)
      go_wp2_with fail
      go_ret
      rw [hr.out]
      exact ⟨rfl, HB.out⟩
 · have hr : Hid (decide (l = m) = false) := Lib.hid (by rw [decide_eq_false_iff_not]; rintro rfl; omega)
   have hne : ((n1 : Int) == (n2 : Int)) = false := by simp; omega
   have hne' : ¬ (n1 : Int) = (n2 : Int) := by omega
   generalize decide (l = m) = res at *
   go_wp2_with fail
   go_ret
   rw [hr.out]
   exact ⟨rfl, Below.refl _ _⟩
end Go.Proofs.YtjlliohjeiclaaaGreatDoor
namespace Go.Proofs.YtjlliohjeiclaaaGreatDoor
open Go.RowKit
theorem grow_keep {w w' : World} {b : Option Nat} {g : Nat} {o : Obj} (hgr : w.grownBy w' b) (hY : w.heap[g]? = some o) (hd : b ≠ some g) : w'.heap[g]? = some o :=
 (hgr.block g (Array.getElem?_eq_some_iff.1 hY).1 (fun e => hd e.symm)).trans hY
theorem cellsAt_setRow {w : World} {g9 g : Nat} {cs : Array Value} {vs : List Value} (h : CellsAt w (some ⟨g9, 0, none⟩) vs) (hne : g9 ≠ g) : CellsAt (w.setRow g cs) (some ⟨g9, 0, none⟩) vs := by
 intro i hi
 obtain ⟨b, off, e, hc⟩ := h i hi
 cases e
 refine ⟨_, _, rfl, ?_⟩
 unfold World.cell? at hc ⊢
 rw [setRow_other _ _ _ _ hne]
 exact hc
theorem cells_grown {w w' : World} {a : Option Addr} {vs : List Value} {g : Nat} (h : CellsAt w a vs) (hg : w.grownBy w' (some g)) (hne : ∀ ad, a = some ad → ad.block ≠ g) : CellsAt w' a vs := by
 intro i hi
 obtain ⟨b, off, rfl, hc⟩ := h i hi
 have hl := cell_lt hc
 refine ⟨b, off, rfl, ?_⟩
 rw [World.cell?_of_block (a := ⟨b, off + i, none⟩) (hg.block b hl (fun e => hne _ rfl (Option.some.inj e)))]
 exact hc
theorem grown_below {w w' : World} {B : Nat} {r : Option Nat} (h : Below B w w') (hB : w.heap.size ≤ B) : w.grownBy w' r := ⟨h.os, h.tape, h.output, h.size, fun k hk _ => h.block k (by omega)⟩
theorem grown_tr {A B C : World} {r : Option Nat} (h : A.grownBy B r) (k : B.grownBy C r) : A.grownBy C r :=
 ⟨k.os.trans h.os, k.tape.trans h.tape, k.output.trans h.output, Nat.le_trans h.size k.size, fun i hi he => (k.block i (Nat.lt_of_lt_of_le hi h.size) he).trans (h.block i hi he)⟩
theorem grown_set (w : World) (X o : Nat) (v : Value) : w.grownBy (w.setCell ⟨X, o, none⟩ v) (some X) := ⟨rfl, rfl, rfl, by simp [World.setCell], fun k hk hne => Below.heap_setCell _ _ _ _ (fun e => hne (by rw [e]))⟩
end Go.Proofs.YtjlliohjeiclaaaGreatDoor
namespace Go.Proofs.YtjlliohjeiclaaaGreatDoor
open Go.RowKit St Pm
namespace Kn
def wordL : List ByteArray := [⟨#[]⟩, ⟨#[99, 111, 117, 110, 116, 101, 114]⟩, ⟨#[115, 101, 116]⟩, ⟨#[114, 101, 103, 105, 115, 116, 101, 114]⟩, ⟨#[113, 117, 101, 117, 101]⟩, ⟨#[106, 111, 117, 114, 110, 97, 108]⟩, ⟨#[109, 97, 112]⟩]
def doL : List ByteArray := [⟨#[]⟩, ⟨#[97, 100, 100]⟩, ⟨#[105, 110, 115, 101, 114, 116]⟩, ⟨#[114, 101, 109, 111, 118, 101]⟩, ⟨#[119, 114, 105, 116, 101]⟩, ⟨#[112, 117, 115, 104]⟩, ⟨#[112, 111, 112]⟩, ⟨#[97, 112, 112, 101, 110, 100]⟩]
def wordG (k : Int) : ByteArray := if 1 ≤ k ∧ k ≤ 6 then wordL.getD k.toNat ⟨#[]⟩ else ⟨#[]⟩
def doG (d : Int) : ByteArray := if 1 ≤ d ∧ d ≤ 7 then doL.getD d.toNat ⟨#[]⟩ else ⟨#[]⟩
def kindK (d : Int) : Int := if d = 1 then 1 else if d = 2 then 2 else if d = 3 then 2 else if d = 4 then 3 else if d = 5 then 4 else if d = 6 then 4 else if d = 7 then 5 else 0
def thingG (k : Int) : Bool := decide (1 ≤ k) && decide (k ≤ 5)
def bringsG (d : Int) : Bool := decide (d = 2) || (decide (d = 4) || (decide (d = 5) || decide (d = 7)))
theorem of_cases (d : Int) : (d = 1 ∨ d = 2 ∨ d = 3 ∨ d = 4 ∨ d = 5 ∨ d = 6 ∨ d = 7) ∨ (d ≠ 1 ∧ d ≠ 2 ∧ d ≠ 3 ∧ d ≠ 4 ∧ d ≠ 5 ∧ d ≠ 6 ∧ d ≠ 7) := by omega
theorem kindK_none {d : Int} (h : d ≠ 1 ∧ d ≠ 2 ∧ d ≠ 3 ∧ d ≠ 4 ∧ d ≠ 5 ∧ d ≠ 6 ∧ d ≠ 7) : kindK d = 0 := by
 obtain ⟨h1, h2, h3, h4, h5, h6, h7⟩ := h
 unfold kindK
 rw [if_neg h1, if_neg h2, if_neg h3, if_neg h4, if_neg h5, if_neg h6, if_neg h7]
end Kn
open Kn
def wordV : Array Value := #[.string ⟨#[]⟩, .string ⟨#[99, 111, 117, 110, 116, 101, 114]⟩, .string ⟨#[115, 101, 116]⟩, .string ⟨#[114, 101, 103, 105, 115, 116, 101, 114]⟩, .string ⟨#[113, 117, 101, 117, 101]⟩, .string ⟨#[106, 111, 117, 114, 110, 97, 108]⟩, .string ⟨#[109, 97, 112]⟩]
def doV : Array Value := #[.string ⟨#[]⟩, .string ⟨#[97, 100, 100]⟩, .string ⟨#[105, 110, 115, 101, 114, 116]⟩, .string ⟨#[114, 101, 109, 111, 118, 101]⟩, .string ⟨#[119, 114, 105, 116, 101]⟩, .string ⟨#[112, 117, 115, 104]⟩, .string ⟨#[112, 111, 112]⟩, .string ⟨#[97, 112, 112, 101, 110, 100]⟩]
theorem idxW (k : Nat) (hk : k < 7) (W : World) : (Instr.index 175 (.agg wordV) (.int .i64 (k : Int))).run Tryz.prog W = .ok (.string (wordL.getD k ⟨#[]⟩)) W := by
 have h0 : (Instr.index 175 (.agg wordV) (.int .i64 0)).run Tryz.prog W = .ok (.string ⟨#[]⟩) W := by kernel_rfl
 have h1 : (Instr.index 175 (.agg wordV) (.int .i64 1)).run Tryz.prog W = .ok (.string ⟨#[99, 111, 117, 110, 116, 101, 114]⟩) W := by kernel_rfl
 have h2 : (Instr.index 175 (.agg wordV) (.int .i64 2)).run Tryz.prog W = .ok (.string ⟨#[115, 101, 116]⟩) W := by kernel_rfl
 have h3 : (Instr.index 175 (.agg wordV) (.int .i64 3)).run Tryz.prog W = .ok (.string ⟨#[114, 101, 103, 105, 115, 116, 101, 114]⟩) W := by kernel_rfl
 have h4 : (Instr.index 175 (.agg wordV) (.int .i64 4)).run Tryz.prog W = .ok (.string ⟨#[113, 117, 101, 117, 101]⟩) W := by kernel_rfl
 have h5 : (Instr.index 175 (.agg wordV) (.int .i64 5)).run Tryz.prog W = .ok (.string ⟨#[106, 111, 117, 114, 110, 97, 108]⟩) W := by kernel_rfl
 have h6 : (Instr.index 175 (.agg wordV) (.int .i64 6)).run Tryz.prog W = .ok (.string ⟨#[109, 97, 112]⟩) W := by kernel_rfl
 rcases (by omega : k = 0 ∨ k = 1 ∨ k = 2 ∨ k = 3 ∨ k = 4 ∨ k = 5 ∨ k = 6) with rfl | rfl | rfl | rfl | rfl | rfl | rfl
 · exact h0
 · exact h1
 · exact h2
 · exact h3
 · exact h4
 · exact h5
 · exact h6
theorem idxD (k : Nat) (hk : k < 8) (W : World) : (Instr.index 177 (.agg doV) (.int .i64 (k : Int))).run Tryz.prog W = .ok (.string (doL.getD k ⟨#[]⟩)) W := by
 have h0 : (Instr.index 177 (.agg doV) (.int .i64 0)).run Tryz.prog W = .ok (.string ⟨#[]⟩) W := by kernel_rfl
 have h1 : (Instr.index 177 (.agg doV) (.int .i64 1)).run Tryz.prog W = .ok (.string ⟨#[97, 100, 100]⟩) W := by kernel_rfl
 have h2 : (Instr.index 177 (.agg doV) (.int .i64 2)).run Tryz.prog W = .ok (.string ⟨#[105, 110, 115, 101, 114, 116]⟩) W := by kernel_rfl
 have h3 : (Instr.index 177 (.agg doV) (.int .i64 3)).run Tryz.prog W = .ok (.string ⟨#[114, 101, 109, 111, 118, 101]⟩) W := by kernel_rfl
 have h4 : (Instr.index 177 (.agg doV) (.int .i64 4)).run Tryz.prog W = .ok (.string ⟨#[119, 114, 105, 116, 101]⟩) W := by kernel_rfl
 have h5 : (Instr.index 177 (.agg doV) (.int .i64 5)).run Tryz.prog W = .ok (.string ⟨#[112, 117, 115, 104]⟩) W := by kernel_rfl
 have h6 : (Instr.index 177 (.agg doV) (.int .i64 6)).run Tryz.prog W = .ok (.string ⟨#[112, 111, 112]⟩) W := by kernel_rfl
 have h7 : (Instr.index 177 (.agg doV) (.int .i64 7)).run Tryz.prog W = .ok (.string ⟨#[97, 112, 112, 101, 110, 100]⟩) W := by kernel_rfl
 rcases (by omega : k = 0 ∨ k = 1 ∨ k = 2 ∨ k = 3 ∨ k = 4 ∨ k = 5 ∨ k = 6 ∨ k = 7) with rfl | rfl | rfl | rfl | rfl | rfl | rfl | rfl
 · exact h0
 · exact h1
 · exact h2
 · exact h3
 · exact h4
 · exact h5
 · exact h6
 · exact h7
theorem kn_words (w : World) : Calls Tryz.prog 117 #[] w fun e w' => e = .returned (.agg wordV) ∧ Below w.heap.size w w' := by
 go_enter Tryz.func117, Tryz.ntmps117
 go_wp2
 have q0 := cell_of_row _ _ 0 _ _ _ (heap_alloc_new w (.cells wordV 175))
 have q1 := cell_of_row _ _ 1 _ _ _ (heap_alloc_new w (.cells wordV 175))
 have q2 := cell_of_row _ _ 2 _ _ _ (heap_alloc_new w (.cells wordV 175))
 have q3 := cell_of_row _ _ 3 _ _ _ (heap_alloc_new w (.cells wordV 175))
 have q4 := cell_of_row _ _ 4 _ _ _ (heap_alloc_new w (.cells wordV 175))
 have q5 := cell_of_row _ _ 5 _ _ _ (heap_alloc_new w (.cells wordV 175))
 have q6 := cell_of_row _ _ 6 _ _ _ (heap_alloc_new w (.cells wordV 175))
 simp only [wordV] at q0 q1 q2 q3 q4 q5 q6
 refine bodyPost_ret (v := .agg wordV) ?_ rfl ⟨rfl, below_new _ _⟩
 simp [results, Tryz.results117, go_sem, q0, q1, q2, q3, q4, q5, q6, wordV]
theorem kn_does (w : World) : Calls Tryz.prog 118 #[] w fun e w' => e = .returned (.agg doV) ∧ Below w.heap.size w w' := by
 go_enter Tryz.func118, Tryz.ntmps118
 go_wp2
 have q0 := cell_of_row _ _ 0 _ _ _ (heap_alloc_new w (.cells doV 177))
 have q1 := cell_of_row _ _ 1 _ _ _ (heap_alloc_new w (.cells doV 177))
 have q2 := cell_of_row _ _ 2 _ _ _ (heap_alloc_new w (.cells doV 177))
 have q3 := cell_of_row _ _ 3 _ _ _ (heap_alloc_new w (.cells doV 177))
 have q4 := cell_of_row _ _ 4 _ _ _ (heap_alloc_new w (.cells doV 177))
 have q5 := cell_of_row _ _ 5 _ _ _ (heap_alloc_new w (.cells doV 177))
 have q6 := cell_of_row _ _ 6 _ _ _ (heap_alloc_new w (.cells doV 177))
 have q7 := cell_of_row _ _ 7 _ _ _ (heap_alloc_new w (.cells doV 177))
 simp only [doV] at q0 q1 q2 q3 q4 q5 q6 q7
 refine bodyPost_ret (v := .agg doV) ?_ rfl ⟨rfl, below_new _ _⟩
 simp [results, Tryz.results118, go_sem, q0, q1, q2, q3, q4, q5, q6, q7, doV]
theorem kn_Of (d : Int) (w : World) : Calls Tryz.prog 121 #[.int .i64 d] w fun e w' => e = .returned (.int .i64 (kindK d)) ∧ w = w' := by
 rcases of_cases d with h | h
 · rcases h with rfl | rfl | rfl | rfl | rfl | rfl | rfl <;> (go_enter Tryz.func121, Tryz.ntmps121; go_wp2; go_ret; exact ⟨rfl, rfl⟩)
 · rw [kindK_none h]
   obtain ⟨h1, h2, h3, h4, h5, h6, h7⟩ := h
   go_enter Tryz.func121, Tryz.ntmps121
   go_wp2
   go_ret
   exact ⟨rfl, rfl⟩
theorem kr_Of (d : Int) (w : World) : Calls Tryz.prog 128 #[.int .i64 d] w fun e w' => e = .returned (.int .i64 (kindK d)) ∧ w = w' := by
 rcases of_cases d with h | h
 · rcases h with rfl | rfl | rfl | rfl | rfl | rfl | rfl <;> (go_enter Tryz.func128, Tryz.ntmps128; go_wp2; go_ret; exact ⟨rfl, rfl⟩)
 · rw [kindK_none h]
   obtain ⟨h1, h2, h3, h4, h5, h6, h7⟩ := h
   go_enter Tryz.func128, Tryz.ntmps128
   go_wp2
   go_ret
   exact ⟨rfl, rfl⟩
theorem kn_thing (k : Int) (w : World) : Calls Tryz.prog 84 #[.int .i64 k] w fun e w' => e = .returned (.bool (thingG k)) ∧ w = w' := by
 by_cases h1 : 1 ≤ k <;> by_cases h2 : k < 6
 all_goals
  go_enter Tryz.func84, Tryz.ntmps84
  go_wp2
  go_ret
  refine ⟨?_, rfl⟩
  unfold thingG
  have h3 : decide (k ≤ 5) = decide (k < 6) := by by_cases h : k < 6 <;> simp [h] <;> omega
  simp [h1, h2, h3]
theorem kn_brings (d : Int) (w : World) : Calls Tryz.prog 81 #[.int .i64 d] w fun e w' => e = .returned (.bool (bringsG d)) ∧ w = w' := by
 rcases of_cases d with h | h
 · rcases h with rfl | rfl | rfl | rfl | rfl | rfl | rfl <;> (go_enter Tryz.func81, Tryz.ntmps81; go_wp2; go_ret; exact ⟨rfl, rfl⟩)
 · obtain ⟨h1, h2, h3, h4, h5, h6, h7⟩ := h
   go_enter Tryz.func81, Tryz.ntmps81
   go_wp2
   go_ret
   refine ⟨?_, rfl⟩
   unfold bringsG
   simp [h2, h4, h5, h7]
set_option maxRecDepth 100000 in
theorem kn_Word (k : Int) (w : World) : Calls Tryz.prog 74 #[.int .i64 k] w fun e w' => e = .returned (.string (wordG k)) ∧ Below w.heap.size w w' := by
 by_cases h : 1 ≤ k ∧ k ≤ 6
 · obtain ⟨n, rfl⟩ : ∃ n : Nat, k = (n : Int) := ⟨k.toNat, by omega⟩
   have hn : n < 7 := by omega
   have e0 : wordG (n : Int) = wordL.getD n ⟨#[]⟩ := by unfold wordG; rw [if_pos h]; rfl
   rw [e0]
   have hi := fun W => idxW n hn W
   generalize wordL.getD n ⟨#[]⟩ = x at hi ⊢
   have h1 : ¬ (n : Int) < 1 := by omega
   have h2 : ¬ (6 : Int) < (n : Int) := by omega
   have h3 : 1 ≤ n := by omega
   have h4 : n ≤ 6 := by omega
   clear e0 h hn
   go_enter Tryz.func74, Tryz.ntmps74
   go_wp2_with fail
   refine (kn_words w).mono ?_
   rintro e w1 ⟨rfl, hb⟩
   have HB := Lib.hid hb
   clear hb
   go_wp2_with fail
   go_ret
   exact ⟨rfl, HB.out⟩
 · have e0 : wordG k = ⟨#[]⟩ := by unfold wordG; rw [if_neg h]
   rw [e0]
   clear e0
   by_cases h1 : k < 1
   · go_enter Tryz.func74, Tryz.ntmps74
     go_wp2_with fail
     go_ret
     exact ⟨rfl, Below.refl _ _⟩
   · have h2 : 6 < k := by omega
     go_enter Tryz.func74, Tryz.ntmps74
     go_wp2_with fail
     go_ret
     exact ⟨rfl, Below.refl _ _⟩
set_option maxRecDepth 100000 in
theorem kn_DoWord (k : Int) (w : World) : Calls Tryz.prog 75 #[.int .i64 k] w fun e w' => e = .returned (.string (doG k)) ∧ Below w.heap.size w w' := by
 by_cases h : 1 ≤ k ∧ k ≤ 7
 · obtain ⟨n, rfl⟩ : ∃ n : Nat, k = (n : Int) := ⟨k.toNat, by omega⟩
   have hn : n < 8 := by omega
   have e0 : doG (n : Int) = doL.getD n ⟨#[]⟩ := by unfold doG; rw [if_pos h]; rfl
   rw [e0]
   have hi := fun W => idxD n hn W
   generalize doL.getD n ⟨#[]⟩ = x at hi ⊢
   have h1 : ¬ (n : Int) < 1 := by omega
   have h2 : ¬ (7 : Int) < (n : Int) := by omega
   have h3 : 1 ≤ n := by omega
   have h4 : n ≤ 7 := by omega
   clear e0 h hn
   go_enter Tryz.func75, Tryz.ntmps75
   go_wp2_with fail
   refine (kn_does w).mono ?_
   rintro e w1 ⟨rfl, hb⟩
   have HB := Lib.hid hb
   clear hb
   go_wp2_with fail
   go_ret
   exact ⟨rfl, HB.out⟩
 · have e0 : doG k = ⟨#[]⟩ := by unfold doG; rw [if_neg h]
   rw [e0]
   clear e0
   by_cases h1 : k < 1
   · go_enter Tryz.func75, Tryz.ntmps75
     go_wp2_with fail
     go_ret
     exact ⟨rfl, Below.refl _ _⟩
   · have h2 : 7 < k := by omega
     go_enter Tryz.func75, Tryz.ntmps75
     go_wp2_with fail
     go_ret
     exact ⟨rfl, Below.refl _ _⟩
set_option maxRecDepth 100000 in
theorem kn_Empty (k : Int) (w : World) : Calls Tryz.prog 71 #[.int .i64 k] w fun e w' => e = .returned (.tuple #[.agg #[.int .i64 (if thingG k = true then k else 0), .int .i64 0, .slice none 0 0], .int .i64 (if thingG k = true then 0 else 2)]) ∧ Below w.heap.size w w' := by
 have C := Lib.hid (fun W => kn_thing k W)
 generalize thingG k = b at C ⊢
 cases b
 all_goals
  go_enter Tryz.func71, Tryz.ntmps71
  go_wp2_with fail
  refine (C.out _).mono ?_
  rintro e w1 ⟨rfl, rfl⟩
 · go_wp2_with fail
   have q0 := cell_of_row _ _ 0 _ _ _ (heap_alloc_new w (.cells #[.int .i64 0, .int .i64 0, .slice none 0 0] 79))
   have q1 := cell_of_row _ _ 1 _ _ _ (heap_alloc_new w (.cells #[.int .i64 0, .int .i64 0, .slice none 0 0] 79))
   have q2 := cell_of_row _ _ 2 _ _ _ (heap_alloc_new w (.cells #[.int .i64 0, .int .i64 0, .slice none 0 0] 79))
   refine bodyPost_ret ?_ rfl ⟨rfl, below_new _ _⟩
   simp [results, Tryz.results71, go_sem, q0, q1, q2]
 · go_wp2_with fail
   have q0 := cell_of_row _ _ 0 _ _ _ (heap_alloc_new w (.cells #[.int .i64 k, .int .i64 0, .slice none 0 0] 79))
   have q1 := cell_of_row _ _ 1 _ _ _ (heap_alloc_new w (.cells #[.int .i64 k, .int .i64 0, .slice none 0 0] 79))
   have q2 := cell_of_row _ _ 2 _ _ _ (heap_alloc_new w (.cells #[.int .i64 k, .int .i64 0, .slice none 0 0] 79))
   refine bodyPost_ret ?_ rfl ⟨rfl, below_new _ _⟩
   simp [results, Tryz.results71, go_sem, q0, q1, q2]
end Go.Proofs.YtjlliohjeiclaaaGreatDoor
namespace Go.Proofs.YtjlliohjeiclaaaGreatDoor
open Go.RowKit Go.Shelf Go.Proofs
def lay196_ren : Go.Shelf.Ren := ⟨fun | 196 => 155 | 259 => 187 | n => n, fun | 0 => 0 | 3 => 3 | 4 => 4 | 5 => 5 | 9 => 9 | 12 => 12 | 46 => 186 | 53 => 224 | 119 => 240 | 138 => 242 | 139 => 243 | n => n, fun | 3 => 0 | 4 => 1 | n => n⟩
theorem lay196 : Go.Proofs.Lays.n196 Tryz.prog lay196_ren := {
 mixed := by kernel_rfl
 f196 := Tryz.func155.trans (congrArg some (by kernel_rfl))
 f259 := Tryz.func187.trans (congrArg some (by kernel_rfl))
 t0 := Tryz.underlying0
 a0 := Tryz.isAgg0
 z0 := Tryz.sizeOf0
 v0 := Tryz.zeroValue0
 t3 := Tryz.underlying3
 a3 := Tryz.isAgg3
 z3 := Tryz.sizeOf3
 v3 := Tryz.zeroValue3
 t4 := Tryz.underlying4
 a4 := Tryz.isAgg4
 z4 := Tryz.sizeOf4
 v4 := Tryz.zeroValue4
 t5 := Tryz.underlying5
 a5 := Tryz.isAgg5
 z5 := Tryz.sizeOf5
 v5 := Tryz.zeroValue5
 t9 := Tryz.underlying9
 a9 := Tryz.isAgg9
 z9 := Tryz.sizeOf9
 v9 := Tryz.zeroValue9
 t12 := Tryz.underlying12
 a12 := Tryz.isAgg12
 z12 := Tryz.sizeOf12
 v12 := Tryz.zeroValue12
 t46 := Tryz.underlying186
 a46 := Tryz.isAgg186
 z46 := Tryz.sizeOf186
 v46 := Tryz.zeroValue186
 t53 := Tryz.underlying224
 a53 := Tryz.isAgg224
 z53 := Tryz.sizeOf224
 v53 := Tryz.zeroValue224
 t119 := Tryz.underlying240
 a119 := Tryz.isAgg240
 z119 := Tryz.sizeOf240
 t138 := Tryz.underlying242
 a138 := Tryz.isAgg242
 z138 := Tryz.sizeOf242
 v138 := Tryz.zeroValue242
 t139 := Tryz.underlying243
 a139 := Tryz.isAgg243
 z139 := Tryz.sizeOf243
 v139 := Tryz.zeroValue243
 g3 := by kernel_rfl
 g4 := by kernel_rfl
}
def lay106_ren : Go.Shelf.Ren := ⟨fun | 106 => 206 | 213 => 219 | 265 => 226 | n => n, fun | 3 => 3 | 9 => 9 | n => n, fun n => n⟩
theorem lay106 : Go.Proofs.Lays.n106 Tryz.prog lay106_ren := {
 mixed := by kernel_rfl
 f106 := Tryz.func206.trans (congrArg some (by kernel_rfl))
 f213 := Tryz.func219.trans (congrArg some (by kernel_rfl))
 f265 := Tryz.func226.trans (congrArg some (by kernel_rfl))
 t3 := Tryz.underlying3
 a3 := Tryz.isAgg3
 z3 := Tryz.sizeOf3
 v3 := Tryz.zeroValue3
 t9 := Tryz.underlying9
 a9 := Tryz.isAgg9
 z9 := Tryz.sizeOf9
 v9 := Tryz.zeroValue9
}
theorem ks_Compare (a b : ByteArray) (w : World) :
 Calls Tryz.prog 206 #[.string a, .string b] w fun e w' => e = .returned (.int .i64 (Lib.compareBytes a.data.toList b.data.toList)) ∧ w' = w :=
 Any.strings_Compare lay106 a b w
def Glob (w : World) : Prop := Lib.Utf8Tabs 0 1 w ∧ ∃ m, w.cell? ⟨2, 0, none⟩ = some (.int .i64 m)
theorem ks_Valid (s : ByteArray) (w : World) (hs : s.size ≤ 9223372036854775807) (hT : Glob w) :
 Calls Tryz.prog 155 #[.string s] w fun e w' => e = .returned (.bool (Lib.validD s.data.toList)) ∧ Below w.heap.size w w' :=
 Any.utf8_ValidString lay196 s w hs hT.1
theorem Glob.below {w w' : World} (h : Glob w) (hb : Below w.heap.size w w') : Glob w' := by
 have hc : ∀ p v, w.cell? p = some v → w'.cell? p = some v := fun p v hv => (hb.cell (cell_lt hv)).trans hv
 obtain ⟨⟨h1, h2⟩, m, h3⟩ := h
 exact ⟨⟨fun c hc' => hc _ _ (h1 c hc'), fun i hi => ⟨hc _ _ (h2 i hi).1, hc _ _ (h2 i hi).2⟩⟩, m, hc _ _ h3⟩
end Go.Proofs.YtjlliohjeiclaaaGreatDoor
namespace Go.Proofs.YtjlliohjeiclaaaGreatDoor
namespace Ku
open Go.Lib
def goodB (b : UInt8) : Bool := decide (32 ≤ b.toNat) && decide (b.toNat ≠ 47)
theorem dec_step (s : ByteArray) (pos : Nat) (h : pos < s.size) :
 ((s.get! pos).toNat < 128 ∧ Utf8.decode s pos = ((s.get! pos).toNat, 1)) ∨
 (128 ≤ (s.get! pos).toNat ∧ 128 ≤ (Utf8.decode s pos).1 ∧ 1 ≤ (Utf8.decode s pos).2 ∧ pos + (Utf8.decode s pos).2 ≤ s.size ∧ ∀ q, pos ≤ q → q < pos + (Utf8.decode s pos).2 → 128 ≤ (s.get! q).toNat) := by
 by_cases ha : (s.get! pos).toNat < 128
 · left
   refine ⟨ha, ?_⟩
   simp only [Utf8.decode, Nat.add_zero]
   rw [if_pos ha]
 · right
   have h0 : 128 ≤ (s.get! pos).toNat := by omega
   refine ⟨h0, ?_⟩
   have key : ∀ n, n ≤ 4 → pos + n ≤ s.size → (∀ k, 1 ≤ k → k < n → (s.get! (pos + k)).toNat / 64 = 2) → ∀ q, pos ≤ q → q < pos + n → 128 ≤ (s.get! q).toNat := by
    intro n _ _ hc q h1 h2
    by_cases hq : q = pos
    · rw [hq]; exact h0
    · have := hc (q - pos) (by omega) (by omega)
      rw [show pos + (q - pos) = q by omega] at this
      omega
   simp only [Utf8.decode, Nat.add_zero]
   rw [if_neg ha]
   have one : pos + 1 ≤ s.size ∧ ∀ q, pos ≤ q → q < pos + 1 → 128 ≤ (s.get! q).toNat := ⟨h, fun q h1 h2 => by rw [show q = pos by omega]; exact h0⟩
   split
   · rename_i hc
     simp only [Bool.and_eq_true, beq_iff_eq, decide_eq_true_eq] at hc
     split
     · rename_i h80
       exact ⟨h80, by omega, by omega, key 2 (by omega) (by omega) fun k k1 k2 => by rw [show k = 1 by omega]; exact hc.2.2⟩
     · exact ⟨by decide, by decide, one.1, one.2⟩
   · split
     · rename_i hc
       simp only [Bool.and_eq_true, beq_iff_eq, decide_eq_true_eq] at hc
       split
       · rename_i h80
         simp only [Bool.and_eq_true, decide_eq_true_eq] at h80
         refine ⟨by show 128 ≤ _; have := h80.1; simp only [] at *; omega, by simp, by show pos + 3 ≤ _; omega, key 3 (by omega) (by omega) fun k k1 k2 => ?_⟩
         rcases (by omega : k = 1 ∨ k = 2) with rfl | rfl
         · exact hc.1.2.2
         · exact hc.2.2
       · exact ⟨by decide, by decide, one.1, one.2⟩
     · split
       · rename_i hc
         simp only [Bool.and_eq_true, beq_iff_eq, decide_eq_true_eq] at hc
         split
         · rename_i h80
           simp only [Bool.and_eq_true, decide_eq_true_eq] at h80
           refine ⟨by show 128 ≤ _; have := h80.1; simp only [] at *; omega, by simp, by show pos + 4 ≤ _; omega, key 4 (by omega) (by omega) fun k k1 k2 => ?_⟩
           rcases (by omega : k = 1 ∨ k = 2 ∨ k = 3) with rfl | rfl | rfl
           · exact hc.1.1.2.2
           · exact hc.1.2.2
           · exact hc.2.2
         · exact ⟨by decide, by decide, one.1, one.2⟩
       · exact ⟨by decide, by decide, one.1, one.2⟩
def allG (s : ByteArray) : Bool := s.data.toList.all goodB
theorem get_list (s : ByteArray) (i : Nat) (h : i < s.size) : s.get! i = s.data.toList[i]'(by simpa using h) := by
 simp [ByteArray.get!, getElem!_pos, h]
theorem allG_iff {s : ByteArray} : allG s = true ↔ ∀ i, i < s.size → goodB (s.get! i) = true := by
 unfold allG
 rw [List.all_eq_true]
 constructor
 · intro h i hi
   rw [get_list s i hi]
   exact h _ (List.getElem_mem _)
 · intro h b hb
   obtain ⟨i, hi, rfl⟩ := List.getElem_of_mem hb
   have := h i (by simpa using hi)
   rw [get_list s i (by simpa using hi)] at this
   exact this
theorem allG_not {s : ByteArray} {i : Nat} (hi : i < s.size) (h : goodB (s.get! i) = false) : allG s = false := by
 cases ha : allG s with
 | false => rfl
 | true => rw [allG_iff.1 ha i hi] at h; cases h
theorem good_high {b : UInt8} (h : 128 ≤ b.toNat) : goodB b = true := by
 unfold goodB
 rw [decide_eq_true (by omega), decide_eq_true (by omega)]
 rfl
def keyG (s : ByteArray) : Bool := decide (1 ≤ s.size) && (decide (s.size ≤ 64) && (validD s.data.toList && allG s))
end Ku
end Go.Proofs.YtjlliohjeiclaaaGreatDoor
namespace Go.Proofs.YtjlliohjeiclaaaGreatDoor
open Go.RowKit
section
variable {P : Program} {md : Region.Mode} {ops : Array Oper} {Q : Exit → Act → World → Prop} {S : World → Prop} {T : List Nat}
def doneB (ops : Array Oper) (T : List Nat) (listed : Array Bool) : Bool := (List.range ops.size).all fun k => T.contains k || listed.getD k false
def lastB (md : Region.Mode) (ops : Array Oper) (T : List Nat) : Bool := T.all fun j => match ops[j]? with
 | none => true
 | some o => (List.range ops.size).all fun k => T.contains k || o.after.any fun e => Region.binds md e && e.on == k
def anyT (P : Program) (md : Region.Mode) (ops : Array Oper) (Q : Exit → Act → World → Prop) (T : List Nat) (S : World → Prop) : Nat → Array Bool → Act → World → Prop
 | 0, listed, a, w => wpAny P md ops Q 0 listed a w
 | fuel + 1, listed, a, w => if doneB ops T listed = true then wpAny P md ops Q (fuel + 1) listed a w
  else (Region.ready md ops listed = [] → Q .normal a w) ∧ ∀ i ∈ Region.ready md ops listed, wpOp P ops Q i (fun a' w' => S w' ∧ anyT P md ops Q T S fuel (listed.setIfInBounds i true) a' w') a w
theorem anyT_plain : ∀ (fuel : Nat) (listed : Array Bool) (a : Act) (w : World), anyT P md ops Q T S fuel listed a w → wpAny P md ops Q fuel listed a w
 | 0, _, _, _, h => h
 | fuel + 1, listed, a, w, h => by
  unfold anyT at h
  split at h
  · exact h
  · exact ⟨h.1, fun i hi => wpOp_mono (fun a' w' h' => anyT_plain fuel _ a' w' h'.2) (h.2 i hi)⟩
theorem region_tail {id : Nat} {a : Act} {w : World} (T : List Nat) (hm : P.follows .mixedOrders = true) (hS : S w.drew)
 (h : S w.drew → anyT P .any ops Q T S ops.size (Array.replicate ops.size false) a w.drew) : (Code.region id ops true).wp P Q a w :=
 wp_region_any hm (anyT_plain _ _ _ _ (h hS))
theorem doneB_get {listed : Array Bool} (h : doneB ops T listed = true) {k : Nat} (hk : k < ops.size) (hT : T.contains k = false) : listed.getD k false = true := by
 have := List.all_eq_true.1 h k (List.mem_range.2 hk)
 simpa only [hT, Bool.false_or] using this
theorem anyT_take {i : Nat} {oi : Oper} {v : Value} (hi : ops[i]? = some oi) (hs : Region.noSelect ops = true) (hL : lastB md ops T = true) (hT : T.contains i = false)
 (hQ : ∀ c a w, Q (.panic c) (a.put oi.dst v) w → Q (.panic c) a w) :
 ∀ {fuel : Nat} {listed : Array Bool} {a : Act} {w : World}, Region.free md ops listed i = true → (Region.ready md ops listed).contains i = true → YieldsIf P ops S oi v a → S w →
  anyT P md ops Q T S fuel (listed.setIfInBounds i true) (a.put oi.dst v) w → anyT P md ops Q T S (fuel + 1) listed a w := by
 have hsel := Region.noSelect_spec hs
 have hib : i < ops.size := (Array.getElem?_eq_some_iff.1 hi).1
 have main : ∀ (fuel : Nat) (listed : Array Bool) (a : Act) (w : World), (∀ j oj, ops[j]? = some oj → j ≠ i → listed.getD j true = false → (∀ e ∈ oj.after, Region.binds md e = true → e.on ≠ i) → oi.apart ops oj = true) →
  i ∈ Region.ready md ops listed → YieldsIf P ops S oi v a → S w → anyT P md ops Q T S fuel (listed.setIfInBounds i true) (a.put oi.dst v) w → anyT P md ops Q T S (fuel + 1) listed a w := by
  intro fuel
  induction fuel with
  | zero =>
   intro listed a w _ hr hy hS H
   have hun := (mem_ready.1 hr).1
   have hund : ¬ doneB ops T listed = true := fun h => by
    have h1 := doneB_get h hib hT
    rcases Nat.lt_or_ge i listed.size with hlt | hge
    · simp [hlt] at hun h1; rw [hun] at h1; cases h1
    · simp [Array.getElem?_eq_none hge] at h1
   unfold anyT
   rw [if_neg hund]
   refine ⟨fun h => absurd hr (by rw [h]; exact List.not_mem_nil), fun j hj => ?_⟩
   by_cases e : j = i
   · subst e; exact YieldsIf.wpOp hi hy hS ⟨hS, H⟩
   · have := ready_mono hj e
     rw [H.1] at this
     exact absurd this List.not_mem_nil
  | succ fuel ih =>
   intro listed a w hf hr hy hS H
   have hun0 := (mem_ready.1 hr).1
   have hili : i < listed.size := by
    rcases Nat.lt_or_ge i listed.size with h | h
    · exact h
    · simp [Array.getElem?_eq_none h] at hun0
   have hund : ¬ doneB ops T listed = true := fun h => by
    have h1 := doneB_get h hib hT
    simp [hili] at hun0 h1; rw [hun0] at h1; cases h1
   rw [show anyT P md ops Q T S (fuel + 1 + 1) listed a w = (if doneB ops T listed = true then wpAny P md ops Q (fuel + 1 + 1) listed a w
    else (Region.ready md ops listed = [] → Q .normal a w) ∧ ∀ i ∈ Region.ready md ops listed, wpOp P ops Q i (fun a' w' => S w' ∧ anyT P md ops Q T S (fuel + 1) (listed.setIfInBounds i true) a' w') a w) from rfl, if_neg hund]
   refine ⟨fun h => absurd hr (by rw [h]; exact List.not_mem_nil), fun j hj => ?_⟩
   by_cases e : j = i
   · subst e; exact YieldsIf.wpOp hi hy hS ⟨hS, H⟩
   · obtain ⟨hun, oj, hoj, hall⟩ := mem_ready.1 hj
     have hjb : j < ops.size := (Array.getElem?_eq_some_iff.1 hoj).1
     have hno : ∀ e ∈ oj.after, Region.binds md e = true → e.on ≠ i := by
      intro e he hb hei
      have h1 := hall e he hb
      rw [hei] at h1
      simp [hili] at hun0 h1; rw [hun0] at h1; cases h1
     -- the last ones wait for i: j is none of them
     have hjT : T.contains j = false := by
      cases hc : T.contains j with
      | false => rfl
      | true =>
       exfalso
       have h1 := List.all_eq_true.1 hL j (by simpa using hc)
       simp only [hoj] at h1
       have h2 := List.all_eq_true.1 h1 i (List.mem_range.2 hib)
       simp only [hT, Bool.false_or, Array.any_eq_true, Bool.and_eq_true, beq_iff_eq] at h2
       obtain ⟨q, hq, hb, he⟩ := h2
       exact hno _ (Array.getElem_mem hq) hb he
     have hundi : ¬ doneB ops T (listed.setIfInBounds i true) = true := fun h => by
      have h1 := doneB_get h hjb hjT
      rw [getD_set_ne false (Ne.symm e)] at h1
      rcases Nat.lt_or_ge j listed.size with hlt | hge
      · simp [hlt] at hun h1; rw [hun] at h1; cases h1
      · simp [Array.getElem?_eq_none hge] at h1
     unfold anyT at H
     rw [if_neg hundi] at H
     have hstep := wpOp_putIf hoj (hf j oj hoj e hun hno) (fun cs b => hsel i oi cs b hi) (fun cs b => hsel j oj cs b hoj) hQ hy (H.2 j (ready_mono hj e))
     refine wpOp_mono (fun a' w' h3 => ⟨h3.2.1, ih (listed.setIfInBounds j true) a' w' ?_ (ready_mono hr (Ne.symm e)) h3.1 h3.2.1 ?_⟩) hstep
     · intro k ok hk hki hunk hnok
       refine hf k ok hk hki ?_ hnok
       by_cases hjk : j = k
       · subst hjk; exact hun
       · rw [getD_set_ne true hjk] at hunk; exact hunk
     · rw [Array.setIfInBounds_comm _ _ e]
       exact h3.2.2
 intro fuel listed a w hf hr
 exact main fuel listed a w (Region.free_spec hi hf) (by simpa using hr)
def AllReadyT (P : Program) (md : Region.Mode) (ops : Array Oper) (Q : Exit → Act → World → Prop) (T : List Nat) (S : World → Prop) (fuel : Nat) (listed : Array Bool) (a : Act) (w : World) (rs : List Nat) : Prop :=
 ∀ i ∈ rs, wpOp P ops Q i (fun a' w' => S w' ∧ anyT P md ops Q T S fuel (listed.setIfInBounds i true) a' w') a w
theorem AllReadyT.nil {fuel : Nat} {listed : Array Bool} {a : Act} {w : World} : AllReadyT P md ops Q T S fuel listed a w [] := fun _ h => by cases h
theorem AllReadyT.cons {fuel : Nat} {listed : Array Bool} {a : Act} {w : World} {i : Nat} {o : Oper} {rs : List Nat} (ho : ops[i]? = some o) (hw : Region.wanted o (yielded ops a.tmps) = true)
 (h : ∀ K' : Act → World → Prop, Shut (∀ a w, S w → (S w → anyT P md ops Q T S fuel (listed.setIfInBounds i true) a w) → K' a w) → Oper.wp P o a w K' Q)
 (hs : AllReadyT P md ops Q T S fuel listed a w rs) : AllReadyT P md ops Q T S fuel listed a w (i :: rs) := fun j hj => by
 rcases List.mem_cons.1 hj with rfl | hj
 · unfold wpOp
   simp only [ho]
   rw [if_pos hw]
   exact .inl (h _ (fun a w hS hW => ⟨hS, hW hS⟩))
 · exact hs j hj
theorem anyT_ready {rs : List Nat} {fuel : Nat} {listed : Array Bool} {a : Act} {w : World} (hd : doneB ops T listed = false) (hr : Region.ready md ops listed = rs) (hne : rs ≠ [])
 (h : AllReadyT P md ops Q T S fuel listed a w rs) : anyT P md ops Q T S (fuel + 1) listed a w := by
 unfold anyT
 rw [if_neg (by rw [hd]; exact Bool.false_ne_true)]
 exact ⟨fun h0 => absurd (hr ▸ h0) hne, hr ▸ h⟩
theorem anyT_tail {fuel : Nat} {listed : Array Bool} {a : Act} {w : World} (hd : doneB ops T listed = true) (h : wpAny P md ops Q (fuel + 1) listed a w) : anyT P md ops Q T S (fuel + 1) listed a w := by
 unfold anyT
 rw [if_pos hd]
 exact h
theorem any_one {i : Nat} {o : Oper} {fuel : Nat} {listed : Array Bool} {a : Act} {w : World} (hr : Region.ready md ops listed = [i]) (ho : ops[i]? = some o) (hw : Region.wanted o (yielded ops a.tmps) = true)
 (h : ∀ K : Act → World → Prop, Shut (∀ a w, wpAny P md ops Q fuel (listed.setIfInBounds i true) a w → K a w) → Oper.wp P o a w K Q) : wpAny P md ops Q (fuel + 1) listed a w := by
 refine ⟨fun h0 => (by rw [hr] at h0; cases h0), fun j hj => ?_⟩
 rw [hr] at hj
 obtain rfl := List.mem_singleton.1 hj
 unfold wpOp
 simp only [ho]
 rw [if_pos hw]
 exact .inl (h _ (fun a w hW => hW))
end
end Go.Proofs.YtjlliohjeiclaaaGreatDoor
namespace Go.Proofs.YtjlliohjeiclaaaGreatDoor
open Go.RowKit Ku
set_option maxRecDepth 100000 in
theorem key_Key (s : ByteArray) (w : World) (hs : s.size ≤ 9223372036854775807) (hG : Glob w) :
 Calls Tryz.prog 120 #[.string s] w fun e w' => e = .returned (.bool (keyG s)) ∧ Below w.heap.size w w' := by
 have G := Lib.hid hG
 have HS := Lib.hid hs
 clear hG hs
 obtain ⟨res, hres⟩ : ∃ r, keyG s = r := ⟨_, rfl⟩
 have R := Lib.hid hres
 rw [hres]
 clear hres
 go_enter Tryz.func120, Tryz.ntmps120
 by_cases h1 : s.size < 1
 · have h1i : (s.size : Int) < 1 := by omega
   obtain rfl : false = res := by rw [← R.out]; unfold keyG; rw [decide_eq_false (by omega)]; rfl
   go_wp2_with fail
   go_ret
   exact ⟨rfl, Below.refl _ _⟩
 have h1i : ¬ (s.size : Int) < 1 := by omega
 by_cases h2 : 64 < s.size
 · have h2i : (64 : Int) < (s.size : Int) := by omega
   obtain rfl : false = res := by rw [← R.out]; unfold keyG; rw [decide_eq_false (p := s.size ≤ 64) (by omega)]; simp
   go_wp2_with fail
   go_ret
   exact ⟨rfl, Below.refl _ _⟩
 have h2i : ¬ (64 : Int) < (s.size : Int) := by omega
 go_wp2_with fail
 refine (ks_Valid s w HS.out G.out).mono ?_
 rintro e w1 ⟨rfl, hb⟩
 have HB := Lib.hid hb
 clear hb
 obtain ⟨va, hva⟩ : ∃ r, Lib.validD s.data.toList = r := ⟨_, rfl⟩
 rw [hva]
 have VA := Lib.hid hva
 clear hva
 cases va
 case false =>
  obtain rfl : false = res := by rw [← R.out]; unfold keyG; rw [VA.out]; simp
  go_wp2_with fail
  go_ret
  exact ⟨rfl, HB.out⟩
 have R2 : Hid (allG s = res) := Lib.hid (by rw [← R.out]; unfold keyG; rw [VA.out, decide_eq_true (by omega), decide_eq_true (by omega)]; rfl)
 clear R
 go_wp2_with fail
 go_loopw [] (fun w' => ∃ pos : Nat, pos ≤ s.size ∧ w' = w1.iter s pos ∧ Hid (∀ i, i < pos → goodB (s.get! i) = true)) (fun w' => s.size - w'.iterPos w1.heap.size)
 case atStart => exact ⟨0, Nat.zero_le _, rfl, Lib.hid (fun i hi => by omega)⟩
 case round =>
  obtain ⟨pos, hps, rfl, HA⟩ := hrel
  by_cases hp : pos < s.size
  · have hnx : ∀ ty, (Instr.next (.pointer (some ⟨w1.heap.size, 0, none⟩)) true ty).run Tryz.prog (w1.iter s pos) = _ := fun ty => run_next_any w1 s pos ty hp
    have D := Lib.hid (dec_step s pos hp)
    obtain ⟨c, n, hcn⟩ : ∃ c n, Utf8.decode s pos = (c, n) := ⟨_, _, rfl⟩
    rw [hcn] at D
    simp only [hcn] at hnx
    clear hcn
    have HP := Lib.hid hp
    rcases D.out with ⟨a1, a2⟩ | ⟨a1, a2, a3, a4, a5⟩
    · obtain ⟨rfl, rfl⟩ : c = (s.get! pos).toNat ∧ n = 1 := by cases a2; exact ⟨rfl, rfl⟩
      clear a2 D
      obtain ⟨c, hc⟩ : ∃ c, (s.get! pos).toNat = c := ⟨_, rfl⟩
      rw [hc] at a1
      simp only [hc] at hnx
      have HC := Lib.hid hc
      clear hc
      by_cases k1 : c < 32
      · have k1i : (c : Int) < 32 := by omega
        obtain rfl : false = res := by rw [← R2.out]; exact (allG_not HP.out (by unfold goodB; rw [HC.out, decide_eq_false (p := 32 ≤ c) (by omega)]; rfl)).symm
        go_wp2_with fail
        go_ret
        exact ⟨rfl, HB.out.trans ((below_new w1 _).mono HB.out.size)⟩
      · by_cases k2 : c = 47
        · subst k2
          obtain rfl : false = res := by rw [← R2.out]; exact (allG_not HP.out (by unfold goodB; rw [HC.out]; decide)).symm
          go_wp2_with fail
          go_ret
          exact ⟨rfl, HB.out.trans ((below_new w1 _).mono HB.out.size)⟩
        · have NX : Hid (∀ i, i < pos + 1 → goodB (s.get! i) = true) := Lib.hid (fun i hi => by
           by_cases h : i < pos
           · exact HA.out i h
           · rw [show i = pos by omega]; unfold goodB; rw [HC.out, decide_eq_true (by omega), decide_eq_true k2]; rfl)
          have hc1 : ¬ (c : Int) < 32 := by omega
          have hc2 : ((c : Int) == 47) = false := beq_eq_false_iff_ne.2 (by omega)
          have hc3 : ¬ (c : Int) = 47 := by omega
          go_wp2_with fail
          go_roundw
          case rel => exact ⟨pos + 1, by omega, rfl, NX⟩
          case measure => simp; omega
    · have NX : Hid (∀ i, i < pos + n → goodB (s.get! i) = true) := Lib.hid (fun i hi => by
       by_cases h : i < pos
       · exact HA.out i h
       · exact good_high (a5 i (by omega) hi))
      clear D a5
      have hc1 : ¬ (c : Int) < 32 := by omega
      have hc2 : ((c : Int) == 47) = false := beq_eq_false_iff_ne.2 (by omega)
      have hc3 : ¬ (c : Int) = 47 := by omega
      go_wp2_with fail
      go_roundw
      case rel => exact ⟨pos + n, by omega, rfl, NX⟩
      case measure => simp; omega
  · obtain rfl : pos = s.size := by omega
    have hnx : ∀ ty, (Instr.next (.pointer (some ⟨w1.heap.size, 0, none⟩)) true ty).run Tryz.prog (w1.iter s s.size) = _ := fun ty => run_next_end w1 s s.size ty hp
    obtain rfl : true = res := by rw [← R2.out]; exact (allG_iff.2 HA.out).symm
    go_wp2_with fail
    go_ret
    exact ⟨rfl, HB.out.trans ((below_new w1 _).mono HB.out.size)⟩
end Go.Proofs.YtjlliohjeiclaaaGreatDoor
namespace Go.Proofs.YtjlliohjeiclaaaGreatDoor
namespace Ku
open Go.Lib
theorem validGo_fuel : ∀ (n m : Nat) (l : List UInt8), l.length ≤ n → l.length ≤ m → validGoD n l = validGoD m l
 | 0, m, l, h, _ => by
  obtain rfl : l = [] := List.eq_nil_of_length_eq_zero (by omega)
  cases m <;> simp [validGoD]
 | n + 1, 0, l, _, h => by
  obtain rfl : l = [] := List.eq_nil_of_length_eq_zero (by omega)
  simp [validGoD]
 | n + 1, m + 1, l, h1, h2 => by
  unfold validGoD
  by_cases hl : l = []
  · rw [if_pos hl, if_pos hl]
  · rw [if_neg hl, if_neg hl]
    split
    · rfl
    · have hw := decodeL_width l
      have hp : 0 < l.length := List.length_pos_iff.2 hl
      exact validGo_fuel n m _ (by rw [List.length_drop]; omega) (by rw [List.length_drop]; omega)
theorem valid_step (s : ByteArray) (pos : Nat) (h : pos < s.size) :
 validD (s.data.toList.drop pos) = if Utf8.decode s pos = (65533, 1) then false else validD (s.data.toList.drop (pos + (Utf8.decode s pos).2)) := by
 have hlen : (s.data.toList.drop pos).length = s.size - pos := by simp
 obtain ⟨k, hk⟩ : ∃ k, s.size - pos = k + 1 := ⟨s.size - pos - 1, by omega⟩
 have hne : s.data.toList.drop pos ≠ [] := by intro e; rw [e] at hlen; simp at hlen; omega
 have hd := decodeL_drop s pos
 have hw := decodeL_width (s.data.toList.drop pos)
 unfold validD
 rw [hlen, hk]
 rw [validGoD, if_neg hne, hd]
 by_cases he : Utf8.decode s pos = (65533, 1)
 · rw [if_pos he, if_pos (by rw [he]; exact ⟨rfl, rfl⟩)]
 · rw [if_neg he, if_neg (fun ⟨h1, h2⟩ => he (Prod.ext h1 h2)), List.drop_drop]
   rw [hd] at hw
   exact validGo_fuel _ _ _ (by rw [List.length_drop]; simp; omega) (by simp)
theorem valid_all (s : ByteArray) : validD (s.data.toList.drop 0) = validD s.data.toList := by rw [List.drop_zero]
theorem valid_end (s : ByteArray) : validD (s.data.toList.drop s.size) = true := by
 rw [List.drop_of_length_le (by simp)]
 rfl
def accN (s : ByteArray) (pos c0 : Nat) : Nat → Nat
 | 0 => c0
 | k + 1 => 64 * accN s pos c0 k + (s.get! (pos + (k + 1))).toNat - 128
def Cls (b n c0 least : Nat) : Prop := (192 ≤ b ∧ b < 224 ∧ n = 2 ∧ c0 = b - 192 ∧ least = 128) ∨ (224 ≤ b ∧ b < 240 ∧ n = 3 ∧ c0 = b - 224 ∧ least = 2048) ∨ (240 ≤ b ∧ b < 248 ∧ n = 4 ∧ c0 = b - 240 ∧ least = 65536)
def Cont (s : ByteArray) (pos j : Nat) : Prop := 128 ≤ (s.get! (pos + j)).toNat ∧ (s.get! (pos + j)).toNat < 192
structure Dec (s : ByteArray) (pos n c0 least : Nat) : Prop where
 len : pos + n ≤ s.size
 cont : ∀ j, 1 ≤ j → j < n → Cont s pos j
 lo : least ≤ accN s pos c0 (n - 1)
 hi : accN s pos c0 (n - 1) ≤ 1114111
 su : ¬ (55296 ≤ accN s pos c0 (n - 1) ∧ accN s pos c0 (n - 1) ≤ 57343)
theorem u8_lt (s : ByteArray) (i : Nat) : (s.get! i).toNat < 256 := (s.get! i).toNat_lt
theorem dn2 {r b0 b1 b2 b3 : Nat} (h1 : 192 ≤ b0) (h2 : b0 < 224) (u1 : b1 < 256) :
 (2 ≤ r ∧ (128 ≤ b1 ∧ b1 < 192) ∧ 128 ≤ 64 * (b0 - 192) + b1 - 128 → decodeN r b0 b1 b2 b3 = (64 * (b0 - 192) + b1 - 128, 2)) ∧
 (¬ (2 ≤ r ∧ (128 ≤ b1 ∧ b1 < 192) ∧ 128 ≤ 64 * (b0 - 192) + b1 - 128) → decodeN r b0 b1 b2 b3 = (65533, 1)) := by
 constructor
 · rintro ⟨d1, d2, d3⟩
   unfold decodeN
   rw [if_neg (by omega), if_pos (by omega), if_pos (by omega)]
   exact Prod.ext (by show _ = _; omega) rfl
 · intro hn
   unfold decodeN
   rw [if_neg (by omega)]
   by_cases k : b0 / 32 = 6 ∧ (1 < r ∧ b1 / 64 = 2)
   · rw [if_pos k, if_neg (by omega)]
   · rw [if_neg k, if_neg (by omega), if_neg (by omega)]
theorem dn3 {r b0 b1 b2 b3 : Nat} (h1 : 224 ≤ b0) (h2 : b0 < 240) (u1 : b1 < 256) (u2 : b2 < 256) {c : Nat} (hc : c = 64 * (64 * (b0 - 224) + b1 - 128) + b2 - 128) :
 (3 ≤ r ∧ (128 ≤ b1 ∧ b1 < 192) ∧ (128 ≤ b2 ∧ b2 < 192) ∧ 2048 ≤ c ∧ ¬ (55296 ≤ c ∧ c ≤ 57343) → decodeN r b0 b1 b2 b3 = (c, 3)) ∧
 (¬ (3 ≤ r ∧ (128 ≤ b1 ∧ b1 < 192) ∧ (128 ≤ b2 ∧ b2 < 192) ∧ 2048 ≤ c ∧ ¬ (55296 ≤ c ∧ c ≤ 57343)) → decodeN r b0 b1 b2 b3 = (65533, 1)) := by
 constructor
 · rintro ⟨d1, d2, d3, d4, d5⟩
   have e : b0 % 16 * 4096 + b1 % 64 * 64 + b2 % 64 = c := by omega
   unfold decodeN
   rw [if_neg (by omega), if_neg (by omega), if_pos (by omega), e, if_pos (by omega)]
 · intro hn
   unfold decodeN
   rw [if_neg (by omega), if_neg (by omega)]
   by_cases k : b0 / 16 = 14 ∧ (1 < r ∧ b1 / 64 = 2) ∧ (2 < r ∧ b2 / 64 = 2)
   · have e : b0 % 16 * 4096 + b1 % 64 * 64 + b2 % 64 = c := by omega
     rw [if_pos k, e, if_neg (by omega)]
   · rw [if_neg k, if_neg (by omega)]
theorem dn4 {r b0 b1 b2 b3 : Nat} (h1 : 240 ≤ b0) (h2 : b0 < 248) (u1 : b1 < 256) (u2 : b2 < 256) (u3 : b3 < 256) {c : Nat} (hc : c = 64 * (64 * (64 * (b0 - 240) + b1 - 128) + b2 - 128) + b3 - 128) :
 (4 ≤ r ∧ (128 ≤ b1 ∧ b1 < 192) ∧ (128 ≤ b2 ∧ b2 < 192) ∧ (128 ≤ b3 ∧ b3 < 192) ∧ 65536 ≤ c ∧ c ≤ 1114111 → decodeN r b0 b1 b2 b3 = (c, 4)) ∧
 (¬ (4 ≤ r ∧ (128 ≤ b1 ∧ b1 < 192) ∧ (128 ≤ b2 ∧ b2 < 192) ∧ (128 ≤ b3 ∧ b3 < 192) ∧ 65536 ≤ c ∧ c ≤ 1114111) → decodeN r b0 b1 b2 b3 = (65533, 1)) := by
 constructor
 · rintro ⟨d1, d2, d3, d4, d5, d6⟩
   have e : b0 % 8 * 262144 + b1 % 64 * 4096 + b2 % 64 * 64 + b3 % 64 = c := by omega
   unfold decodeN
   rw [if_neg (by omega), if_neg (by omega), if_neg (by omega), if_pos (by omega), e, if_pos (by omega)]
 · intro hn
   unfold decodeN
   rw [if_neg (by omega), if_neg (by omega), if_neg (by omega)]
   by_cases k : b0 / 8 = 30 ∧ (1 < r ∧ b1 / 64 = 2) ∧ (2 < r ∧ b2 / 64 = 2) ∧ (3 < r ∧ b3 / 64 = 2)
   · have e : b0 % 8 * 262144 + b1 % 64 * 4096 + b2 % 64 * 64 + b3 % 64 = c := by omega
     rw [if_pos k, e, if_neg (by omega)]
   · rw [if_neg k]
set_option maxRecDepth 100000 in
theorem dec_multi (s : ByteArray) (pos n c0 least : Nat) (hc : Cls (s.get! pos).toNat n c0 least) :
 (Dec s pos n c0 least → Utf8.decode s pos = (accN s pos c0 (n - 1), n)) ∧ (¬ Dec s pos n c0 least → Utf8.decode s pos = (65533, 1)) := by
 have u1 := u8_lt s (pos + 1); have u2 := u8_lt s (pos + 2); have u3 := u8_lt s (pos + 3)
 rw [decode_at]
 rcases hc with ⟨h1, h2, rfl, rfl, rfl⟩ | ⟨h1, h2, rfl, rfl, rfl⟩ | ⟨h1, h2, rfl, rfl, rfl⟩
 · have d := dn2 (r := s.size - pos) (b2 := (s.get! (pos + 2)).toNat) (b3 := (s.get! (pos + 3)).toNat) h1 h2 u1
   refine ⟨fun ⟨a1, a2, a3, _, _⟩ => d.1 ⟨by omega, a2 1 (by omega) (by omega), a3⟩, fun hn => d.2 fun ⟨a1, a2, a3⟩ => hn ⟨by omega, fun j j1 j2 => ?_, a3, ?_, ?_⟩⟩
   · obtain rfl : j = 1 := by omega
     exact a2
   · show 64 * ((s.get! pos).toNat - 192) + (s.get! (pos + 1)).toNat - 128 ≤ 1114111
     omega
   · show ¬ (55296 ≤ 64 * ((s.get! pos).toNat - 192) + (s.get! (pos + 1)).toNat - 128 ∧ _)
     omega
 · have d := dn3 (r := s.size - pos) (b3 := (s.get! (pos + 3)).toNat) h1 h2 u1 u2 rfl
   refine ⟨fun ⟨a1, a2, a3, _, a5⟩ => d.1 ⟨by omega, a2 1 (by omega) (by omega), a2 2 (by omega) (by omega), a3, a5⟩, fun hn => d.2 fun ⟨a1, a2, a3, a4, a5⟩ => hn ⟨by omega, fun j j1 j2 => ?_, a4, ?_, a5⟩⟩
   · rcases (by omega : j = 1 ∨ j = 2) with rfl | rfl
     · exact a2
     · exact a3
   · show 64 * (64 * ((s.get! pos).toNat - 224) + (s.get! (pos + 1)).toNat - 128) + (s.get! (pos + 2)).toNat - 128 ≤ 1114111
     omega
 · have d := dn4 (r := s.size - pos) h1 h2 u1 u2 u3 rfl
   refine ⟨fun ⟨a1, a2, a3, a4, _⟩ => d.1 ⟨by omega, a2 1 (by omega) (by omega), a2 2 (by omega) (by omega), a2 3 (by omega) (by omega), a3, a4⟩, fun hn => d.2 fun ⟨a1, a2, a3, a4, a5, a6⟩ => hn ⟨by omega, fun j j1 j2 => ?_, a5, a6, ?_⟩⟩
   · rcases (by omega : j = 1 ∨ j = 2 ∨ j = 3) with rfl | rfl | rfl
     · exact a2
     · exact a3
     · exact a4
   · show ¬ (_ ∧ 64 * (64 * (64 * ((s.get! pos).toNat - 240) + (s.get! (pos + 1)).toNat - 128) + (s.get! (pos + 2)).toNat - 128) + (s.get! (pos + 3)).toNat - 128 ≤ 57343)
     omega
theorem dec_bad (s : ByteArray) (pos : Nat) (h : 128 ≤ (s.get! pos).toNat) (h2 : (s.get! pos).toNat < 192 ∨ 248 ≤ (s.get! pos).toNat) : Utf8.decode s pos = (65533, 1) := by
 have := u8_lt s pos
 rw [decode_at]
 unfold decodeN
 rw [if_neg (by omega), if_neg (by omega), if_neg (by omega), if_neg (by omega)]
end Ku
end Go.Proofs.YtjlliohjeiclaaaGreatDoor
namespace Go.Proofs.YtjlliohjeiclaaaGreatDoor
open Go.RowKit Ku
theorem idx_str (s : ByteArray) (i : Nat) (x : Int) (hx : x = (i : Int)) (hi : i < s.size) (w : World) : (Instr.index 9 (.string s) (.int .i64 x)).run Tryz.prog w = .ok (.int .u8 ((s.get! i).toNat : Int)) w := by
 subst hx
 rw [run_index_string w _ _ _ _ Tryz.underlying9, dif_pos ⟨by omega, by omega⟩]
 simp [hi, ByteArray.get!, getElem!_pos]
 rfl
def intsV (L : List Nat) : List Value := L.map fun (c : Nat) => Value.int .i64 (c : Int)
def okC (c : Nat) : Bool := decide (32 ≤ c) && decide (c ≠ 47)
theorem inT : ElemT Tryz.prog 225 3 (.int .i64 0) 1 8 := ElemT.mk Tryz.underlying225 (by kernel_rfl) (by simp [Value.cells])
theorem acc_step {A B d p : Nat} (h : A + 3 ≤ B * p) (u : d < 256) : 64 * A + d - 128 + 3 ≤ B * (p * 64) := by
 rw [← Nat.mul_assoc]
 omega
set_option maxRecDepth 100000 in
theorem accN_succ (s : ByteArray) (pos c0 k : Nat) : accN s pos c0 (k + 1) = 64 * accN s pos c0 k + (s.get! (pos + (k + 1))).toNat - 128 := rfl
theorem accN_zero (s : ByteArray) (pos c0 : Nat) : accN s pos c0 0 = c0 := rfl
theorem accN_le (s : ByteArray) (pos c0 k : Nat) : accN s pos c0 k + 3 ≤ (c0 + 3) * 64 ^ k := by
 induction k with
 | zero => rw [accN_zero, Nat.pow_zero, Nat.mul_one]; exact Nat.le_refl _
 | succ k ih =>
  have h := acc_step ih (u8_lt s (pos + (k + 1)))
  rw [Nat.pow_succ, accN_succ]
  exact h
theorem accN_sm (s : ByteArray) (pos c0 k : Nat) (hk : k ≤ 3) (hc : c0 ≤ 31) : accN s pos c0 k ≤ 10000000 := by
 have h := accN_le s pos c0 k
 have h2 : (c0 + 3) * 64 ^ k ≤ 34 * 64 ^ 3 := Nat.mul_le_mul (by omega) (Nat.pow_le_pow_right (by omega) hk)
 omega
theorem i64s {a : Int} (h1 : -9223372036854775808 ≤ a) (h2 : a ≤ 9223372036854775807) : IntKind.i64.wrap a = a := by
 simp [IntKind.wrap, IntKind.bits, IntKind.signed]; omega
theorem good_up {s : ByteArray} {pos n c : Nat} {L : List Nat} (HA : L.all okC = true ↔ ∀ i, i < pos → goodB (s.get! i) = true) (h : okC c = true ↔ ∀ i, pos ≤ i → i < pos + n → goodB (s.get! i) = true) :
 (L ++ [c]).all okC = true ↔ ∀ i, i < pos + n → goodB (s.get! i) = true := by
 rw [List.all_append, Bool.and_eq_true, HA, List.all_cons, List.all_nil, Bool.and_true, h]
 constructor
 · rintro ⟨h1, h2⟩ i hi
   by_cases k : i < pos
   · exact h1 i k
   · exact h2 i (by omega) hi
 · exact fun h => ⟨fun i hi => h i (by omega), fun i _ hi => h i hi⟩
set_option maxRecDepth 100000 in
set_option maxHeartbeats 4000000 in
theorem ref5_runes (s : ByteArray) (w : World) (hs : s.size ≤ 1000) :
 Calls Tryz.prog 168 #[.string s] w fun e w' => Below w.heap.size w w' ∧ ((Lib.validD s.data.toList = false ∧ e = .returned (.tuple #[.slice none 0 0, .bool false])) ∨
  (Lib.validD s.data.toList = true ∧ ∃ (L : List Nat) (a : Option Addr) (n c : Nat), e = .returned (.tuple #[.slice a n c, .bool true]) ∧ n = L.length ∧ n ≤ 1000 ∧ CellsAt w' a (intsV L) ∧ (L.all okC = allG s))) := by
 have HS := Lib.hid hs
 have IT := Lib.hid inT
 obtain ⟨va, hva⟩ : ∃ r, Lib.validD s.data.toList = r := ⟨_, rfl⟩
 have VA : Hid (Lib.validD (s.data.toList.drop 0) = va) := Lib.hid (by rw [valid_all]; exact hva)
 rw [hva]
 clear hs hva
 go_enter Tryz.func168, Tryz.ntmps168
 go_wp2_with fail
 go_loopw [4, 5] (fun v i wr => ∃ (pos : Nat) (L : List Nat), pos ≤ s.size ∧ i = .int .i64 (pos : Int) ∧ Hid (wr.ownsRow w.heap.size 3 1 v L.length (intsV L)) ∧ Hid (L.length ≤ pos) ∧ Hid (L.all okC = true ↔ ∀ i, i < pos → goodB (s.get! i) = true) ∧ Hid (Lib.validD (s.data.toList.drop pos) = va) ∧ Hid (Below w.heap.size w wr)) (fun _ i _ => s.size - (intOf i).toNat)
 case atStart => exact ⟨0, [], Nat.zero_le _, rfl, Lib.hid ⟨rfl, Or.inl ⟨rfl, rfl⟩⟩, Lib.hid (Nat.le_refl _), Lib.hid (by simp), VA, Lib.hid (Below.refl _ _)⟩
 case round =>
  obtain ⟨pos, L, hps, rfl, HO, HLL, HA, HV, HB⟩ := hrel
  obtain ⟨so, co, hsv, _, _⟩ := own_slice HO.out
  subst hsv
  by_cases hp : pos < s.size
  · have hpi : (pos : Int) < (s.size : Int) := by omega
    have hs1000 : s.size ≤ 1000 := HS.out
    have IX0 := fun W => idx_str s pos (pos : Int) rfl hp W
    obtain ⟨b, hbv⟩ : ∃ b, (s.get! pos).toNat = b := ⟨_, rfl⟩
    rw [hbv] at IX0
    have hb256 : b < 256 := by rw [← hbv]; exact u8_lt s pos
    have BV := Lib.hid hbv
    have IX := Lib.hid IX0
    have VS := Lib.hid (valid_step s pos hp)
    have HWS := Lib.hid HB.out.size
    have HLS : L.length ≤ 1000 := by have := HLL.out; omega
    clear hbv IX0
    by_cases k1 : b < 128
    · have k1i : (b : Int) < 128 := by omega
      have DE : Hid (Utf8.decode s pos = (b, 1)) := Lib.hid (by rw [Lib.decode_at, BV.out]; unfold Lib.decodeN; rw [if_pos k1])
      have HV6 : Hid (Lib.validD (s.data.toList.drop (pos + 1)) = va) := Lib.hid (by rw [← HV.out, VS.out, DE.out, if_neg (by intro h; have := congrArg Prod.fst h; simp at this; omega)])
      have HA6 : Hid ((L ++ [b]).all okC = true ↔ ∀ i, i < pos + 1 → goodB (s.get! i) = true) := Lib.hid (good_up HA.out (by
       constructor
       · intro h i h1 h2
         rw [show i = pos by omega]
         unfold goodB; rw [BV.out]; exact h
       · intro h
         have := h pos (Nat.le_refl _) (by omega)
         unfold goodB at this; rw [BV.out] at this; exact this))
      have ix := IX.out
      have hw1 : IntKind.i64.wrap ((pos : Int) + 1) = (pos : Int) + 1 := i64s (by omega) (by omega)
      have hle : ¬ ((s.size : Int) < (pos : Int) + 1) := by omega
      go_wp2_with fail
      go_loopw [6, 9] (fun cv kv wX => cv = .int .i64 (b : Int) ∧ kv = .int .i64 1 ∧ wX = wr) (fun _ _ _ => 0)
      case atStart => exact ⟨rfl, rfl, rfl⟩
      case round =>
       obtain ⟨rfl, rfl, rfl⟩ := hrel
       have hn0 : ¬ (b : Int) < 0 := by omega
       have hn1 : ¬ (1114111 : Int) < (b : Int) := by omega
       have hn2 : ¬ (55296 : Int) ≤ (b : Int) := by omega
       go_wp2_with (at_builtin; go_must (refine wpList_app rfl _ _ 225 225 rfl w.heap.size 3 _ 1 8 IT.out (.slice so L.length co) L.length (intsV L) rfl (HO.out.alloc _) _ 1 [.int .i64 (b : Int)] rfl ((CellsAt.new wr 3 (0, 0) [.int .i64 (b : Int)]).srcN rfl (by simp [Value.oneCell']) Tryz.underlying225 1 (by decide)) (by omega) (by omega) (by have := HWS.out; simp; omega) ?_); go_must (intro v6 w6 hown _ hbel _))
       have HO6 : Hid (w6.ownsRow w.heap.size 3 1 v6 (L ++ [b]).length (intsV (L ++ [b]))) := Lib.hid (by rw [List.length_append]; unfold intsV at hown ⊢; rw [List.map_append]; exact hown)
       have HB6 := Lib.hid ((HB.out.alloc HWS.out _).trans hbel)
       clear hown hbel
       go_wp2_with fail
       go_roundw
       case rel => exact ⟨pos + 1, L ++ [b], by omega, by go_num, HO6, Lib.hid (by rw [List.length_append]; have := HLL.out; simp; omega), HA6, HV6, HB6⟩
       case measure => simp [intOf]; omega
    · have k1i : ¬ (b : Int) < 128 := by omega
      by_cases c1 : b < 192
      · have c1i : ¬ (192 : Int) ≤ (b : Int) := by omega
        have c2i : ¬ (224 : Int) ≤ (b : Int) := by omega
        have c3i : ¬ (240 : Int) ≤ (b : Int) := by omega
        have DB : Hid (Utf8.decode s pos = (65533, 1)) := Lib.hid (dec_bad s pos (by rw [BV.out]; omega) (by rw [BV.out]; omega))
        have ix := IX.out
        obtain rfl : false = va := by rw [← HV.out, VS.out, if_pos DB.out]
        go_wp2_with fail
        go_ret2
        exact ⟨HB.out, rfl⟩
      have c1i : (192 : Int) ≤ (b : Int) := by omega
      by_cases c2 : b < 224
      · have c2i : (b : Int) < 224 := by omega
        have DM := Lib.hid (dec_multi s pos 2 (b - 192) 128 (by rw [BV.out]; unfold Cls; omega))
        have hw0 : IntKind.i64.wrap ((b : Int) - 192) = (b : Int) - 192 := i64s (by omega) (by omega)
        have hw1 : IntKind.i64.wrap ((pos : Int) + 2) = (pos : Int) + 2 := i64s (by omega) (by omega)
        have ix := IX.out
        by_cases hn : s.size < pos + 2
        · have hni : (s.size : Int) < (pos : Int) + 2 := by omega
          have DB : Hid (Utf8.decode s pos = (65533, 1)) := Lib.hid (DM.out.2 fun d => by have := d.len; omega)
          obtain rfl : false = va := by rw [← HV.out, VS.out, if_pos DB.out]
          go_wp2_with fail
          go_ret2
          exact ⟨HB.out, rfl⟩
        have hni : ¬ (s.size : Int) < (pos : Int) + 2 := by omega
        go_wp2_with fail
        clear ix
        go_loopw [6, 9] (fun cv kv wX => ∃ k : Nat, 1 ≤ k ∧ k ≤ 2 ∧ kv = .int .i64 (k : Int) ∧ cv = .int .i64 ((accN s pos (b - 192) (k - 1) : Nat) : Int) ∧ Hid (∀ j, 1 ≤ j → j < k → Cont s pos j) ∧ wX = wr) (fun _ kv _ => 2 - (intOf kv).toNat)
        case atStart => exact ⟨1, by omega, by omega, rfl, by show _ = Value.int .i64 ((b - 192 : Nat) : Int); congr 1; omega, Lib.hid (fun j h1 h2 => by omega), rfl⟩
        case round =>
         obtain ⟨k, hk1, hkn, rfl, rfl, HC, rfl⟩ := hrel
         by_cases hk : k < 2
         · have hki : (k : Int) < 2 := by omega
           have IK0 := fun W => idx_str s (pos + k) ((pos : Int) + (k : Int)) (by omega) (by omega) W
           obtain ⟨d, hd⟩ : ∃ d, (s.get! (pos + k)).toNat = d := ⟨_, rfl⟩
           rw [hd] at IK0
           have hd256 : d < 256 := by rw [← hd]; exact u8_lt s _
           have DV := Lib.hid hd
           have EA : Hid (accN s pos (b - 192) (k + 1 - 1) = 64 * accN s pos (b - 192) (k - 1) + d - 128) := Lib.hid (by
            obtain ⟨m, rfl⟩ : ∃ m, k = m + 1 := ⟨k - 1, by omega⟩
            rw [← hd]
            rfl)
           have HSM : accN s pos (b - 192) (k - 1) ≤ 10000000 := accN_sm _ _ _ _ (by omega) (by omega)
           generalize accN s pos (b - 192) (k - 1) = q at *
           clear hd
           have hw2 : IntKind.i64.wrap ((pos : Int) + (k : Int)) = (pos : Int) + (k : Int) := i64s (by omega) (by omega)
           by_cases d1 : d < 128
           · have d1i : (d : Int) < 128 := by omega
             have DB : Hid (Utf8.decode s pos = (65533, 1)) := Lib.hid (DM.out.2 fun D => by have := (D.cont k hk1 hk).1; rw [DV.out] at this; omega)
             obtain rfl : false = va := by rw [← HV.out, VS.out, if_pos DB.out]
             go_wp2_with fail
             go_ret2
             exact ⟨HB.out, rfl⟩
           · have d1i : ¬ (d : Int) < 128 := by omega
             by_cases d2 : 192 ≤ d
             · have d2i : (192 : Int) ≤ (d : Int) := by omega
               have DB : Hid (Utf8.decode s pos = (65533, 1)) := Lib.hid (DM.out.2 fun D => by have := (D.cont k hk1 hk).2; rw [DV.out] at this; omega)
               obtain rfl : false = va := by rw [← HV.out, VS.out, if_pos DB.out]
               go_wp2_with fail
               go_ret2
               exact ⟨HB.out, rfl⟩
             · have d2i : ¬ (192 : Int) ≤ (d : Int) := by omega
               have hw3 : IntKind.i64.wrap (64 * (q : Int)) = 64 * (q : Int) := i64s (by omega) (by omega)
               have hw4 : IntKind.i64.wrap (64 * (q : Int) + (d : Int)) = 64 * (q : Int) + (d : Int) := i64s (by omega) (by omega)
               have hw5 : IntKind.i64.wrap (64 * (q : Int) + (d : Int) - 128) = 64 * (q : Int) + (d : Int) - 128 := i64s (by omega) (by omega)
               have HC2 : Hid (∀ j, 1 ≤ j → j < k + 1 → Cont s pos j) := Lib.hid (fun j j1 j2 => by
                by_cases h : j < k
                · exact HC.out j j1 h
                · rw [show j = k by omega]; unfold Cont; rw [DV.out]; omega)
               go_wp2_with fail
               go_roundw
               case rel => exact ⟨k + 1, by omega, by omega, by go_num, by rw [EA.out]; congr 1; omega, HC2, by trivial⟩
               case measure => simp [intOf]; omega
         · have hkk : k = 2 := by omega
           have hki : ¬ (k : Int) < 2 := by omega
           obtain ⟨q, hq⟩ : ∃ q, accN s pos (b - 192) (k - 1) = q := ⟨_, rfl⟩
           have QV : Hid (accN s pos (b - 192) (2 - 1) = q) := Lib.hid (by rw [← hq, hkk])
           have CV : Hid (∀ j, 1 ≤ j → j < 2 → Cont s pos j) := Lib.hid (by rw [← hkk]; exact HC.out)
           rw [hq]
           clear hq HC hkk
           by_cases g1 : q < 128
           · have g1i : (q : Int) < 128 := by omega
             have DB : Hid (Utf8.decode s pos = (65533, 1)) := Lib.hid (DM.out.2 fun D => by have := D.lo; rw [QV.out] at this; omega)
             obtain rfl : false = va := by rw [← HV.out, VS.out, if_pos DB.out]
             go_wp2_with fail
             go_ret2
             exact ⟨HB.out, rfl⟩
           have g1i : ¬ (q : Int) < 128 := by omega
           by_cases g2 : 1114111 < q
           · have g2i : (1114111 : Int) < (q : Int) := by omega
             have DB : Hid (Utf8.decode s pos = (65533, 1)) := Lib.hid (DM.out.2 fun D => by have := D.hi; rw [QV.out] at this; omega)
             obtain rfl : false = va := by rw [← HV.out, VS.out, if_pos DB.out]
             go_wp2_with fail
             go_ret2
             exact ⟨HB.out, rfl⟩
           have g2i : ¬ (1114111 : Int) < (q : Int) := by omega
           by_cases g3 : 55296 ≤ q ∧ q ≤ 57343
           · have g3i : (55296 : Int) ≤ (q : Int) := by omega
             have g3j : (q : Int) ≤ 57343 := by omega
             have DB : Hid (Utf8.decode s pos = (65533, 1)) := Lib.hid (DM.out.2 fun D => by have := D.su; rw [QV.out] at this; exact this g3)
             obtain rfl : false = va := by rw [← HV.out, VS.out, if_pos DB.out]
             go_wp2_with fail
             go_ret2
             exact ⟨HB.out, rfl⟩
           have DE : Hid (Utf8.decode s pos = (q, 2)) := Lib.hid (by rw [← QV.out]; exact DM.out.1 ⟨by omega, CV.out, by rw [QV.out]; omega, by rw [QV.out]; omega, by rw [QV.out]; exact g3⟩)
           have HV6 : Hid (Lib.validD (s.data.toList.drop (pos + 2)) = va) := Lib.hid (by rw [← HV.out, VS.out, DE.out, if_neg (by intro h; have := congrArg Prod.snd h; simp at this)])
           have HA6 : Hid ((L ++ [q]).all okC = true ↔ ∀ i, i < pos + 2 → goodB (s.get! i) = true) := Lib.hid (good_up HA.out (by
            constructor
            · intro _ i h1 h2
              by_cases h : i = pos
              · rw [h]; exact good_high (by rw [BV.out]; omega)
              · have := (CV.out (i - pos) (by omega) (by omega)).1
                rw [show pos + (i - pos) = i by omega] at this
                exact good_high this
            · intro _
              unfold okC
              rw [decide_eq_true (by omega), decide_eq_true (by omega)]
              rfl))
           by_cases g4 : 55296 ≤ q
           · have g4i : (55296 : Int) ≤ (q : Int) := by omega
             have g5i : ¬ (q : Int) ≤ 57343 := by omega
             go_wp2_with (at_builtin; go_must (refine wpList_app rfl _ _ 225 225 rfl w.heap.size 3 _ 1 8 IT.out (.slice so L.length co) L.length (intsV L) rfl (HO.out.alloc _) _ 1 [.int .i64 (q : Int)] rfl ((CellsAt.new wr 3 (0, 0) [.int .i64 (q : Int)]).srcN rfl (by simp [Value.oneCell']) Tryz.underlying225 1 (by decide)) (by omega) (by omega) (by have := HWS.out; simp; omega) ?_); go_must (intro v6 w6 hown _ hbel _))
             have HO6 : Hid (w6.ownsRow w.heap.size 3 1 v6 (L ++ [q]).length (intsV (L ++ [q]))) := Lib.hid (by rw [List.length_append]; unfold intsV at hown ⊢; rw [List.map_append]; exact hown)
             have HB6 := Lib.hid ((HB.out.alloc HWS.out _).trans hbel)
             clear hown hbel
             go_wp2_with fail
             go_roundw
             case rel => exact ⟨pos + 2, L ++ [q], by omega, by go_num, HO6, Lib.hid (by rw [List.length_append]; have := HLL.out; simp; omega), HA6, HV6, HB6⟩
             case measure => simp [intOf]; omega
           · have g4i : ¬ (55296 : Int) ≤ (q : Int) := by omega
             go_wp2_with (at_builtin; go_must (refine wpList_app rfl _ _ 225 225 rfl w.heap.size 3 _ 1 8 IT.out (.slice so L.length co) L.length (intsV L) rfl (HO.out.alloc _) _ 1 [.int .i64 (q : Int)] rfl ((CellsAt.new wr 3 (0, 0) [.int .i64 (q : Int)]).srcN rfl (by simp [Value.oneCell']) Tryz.underlying225 1 (by decide)) (by omega) (by omega) (by have := HWS.out; simp; omega) ?_); go_must (intro v6 w6 hown _ hbel _))
             have HO6 : Hid (w6.ownsRow w.heap.size 3 1 v6 (L ++ [q]).length (intsV (L ++ [q]))) := Lib.hid (by rw [List.length_append]; unfold intsV at hown ⊢; rw [List.map_append]; exact hown)
             have HB6 := Lib.hid ((HB.out.alloc HWS.out _).trans hbel)
             clear hown hbel
             go_wp2_with fail
             go_roundw
             case rel => exact ⟨pos + 2, L ++ [q], by omega, by go_num, HO6, Lib.hid (by rw [List.length_append]; have := HLL.out; simp; omega), HA6, HV6, HB6⟩
             case measure => simp [intOf]; omega
      have c2i : ¬ (b : Int) < 224 := by omega
      have c2j : (224 : Int) ≤ (b : Int) := by omega
      by_cases c3 : b < 240
      · have c3i : (b : Int) < 240 := by omega
        have DM := Lib.hid (dec_multi s pos 3 (b - 224) 2048 (by rw [BV.out]; unfold Cls; omega))
        have hw0 : IntKind.i64.wrap ((b : Int) - 224) = (b : Int) - 224 := i64s (by omega) (by omega)
        have hw1 : IntKind.i64.wrap ((pos : Int) + 3) = (pos : Int) + 3 := i64s (by omega) (by omega)
        have ix := IX.out
        by_cases hn : s.size < pos + 3
        · have hni : (s.size : Int) < (pos : Int) + 3 := by omega
          have DB : Hid (Utf8.decode s pos = (65533, 1)) := Lib.hid (DM.out.2 fun d => by have := d.len; omega)
          obtain rfl : false = va := by rw [← HV.out, VS.out, if_pos DB.out]
          go_wp2_with fail
          go_ret2
          exact ⟨HB.out, rfl⟩
        have hni : ¬ (s.size : Int) < (pos : Int) + 3 := by omega
        go_wp2_with fail
        clear ix
        go_loopw [6, 9] (fun cv kv wX => ∃ k : Nat, 1 ≤ k ∧ k ≤ 3 ∧ kv = .int .i64 (k : Int) ∧ cv = .int .i64 ((accN s pos (b - 224) (k - 1) : Nat) : Int) ∧ Hid (∀ j, 1 ≤ j → j < k → Cont s pos j) ∧ wX = wr) (fun _ kv _ => 3 - (intOf kv).toNat)
        case atStart => exact ⟨1, by omega, by omega, rfl, by show _ = Value.int .i64 ((b - 224 : Nat) : Int); congr 1; omega, Lib.hid (fun j h1 h2 => by omega), rfl⟩
        case round =>
         obtain ⟨k, hk1, hkn, rfl, rfl, HC, rfl⟩ := hrel
         by_cases hk : k < 3
         · have hki : (k : Int) < 3 := by omega
           have IK0 := fun W => idx_str s (pos + k) ((pos : Int) + (k : Int)) (by omega) (by omega) W
           obtain ⟨d, hd⟩ : ∃ d, (s.get! (pos + k)).toNat = d := ⟨_, rfl⟩
           rw [hd] at IK0
           have hd256 : d < 256 := by rw [← hd]; exact u8_lt s _
           have DV := Lib.hid hd
           have EA : Hid (accN s pos (b - 224) (k + 1 - 1) = 64 * accN s pos (b - 224) (k - 1) + d - 128) := Lib.hid (by
            obtain ⟨m, rfl⟩ : ∃ m, k = m + 1 := ⟨k - 1, by omega⟩
            rw [← hd]
            rfl)
           have HSM : accN s pos (b - 224) (k - 1) ≤ 10000000 := accN_sm _ _ _ _ (by omega) (by omega)
           generalize accN s pos (b - 224) (k - 1) = q at *
           clear hd
           have hw2 : IntKind.i64.wrap ((pos : Int) + (k : Int)) = (pos : Int) + (k : Int) := i64s (by omega) (by omega)
           by_cases d1 : d < 128
           · have d1i : (d : Int) < 128 := by omega
             have DB : Hid (Utf8.decode s pos = (65533, 1)) := Lib.hid (DM.out.2 fun D => by have := (D.cont k hk1 hk).1; rw [DV.out] at this; omega)
             obtain rfl : false = va := by rw [← HV.out, VS.out, if_pos DB.out]
             go_wp2_with fail
             go_ret2
             exact ⟨HB.out, rfl⟩
           · have d1i : ¬ (d : Int) < 128 := by omega
             by_cases d2 : 192 ≤ d
             · have d2i : (192 : Int) ≤ (d : Int) := by omega
               have DB : Hid (Utf8.decode s pos = (65533, 1)) := Lib.hid (DM.out.2 fun D => by have := (D.cont k hk1 hk).2; rw [DV.out] at this; omega)
               obtain rfl : false = va := by rw [← HV.out, VS.out, if_pos DB.out]
               go_wp2_with fail
               go_ret2
               exact ⟨HB.out, rfl⟩
             · have d2i : ¬ (192 : Int) ≤ (d : Int) := by omega
               have hw3 : IntKind.i64.wrap (64 * (q : Int)) = 64 * (q : Int) := i64s (by omega) (by omega)
               have hw4 : IntKind.i64.wrap (64 * (q : Int) + (d : Int)) = 64 * (q : Int) + (d : Int) := i64s (by omega) (by omega)
               have hw5 : IntKind.i64.wrap (64 * (q : Int) + (d : Int) - 128) = 64 * (q : Int) + (d : Int) - 128 := i64s (by omega) (by omega)
               have HC2 : Hid (∀ j, 1 ≤ j → j < k + 1 → Cont s pos j) := Lib.hid (fun j j1 j2 => by
                by_cases h : j < k
                · exact HC.out j j1 h
                · rw [show j = k by omega]; unfold Cont; rw [DV.out]; omega)
               go_wp2_with fail
               go_roundw
               case rel => exact ⟨k + 1, by omega, by omega, by go_num, by rw [EA.out]; congr 1; omega, HC2, by trivial⟩
               case measure => simp [intOf]; omega
         · have hkk : k = 3 := by omega
           have hki : ¬ (k : Int) < 3 := by omega
           obtain ⟨q, hq⟩ : ∃ q, accN s pos (b - 224) (k - 1) = q := ⟨_, rfl⟩
           have QV : Hid (accN s pos (b - 224) (3 - 1) = q) := Lib.hid (by rw [← hq, hkk])
           have CV : Hid (∀ j, 1 ≤ j → j < 3 → Cont s pos j) := Lib.hid (by rw [← hkk]; exact HC.out)
           rw [hq]
           clear hq HC hkk
           by_cases g1 : q < 2048
           · have g1i : (q : Int) < 2048 := by omega
             have DB : Hid (Utf8.decode s pos = (65533, 1)) := Lib.hid (DM.out.2 fun D => by have := D.lo; rw [QV.out] at this; omega)
             obtain rfl : false = va := by rw [← HV.out, VS.out, if_pos DB.out]
             go_wp2_with fail
             go_ret2
             exact ⟨HB.out, rfl⟩
           have g1i : ¬ (q : Int) < 2048 := by omega
           by_cases g2 : 1114111 < q
           · have g2i : (1114111 : Int) < (q : Int) := by omega
             have DB : Hid (Utf8.decode s pos = (65533, 1)) := Lib.hid (DM.out.2 fun D => by have := D.hi; rw [QV.out] at this; omega)
             obtain rfl : false = va := by rw [← HV.out, VS.out, if_pos DB.out]
             go_wp2_with fail
             go_ret2
             exact ⟨HB.out, rfl⟩
           have g2i : ¬ (1114111 : Int) < (q : Int) := by omega
           by_cases g3 : 55296 ≤ q ∧ q ≤ 57343
           · have g3i : (55296 : Int) ≤ (q : Int) := by omega
             have g3j : (q : Int) ≤ 57343 := by omega
             have DB : Hid (Utf8.decode s pos = (65533, 1)) := Lib.hid (DM.out.2 fun D => by have := D.su; rw [QV.out] at this; exact this g3)
             obtain rfl : false = va := by rw [← HV.out, VS.out, if_pos DB.out]
             go_wp2_with fail
             go_ret2
             exact ⟨HB.out, rfl⟩
           have DE : Hid (Utf8.decode s pos = (q, 3)) := Lib.hid (by rw [← QV.out]; exact DM.out.1 ⟨by omega, CV.out, by rw [QV.out]; omega, by rw [QV.out]; omega, by rw [QV.out]; exact g3⟩)
           have HV6 : Hid (Lib.validD (s.data.toList.drop (pos + 3)) = va) := Lib.hid (by rw [← HV.out, VS.out, DE.out, if_neg (by intro h; have := congrArg Prod.snd h; simp at this)])
           have HA6 : Hid ((L ++ [q]).all okC = true ↔ ∀ i, i < pos + 3 → goodB (s.get! i) = true) := Lib.hid (good_up HA.out (by
            constructor
            · intro _ i h1 h2
              by_cases h : i = pos
              · rw [h]; exact good_high (by rw [BV.out]; omega)
              · have := (CV.out (i - pos) (by omega) (by omega)).1
                rw [show pos + (i - pos) = i by omega] at this
                exact good_high this
            · intro _
              unfold okC
              rw [decide_eq_true (by omega), decide_eq_true (by omega)]
              rfl))
           by_cases g4 : 55296 ≤ q
           · have g4i : (55296 : Int) ≤ (q : Int) := by omega
             have g5i : ¬ (q : Int) ≤ 57343 := by omega
             go_wp2_with (at_builtin; go_must (refine wpList_app rfl _ _ 225 225 rfl w.heap.size 3 _ 1 8 IT.out (.slice so L.length co) L.length (intsV L) rfl (HO.out.alloc _) _ 1 [.int .i64 (q : Int)] rfl ((CellsAt.new wr 3 (0, 0) [.int .i64 (q : Int)]).srcN rfl (by simp [Value.oneCell']) Tryz.underlying225 1 (by decide)) (by omega) (by omega) (by have := HWS.out; simp; omega) ?_); go_must (intro v6 w6 hown _ hbel _))
             have HO6 : Hid (w6.ownsRow w.heap.size 3 1 v6 (L ++ [q]).length (intsV (L ++ [q]))) := Lib.hid (by rw [List.length_append]; unfold intsV at hown ⊢; rw [List.map_append]; exact hown)
             have HB6 := Lib.hid ((HB.out.alloc HWS.out _).trans hbel)
             clear hown hbel
             go_wp2_with fail
             go_roundw
             case rel => exact ⟨pos + 3, L ++ [q], by omega, by go_num, HO6, Lib.hid (by rw [List.length_append]; have := HLL.out; simp; omega), HA6, HV6, HB6⟩
             case measure => simp [intOf]; omega
           · have g4i : ¬ (55296 : Int) ≤ (q : Int) := by omega
             go_wp2_with (at_builtin; go_must (refine wpList_app rfl _ _ 225 225 rfl w.heap.size 3 _ 1 8 IT.out (.slice so L.length co) L.length (intsV L) rfl (HO.out.alloc _) _ 1 [.int .i64 (q : Int)] rfl ((CellsAt.new wr 3 (0, 0) [.int .i64 (q : Int)]).srcN rfl (by simp [Value.oneCell']) Tryz.underlying225 1 (by decide)) (by omega) (by omega) (by have := HWS.out; simp; omega) ?_); go_must (intro v6 w6 hown _ hbel _))
             have HO6 : Hid (w6.ownsRow w.heap.size 3 1 v6 (L ++ [q]).length (intsV (L ++ [q]))) := Lib.hid (by rw [List.length_append]; unfold intsV at hown ⊢; rw [List.map_append]; exact hown)
             have HB6 := Lib.hid ((HB.out.alloc HWS.out _).trans hbel)
             clear hown hbel
             go_wp2_with fail
             go_roundw
             case rel => exact ⟨pos + 3, L ++ [q], by omega, by go_num, HO6, Lib.hid (by rw [List.length_append]; have := HLL.out; simp; omega), HA6, HV6, HB6⟩
             case measure => simp [intOf]; omega
      have c3i : ¬ (b : Int) < 240 := by omega
      have c3j : (240 : Int) ≤ (b : Int) := by omega
      by_cases c4 : b < 248
      · have c4i : (b : Int) < 248 := by omega
        have DM := Lib.hid (dec_multi s pos 4 (b - 240) 65536 (by rw [BV.out]; unfold Cls; omega))
        have hw0 : IntKind.i64.wrap ((b : Int) - 240) = (b : Int) - 240 := i64s (by omega) (by omega)
        have hw1 : IntKind.i64.wrap ((pos : Int) + 4) = (pos : Int) + 4 := i64s (by omega) (by omega)
        have ix := IX.out
        by_cases hn : s.size < pos + 4
        · have hni : (s.size : Int) < (pos : Int) + 4 := by omega
          have DB : Hid (Utf8.decode s pos = (65533, 1)) := Lib.hid (DM.out.2 fun d => by have := d.len; omega)
          obtain rfl : false = va := by rw [← HV.out, VS.out, if_pos DB.out]
          go_wp2_with fail
          go_ret2
          exact ⟨HB.out, rfl⟩
        have hni : ¬ (s.size : Int) < (pos : Int) + 4 := by omega
        go_wp2_with fail
        clear ix
        go_loopw [6, 9] (fun cv kv wX => ∃ k : Nat, 1 ≤ k ∧ k ≤ 4 ∧ kv = .int .i64 (k : Int) ∧ cv = .int .i64 ((accN s pos (b - 240) (k - 1) : Nat) : Int) ∧ Hid (∀ j, 1 ≤ j → j < k → Cont s pos j) ∧ wX = wr) (fun _ kv _ => 4 - (intOf kv).toNat)
        case atStart => exact ⟨1, by omega, by omega, rfl, by show _ = Value.int .i64 ((b - 240 : Nat) : Int); congr 1; omega, Lib.hid (fun j h1 h2 => by omega), rfl⟩
        case round =>
         obtain ⟨k, hk1, hkn, rfl, rfl, HC, rfl⟩ := hrel
         by_cases hk : k < 4
         · have hki : (k : Int) < 4 := by omega
           have IK0 := fun W => idx_str s (pos + k) ((pos : Int) + (k : Int)) (by omega) (by omega) W
           obtain ⟨d, hd⟩ : ∃ d, (s.get! (pos + k)).toNat = d := ⟨_, rfl⟩
           rw [hd] at IK0
           have hd256 : d < 256 := by rw [← hd]; exact u8_lt s _
           have DV := Lib.hid hd
           have EA : Hid (accN s pos (b - 240) (k + 1 - 1) = 64 * accN s pos (b - 240) (k - 1) + d - 128) := Lib.hid (by
            obtain ⟨m, rfl⟩ : ∃ m, k = m + 1 := ⟨k - 1, by omega⟩
            rw [← hd]
            rfl)
           have HSM : accN s pos (b - 240) (k - 1) ≤ 10000000 := accN_sm _ _ _ _ (by omega) (by omega)
           generalize accN s pos (b - 240) (k - 1) = q at *
           clear hd
           have hw2 : IntKind.i64.wrap ((pos : Int) + (k : Int)) = (pos : Int) + (k : Int) := i64s (by omega) (by omega)
           by_cases d1 : d < 128
           · have d1i : (d : Int) < 128 := by omega
             have DB : Hid (Utf8.decode s pos = (65533, 1)) := Lib.hid (DM.out.2 fun D => by have := (D.cont k hk1 hk).1; rw [DV.out] at this; omega)
             obtain rfl : false = va := by rw [← HV.out, VS.out, if_pos DB.out]
             go_wp2_with fail
             go_ret2
             exact ⟨HB.out, rfl⟩
           · have d1i : ¬ (d : Int) < 128 := by omega
             by_cases d2 : 192 ≤ d
             · have d2i : (192 : Int) ≤ (d : Int) := by omega
               have DB : Hid (Utf8.decode s pos = (65533, 1)) := Lib.hid (DM.out.2 fun D => by have := (D.cont k hk1 hk).2; rw [DV.out] at this; omega)
               obtain rfl : false = va := by rw [← HV.out, VS.out, if_pos DB.out]
               go_wp2_with fail
               go_ret2
               exact ⟨HB.out, rfl⟩
             · have d2i : ¬ (192 : Int) ≤ (d : Int) := by omega
               have hw3 : IntKind.i64.wrap (64 * (q : Int)) = 64 * (q : Int) := i64s (by omega) (by omega)
               have hw4 : IntKind.i64.wrap (64 * (q : Int) + (d : Int)) = 64 * (q : Int) + (d : Int) := i64s (by omega) (by omega)
               have hw5 : IntKind.i64.wrap (64 * (q : Int) + (d : Int) - 128) = 64 * (q : Int) + (d : Int) - 128 := i64s (by omega) (by omega)
               have HC2 : Hid (∀ j, 1 ≤ j → j < k + 1 → Cont s pos j) := Lib.hid (fun j j1 j2 => by
                by_cases h : j < k
                · exact HC.out j j1 h
                · rw [show j = k by omega]; unfold Cont; rw [DV.out]; omega)
               go_wp2_with fail
               go_roundw
               case rel => exact ⟨k + 1, by omega, by omega, by go_num, by rw [EA.out]; congr 1; omega, HC2, by trivial⟩
               case measure => simp [intOf]; omega
         · have hkk : k = 4 := by omega
           have hki : ¬ (k : Int) < 4 := by omega
           obtain ⟨q, hq⟩ : ∃ q, accN s pos (b - 240) (k - 1) = q := ⟨_, rfl⟩
           have QV : Hid (accN s pos (b - 240) (4 - 1) = q) := Lib.hid (by rw [← hq, hkk])
           have CV : Hid (∀ j, 1 ≤ j → j < 4 → Cont s pos j) := Lib.hid (by rw [← hkk]; exact HC.out)
           rw [hq]
           clear hq HC hkk
           by_cases g1 : q < 65536
           · have g1i : (q : Int) < 65536 := by omega
             have DB : Hid (Utf8.decode s pos = (65533, 1)) := Lib.hid (DM.out.2 fun D => by have := D.lo; rw [QV.out] at this; omega)
             obtain rfl : false = va := by rw [← HV.out, VS.out, if_pos DB.out]
             go_wp2_with fail
             go_ret2
             exact ⟨HB.out, rfl⟩
           have g1i : ¬ (q : Int) < 65536 := by omega
           by_cases g2 : 1114111 < q
           · have g2i : (1114111 : Int) < (q : Int) := by omega
             have DB : Hid (Utf8.decode s pos = (65533, 1)) := Lib.hid (DM.out.2 fun D => by have := D.hi; rw [QV.out] at this; omega)
             obtain rfl : false = va := by rw [← HV.out, VS.out, if_pos DB.out]
             go_wp2_with fail
             go_ret2
             exact ⟨HB.out, rfl⟩
           have g2i : ¬ (1114111 : Int) < (q : Int) := by omega
           by_cases g3 : 55296 ≤ q ∧ q ≤ 57343
           · have g3i : (55296 : Int) ≤ (q : Int) := by omega
             have g3j : (q : Int) ≤ 57343 := by omega
             have DB : Hid (Utf8.decode s pos = (65533, 1)) := Lib.hid (DM.out.2 fun D => by have := D.su; rw [QV.out] at this; exact this g3)
             obtain rfl : false = va := by rw [← HV.out, VS.out, if_pos DB.out]
             go_wp2_with fail
             go_ret2
             exact ⟨HB.out, rfl⟩
           have DE : Hid (Utf8.decode s pos = (q, 4)) := Lib.hid (by rw [← QV.out]; exact DM.out.1 ⟨by omega, CV.out, by rw [QV.out]; omega, by rw [QV.out]; omega, by rw [QV.out]; exact g3⟩)
           have HV6 : Hid (Lib.validD (s.data.toList.drop (pos + 4)) = va) := Lib.hid (by rw [← HV.out, VS.out, DE.out, if_neg (by intro h; have := congrArg Prod.snd h; simp at this)])
           have HA6 : Hid ((L ++ [q]).all okC = true ↔ ∀ i, i < pos + 4 → goodB (s.get! i) = true) := Lib.hid (good_up HA.out (by
            constructor
            · intro _ i h1 h2
              by_cases h : i = pos
              · rw [h]; exact good_high (by rw [BV.out]; omega)
              · have := (CV.out (i - pos) (by omega) (by omega)).1
                rw [show pos + (i - pos) = i by omega] at this
                exact good_high this
            · intro _
              unfold okC
              rw [decide_eq_true (by omega), decide_eq_true (by omega)]
              rfl))
           have g4i : (55296 : Int) ≤ (q : Int) := by omega
           have g5i : ¬ (q : Int) ≤ 57343 := by omega
           go_wp2_with (at_builtin; go_must (refine wpList_app rfl _ _ 225 225 rfl w.heap.size 3 _ 1 8 IT.out (.slice so L.length co) L.length (intsV L) rfl (HO.out.alloc _) _ 1 [.int .i64 (q : Int)] rfl ((CellsAt.new wr 3 (0, 0) [.int .i64 (q : Int)]).srcN rfl (by simp [Value.oneCell']) Tryz.underlying225 1 (by decide)) (by omega) (by omega) (by have := HWS.out; simp; omega) ?_); go_must (intro v6 w6 hown _ hbel _))
           have HO6 : Hid (w6.ownsRow w.heap.size 3 1 v6 (L ++ [q]).length (intsV (L ++ [q]))) := Lib.hid (by rw [List.length_append]; unfold intsV at hown ⊢; rw [List.map_append]; exact hown)
           have HB6 := Lib.hid ((HB.out.alloc HWS.out _).trans hbel)
           clear hown hbel
           go_wp2_with fail
           go_roundw
           case rel => exact ⟨pos + 4, L ++ [q], by omega, by go_num, HO6, Lib.hid (by rw [List.length_append]; have := HLL.out; simp; omega), HA6, HV6, HB6⟩
           case measure => simp [intOf]; omega
      have c4i : ¬ (b : Int) < 248 := by omega
      have DB : Hid (Utf8.decode s pos = (65533, 1)) := Lib.hid (dec_bad s pos (by rw [BV.out]; omega) (by rw [BV.out]; omega))
      have ix := IX.out
      obtain rfl : false = va := by rw [← HV.out, VS.out, if_pos DB.out]
      go_wp2_with fail
      go_ret2
      exact ⟨HB.out, rfl⟩
  · obtain rfl : pos = s.size := by omega
    obtain rfl : true = va := by rw [← HV.out]; exact (valid_end s).symm
    have hns : L.length ≤ 1000 := by have := HLL.out; have := HS.out; omega
    have CO : Hid (CellsAt wr so (intsV L)) := Lib.hid (CellsAt.ownN HO.out)
    have FA : Hid (L.all okC = allG s) := Lib.hid (by rw [Bool.eq_iff_iff, HA.out, allG_iff])
    go_wp2_with fail
    go_ret2
    exact ⟨HB.out, L, so, L.length, ⟨co, rfl⟩, rfl, hns, CO.out, FA.out⟩
end Go.Proofs.YtjlliohjeiclaaaGreatDoor
namespace Go.Proofs.YtjlliohjeiclaaaGreatDoor
namespace Ku
open Go.Op (bytesLess)
open St
def pathG (l : List ByteArray) : Bool := decide (l.length ≤ 6) && l.all keyG
theorem cmpB_eq : ∀ (l m : List UInt8), Lib.compareBytes l m = if bytesLess l m = true then -1 else if bytesLess m l = true then 1 else 0
 | [], [] => by simp [Lib.compareBytes, bytesLess]
 | [], _ :: _ => by simp [Lib.compareBytes, bytesLess]
 | _ :: _, [] => by simp [Lib.compareBytes, bytesLess]
 | a :: la, b :: lb => by
  have ih := cmpB_eq la lb
  unfold Lib.compareBytes
  by_cases h1 : a < b
  · rw [if_pos h1]; simp [bytesLess, h1]
  · rw [if_neg h1]
    by_cases h2 : b < a
    · rw [if_pos h2]
      have h3 : ¬ a = b := fun e => by rw [e] at h2; exact absurd h2 (by rw [UInt8.lt_iff_toNat_lt]; omega)
      simp [bytesLess, h1, h2, h3]
    · rw [if_neg h2]
      have h3 : a = b := by
       have n1 : ¬ a.toNat < b.toNat := fun h => h1 (UInt8.lt_iff_toNat_lt.2 h)
       have n2 : ¬ b.toNat < a.toNat := fun h => h2 (UInt8.lt_iff_toNat_lt.2 h)
       exact UInt8.toNat_inj.1 (by omega)
      subst h3
      rw [ih]
      simp [bytesLess, h1]
theorem cmpB_txt (a b : ByteArray) : Lib.compareBytes a.data.toList b.data.toList = txtC a b := by
 rw [cmpB_eq]
 unfold txtC Pm.klt
 rw [ByteArray.toList_eq, ByteArray.toList_eq]
end Ku
end Go.Proofs.YtjlliohjeiclaaaGreatDoor
