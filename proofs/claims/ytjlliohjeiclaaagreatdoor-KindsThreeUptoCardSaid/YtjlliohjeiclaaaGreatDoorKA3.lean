/- Words, contracts and walks that the proof stands on (KyM KyS TxP KyT GrowN KnA KsA KuA Tail KsB KuC KsD Range Range2 HeldW KeepE Marks KsE). -/
import Derived.BigQuiet
import Derived.Deep.CutBlock
import Derived.Deep.DeepCutAuto
import Derived.Deep.DeepMust
import Derived.Deep.QuietTactic
import Derived.Deep.RegionHeld3
import Derived.Laws.RangeAny
import Derived.Lib.Bytealg
import Derived.Lib.TrimUEq
import Derived.Lib.ValidAsc
import Derived.Lib.ValidU
import Derived.LoopTactic
import Derived.OneCell
import Derived.RangeFuncBound
import Derived.RangeFuncBox
import Derived.RangeFuncCalls
import Derived.RangeFuncFrom
import Derived.RangeFuncKeeps
import Derived.RangeFuncLeaves
import Derived.RangeFuncNested
import Derived.RangeFuncWrites
import Derived.Shelf.RegionOpen
import Derived.Shelf.Small.Strs
import Derived.Shelf.Small.Wraps
import Derived.Shelf.Strings.BuilderK
import Derived.Shelf.Strings.Cut
import Derived.Shelf.Unicode.ValidAny
import Derived.Test.YtjlliohjeiclaaaGreatDoorKA1
import Derived.Test.YtjlliohjeiclaaaGreatDoorKA2
namespace Go.Proofs.YtjlliohjeiclaaaGreatDoor
open Go.RowKit St
def hasV (l : List Ev) (s : Sv) : Bool := l.any fun y => decide (y.1 = s)
theorem hasV_none {l : List Ev} {s : Sv} (h : ∀ y ∈ l, y.1 ≠ s) : hasV l s = false := by
 unfold hasV
 rw [List.any_eq_false]
 intro y hy
 simpa using h y hy
theorem hasV_some {l : List Ev} {s : Sv} {k : Nat} (hk : k < l.length) (h : l[k].1 = s) : hasV l s = true := by
 unfold hasV
 rw [List.any_eq_true]
 exact ⟨l[k], List.getElem_mem hk, by simpa using h⟩
theorem take_none {α : Type} {l : List α} {k : Nat} {p : α → Prop} (hk : k < l.length) (h : ∀ y ∈ l.take k, p y) (hx : p l[k]) : ∀ y ∈ l.take (k + 1), p y := by
 intro y hy
 rw [List.take_succ_eq_append_getElem hk, List.mem_append, List.mem_singleton] at hy
 rcases hy with hy | rfl
 · exact h y hy
 · exact hx
set_option maxRecDepth 100000 in
set_option maxHeartbeats 2000000 in
theorem ref9_find (l : List Ev) (s : Sv) (a : Option Addr) (n c : Nat) (w : World) (hl : CellsAt w a (elsV l)) (hn : n = l.length) (hb : n ≤ 9223372036854775807) :
 Calls Tryz.prog 130 #[.slice a n c, .agg #[.int .i64 s.g, .int .i64 s.r, .string s.l, .int .i64 s.n, .int .i64 s.i]] w fun e w' => ∃ i : Int, e = .returned (.int .i64 i) ∧ (decide (0 ≤ i) = hasV l s) ∧ Below w.heap.size w w' := by
 have X := heap_alloc_new w (.cells #[.int .i64 s.g, .int .i64 s.r, .string s.l, .int .i64 s.n, .int .i64 s.i] 43)
 have B0 := below_new w (.cells #[.int .i64 s.g, .int .i64 s.r, .string s.l, .int .i64 s.n, .int .i64 s.i] 43)
 have HL := Lib.hid (hl.below B0 rfl)
 clear hl
 have EN := sv_eql
 have F0 : Hid ((∀ y ∈ l.take n, y.1 ≠ s) → hasV l s = false) := Lib.hid (fun h => hasV_none (by rw [hn, List.take_length] at h; exact h))
 have F1 : Hid (∀ k (h1 : k < l.length), l[k].1 = s → hasV l s = true) := Lib.hid (fun k h1 h => hasV_some h1 h)
 generalize hasV l s = res at *
 go_enter Tryz.func130, Tryz.ntmps130
 go_wp2_with fail
 generalize w.alloc (.cells #[.int .i64 s.g, .int .i64 s.r, .string s.l, .int .i64 s.n, .int .i64 s.i] 43) = W at *
 have X0 := Lib.hid X
 have B1 := Lib.hid B0
 clear X B0
 go_loopw [5] (fun i wr => ∃ k : Nat, k ≤ n ∧ i = .int .i64 (k : Int) ∧ Hid (∀ y ∈ l.take k, y.1 ≠ s) ∧ Hid (Below W.heap.size W wr)) (fun i _ => n - (intOf i).toNat)
 case atStart => exact ⟨0, Nat.zero_le _, rfl, Lib.hid (fun y hy => (by cases hy)), Lib.hid (Below.refl _ _)⟩
 case round =>
  obtain ⟨k, hk, rfl, HT, HB⟩ := hrel
  by_cases hlt : k < n
  · have hk1 : k < l.length := by omega
    obtain ⟨ba, oa, rfl, ca⟩ := els_get (HL.out.below HB.out rfl) k hk1
    obtain ⟨p0, p1, p2, p3, p4, p5⟩ := ca
    have G1 : Hid (l[k].1 = s → res = true) := Lib.hid (F1.out k hk1)
    have G2 : Hid (l[k].1 ≠ s → ∀ y ∈ l.take (k + 1), y.1 ≠ s) := Lib.hid (fun h => take_none hk1 HT.out h)
    generalize l[k] = x at *
    have y1 := boxStays X0.out HB.out
    have q0 := cell_of_row _ _ 0 _ _ _ y1
    have q1 := cell_of_row _ _ 1 _ _ _ y1
    have q2 := cell_of_row _ _ 2 _ _ _ y1
    have q3 := cell_of_row _ _ 3 _ _ _ y1
    have q4 := cell_of_row _ _ 4 _ _ _ y1
    clear y1
    have hki : (k : Int) < (n : Int) := by omega
    by_cases hxy : x.1 = s
    · have hr := Lib.hid (G1.out hxy)
      have hd : decide (x.1 = s) = true := decide_eq_true hxy
      clear hxy
      go_wp2_with fail
      go_quiet (fail)
      go_wp2_with fail
      go_ret
      refine ⟨(k : Int), rfl, by rw [hr.out]; simp, B1.out.trans ((below_drews HB.out _).mono B1.out.size)⟩
    · have H := Lib.hid (G2.out hxy)
      have hd : decide (x.1 = s) = false := decide_eq_false hxy
      clear hxy
      go_wp2_with fail
      go_quiet (fail)
      go_wp2_with fail
      refine ⟨⟨k + 1, by omega, by go_num, H, Lib.hid (below_drews HB.out _)⟩, by simp [intOf]; omega⟩
  · obtain rfl : k = n := by omega
    have hr := Lib.hid (F0.out HT.out)
    go_wp2_with fail
    go_ret
    refine ⟨-1, rfl, by rw [hr.out]; decide, B1.out.trans (HB.out.mono B1.out.size)⟩
end Go.Proofs.YtjlliohjeiclaaaGreatDoor
namespace Go.Proofs.YtjlliohjeiclaaaGreatDoor
open Go.RowKit St
theorem CellsAt.subN {w : World} {a : Option Addr} {vs : List Value} (h : CellsAt w a vs) (cap l size : Nat) (hl : cap = l → vs.length ≤ l * size) : CellsAt w (subN a cap l size) (vs.drop (l * size)) := by
 unfold Go.Proofs.YtjlliohjeiclaaaGreatDoor.subN
 split
 · rename_i e
   rw [List.drop_of_length_le (hl e)]
   exact CellsAt.nil _ _
 · exact h.drop (l * size)
theorem ElCell.below {w w' : World} {b o : Nat} {e : Ev} (h : ElCell w b o e) (hb : Below w.heap.size w w') : ElCell w' b o e := by
 have hl : b < w.heap.size := cell_lt h.c0
 have k : ∀ j, w'.cell? ⟨b, j, none⟩ = w.cell? ⟨b, j, none⟩ := fun j => hb.cell (p := ⟨b, j, none⟩) hl
 exact ⟨by rw [k]; exact h.c0, by rw [k]; exact h.c1, by rw [k]; exact h.c2, by rw [k]; exact h.c3, by rw [k]; exact h.c4, by rw [k]; exact h.c5⟩
end Go.Proofs.YtjlliohjeiclaaaGreatDoor
namespace Go.Proofs.YtjlliohjeiclaaaGreatDoor
open Go.RowKit
def txV (l : List ByteArray) : List Value := l.map Value.string
theorem tx_get {w : World} {a : Option Addr} {l : List ByteArray} (h : CellsAt w a (txV l)) (k : Nat) (hk : k < l.length) : ∃ b off, a = some ⟨b, off, none⟩ ∧ w.cell? ⟨b, off + k, none⟩ = some (.string l[k]) := h.get k _ (by simp [txV, hk])
end Go.Proofs.YtjlliohjeiclaaaGreatDoor
namespace Go.Proofs.YtjlliohjeiclaaaGreatDoor
open Go.RowKit St
set_option maxRecDepth 100000 in
set_option maxHeartbeats 2000000 in
theorem ref9_SameTexts (l m : List ByteArray) (a b : Option Addr) (n1 n2 c1 c2 : Nat) (w : World) (hl : CellsAt w a (txV l)) (hm : CellsAt w b (txV m)) (hn1 : n1 = l.length) (hn2 : n2 = m.length) (hb : n1 ≤ 9223372036854775807) :
 Calls Tryz.prog 43 #[.slice a n1 c1, .slice b n2 c2] w fun e w' => e = .returned (.bool (decide (l = m))) ∧ Below w.heap.size w w' := by
 have HL := Lib.hid hl
 have HM := Lib.hid hm
 clear hl hm
 go_enter Tryz.func43, Tryz.ntmps43
 by_cases hlen : n1 = n2
 · subst hlen
   have hN : Hid (l.length = m.length) := Lib.hid (by omega)
   have E : Hid (l.take n1 = m.take n1 → decide (l = m) = true) := Lib.hid (fun h => eq_all hN.out (by rw [← hn1]; exact h))
   have F : Hid (∀ k (h1 : k < l.length) (h2 : k < m.length), l[k] ≠ m[k] → decide (l = m) = false) := Lib.hid (fun k h1 h2 h => ne_at h1 h2 h)
   generalize decide (l = m) = res at *
   go_wp2_with fail
   go_loopw [5] (fun i wr => ∃ k : Nat, k ≤ n1 ∧ i = .int .i64 (k : Int) ∧ Hid (l.take k = m.take k) ∧ Hid (Below w.heap.size w wr)) (fun i _ => n1 - (intOf i).toNat)
   case atStart => exact ⟨0, Nat.zero_le _, rfl, Lib.hid rfl, Lib.hid (Below.refl _ _)⟩
   case round =>
    obtain ⟨k, hk, rfl, HT, HB⟩ := hrel
    by_cases hlt : k < n1
    · have hk1 : k < l.length := by omega
      have hk2 : k < m.length := by omega
      obtain ⟨ba, oa, rfl, ca⟩ := tx_get (HL.out.below HB.out rfl) k hk1
      obtain ⟨bb, ob, rfl, cb⟩ := tx_get (HM.out.below HB.out rfl) k hk2
      have G1 : Hid (l[k] ≠ m[k] → res = false) := Lib.hid (F.out k hk1 hk2)
      have G2 : Hid (l[k] = m[k] → l.take (k + 1) = m.take (k + 1)) := Lib.hid (take_eq hk1 hk2 HT.out)
      generalize l[k] = x at *
      generalize m[k] = y at *
      have hki : (k : Int) < (n1 : Int) := by omega
      by_cases hxy : x = y
      · have H := Lib.hid (G2.out hxy)
        have hd : (x.toList == y.toList) = true := by rw [Pm.eq_iff]; simpa using hxy
        clear hxy
        go_wp2_with fail
        go_quiet (fail)
        go_wp2_with fail
        refine ⟨⟨k + 1, by omega, by go_num, H, Lib.hid (below_drews HB.out _)⟩, by simp [intOf]; omega⟩
      · have hr := Lib.hid (G1.out hxy)
        have hd : (x.toList == y.toList) = false := by rw [Pm.eq_iff]; simpa using hxy
        clear hxy
        go_wp2_with fail
        go_quiet (fail)
        go_wp2_with fail
        go_ret
        rw [hr.out]
        exact ⟨rfl, below_drews HB.out _⟩
    · obtain rfl : k = n1 := by omega
      have hr := Lib.hid (E.out HT.out)
      go_wp2_with fail
      go_ret
      rw [hr.out]
      exact ⟨rfl, HB.out⟩
 · have hr : Hid (decide (l = m) = false) := Lib.hid (by rw [decide_eq_false_iff_not]; rintro rfl; omega)
   have hne : ((n1 : Int) == (n2 : Int)) = false := by simp; omega
   have hne' : ¬ (n1 : Int) = (n2 : Int) := by omega
   generalize decide (l = m) = res at *
   go_wp2_with fail
   go_ret
   rw [hr.out]
   exact ⟨rfl, Below.refl _ _⟩
end Go.Proofs.YtjlliohjeiclaaaGreatDoor
namespace Go.Proofs.YtjlliohjeiclaaaGreatDoor
open Go.RowKit
theorem grow_keep {w w' : World} {b : Option Nat} {g : Nat} {o : Obj} (hgr : w.grownBy w' b) (hY : w.heap[g]? = some o) (hd : b ≠ some g) : w'.heap[g]? = some o :=
 (hgr.block g (Array.getElem?_eq_some_iff.1 hY).1 (fun e => hd e.symm)).trans hY
theorem cellsAt_setRow {w : World} {g9 g : Nat} {cs : Array Value} {vs : List Value} (h : CellsAt w (some ⟨g9, 0, none⟩) vs) (hne : g9 ≠ g) : CellsAt (w.setRow g cs) (some ⟨g9, 0, none⟩) vs := by
 intro i hi
 obtain ⟨b, off, e, hc⟩ := h i hi
 cases e
 refine ⟨_, _, rfl, ?_⟩
 unfold World.cell? at hc ⊢
 rw [setRow_other _ _ _ _ hne]
 exact hc
theorem cells_grown {w w' : World} {a : Option Addr} {vs : List Value} {g : Nat} (h : CellsAt w a vs) (hg : w.grownBy w' (some g)) (hne : ∀ ad, a = some ad → ad.block ≠ g) : CellsAt w' a vs := by
 intro i hi
 obtain ⟨b, off, rfl, hc⟩ := h i hi
 have hl := cell_lt hc
 refine ⟨b, off, rfl, ?_⟩
 rw [World.cell?_of_block (a := ⟨b, off + i, none⟩) (hg.block b hl (fun e => hne _ rfl (Option.some.inj e)))]
 exact hc
theorem grown_below {w w' : World} {B : Nat} {r : Option Nat} (h : Below B w w') (hB : w.heap.size ≤ B) : w.grownBy w' r := ⟨h.os, h.tape, h.output, h.size, fun k hk _ => h.block k (by omega)⟩
theorem grown_tr {A B C : World} {r : Option Nat} (h : A.grownBy B r) (k : B.grownBy C r) : A.grownBy C r :=
 ⟨k.os.trans h.os, k.tape.trans h.tape, k.output.trans h.output, Nat.le_trans h.size k.size, fun i hi he => (k.block i (Nat.lt_of_lt_of_le hi h.size) he).trans (h.block i hi he)⟩
theorem grown_set (w : World) (X o : Nat) (v : Value) : w.grownBy (w.setCell ⟨X, o, none⟩ v) (some X) := ⟨rfl, rfl, rfl, by simp [World.setCell], fun k hk hne => Below.heap_setCell _ _ _ _ (fun e => hne (by rw [e]))⟩
end Go.Proofs.YtjlliohjeiclaaaGreatDoor
namespace Go.Proofs.YtjlliohjeiclaaaGreatDoor
open Go.RowKit St Pm
namespace Kn
def wordL : List ByteArray := [⟨#[]⟩, ⟨#[99, 111, 117, 110, 116, 101, 114]⟩, ⟨#[115, 101, 116]⟩, ⟨#[114, 101, 103, 105, 115, 116, 101, 114]⟩, ⟨#[113, 117, 101, 117, 101]⟩, ⟨#[106, 111, 117, 114, 110, 97, 108]⟩, ⟨#[109, 97, 112]⟩]
def doL : List ByteArray := [⟨#[]⟩, ⟨#[97, 100, 100]⟩, ⟨#[105, 110, 115, 101, 114, 116]⟩, ⟨#[114, 101, 109, 111, 118, 101]⟩, ⟨#[119, 114, 105, 116, 101]⟩, ⟨#[112, 117, 115, 104]⟩, ⟨#[112, 111, 112]⟩, ⟨#[97, 112, 112, 101, 110, 100]⟩]
def wordG (k : Int) : ByteArray := if 1 ≤ k ∧ k ≤ 6 then wordL.getD k.toNat ⟨#[]⟩ else ⟨#[]⟩
def doG (d : Int) : ByteArray := if 1 ≤ d ∧ d ≤ 7 then doL.getD d.toNat ⟨#[]⟩ else ⟨#[]⟩
def kindK (d : Int) : Int := if d = 1 then 1 else if d = 2 then 2 else if d = 3 then 2 else if d = 4 then 3 else if d = 5 then 4 else if d = 6 then 4 else if d = 7 then 5 else 0
def thingG (k : Int) : Bool := decide (1 ≤ k) && decide (k ≤ 5)
def bringsG (d : Int) : Bool := decide (d = 2) || (decide (d = 4) || (decide (d = 5) || decide (d = 7)))
theorem of_cases (d : Int) : (d = 1 ∨ d = 2 ∨ d = 3 ∨ d = 4 ∨ d = 5 ∨ d = 6 ∨ d = 7) ∨ (d ≠ 1 ∧ d ≠ 2 ∧ d ≠ 3 ∧ d ≠ 4 ∧ d ≠ 5 ∧ d ≠ 6 ∧ d ≠ 7) := by omega
theorem kindK_none {d : Int} (h : d ≠ 1 ∧ d ≠ 2 ∧ d ≠ 3 ∧ d ≠ 4 ∧ d ≠ 5 ∧ d ≠ 6 ∧ d ≠ 7) : kindK d = 0 := by
 obtain ⟨h1, h2, h3, h4, h5, h6, h7⟩ := h
 unfold kindK
 rw [if_neg h1, if_neg h2, if_neg h3, if_neg h4, if_neg h5, if_neg h6, if_neg h7]
end Kn
open Kn
def wordV : Array Value := #[.string ⟨#[]⟩, .string ⟨#[99, 111, 117, 110, 116, 101, 114]⟩, .string ⟨#[115, 101, 116]⟩, .string ⟨#[114, 101, 103, 105, 115, 116, 101, 114]⟩, .string ⟨#[113, 117, 101, 117, 101]⟩, .string ⟨#[106, 111, 117, 114, 110, 97, 108]⟩, .string ⟨#[109, 97, 112]⟩]
def doV : Array Value := #[.string ⟨#[]⟩, .string ⟨#[97, 100, 100]⟩, .string ⟨#[105, 110, 115, 101, 114, 116]⟩, .string ⟨#[114, 101, 109, 111, 118, 101]⟩, .string ⟨#[119, 114, 105, 116, 101]⟩, .string ⟨#[112, 117, 115, 104]⟩, .string ⟨#[112, 111, 112]⟩, .string ⟨#[97, 112, 112, 101, 110, 100]⟩]
theorem idxW (k : Nat) (hk : k < 7) (W : World) : (Instr.index 175 (.agg wordV) (.int .i64 (k : Int))).run Tryz.prog W = .ok (.string (wordL.getD k ⟨#[]⟩)) W := by
 have h0 : (Instr.index 175 (.agg wordV) (.int .i64 0)).run Tryz.prog W = .ok (.string ⟨#[]⟩) W := by kernel_rfl
 have h1 : (Instr.index 175 (.agg wordV) (.int .i64 1)).run Tryz.prog W = .ok (.string ⟨#[99, 111, 117, 110, 116, 101, 114]⟩) W := by kernel_rfl
 have h2 : (Instr.index 175 (.agg wordV) (.int .i64 2)).run Tryz.prog W = .ok (.string ⟨#[115, 101, 116]⟩) W := by kernel_rfl
 have h3 : (Instr.index 175 (.agg wordV) (.int .i64 3)).run Tryz.prog W = .ok (.string ⟨#[114, 101, 103, 105, 115, 116, 101, 114]⟩) W := by kernel_rfl
 have h4 : (Instr.index 175 (.agg wordV) (.int .i64 4)).run Tryz.prog W = .ok (.string ⟨#[113, 117, 101, 117, 101]⟩) W := by kernel_rfl
 have h5 : (Instr.index 175 (.agg wordV) (.int .i64 5)).run Tryz.prog W = .ok (.string ⟨#[106, 111, 117, 114, 110, 97, 108]⟩) W := by kernel_rfl
 have h6 : (Instr.index 175 (.agg wordV) (.int .i64 6)).run Tryz.prog W = .ok (.string ⟨#[109, 97, 112]⟩) W := by kernel_rfl
 rcases (by omega : k = 0 ∨ k = 1 ∨ k = 2 ∨ k = 3 ∨ k = 4 ∨ k = 5 ∨ k = 6) with rfl | rfl | rfl | rfl | rfl | rfl | rfl
 · exact h0
 · exact h1
 · exact h2
 · exact h3
 · exact h4
 · exact h5
 · exact h6
theorem idxD (k : Nat) (hk : k < 8) (W : World) : (Instr.index 177 (.agg doV) (.int .i64 (k : Int))).run Tryz.prog W = .ok (.string (doL.getD k ⟨#[]⟩)) W := by
 have h0 : (Instr.index 177 (.agg doV) (.int .i64 0)).run Tryz.prog W = .ok (.string ⟨#[]⟩) W := by kernel_rfl
 have h1 : (Instr.index 177 (.agg doV) (.int .i64 1)).run Tryz.prog W = .ok (.string ⟨#[97, 100, 100]⟩) W := by kernel_rfl
 have h2 : (Instr.index 177 (.agg doV) (.int .i64 2)).run Tryz.prog W = .ok (.string ⟨#[105, 110, 115, 101, 114, 116]⟩) W := by kernel_rfl
 have h3 : (Instr.index 177 (.agg doV) (.int .i64 3)).run Tryz.prog W = .ok (.string ⟨#[114, 101, 109, 111, 118, 101]⟩) W := by kernel_rfl
 have h4 : (Instr.index 177 (.agg doV) (.int .i64 4)).run Tryz.prog W = .ok (.string ⟨#[119, 114, 105, 116, 101]⟩) W := by kernel_rfl
 have h5 : (Instr.index 177 (.agg doV) (.int .i64 5)).run Tryz.prog W = .ok (.string ⟨#[112, 117, 115, 104]⟩) W := by kernel_rfl
 have h6 : (Instr.index 177 (.agg doV) (.int .i64 6)).run Tryz.prog W = .ok (.string ⟨#[112, 111, 112]⟩) W := by kernel_rfl
 have h7 : (Instr.index 177 (.agg doV) (.int .i64 7)).run Tryz.prog W = .ok (.string ⟨#[97, 112, 112, 101, 110, 100]⟩) W := by kernel_rfl
 rcases (by omega : k = 0 ∨ k = 1 ∨ k = 2 ∨ k = 3 ∨ k = 4 ∨ k = 5 ∨ k = 6 ∨ k = 7) with rfl | rfl | rfl | rfl | rfl | rfl | rfl | rfl
 · exact h0
 · exact h1
 · exact h2
 · exact h3
 · exact h4
 · exact h5
 · exact h6
 · exact h7
theorem kn_words (w : World) : Calls Tryz.prog 117 #[] w fun e w' => e = .returned (.agg wordV) ∧ Below w.heap.size w w' := by
 go_enter Tryz.func117, Tryz.ntmps117
 go_wp2
 have q0 := cell_of_row _ _ 0 _ _ _ (heap_alloc_new w (.cells wordV 175))
 have q1 := cell_of_row _ _ 1 _ _ _ (heap_alloc_new w (.cells wordV 175))
 have q2 := cell_of_row _ _ 2 _ _ _ (heap_alloc_new w (.cells wordV 175))
 have q3 := cell_of_row _ _ 3 _ _ _ (heap_alloc_new w (.cells wordV 175))
 have q4 := cell_of_row _ _ 4 _ _ _ (heap_alloc_new w (.cells wordV 175))
 have q5 := cell_of_row _ _ 5 _ _ _ (heap_alloc_new w (.cells wordV 175))
 have q6 := cell_of_row _ _ 6 _ _ _ (heap_alloc_new w (.cells wordV 175))
 simp only [wordV] at q0 q1 q2 q3 q4 q5 q6
 refine bodyPost_ret (v := .agg wordV) ?_ rfl ⟨rfl, below_new _ _⟩
 simp [results, Tryz.results117, go_sem, q0, q1, q2, q3, q4, q5, q6, wordV]
theorem kn_does (w : World) : Calls Tryz.prog 118 #[] w fun e w' => e = .returned (.agg doV) ∧ Below w.heap.size w w' := by
 go_enter Tryz.func118, Tryz.ntmps118
 go_wp2
 have q0 := cell_of_row _ _ 0 _ _ _ (heap_alloc_new w (.cells doV 177))
 have q1 := cell_of_row _ _ 1 _ _ _ (heap_alloc_new w (.cells doV 177))
 have q2 := cell_of_row _ _ 2 _ _ _ (heap_alloc_new w (.cells doV 177))
 have q3 := cell_of_row _ _ 3 _ _ _ (heap_alloc_new w (.cells doV 177))
 have q4 := cell_of_row _ _ 4 _ _ _ (heap_alloc_new w (.cells doV 177))
 have q5 := cell_of_row _ _ 5 _ _ _ (heap_alloc_new w (.cells doV 177))
 have q6 := cell_of_row _ _ 6 _ _ _ (heap_alloc_new w (.cells doV 177))
 have q7 := cell_of_row _ _ 7 _ _ _ (heap_alloc_new w (.cells doV 177))
 simp only [doV] at q0 q1 q2 q3 q4 q5 q6 q7
 refine bodyPost_ret (v := .agg doV) ?_ rfl ⟨rfl, below_new _ _⟩
 simp [results, Tryz.results118, go_sem, q0, q1, q2, q3, q4, q5, q6, q7, doV]
theorem kn_Of (d : Int) (w : World) : Calls Tryz.prog 121 #[.int .i64 d] w fun e w' => e = .returned (.int .i64 (kindK d)) ∧ w = w' := by
 rcases of_cases d with h | h
 · rcases h with rfl | rfl | rfl | rfl | rfl | rfl | rfl <;> (go_enter Tryz.func121, Tryz.ntmps121; go_wp2; go_ret; exact ⟨rfl, rfl⟩)
 · rw [kindK_none h]
   obtain ⟨h1, h2, h3, h4, h5, h6, h7⟩ := h
   go_enter Tryz.func121, Tryz.ntmps121
   go_wp2
   go_ret
   exact ⟨rfl, rfl⟩
theorem kn_thing (k : Int) (w : World) : Calls Tryz.prog 84 #[.int .i64 k] w fun e w' => e = .returned (.bool (thingG k)) ∧ w = w' := by
 by_cases h1 : 1 ≤ k <;> by_cases h2 : k < 6
 all_goals
  go_enter Tryz.func84, Tryz.ntmps84
  go_wp2
  go_ret
  refine ⟨?_, rfl⟩
  unfold thingG
  have h3 : decide (k ≤ 5) = decide (k < 6) := by by_cases h : k < 6 <;> simp [h] <;> omega
  simp [h1, h2, h3]
theorem kn_brings (d : Int) (w : World) : Calls Tryz.prog 81 #[.int .i64 d] w fun e w' => e = .returned (.bool (bringsG d)) ∧ w = w' := by
 rcases of_cases d with h | h
 · rcases h with rfl | rfl | rfl | rfl | rfl | rfl | rfl <;> (go_enter Tryz.func81, Tryz.ntmps81; go_wp2; go_ret; exact ⟨rfl, rfl⟩)
 · obtain ⟨h1, h2, h3, h4, h5, h6, h7⟩ := h
   go_enter Tryz.func81, Tryz.ntmps81
   go_wp2
   go_ret
   refine ⟨?_, rfl⟩
   unfold bringsG
   simp [h2, h4, h5, h7]
set_option maxRecDepth 100000 in
theorem kn_Word (k : Int) (w : World) : Calls Tryz.prog 74 #[.int .i64 k] w fun e w' => e = .returned (.string (wordG k)) ∧ Below w.heap.size w w' := by
 by_cases h : 1 ≤ k ∧ k ≤ 6
 · obtain ⟨n, rfl⟩ : ∃ n : Nat, k = (n : Int) := ⟨k.toNat, by omega⟩
   have hn : n < 7 := by omega
   have e0 : wordG (n : Int) = wordL.getD n ⟨#[]⟩ := by unfold wordG; rw [if_pos h]; rfl
   rw [e0]
   have hi := fun W => idxW n hn W
   generalize wordL.getD n ⟨#[]⟩ = x at hi ⊢
   have h1 : ¬ (n : Int) < 1 := by omega
   have h2 : ¬ (6 : Int) < (n : Int) := by omega
   have h3 : 1 ≤ n := by omega
   have h4 : n ≤ 6 := by omega
   clear e0 h hn
   go_enter Tryz.func74, Tryz.ntmps74
   go_wp2_with fail
   refine (kn_words w).mono ?_
   rintro e w1 ⟨rfl, hb⟩
   have HB := Lib.hid hb
   clear hb
   go_wp2_with fail
   go_ret
   exact ⟨rfl, HB.out⟩
 · have e0 : wordG k = ⟨#[]⟩ := by unfold wordG; rw [if_neg h]
   rw [e0]
   clear e0
   by_cases h1 : k < 1
   · go_enter Tryz.func74, Tryz.ntmps74
     go_wp2_with fail
     go_ret
     exact ⟨rfl, Below.refl _ _⟩
   · have h2 : 6 < k := by omega
     go_enter Tryz.func74, Tryz.ntmps74
     go_wp2_with fail
     go_ret
     exact ⟨rfl, Below.refl _ _⟩
set_option maxRecDepth 100000 in
theorem kn_DoWord (k : Int) (w : World) : Calls Tryz.prog 75 #[.int .i64 k] w fun e w' => e = .returned (.string (doG k)) ∧ Below w.heap.size w w' := by
 by_cases h : 1 ≤ k ∧ k ≤ 7
 · obtain ⟨n, rfl⟩ : ∃ n : Nat, k = (n : Int) := ⟨k.toNat, by omega⟩
   have hn : n < 8 := by omega
   have e0 : doG (n : Int) = doL.getD n ⟨#[]⟩ := by unfold doG; rw [if_pos h]; rfl
   rw [e0]
   have hi := fun W => idxD n hn W
   generalize doL.getD n ⟨#[]⟩ = x at hi ⊢
   have h1 : ¬ (n : Int) < 1 := by omega
   have h2 : ¬ (7 : Int) < (n : Int) := by omega
   have h3 : 1 ≤ n := by omega
   have h4 : n ≤ 7 := by omega
   clear e0 h hn
   go_enter Tryz.func75, Tryz.ntmps75
   go_wp2_with fail
   refine (kn_does w).mono ?_
   rintro e w1 ⟨rfl, hb⟩
   have HB := Lib.hid hb
   clear hb
   go_wp2_with fail
   go_ret
   exact ⟨rfl, HB.out⟩
 · have e0 : doG k = ⟨#[]⟩ := by unfold doG; rw [if_neg h]
   rw [e0]
   clear e0
   by_cases h1 : k < 1
   · go_enter Tryz.func75, Tryz.ntmps75
     go_wp2_with fail
     go_ret
     exact ⟨rfl, Below.refl _ _⟩
   · have h2 : 7 < k := by omega
     go_enter Tryz.func75, Tryz.ntmps75
     go_wp2_with fail
     go_ret
     exact ⟨rfl, Below.refl _ _⟩
set_option maxRecDepth 100000 in
theorem kn_Empty (k : Int) (w : World) : Calls Tryz.prog 71 #[.int .i64 k] w fun e w' => e = .returned (.tuple #[.agg #[.int .i64 (if thingG k = true then k else 0), .int .i64 0, .slice none 0 0], .int .i64 (if thingG k = true then 0 else 2)]) ∧ Below w.heap.size w w' := by
 have C := Lib.hid (fun W => kn_thing k W)
 generalize thingG k = b at C ⊢
 cases b
 all_goals
  go_enter Tryz.func71, Tryz.ntmps71
  go_wp2_with fail
  refine (C.out _).mono ?_
  rintro e w1 ⟨rfl, rfl⟩
 · go_wp2_with fail
   have q0 := cell_of_row _ _ 0 _ _ _ (heap_alloc_new w (.cells #[.int .i64 0, .int .i64 0, .slice none 0 0] 79))
   have q1 := cell_of_row _ _ 1 _ _ _ (heap_alloc_new w (.cells #[.int .i64 0, .int .i64 0, .slice none 0 0] 79))
   have q2 := cell_of_row _ _ 2 _ _ _ (heap_alloc_new w (.cells #[.int .i64 0, .int .i64 0, .slice none 0 0] 79))
   refine bodyPost_ret ?_ rfl ⟨rfl, below_new _ _⟩
   simp [results, Tryz.results71, go_sem, q0, q1, q2]
 · go_wp2_with fail
   have q0 := cell_of_row _ _ 0 _ _ _ (heap_alloc_new w (.cells #[.int .i64 k, .int .i64 0, .slice none 0 0] 79))
   have q1 := cell_of_row _ _ 1 _ _ _ (heap_alloc_new w (.cells #[.int .i64 k, .int .i64 0, .slice none 0 0] 79))
   have q2 := cell_of_row _ _ 2 _ _ _ (heap_alloc_new w (.cells #[.int .i64 k, .int .i64 0, .slice none 0 0] 79))
   refine bodyPost_ret ?_ rfl ⟨rfl, below_new _ _⟩
   simp [results, Tryz.results71, go_sem, q0, q1, q2]
end Go.Proofs.YtjlliohjeiclaaaGreatDoor
namespace Go.Proofs.YtjlliohjeiclaaaGreatDoor
open Go.RowKit Go.Shelf Go.Proofs
def lay196_ren : Go.Shelf.Ren := ⟨fun | 196 => 155 | 259 => 187 | n => n, fun | 0 => 0 | 3 => 3 | 4 => 4 | 5 => 5 | 9 => 9 | 12 => 12 | 46 => 186 | 53 => 224 | 119 => 240 | 138 => 242 | 139 => 243 | n => n, fun | 3 => 0 | 4 => 1 | n => n⟩
theorem lay196 : Go.Proofs.Lays.n196 Tryz.prog lay196_ren := {
 mixed := by kernel_rfl
 f196 := Tryz.func155.trans (congrArg some (by kernel_rfl))
 f259 := Tryz.func187.trans (congrArg some (by kernel_rfl))
 t0 := Tryz.underlying0
 a0 := Tryz.isAgg0
 z0 := Tryz.sizeOf0
 v0 := Tryz.zeroValue0
 t3 := Tryz.underlying3
 a3 := Tryz.isAgg3
 z3 := Tryz.sizeOf3
 v3 := Tryz.zeroValue3
 t4 := Tryz.underlying4
 a4 := Tryz.isAgg4
 z4 := Tryz.sizeOf4
 v4 := Tryz.zeroValue4
 t5 := Tryz.underlying5
 a5 := Tryz.isAgg5
 z5 := Tryz.sizeOf5
 v5 := Tryz.zeroValue5
 t9 := Tryz.underlying9
 a9 := Tryz.isAgg9
 z9 := Tryz.sizeOf9
 v9 := Tryz.zeroValue9
 t12 := Tryz.underlying12
 a12 := Tryz.isAgg12
 z12 := Tryz.sizeOf12
 v12 := Tryz.zeroValue12
 t46 := Tryz.underlying186
 a46 := Tryz.isAgg186
 z46 := Tryz.sizeOf186
 v46 := Tryz.zeroValue186
 t53 := Tryz.underlying224
 a53 := Tryz.isAgg224
 z53 := Tryz.sizeOf224
 v53 := Tryz.zeroValue224
 t119 := Tryz.underlying240
 a119 := Tryz.isAgg240
 z119 := Tryz.sizeOf240
 t138 := Tryz.underlying242
 a138 := Tryz.isAgg242
 z138 := Tryz.sizeOf242
 v138 := Tryz.zeroValue242
 t139 := Tryz.underlying243
 a139 := Tryz.isAgg243
 z139 := Tryz.sizeOf243
 v139 := Tryz.zeroValue243
 g3 := by kernel_rfl
 g4 := by kernel_rfl
}
def lay106_ren : Go.Shelf.Ren := ⟨fun | 106 => 206 | 213 => 219 | 265 => 226 | n => n, fun | 3 => 3 | 9 => 9 | n => n, fun n => n⟩
theorem lay106 : Go.Proofs.Lays.n106 Tryz.prog lay106_ren := {
 mixed := by kernel_rfl
 f106 := Tryz.func206.trans (congrArg some (by kernel_rfl))
 f213 := Tryz.func219.trans (congrArg some (by kernel_rfl))
 f265 := Tryz.func226.trans (congrArg some (by kernel_rfl))
 t3 := Tryz.underlying3
 a3 := Tryz.isAgg3
 z3 := Tryz.sizeOf3
 v3 := Tryz.zeroValue3
 t9 := Tryz.underlying9
 a9 := Tryz.isAgg9
 z9 := Tryz.sizeOf9
 v9 := Tryz.zeroValue9
}
theorem ks_Compare (a b : ByteArray) (w : World) :
 Calls Tryz.prog 206 #[.string a, .string b] w fun e w' => e = .returned (.int .i64 (Lib.compareBytes a.data.toList b.data.toList)) ∧ w' = w :=
 Any.strings_Compare lay106 a b w
def Glob (w : World) : Prop := Lib.Utf8Tabs 0 1 w ∧ ∃ m, w.cell? ⟨2, 0, none⟩ = some (.int .i64 m)
theorem ks_Valid (s : ByteArray) (w : World) (hs : s.size ≤ 9223372036854775807) (hT : Glob w) :
 Calls Tryz.prog 155 #[.string s] w fun e w' => e = .returned (.bool (Lib.validD s.data.toList)) ∧ Below w.heap.size w w' :=
 Any.utf8_ValidString lay196 s w hs hT.1
theorem Glob.below {w w' : World} (h : Glob w) (hb : Below w.heap.size w w') : Glob w' := by
 have hc : ∀ p v, w.cell? p = some v → w'.cell? p = some v := fun p v hv => (hb.cell (cell_lt hv)).trans hv
 obtain ⟨⟨h1, h2⟩, m, h3⟩ := h
 exact ⟨⟨fun c hc' => hc _ _ (h1 c hc'), fun i hi => ⟨hc _ _ (h2 i hi).1, hc _ _ (h2 i hi).2⟩⟩, m, hc _ _ h3⟩
end Go.Proofs.YtjlliohjeiclaaaGreatDoor
namespace Go.Proofs.YtjlliohjeiclaaaGreatDoor
namespace Ku
open Go.Lib
def goodB (b : UInt8) : Bool := decide (32 ≤ b.toNat) && decide (b.toNat ≠ 47)
theorem dec_step (s : ByteArray) (pos : Nat) (h : pos < s.size) :
 ((s.get! pos).toNat < 128 ∧ Utf8.decode s pos = ((s.get! pos).toNat, 1)) ∨
 (128 ≤ (s.get! pos).toNat ∧ 128 ≤ (Utf8.decode s pos).1 ∧ 1 ≤ (Utf8.decode s pos).2 ∧ pos + (Utf8.decode s pos).2 ≤ s.size ∧ ∀ q, pos ≤ q → q < pos + (Utf8.decode s pos).2 → 128 ≤ (s.get! q).toNat) := by
 by_cases ha : (s.get! pos).toNat < 128
 · left
   refine ⟨ha, ?_⟩
   simp only [Utf8.decode, Nat.add_zero]
   rw [if_pos ha]
 · right
   have h0 : 128 ≤ (s.get! pos).toNat := by omega
   refine ⟨h0, ?_⟩
   have key : ∀ n, n ≤ 4 → pos + n ≤ s.size → (∀ k, 1 ≤ k → k < n → (s.get! (pos + k)).toNat / 64 = 2) → ∀ q, pos ≤ q → q < pos + n → 128 ≤ (s.get! q).toNat := by
    intro n _ _ hc q h1 h2
    by_cases hq : q = pos
    · rw [hq]; exact h0
    · have := hc (q - pos) (by omega) (by omega)
      rw [show pos + (q - pos) = q by omega] at this
      omega
   simp only [Utf8.decode, Nat.add_zero]
   rw [if_neg ha]
   have one : pos + 1 ≤ s.size ∧ ∀ q, pos ≤ q → q < pos + 1 → 128 ≤ (s.get! q).toNat := ⟨h, fun q h1 h2 => by rw [show q = pos by omega]; exact h0⟩
   split
   · rename_i hc
     simp only [Bool.and_eq_true, beq_iff_eq, decide_eq_true_eq] at hc
     split
     · rename_i h80
       exact ⟨h80, by omega, by omega, key 2 (by omega) (by omega) fun k k1 k2 => by rw [show k = 1 by omega]; exact hc.2.2⟩
     · exact ⟨by decide, by decide, one.1, one.2⟩
   · split
     · rename_i hc
       simp only [Bool.and_eq_true, beq_iff_eq, decide_eq_true_eq] at hc
       split
       · rename_i h80
         simp only [Bool.and_eq_true, decide_eq_true_eq] at h80
         refine ⟨by show 128 ≤ _; have := h80.1; simp only [] at *; omega, by simp, by show pos + 3 ≤ _; omega, key 3 (by omega) (by omega) fun k k1 k2 => ?_⟩
         rcases (by omega : k = 1 ∨ k = 2) with rfl | rfl
         · exact hc.1.2.2
         · exact hc.2.2
       · exact ⟨by decide, by decide, one.1, one.2⟩
     · split
       · rename_i hc
         simp only [Bool.and_eq_true, beq_iff_eq, decide_eq_true_eq] at hc
         split
         · rename_i h80
           simp only [Bool.and_eq_true, decide_eq_true_eq] at h80
           refine ⟨by show 128 ≤ _; have := h80.1; simp only [] at *; omega, by simp, by show pos + 4 ≤ _; omega, key 4 (by omega) (by omega) fun k k1 k2 => ?_⟩
           rcases (by omega : k = 1 ∨ k = 2 ∨ k = 3) with rfl | rfl | rfl
           · exact hc.1.1.2.2
           · exact hc.1.2.2
           · exact hc.2.2
         · exact ⟨by decide, by decide, one.1, one.2⟩
       · exact ⟨by decide, by decide, one.1, one.2⟩
def allG (s : ByteArray) : Bool := s.data.toList.all goodB
theorem get_list (s : ByteArray) (i : Nat) (h : i < s.size) : s.get! i = s.data.toList[i]'(by simpa using h) := by
 simp [ByteArray.get!, getElem!_pos, h]
theorem allG_iff {s : ByteArray} : allG s = true ↔ ∀ i, i < s.size → goodB (s.get! i) = true := by
 unfold allG
 rw [List.all_eq_true]
 constructor
 · intro h i hi
   rw [get_list s i hi]
   exact h _ (List.getElem_mem _)
 · intro h b hb
   obtain ⟨i, hi, rfl⟩ := List.getElem_of_mem hb
   have := h i (by simpa using hi)
   rw [get_list s i (by simpa using hi)] at this
   exact this
theorem allG_not {s : ByteArray} {i : Nat} (hi : i < s.size) (h : goodB (s.get! i) = false) : allG s = false := by
 cases ha : allG s with
 | false => rfl
 | true => rw [allG_iff.1 ha i hi] at h; cases h
theorem good_high {b : UInt8} (h : 128 ≤ b.toNat) : goodB b = true := by
 unfold goodB
 rw [decide_eq_true (by omega), decide_eq_true (by omega)]
 rfl
def keyG (s : ByteArray) : Bool := decide (1 ≤ s.size) && (decide (s.size ≤ 64) && (validD s.data.toList && allG s))
end Ku
end Go.Proofs.YtjlliohjeiclaaaGreatDoor
namespace Go.Proofs.YtjlliohjeiclaaaGreatDoor
open Go.RowKit
section
variable {P : Program} {md : Region.Mode} {ops : Array Oper} {Q : Exit → Act → World → Prop} {S : World → Prop} {T : List Nat}
def doneB (ops : Array Oper) (T : List Nat) (listed : Array Bool) : Bool := (List.range ops.size).all fun k => T.contains k || listed.getD k false
def lastB (md : Region.Mode) (ops : Array Oper) (T : List Nat) : Bool := T.all fun j => match ops[j]? with
 | none => true
 | some o => (List.range ops.size).all fun k => T.contains k || o.after.any fun e => Region.binds md e && e.on == k
def anyT (P : Program) (md : Region.Mode) (ops : Array Oper) (Q : Exit → Act → World → Prop) (T : List Nat) (S : World → Prop) : Nat → Array Bool → Act → World → Prop
 | 0, listed, a, w => wpAny P md ops Q 0 listed a w
 | fuel + 1, listed, a, w => if doneB ops T listed = true then wpAny P md ops Q (fuel + 1) listed a w
  else (Region.ready md ops listed = [] → Q .normal a w) ∧ ∀ i ∈ Region.ready md ops listed, wpOp P ops Q i (fun a' w' => S w' ∧ anyT P md ops Q T S fuel (listed.setIfInBounds i true) a' w') a w
theorem anyT_plain : ∀ (fuel : Nat) (listed : Array Bool) (a : Act) (w : World), anyT P md ops Q T S fuel listed a w → wpAny P md ops Q fuel listed a w
 | 0, _, _, _, h => h
 | fuel + 1, listed, a, w, h => by
  unfold anyT at h
  split at h
  · exact h
  · exact ⟨h.1, fun i hi => wpOp_mono (fun a' w' h' => anyT_plain fuel _ a' w' h'.2) (h.2 i hi)⟩
theorem region_tail {id : Nat} {a : Act} {w : World} (T : List Nat) (hm : P.follows .mixedOrders = true) (hS : S w.drew)
 (h : S w.drew → anyT P .any ops Q T S ops.size (Array.replicate ops.size false) a w.drew) : (Code.region id ops true).wp P Q a w :=
 wp_region_any hm (anyT_plain _ _ _ _ (h hS))
theorem doneB_get {listed : Array Bool} (h : doneB ops T listed = true) {k : Nat} (hk : k < ops.size) (hT : T.contains k = false) : listed.getD k false = true := by
 have := List.all_eq_true.1 h k (List.mem_range.2 hk)
 simpa only [hT, Bool.false_or] using this
theorem anyT_take {i : Nat} {oi : Oper} {v : Value} (hi : ops[i]? = some oi) (hs : Region.noSelect ops = true) (hL : lastB md ops T = true) (hT : T.contains i = false)
 (hQ : ∀ c a w, Q (.panic c) (a.put oi.dst v) w → Q (.panic c) a w) :
 ∀ {fuel : Nat} {listed : Array Bool} {a : Act} {w : World}, Region.free md ops listed i = true → (Region.ready md ops listed).contains i = true → YieldsIf P ops S oi v a → S w →
  anyT P md ops Q T S fuel (listed.setIfInBounds i true) (a.put oi.dst v) w → anyT P md ops Q T S (fuel + 1) listed a w := by
 have hsel := Region.noSelect_spec hs
 have hib : i < ops.size := (Array.getElem?_eq_some_iff.1 hi).1
 have main : ∀ (fuel : Nat) (listed : Array Bool) (a : Act) (w : World), (∀ j oj, ops[j]? = some oj → j ≠ i → listed.getD j true = false → (∀ e ∈ oj.after, Region.binds md e = true → e.on ≠ i) → oi.apart ops oj = true) →
  i ∈ Region.ready md ops listed → YieldsIf P ops S oi v a → S w → anyT P md ops Q T S fuel (listed.setIfInBounds i true) (a.put oi.dst v) w → anyT P md ops Q T S (fuel + 1) listed a w := by
  intro fuel
  induction fuel with
  | zero =>
   intro listed a w _ hr hy hS H
   have hun := (mem_ready.1 hr).1
   have hund : ¬ doneB ops T listed = true := fun h => by
    have h1 := doneB_get h hib hT
    rcases Nat.lt_or_ge i listed.size with hlt | hge
    · simp [hlt] at hun h1; rw [hun] at h1; cases h1
    · simp [Array.getElem?_eq_none hge] at h1
   unfold anyT
   rw [if_neg hund]
   refine ⟨fun h => absurd hr (by rw [h]; exact List.not_mem_nil), fun j hj => ?_⟩
   by_cases e : j = i
   · subst e; exact YieldsIf.wpOp hi hy hS ⟨hS, H⟩
   · have := ready_mono hj e
     rw [H.1] at this
     exact absurd this List.not_mem_nil
  | succ fuel ih =>
   intro listed a w hf hr hy hS H
   have hun0 := (mem_ready.1 hr).1
   have hili : i < listed.size := by
    rcases Nat.lt_or_ge i listed.size with h | h
    · exact h
    · simp [Array.getElem?_eq_none h] at hun0
   have hund : ¬ doneB ops T listed = true := fun h => by
    have h1 := doneB_get h hib hT
    simp [hili] at hun0 h1; rw [hun0] at h1; cases h1
   rw [show anyT P md ops Q T S (fuel + 1 + 1) listed a w = (if doneB ops T listed = true then wpAny P md ops Q (fuel + 1 + 1) listed a w
    else (Region.ready md ops listed = [] → Q .normal a w) ∧ ∀ i ∈ Region.ready md ops listed, wpOp P ops Q i (fun a' w' => S w' ∧ anyT P md ops Q T S (fuel + 1) (listed.setIfInBounds i true) a' w') a w) from rfl, if_neg hund]
   refine ⟨fun h => absurd hr (by rw [h]; exact List.not_mem_nil), fun j hj => ?_⟩
   by_cases e : j = i
   · subst e; exact YieldsIf.wpOp hi hy hS ⟨hS, H⟩
   · obtain ⟨hun, oj, hoj, hall⟩ := mem_ready.1 hj
     have hjb : j < ops.size := (Array.getElem?_eq_some_iff.1 hoj).1
     have hno : ∀ e ∈ oj.after, Region.binds md e = true → e.on ≠ i := by
      intro e he hb hei
      have h1 := hall e he hb
      rw [hei] at h1
      simp [hili] at hun0 h1; rw [hun0] at h1; cases h1
     -- the last ones wait for i: j is none of them
     have hjT : T.contains j = false := by
      cases hc : T.contains j with
      | false => rfl
      | true =>
       exfalso
       have h1 := List.all_eq_true.1 hL j (by simpa using hc)
       simp only [hoj] at h1
       have h2 := List.all_eq_true.1 h1 i (List.mem_range.2 hib)
       simp only [hT, Bool.false_or, Array.any_eq_true, Bool.and_eq_true, beq_iff_eq] at h2
       obtain ⟨q, hq, hb, he⟩ := h2
       exact hno _ (Array.getElem_mem hq) hb he
     have hundi : ¬ doneB ops T (listed.setIfInBounds i true) = true := fun h => by
      have h1 := doneB_get h hjb hjT
      rw [getD_set_ne false (Ne.symm e)] at h1
      rcases Nat.lt_or_ge j listed.size with hlt | hge
      · simp [hlt] at hun h1; rw [hun] at h1; cases h1
      · simp [Array.getElem?_eq_none hge] at h1
     unfold anyT at H
     rw [if_neg hundi] at H
     have hstep := wpOp_putIf hoj (hf j oj hoj e hun hno) (fun cs b => hsel i oi cs b hi) (fun cs b => hsel j oj cs b hoj) hQ hy (H.2 j (ready_mono hj e))
     refine wpOp_mono (fun a' w' h3 => ⟨h3.2.1, ih (listed.setIfInBounds j true) a' w' ?_ (ready_mono hr (Ne.symm e)) h3.1 h3.2.1 ?_⟩) hstep
     · intro k ok hk hki hunk hnok
       refine hf k ok hk hki ?_ hnok
       by_cases hjk : j = k
       · subst hjk; exact hun
       · rw [getD_set_ne true hjk] at hunk; exact hunk
     · rw [Array.setIfInBounds_comm _ _ e]
       exact h3.2.2
 intro fuel listed a w hf hr
 exact main fuel listed a w (Region.free_spec hi hf) (by simpa using hr)
def AllReadyT (P : Program) (md : Region.Mode) (ops : Array Oper) (Q : Exit → Act → World → Prop) (T : List Nat) (S : World → Prop) (fuel : Nat) (listed : Array Bool) (a : Act) (w : World) (rs : List Nat) : Prop :=
 ∀ i ∈ rs, wpOp P ops Q i (fun a' w' => S w' ∧ anyT P md ops Q T S fuel (listed.setIfInBounds i true) a' w') a w
theorem AllReadyT.nil {fuel : Nat} {listed : Array Bool} {a : Act} {w : World} : AllReadyT P md ops Q T S fuel listed a w [] := fun _ h => by cases h
theorem AllReadyT.cons {fuel : Nat} {listed : Array Bool} {a : Act} {w : World} {i : Nat} {o : Oper} {rs : List Nat} (ho : ops[i]? = some o) (hw : Region.wanted o (yielded ops a.tmps) = true)
 (h : ∀ K' : Act → World → Prop, Shut (∀ a w, S w → (S w → anyT P md ops Q T S fuel (listed.setIfInBounds i true) a w) → K' a w) → Oper.wp P o a w K' Q)
 (hs : AllReadyT P md ops Q T S fuel listed a w rs) : AllReadyT P md ops Q T S fuel listed a w (i :: rs) := fun j hj => by
 rcases List.mem_cons.1 hj with rfl | hj
 · unfold wpOp
   simp only [ho]
   rw [if_pos hw]
   exact .inl (h _ (fun a w hS hW => ⟨hS, hW hS⟩))
 · exact hs j hj
theorem anyT_ready {rs : List Nat} {fuel : Nat} {listed : Array Bool} {a : Act} {w : World} (hd : doneB ops T listed = false) (hr : Region.ready md ops listed = rs) (hne : rs ≠ [])
 (h : AllReadyT P md ops Q T S fuel listed a w rs) : anyT P md ops Q T S (fuel + 1) listed a w := by
 unfold anyT
 rw [if_neg (by rw [hd]; exact Bool.false_ne_true)]
 exact ⟨fun h0 => absurd (hr ▸ h0) hne, hr ▸ h⟩
theorem anyT_tail {fuel : Nat} {listed : Array Bool} {a : Act} {w : World} (hd : doneB ops T listed = true) (h : wpAny P md ops Q (fuel + 1) listed a w) : anyT P md ops Q T S (fuel + 1) listed a w := by
 unfold anyT
 rw [if_pos hd]
 exact h
theorem any_one {i : Nat} {o : Oper} {fuel : Nat} {listed : Array Bool} {a : Act} {w : World} (hr : Region.ready md ops listed = [i]) (ho : ops[i]? = some o) (hw : Region.wanted o (yielded ops a.tmps) = true)
 (h : ∀ K : Act → World → Prop, Shut (∀ a w, wpAny P md ops Q fuel (listed.setIfInBounds i true) a w → K a w) → Oper.wp P o a w K Q) : wpAny P md ops Q (fuel + 1) listed a w := by
 refine ⟨fun h0 => (by rw [hr] at h0; cases h0), fun j hj => ?_⟩
 rw [hr] at hj
 obtain rfl := List.mem_singleton.1 hj
 unfold wpOp
 simp only [ho]
 rw [if_pos hw]
 exact .inl (h _ (fun a w hW => hW))
end
end Go.Proofs.YtjlliohjeiclaaaGreatDoor
namespace Go.Proofs.YtjlliohjeiclaaaGreatDoor
open Go.RowKit Ku
set_option maxRecDepth 100000 in
theorem key_Key (s : ByteArray) (w : World) (hs : s.size ≤ 9223372036854775807) (hG : Glob w) :
 Calls Tryz.prog 120 #[.string s] w fun e w' => e = .returned (.bool (keyG s)) ∧ Below w.heap.size w w' := by
 have G := Lib.hid hG
 have HS := Lib.hid hs
 clear hG hs
 obtain ⟨res, hres⟩ : ∃ r, keyG s = r := ⟨_, rfl⟩
 have R := Lib.hid hres
 rw [hres]
 clear hres
 go_enter Tryz.func120, Tryz.ntmps120
 by_cases h1 : s.size < 1
 · have h1i : (s.size : Int) < 1 := by omega
   obtain rfl : false = res := by rw [← R.out]; unfold keyG; rw [decide_eq_false (by omega)]; rfl
   go_wp2_with fail
   go_ret
   exact ⟨rfl, Below.refl _ _⟩
 have h1i : ¬ (s.size : Int) < 1 := by omega
 by_cases h2 : 64 < s.size
 · have h2i : (64 : Int) < (s.size : Int) := by omega
   obtain rfl : false = res := by rw [← R.out]; unfold keyG; rw [decide_eq_false (p := s.size ≤ 64) (by omega)]; simp
   go_wp2_with fail
   go_ret
   exact ⟨rfl, Below.refl _ _⟩
 have h2i : ¬ (64 : Int) < (s.size : Int) := by omega
 go_wp2_with fail
 refine (ks_Valid s w HS.out G.out).mono ?_
 rintro e w1 ⟨rfl, hb⟩
 have HB := Lib.hid hb
 clear hb
 obtain ⟨va, hva⟩ : ∃ r, Lib.validD s.data.toList = r := ⟨_, rfl⟩
 rw [hva]
 have VA := Lib.hid hva
 clear hva
 cases va
 case false =>
  obtain rfl : false = res := by rw [← R.out]; unfold keyG; rw [VA.out]; simp
  go_wp2_with fail
  go_ret
  exact ⟨rfl, HB.out⟩
 have R2 : Hid (allG s = res) := Lib.hid (by rw [← R.out]; unfold keyG; rw [VA.out, decide_eq_true (by omega), decide_eq_true (by omega)]; rfl)
 clear R
 go_wp2_with fail
 go_loopw [] (fun w' => ∃ pos : Nat, pos ≤ s.size ∧ w' = w1.iter s pos ∧ Hid (∀ i, i < pos → goodB (s.get! i) = true)) (fun w' => s.size - w'.iterPos w1.heap.size)
 case atStart => exact ⟨0, Nat.zero_le _, rfl, Lib.hid (fun i hi => by omega)⟩
 case round =>
  obtain ⟨pos, hps, rfl, HA⟩ := hrel
  by_cases hp : pos < s.size
  · have hnx : ∀ ty, (Instr.next (.pointer (some ⟨w1.heap.size, 0, none⟩)) true ty).run Tryz.prog (w1.iter s pos) = _ := fun ty => run_next_any w1 s pos ty hp
    have D := Lib.hid (dec_step s pos hp)
    obtain ⟨c, n, hcn⟩ : ∃ c n, Utf8.decode s pos = (c, n) := ⟨_, _, rfl⟩
    rw [hcn] at D
    simp only [hcn] at hnx
    clear hcn
    have HP := Lib.hid hp
    rcases D.out with ⟨a1, a2⟩ | ⟨a1, a2, a3, a4, a5⟩
    · obtain ⟨rfl, rfl⟩ : c = (s.get! pos).toNat ∧ n = 1 := by cases a2; exact ⟨rfl, rfl⟩
      clear a2 D
      obtain ⟨c, hc⟩ : ∃ c, (s.get! pos).toNat = c := ⟨_, rfl⟩
      rw [hc] at a1
      simp only [hc] at hnx
      have HC := Lib.hid hc
      clear hc
      by_cases k1 : c < 32
      · have k1i : (c : Int) < 32 := by omega
        obtain rfl : false = res := by rw [← R2.out]; exact (allG_not HP.out (by unfold goodB; rw [HC.out, decide_eq_false (p := 32 ≤ c) (by omega)]; rfl)).symm
        go_wp2_with fail
        go_ret
        exact ⟨rfl, HB.out.trans ((below_new w1 _).mono HB.out.size)⟩
      · by_cases k2 : c = 47
        · subst k2
          obtain rfl : false = res := by rw [← R2.out]; exact (allG_not HP.out (by unfold goodB; rw [HC.out]; decide)).symm
          go_wp2_with fail
          go_ret
          exact ⟨rfl, HB.out.trans ((below_new w1 _).mono HB.out.size)⟩
        · have NX : Hid (∀ i, i < pos + 1 → goodB (s.get! i) = true) := Lib.hid (fun i hi => by
           by_cases h : i < pos
           · exact HA.out i h
           · rw [show i = pos by omega]; unfold goodB; rw [HC.out, decide_eq_true (by omega), decide_eq_true k2]; rfl)
          have hc1 : ¬ (c : Int) < 32 := by omega
          have hc2 : ((c : Int) == 47) = false := beq_eq_false_iff_ne.2 (by omega)
          have hc3 : ¬ (c : Int) = 47 := by omega
          go_wp2_with fail
          go_roundw
          case rel => exact ⟨pos + 1, by omega, rfl, NX⟩
          case measure => simp; omega
    · have NX : Hid (∀ i, i < pos + n → goodB (s.get! i) = true) := Lib.hid (fun i hi => by
       by_cases h : i < pos
       · exact HA.out i h
       · exact good_high (a5 i (by omega) hi))
      clear D a5
      have hc1 : ¬ (c : Int) < 32 := by omega
      have hc2 : ((c : Int) == 47) = false := beq_eq_false_iff_ne.2 (by omega)
      have hc3 : ¬ (c : Int) = 47 := by omega
      go_wp2_with fail
      go_roundw
      case rel => exact ⟨pos + n, by omega, rfl, NX⟩
      case measure => simp; omega
  · obtain rfl : pos = s.size := by omega
    have hnx : ∀ ty, (Instr.next (.pointer (some ⟨w1.heap.size, 0, none⟩)) true ty).run Tryz.prog (w1.iter s s.size) = _ := fun ty => run_next_end w1 s s.size ty hp
    obtain rfl : true = res := by rw [← R2.out]; exact (allG_iff.2 HA.out).symm
    go_wp2_with fail
    go_ret
    exact ⟨rfl, HB.out.trans ((below_new w1 _).mono HB.out.size)⟩
end Go.Proofs.YtjlliohjeiclaaaGreatDoor
namespace Go.Proofs.YtjlliohjeiclaaaGreatDoor
namespace Ku
open Go.Op (bytesLess)
open St
def pathG (l : List ByteArray) : Bool := decide (l.length ≤ 6) && l.all keyG
theorem cmpB_eq : ∀ (l m : List UInt8), Lib.compareBytes l m = if bytesLess l m = true then -1 else if bytesLess m l = true then 1 else 0
 | [], [] => by simp [Lib.compareBytes, bytesLess]
 | [], _ :: _ => by simp [Lib.compareBytes, bytesLess]
 | _ :: _, [] => by simp [Lib.compareBytes, bytesLess]
 | a :: la, b :: lb => by
  have ih := cmpB_eq la lb
  unfold Lib.compareBytes
  by_cases h1 : a < b
  · rw [if_pos h1]; simp [bytesLess, h1]
  · rw [if_neg h1]
    by_cases h2 : b < a
    · rw [if_pos h2]
      have h3 : ¬ a = b := fun e => by rw [e] at h2; exact absurd h2 (by rw [UInt8.lt_iff_toNat_lt]; omega)
      simp [bytesLess, h1, h2, h3]
    · rw [if_neg h2]
      have h3 : a = b := by
       have n1 : ¬ a.toNat < b.toNat := fun h => h1 (UInt8.lt_iff_toNat_lt.2 h)
       have n2 : ¬ b.toNat < a.toNat := fun h => h2 (UInt8.lt_iff_toNat_lt.2 h)
       exact UInt8.toNat_inj.1 (by omega)
      subst h3
      rw [ih]
      simp [bytesLess, h1]
theorem cmpB_txt (a b : ByteArray) : Lib.compareBytes a.data.toList b.data.toList = txtC a b := by
 rw [cmpB_eq]
 unfold txtC Pm.klt
 rw [ByteArray.toList_eq, ByteArray.toList_eq]
end Ku
end Go.Proofs.YtjlliohjeiclaaaGreatDoor
namespace Go.Proofs.YtjlliohjeiclaaaGreatDoor
open Go.RowKit Ku St
set_option maxRecDepth 100000 in
set_option maxHeartbeats 2000000 in
theorem key_Path (l : List ByteArray) (a : Option Addr) (n c : Nat) (w : World) (hl : CellsAt w a (txV l)) (hn : n = l.length) (hs : ∀ x ∈ l, x.size ≤ 9223372036854775807) (hG : Glob w) :
 Calls Tryz.prog 119 #[.slice a n c] w fun e w' => e = .returned (.bool (pathG l)) ∧ Below w.heap.size w w' := by
 have HL := Lib.hid hl
 have HN := Lib.hid hn
 have HS := Lib.hid hs
 have G := Lib.hid hG
 obtain ⟨res, hres⟩ : ∃ r, pathG l = r := ⟨_, rfl⟩
 have R := Lib.hid hres
 rw [hres]
 clear hl hn hs hG hres
 go_enter Tryz.func119, Tryz.ntmps119
 by_cases g6 : 6 < n
 · have g6i : (6 : Int) < (n : Int) := by omega
   obtain rfl : false = res := by rw [← R.out]; unfold pathG; rw [decide_eq_false (by rw [← HN.out]; omega)]; rfl
   go_wp2_with fail
   go_ret
   exact ⟨rfl, Below.refl _ _⟩
 have g6i : ¬ (6 : Int) < (n : Int) := by omega
 have R2 : Hid (l.all keyG = res) := Lib.hid (by rw [← R.out]; unfold pathG; rw [decide_eq_true (by rw [← HN.out]; omega)]; rfl)
 clear R
 go_wp2_with fail
 go_loopw [10] (fun i wr => ∃ k : Nat, k ≤ n ∧ i = .int .i64 (k : Int) ∧ Hid ((l.take k).all keyG = true) ∧ Hid (Below w.heap.size w wr)) (fun i _ => n - (intOf i).toNat)
 case atStart => exact ⟨0, Nat.zero_le _, rfl, Lib.hid (by simp), Lib.hid (Below.refl _ _)⟩
 case round =>
  obtain ⟨k, hk, rfl, HA, HB⟩ := hrel
  by_cases hlt : k < n
  · have hk1 : k < l.length := by have := HN.out; omega
    obtain ⟨ba, oa, rfl, p0⟩ := tx_get (HL.out.below HB.out rfl) k hk1
    have BAD : Hid (keyG l[k] = false → res = false) := Lib.hid (fun h => by
     rw [← R2.out]
     cases hh : l.all keyG with
     | false => rfl
     | true => rw [List.all_eq_true.1 hh _ (List.getElem_mem hk1)] at h; cases h)
    have NXT : Hid (keyG l[k] = true → (l.take (k + 1)).all keyG = true) := Lib.hid (fun h => by rw [List.take_succ_eq_append_getElem hk1, List.all_append, HA.out]; simp [h])
    have SX : Hid (l[k].size ≤ 9223372036854775807) := Lib.hid (HS.out _ (List.getElem_mem hk1))
    generalize l[k] = x at *
    have hki : (k : Int) < (n : Int) := by omega
    go_wp2_with fail
    refine (key_Key x _ SX.out (G.out.below HB.out)).mono ?_
    rintro e w1 ⟨rfl, hb⟩
    have HB1 := Lib.hid (HB.out.trans (hb.mono HB.out.size))
    clear hb p0
    obtain ⟨v, hv⟩ : ∃ q, keyG x = q := ⟨_, rfl⟩
    rw [hv] at BAD NXT ⊢
    clear hv
    cases v with
    | false =>
     obtain rfl : false = res := (BAD.out rfl).symm
     go_wp2_with fail
     go_ret
     exact ⟨rfl, HB1.out⟩
    | true =>
     have H := Lib.hid (NXT.out rfl)
     go_wp2_with fail
     go_roundw
     case rel => exact ⟨k + 1, by omega, by go_num, H, HB1⟩
     case measure => simp [intOf]; omega
  · obtain rfl : k = n := by omega
    obtain rfl : true = res := by rw [← R2.out]; have := HA.out; rw [HN.out, List.take_length] at this; exact this.symm
    go_wp2_with fail
    go_ret
    exact ⟨rfl, HB.out⟩
end Go.Proofs.YtjlliohjeiclaaaGreatDoor
namespace Go.Proofs.YtjlliohjeiclaaaGreatDoor
open Go.RowKit
theorem grown_of_below {w w' : World} (h : Below w.heap.size w w') (row : Option Nat) : w.grownBy w' row := ⟨h.os, h.tape, h.output, h.size, fun k hk _ => h.block k hk⟩
theorem ownFrom_to {β : Type} {B : Nat} {I : β → World → Prop} (h : OwnFrom B I) {s : β} {A A' : World} (hs : I s A) (hb : Below A.heap.size A A') : I s A' :=
 h s A A' none hs (grown_of_below hb none) (fun r e => by cases e)
variable {P : Program} {n : Nat}
end Go.Proofs.YtjlliohjeiclaaaGreatDoor
namespace Go.Proofs.YtjlliohjeiclaaaGreatDoor
open Go.RowKit
def Iter2 {α : Type} (n : Nat) (P : Program) (g : Nat) (lb : Array Value) (encs : α → Array Value) (Kp : World → World → Prop) (X : List α → α → World → Prop) (End : World → List α → World → World → Prop) (Sp : List α → Prop) (w : World) : Prop :=
 ∀ (l : Nat) (J Jx : List α → World → Prop) (W : World), Below w.heap.size w W → w.heap.size + 2 ≤ W.heap.size →
  OwnFrom W.heap.size J → OwnFrom W.heap.size Jx →
  (∀ pre x W1, J pre W1 → X pre x W1 → YieldAt Fence.wide (n - 1) P l (encs x) W1 fun e W' =>
   (e = .returned (.bool true) ∧ J (pre ++ [x]) W' ∧ Kp W1 W') ∨ (e = .returned (.bool false) ∧ Jx (pre ++ [x]) W' ∧ Kp W1 W')) →
  J [] W →
  CallsIn Fence.wide n P g (#[.func (.yield l) #[] #[]] ++ lb) W fun e W' => (∃ v, e = .returned v) ∧ ((∃ xs W2, J xs W2 ∧ End W xs W2 W') ∨ (∃ pre, Sp pre ∧ Jx pre W'))
def bodyPostR2 {α : Type} (B : Nat) (Kp : World → World → Prop) (I : List α → World → Prop) (Ix : Code → List α → World → Prop) (xs : List α) (W : World) : Exit → Act → World → Prop
 | .normal, _, W' => KeepsFrom B W W' ∧ Kp W W' ∧ I xs W'
 | .ret, _, W' => KeepsFrom B W W' ∧ Kp W W' ∧ Ix .ret xs W'
 | .exit id, _, W' => KeepsFrom B W W' ∧ Kp W W' ∧ Ix (.exit id) xs W'
 | .goto t, _, W' => KeepsFrom B W W' ∧ Kp W W' ∧ Ix (.goto t) xs W'
 | .panic _, _, _ => False
 | .outgrown, _, _ => False
variable {P : Program} {n : Nat}
theorem range_law2 {α : Type} {g : Operand} {ps : Array Tmp} {assign body : Code} {Q : Exit → Act → World → Prop} {a : Act} {w : World} {gf : Nat} {lb : Array Value}
 (hg : a.eval g = .func (.func gf) #[] lb) (eg : ∀ args w, (callFunc gf args).run P w = .ok (.enter gf args) w)
 {encs : α → Array Value} {Kp : World → World → Prop} {X : List α → α → World → Prop} {End : World → List α → World → World → Prop} {Sp : List α → Prop} (hseq : Iter2 (n - 1) P gf lb encs Kp X End Sp w)
 (h1 : 1 ≤ n) (hKt : ∀ {A B C : World}, Kp A B → Kp B C → Kp A C) (hKb : ∀ (W : World) (o o' : Obj), W.heap[w.heap.size + 1]? = some o → o.isCells = false → Kp W (W.putObj (w.heap.size + 1) o'))
 (hps : ∀ x, (encs x).size = ps.size) (hX : ∀ pre, OwnFrom w.heap.size (X pre)) (hEnd : ∀ W1, w.heap.size + 2 ≤ W1.heap.size → ∀ xs A B, End W1 xs A B → ∀ k o, k < w.heap.size + 2 → A.heap[k]? = some o → o.isCells = false → B.heap[k]? = some o)
 (I : List α → World → Prop) (Ix : Code → List α → World → Prop) (F : List α → World → Prop) (hI : OwnFrom w.heap.size I) (hIx : ∀ c, OwnFrom w.heap.size (Ix c)) (hF : OwnFrom w.heap.size F) (hIF : ∀ W1, w.heap.size + 2 ≤ W1.heap.size → ∀ xs A B, I xs A → End W1 xs A B → F xs B)
 (h0 : I [] w) (Y : List α → α → Act → World → Prop) (hY : ∀ x a', OwnFrom w.heap.size (fun pre => Y pre x a'))
 (hassign : ∀ (l : Nat) (pre : List α) (x : α) (W : World) (K : Act → World → Prop), I pre W → X pre x W → w.heap.size ≤ W.heap.size →
  (∀ a' W', KeepsFrom w.heap.size W W' → Kp W W' → w.heap.size ≤ W'.heap.size → Y pre x a' W' → K a' W') →
  assign.wpIn (Fence.wide.inRound l) (n - 1 - 1) P (Exit.then K (fun _ _ _ => False)) { tmps := (ps.zip (encs x)).foldl (fun t (p, v) => t.setIfInBounds p v) a.tmps, defers := [] } W)
 (hbody : ∀ (l : Nat) (pre : List α) (x : α) (a' : Act) (W : World), Y pre x a' W → w.heap.size ≤ W.heap.size → body.wpIn (Fence.wide.inRound l) (n - 1 - 1) P (bodyPostR2 w.heap.size Kp I Ix (pre ++ [x]) W) a' W)
 (hdone : ∀ (D : Nat) (xs : List α) (W : World), w.heap.size ≤ D → F xs W → W.heap[D]? = some (.deferred (some [])) → Q .normal { a with defers := { target := .collected D, args := #[] } :: a.defers } W)
 (hstop : ∀ (D : Nat) (c : Code) (pre : List α) (W : World), w.heap.size ≤ D → Sp pre → Ix c pre W → W.heap[D]? = some (.deferred (some [])) → c.wpIn Fence.wide n P Q { a with defers := { target := .collected D, args := #[] } :: a.defers } W) :
 (Code.rangeFunc g ps assign body).wpIn Fence.wide n P Q a w := by
 refine wpIn_rangeFunc fun fn hfn => ?_
 obtain ⟨rec, hrec⟩ : ∃ rec : LoopState → Option Code → Loop, rec = fun st pe => { state := st, pending := pe, fn, tmps := a.tmps, params := ps, assign, body, defers := w.heap.size } := ⟨_, rfl⟩
 obtain ⟨W1, hW1⟩ : ∃ W1, (w.alloc (.deferred (some []))).alloc (.loop (rec .ready none)) = W1 := ⟨_, rfl⟩
 have hb1 : Below w.heap.size w W1 := by
  rw [← hW1]; exact (below_new w _).alloc (by simp) _
 have hL1 : W1.heap[w.heap.size + 1]? = some (.loop (rec .ready none)) := by
  have h := World.alloc_heap_new (w.alloc (.deferred (some []))) (.loop (rec .ready none))
  rw [World.size_alloc, hW1] at h
  exact h
 have hK1 : W1.heap[w.heap.size]? = some (.deferred (some [])) := by
  rw [← hW1]; exact (Below.heap_alloc _ _ _ (by simp)).trans (World.alloc_heap_new w _)
 refine ⟨w.heap.size + 1, [{ target := .collected w.heap.size, args := #[] }], W1, { target := .fn (.func gf) lb, args := #[.func (.yield (w.heap.size + 1)) #[] #[]] }, W1, gf,
  #[.func (.yield (w.heap.size + 1)) #[] #[]] ++ lb, W1, ?_, ?_, ?_, ?_, fun _ => h1, ?_⟩
 · rw [← hW1, hrec]; exact run_enterLoop_outer _ _ _ _ _
 · simp only [resolve, hg]
   simp [go_sem]
 · intro f' _; trivial
 · simp [invoke, go_sem, eg]
 · have keepRec : ∀ {A B : World} {k : Nat} {o : Obj}, A.heap[k]? = some o → Below A.heap.size A B → B.heap[k]? = some o := fun hk hb => (hb.block _ (Array.getElem?_eq_some_iff.1 hk).1).trans hk
   have hsz1 : W1.heap.size = w.heap.size + 2 := by rw [← hW1]; simp
   have key : ∀ {A A' : World} {row : Option Nat}, A.grownBy A' row → (∀ r, row = some r → W1.heap.size ≤ r ∧ ∃ o : Obj, A.heap[r]? = some o ∧ o.isCells = false) → ∀ k o, A.heap[k]? = some o → k < W1.heap.size → A'.heap[k]? = some o := fun hg hr k o hk hlt => (hg.block k (Array.getElem?_eq_some_iff.1 hk).1 (fun e => by have := (hr k e.symm).1; omega)).trans hk
   have hJo : OwnFrom W1.heap.size (fun pre W => I pre W ∧ W.heap[w.heap.size + 1]? = some (.loop (rec .ready none)) ∧ W.heap[w.heap.size]? = some (.deferred (some []))) := by
    rintro s A A' row ⟨h1, h2, h3⟩ hg hr
    exact ⟨hI s A A' row h1 hg (fun r e => ⟨by have := (hr r e).1; omega, (hr r e).2⟩), key hg hr _ _ h2 (by omega), key hg hr _ _ h3 (by omega)⟩
   have hJxo : OwnFrom W1.heap.size (fun pre W => ∃ c, Ix c pre W ∧ W.heap[w.heap.size + 1]? = some (.loop (rec .done (some c))) ∧ W.heap[w.heap.size]? = some (.deferred (some []))) := by
    rintro s A A' row ⟨c, h1, h2, h3⟩ hg hr
    exact ⟨c, hIx c s A A' row h1 hg (fun r e => ⟨by have := (hr r e).1; omega, (hr r e).2⟩), key hg hr _ _ h2 (by omega), key hg hr _ _ h3 (by omega)⟩
   refine (hseq (w.heap.size + 1)
    (fun pre W => I pre W ∧ W.heap[w.heap.size + 1]? = some (.loop (rec .ready none)) ∧ W.heap[w.heap.size]? = some (.deferred (some [])))
    (fun pre W => ∃ c, Ix c pre W ∧ W.heap[w.heap.size + 1]? = some (.loop (rec .done (some c))) ∧ W.heap[w.heap.size]? = some (.deferred (some [])))
    W1 hb1 (by omega) hJo hJxo ?_ ⟨ownFrom_to hI h0 hb1, hL1, hK1⟩).mono ?_
   · rintro pre x W ⟨hi, hl, hk⟩ hx
     have hlt : w.heap.size + 1 < W.heap.size := (Array.getElem?_eq_some_iff.1 hl).1
     have hy := run_yield (P := P) (args := encs x) hl (by rw [hrec]; exact hps x)
     rw [hrec] at hy
     refine ⟨fn, _, assign, body, hy, roundIn_of_wpIn hfn (hassign _ pre x W _ hi hx (by omega) ?_)⟩
     intro a' Wa hkoa hkpa hsa hYa
     have hla := hkoa.same _ _ (by omega) hl rfl
     have hka := hkoa.same _ _ (by omega) hk rfl
     have hlta : w.heap.size + 1 < Wa.heap.size := (Array.getElem?_eq_some_iff.1 hla).1
     refine ⟨_, run_beginRound hla (by rw [hrec]), ?_⟩
     obtain ⟨W2, hW2⟩ : ∃ W2, Wa.putObj (w.heap.size + 1) (.loop { rec .ready none with state := .busy }) = W2 := ⟨_, rfl⟩
     have hl2 : W2.heap[w.heap.size + 1]? = some (.loop { rec .ready none with state := .busy }) := by rw [← hW2]; exact World.putObj_heap_same hlta
     have hk2 : W2.heap[w.heap.size]? = some (.deferred (some [])) := by rw [← hW2]; exact (World.putObj_heap_other (by omega)).trans hka
     have hw2 : Kp W W2 := by rw [← hW2]; exact hKt hkpa (hKb _ _ _ hla rfl)
     have hY2 : Y pre x a' W2 := by rw [← hW2]; exact (hY x a').putObj _ hYa (by omega) hla rfl
     have hs2 : w.heap.size ≤ W2.heap.size := by rw [← hW2, World.putObj_size]; omega
     rw [hW2]
     refine wpIn_mono (hbody _ pre x a' _ hY2 hs2) ?_
     have fin : ∀ (jump : Option Code) (W3 : World), KeepsFrom w.heap.size W2 W3 →
      (Instr.endRound (w.heap.size + 1) jump).run P W3 = .ok (.bool jump.isNone) (W3.putObj (w.heap.size + 1) (.loop (rec (if jump.isNone then .ready else .done) jump))) ∧
      W3.heap[w.heap.size + 1]? = some (.loop { rec .ready none with state := .busy }) ∧
      (W3.putObj (w.heap.size + 1) (.loop (rec (if jump.isNone then .ready else .done) jump))).heap[w.heap.size + 1]? = some (.loop (rec (if jump.isNone then .ready else .done) jump)) ∧
      (W3.putObj (w.heap.size + 1) (.loop (rec (if jump.isNone then .ready else .done) jump))).heap[w.heap.size]? = some (.deferred (some [])) := by
      intro jump W3 hk3
      have hl3 := hk3.same _ _ (by omega) hl2 rfl
      have h4 := run_endRound (P := P) jump hl3
      rw [hrec] at h4 ⊢
      rw [hrec] at hl3
      exact ⟨h4, hl3, World.putObj_heap_same (Array.getElem?_eq_some_iff.1 hl3).1, (World.putObj_heap_other (by omega)).trans (hk3.same _ _ (by omega) hk2 rfl)⟩
     rintro e a3 W3 hp
     cases e with
     | normal =>
      obtain ⟨hk3, hkp3, hi3⟩ := hp
      obtain ⟨hr, hl3, hl4, hk4⟩ := fin none W3 hk3
      exact ⟨_, _, hr, .inl ⟨rfl, ⟨hI.putObj _ hi3 (by omega) hl3 rfl, hl4, hk4⟩, hKt (hKt hw2 hkp3) (hKb _ _ _ hl3 rfl)⟩⟩
     | ret =>
      obtain ⟨hk3, hkp3, hi3⟩ := hp
      obtain ⟨hr, hl3, hl4, hk4⟩ := fin (some .ret) W3 hk3
      exact ⟨_, _, hr, .inr ⟨rfl, ⟨.ret, (hIx _).putObj _ hi3 (by omega) hl3 rfl, hl4, hk4⟩, hKt (hKt hw2 hkp3) (hKb _ _ _ hl3 rfl)⟩⟩
     | exit id =>
      obtain ⟨hk3, hkp3, hi3⟩ := hp
      obtain ⟨hr, hl3, hl4, hk4⟩ := fin (some (.exit id)) W3 hk3
      exact ⟨_, _, hr, .inr ⟨rfl, ⟨.exit id, (hIx _).putObj _ hi3 (by omega) hl3 rfl, hl4, hk4⟩, hKt (hKt hw2 hkp3) (hKb _ _ _ hl3 rfl)⟩⟩
     | goto t =>
      obtain ⟨hk3, hkp3, hi3⟩ := hp
      obtain ⟨hr, hl3, hl4, hk4⟩ := fin (some (.goto t)) W3 hk3
      exact ⟨_, _, hr, .inr ⟨rfl, ⟨.goto t, (hIx _).putObj _ hi3 (by omega) hl3 rfl, hl4, hk4⟩, hKt (hKt hw2 hkp3) (hKb _ _ _ hl3 rfl)⟩⟩
     | panic ch => exact hp.elim
     | outgrown => exact hp.elim
   · rintro e W2 ⟨⟨v, rfl⟩, (⟨xs, W3, ⟨hi, hl, hk⟩, he⟩ | ⟨pre, hSp, c, hi, hl, hk⟩)⟩
     · have ho := hEnd _ (by omega) _ _ _ he
       have hl3 := ho _ _ (by omega) hl rfl
       have hk3 := ho _ _ (by omega) hk rfl
       exact ⟨none, _, by have h4 := run_endLoop (P := P) hl3 (by rw [hrec]; simp); rw [hrec] at h4; exact h4, hdone _ xs _ (Nat.le_refl _) (hF.putObj _ (hIF _ (by omega) _ _ _ hi he) (by omega) hl3 rfl) ((World.putObj_heap_other (by omega)).trans hk3)⟩
     · exact ⟨some c, _, by have h4 := run_endLoop (P := P) hl (by rw [hrec]; simp); rw [hrec] at h4; exact h4, hstop _ c pre _ (Nat.le_refl _) hSp ((hIx c).putObj _ hi (by omega) hl rfl) ((World.putObj_heap_other (by omega)).trans hk)⟩
end Go.Proofs.YtjlliohjeiclaaaGreatDoor
namespace Go.Proofs.YtjlliohjeiclaaaGreatDoor
open Go.RowKit
section
variable {P : Program} {n : Nat} {md : Region.Mode} {ops : Array Oper} {Q : Exit → Act → World → Prop} {S : World → Prop}
def OnlyE (Q : Exit → Act → World → Prop) : Exit → Act → World → Prop
 | .normal, a, w => Q .normal a w
 | _, _, _ => False
theorem OnlyE.normal {a : Act} {w : World} (h : Q .normal a w) : OnlyE Q .normal a w := h
end
end Go.Proofs.YtjlliohjeiclaaaGreatDoor
namespace Go.Proofs.YtjlliohjeiclaaaGreatDoor
open Go.RowKit
structure KeepE (M : Nat) (S : Nat → Prop) (Ex : TypeId → Prop) (A B : World) : Prop where
 os : B.os = A.os
 tape : B.tape = A.tape
 output : B.output = A.output
 size : A.heap.size ≤ B.heap.size
 block : ∀ k, S k → B.heap[k]? = A.heap[k]?
 rest : ∀ k o, M ≤ k → A.heap[k]? = some o → (∀ c t fr, o = .cells c t fr → ¬ Ex t) → B.heap[k]? = some o
theorem KeepE.trans {M : Nat} {S : Nat → Prop} {Ex : TypeId → Prop} {A B C : World} (h : KeepE M S Ex A B) (k : KeepE M S Ex B C) : KeepE M S Ex A C :=
 ⟨k.os.trans h.os, k.tape.trans h.tape, k.output.trans h.output, Nat.le_trans h.size k.size, fun i hi => (k.block i hi).trans (h.block i hi), fun i o hi ho ht => k.rest i o hi (h.rest i o hi ho ht) ht⟩
theorem KeepE.below {M : Nat} {S : Nat → Prop} {Ex : TypeId → Prop} {A B : World} (h : Below A.heap.size A B) (hS : ∀ k, S k → k < A.heap.size) : KeepE M S Ex A B :=
 ⟨h.os, h.tape, h.output, h.size, fun k hk => h.block k (hS k hk), fun k o _ ho _ => (h.block k (Array.getElem?_eq_some_iff.1 ho).1).trans ho⟩
theorem KeepE.refl {M : Nat} {S : Nat → Prop} {Ex : TypeId → Prop} (A : World) : KeepE M S Ex A A := ⟨rfl, rfl, rfl, Nat.le_refl _, fun _ _ => rfl, fun _ _ _ h _ => h⟩
theorem KeepE.put {M : Nat} {S : Nat → Prop} {Ex : TypeId → Prop} (W : World) (l : Nat) (o : Obj) (hl : l < M) (hS : ∀ k, S k → k < l) : KeepE M S Ex W (W.putObj l o) :=
 ⟨rfl, rfl, rfl, by simp, fun i hi => World.putObj_heap_other (by have := hS i hi; omega), fun k o' hk ho _ => (World.putObj_heap_other (by omega)).trans ho⟩
theorem KeepE.setCell {M : Nat} {S : Nat → Prop} {Ex : TypeId → Prop} (W : World) (X i : Nat) (v : Value) (hX : X < M) (hS : ¬ S X) : KeepE M S Ex W (W.setCell ⟨X, i, none⟩ v) :=
 ⟨rfl, rfl, rfl, by simp [World.setCell], fun k hk => Below.heap_setCell _ _ _ _ (fun e => hS (show S X from (show k = X from e) ▸ hk)), fun k o hk ho _ => (Below.heap_setCell _ _ _ _ (by simp; omega)).trans ho⟩
theorem KeepE.box {M : Nat} {S : Nat → Prop} {Ex : TypeId → Prop} {A B : World} (h : KeepE M S Ex A B) {b : Nat} {t : TypeId} {v : Value} (hb : Boxed A b t v) (hM : M ≤ b) (ht : ¬ Ex t) : Boxed B b t v :=
 h.rest b _ hM hb (fun c t' fr e => by cases e; exact ht)
end Go.Proofs.YtjlliohjeiclaaaGreatDoor
namespace Go.Proofs.YtjlliohjeiclaaaGreatDoor
open Go.RowKit
def Facts (H : List (Nat × Obj)) (W : World) : Prop := ∀ p ∈ H, W.heap[p.1]? = some p.2
theorem Facts.below {H : List (Nat × Obj)} {A B : World} (h : Facts H A) (hb : Below A.heap.size A B) : Facts H B := fun p hp => (hb.block _ (Array.getElem?_eq_some_iff.1 (h p hp)).1).trans (h p hp)
theorem Facts.lt {H : List (Nat × Obj)} {A : World} (h : Facts H A) : ∀ p ∈ H, p.1 < A.heap.size := fun p hp => (Array.getElem?_eq_some_iff.1 (h p hp)).1
theorem Facts.setCell {H : List (Nat × Obj)} {A : World} {c i : Nat} (h : Facts H A) (hc : ∀ p ∈ H, p.1 ≠ c) (v : Value) : Facts H (A.setCell ⟨c, i, none⟩ v) := fun p hp => (Below.heap_setCell _ _ _ _ (by simpa using hc p hp)).trans (h p hp)
theorem Facts.putObj {H : List (Nat × Obj)} {A : World} {c : Nat} (h : Facts H A) (hc : ∀ p ∈ H, p.1 ≠ c) (o : Obj) : Facts H (A.putObj c o) := fun p hp => (World.putObj_heap_other (fun e => hc p hp e)).trans (h p hp)
theorem Facts.cons {H : List (Nat × Obj)} {A : World} {b : Nat} {o : Obj} (h : Facts H A) (hb : A.heap[b]? = some o) : Facts ((b, o) :: H) A := fun p hp => by
 rcases List.mem_cons.1 hp with rfl | hp
 · exact hb
 · exact h p hp
theorem own_block {β : Type} {B k : Nat} {o : Obj} (hk : k < B) : OwnFrom B (fun (_ : β) W => W.heap[k]? = some o) := by
 rintro _ A A' row h hg hr
 exact (hg.block k (Array.getElem?_eq_some_iff.1 h).1 (fun e => by have := (hr k e.symm).1; omega)).trans h
def marks (Ds : List Nat) : List Deferred := Ds.map fun D => { target := .collected D, args := #[] }
def markF (Ds : List Nat) : List (Nat × Obj) := Ds.map fun D => (D, .deferred (some []))
theorem leaves_marks {F : Fence} {n : Nat} {P : Program} {fn : Func} {tmps : Array Value} {R : Ending → World → Prop} : ∀ (Ds : List Nat) (W : World), Ds.Nodup → Facts (markF Ds) W →
 (∀ W', W'.os = W.os → W'.tape = W.tape → W'.output = W.output → W'.heap.size = W.heap.size → (∀ k, k ∉ Ds → W'.heap[k]? = W.heap[k]?) → ∃ v, (results fn tmps).run P W' = .ok v W' ∧ R (.returned v) W') →
 LeavesInM F n P fn tmps R (marks Ds) .returning W
 | [], W, _, _, h => h W rfl rfl rfl rfl fun _ _ => rfl
 | D :: Ds, W, hnd, hf, h => by
  obtain ⟨h1, h2⟩ := List.nodup_cons.1 hnd
  refine ⟨by simp, .inl ⟨_, _, rfl, run_takeDeferred (hf (D, .deferred (some [])) (by simp [markF])), ?_⟩⟩
  refine leaves_marks Ds _ h2 (Facts.putObj (fun p hp => hf p (by simp only [markF, List.map_cons, List.mem_cons]; exact .inr hp)) (fun p hp e => ?_) _) ?_
  · obtain ⟨D', hD', rfl⟩ := List.mem_map.1 hp
    exact h1 (e ▸ hD')
  · intro W' e1 e2 e3 e4 e5
    refine h W' e1 e2 e3 (by rw [e4]; simp) fun k hk => ?_
    rw [e5 k (fun hm => hk (List.mem_cons_of_mem _ hm))]
    exact World.putObj_heap_other (fun e => hk (e ▸ List.mem_cons_self))
structure SameBut (c y : Nat) (A B : World) : Prop where
 os : B.os = A.os
 tape : B.tape = A.tape
 output : B.output = A.output
 size : A.heap.size ≤ B.heap.size
 block : ∀ k, k < y → k ≠ c → B.heap[k]? = A.heap[k]?
theorem SameBut.refl (c y : Nat) (A : World) : SameBut c y A A := ⟨rfl, rfl, rfl, Nat.le_refl _, fun _ _ _ => rfl⟩
theorem SameBut.trans {c y : Nat} {A B C : World} (h : SameBut c y A B) (k : SameBut c y B C) : SameBut c y A C :=
 ⟨k.os.trans h.os, k.tape.trans h.tape, k.output.trans h.output, Nat.le_trans h.size k.size, fun i h1 h2 => (k.block i h1 h2).trans (h.block i h1 h2)⟩
theorem SameBut.setCell {c y : Nat} {A B : World} (h : SameBut c y A B) (i : Nat) (v : Value) : SameBut c y A (B.setCell ⟨c, i, none⟩ v) :=
 ⟨h.os, h.tape, h.output, by simpa [World.setCell] using h.size, fun k h1 h2 => (Below.heap_setCell _ _ _ _ (by simpa using h2)).trans (h.block k h1 h2)⟩
theorem SameBut.own {β : Type} {c y B : Nat} {w : World} (hw : y ≤ w.heap.size) (hB : y ≤ B) : OwnFrom B (fun (_ : β) W => SameBut c y w W) := by
 rintro _ A A' row h hg hr
 exact ⟨hg.os.trans h.os, hg.tape.trans h.tape, hg.output.trans h.output, Nat.le_trans h.size hg.size, fun k h1 h2 => (hg.block k (by have := h.size; omega) (fun e => by have := (hr k e.symm).1; omega)).trans (h.block k h1 h2)⟩
def allocs (w : World) : List Obj → World
 | [] => w
 | o :: l => allocs (w.alloc o) l
theorem allocs_below : ∀ (l : List Obj) (w : World), Below w.heap.size w (allocs w l)
 | [], w => Below.refl _ _
 | o :: l, w => (below_new w o).trans ((allocs_below l (w.alloc o)).mono (by simp))
theorem allocs_get : ∀ (l : List Obj) (w : World) (i : Nat) (o : Obj), l[i]? = some o → (allocs w l).heap[w.heap.size + i]? = some o
 | [], w, i, o, h => by simp at h
 | o' :: l, w, 0, o, h => by
  simp at h
  subst h
  exact ((allocs_below l (w.alloc o')).block _ (by simp)).trans (heap_alloc_new w o')
 | o' :: l, w, i + 1, o, h => by
  have := allocs_get l (w.alloc o') i o (by simpa using h)
  rw [World.size_alloc] at this
  rw [show w.heap.size + (i + 1) = w.heap.size + 1 + i by omega]
  exact this
end Go.Proofs.YtjlliohjeiclaaaGreatDoor
namespace Go.Proofs.YtjlliohjeiclaaaGreatDoor
open Go.RowKit Ku St
structure Plc where
 l : List ByteArray
 k : Int
 x : ByteArray
 a : Option Addr
 n : Nat
 c : Nat
def Plc.v (p : Plc) : Value := .agg #[.slice p.a p.n p.c, .int .i64 p.k, .string p.x]
structure PlcAt (w : World) (p : Plc) : Prop where
 at_ : CellsAt w p.a (txV p.l)
 len : p.n = p.l.length
 le : p.n ≤ 9223372036854775807
 sz : ∀ x ∈ p.l, x.size ≤ 9223372036854775807
 sx : p.x.size ≤ 9223372036854775807
theorem PlcAt.below {w w' : World} {p : Plc} (h : PlcAt w p) (hb : Below w.heap.size w w') : PlcAt w' p := ⟨h.at_.below hb rfl, h.len, h.le, h.sz, h.sx⟩
end Go.Proofs.YtjlliohjeiclaaaGreatDoor
