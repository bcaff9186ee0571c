/- Words, contracts and walks that the proof stands on (KuA Tail KsB KuC KsD Range Range2 HeldW KeepE Marks KsE KnB Grw). -/
import Derived.BigQuiet
import Derived.Deep.DeepMust
import Derived.Deep.QuietTactic
import Derived.Deep.RegionHeld
import Derived.Deep.RegionHeld3
import Derived.Laws.RangeAny
import Derived.Lib.Bytealg
import Derived.Lib.TrimUEq
import Derived.Lib.ValidAsc
import Derived.Lib.ValidU
import Derived.LoopTactic
import Derived.OneCell
import Derived.RangeFuncBound
import Derived.RangeFuncBox
import Derived.RangeFuncCalls
import Derived.RangeFuncFrom
import Derived.RangeFuncKeeps
import Derived.RangeFuncLeaves
import Derived.RangeFuncNested
import Derived.RangeFuncWrites
import Derived.Shelf.RegionOpen
import Derived.Sort.Grow
import Derived.Test.YtjlliohjeiclaaaDoorKB1
import Derived.Test.YtjlliohjeiclaaaDoorKB2
namespace Go.Proofs.YtjlliohjeiclaaaDoor
namespace Ku
open Go.Lib
def goodB (b : UInt8) : Bool := decide (32 ≤ b.toNat) && decide (b.toNat ≠ 47)
theorem dec_step (s : ByteArray) (pos : Nat) (h : pos < s.size) :
 ((s.get! pos).toNat < 128 ∧ Utf8.decode s pos = ((s.get! pos).toNat, 1)) ∨
 (128 ≤ (s.get! pos).toNat ∧ 128 ≤ (Utf8.decode s pos).1 ∧ 1 ≤ (Utf8.decode s pos).2 ∧ pos + (Utf8.decode s pos).2 ≤ s.size ∧ ∀ q, pos ≤ q → q < pos + (Utf8.decode s pos).2 → 128 ≤ (s.get! q).toNat) := by
 by_cases ha : (s.get! pos).toNat < 128
 · left
   refine ⟨ha, ?_⟩
   simp only [Utf8.decode, Nat.add_zero]
   rw [if_pos ha]
 · right
   have h0 : 128 ≤ (s.get! pos).toNat := by omega
   refine ⟨h0, ?_⟩
   have key : ∀ n, n ≤ 4 → pos + n ≤ s.size → (∀ k, 1 ≤ k → k < n → (s.get! (pos + k)).toNat / 64 = 2) → ∀ q, pos ≤ q → q < pos + n → 128 ≤ (s.get! q).toNat := by
    intro n _ _ hc q h1 h2
    by_cases hq : q = pos
    · rw [hq]; exact h0
    · have := hc (q - pos) (by omega) (by omega)
      rw [show pos + (q - pos) = q by omega] at this
      omega
   simp only [Utf8.decode, Nat.add_zero]
   rw [if_neg ha]
   have one : pos + 1 ≤ s.size ∧ ∀ q, pos ≤ q → q < pos + 1 → 128 ≤ (s.get! q).toNat := ⟨h, fun q h1 h2 => by rw [show q = pos by omega]; exact h0⟩
   split
   · rename_i hc
     simp only [Bool.and_eq_true, beq_iff_eq, decide_eq_true_eq] at hc
     split
     · rename_i h80
       exact ⟨h80, by omega, by omega, key 2 (by omega) (by omega) fun k k1 k2 => by rw [show k = 1 by omega]; exact hc.2.2⟩
     · exact ⟨by decide, by decide, one.1, one.2⟩
   · split
     · rename_i hc
       simp only [Bool.and_eq_true, beq_iff_eq, decide_eq_true_eq] at hc
       split
       · rename_i h80
         simp only [Bool.and_eq_true, decide_eq_true_eq] at h80
         refine ⟨by show 128 ≤ _; have := h80.1; simp only [] at *; omega, by simp, by show pos + 3 ≤ _; omega, key 3 (by omega) (by omega) fun k k1 k2 => ?_⟩
         rcases (by omega : k = 1 ∨ k = 2) with rfl | rfl
         · exact hc.1.2.2
         · exact hc.2.2
       · exact ⟨by decide, by decide, one.1, one.2⟩
     · split
       · rename_i hc
         simp only [Bool.and_eq_true, beq_iff_eq, decide_eq_true_eq] at hc
         split
         · rename_i h80
           simp only [Bool.and_eq_true, decide_eq_true_eq] at h80
           refine ⟨by show 128 ≤ _; have := h80.1; simp only [] at *; omega, by simp, by show pos + 4 ≤ _; omega, key 4 (by omega) (by omega) fun k k1 k2 => ?_⟩
           rcases (by omega : k = 1 ∨ k = 2 ∨ k = 3) with rfl | rfl | rfl
           · exact hc.1.1.2.2
           · exact hc.1.2.2
           · exact hc.2.2
         · exact ⟨by decide, by decide, one.1, one.2⟩
       · exact ⟨by decide, by decide, one.1, one.2⟩
def allG (s : ByteArray) : Bool := s.data.toList.all goodB
theorem get_list (s : ByteArray) (i : Nat) (h : i < s.size) : s.get! i = s.data.toList[i]'(by simpa using h) := by
 simp [ByteArray.get!, getElem!_pos, h]
theorem allG_iff {s : ByteArray} : allG s = true ↔ ∀ i, i < s.size → goodB (s.get! i) = true := by
 unfold allG
 rw [List.all_eq_true]
 constructor
 · intro h i hi
   rw [get_list s i hi]
   exact h _ (List.getElem_mem _)
 · intro h b hb
   obtain ⟨i, hi, rfl⟩ := List.getElem_of_mem hb
   have := h i (by simpa using hi)
   rw [get_list s i (by simpa using hi)] at this
   exact this
theorem allG_not {s : ByteArray} {i : Nat} (hi : i < s.size) (h : goodB (s.get! i) = false) : allG s = false := by
 cases ha : allG s with
 | false => rfl
 | true => rw [allG_iff.1 ha i hi] at h; cases h
theorem good_high {b : UInt8} (h : 128 ≤ b.toNat) : goodB b = true := by
 unfold goodB
 rw [decide_eq_true (by omega), decide_eq_true (by omega)]
 rfl
def keyG (s : ByteArray) : Bool := decide (1 ≤ s.size) && (decide (s.size ≤ 64) && (validD s.data.toList && allG s))
end Ku
end Go.Proofs.YtjlliohjeiclaaaDoor
namespace Go.Proofs.YtjlliohjeiclaaaDoor
open Go.RowKit
section
variable {P : Program} {md : Region.Mode} {ops : Array Oper} {Q : Exit → Act → World → Prop} {S : World → Prop} {T : List Nat}
def doneB (ops : Array Oper) (T : List Nat) (listed : Array Bool) : Bool := (List.range ops.size).all fun k => T.contains k || listed.getD k false
def anyT (P : Program) (md : Region.Mode) (ops : Array Oper) (Q : Exit → Act → World → Prop) (T : List Nat) (S : World → Prop) : Nat → Array Bool → Act → World → Prop
 | 0, listed, a, w => wpAny P md ops Q 0 listed a w
 | fuel + 1, listed, a, w => if doneB ops T listed = true then wpAny P md ops Q (fuel + 1) listed a w
  else (Region.ready md ops listed = [] → Q .normal a w) ∧ ∀ i ∈ Region.ready md ops listed, wpOp P ops Q i (fun a' w' => S w' ∧ anyT P md ops Q T S fuel (listed.setIfInBounds i true) a' w') a w
def AllReadyT (P : Program) (md : Region.Mode) (ops : Array Oper) (Q : Exit → Act → World → Prop) (T : List Nat) (S : World → Prop) (fuel : Nat) (listed : Array Bool) (a : Act) (w : World) (rs : List Nat) : Prop :=
 ∀ i ∈ rs, wpOp P ops Q i (fun a' w' => S w' ∧ anyT P md ops Q T S fuel (listed.setIfInBounds i true) a' w') a w
theorem AllReadyT.nil {fuel : Nat} {listed : Array Bool} {a : Act} {w : World} : AllReadyT P md ops Q T S fuel listed a w [] := fun _ h => by cases h
theorem AllReadyT.cons {fuel : Nat} {listed : Array Bool} {a : Act} {w : World} {i : Nat} {o : Oper} {rs : List Nat} (ho : ops[i]? = some o) (hw : Region.wanted o (yielded ops a.tmps) = true)
 (h : ∀ K' : Act → World → Prop, Shut (∀ a w, S w → (S w → anyT P md ops Q T S fuel (listed.setIfInBounds i true) a w) → K' a w) → Oper.wp P o a w K' Q)
 (hs : AllReadyT P md ops Q T S fuel listed a w rs) : AllReadyT P md ops Q T S fuel listed a w (i :: rs) := fun j hj => by
 rcases List.mem_cons.1 hj with rfl | hj
 · unfold wpOp
   simp only [ho]
   rw [if_pos hw]
   exact .inl (h _ (fun a w hS hW => ⟨hS, hW hS⟩))
 · exact hs j hj
end
end Go.Proofs.YtjlliohjeiclaaaDoor
namespace Go.Proofs.YtjlliohjeiclaaaDoor
open Go.RowKit Ku
set_option maxRecDepth 100000 in
theorem key_Key (s : ByteArray) (w : World) (hs : s.size ≤ 9223372036854775807) (hG : Glob w) :
 Calls Tryd.prog 60 #[.string s] w fun e w' => e = .returned (.bool (keyG s)) ∧ Below w.heap.size w w' := by
 have G := Lib.hid hG
 have HS := Lib.hid hs
 clear hG hs
 obtain ⟨res, hres⟩ : ∃ r, keyG s = r := ⟨_, rfl⟩
 have R := Lib.hid hres
 rw [hres]
 clear hres
 go_enter Tryd.func60, Tryd.ntmps60
 by_cases h1 : s.size < 1
 · have h1i : (s.size : Int) < 1 := by omega
   obtain rfl : false = res := by rw [← R.out]; unfold keyG; rw [decide_eq_false (by omega)]; rfl
   go_wp2_with fail
   go_ret
   exact ⟨rfl, Below.refl _ _⟩
 have h1i : ¬ (s.size : Int) < 1 := by omega
 by_cases h2 : 64 < s.size
 · have h2i : (64 : Int) < (s.size : Int) := by omega
   obtain rfl : false = res := by rw [← R.out]; unfold keyG; rw [decide_eq_false (p := s.size ≤ 64) (by omega)]; simp
   go_wp2_with fail
   go_ret
   exact ⟨rfl, Below.refl _ _⟩
 have h2i : ¬ (64 : Int) < (s.size : Int) := by omega
 go_wp2_with fail
 refine (ks_Valid s w HS.out G.out).mono ?_
 rintro e w1 ⟨rfl, hb⟩
 have HB := Lib.hid hb
 clear hb
 obtain ⟨va, hva⟩ : ∃ r, Lib.validD s.data.toList = r := ⟨_, rfl⟩
 rw [hva]
 have VA := Lib.hid hva
 clear hva
 cases va
 case false =>
  obtain rfl : false = res := by rw [← R.out]; unfold keyG; rw [VA.out]; simp
  go_wp2_with fail
  go_ret
  exact ⟨rfl, HB.out⟩
 have R2 : Hid (allG s = res) := Lib.hid (by rw [← R.out]; unfold keyG; rw [VA.out, decide_eq_true (by omega), decide_eq_true (by omega)]; rfl)
 clear R
 go_wp2_with fail
 go_loopw [] (fun w' => ∃ pos : Nat, pos ≤ s.size ∧ w' = w1.iter s pos ∧ Hid (∀ i, i < pos → goodB (s.get! i) = true)) (fun w' => s.size - w'.iterPos w1.heap.size)
 case atStart => exact ⟨0, Nat.zero_le _, rfl, Lib.hid (fun i hi => by omega)⟩
 case round =>
  obtain ⟨pos, hps, rfl, HA⟩ := hrel
  by_cases hp : pos < s.size
  · have hnx : ∀ ty, (Instr.next (.pointer (some ⟨w1.heap.size, 0, none⟩)) true ty).run Tryd.prog (w1.iter s pos) = _ := fun ty => run_next_any w1 s pos ty hp
    have D := Lib.hid (dec_step s pos hp)
    obtain ⟨c, n, hcn⟩ : ∃ c n, Utf8.decode s pos = (c, n) := ⟨_, _, rfl⟩
    rw [hcn] at D
    simp only [hcn] at hnx
    clear hcn
    have HP := Lib.hid hp
    rcases D.out with ⟨a1, a2⟩ | ⟨a1, a2, a3, a4, a5⟩
    · obtain ⟨rfl, rfl⟩ : c = (s.get! pos).toNat ∧ n = 1 := by cases a2; exact ⟨rfl, rfl⟩
      clear a2 D
      obtain ⟨c, hc⟩ : ∃ c, (s.get! pos).toNat = c := ⟨_, rfl⟩
      rw [hc] at a1
      simp only [hc] at hnx
      have HC := Lib.hid hc
      clear hc
      by_cases k1 : c < 32
      · have k1i : (c : Int) < 32 := by omega
        obtain rfl : false = res := by rw [← R2.out]; exact (allG_not HP.out (by unfold goodB; rw [HC.out, decide_eq_false (p := 32 ≤ c) (by omega)]; rfl)).symm
        go_wp2_with fail
        go_ret
        exact ⟨rfl, HB.out.trans ((below_new w1 _).mono HB.out.size)⟩
      · by_cases k2 : c = 47
        · subst k2
          obtain rfl : false = res := by rw [← R2.out]; exact (allG_not HP.out (by unfold goodB; rw [HC.out]; decide)).symm
          go_wp2_with fail
          go_ret
          exact ⟨rfl, HB.out.trans ((below_new w1 _).mono HB.out.size)⟩
        · have NX : Hid (∀ i, i < pos + 1 → goodB (s.get! i) = true) := Lib.hid (fun i hi => by
           by_cases h : i < pos
           · exact HA.out i h
           · rw [show i = pos by omega]; unfold goodB; rw [HC.out, decide_eq_true (by omega), decide_eq_true k2]; rfl)
          have hc1 : ¬ (c : Int) < 32 := by omega
          have hc2 : ((c : Int) == 47) = false := beq_eq_false_iff_ne.2 (by omega)
          have hc3 : ¬ (c : Int) = 47 := by omega
          go_wp2_with fail
          go_roundw
          case rel => exact ⟨pos + 1, by omega, rfl, NX⟩
          case measure => simp; omega
    · have NX : Hid (∀ i, i < pos + n → goodB (s.get! i) = true) := Lib.hid (fun i hi => by
       by_cases h : i < pos
       · exact HA.out i h
       · exact good_high (a5 i (by omega) hi))
      clear D a5
      have hc1 : ¬ (c : Int) < 32 := by omega
      have hc2 : ((c : Int) == 47) = false := beq_eq_false_iff_ne.2 (by omega)
      have hc3 : ¬ (c : Int) = 47 := by omega
      go_wp2_with fail
      go_roundw
      case rel => exact ⟨pos + n, by omega, rfl, NX⟩
      case measure => simp; omega
  · obtain rfl : pos = s.size := by omega
    have hnx : ∀ ty, (Instr.next (.pointer (some ⟨w1.heap.size, 0, none⟩)) true ty).run Tryd.prog (w1.iter s s.size) = _ := fun ty => run_next_end w1 s s.size ty hp
    obtain rfl : true = res := by rw [← R2.out]; exact (allG_iff.2 HA.out).symm
    go_wp2_with fail
    go_ret
    exact ⟨rfl, HB.out.trans ((below_new w1 _).mono HB.out.size)⟩
end Go.Proofs.YtjlliohjeiclaaaDoor
namespace Go.Proofs.YtjlliohjeiclaaaDoor
namespace Ku
open Go.Op (bytesLess)
open St
def pathG (l : List ByteArray) : Bool := decide (l.length ≤ 6) && l.all keyG
theorem cmpB_eq : ∀ (l m : List UInt8), Lib.compareBytes l m = if bytesLess l m = true then -1 else if bytesLess m l = true then 1 else 0
 | [], [] => by simp [Lib.compareBytes, bytesLess]
 | [], _ :: _ => by simp [Lib.compareBytes, bytesLess]
 | _ :: _, [] => by simp [Lib.compareBytes, bytesLess]
 | a :: la, b :: lb => by
  have ih := cmpB_eq la lb
  unfold Lib.compareBytes
  by_cases h1 : a < b
  · rw [if_pos h1]; simp [bytesLess, h1]
  · rw [if_neg h1]
    by_cases h2 : b < a
    · rw [if_pos h2]
      have h3 : ¬ a = b := fun e => by rw [e] at h2; exact absurd h2 (by rw [UInt8.lt_iff_toNat_lt]; omega)
      simp [bytesLess, h1, h2, h3]
    · rw [if_neg h2]
      have h3 : a = b := by
       have n1 : ¬ a.toNat < b.toNat := fun h => h1 (UInt8.lt_iff_toNat_lt.2 h)
       have n2 : ¬ b.toNat < a.toNat := fun h => h2 (UInt8.lt_iff_toNat_lt.2 h)
       exact UInt8.toNat_inj.1 (by omega)
      subst h3
      rw [ih]
      simp [bytesLess, h1]
theorem cmpB_txt (a b : ByteArray) : Lib.compareBytes a.data.toList b.data.toList = txtC a b := by
 rw [cmpB_eq]
 unfold txtC Pm.klt
 rw [ByteArray.toList_eq, ByteArray.toList_eq]
end Ku
end Go.Proofs.YtjlliohjeiclaaaDoor
namespace Go.Proofs.YtjlliohjeiclaaaDoor
open Go.RowKit Ku St
set_option maxRecDepth 100000 in
set_option maxHeartbeats 2000000 in
theorem key_Path (l : List ByteArray) (a : Option Addr) (n c : Nat) (w : World) (hl : CellsAt w a (txV l)) (hn : n = l.length) (hs : ∀ x ∈ l, x.size ≤ 9223372036854775807) (hG : Glob w) :
 Calls Tryd.prog 59 #[.slice a n c] w fun e w' => e = .returned (.bool (pathG l)) ∧ Below w.heap.size w w' := by
 have HL := Lib.hid hl
 have HN := Lib.hid hn
 have HS := Lib.hid hs
 have G := Lib.hid hG
 obtain ⟨res, hres⟩ : ∃ r, pathG l = r := ⟨_, rfl⟩
 have R := Lib.hid hres
 rw [hres]
 clear hl hn hs hG hres
 go_enter Tryd.func59, Tryd.ntmps59
 by_cases g6 : 6 < n
 · have g6i : (6 : Int) < (n : Int) := by omega
   obtain rfl : false = res := by rw [← R.out]; unfold pathG; rw [decide_eq_false (by rw [← HN.out]; omega)]; rfl
   go_wp2_with fail
   go_ret
   exact ⟨rfl, Below.refl _ _⟩
 have g6i : ¬ (6 : Int) < (n : Int) := by omega
 have R2 : Hid (l.all keyG = res) := Lib.hid (by rw [← R.out]; unfold pathG; rw [decide_eq_true (by rw [← HN.out]; omega)]; rfl)
 clear R
 go_wp2_with fail
 go_loopw [10] (fun i wr => ∃ k : Nat, k ≤ n ∧ i = .int .i64 (k : Int) ∧ Hid ((l.take k).all keyG = true) ∧ Hid (Below w.heap.size w wr)) (fun i _ => n - (intOf i).toNat)
 case atStart => exact ⟨0, Nat.zero_le _, rfl, Lib.hid (by simp), Lib.hid (Below.refl _ _)⟩
 case round =>
  obtain ⟨k, hk, rfl, HA, HB⟩ := hrel
  by_cases hlt : k < n
  · have hk1 : k < l.length := by have := HN.out; omega
    obtain ⟨ba, oa, rfl, p0⟩ := tx_get (HL.out.below HB.out rfl) k hk1
    have BAD : Hid (keyG l[k] = false → res = false) := Lib.hid (fun h => by
     rw [← R2.out]
     cases hh : l.all keyG with
     | false => rfl
     | true => rw [List.all_eq_true.1 hh _ (List.getElem_mem hk1)] at h; cases h)
    have NXT : Hid (keyG l[k] = true → (l.take (k + 1)).all keyG = true) := Lib.hid (fun h => by rw [List.take_succ_eq_append_getElem hk1, List.all_append, HA.out]; simp [h])
    have SX : Hid (l[k].size ≤ 9223372036854775807) := Lib.hid (HS.out _ (List.getElem_mem hk1))
    generalize l[k] = x at *
    have hki : (k : Int) < (n : Int) := by omega
    go_wp2_with fail
    refine (key_Key x _ SX.out (G.out.below HB.out)).mono ?_
    rintro e w1 ⟨rfl, hb⟩
    have HB1 := Lib.hid (HB.out.trans (hb.mono HB.out.size))
    clear hb p0
    obtain ⟨v, hv⟩ : ∃ q, keyG x = q := ⟨_, rfl⟩
    rw [hv] at BAD NXT ⊢
    clear hv
    cases v with
    | false =>
     obtain rfl : false = res := (BAD.out rfl).symm
     go_wp2_with fail
     go_ret
     exact ⟨rfl, HB1.out⟩
    | true =>
     have H := Lib.hid (NXT.out rfl)
     go_wp2_with fail
     go_roundw
     case rel => exact ⟨k + 1, by omega, by go_num, H, HB1⟩
     case measure => simp [intOf]; omega
  · obtain rfl : k = n := by omega
    obtain rfl : true = res := by rw [← R2.out]; have := HA.out; rw [HN.out, List.take_length] at this; exact this.symm
    go_wp2_with fail
    go_ret
    exact ⟨rfl, HB.out⟩
end Go.Proofs.YtjlliohjeiclaaaDoor
namespace Go.Proofs.YtjlliohjeiclaaaDoor
open Go.RowKit
theorem grown_of_below {w w' : World} (h : Below w.heap.size w w') (row : Option Nat) : w.grownBy w' row := ⟨h.os, h.tape, h.output, h.size, fun k hk _ => h.block k hk⟩
theorem ownFrom_to {β : Type} {B : Nat} {I : β → World → Prop} (h : OwnFrom B I) {s : β} {A A' : World} (hs : I s A) (hb : Below A.heap.size A A') : I s A' :=
 h s A A' none hs (grown_of_below hb none) (fun r e => by cases e)
variable {P : Program} {n : Nat}
end Go.Proofs.YtjlliohjeiclaaaDoor
namespace Go.Proofs.YtjlliohjeiclaaaDoor
open Go.RowKit
def Iter2 {α : Type} (n : Nat) (P : Program) (g : Nat) (lb : Array Value) (encs : α → Array Value) (Kp : World → World → Prop) (X : List α → α → World → Prop) (End : World → List α → World → World → Prop) (Sp : List α → Prop) (w : World) : Prop :=
 ∀ (l : Nat) (J Jx : List α → World → Prop) (W : World), Below w.heap.size w W → w.heap.size + 2 ≤ W.heap.size →
  OwnFrom W.heap.size J → OwnFrom W.heap.size Jx →
  (∀ pre x W1, J pre W1 → X pre x W1 → YieldAt Fence.wide (n - 1) P l (encs x) W1 fun e W' =>
   (e = .returned (.bool true) ∧ J (pre ++ [x]) W' ∧ Kp W1 W') ∨ (e = .returned (.bool false) ∧ Jx (pre ++ [x]) W' ∧ Kp W1 W')) →
  J [] W →
  CallsIn Fence.wide n P g (#[.func (.yield l) #[] #[]] ++ lb) W fun e W' => (∃ v, e = .returned v) ∧ ((∃ xs W2, J xs W2 ∧ End W xs W2 W') ∨ (∃ pre, Sp pre ∧ Jx pre W'))
def bodyPostR2 {α : Type} (B : Nat) (Kp : World → World → Prop) (I : List α → World → Prop) (Ix : Code → List α → World → Prop) (xs : List α) (W : World) : Exit → Act → World → Prop
 | .normal, _, W' => KeepsFrom B W W' ∧ Kp W W' ∧ I xs W'
 | .ret, _, W' => KeepsFrom B W W' ∧ Kp W W' ∧ Ix .ret xs W'
 | .exit id, _, W' => KeepsFrom B W W' ∧ Kp W W' ∧ Ix (.exit id) xs W'
 | .goto t, _, W' => KeepsFrom B W W' ∧ Kp W W' ∧ Ix (.goto t) xs W'
 | .panic _, _, _ => False
 | .outgrown, _, _ => False
variable {P : Program} {n : Nat}
theorem range_law2 {α : Type} {g : Operand} {ps : Array Tmp} {assign body : Code} {Q : Exit → Act → World → Prop} {a : Act} {w : World} {gf : Nat} {lb : Array Value}
 (hg : a.eval g = .func (.func gf) #[] lb) (eg : ∀ args w, (callFunc gf args).run P w = .ok (.enter gf args) w)
 {encs : α → Array Value} {Kp : World → World → Prop} {X : List α → α → World → Prop} {End : World → List α → World → World → Prop} {Sp : List α → Prop} (hseq : Iter2 (n - 1) P gf lb encs Kp X End Sp w)
 (h1 : 1 ≤ n) (hKt : ∀ {A B C : World}, Kp A B → Kp B C → Kp A C) (hKb : ∀ (W : World) (o o' : Obj), W.heap[w.heap.size + 1]? = some o → o.isCells = false → Kp W (W.putObj (w.heap.size + 1) o'))
 (hps : ∀ x, (encs x).size = ps.size) (hX : ∀ pre, OwnFrom w.heap.size (X pre)) (hEnd : ∀ W1, w.heap.size + 2 ≤ W1.heap.size → ∀ xs A B, End W1 xs A B → ∀ k o, k < w.heap.size + 2 → A.heap[k]? = some o → o.isCells = false → B.heap[k]? = some o)
 (I : List α → World → Prop) (Ix : Code → List α → World → Prop) (F : List α → World → Prop) (hI : OwnFrom w.heap.size I) (hIx : ∀ c, OwnFrom w.heap.size (Ix c)) (hF : OwnFrom w.heap.size F) (hIF : ∀ W1, w.heap.size + 2 ≤ W1.heap.size → ∀ xs A B, I xs A → End W1 xs A B → F xs B)
 (h0 : I [] w) (Y : List α → α → Act → World → Prop) (hY : ∀ x a', OwnFrom w.heap.size (fun pre => Y pre x a'))
 (hassign : ∀ (l : Nat) (pre : List α) (x : α) (W : World) (K : Act → World → Prop), I pre W → X pre x W → w.heap.size ≤ W.heap.size →
  (∀ a' W', KeepsFrom w.heap.size W W' → Kp W W' → w.heap.size ≤ W'.heap.size → Y pre x a' W' → K a' W') →
  assign.wpIn (Fence.wide.inRound l) (n - 1 - 1) P (Exit.then K (fun _ _ _ => False)) { tmps := (ps.zip (encs x)).foldl (fun t (p, v) => t.setIfInBounds p v) a.tmps, defers := [] } W)
 (hbody : ∀ (l : Nat) (pre : List α) (x : α) (a' : Act) (W : World), Y pre x a' W → w.heap.size ≤ W.heap.size → body.wpIn (Fence.wide.inRound l) (n - 1 - 1) P (bodyPostR2 w.heap.size Kp I Ix (pre ++ [x]) W) a' W)
 (hdone : ∀ (D : Nat) (xs : List α) (W : World), w.heap.size ≤ D → F xs W → W.heap[D]? = some (.deferred (some [])) → Q .normal { a with defers := { target := .collected D, args := #[] } :: a.defers } W)
 (hstop : ∀ (D : Nat) (c : Code) (pre : List α) (W : World), w.heap.size ≤ D → Sp pre → Ix c pre W → W.heap[D]? = some (.deferred (some [])) → c.wpIn Fence.wide n P Q { a with defers := { target := .collected D, args := #[] } :: a.defers } W) :
 (Code.rangeFunc g ps assign body).wpIn Fence.wide n P Q a w := by
 refine wpIn_rangeFunc fun fn hfn => ?_
 obtain ⟨rec, hrec⟩ : ∃ rec : LoopState → Option Code → Loop, rec = fun st pe => { state := st, pending := pe, fn, tmps := a.tmps, params := ps, assign, body, defers := w.heap.size } := ⟨_, rfl⟩
 obtain ⟨W1, hW1⟩ : ∃ W1, (w.alloc (.deferred (some []))).alloc (.loop (rec .ready none)) = W1 := ⟨_, rfl⟩
 have hb1 : Below w.heap.size w W1 := by
  rw [← hW1]; exact (below_new w _).alloc (by simp) _
 have hL1 : W1.heap[w.heap.size + 1]? = some (.loop (rec .ready none)) := by
  have h := World.alloc_heap_new (w.alloc (.deferred (some []))) (.loop (rec .ready none))
  rw [World.size_alloc, hW1] at h
  exact h
 have hK1 : W1.heap[w.heap.size]? = some (.deferred (some [])) := by
  rw [← hW1]; exact (Below.heap_alloc _ _ _ (by simp)).trans (World.alloc_heap_new w _)
 refine ⟨w.heap.size + 1, [{ target := .collected w.heap.size, args := #[] }], W1, { target := .fn (.func gf) lb, args := #[.func (.yield (w.heap.size + 1)) #[] #[]] }, W1, gf,
  #[.func (.yield (w.heap.size + 1)) #[] #[]] ++ lb, W1, ?_, ?_, ?_, ?_, fun _ => h1, ?_⟩
 · rw [← hW1, hrec]; exact run_enterLoop_outer _ _ _ _ _
 · simp only [resolve, hg]
   simp [go_sem]
 · intro f' _; trivial
 · simp [invoke, go_sem, eg]
 · have keepRec : ∀ {A B : World} {k : Nat} {o : Obj}, A.heap[k]? = some o → Below A.heap.size A B → B.heap[k]? = some o := fun hk hb => (hb.block _ (Array.getElem?_eq_some_iff.1 hk).1).trans hk
   have hsz1 : W1.heap.size = w.heap.size + 2 := by rw [← hW1]; simp
   have key : ∀ {A A' : World} {row : Option Nat}, A.grownBy A' row → (∀ r, row = some r → W1.heap.size ≤ r ∧ ∃ o : Obj, A.heap[r]? = some o ∧ o.isCells = false) → ∀ k o, A.heap[k]? = some o → k < W1.heap.size → A'.heap[k]? = some o := fun hg hr k o hk hlt => (hg.block k (Array.getElem?_eq_some_iff.1 hk).1 (fun e => by have := (hr k e.symm).1; omega)).trans hk
   have hJo : OwnFrom W1.heap.size (fun pre W => I pre W ∧ W.heap[w.heap.size + 1]? = some (.loop (rec .ready none)) ∧ W.heap[w.heap.size]? = some (.deferred (some []))) := by
    rintro s A A' row ⟨h1, h2, h3⟩ hg hr
    exact ⟨hI s A A' row h1 hg (fun r e => ⟨by have := (hr r e).1; omega, (hr r e).2⟩), key hg hr _ _ h2 (by omega), key hg hr _ _ h3 (by omega)⟩
   have hJxo : OwnFrom W1.heap.size (fun pre W => ∃ c, Ix c pre W ∧ W.heap[w.heap.size + 1]? = some (.loop (rec .done (some c))) ∧ W.heap[w.heap.size]? = some (.deferred (some []))) := by
    rintro s A A' row ⟨c, h1, h2, h3⟩ hg hr
    exact ⟨c, hIx c s A A' row h1 hg (fun r e => ⟨by have := (hr r e).1; omega, (hr r e).2⟩), key hg hr _ _ h2 (by omega), key hg hr _ _ h3 (by omega)⟩
   refine (hseq (w.heap.size + 1)
    (fun pre W => I pre W ∧ W.heap[w.heap.size + 1]? = some (.loop (rec .ready none)) ∧ W.heap[w.heap.size]? = some (.deferred (some [])))
    (fun pre W => ∃ c, Ix c pre W ∧ W.heap[w.heap.size + 1]? = some (.loop (rec .done (some c))) ∧ W.heap[w.heap.size]? = some (.deferred (some [])))
    W1 hb1 (by omega) hJo hJxo ?_ ⟨ownFrom_to hI h0 hb1, hL1, hK1⟩).mono ?_
   · rintro pre x W ⟨hi, hl, hk⟩ hx
     have hlt : w.heap.size + 1 < W.heap.size := (Array.getElem?_eq_some_iff.1 hl).1
     have hy := run_yield (P := P) (args := encs x) hl (by rw [hrec]; exact hps x)
     rw [hrec] at hy
     refine ⟨fn, _, assign, body, hy, roundIn_of_wpIn hfn (hassign _ pre x W _ hi hx (by omega) ?_)⟩
     intro a' Wa hkoa hkpa hsa hYa
     have hla := hkoa.same _ _ (by omega) hl rfl
     have hka := hkoa.same _ _ (by omega) hk rfl
     have hlta : w.heap.size + 1 < Wa.heap.size := (Array.getElem?_eq_some_iff.1 hla).1
     refine ⟨_, run_beginRound hla (by rw [hrec]), ?_⟩
     obtain ⟨W2, hW2⟩ : ∃ W2, Wa.putObj (w.heap.size + 1) (.loop { rec .ready none with state := .busy }) = W2 := ⟨_, rfl⟩
     have hl2 : W2.heap[w.heap.size + 1]? = some (.loop { rec .ready none with state := .busy }) := by rw [← hW2]; exact World.putObj_heap_same hlta
     have hk2 : W2.heap[w.heap.size]? = some (.deferred (some [])) := by rw [← hW2]; exact (World.putObj_heap_other (by omega)).trans hka
     have hw2 : Kp W W2 := by rw [← hW2]; exact hKt hkpa (hKb _ _ _ hla rfl)
     have hY2 : Y pre x a' W2 := by rw [← hW2]; exact (hY x a').putObj _ hYa (by omega) hla rfl
     have hs2 : w.heap.size ≤ W2.heap.size := by rw [← hW2, World.putObj_size]; omega
     rw [hW2]
     refine wpIn_mono (hbody _ pre x a' _ hY2 hs2) ?_
     have fin : ∀ (jump : Option Code) (W3 : World), KeepsFrom w.heap.size W2 W3 →
      (Instr.endRound (w.heap.size + 1) jump).run P W3 = .ok (.bool jump.isNone) (W3.putObj (w.heap.size + 1) (.loop (rec (if jump.isNone then .ready else .done) jump))) ∧
      W3.heap[w.heap.size + 1]? = some (.loop { rec .ready none with state := .busy }) ∧
      (W3.putObj (w.heap.size + 1) (.loop (rec (if jump.isNone then .ready else .done) jump))).heap[w.heap.size + 1]? = some (.loop (rec (if jump.isNone then .ready else .done) jump)) ∧
      (W3.putObj (w.heap.size + 1) (.loop (rec (if jump.isNone then .ready else .done) jump))).heap[w.heap.size]? = some (.deferred (some [])) := by
      intro jump W3 hk3
      have hl3 := hk3.same _ _ (by omega) hl2 rfl
      have h4 := run_endRound (P := P) jump hl3
      rw [hrec] at h4 ⊢
      rw [hrec] at hl3
      exact ⟨h4, hl3, World.putObj_heap_same (Array.getElem?_eq_some_iff.1 hl3).1, (World.putObj_heap_other (by omega)).trans (hk3.same _ _ (by omega) hk2 rfl)⟩
     rintro e a3 W3 hp
     cases e with
     | normal =>
      obtain ⟨hk3, hkp3, hi3⟩ := hp
      obtain ⟨hr, hl3, hl4, hk4⟩ := fin none W3 hk3
      exact ⟨_, _, hr, .inl ⟨rfl, ⟨hI.putObj _ hi3 (by omega) hl3 rfl, hl4, hk4⟩, hKt (hKt hw2 hkp3) (hKb _ _ _ hl3 rfl)⟩⟩
     | ret =>
      obtain ⟨hk3, hkp3, hi3⟩ := hp
      obtain ⟨hr, hl3, hl4, hk4⟩ := fin (some .ret) W3 hk3
      exact ⟨_, _, hr, .inr ⟨rfl, ⟨.ret, (hIx _).putObj _ hi3 (by omega) hl3 rfl, hl4, hk4⟩, hKt (hKt hw2 hkp3) (hKb _ _ _ hl3 rfl)⟩⟩
     | exit id =>
      obtain ⟨hk3, hkp3, hi3⟩ := hp
      obtain ⟨hr, hl3, hl4, hk4⟩ := fin (some (.exit id)) W3 hk3
      exact ⟨_, _, hr, .inr ⟨rfl, ⟨.exit id, (hIx _).putObj _ hi3 (by omega) hl3 rfl, hl4, hk4⟩, hKt (hKt hw2 hkp3) (hKb _ _ _ hl3 rfl)⟩⟩
     | goto t =>
      obtain ⟨hk3, hkp3, hi3⟩ := hp
      obtain ⟨hr, hl3, hl4, hk4⟩ := fin (some (.goto t)) W3 hk3
      exact ⟨_, _, hr, .inr ⟨rfl, ⟨.goto t, (hIx _).putObj _ hi3 (by omega) hl3 rfl, hl4, hk4⟩, hKt (hKt hw2 hkp3) (hKb _ _ _ hl3 rfl)⟩⟩
     | panic ch => exact hp.elim
     | outgrown => exact hp.elim
   · rintro e W2 ⟨⟨v, rfl⟩, (⟨xs, W3, ⟨hi, hl, hk⟩, he⟩ | ⟨pre, hSp, c, hi, hl, hk⟩)⟩
     · have ho := hEnd _ (by omega) _ _ _ he
       have hl3 := ho _ _ (by omega) hl rfl
       have hk3 := ho _ _ (by omega) hk rfl
       exact ⟨none, _, by have h4 := run_endLoop (P := P) hl3 (by rw [hrec]; simp); rw [hrec] at h4; exact h4, hdone _ xs _ (Nat.le_refl _) (hF.putObj _ (hIF _ (by omega) _ _ _ hi he) (by omega) hl3 rfl) ((World.putObj_heap_other (by omega)).trans hk3)⟩
     · exact ⟨some c, _, by have h4 := run_endLoop (P := P) hl (by rw [hrec]; simp); rw [hrec] at h4; exact h4, hstop _ c pre _ (Nat.le_refl _) hSp ((hIx c).putObj _ hi (by omega) hl rfl) ((World.putObj_heap_other (by omega)).trans hk)⟩
end Go.Proofs.YtjlliohjeiclaaaDoor
namespace Go.Proofs.YtjlliohjeiclaaaDoor
open Go.RowKit
section
variable {P : Program} {n : Nat} {md : Region.Mode} {ops : Array Oper} {Q : Exit → Act → World → Prop} {S : World → Prop}
def OnlyE (Q : Exit → Act → World → Prop) : Exit → Act → World → Prop
 | .normal, a, w => Q .normal a w
 | _, _, _ => False
theorem OnlyE.normal {a : Act} {w : World} (h : Q .normal a w) : OnlyE Q .normal a w := h
end
end Go.Proofs.YtjlliohjeiclaaaDoor
namespace Go.Proofs.YtjlliohjeiclaaaDoor
open Go.RowKit
structure KeepE (M : Nat) (S : Nat → Prop) (Ex : TypeId → Prop) (A B : World) : Prop where
 os : B.os = A.os
 tape : B.tape = A.tape
 output : B.output = A.output
 size : A.heap.size ≤ B.heap.size
 block : ∀ k, S k → B.heap[k]? = A.heap[k]?
 rest : ∀ k o, M ≤ k → A.heap[k]? = some o → (∀ c t fr, o = .cells c t fr → ¬ Ex t) → B.heap[k]? = some o
theorem KeepE.trans {M : Nat} {S : Nat → Prop} {Ex : TypeId → Prop} {A B C : World} (h : KeepE M S Ex A B) (k : KeepE M S Ex B C) : KeepE M S Ex A C :=
 ⟨k.os.trans h.os, k.tape.trans h.tape, k.output.trans h.output, Nat.le_trans h.size k.size, fun i hi => (k.block i hi).trans (h.block i hi), fun i o hi ho ht => k.rest i o hi (h.rest i o hi ho ht) ht⟩
theorem KeepE.below {M : Nat} {S : Nat → Prop} {Ex : TypeId → Prop} {A B : World} (h : Below A.heap.size A B) (hS : ∀ k, S k → k < A.heap.size) : KeepE M S Ex A B :=
 ⟨h.os, h.tape, h.output, h.size, fun k hk => h.block k (hS k hk), fun k o _ ho _ => (h.block k (Array.getElem?_eq_some_iff.1 ho).1).trans ho⟩
theorem KeepE.refl {M : Nat} {S : Nat → Prop} {Ex : TypeId → Prop} (A : World) : KeepE M S Ex A A := ⟨rfl, rfl, rfl, Nat.le_refl _, fun _ _ => rfl, fun _ _ _ h _ => h⟩
theorem KeepE.put {M : Nat} {S : Nat → Prop} {Ex : TypeId → Prop} (W : World) (l : Nat) (o : Obj) (hl : l < M) (hS : ∀ k, S k → k < l) : KeepE M S Ex W (W.putObj l o) :=
 ⟨rfl, rfl, rfl, by simp, fun i hi => World.putObj_heap_other (by have := hS i hi; omega), fun k o' hk ho _ => (World.putObj_heap_other (by omega)).trans ho⟩
theorem KeepE.setCell {M : Nat} {S : Nat → Prop} {Ex : TypeId → Prop} (W : World) (X i : Nat) (v : Value) (hX : X < M) (hS : ¬ S X) : KeepE M S Ex W (W.setCell ⟨X, i, none⟩ v) :=
 ⟨rfl, rfl, rfl, by simp [World.setCell], fun k hk => Below.heap_setCell _ _ _ _ (fun e => hS (show S X from (show k = X from e) ▸ hk)), fun k o hk ho _ => (Below.heap_setCell _ _ _ _ (by simp; omega)).trans ho⟩
end Go.Proofs.YtjlliohjeiclaaaDoor
namespace Go.Proofs.YtjlliohjeiclaaaDoor
open Go.RowKit
def Facts (H : List (Nat × Obj)) (W : World) : Prop := ∀ p ∈ H, W.heap[p.1]? = some p.2
theorem Facts.below {H : List (Nat × Obj)} {A B : World} (h : Facts H A) (hb : Below A.heap.size A B) : Facts H B := fun p hp => (hb.block _ (Array.getElem?_eq_some_iff.1 (h p hp)).1).trans (h p hp)
theorem Facts.lt {H : List (Nat × Obj)} {A : World} (h : Facts H A) : ∀ p ∈ H, p.1 < A.heap.size := fun p hp => (Array.getElem?_eq_some_iff.1 (h p hp)).1
theorem Facts.setCell {H : List (Nat × Obj)} {A : World} {c i : Nat} (h : Facts H A) (hc : ∀ p ∈ H, p.1 ≠ c) (v : Value) : Facts H (A.setCell ⟨c, i, none⟩ v) := fun p hp => (Below.heap_setCell _ _ _ _ (by simpa using hc p hp)).trans (h p hp)
theorem Facts.putObj {H : List (Nat × Obj)} {A : World} {c : Nat} (h : Facts H A) (hc : ∀ p ∈ H, p.1 ≠ c) (o : Obj) : Facts H (A.putObj c o) := fun p hp => (World.putObj_heap_other (fun e => hc p hp e)).trans (h p hp)
theorem Facts.cons {H : List (Nat × Obj)} {A : World} {b : Nat} {o : Obj} (h : Facts H A) (hb : A.heap[b]? = some o) : Facts ((b, o) :: H) A := fun p hp => by
 rcases List.mem_cons.1 hp with rfl | hp
 · exact hb
 · exact h p hp
theorem own_block {β : Type} {B k : Nat} {o : Obj} (hk : k < B) : OwnFrom B (fun (_ : β) W => W.heap[k]? = some o) := by
 rintro _ A A' row h hg hr
 exact (hg.block k (Array.getElem?_eq_some_iff.1 h).1 (fun e => by have := (hr k e.symm).1; omega)).trans h
def marks (Ds : List Nat) : List Deferred := Ds.map fun D => { target := .collected D, args := #[] }
def markF (Ds : List Nat) : List (Nat × Obj) := Ds.map fun D => (D, .deferred (some []))
theorem leaves_marks {F : Fence} {n : Nat} {P : Program} {fn : Func} {tmps : Array Value} {R : Ending → World → Prop} : ∀ (Ds : List Nat) (W : World), Ds.Nodup → Facts (markF Ds) W →
 (∀ W', W'.os = W.os → W'.tape = W.tape → W'.output = W.output → W'.heap.size = W.heap.size → (∀ k, k ∉ Ds → W'.heap[k]? = W.heap[k]?) → ∃ v, (results fn tmps).run P W' = .ok v W' ∧ R (.returned v) W') →
 LeavesInM F n P fn tmps R (marks Ds) .returning W
 | [], W, _, _, h => h W rfl rfl rfl rfl fun _ _ => rfl
 | D :: Ds, W, hnd, hf, h => by
  obtain ⟨h1, h2⟩ := List.nodup_cons.1 hnd
  refine ⟨by simp, .inl ⟨_, _, rfl, run_takeDeferred (hf (D, .deferred (some [])) (by simp [markF])), ?_⟩⟩
  refine leaves_marks Ds _ h2 (Facts.putObj (fun p hp => hf p (by simp only [markF, List.map_cons, List.mem_cons]; exact .inr hp)) (fun p hp e => ?_) _) ?_
  · obtain ⟨D', hD', rfl⟩ := List.mem_map.1 hp
    exact h1 (e ▸ hD')
  · intro W' e1 e2 e3 e4 e5
    refine h W' e1 e2 e3 (by rw [e4]; simp) fun k hk => ?_
    rw [e5 k (fun hm => hk (List.mem_cons_of_mem _ hm))]
    exact World.putObj_heap_other (fun e => hk (e ▸ List.mem_cons_self))
structure SameBut (c y : Nat) (A B : World) : Prop where
 os : B.os = A.os
 tape : B.tape = A.tape
 output : B.output = A.output
 size : A.heap.size ≤ B.heap.size
 block : ∀ k, k < y → k ≠ c → B.heap[k]? = A.heap[k]?
theorem SameBut.refl (c y : Nat) (A : World) : SameBut c y A A := ⟨rfl, rfl, rfl, Nat.le_refl _, fun _ _ _ => rfl⟩
theorem SameBut.trans {c y : Nat} {A B C : World} (h : SameBut c y A B) (k : SameBut c y B C) : SameBut c y A C :=
 ⟨k.os.trans h.os, k.tape.trans h.tape, k.output.trans h.output, Nat.le_trans h.size k.size, fun i h1 h2 => (k.block i h1 h2).trans (h.block i h1 h2)⟩
theorem SameBut.setCell {c y : Nat} {A B : World} (h : SameBut c y A B) (i : Nat) (v : Value) : SameBut c y A (B.setCell ⟨c, i, none⟩ v) :=
 ⟨h.os, h.tape, h.output, by simpa [World.setCell] using h.size, fun k h1 h2 => (Below.heap_setCell _ _ _ _ (by simpa using h2)).trans (h.block k h1 h2)⟩
theorem SameBut.own {β : Type} {c y B : Nat} {w : World} (hw : y ≤ w.heap.size) (hB : y ≤ B) : OwnFrom B (fun (_ : β) W => SameBut c y w W) := by
 rintro _ A A' row h hg hr
 exact ⟨hg.os.trans h.os, hg.tape.trans h.tape, hg.output.trans h.output, Nat.le_trans h.size hg.size, fun k h1 h2 => (hg.block k (by have := h.size; omega) (fun e => by have := (hr k e.symm).1; omega)).trans (h.block k h1 h2)⟩
def allocs (w : World) : List Obj → World
 | [] => w
 | o :: l => allocs (w.alloc o) l
theorem allocs_below : ∀ (l : List Obj) (w : World), Below w.heap.size w (allocs w l)
 | [], w => Below.refl _ _
 | o :: l, w => (below_new w o).trans ((allocs_below l (w.alloc o)).mono (by simp))
theorem allocs_get : ∀ (l : List Obj) (w : World) (i : Nat) (o : Obj), l[i]? = some o → (allocs w l).heap[w.heap.size + i]? = some o
 | [], w, i, o, h => by simp at h
 | o' :: l, w, 0, o, h => by
  simp at h
  subst h
  exact ((allocs_below l (w.alloc o')).block _ (by simp)).trans (heap_alloc_new w o')
 | o' :: l, w, i + 1, o, h => by
  have := allocs_get l (w.alloc o') i o (by simpa using h)
  rw [World.size_alloc] at this
  rw [show w.heap.size + (i + 1) = w.heap.size + 1 + i by omega]
  exact this
end Go.Proofs.YtjlliohjeiclaaaDoor
namespace Go.Proofs.YtjlliohjeiclaaaDoor
open Go.RowKit Ku St
structure Plc where
 l : List ByteArray
 k : Int
 x : ByteArray
 a : Option Addr
 n : Nat
 c : Nat
def Plc.v (p : Plc) : Value := .agg #[.slice p.a p.n p.c, .int .i64 p.k, .string p.x]
structure PlcAt (w : World) (p : Plc) : Prop where
 at_ : CellsAt w p.a (txV p.l)
 len : p.n = p.l.length
 le : p.n ≤ 9223372036854775807
 sz : ∀ x ∈ p.l, x.size ≤ 9223372036854775807
 sx : p.x.size ≤ 9223372036854775807
theorem PlcAt.below {w w' : World} {p : Plc} (h : PlcAt w p) (hb : Below w.heap.size w w') : PlcAt w' p := ⟨h.at_.below hb rfl, h.len, h.le, h.sz, h.sx⟩
end Go.Proofs.YtjlliohjeiclaaaDoor
namespace Go.Proofs.YtjlliohjeiclaaaDoor
open Go.RowKit St Pm Ku
namespace Kn
def okK (l : List ByteArray) (k : Int) (x : ByteArray) (d : Int) (t : ByteArray) : Bool := pathG l && (keyG x && (thingG k && (decide (kindK d ≠ 0) && decide (t.size ≤ 256))))
def bareK (d m : Int) (t : ByteArray) : Bool := decide ((if d = 1 then 0 else m) = 0) && decide ((if d = 1 ∨ d = 6 then t else ⟨#[]⟩) = ⟨#[]⟩)
def checkK (l : List ByteArray) (k : Int) (x : ByteArray) (d m : Int) (t : ByteArray) : Int := if okK l k x d t = true then (if bareK d m t = true then (if kindK d = k then 0 else 7) else 2) else 2
theorem check_bad {l : List ByteArray} {k : Int} {x : ByteArray} {d m : Int} {t : ByteArray} (h : okK l k x d t = false) : checkK l k x d m t = 2 := by unfold checkK; rw [h]; rfl
theorem check_bare {l : List ByteArray} {k : Int} {x : ByteArray} {d m : Int} {t : ByteArray} (h : bareK d m t = false) : checkK l k x d m t = 2 := by unfold checkK; rw [h]; split <;> rfl
end Kn
open Kn
theorem key_Text (s : ByteArray) (w : World) : Calls Tryd.prog 61 #[.string s] w fun e w' => e = .returned (.bool (decide (s.size ≤ 256))) ∧ Below w.heap.size w w' := by
 go_enter Tryd.func61, Tryd.ntmps61
 go_wp2
 go_ret
 refine ⟨?_, Below.refl _ _⟩
 by_cases h : s.size ≤ 256 <;> simp [h] <;> omega
theorem fields_neq (m : Int) (t : ByteArray) (w : World) : (binOp .neq 114 (.agg #[.int .i64 m, .string t]) (.agg #[.int .i64 0, .string ⟨#[]⟩])).run Tryd.prog w = .ok (.bool (!(decide (m = 0) && decide (t = ⟨#[]⟩)))) w := by
 rw [run_neq_struct]
 simp [go_sem, Tryd.underlying114]
 have e : (⟨#[]⟩ : ByteArray).toList = [] := by rw [ByteArray.toList_eq]
 have ht : t.toList = [] ↔ t = ⟨#[]⟩ := by
  constructor
  · intro h
    apply ByteArray.ext
    apply Array.toList_inj.1
    rw [ByteArray.toList_eq] at h
    simpa using h
  · intro h; rw [h]; exact e
 by_cases h1 : m = 0 <;> by_cases h2 : t = ⟨#[]⟩ <;> simp [h1, h2, ht]
theorem kn_OfB (d : Int) (w : World) : Calls Tryd.prog 29 #[.int .i64 d] w fun e w' => e = .returned (.int .i64 (kindK d)) ∧ Below w.heap.size w w' := (kn_Of d w).mono fun _ _ ⟨h1, h2⟩ => ⟨h1, by rw [← h2]; exact Below.refl _ _⟩
theorem kn_thingB (k : Int) (w : World) : Calls Tryd.prog 53 #[.int .i64 k] w fun e w' => e = .returned (.bool (thingG k)) ∧ Below w.heap.size w w' := (kn_thing k w).mono fun _ _ ⟨h1, h2⟩ => ⟨h1, by rw [← h2]; exact Below.refl _ _⟩
set_option maxRecDepth 100000 in
set_option maxHeartbeats 4000000 in
theorem kn_Check (l : List ByteArray) (k : Int) (x : ByteArray) (d m : Int) (t : ByteArray) (a : Option Addr) (n c : Nat) (w : World) (hl : CellsAt w a (txV l)) (hn : n = l.length) (hs : ∀ x ∈ l, x.size ≤ 9223372036854775807) (hx : x.size ≤ 9223372036854775807) (hG : Glob w) :
 Calls Tryd.prog 23 #[.agg #[.slice a n c, .int .i64 k, .string x, .int .i64 d, .int .i64 m, .string t]] w fun e w' => e = .returned (.int .i64 (checkK l k x d m t)) ∧ Below w.heap.size w w' := by
 have HL := Lib.hid hl
 have HN := Lib.hid hn
 have HSZ := Lib.hid hs
 have HX := Lib.hid hx
 have G := Lib.hid hG
 obtain ⟨re, hre⟩ : ∃ r, checkK l k x d m t = r := ⟨_, rfl⟩
 have RE := Lib.hid hre
 rw [hre]
 clear hl hn hs hx hG hre
 have HC : Hid (Chain [w] w) := Lib.hid (Chain.one w)
 go_enter Tryd.func23, Tryd.ntmps23
 go_upto_region 1 with (fail)
 obtain ⟨z, hz⟩ : ∃ c, w.heap.size = c := ⟨_, rfl⟩
 try rw [hz]
 obtain ⟨w1, hw1⟩ : ∃ X, allocs w [.cells #[.slice a n c, .int .i64 k, .string x, .int .i64 d, .int .i64 m, .string t] 54] = X := ⟨_, rfl⟩
 rw [show w.alloc (.cells #[.slice a n c, .int .i64 k, .string x, .int .i64 d, .int .i64 m, .string t] 54) = w1 from hw1]
 have hb : Below w.heap.size w w1 := by rw [← hw1]; exact allocs_below _ _
 have HO : Hid (w1.heap[z]? = some (.cells #[.slice a n c, .int .i64 k, .string x, .int .i64 d, .int .i64 m, .string t] 54 (0, 0))) := Lib.hid (by have := allocs_get [.cells #[.slice a n c, .int .i64 k, .string x, .int .i64 d, .int .i64 m, .string t] 54] w 0 _ rfl; rw [hw1, hz] at this; exact this)
 have Sz : Hid (w.heap.size = z) := Lib.hid hz
 replace HC := Lib.hid (HC.out.push hb)
 clear hb hw1 hz
 have kO0 := cell_of_row _ _ 0 _ _ _ HO.out
 have kO1 := cell_of_row _ _ 1 _ _ _ HO.out
 have kO2 := cell_of_row _ _ 2 _ _ _ HO.out
 have kO3 := cell_of_row _ _ 3 _ _ _ HO.out
 have kO4 := cell_of_row _ _ 4 _ _ _ HO.out
 have kO5 := cell_of_row _ _ 5 _ _ _ HO.out
 go_wp2_with fail
 refine (key_Path l a n c _ (HL.out.below (HC.out.to w (by simp)) rfl) HN.out HSZ.out (G.out.below (HC.out.to w (by simp)))).mono ?_
 rintro e w2 ⟨rfl, hb⟩
 clear kO0 kO1 kO2 kO3 kO4 kO5
 replace HC := Lib.hid (HC.out.push hb)
 clear hb
 obtain ⟨b1, h1⟩ : ∃ b, pathG l = b := ⟨_, rfl⟩
 rw [h1]
 have H1 := Lib.hid h1
 clear h1
 cases b1
 case false =>
  obtain rfl : (2 : Int) = re := by rw [← RE.out]; exact (check_bad (by unfold okK; simp [H1.out])).symm
  have kO0 := cell_of_row _ _ 0 _ _ _ (boxStays HO.out (HC.out.to w1 (by simp)))
  have kO1 := cell_of_row _ _ 1 _ _ _ (boxStays HO.out (HC.out.to w1 (by simp)))
  have kO2 := cell_of_row _ _ 2 _ _ _ (boxStays HO.out (HC.out.to w1 (by simp)))
  have kO3 := cell_of_row _ _ 3 _ _ _ (boxStays HO.out (HC.out.to w1 (by simp)))
  have kO4 := cell_of_row _ _ 4 _ _ _ (boxStays HO.out (HC.out.to w1 (by simp)))
  have kO5 := cell_of_row _ _ 5 _ _ _ (boxStays HO.out (HC.out.to w1 (by simp)))
  go_wp2_with fail
  go_ret
  exact ⟨rfl, (HC.out.to w (by simp))⟩
 have kO0 := cell_of_row _ _ 0 _ _ _ (boxStays HO.out (HC.out.to w1 (by simp)))
 have kO1 := cell_of_row _ _ 1 _ _ _ (boxStays HO.out (HC.out.to w1 (by simp)))
 have kO2 := cell_of_row _ _ 2 _ _ _ (boxStays HO.out (HC.out.to w1 (by simp)))
 have kO3 := cell_of_row _ _ 3 _ _ _ (boxStays HO.out (HC.out.to w1 (by simp)))
 have kO4 := cell_of_row _ _ 4 _ _ _ (boxStays HO.out (HC.out.to w1 (by simp)))
 have kO5 := cell_of_row _ _ 5 _ _ _ (boxStays HO.out (HC.out.to w1 (by simp)))
 go_wp2_with fail
 refine (key_Key x _ HX.out (G.out.below (HC.out.to w (by simp)))).mono ?_
 rintro e w3 ⟨rfl, hb⟩
 clear kO0 kO1 kO2 kO3 kO4 kO5
 replace HC := Lib.hid (HC.out.push hb)
 clear hb
 obtain ⟨b2, h2⟩ : ∃ b, keyG x = b := ⟨_, rfl⟩
 rw [h2]
 have H2 := Lib.hid h2
 clear h2
 cases b2
 case false =>
  obtain rfl : (2 : Int) = re := by rw [← RE.out]; exact (check_bad (by unfold okK; simp [H2.out])).symm
  have kO0 := cell_of_row _ _ 0 _ _ _ (boxStays HO.out (HC.out.to w1 (by simp)))
  have kO1 := cell_of_row _ _ 1 _ _ _ (boxStays HO.out (HC.out.to w1 (by simp)))
  have kO2 := cell_of_row _ _ 2 _ _ _ (boxStays HO.out (HC.out.to w1 (by simp)))
  have kO3 := cell_of_row _ _ 3 _ _ _ (boxStays HO.out (HC.out.to w1 (by simp)))
  have kO4 := cell_of_row _ _ 4 _ _ _ (boxStays HO.out (HC.out.to w1 (by simp)))
  have kO5 := cell_of_row _ _ 5 _ _ _ (boxStays HO.out (HC.out.to w1 (by simp)))
  go_wp2_with fail
  go_ret
  exact ⟨rfl, (HC.out.to w (by simp))⟩
 have kO0 := cell_of_row _ _ 0 _ _ _ (boxStays HO.out (HC.out.to w1 (by simp)))
 have kO1 := cell_of_row _ _ 1 _ _ _ (boxStays HO.out (HC.out.to w1 (by simp)))
 have kO2 := cell_of_row _ _ 2 _ _ _ (boxStays HO.out (HC.out.to w1 (by simp)))
 have kO3 := cell_of_row _ _ 3 _ _ _ (boxStays HO.out (HC.out.to w1 (by simp)))
 have kO4 := cell_of_row _ _ 4 _ _ _ (boxStays HO.out (HC.out.to w1 (by simp)))
 have kO5 := cell_of_row _ _ 5 _ _ _ (boxStays HO.out (HC.out.to w1 (by simp)))
 go_wp2_with fail
 refine (kn_thingB k _).mono ?_
 rintro e w4 ⟨rfl, hb⟩
 clear kO0 kO1 kO2 kO3 kO4 kO5
 replace HC := Lib.hid (HC.out.push hb)
 clear hb
 obtain ⟨b3, h3⟩ : ∃ b, thingG k = b := ⟨_, rfl⟩
 rw [h3]
 have H3 := Lib.hid h3
 clear h3
 cases b3
 case false =>
  obtain rfl : (2 : Int) = re := by rw [← RE.out]; exact (check_bad (by unfold okK; simp [H3.out])).symm
  have kO0 := cell_of_row _ _ 0 _ _ _ (boxStays HO.out (HC.out.to w1 (by simp)))
  have kO1 := cell_of_row _ _ 1 _ _ _ (boxStays HO.out (HC.out.to w1 (by simp)))
  have kO2 := cell_of_row _ _ 2 _ _ _ (boxStays HO.out (HC.out.to w1 (by simp)))
  have kO3 := cell_of_row _ _ 3 _ _ _ (boxStays HO.out (HC.out.to w1 (by simp)))
  have kO4 := cell_of_row _ _ 4 _ _ _ (boxStays HO.out (HC.out.to w1 (by simp)))
  have kO5 := cell_of_row _ _ 5 _ _ _ (boxStays HO.out (HC.out.to w1 (by simp)))
  go_wp2_with fail
  go_ret
  exact ⟨rfl, (HC.out.to w (by simp))⟩
 have kO0 := cell_of_row _ _ 0 _ _ _ (boxStays HO.out (HC.out.to w1 (by simp)))
 have kO1 := cell_of_row _ _ 1 _ _ _ (boxStays HO.out (HC.out.to w1 (by simp)))
 have kO2 := cell_of_row _ _ 2 _ _ _ (boxStays HO.out (HC.out.to w1 (by simp)))
 have kO3 := cell_of_row _ _ 3 _ _ _ (boxStays HO.out (HC.out.to w1 (by simp)))
 have kO4 := cell_of_row _ _ 4 _ _ _ (boxStays HO.out (HC.out.to w1 (by simp)))
 have kO5 := cell_of_row _ _ 5 _ _ _ (boxStays HO.out (HC.out.to w1 (by simp)))
 go_wp2_with fail
 refine (kn_OfB d _).mono ?_
 rintro e w5 ⟨rfl, hb⟩
 clear kO0 kO1 kO2 kO3 kO4 kO5
 replace HC := Lib.hid (HC.out.push hb)
 clear hb
 obtain ⟨kd, h4⟩ : ∃ q, kindK d = q := ⟨_, rfl⟩
 rw [h4]
 have H4 := Lib.hid h4
 clear h4
 by_cases h40 : kd = 0
 · subst h40
   obtain rfl : (2 : Int) = re := by rw [← RE.out]; exact (check_bad (by unfold okK; simp [H4.out])).symm
   have kO0 := cell_of_row _ _ 0 _ _ _ (boxStays HO.out (HC.out.to w1 (by simp)))
   have kO1 := cell_of_row _ _ 1 _ _ _ (boxStays HO.out (HC.out.to w1 (by simp)))
   have kO2 := cell_of_row _ _ 2 _ _ _ (boxStays HO.out (HC.out.to w1 (by simp)))
   have kO3 := cell_of_row _ _ 3 _ _ _ (boxStays HO.out (HC.out.to w1 (by simp)))
   have kO4 := cell_of_row _ _ 4 _ _ _ (boxStays HO.out (HC.out.to w1 (by simp)))
   have kO5 := cell_of_row _ _ 5 _ _ _ (boxStays HO.out (HC.out.to w1 (by simp)))
   go_wp2_with fail
   go_ret
   exact ⟨rfl, (HC.out.to w (by simp))⟩
 have h40b : (kd == 0) = false := by simp [h40]
 have kO0 := cell_of_row _ _ 0 _ _ _ (boxStays HO.out (HC.out.to w1 (by simp)))
 have kO1 := cell_of_row _ _ 1 _ _ _ (boxStays HO.out (HC.out.to w1 (by simp)))
 have kO2 := cell_of_row _ _ 2 _ _ _ (boxStays HO.out (HC.out.to w1 (by simp)))
 have kO3 := cell_of_row _ _ 3 _ _ _ (boxStays HO.out (HC.out.to w1 (by simp)))
 have kO4 := cell_of_row _ _ 4 _ _ _ (boxStays HO.out (HC.out.to w1 (by simp)))
 have kO5 := cell_of_row _ _ 5 _ _ _ (boxStays HO.out (HC.out.to w1 (by simp)))
 go_wp2_with fail
 refine (key_Text t _).mono ?_
 rintro e w6 ⟨rfl, hb⟩
 clear kO0 kO1 kO2 kO3 kO4 kO5
 replace HC := Lib.hid (HC.out.push hb)
 clear hb
 obtain ⟨b5, h5⟩ : ∃ b, decide (t.size ≤ 256) = b := ⟨_, rfl⟩
 rw [h5]
 have H5 := Lib.hid h5
 clear h5
 cases b5
 case false =>
  obtain rfl : (2 : Int) = re := by rw [← RE.out]; exact (check_bad (by unfold okK; simp [H5.out])).symm
  have kO0 := cell_of_row _ _ 0 _ _ _ (boxStays HO.out (HC.out.to w1 (by simp)))
  have kO1 := cell_of_row _ _ 1 _ _ _ (boxStays HO.out (HC.out.to w1 (by simp)))
  have kO2 := cell_of_row _ _ 2 _ _ _ (boxStays HO.out (HC.out.to w1 (by simp)))
  have kO3 := cell_of_row _ _ 3 _ _ _ (boxStays HO.out (HC.out.to w1 (by simp)))
  have kO4 := cell_of_row _ _ 4 _ _ _ (boxStays HO.out (HC.out.to w1 (by simp)))
  have kO5 := cell_of_row _ _ 5 _ _ _ (boxStays HO.out (HC.out.to w1 (by simp)))
  go_wp2_with fail
  go_ret
  exact ⟨rfl, (HC.out.to w (by simp))⟩
 have HOK : Hid (okK l k x d t = true) := Lib.hid (by unfold okK; simp [H1.out, H2.out, H3.out, H4.out, h40]; simpa using H5.out)
 clear h40b
 have kO0 := cell_of_row _ _ 0 _ _ _ (boxStays HO.out (HC.out.to w1 (by simp)))
 have kO1 := cell_of_row _ _ 1 _ _ _ (boxStays HO.out (HC.out.to w1 (by simp)))
 have kO2 := cell_of_row _ _ 2 _ _ _ (boxStays HO.out (HC.out.to w1 (by simp)))
 have kO3 := cell_of_row _ _ 3 _ _ _ (boxStays HO.out (HC.out.to w1 (by simp)))
 have kO4 := cell_of_row _ _ 4 _ _ _ (boxStays HO.out (HC.out.to w1 (by simp)))
 have kO5 := cell_of_row _ _ 5 _ _ _ (boxStays HO.out (HC.out.to w1 (by simp)))
 go_upto_region 4 with (fail)
 have LZ : Hid (z < w6.heap.size ∧ w.heap.size ≤ w6.heap.size) := Lib.hid ⟨Nat.lt_of_lt_of_le (Array.getElem?_eq_some_iff.1 HO.out).1 (HC.out.to w1 (by simp)).size, (HC.out.to w (by simp)).size⟩
 clear kO0 kO1 kO2 kO3 kO4 kO5
 obtain ⟨y, hy⟩ : ∃ c, w6.heap.size = c := ⟨_, rfl⟩
 try rw [hy]
 obtain ⟨w7, hw7⟩ : ∃ X, allocs w6 [.cells #[.int .i64 m, .string t] 114] = X := ⟨_, rfl⟩
 rw [show w6.alloc (.cells #[.int .i64 m, .string t] 114) = w7 from hw7]
 have hb : Below w6.heap.size w6 w7 := by rw [← hw7]; exact allocs_below _ _
 have HB : Hid (w7.heap[y]? = some (.cells #[.int .i64 m, .string t] 114 (0, 0))) := Lib.hid (by have := allocs_get [.cells #[.int .i64 m, .string t] 114] w6 0 _ rfl; rw [hw7, hy] at this; exact this)
 have Sy : Hid (w6.heap.size = y) := Lib.hid hy
 replace HC := Lib.hid (HC.out.push hb)
 clear hb hw7 hy
 have ZY : Hid (w.heap.size ≤ y ∧ z ≠ y) := Lib.hid (by have h1 := LZ.out; have h2 := Sy.out; omega)
 have kO0 := cell_of_row _ _ 0 _ _ _ (boxStays HO.out (HC.out.to w1 (by simp)))
 have kO1 := cell_of_row _ _ 1 _ _ _ (boxStays HO.out (HC.out.to w1 (by simp)))
 have kO2 := cell_of_row _ _ 2 _ _ _ (boxStays HO.out (HC.out.to w1 (by simp)))
 have kO3 := cell_of_row _ _ 3 _ _ _ (boxStays HO.out (HC.out.to w1 (by simp)))
 have kO4 := cell_of_row _ _ 4 _ _ _ (boxStays HO.out (HC.out.to w1 (by simp)))
 have kO5 := cell_of_row _ _ 5 _ _ _ (boxStays HO.out (HC.out.to w1 (by simp)))
 have kB0 := cell_of_row _ _ 0 _ _ _ HB.out
 have kB1 := cell_of_row _ _ 1 _ _ _ HB.out
 have fB0 := frozen_of_row _ (y) 0 _ _ HB.out
 have fB1 := frozen_of_row _ (y) 1 _ _ HB.out
 rcases (by omega : d = 1 ∨ d = 6 ∨ (d ≠ 1 ∧ d ≠ 6)) with rfl | rfl | ⟨hd1, hd6⟩
 · go_upto_region 9 with (fail)
   have BB : Hid ((w7.setCell ⟨y, 0, none⟩ (.int .i64 0)).heap[y]? = some (.cells #[.int .i64 0, .string t] 114 (0, 0))) := Lib.hid (by have := heap_setCell_same w7 y 0 _ _ (.int .i64 0) HB.out; simpa using this)
   have BO : Hid ((w7.setCell ⟨y, 0, none⟩ (.int .i64 0)).heap[z]? = some (.cells #[.slice a n c, .int .i64 k, .string x, .int .i64 1, .int .i64 m, .string t] 54 (0, 0))) := Lib.hid ((Below.heap_setCell _ _ _ _ (by simpa using ZY.out.2)).trans (boxStays HO.out (HC.out.to w1 (by simp))))
   have BW : Hid (Below w.heap.size w (w7.setCell ⟨y, 0, none⟩ (.int .i64 0))) := Lib.hid ((HC.out.to w (by simp)).setCell (p := ⟨y, 0, none⟩) ZY.out.1 _)
   have BAR : Hid (∀ b, (!(decide ((0 : Int) = 0) && decide (t = ⟨#[]⟩))) = b → bareK 1 m t = !b) := Lib.hid (fun b hb => by subst hb; unfold bareK; simp)
   clear kO0 kO1 kO2 kO3 kO4 kO5 kB0 kB1 fB0 fB1
   clear HC HB HO
   generalize w7.setCell ⟨y, 0, none⟩ (.int .i64 0) = wS at *
   have EN := fields_neq (0:Int) t
   obtain ⟨bb, hbb⟩ : ∃ b, (!(decide ((0:Int) = 0) && decide (t = ⟨#[]⟩))) = b := ⟨_, rfl⟩
   rw [hbb] at EN
   have HBB := Lib.hid hbb
   have y0 := cell_of_row _ y 0 _ _ _ BB.out
   have y1 := cell_of_row _ y 1 _ _ _ BB.out
   clear hbb
   cases bb
   case true =>
    obtain rfl : (2 : Int) = re := by rw [← RE.out]; exact (check_bare (BAR.out _ HBB.out)).symm
    go_wp2_with fail
    go_ret
    exact ⟨rfl, BW.out⟩
   have HRE : Hid (re = if kd = k then 0 else 7) := Lib.hid (by
    rw [← RE.out]
    unfold checkK
    rw [HOK.out, BAR.out _ HBB.out, H4.out]
    rfl)
   go_upto_region 11 with (fail)
   clear EN y0 y1
   refine relG_start (slots := [48, 49, 50, 51, 52, 53]) (so := []) (by kernel_rfl) (by kernel_rfl) (by rfl) ?_
   refine relG_pure (i := 0) (o := ⟨some 48, _, _, _, _, _⟩) (v := ?v1) [] [1] rfl rfl (by kernel_rfl) (by kernel_rfl) (fun t w1 hB hf hbf => ?y1) ?n1
   case y1 =>
    simp only [BasF] at hbf
    clear hf
    obtain ⟨⟨b1, k1⟩, _⟩ := hbf
    have yo := boxStays BO.out hB
    have o1 := cell_of_row _ z 1 _ _ _ yo
    have o3 := cell_of_row _ z 3 _ _ _ yo
    clear yo
    refine Or.inl ⟨wanted_none rfl, ?_⟩
    rintro _ rfl
    go_simp <;> with_reducible rfl
   refine relG_pure (i := 1) (o := ⟨some 49, _, _, _, _, _⟩) (v := ?v2) [(0, 48, 0)] [] rfl rfl (by kernel_rfl) (by kernel_rfl) (fun t w1 hB hf hbf => ?y2) ?n2
   case y2 =>
    simp only [DepF, List.getD_cons_zero] at hf
    obtain ⟨⟨_, ⟨e48, i48⟩, rfl⟩, _⟩ := hf
    clear hbf
    have yo := boxStays BO.out hB
    have o1 := cell_of_row _ z 1 _ _ _ yo
    have o3 := cell_of_row _ z 3 _ _ _ yo
    clear yo
    refine Or.inl ⟨wanted_none rfl, ?_⟩
    rintro _ rfl
    go_simp <;> with_reducible rfl
   refine relG_call (i := 2) (o := ⟨some 50, _, _, _, _, _⟩) ((fun v _ => v = .int .i64 kd)) [(1, 49, 0)] [] rfl rfl (by kernel_rfl) (by kernel_rfl) ((fun _ _ _ h _ => h)) ?_ ?_
   · intro t w1 hB hf hbf K hK
     simp only [DepF, List.getD_cons_zero] at hf
     obtain ⟨⟨_, ⟨e49, i49⟩, rfl⟩, _⟩ := hf
     clear hbf
     have yo := boxStays BO.out hB
     have o1 := cell_of_row _ z 1 _ _ _ yo
     have o3 := cell_of_row _ z 3 _ _ _ yo
     clear yo
     refine ⟨wanted_none rfl, ?_⟩
     go_simp
     refine (kn_OfB _ w1).mono ?_
     rintro e w2 ⟨rfl, hb⟩
     exact hK.out _ w2 (by rw [H4.out]) hb
   refine relG_pure (i := 3) (o := ⟨some 51, _, _, _, _, _⟩) (v := ?v3) [] [1] rfl rfl (by kernel_rfl) (by kernel_rfl) (fun t w1 hB hf hbf => ?y3) ?n3
   case y3 =>
    simp only [BasF] at hbf
    clear hf
    obtain ⟨⟨b1, k1⟩, _⟩ := hbf
    have yo := boxStays BO.out hB
    have o1 := cell_of_row _ z 1 _ _ _ yo
    have o3 := cell_of_row _ z 3 _ _ _ yo
    clear yo
    refine Or.inl ⟨wanted_none rfl, ?_⟩
    rintro _ rfl
    go_simp <;> with_reducible rfl
   refine relG_pure (i := 4) (o := ⟨some 52, _, _, _, _, _⟩) (v := ?v4) [(3, 51, 0)] [] rfl rfl (by kernel_rfl) (by kernel_rfl) (fun t w1 hB hf hbf => ?y4) ?n4
   case y4 =>
    simp only [DepF, List.getD_cons_zero] at hf
    obtain ⟨⟨_, ⟨e51, i51⟩, rfl⟩, _⟩ := hf
    clear hbf
    have yo := boxStays BO.out hB
    have o1 := cell_of_row _ z 1 _ _ _ yo
    have o3 := cell_of_row _ z 3 _ _ _ yo
    clear yo
    refine Or.inl ⟨wanted_none rfl, ?_⟩
    rintro _ rfl
    go_simp <;> with_reducible rfl
   refine relG_pure (i := 5) (o := ⟨some 53, _, _, _, _, _⟩) (v := ?v5) [(2, 50, 2), (4, 52, 0)] [] rfl rfl (by kernel_rfl) (by kernel_rfl) (fun t w1 hB hf hbf => ?y5) ?n5
   case y5 =>
    simp only [DepF, List.getD_cons_zero, List.getD_cons_succ] at hf
    obtain ⟨⟨_, ⟨e50, i50⟩, rfl⟩, ⟨_, ⟨e52, i52⟩, rfl⟩, _⟩ := hf
    clear hbf
    have yo := boxStays BO.out hB
    have o1 := cell_of_row _ z 1 _ _ _ yo
    have o3 := cell_of_row _ z 3 _ _ _ yo
    clear yo
    refine Or.inl ⟨wanted_none rfl, ?_⟩
    rintro _ rfl
    go_simp <;> with_reducible rfl
   refine relG_done [(0, 48, 5), (1, 49, 4), (2, 50, 3), (3, 51, 2), (4, 52, 1), (5, 53, 0)] (by kernel_rfl) rfl (by kernel_rfl) (fun f wE hB hf => ?_)
   simp only [FinF, List.getD_cons_zero, List.getD_cons_succ] at hf
   obtain ⟨⟨_, e48, rfl⟩, ⟨_, e49, rfl⟩, ⟨_, e50, rfl⟩, ⟨_, e51, rfl⟩, ⟨_, e52, rfl⟩, ⟨_, e53, rfl⟩, _⟩ := hf
   simp only [regT, List.foldl_cons, List.foldl_nil, List.setIfInBounds_toArray, List.set_cons_zero, List.set_cons_succ, e48, e49, e50, e51, e52, e53]
   clear e48 e49 e50 e51 e52 e53
   have BW2 := Lib.hid (BW.out.trans (hB.mono BW.out.size))
   clear hB
   by_cases hkk : kd = k
   · have hkb : (kd != k) = false := by simp [hkk]
     obtain rfl : re = 0 := by rw [HRE.out, if_pos hkk]
     go_wp2_with fail
     go_ret
     exact ⟨rfl, BW2.out⟩
   · have hkb : (kd != k) = true := by simp [hkk]
     obtain rfl : re = 7 := by rw [HRE.out, if_neg hkk]
     go_wp2_with fail
     go_ret
     exact ⟨rfl, BW2.out⟩
 · go_upto_region 9 with (fail)
   have BB := HB
   have BO : Hid (w7.heap[z]? = some (.cells #[.slice a n c, .int .i64 k, .string x, .int .i64 6, .int .i64 m, .string t] 54 (0, 0))) := Lib.hid (boxStays HO.out (HC.out.to w1 (by simp)))
   have BW : Hid (Below w.heap.size w w7) := Lib.hid (HC.out.to w (by simp))
   have BAR : Hid (∀ b, (!(decide (m = 0) && decide (t = ⟨#[]⟩))) = b → bareK 6 m t = !b) := Lib.hid (fun b hb => by subst hb; unfold bareK; simp)
   clear HC HB HO kO0 kO1 kO2 kO3 kO4 kO5 kB0 kB1 fB0 fB1
   generalize w7 = wS at *
   have EN := fields_neq m t
   obtain ⟨bb, hbb⟩ : ∃ b, (!(decide (m = 0) && decide (t = ⟨#[]⟩))) = b := ⟨_, rfl⟩
   rw [hbb] at EN
   have HBB := Lib.hid hbb
   have y0 := cell_of_row _ y 0 _ _ _ BB.out
   have y1 := cell_of_row _ y 1 _ _ _ BB.out
   clear hbb
   cases bb
   case true =>
    obtain rfl : (2 : Int) = re := by rw [← RE.out]; exact (check_bare (BAR.out _ HBB.out)).symm
    go_wp2_with fail
    go_ret
    exact ⟨rfl, BW.out⟩
   have HRE : Hid (re = if kd = k then 0 else 7) := Lib.hid (by
    rw [← RE.out]
    unfold checkK
    rw [HOK.out, BAR.out _ HBB.out, H4.out]
    rfl)
   go_upto_region 11 with (fail)
   clear EN y0 y1
   refine relG_start (slots := [48, 49, 50, 51, 52, 53]) (so := []) (by kernel_rfl) (by kernel_rfl) (by rfl) ?_
   refine relG_pure (i := 0) (o := ⟨some 48, _, _, _, _, _⟩) (v := ?v6) [] [1] rfl rfl (by kernel_rfl) (by kernel_rfl) (fun t w1 hB hf hbf => ?y6) ?n6
   case y6 =>
    simp only [BasF] at hbf
    clear hf
    obtain ⟨⟨b1, k1⟩, _⟩ := hbf
    have yo := boxStays BO.out hB
    have o1 := cell_of_row _ z 1 _ _ _ yo
    have o3 := cell_of_row _ z 3 _ _ _ yo
    clear yo
    refine Or.inl ⟨wanted_none rfl, ?_⟩
    rintro _ rfl
    go_simp <;> with_reducible rfl
   refine relG_pure (i := 1) (o := ⟨some 49, _, _, _, _, _⟩) (v := ?v7) [(0, 48, 0)] [] rfl rfl (by kernel_rfl) (by kernel_rfl) (fun t w1 hB hf hbf => ?y7) ?n7
   case y7 =>
    simp only [DepF, List.getD_cons_zero] at hf
    obtain ⟨⟨_, ⟨e48, i48⟩, rfl⟩, _⟩ := hf
    clear hbf
    have yo := boxStays BO.out hB
    have o1 := cell_of_row _ z 1 _ _ _ yo
    have o3 := cell_of_row _ z 3 _ _ _ yo
    clear yo
    refine Or.inl ⟨wanted_none rfl, ?_⟩
    rintro _ rfl
    go_simp <;> with_reducible rfl
   refine relG_call (i := 2) (o := ⟨some 50, _, _, _, _, _⟩) ((fun v _ => v = .int .i64 kd)) [(1, 49, 0)] [] rfl rfl (by kernel_rfl) (by kernel_rfl) ((fun _ _ _ h _ => h)) ?_ ?_
   · intro t w1 hB hf hbf K hK
     simp only [DepF, List.getD_cons_zero] at hf
     obtain ⟨⟨_, ⟨e49, i49⟩, rfl⟩, _⟩ := hf
     clear hbf
     have yo := boxStays BO.out hB
     have o1 := cell_of_row _ z 1 _ _ _ yo
     have o3 := cell_of_row _ z 3 _ _ _ yo
     clear yo
     refine ⟨wanted_none rfl, ?_⟩
     go_simp
     refine (kn_OfB _ w1).mono ?_
     rintro e w2 ⟨rfl, hb⟩
     exact hK.out _ w2 (by rw [H4.out]) hb
   refine relG_pure (i := 3) (o := ⟨some 51, _, _, _, _, _⟩) (v := ?v8) [] [1] rfl rfl (by kernel_rfl) (by kernel_rfl) (fun t w1 hB hf hbf => ?y8) ?n8
   case y8 =>
    simp only [BasF] at hbf
    clear hf
    obtain ⟨⟨b1, k1⟩, _⟩ := hbf
    have yo := boxStays BO.out hB
    have o1 := cell_of_row _ z 1 _ _ _ yo
    have o3 := cell_of_row _ z 3 _ _ _ yo
    clear yo
    refine Or.inl ⟨wanted_none rfl, ?_⟩
    rintro _ rfl
    go_simp <;> with_reducible rfl
   refine relG_pure (i := 4) (o := ⟨some 52, _, _, _, _, _⟩) (v := ?v9) [(3, 51, 0)] [] rfl rfl (by kernel_rfl) (by kernel_rfl) (fun t w1 hB hf hbf => ?y9) ?n9
   case y9 =>
    simp only [DepF, List.getD_cons_zero] at hf
    obtain ⟨⟨_, ⟨e51, i51⟩, rfl⟩, _⟩ := hf
    clear hbf
    have yo := boxStays BO.out hB
    have o1 := cell_of_row _ z 1 _ _ _ yo
    have o3 := cell_of_row _ z 3 _ _ _ yo
    clear yo
    refine Or.inl ⟨wanted_none rfl, ?_⟩
    rintro _ rfl
    go_simp <;> with_reducible rfl
   refine relG_pure (i := 5) (o := ⟨some 53, _, _, _, _, _⟩) (v := ?v10) [(2, 50, 2), (4, 52, 0)] [] rfl rfl (by kernel_rfl) (by kernel_rfl) (fun t w1 hB hf hbf => ?y10) ?n10
   case y10 =>
    simp only [DepF, List.getD_cons_zero, List.getD_cons_succ] at hf
    obtain ⟨⟨_, ⟨e50, i50⟩, rfl⟩, ⟨_, ⟨e52, i52⟩, rfl⟩, _⟩ := hf
    clear hbf
    have yo := boxStays BO.out hB
    have o1 := cell_of_row _ z 1 _ _ _ yo
    have o3 := cell_of_row _ z 3 _ _ _ yo
    clear yo
    refine Or.inl ⟨wanted_none rfl, ?_⟩
    rintro _ rfl
    go_simp <;> with_reducible rfl
   refine relG_done [(0, 48, 5), (1, 49, 4), (2, 50, 3), (3, 51, 2), (4, 52, 1), (5, 53, 0)] (by kernel_rfl) rfl (by kernel_rfl) (fun f wE hB hf => ?_)
   simp only [FinF, List.getD_cons_zero, List.getD_cons_succ] at hf
   obtain ⟨⟨_, e48, rfl⟩, ⟨_, e49, rfl⟩, ⟨_, e50, rfl⟩, ⟨_, e51, rfl⟩, ⟨_, e52, rfl⟩, ⟨_, e53, rfl⟩, _⟩ := hf
   simp only [regT, List.foldl_cons, List.foldl_nil, List.setIfInBounds_toArray, List.set_cons_zero, List.set_cons_succ, e48, e49, e50, e51, e52, e53]
   clear e48 e49 e50 e51 e52 e53
   have BW2 := Lib.hid (BW.out.trans (hB.mono BW.out.size))
   clear hB
   by_cases hkk : kd = k
   · have hkb : (kd != k) = false := by simp [hkk]
     obtain rfl : re = 0 := by rw [HRE.out, if_pos hkk]
     go_wp2_with fail
     go_ret
     exact ⟨rfl, BW2.out⟩
   · have hkb : (kd != k) = true := by simp [hkk]
     obtain rfl : re = 7 := by rw [HRE.out, if_neg hkk]
     go_wp2_with fail
     go_ret
     exact ⟨rfl, BW2.out⟩
 · go_upto_region 9 with (fail)
   have BB : Hid ((w7.setCell ⟨y, 1, none⟩ (.string ⟨#[]⟩)).heap[y]? = some (.cells #[.int .i64 m, .string ⟨#[]⟩] 114 (0, 0))) := Lib.hid (by have := heap_setCell_same w7 y 1 _ _ (.string ⟨#[]⟩) HB.out; simpa using this)
   have BO : Hid ((w7.setCell ⟨y, 1, none⟩ (.string ⟨#[]⟩)).heap[z]? = some (.cells #[.slice a n c, .int .i64 k, .string x, .int .i64 d, .int .i64 m, .string t] 54 (0, 0))) := Lib.hid ((Below.heap_setCell _ _ _ _ (by simpa using ZY.out.2)).trans (boxStays HO.out (HC.out.to w1 (by simp))))
   have BW : Hid (Below w.heap.size w (w7.setCell ⟨y, 1, none⟩ (.string ⟨#[]⟩))) := Lib.hid ((HC.out.to w (by simp)).setCell (p := ⟨y, 1, none⟩) ZY.out.1 _)
   have BAR : Hid (∀ b, (!(decide (m = 0) && decide ((⟨#[]⟩ : ByteArray) = ⟨#[]⟩))) = b → bareK d m t = !b) := Lib.hid (fun b hb => by subst hb; unfold bareK; simp [hd1, hd6])
   clear HC HB HO kO0 kO1 kO2 kO3 kO4 kO5 kB0 kB1 fB0 fB1
   generalize w7.setCell ⟨y, 1, none⟩ (.string ⟨#[]⟩) = wS at *
   have EN := fields_neq m (⟨#[]⟩:ByteArray)
   obtain ⟨bb, hbb⟩ : ∃ b, (!(decide (m = 0) && decide ((⟨#[]⟩:ByteArray) = ⟨#[]⟩))) = b := ⟨_, rfl⟩
   rw [hbb] at EN
   have HBB := Lib.hid hbb
   have y0 := cell_of_row _ y 0 _ _ _ BB.out
   have y1 := cell_of_row _ y 1 _ _ _ BB.out
   clear hbb
   cases bb
   case true =>
    obtain rfl : (2 : Int) = re := by rw [← RE.out]; exact (check_bare (BAR.out _ HBB.out)).symm
    go_wp2_with fail
    go_ret
    exact ⟨rfl, BW.out⟩
   have HRE : Hid (re = if kd = k then 0 else 7) := Lib.hid (by
    rw [← RE.out]
    unfold checkK
    rw [HOK.out, BAR.out _ HBB.out, H4.out]
    rfl)
   go_upto_region 11 with (fail)
   clear EN y0 y1
   refine relG_start (slots := [48, 49, 50, 51, 52, 53]) (so := []) (by kernel_rfl) (by kernel_rfl) (by rfl) ?_
   refine relG_pure (i := 0) (o := ⟨some 48, _, _, _, _, _⟩) (v := ?v11) [] [1] rfl rfl (by kernel_rfl) (by kernel_rfl) (fun t w1 hB hf hbf => ?y11) ?n11
   case y11 =>
    simp only [BasF] at hbf
    clear hf
    obtain ⟨⟨b1, k1⟩, _⟩ := hbf
    have yo := boxStays BO.out hB
    have o1 := cell_of_row _ z 1 _ _ _ yo
    have o3 := cell_of_row _ z 3 _ _ _ yo
    clear yo
    refine Or.inl ⟨wanted_none rfl, ?_⟩
    rintro _ rfl
    go_simp <;> with_reducible rfl
   refine relG_pure (i := 1) (o := ⟨some 49, _, _, _, _, _⟩) (v := ?v12) [(0, 48, 0)] [] rfl rfl (by kernel_rfl) (by kernel_rfl) (fun t w1 hB hf hbf => ?y12) ?n12
   case y12 =>
    simp only [DepF, List.getD_cons_zero] at hf
    obtain ⟨⟨_, ⟨e48, i48⟩, rfl⟩, _⟩ := hf
    clear hbf
    have yo := boxStays BO.out hB
    have o1 := cell_of_row _ z 1 _ _ _ yo
    have o3 := cell_of_row _ z 3 _ _ _ yo
    clear yo
    refine Or.inl ⟨wanted_none rfl, ?_⟩
    rintro _ rfl
    go_simp <;> with_reducible rfl
   refine relG_call (i := 2) (o := ⟨some 50, _, _, _, _, _⟩) ((fun v _ => v = .int .i64 kd)) [(1, 49, 0)] [] rfl rfl (by kernel_rfl) (by kernel_rfl) ((fun _ _ _ h _ => h)) ?_ ?_
   · intro t w1 hB hf hbf K hK
     simp only [DepF, List.getD_cons_zero] at hf
     obtain ⟨⟨_, ⟨e49, i49⟩, rfl⟩, _⟩ := hf
     clear hbf
     have yo := boxStays BO.out hB
     have o1 := cell_of_row _ z 1 _ _ _ yo
     have o3 := cell_of_row _ z 3 _ _ _ yo
     clear yo
     refine ⟨wanted_none rfl, ?_⟩
     go_simp
     refine (kn_OfB _ w1).mono ?_
     rintro e w2 ⟨rfl, hb⟩
     exact hK.out _ w2 (by rw [H4.out]) hb
   refine relG_pure (i := 3) (o := ⟨some 51, _, _, _, _, _⟩) (v := ?v13) [] [1] rfl rfl (by kernel_rfl) (by kernel_rfl) (fun t w1 hB hf hbf => ?y13) ?n13
   case y13 =>
    simp only [BasF] at hbf
    clear hf
    obtain ⟨⟨b1, k1⟩, _⟩ := hbf
    have yo := boxStays BO.out hB
    have o1 := cell_of_row _ z 1 _ _ _ yo
    have o3 := cell_of_row _ z 3 _ _ _ yo
    clear yo
    refine Or.inl ⟨wanted_none rfl, ?_⟩
    rintro _ rfl
    go_simp <;> with_reducible rfl
   refine relG_pure (i := 4) (o := ⟨some 52, _, _, _, _, _⟩) (v := ?v14) [(3, 51, 0)] [] rfl rfl (by kernel_rfl) (by kernel_rfl) (fun t w1 hB hf hbf => ?y14) ?n14
   case y14 =>
    simp only [DepF, List.getD_cons_zero] at hf
    obtain ⟨⟨_, ⟨e51, i51⟩, rfl⟩, _⟩ := hf
    clear hbf
    have yo := boxStays BO.out hB
    have o1 := cell_of_row _ z 1 _ _ _ yo
    have o3 := cell_of_row _ z 3 _ _ _ yo
    clear yo
    refine Or.inl ⟨wanted_none rfl, ?_⟩
    rintro _ rfl
    go_simp <;> with_reducible rfl
   refine relG_pure (i := 5) (o := ⟨some 53, _, _, _, _, _⟩) (v := ?v15) [(2, 50, 2), (4, 52, 0)] [] rfl rfl (by kernel_rfl) (by kernel_rfl) (fun t w1 hB hf hbf => ?y15) ?n15
   case y15 =>
    simp only [DepF, List.getD_cons_zero, List.getD_cons_succ] at hf
    obtain ⟨⟨_, ⟨e50, i50⟩, rfl⟩, ⟨_, ⟨e52, i52⟩, rfl⟩, _⟩ := hf
    clear hbf
    have yo := boxStays BO.out hB
    have o1 := cell_of_row _ z 1 _ _ _ yo
    have o3 := cell_of_row _ z 3 _ _ _ yo
    clear yo
    refine Or.inl ⟨wanted_none rfl, ?_⟩
    rintro _ rfl
    go_simp <;> with_reducible rfl
   refine relG_done [(0, 48, 5), (1, 49, 4), (2, 50, 3), (3, 51, 2), (4, 52, 1), (5, 53, 0)] (by kernel_rfl) rfl (by kernel_rfl) (fun f wE hB hf => ?_)
   simp only [FinF, List.getD_cons_zero, List.getD_cons_succ] at hf
   obtain ⟨⟨_, e48, rfl⟩, ⟨_, e49, rfl⟩, ⟨_, e50, rfl⟩, ⟨_, e51, rfl⟩, ⟨_, e52, rfl⟩, ⟨_, e53, rfl⟩, _⟩ := hf
   simp only [regT, List.foldl_cons, List.foldl_nil, List.setIfInBounds_toArray, List.set_cons_zero, List.set_cons_succ, e48, e49, e50, e51, e52, e53]
   clear e48 e49 e50 e51 e52 e53
   have BW2 := Lib.hid (BW.out.trans (hB.mono BW.out.size))
   clear hB
   by_cases hkk : kd = k
   · have hkb : (kd != k) = false := by simp [hkk]
     obtain rfl : re = 0 := by rw [HRE.out, if_pos hkk]
     go_wp2_with fail
     go_ret
     exact ⟨rfl, BW2.out⟩
   · have hkb : (kd != k) = true := by simp [hkk]
     obtain rfl : re = 7 := by rw [HRE.out, if_neg hkk]
     go_wp2_with fail
     go_ret
     exact ⟨rfl, BW2.out⟩
end Go.Proofs.YtjlliohjeiclaaaDoor
namespace Go.Proofs.YtjlliohjeiclaaaDoor
open Go.RowKit
def Grw (w w' : World) : Prop := ∃ (q : Nat) (os : Array Obj), w' = Sort.grow (w.drewN q) os
theorem drewN_drewN (w : World) (a b : Nat) : (w.drewN a).drewN b = w.drewN (a + b) := by
 induction b with
 | zero => rfl
 | succ b ih => show ((w.drewN a).drewN b).drew = (w.drewN (a + b)).drew; rw [ih]
theorem grow_drewN (w : World) (os : Array Obj) (n : Nat) : (Sort.grow w os).drewN n = Sort.grow (w.drewN n) os := by
 induction n with
 | zero => rfl
 | succ n ih => show ((Sort.grow w os).drewN n).drew = _; rw [ih]; rfl
theorem Grw.refl (w : World) : Grw w w := ⟨0, #[], by simp [Sort.grow]; rfl⟩
theorem Grw.trans {a b c : World} (h : Grw a b) (k : Grw b c) : Grw a c := by
 obtain ⟨q, os, rfl⟩ := h
 obtain ⟨q', os', rfl⟩ := k
 exact ⟨q + q', os ++ os', by rw [grow_drewN, Sort.grow_grow, drewN_drewN]⟩
theorem Grw.drew {a b : World} (h : Grw a b) : Grw a b.drew := h.trans ⟨1, #[], by simp [Sort.grow]; rfl⟩
theorem Grw.alloc {a b : World} (h : Grw a b) (o : Obj) : Grw a (b.alloc o) := h.trans ⟨0, #[o], by rw [Sort.alloc_eq_grow]; rfl⟩
theorem Grw.below {a b : World} (h : Grw a b) : Below a.heap.size a b := by
 obtain ⟨q, os, rfl⟩ := h
 have hd : ∀ n, (a.drewN n).heap = a.heap ∧ (a.drewN n).os = a.os ∧ (a.drewN n).tape = a.tape ∧ (a.drewN n).output = a.output := fun n => by
  induction n with
  | zero => exact ⟨rfl, rfl, rfl, rfl⟩
  | succ n ih => exact ih
 obtain ⟨h1, h2, h3, h4⟩ := hd q
 refine ⟨h2, h3, h4, by simp [Sort.grow, h1], fun k hk => ?_⟩
 show ((a.drewN q).heap ++ os)[k]? = _
 rw [h1, Array.getElem?_append_left hk]
end Go.Proofs.YtjlliohjeiclaaaDoor
