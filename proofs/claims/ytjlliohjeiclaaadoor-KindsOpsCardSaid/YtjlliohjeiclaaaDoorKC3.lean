/- Words, contracts and walks that the proof stands on (KuA Tail KsB KuB KsC KuC KsD Range Range2 HeldW KeepE Marks KsE). -/
import Derived.BigQuiet
import Derived.Deep.DeepMust
import Derived.Deep.QuietTactic
import Derived.Deep.RegionHeld
import Derived.Deep.RegionHeld3
import Derived.Laws.RangeAny
import Derived.Lib.Bytealg
import Derived.Lib.TrimUEq
import Derived.Lib.ValidAsc
import Derived.Lib.ValidU
import Derived.LoopTactic
import Derived.OneCell
import Derived.RangeFuncBound
import Derived.RangeFuncBox
import Derived.RangeFuncCalls
import Derived.RangeFuncFrom
import Derived.RangeFuncKeeps
import Derived.RangeFuncLeaves
import Derived.RangeFuncNested
import Derived.RangeFuncWrites
import Derived.Shelf.RegionOpen
import Derived.Test.YtjlliohjeiclaaaDoorKC1
import Derived.Test.YtjlliohjeiclaaaDoorKC2
namespace Go.Proofs.YtjlliohjeiclaaaDoor
namespace Ku
open Go.Lib
def goodB (b : UInt8) : Bool := decide (32 ≤ b.toNat) && decide (b.toNat ≠ 47)
theorem dec_step (s : ByteArray) (pos : Nat) (h : pos < s.size) :
 ((s.get! pos).toNat < 128 ∧ Utf8.decode s pos = ((s.get! pos).toNat, 1)) ∨
 (128 ≤ (s.get! pos).toNat ∧ 128 ≤ (Utf8.decode s pos).1 ∧ 1 ≤ (Utf8.decode s pos).2 ∧ pos + (Utf8.decode s pos).2 ≤ s.size ∧ ∀ q, pos ≤ q → q < pos + (Utf8.decode s pos).2 → 128 ≤ (s.get! q).toNat) := by
 by_cases ha : (s.get! pos).toNat < 128
 · left
   refine ⟨ha, ?_⟩
   simp only [Utf8.decode, Nat.add_zero]
   rw [if_pos ha]
 · right
   have h0 : 128 ≤ (s.get! pos).toNat := by omega
   refine ⟨h0, ?_⟩
   have key : ∀ n, n ≤ 4 → pos + n ≤ s.size → (∀ k, 1 ≤ k → k < n → (s.get! (pos + k)).toNat / 64 = 2) → ∀ q, pos ≤ q → q < pos + n → 128 ≤ (s.get! q).toNat := by
    intro n _ _ hc q h1 h2
    by_cases hq : q = pos
    · rw [hq]; exact h0
    · have := hc (q - pos) (by omega) (by omega)
      rw [show pos + (q - pos) = q by omega] at this
      omega
   simp only [Utf8.decode, Nat.add_zero]
   rw [if_neg ha]
   have one : pos + 1 ≤ s.size ∧ ∀ q, pos ≤ q → q < pos + 1 → 128 ≤ (s.get! q).toNat := ⟨h, fun q h1 h2 => by rw [show q = pos by omega]; exact h0⟩
   split
   · rename_i hc
     simp only [Bool.and_eq_true, beq_iff_eq, decide_eq_true_eq] at hc
     split
     · rename_i h80
       exact ⟨h80, by omega, by omega, key 2 (by omega) (by omega) fun k k1 k2 => by rw [show k = 1 by omega]; exact hc.2.2⟩
     · exact ⟨by decide, by decide, one.1, one.2⟩
   · split
     · rename_i hc
       simp only [Bool.and_eq_true, beq_iff_eq, decide_eq_true_eq] at hc
       split
       · rename_i h80
         simp only [Bool.and_eq_true, decide_eq_true_eq] at h80
         refine ⟨by show 128 ≤ _; have := h80.1; simp only [] at *; omega, by simp, by show pos + 3 ≤ _; omega, key 3 (by omega) (by omega) fun k k1 k2 => ?_⟩
         rcases (by omega : k = 1 ∨ k = 2) with rfl | rfl
         · exact hc.1.2.2
         · exact hc.2.2
       · exact ⟨by decide, by decide, one.1, one.2⟩
     · split
       · rename_i hc
         simp only [Bool.and_eq_true, beq_iff_eq, decide_eq_true_eq] at hc
         split
         · rename_i h80
           simp only [Bool.and_eq_true, decide_eq_true_eq] at h80
           refine ⟨by show 128 ≤ _; have := h80.1; simp only [] at *; omega, by simp, by show pos + 4 ≤ _; omega, key 4 (by omega) (by omega) fun k k1 k2 => ?_⟩
           rcases (by omega : k = 1 ∨ k = 2 ∨ k = 3) with rfl | rfl | rfl
           · exact hc.1.1.2.2
           · exact hc.1.2.2
           · exact hc.2.2
         · exact ⟨by decide, by decide, one.1, one.2⟩
       · exact ⟨by decide, by decide, one.1, one.2⟩
def allG (s : ByteArray) : Bool := s.data.toList.all goodB
theorem get_list (s : ByteArray) (i : Nat) (h : i < s.size) : s.get! i = s.data.toList[i]'(by simpa using h) := by
 simp [ByteArray.get!, getElem!_pos, h]
theorem allG_iff {s : ByteArray} : allG s = true ↔ ∀ i, i < s.size → goodB (s.get! i) = true := by
 unfold allG
 rw [List.all_eq_true]
 constructor
 · intro h i hi
   rw [get_list s i hi]
   exact h _ (List.getElem_mem _)
 · intro h b hb
   obtain ⟨i, hi, rfl⟩ := List.getElem_of_mem hb
   have := h i (by simpa using hi)
   rw [get_list s i (by simpa using hi)] at this
   exact this
theorem allG_not {s : ByteArray} {i : Nat} (hi : i < s.size) (h : goodB (s.get! i) = false) : allG s = false := by
 cases ha : allG s with
 | false => rfl
 | true => rw [allG_iff.1 ha i hi] at h; cases h
theorem good_high {b : UInt8} (h : 128 ≤ b.toNat) : goodB b = true := by
 unfold goodB
 rw [decide_eq_true (by omega), decide_eq_true (by omega)]
 rfl
def keyG (s : ByteArray) : Bool := decide (1 ≤ s.size) && (decide (s.size ≤ 64) && (validD s.data.toList && allG s))
end Ku
end Go.Proofs.YtjlliohjeiclaaaDoor
namespace Go.Proofs.YtjlliohjeiclaaaDoor
open Go.RowKit
section
variable {P : Program} {md : Region.Mode} {ops : Array Oper} {Q : Exit → Act → World → Prop} {S : World → Prop} {T : List Nat}
def doneB (ops : Array Oper) (T : List Nat) (listed : Array Bool) : Bool := (List.range ops.size).all fun k => T.contains k || listed.getD k false
def anyT (P : Program) (md : Region.Mode) (ops : Array Oper) (Q : Exit → Act → World → Prop) (T : List Nat) (S : World → Prop) : Nat → Array Bool → Act → World → Prop
 | 0, listed, a, w => wpAny P md ops Q 0 listed a w
 | fuel + 1, listed, a, w => if doneB ops T listed = true then wpAny P md ops Q (fuel + 1) listed a w
  else (Region.ready md ops listed = [] → Q .normal a w) ∧ ∀ i ∈ Region.ready md ops listed, wpOp P ops Q i (fun a' w' => S w' ∧ anyT P md ops Q T S fuel (listed.setIfInBounds i true) a' w') a w
def AllReadyT (P : Program) (md : Region.Mode) (ops : Array Oper) (Q : Exit → Act → World → Prop) (T : List Nat) (S : World → Prop) (fuel : Nat) (listed : Array Bool) (a : Act) (w : World) (rs : List Nat) : Prop :=
 ∀ i ∈ rs, wpOp P ops Q i (fun a' w' => S w' ∧ anyT P md ops Q T S fuel (listed.setIfInBounds i true) a' w') a w
theorem AllReadyT.nil {fuel : Nat} {listed : Array Bool} {a : Act} {w : World} : AllReadyT P md ops Q T S fuel listed a w [] := fun _ h => by cases h
theorem AllReadyT.cons {fuel : Nat} {listed : Array Bool} {a : Act} {w : World} {i : Nat} {o : Oper} {rs : List Nat} (ho : ops[i]? = some o) (hw : Region.wanted o (yielded ops a.tmps) = true)
 (h : ∀ K' : Act → World → Prop, Shut (∀ a w, S w → (S w → anyT P md ops Q T S fuel (listed.setIfInBounds i true) a w) → K' a w) → Oper.wp P o a w K' Q)
 (hs : AllReadyT P md ops Q T S fuel listed a w rs) : AllReadyT P md ops Q T S fuel listed a w (i :: rs) := fun j hj => by
 rcases List.mem_cons.1 hj with rfl | hj
 · unfold wpOp
   simp only [ho]
   rw [if_pos hw]
   exact .inl (h _ (fun a w hS hW => ⟨hS, hW hS⟩))
 · exact hs j hj
end
end Go.Proofs.YtjlliohjeiclaaaDoor
namespace Go.Proofs.YtjlliohjeiclaaaDoor
open Go.RowKit Ku
set_option maxRecDepth 100000 in
theorem key_Key (s : ByteArray) (w : World) (hs : s.size ≤ 9223372036854775807) (hG : Glob w) :
 Calls Tryd.prog 60 #[.string s] w fun e w' => e = .returned (.bool (keyG s)) ∧ Below w.heap.size w w' := by
 have G := Lib.hid hG
 have HS := Lib.hid hs
 clear hG hs
 obtain ⟨res, hres⟩ : ∃ r, keyG s = r := ⟨_, rfl⟩
 have R := Lib.hid hres
 rw [hres]
 clear hres
 go_enter Tryd.func60, Tryd.ntmps60
 by_cases h1 : s.size < 1
 · have h1i : (s.size : Int) < 1 := by omega
   obtain rfl : false = res := by rw [← R.out]; unfold keyG; rw [decide_eq_false (by omega)]; rfl
   go_wp2_with fail
   go_ret
   exact ⟨rfl, Below.refl _ _⟩
 have h1i : ¬ (s.size : Int) < 1 := by omega
 by_cases h2 : 64 < s.size
 · have h2i : (64 : Int) < (s.size : Int) := by omega
   obtain rfl : false = res := by rw [← R.out]; unfold keyG; rw [decide_eq_false (p := s.size ≤ 64) (by omega)]; simp
   go_wp2_with fail
   go_ret
   exact ⟨rfl, Below.refl _ _⟩
 have h2i : ¬ (64 : Int) < (s.size : Int) := by omega
 go_wp2_with fail
 refine (ks_Valid s w HS.out G.out).mono ?_
 rintro e w1 ⟨rfl, hb⟩
 have HB := Lib.hid hb
 clear hb
 obtain ⟨va, hva⟩ : ∃ r, Lib.validD s.data.toList = r := ⟨_, rfl⟩
 rw [hva]
 have VA := Lib.hid hva
 clear hva
 cases va
 case false =>
  obtain rfl : false = res := by rw [← R.out]; unfold keyG; rw [VA.out]; simp
  go_wp2_with fail
  go_ret
  exact ⟨rfl, HB.out⟩
 have R2 : Hid (allG s = res) := Lib.hid (by rw [← R.out]; unfold keyG; rw [VA.out, decide_eq_true (by omega), decide_eq_true (by omega)]; rfl)
 clear R
 go_wp2_with fail
 go_loopw [] (fun w' => ∃ pos : Nat, pos ≤ s.size ∧ w' = w1.iter s pos ∧ Hid (∀ i, i < pos → goodB (s.get! i) = true)) (fun w' => s.size - w'.iterPos w1.heap.size)
 case atStart => exact ⟨0, Nat.zero_le _, rfl, Lib.hid (fun i hi => by omega)⟩
 case round =>
  obtain ⟨pos, hps, rfl, HA⟩ := hrel
  by_cases hp : pos < s.size
  · have hnx : ∀ ty, (Instr.next (.pointer (some ⟨w1.heap.size, 0, none⟩)) true ty).run Tryd.prog (w1.iter s pos) = _ := fun ty => run_next_any w1 s pos ty hp
    have D := Lib.hid (dec_step s pos hp)
    obtain ⟨c, n, hcn⟩ : ∃ c n, Utf8.decode s pos = (c, n) := ⟨_, _, rfl⟩
    rw [hcn] at D
    simp only [hcn] at hnx
    clear hcn
    have HP := Lib.hid hp
    rcases D.out with ⟨a1, a2⟩ | ⟨a1, a2, a3, a4, a5⟩
    · obtain ⟨rfl, rfl⟩ : c = (s.get! pos).toNat ∧ n = 1 := by cases a2; exact ⟨rfl, rfl⟩
      clear a2 D
      obtain ⟨c, hc⟩ : ∃ c, (s.get! pos).toNat = c := ⟨_, rfl⟩
      rw [hc] at a1
      simp only [hc] at hnx
      have HC := Lib.hid hc
      clear hc
      by_cases k1 : c < 32
      · have k1i : (c : Int) < 32 := by omega
        obtain rfl : false = res := by rw [← R2.out]; exact (allG_not HP.out (by unfold goodB; rw [HC.out, decide_eq_false (p := 32 ≤ c) (by omega)]; rfl)).symm
        go_wp2_with fail
        go_ret
        exact ⟨rfl, HB.out.trans ((below_new w1 _).mono HB.out.size)⟩
      · by_cases k2 : c = 47
        · subst k2
          obtain rfl : false = res := by rw [← R2.out]; exact (allG_not HP.out (by unfold goodB; rw [HC.out]; decide)).symm
          go_wp2_with fail
          go_ret
          exact ⟨rfl, HB.out.trans ((below_new w1 _).mono HB.out.size)⟩
        · have NX : Hid (∀ i, i < pos + 1 → goodB (s.get! i) = true) := Lib.hid (fun i hi => by
           by_cases h : i < pos
           · exact HA.out i h
           · rw [show i = pos by omega]; unfold goodB; rw [HC.out, decide_eq_true (by omega), decide_eq_true k2]; rfl)
          have hc1 : ¬ (c : Int) < 32 := by omega
          have hc2 : ((c : Int) == 47) = false := beq_eq_false_iff_ne.2 (by omega)
          have hc3 : ¬ (c : Int) = 47 := by omega
          go_wp2_with fail
          go_roundw
          case rel => exact ⟨pos + 1, by omega, rfl, NX⟩
          case measure => simp; omega
    · have NX : Hid (∀ i, i < pos + n → goodB (s.get! i) = true) := Lib.hid (fun i hi => by
       by_cases h : i < pos
       · exact HA.out i h
       · exact good_high (a5 i (by omega) hi))
      clear D a5
      have hc1 : ¬ (c : Int) < 32 := by omega
      have hc2 : ((c : Int) == 47) = false := beq_eq_false_iff_ne.2 (by omega)
      have hc3 : ¬ (c : Int) = 47 := by omega
      go_wp2_with fail
      go_roundw
      case rel => exact ⟨pos + n, by omega, rfl, NX⟩
      case measure => simp; omega
  · obtain rfl : pos = s.size := by omega
    have hnx : ∀ ty, (Instr.next (.pointer (some ⟨w1.heap.size, 0, none⟩)) true ty).run Tryd.prog (w1.iter s s.size) = _ := fun ty => run_next_end w1 s s.size ty hp
    obtain rfl : true = res := by rw [← R2.out]; exact (allG_iff.2 HA.out).symm
    go_wp2_with fail
    go_ret
    exact ⟨rfl, HB.out.trans ((below_new w1 _).mono HB.out.size)⟩
end Go.Proofs.YtjlliohjeiclaaaDoor
namespace Go.Proofs.YtjlliohjeiclaaaDoor
namespace Ku
open Go.Lib
theorem validGo_fuel : ∀ (n m : Nat) (l : List UInt8), l.length ≤ n → l.length ≤ m → validGoD n l = validGoD m l
 | 0, m, l, h, _ => by
  obtain rfl : l = [] := List.eq_nil_of_length_eq_zero (by omega)
  cases m <;> simp [validGoD]
 | n + 1, 0, l, _, h => by
  obtain rfl : l = [] := List.eq_nil_of_length_eq_zero (by omega)
  simp [validGoD]
 | n + 1, m + 1, l, h1, h2 => by
  unfold validGoD
  by_cases hl : l = []
  · rw [if_pos hl, if_pos hl]
  · rw [if_neg hl, if_neg hl]
    split
    · rfl
    · have hw := decodeL_width l
      have hp : 0 < l.length := List.length_pos_iff.2 hl
      exact validGo_fuel n m _ (by rw [List.length_drop]; omega) (by rw [List.length_drop]; omega)
theorem valid_step (s : ByteArray) (pos : Nat) (h : pos < s.size) :
 validD (s.data.toList.drop pos) = if Utf8.decode s pos = (65533, 1) then false else validD (s.data.toList.drop (pos + (Utf8.decode s pos).2)) := by
 have hlen : (s.data.toList.drop pos).length = s.size - pos := by simp
 obtain ⟨k, hk⟩ : ∃ k, s.size - pos = k + 1 := ⟨s.size - pos - 1, by omega⟩
 have hne : s.data.toList.drop pos ≠ [] := by intro e; rw [e] at hlen; simp at hlen; omega
 have hd := decodeL_drop s pos
 have hw := decodeL_width (s.data.toList.drop pos)
 unfold validD
 rw [hlen, hk]
 rw [validGoD, if_neg hne, hd]
 by_cases he : Utf8.decode s pos = (65533, 1)
 · rw [if_pos he, if_pos (by rw [he]; exact ⟨rfl, rfl⟩)]
 · rw [if_neg he, if_neg (fun ⟨h1, h2⟩ => he (Prod.ext h1 h2)), List.drop_drop]
   rw [hd] at hw
   exact validGo_fuel _ _ _ (by rw [List.length_drop]; simp; omega) (by simp)
theorem valid_all (s : ByteArray) : validD (s.data.toList.drop 0) = validD s.data.toList := by rw [List.drop_zero]
theorem valid_end (s : ByteArray) : validD (s.data.toList.drop s.size) = true := by
 rw [List.drop_of_length_le (by simp)]
 rfl
def accN (s : ByteArray) (pos c0 : Nat) : Nat → Nat
 | 0 => c0
 | k + 1 => 64 * accN s pos c0 k + (s.get! (pos + (k + 1))).toNat - 128
def Cls (b n c0 least : Nat) : Prop := (192 ≤ b ∧ b < 224 ∧ n = 2 ∧ c0 = b - 192 ∧ least = 128) ∨ (224 ≤ b ∧ b < 240 ∧ n = 3 ∧ c0 = b - 224 ∧ least = 2048) ∨ (240 ≤ b ∧ b < 248 ∧ n = 4 ∧ c0 = b - 240 ∧ least = 65536)
def Cont (s : ByteArray) (pos j : Nat) : Prop := 128 ≤ (s.get! (pos + j)).toNat ∧ (s.get! (pos + j)).toNat < 192
structure Dec (s : ByteArray) (pos n c0 least : Nat) : Prop where
 len : pos + n ≤ s.size
 cont : ∀ j, 1 ≤ j → j < n → Cont s pos j
 lo : least ≤ accN s pos c0 (n - 1)
 hi : accN s pos c0 (n - 1) ≤ 1114111
 su : ¬ (55296 ≤ accN s pos c0 (n - 1) ∧ accN s pos c0 (n - 1) ≤ 57343)
theorem u8_lt (s : ByteArray) (i : Nat) : (s.get! i).toNat < 256 := (s.get! i).toNat_lt
theorem dn2 {r b0 b1 b2 b3 : Nat} (h1 : 192 ≤ b0) (h2 : b0 < 224) (u1 : b1 < 256) :
 (2 ≤ r ∧ (128 ≤ b1 ∧ b1 < 192) ∧ 128 ≤ 64 * (b0 - 192) + b1 - 128 → decodeN r b0 b1 b2 b3 = (64 * (b0 - 192) + b1 - 128, 2)) ∧
 (¬ (2 ≤ r ∧ (128 ≤ b1 ∧ b1 < 192) ∧ 128 ≤ 64 * (b0 - 192) + b1 - 128) → decodeN r b0 b1 b2 b3 = (65533, 1)) := by
 constructor
 · rintro ⟨d1, d2, d3⟩
   unfold decodeN
   rw [if_neg (by omega), if_pos (by omega), if_pos (by omega)]
   exact Prod.ext (by show _ = _; omega) rfl
 · intro hn
   unfold decodeN
   rw [if_neg (by omega)]
   by_cases k : b0 / 32 = 6 ∧ (1 < r ∧ b1 / 64 = 2)
   · rw [if_pos k, if_neg (by omega)]
   · rw [if_neg k, if_neg (by omega), if_neg (by omega)]
theorem dn3 {r b0 b1 b2 b3 : Nat} (h1 : 224 ≤ b0) (h2 : b0 < 240) (u1 : b1 < 256) (u2 : b2 < 256) {c : Nat} (hc : c = 64 * (64 * (b0 - 224) + b1 - 128) + b2 - 128) :
 (3 ≤ r ∧ (128 ≤ b1 ∧ b1 < 192) ∧ (128 ≤ b2 ∧ b2 < 192) ∧ 2048 ≤ c ∧ ¬ (55296 ≤ c ∧ c ≤ 57343) → decodeN r b0 b1 b2 b3 = (c, 3)) ∧
 (¬ (3 ≤ r ∧ (128 ≤ b1 ∧ b1 < 192) ∧ (128 ≤ b2 ∧ b2 < 192) ∧ 2048 ≤ c ∧ ¬ (55296 ≤ c ∧ c ≤ 57343)) → decodeN r b0 b1 b2 b3 = (65533, 1)) := by
 constructor
 · rintro ⟨d1, d2, d3, d4, d5⟩
   have e : b0 % 16 * 4096 + b1 % 64 * 64 + b2 % 64 = c := by omega
   unfold decodeN
   rw [if_neg (by omega), if_neg (by omega), if_pos (by omega), e, if_pos (by omega)]
 · intro hn
   unfold decodeN
   rw [if_neg (by omega), if_neg (by omega)]
   by_cases k : b0 / 16 = 14 ∧ (1 < r ∧ b1 / 64 = 2) ∧ (2 < r ∧ b2 / 64 = 2)
   · have e : b0 % 16 * 4096 + b1 % 64 * 64 + b2 % 64 = c := by omega
     rw [if_pos k, e, if_neg (by omega)]
   · rw [if_neg k, if_neg (by omega)]
theorem dn4 {r b0 b1 b2 b3 : Nat} (h1 : 240 ≤ b0) (h2 : b0 < 248) (u1 : b1 < 256) (u2 : b2 < 256) (u3 : b3 < 256) {c : Nat} (hc : c = 64 * (64 * (64 * (b0 - 240) + b1 - 128) + b2 - 128) + b3 - 128) :
 (4 ≤ r ∧ (128 ≤ b1 ∧ b1 < 192) ∧ (128 ≤ b2 ∧ b2 < 192) ∧ (128 ≤ b3 ∧ b3 < 192) ∧ 65536 ≤ c ∧ c ≤ 1114111 → decodeN r b0 b1 b2 b3 = (c, 4)) ∧
 (¬ (4 ≤ r ∧ (128 ≤ b1 ∧ b1 < 192) ∧ (128 ≤ b2 ∧ b2 < 192) ∧ (128 ≤ b3 ∧ b3 < 192) ∧ 65536 ≤ c ∧ c ≤ 1114111) → decodeN r b0 b1 b2 b3 = (65533, 1)) := by
 constructor
 · rintro ⟨d1, d2, d3, d4, d5, d6⟩
   have e : b0 % 8 * 262144 + b1 % 64 * 4096 + b2 % 64 * 64 + b3 % 64 = c := by omega
   unfold decodeN
   rw [if_neg (by omega), if_neg (by omega), if_neg (by omega), if_pos (by omega), e, if_pos (by omega)]
 · intro hn
   unfold decodeN
   rw [if_neg (by omega), if_neg (by omega), if_neg (by omega)]
   by_cases k : b0 / 8 = 30 ∧ (1 < r ∧ b1 / 64 = 2) ∧ (2 < r ∧ b2 / 64 = 2) ∧ (3 < r ∧ b3 / 64 = 2)
   · have e : b0 % 8 * 262144 + b1 % 64 * 4096 + b2 % 64 * 64 + b3 % 64 = c := by omega
     rw [if_pos k, e, if_neg (by omega)]
   · rw [if_neg k]
set_option maxRecDepth 100000 in
theorem dec_multi (s : ByteArray) (pos n c0 least : Nat) (hc : Cls (s.get! pos).toNat n c0 least) :
 (Dec s pos n c0 least → Utf8.decode s pos = (accN s pos c0 (n - 1), n)) ∧ (¬ Dec s pos n c0 least → Utf8.decode s pos = (65533, 1)) := by
 have u1 := u8_lt s (pos + 1); have u2 := u8_lt s (pos + 2); have u3 := u8_lt s (pos + 3)
 rw [decode_at]
 rcases hc with ⟨h1, h2, rfl, rfl, rfl⟩ | ⟨h1, h2, rfl, rfl, rfl⟩ | ⟨h1, h2, rfl, rfl, rfl⟩
 · have d := dn2 (r := s.size - pos) (b2 := (s.get! (pos + 2)).toNat) (b3 := (s.get! (pos + 3)).toNat) h1 h2 u1
   refine ⟨fun ⟨a1, a2, a3, _, _⟩ => d.1 ⟨by omega, a2 1 (by omega) (by omega), a3⟩, fun hn => d.2 fun ⟨a1, a2, a3⟩ => hn ⟨by omega, fun j j1 j2 => ?_, a3, ?_, ?_⟩⟩
   · obtain rfl : j = 1 := by omega
     exact a2
   · show 64 * ((s.get! pos).toNat - 192) + (s.get! (pos + 1)).toNat - 128 ≤ 1114111
     omega
   · show ¬ (55296 ≤ 64 * ((s.get! pos).toNat - 192) + (s.get! (pos + 1)).toNat - 128 ∧ _)
     omega
 · have d := dn3 (r := s.size - pos) (b3 := (s.get! (pos + 3)).toNat) h1 h2 u1 u2 rfl
   refine ⟨fun ⟨a1, a2, a3, _, a5⟩ => d.1 ⟨by omega, a2 1 (by omega) (by omega), a2 2 (by omega) (by omega), a3, a5⟩, fun hn => d.2 fun ⟨a1, a2, a3, a4, a5⟩ => hn ⟨by omega, fun j j1 j2 => ?_, a4, ?_, a5⟩⟩
   · rcases (by omega : j = 1 ∨ j = 2) with rfl | rfl
     · exact a2
     · exact a3
   · show 64 * (64 * ((s.get! pos).toNat - 224) + (s.get! (pos + 1)).toNat - 128) + (s.get! (pos + 2)).toNat - 128 ≤ 1114111
     omega
 · have d := dn4 (r := s.size - pos) h1 h2 u1 u2 u3 rfl
   refine ⟨fun ⟨a1, a2, a3, a4, _⟩ => d.1 ⟨by omega, a2 1 (by omega) (by omega), a2 2 (by omega) (by omega), a2 3 (by omega) (by omega), a3, a4⟩, fun hn => d.2 fun ⟨a1, a2, a3, a4, a5, a6⟩ => hn ⟨by omega, fun j j1 j2 => ?_, a5, a6, ?_⟩⟩
   · rcases (by omega : j = 1 ∨ j = 2 ∨ j = 3) with rfl | rfl | rfl
     · exact a2
     · exact a3
     · exact a4
   · show ¬ (_ ∧ 64 * (64 * (64 * ((s.get! pos).toNat - 240) + (s.get! (pos + 1)).toNat - 128) + (s.get! (pos + 2)).toNat - 128) + (s.get! (pos + 3)).toNat - 128 ≤ 57343)
     omega
theorem dec_bad (s : ByteArray) (pos : Nat) (h : 128 ≤ (s.get! pos).toNat) (h2 : (s.get! pos).toNat < 192 ∨ 248 ≤ (s.get! pos).toNat) : Utf8.decode s pos = (65533, 1) := by
 have := u8_lt s pos
 rw [decode_at]
 unfold decodeN
 rw [if_neg (by omega), if_neg (by omega), if_neg (by omega), if_neg (by omega)]
end Ku
end Go.Proofs.YtjlliohjeiclaaaDoor
namespace Go.Proofs.YtjlliohjeiclaaaDoor
open Go.RowKit Ku
theorem idx_str (s : ByteArray) (i : Nat) (x : Int) (hx : x = (i : Int)) (hi : i < s.size) (w : World) : (Instr.index 9 (.string s) (.int .i64 x)).run Tryd.prog w = .ok (.int .u8 ((s.get! i).toNat : Int)) w := by
 subst hx
 rw [run_index_string w _ _ _ _ Tryd.underlying9, dif_pos ⟨by omega, by omega⟩]
 simp [hi, ByteArray.get!, getElem!_pos]
 rfl
def intsV (L : List Nat) : List Value := L.map fun (c : Nat) => Value.int .i64 (c : Int)
def okC (c : Nat) : Bool := decide (32 ≤ c) && decide (c ≠ 47)
theorem inT : ElemT Tryd.prog 142 3 (.int .i64 0) 1 8 := ElemT.mk Tryd.underlying142 (by kernel_rfl) (by simp [Value.cells])
theorem acc_step {A B d p : Nat} (h : A + 3 ≤ B * p) (u : d < 256) : 64 * A + d - 128 + 3 ≤ B * (p * 64) := by
 rw [← Nat.mul_assoc]
 omega
set_option maxRecDepth 100000 in
theorem accN_succ (s : ByteArray) (pos c0 k : Nat) : accN s pos c0 (k + 1) = 64 * accN s pos c0 k + (s.get! (pos + (k + 1))).toNat - 128 := rfl
theorem accN_zero (s : ByteArray) (pos c0 : Nat) : accN s pos c0 0 = c0 := rfl
theorem accN_le (s : ByteArray) (pos c0 k : Nat) : accN s pos c0 k + 3 ≤ (c0 + 3) * 64 ^ k := by
 induction k with
 | zero => rw [accN_zero, Nat.pow_zero, Nat.mul_one]; exact Nat.le_refl _
 | succ k ih =>
  have h := acc_step ih (u8_lt s (pos + (k + 1)))
  rw [Nat.pow_succ, accN_succ]
  exact h
theorem accN_sm (s : ByteArray) (pos c0 k : Nat) (hk : k ≤ 3) (hc : c0 ≤ 31) : accN s pos c0 k ≤ 10000000 := by
 have h := accN_le s pos c0 k
 have h2 : (c0 + 3) * 64 ^ k ≤ 34 * 64 ^ 3 := Nat.mul_le_mul (by omega) (Nat.pow_le_pow_right (by omega) hk)
 omega
theorem i64s {a : Int} (h1 : -9223372036854775808 ≤ a) (h2 : a ≤ 9223372036854775807) : IntKind.i64.wrap a = a := by
 simp [IntKind.wrap, IntKind.bits, IntKind.signed]; omega
theorem good_up {s : ByteArray} {pos n c : Nat} {L : List Nat} (HA : L.all okC = true ↔ ∀ i, i < pos → goodB (s.get! i) = true) (h : okC c = true ↔ ∀ i, pos ≤ i → i < pos + n → goodB (s.get! i) = true) :
 (L ++ [c]).all okC = true ↔ ∀ i, i < pos + n → goodB (s.get! i) = true := by
 rw [List.all_append, Bool.and_eq_true, HA, List.all_cons, List.all_nil, Bool.and_true, h]
 constructor
 · rintro ⟨h1, h2⟩ i hi
   by_cases k : i < pos
   · exact h1 i k
   · exact h2 i (by omega) hi
 · exact fun h => ⟨fun i hi => h i (by omega), fun i _ hi => h i hi⟩
set_option maxRecDepth 100000 in
set_option maxHeartbeats 4000000 in
theorem ref5_runes (s : ByteArray) (w : World) (hs : s.size ≤ 1000) :
 Calls Tryd.prog 91 #[.string s] w fun e w' => Below w.heap.size w w' ∧ ((Lib.validD s.data.toList = false ∧ e = .returned (.tuple #[.slice none 0 0, .bool false])) ∨
  (Lib.validD s.data.toList = true ∧ ∃ (L : List Nat) (a : Option Addr) (n c : Nat), e = .returned (.tuple #[.slice a n c, .bool true]) ∧ n = L.length ∧ n ≤ 1000 ∧ CellsAt w' a (intsV L) ∧ (L.all okC = allG s))) := by
 have HS := Lib.hid hs
 have IT := Lib.hid inT
 obtain ⟨va, hva⟩ : ∃ r, Lib.validD s.data.toList = r := ⟨_, rfl⟩
 have VA : Hid (Lib.validD (s.data.toList.drop 0) = va) := Lib.hid (by rw [valid_all]; exact hva)
 rw [hva]
 clear hs hva
 go_enter Tryd.func91, Tryd.ntmps91
 go_wp2_with fail
 go_loopw [4, 5] (fun v i wr => ∃ (pos : Nat) (L : List Nat), pos ≤ s.size ∧ i = .int .i64 (pos : Int) ∧ Hid (wr.ownsRow w.heap.size 3 1 v L.length (intsV L)) ∧ Hid (L.length ≤ pos) ∧ Hid (L.all okC = true ↔ ∀ i, i < pos → goodB (s.get! i) = true) ∧ Hid (Lib.validD (s.data.toList.drop pos) = va) ∧ Hid (Below w.heap.size w wr)) (fun _ i _ => s.size - (intOf i).toNat)
 case atStart => exact ⟨0, [], Nat.zero_le _, rfl, Lib.hid ⟨rfl, Or.inl ⟨rfl, rfl⟩⟩, Lib.hid (Nat.le_refl _), Lib.hid (by simp), VA, Lib.hid (Below.refl _ _)⟩
 case round =>
  obtain ⟨pos, L, hps, rfl, HO, HLL, HA, HV, HB⟩ := hrel
  obtain ⟨so, co, hsv, _, _⟩ := own_slice HO.out
  subst hsv
  by_cases hp : pos < s.size
  · have hpi : (pos : Int) < (s.size : Int) := by omega
    have hs1000 : s.size ≤ 1000 := HS.out
    have IX0 := fun W => idx_str s pos (pos : Int) rfl hp W
    obtain ⟨b, hbv⟩ : ∃ b, (s.get! pos).toNat = b := ⟨_, rfl⟩
    rw [hbv] at IX0
    have hb256 : b < 256 := by rw [← hbv]; exact u8_lt s pos
    have BV := Lib.hid hbv
    have IX := Lib.hid IX0
    have VS := Lib.hid (valid_step s pos hp)
    have HWS := Lib.hid HB.out.size
    have HLS : L.length ≤ 1000 := by have := HLL.out; omega
    clear hbv IX0
    by_cases k1 : b < 128
    · have k1i : (b : Int) < 128 := by omega
      have DE : Hid (Utf8.decode s pos = (b, 1)) := Lib.hid (by rw [Lib.decode_at, BV.out]; unfold Lib.decodeN; rw [if_pos k1])
      have HV6 : Hid (Lib.validD (s.data.toList.drop (pos + 1)) = va) := Lib.hid (by rw [← HV.out, VS.out, DE.out, if_neg (by intro h; have := congrArg Prod.fst h; simp at this; omega)])
      have HA6 : Hid ((L ++ [b]).all okC = true ↔ ∀ i, i < pos + 1 → goodB (s.get! i) = true) := Lib.hid (good_up HA.out (by
       constructor
       · intro h i h1 h2
         rw [show i = pos by omega]
         unfold goodB; rw [BV.out]; exact h
       · intro h
         have := h pos (Nat.le_refl _) (by omega)
         unfold goodB at this; rw [BV.out] at this; exact this))
      have ix := IX.out
      have hw1 : IntKind.i64.wrap ((pos : Int) + 1) = (pos : Int) + 1 := i64s (by omega) (by omega)
      have hle : ¬ ((s.size : Int) < (pos : Int) + 1) := by omega
      go_wp2_with fail
      go_loopw [6, 9] (fun cv kv wX => cv = .int .i64 (b : Int) ∧ kv = .int .i64 1 ∧ wX = wr) (fun _ _ _ => 0)
      case atStart => exact ⟨rfl, rfl, rfl⟩
      case round =>
       obtain ⟨rfl, rfl, rfl⟩ := hrel
       have hn0 : ¬ (b : Int) < 0 := by omega
       have hn1 : ¬ (1114111 : Int) < (b : Int) := by omega
       have hn2 : ¬ (55296 : Int) ≤ (b : Int) := by omega
       go_wp2_with (at_builtin; go_must (refine wpList_app rfl _ _ 142 142 rfl w.heap.size 3 _ 1 8 IT.out (.slice so L.length co) L.length (intsV L) rfl (HO.out.alloc _) _ 1 [.int .i64 (b : Int)] rfl ((CellsAt.new wr 3 (0, 0) [.int .i64 (b : Int)]).srcN rfl (by simp [Value.oneCell']) Tryd.underlying142 1 (by decide)) (by omega) (by omega) (by have := HWS.out; simp; omega) ?_); go_must (intro v6 w6 hown _ hbel _))
       have HO6 : Hid (w6.ownsRow w.heap.size 3 1 v6 (L ++ [b]).length (intsV (L ++ [b]))) := Lib.hid (by rw [List.length_append]; unfold intsV at hown ⊢; rw [List.map_append]; exact hown)
       have HB6 := Lib.hid ((HB.out.alloc HWS.out _).trans hbel)
       clear hown hbel
       go_wp2_with fail
       go_roundw
       case rel => exact ⟨pos + 1, L ++ [b], by omega, by go_num, HO6, Lib.hid (by rw [List.length_append]; have := HLL.out; simp; omega), HA6, HV6, HB6⟩
       case measure => simp [intOf]; omega
    · have k1i : ¬ (b : Int) < 128 := by omega
      by_cases c1 : b < 192
      · have c1i : ¬ (192 : Int) ≤ (b : Int) := by omega
        have c2i : ¬ (224 : Int) ≤ (b : Int) := by omega
        have c3i : ¬ (240 : Int) ≤ (b : Int) := by omega
        have DB : Hid (Utf8.decode s pos = (65533, 1)) := Lib.hid (dec_bad s pos (by rw [BV.out]; omega) (by rw [BV.out]; omega))
        have ix := IX.out
        obtain rfl : false = va := by rw [← HV.out, VS.out, if_pos DB.out]
        go_wp2_with fail
        go_ret2
        exact ⟨HB.out, rfl⟩
      have c1i : (192 : Int) ≤ (b : Int) := by omega
      by_cases c2 : b < 224
      · have c2i : (b : Int) < 224 := by omega
        have DM := Lib.hid (dec_multi s pos 2 (b - 192) 128 (by rw [BV.out]; unfold Cls; omega))
        have hw0 : IntKind.i64.wrap ((b : Int) - 192) = (b : Int) - 192 := i64s (by omega) (by omega)
        have hw1 : IntKind.i64.wrap ((pos : Int) + 2) = (pos : Int) + 2 := i64s (by omega) (by omega)
        have ix := IX.out
        by_cases hn : s.size < pos + 2
        · have hni : (s.size : Int) < (pos : Int) + 2 := by omega
          have DB : Hid (Utf8.decode s pos = (65533, 1)) := Lib.hid (DM.out.2 fun d => by have := d.len; omega)
          obtain rfl : false = va := by rw [← HV.out, VS.out, if_pos DB.out]
          go_wp2_with fail
          go_ret2
          exact ⟨HB.out, rfl⟩
        have hni : ¬ (s.size : Int) < (pos : Int) + 2 := by omega
        go_wp2_with fail
        clear ix
        go_loopw [6, 9] (fun cv kv wX => ∃ k : Nat, 1 ≤ k ∧ k ≤ 2 ∧ kv = .int .i64 (k : Int) ∧ cv = .int .i64 ((accN s pos (b - 192) (k - 1) : Nat) : Int) ∧ Hid (∀ j, 1 ≤ j → j < k → Cont s pos j) ∧ wX = wr) (fun _ kv _ => 2 - (intOf kv).toNat)
        case atStart => exact ⟨1, by omega, by omega, rfl, by show _ = Value.int .i64 ((b - 192 : Nat) : Int); congr 1; omega, Lib.hid (fun j h1 h2 => by omega), rfl⟩
        case round =>
         obtain ⟨k, hk1, hkn, rfl, rfl, HC, rfl⟩ := hrel
         by_cases hk : k < 2
         · have hki : (k : Int) < 2 := by omega
           have IK0 := fun W => idx_str s (pos + k) ((pos : Int) + (k : Int)) (by omega) (by omega) W
           obtain ⟨d, hd⟩ : ∃ d, (s.get! (pos + k)).toNat = d := ⟨_, rfl⟩
           rw [hd] at IK0
           have hd256 : d < 256 := by rw [← hd]; exact u8_lt s _
           have DV := Lib.hid hd
           have EA : Hid (accN s pos (b - 192) (k + 1 - 1) = 64 * accN s pos (b - 192) (k - 1) + d - 128) := Lib.hid (by
            obtain ⟨m, rfl⟩ : ∃ m, k = m + 1 := ⟨k - 1, by omega⟩
            rw [← hd]
            rfl)
           have HSM : accN s pos (b - 192) (k - 1) ≤ 10000000 := accN_sm _ _ _ _ (by omega) (by omega)
           generalize accN s pos (b - 192) (k - 1) = q at *
           clear hd
           have hw2 : IntKind.i64.wrap ((pos : Int) + (k : Int)) = (pos : Int) + (k : Int) := i64s (by omega) (by omega)
           by_cases d1 : d < 128
           · have d1i : (d : Int) < 128 := by omega
             have DB : Hid (Utf8.decode s pos = (65533, 1)) := Lib.hid (DM.out.2 fun D => by have := (D.cont k hk1 hk).1; rw [DV.out] at this; omega)
             obtain rfl : false = va := by rw [← HV.out, VS.out, if_pos DB.out]
             go_wp2_with fail
             go_ret2
             exact ⟨HB.out, rfl⟩
           · have d1i : ¬ (d : Int) < 128 := by omega
             by_cases d2 : 192 ≤ d
             · have d2i : (192 : Int) ≤ (d : Int) := by omega
               have DB : Hid (Utf8.decode s pos = (65533, 1)) := Lib.hid (DM.out.2 fun D => by have := (D.cont k hk1 hk).2; rw [DV.out] at this; omega)
               obtain rfl : false = va := by rw [← HV.out, VS.out, if_pos DB.out]
               go_wp2_with fail
               go_ret2
               exact ⟨HB.out, rfl⟩
             · have d2i : ¬ (192 : Int) ≤ (d : Int) := by omega
               have hw3 : IntKind.i64.wrap (64 * (q : Int)) = 64 * (q : Int) := i64s (by omega) (by omega)
               have hw4 : IntKind.i64.wrap (64 * (q : Int) + (d : Int)) = 64 * (q : Int) + (d : Int) := i64s (by omega) (by omega)
               have hw5 : IntKind.i64.wrap (64 * (q : Int) + (d : Int) - 128) = 64 * (q : Int) + (d : Int) - 128 := i64s (by omega) (by omega)
               have HC2 : Hid (∀ j, 1 ≤ j → j < k + 1 → Cont s pos j) := Lib.hid (fun j j1 j2 => by
                by_cases h : j < k
                · exact HC.out j j1 h
                · rw [show j = k by omega]; unfold Cont; rw [DV.out]; omega)
               go_wp2_with fail
               go_roundw
               case rel => exact ⟨k + 1, by omega, by omega, by go_num, by rw [EA.out]; congr 1; omega, HC2, by trivial⟩
               case measure => simp [intOf]; omega
         · have hkk : k = 2 := by omega
           have hki : ¬ (k : Int) < 2 := by omega
           obtain ⟨q, hq⟩ : ∃ q, accN s pos (b - 192) (k - 1) = q := ⟨_, rfl⟩
           have QV : Hid (accN s pos (b - 192) (2 - 1) = q) := Lib.hid (by rw [← hq, hkk])
           have CV : Hid (∀ j, 1 ≤ j → j < 2 → Cont s pos j) := Lib.hid (by rw [← hkk]; exact HC.out)
           rw [hq]
           clear hq HC hkk
           by_cases g1 : q < 128
           · have g1i : (q : Int) < 128 := by omega
             have DB : Hid (Utf8.decode s pos = (65533, 1)) := Lib.hid (DM.out.2 fun D => by have := D.lo; rw [QV.out] at this; omega)
             obtain rfl : false = va := by rw [← HV.out, VS.out, if_pos DB.out]
             go_wp2_with fail
             go_ret2
             exact ⟨HB.out, rfl⟩
           have g1i : ¬ (q : Int) < 128 := by omega
           by_cases g2 : 1114111 < q
           · have g2i : (1114111 : Int) < (q : Int) := by omega
             have DB : Hid (Utf8.decode s pos = (65533, 1)) := Lib.hid (DM.out.2 fun D => by have := D.hi; rw [QV.out] at this; omega)
             obtain rfl : false = va := by rw [← HV.out, VS.out, if_pos DB.out]
             go_wp2_with fail
             go_ret2
             exact ⟨HB.out, rfl⟩
           have g2i : ¬ (1114111 : Int) < (q : Int) := by omega
           by_cases g3 : 55296 ≤ q ∧ q ≤ 57343
           · have g3i : (55296 : Int) ≤ (q : Int) := by omega
             have g3j : (q : Int) ≤ 57343 := by omega
             have DB : Hid (Utf8.decode s pos = (65533, 1)) := Lib.hid (DM.out.2 fun D => by have := D.su; rw [QV.out] at this; exact this g3)
             obtain rfl : false = va := by rw [← HV.out, VS.out, if_pos DB.out]
             go_wp2_with fail
             go_ret2
             exact ⟨HB.out, rfl⟩
           have DE : Hid (Utf8.decode s pos = (q, 2)) := Lib.hid (by rw [← QV.out]; exact DM.out.1 ⟨by omega, CV.out, by rw [QV.out]; omega, by rw [QV.out]; omega, by rw [QV.out]; exact g3⟩)
           have HV6 : Hid (Lib.validD (s.data.toList.drop (pos + 2)) = va) := Lib.hid (by rw [← HV.out, VS.out, DE.out, if_neg (by intro h; have := congrArg Prod.snd h; simp at this)])
           have HA6 : Hid ((L ++ [q]).all okC = true ↔ ∀ i, i < pos + 2 → goodB (s.get! i) = true) := Lib.hid (good_up HA.out (by
            constructor
            · intro _ i h1 h2
              by_cases h : i = pos
              · rw [h]; exact good_high (by rw [BV.out]; omega)
              · have := (CV.out (i - pos) (by omega) (by omega)).1
                rw [show pos + (i - pos) = i by omega] at this
                exact good_high this
            · intro _
              unfold okC
              rw [decide_eq_true (by omega), decide_eq_true (by omega)]
              rfl))
           by_cases g4 : 55296 ≤ q
           · have g4i : (55296 : Int) ≤ (q : Int) := by omega
             have g5i : ¬ (q : Int) ≤ 57343 := by omega
             go_wp2_with (at_builtin; go_must (refine wpList_app rfl _ _ 142 142 rfl w.heap.size 3 _ 1 8 IT.out (.slice so L.length co) L.length (intsV L) rfl (HO.out.alloc _) _ 1 [.int .i64 (q : Int)] rfl ((CellsAt.new wr 3 (0, 0) [.int .i64 (q : Int)]).srcN rfl (by simp [Value.oneCell']) Tryd.underlying142 1 (by decide)) (by omega) (by omega) (by have := HWS.out; simp; omega) ?_); go_must (intro v6 w6 hown _ hbel _))
             have HO6 : Hid (w6.ownsRow w.heap.size 3 1 v6 (L ++ [q]).length (intsV (L ++ [q]))) := Lib.hid (by rw [List.length_append]; unfold intsV at hown ⊢; rw [List.map_append]; exact hown)
             have HB6 := Lib.hid ((HB.out.alloc HWS.out _).trans hbel)
             clear hown hbel
             go_wp2_with fail
             go_roundw
             case rel => exact ⟨pos + 2, L ++ [q], by omega, by go_num, HO6, Lib.hid (by rw [List.length_append]; have := HLL.out; simp; omega), HA6, HV6, HB6⟩
             case measure => simp [intOf]; omega
           · have g4i : ¬ (55296 : Int) ≤ (q : Int) := by omega
             go_wp2_with (at_builtin; go_must (refine wpList_app rfl _ _ 142 142 rfl w.heap.size 3 _ 1 8 IT.out (.slice so L.length co) L.length (intsV L) rfl (HO.out.alloc _) _ 1 [.int .i64 (q : Int)] rfl ((CellsAt.new wr 3 (0, 0) [.int .i64 (q : Int)]).srcN rfl (by simp [Value.oneCell']) Tryd.underlying142 1 (by decide)) (by omega) (by omega) (by have := HWS.out; simp; omega) ?_); go_must (intro v6 w6 hown _ hbel _))
             have HO6 : Hid (w6.ownsRow w.heap.size 3 1 v6 (L ++ [q]).length (intsV (L ++ [q]))) := Lib.hid (by rw [List.length_append]; unfold intsV at hown ⊢; rw [List.map_append]; exact hown)
             have HB6 := Lib.hid ((HB.out.alloc HWS.out _).trans hbel)
             clear hown hbel
             go_wp2_with fail
             go_roundw
             case rel => exact ⟨pos + 2, L ++ [q], by omega, by go_num, HO6, Lib.hid (by rw [List.length_append]; have := HLL.out; simp; omega), HA6, HV6, HB6⟩
             case measure => simp [intOf]; omega
      have c2i : ¬ (b : Int) < 224 := by omega
      have c2j : (224 : Int) ≤ (b : Int) := by omega
      by_cases c3 : b < 240
      · have c3i : (b : Int) < 240 := by omega
        have DM := Lib.hid (dec_multi s pos 3 (b - 224) 2048 (by rw [BV.out]; unfold Cls; omega))
        have hw0 : IntKind.i64.wrap ((b : Int) - 224) = (b : Int) - 224 := i64s (by omega) (by omega)
        have hw1 : IntKind.i64.wrap ((pos : Int) + 3) = (pos : Int) + 3 := i64s (by omega) (by omega)
        have ix := IX.out
        by_cases hn : s.size < pos + 3
        · have hni : (s.size : Int) < (pos : Int) + 3 := by omega
          have DB : Hid (Utf8.decode s pos = (65533, 1)) := Lib.hid (DM.out.2 fun d => by have := d.len; omega)
          obtain rfl : false = va := by rw [← HV.out, VS.out, if_pos DB.out]
          go_wp2_with fail
          go_ret2
          exact ⟨HB.out, rfl⟩
        have hni : ¬ (s.size : Int) < (pos : Int) + 3 := by omega
        go_wp2_with fail
        clear ix
        go_loopw [6, 9] (fun cv kv wX => ∃ k : Nat, 1 ≤ k ∧ k ≤ 3 ∧ kv = .int .i64 (k : Int) ∧ cv = .int .i64 ((accN s pos (b - 224) (k - 1) : Nat) : Int) ∧ Hid (∀ j, 1 ≤ j → j < k → Cont s pos j) ∧ wX = wr) (fun _ kv _ => 3 - (intOf kv).toNat)
        case atStart => exact ⟨1, by omega, by omega, rfl, by show _ = Value.int .i64 ((b - 224 : Nat) : Int); congr 1; omega, Lib.hid (fun j h1 h2 => by omega), rfl⟩
        case round =>
         obtain ⟨k, hk1, hkn, rfl, rfl, HC, rfl⟩ := hrel
         by_cases hk : k < 3
         · have hki : (k : Int) < 3 := by omega
           have IK0 := fun W => idx_str s (pos + k) ((pos : Int) + (k : Int)) (by omega) (by omega) W
           obtain ⟨d, hd⟩ : ∃ d, (s.get! (pos + k)).toNat = d := ⟨_, rfl⟩
           rw [hd] at IK0
           have hd256 : d < 256 := by rw [← hd]; exact u8_lt s _
           have DV := Lib.hid hd
           have EA : Hid (accN s pos (b - 224) (k + 1 - 1) = 64 * accN s pos (b - 224) (k - 1) + d - 128) := Lib.hid (by
            obtain ⟨m, rfl⟩ : ∃ m, k = m + 1 := ⟨k - 1, by omega⟩
            rw [← hd]
            rfl)
           have HSM : accN s pos (b - 224) (k - 1) ≤ 10000000 := accN_sm _ _ _ _ (by omega) (by omega)
           generalize accN s pos (b - 224) (k - 1) = q at *
           clear hd
           have hw2 : IntKind.i64.wrap ((pos : Int) + (k : Int)) = (pos : Int) + (k : Int) := i64s (by omega) (by omega)
           by_cases d1 : d < 128
           · have d1i : (d : Int) < 128 := by omega
             have DB : Hid (Utf8.decode s pos = (65533, 1)) := Lib.hid (DM.out.2 fun D => by have := (D.cont k hk1 hk).1; rw [DV.out] at this; omega)
             obtain rfl : false = va := by rw [← HV.out, VS.out, if_pos DB.out]
             go_wp2_with fail
             go_ret2
             exact ⟨HB.out, rfl⟩
           · have d1i : ¬ (d : Int) < 128 := by omega
             by_cases d2 : 192 ≤ d
             · have d2i : (192 : Int) ≤ (d : Int) := by omega
               have DB : Hid (Utf8.decode s pos = (65533, 1)) := Lib.hid (DM.out.2 fun D => by have := (D.cont k hk1 hk).2; rw [DV.out] at this; omega)
               obtain rfl : false = va := by rw [← HV.out, VS.out, if_pos DB.out]
               go_wp2_with fail
               go_ret2
               exact ⟨HB.out, rfl⟩
             · have d2i : ¬ (192 : Int) ≤ (d : Int) := by omega
               have hw3 : IntKind.i64.wrap (64 * (q : Int)) = 64 * (q : Int) := i64s (by omega) (by omega)
               have hw4 : IntKind.i64.wrap (64 * (q : Int) + (d : Int)) = 64 * (q : Int) + (d : Int) := i64s (by omega) (by omega)
               have hw5 : IntKind.i64.wrap (64 * (q : Int) + (d : Int) - 128) = 64 * (q : Int) + (d : Int) - 128 := i64s (by omega) (by omega)
               have HC2 : Hid (∀ j, 1 ≤ j → j < k + 1 → Cont s pos j) := Lib.hid (fun j j1 j2 => by
                by_cases h : j < k
                · exact HC.out j j1 h
                · rw [show j = k by omega]; unfold Cont; rw [DV.out]; omega)
               go_wp2_with fail
               go_roundw
               case rel => exact ⟨k + 1, by omega, by omega, by go_num, by rw [EA.out]; congr 1; omega, HC2, by trivial⟩
               case measure => simp [intOf]; omega
         · have hkk : k = 3 := by omega
           have hki : ¬ (k : Int) < 3 := by omega
           obtain ⟨q, hq⟩ : ∃ q, accN s pos (b - 224) (k - 1) = q := ⟨_, rfl⟩
           have QV : Hid (accN s pos (b - 224) (3 - 1) = q) := Lib.hid (by rw [← hq, hkk])
           have CV : Hid (∀ j, 1 ≤ j → j < 3 → Cont s pos j) := Lib.hid (by rw [← hkk]; exact HC.out)
           rw [hq]
           clear hq HC hkk
           by_cases g1 : q < 2048
           · have g1i : (q : Int) < 2048 := by omega
             have DB : Hid (Utf8.decode s pos = (65533, 1)) := Lib.hid (DM.out.2 fun D => by have := D.lo; rw [QV.out] at this; omega)
             obtain rfl : false = va := by rw [← HV.out, VS.out, if_pos DB.out]
             go_wp2_with fail
             go_ret2
             exact ⟨HB.out, rfl⟩
           have g1i : ¬ (q : Int) < 2048 := by omega
           by_cases g2 : 1114111 < q
           · have g2i : (1114111 : Int) < (q : Int) := by omega
             have DB : Hid (Utf8.decode s pos = (65533, 1)) := Lib.hid (DM.out.2 fun D => by have := D.hi; rw [QV.out] at this; omega)
             obtain rfl : false = va := by rw [← HV.out, VS.out, if_pos DB.out]
             go_wp2_with fail
             go_ret2
             exact ⟨HB.out, rfl⟩
           have g2i : ¬ (1114111 : Int) < (q : Int) := by omega
           by_cases g3 : 55296 ≤ q ∧ q ≤ 57343
           · have g3i : (55296 : Int) ≤ (q : Int) := by omega
             have g3j : (q : Int) ≤ 57343 := by omega
             have DB : Hid (Utf8.decode s pos = (65533, 1)) := Lib.hid (DM.out.2 fun D => by have := D.su; rw [QV.out] at this; exact this g3)
             obtain rfl : false = va := by rw [← HV.out, VS.out, if_pos DB.out]
             go_wp2_with fail
             go_ret2
             exact ⟨HB.out, rfl⟩
           have DE : Hid (Utf8.decode s pos = (q, 3)) := Lib.hid (by rw [← QV.out]; exact DM.out.1 ⟨by omega, CV.out, by rw [QV.out]; omega, by rw [QV.out]; omega, by rw [QV.out]; exact g3⟩)
           have HV6 : Hid (Lib.validD (s.data.toList.drop (pos + 3)) = va) := Lib.hid (by rw [← HV.out, VS.out, DE.out, if_neg (by intro h; have := congrArg Prod.snd h; simp at this)])
           have HA6 : Hid ((L ++ [q]).all okC = true ↔ ∀ i, i < pos + 3 → goodB (s.get! i) = true) := Lib.hid (good_up HA.out (by
            constructor
            · intro _ i h1 h2
              by_cases h : i = pos
              · rw [h]; exact good_high (by rw [BV.out]; omega)
              · have := (CV.out (i - pos) (by omega) (by omega)).1
                rw [show pos + (i - pos) = i by omega] at this
                exact good_high this
            · intro _
              unfold okC
              rw [decide_eq_true (by omega), decide_eq_true (by omega)]
              rfl))
           by_cases g4 : 55296 ≤ q
           · have g4i : (55296 : Int) ≤ (q : Int) := by omega
             have g5i : ¬ (q : Int) ≤ 57343 := by omega
             go_wp2_with (at_builtin; go_must (refine wpList_app rfl _ _ 142 142 rfl w.heap.size 3 _ 1 8 IT.out (.slice so L.length co) L.length (intsV L) rfl (HO.out.alloc _) _ 1 [.int .i64 (q : Int)] rfl ((CellsAt.new wr 3 (0, 0) [.int .i64 (q : Int)]).srcN rfl (by simp [Value.oneCell']) Tryd.underlying142 1 (by decide)) (by omega) (by omega) (by have := HWS.out; simp; omega) ?_); go_must (intro v6 w6 hown _ hbel _))
             have HO6 : Hid (w6.ownsRow w.heap.size 3 1 v6 (L ++ [q]).length (intsV (L ++ [q]))) := Lib.hid (by rw [List.length_append]; unfold intsV at hown ⊢; rw [List.map_append]; exact hown)
             have HB6 := Lib.hid ((HB.out.alloc HWS.out _).trans hbel)
             clear hown hbel
             go_wp2_with fail
             go_roundw
             case rel => exact ⟨pos + 3, L ++ [q], by omega, by go_num, HO6, Lib.hid (by rw [List.length_append]; have := HLL.out; simp; omega), HA6, HV6, HB6⟩
             case measure => simp [intOf]; omega
           · have g4i : ¬ (55296 : Int) ≤ (q : Int) := by omega
             go_wp2_with (at_builtin; go_must (refine wpList_app rfl _ _ 142 142 rfl w.heap.size 3 _ 1 8 IT.out (.slice so L.length co) L.length (intsV L) rfl (HO.out.alloc _) _ 1 [.int .i64 (q : Int)] rfl ((CellsAt.new wr 3 (0, 0) [.int .i64 (q : Int)]).srcN rfl (by simp [Value.oneCell']) Tryd.underlying142 1 (by decide)) (by omega) (by omega) (by have := HWS.out; simp; omega) ?_); go_must (intro v6 w6 hown _ hbel _))
             have HO6 : Hid (w6.ownsRow w.heap.size 3 1 v6 (L ++ [q]).length (intsV (L ++ [q]))) := Lib.hid (by rw [List.length_append]; unfold intsV at hown ⊢; rw [List.map_append]; exact hown)
             have HB6 := Lib.hid ((HB.out.alloc HWS.out _).trans hbel)
             clear hown hbel
             go_wp2_with fail
             go_roundw
             case rel => exact ⟨pos + 3, L ++ [q], by omega, by go_num, HO6, Lib.hid (by rw [List.length_append]; have := HLL.out; simp; omega), HA6, HV6, HB6⟩
             case measure => simp [intOf]; omega
      have c3i : ¬ (b : Int) < 240 := by omega
      have c3j : (240 : Int) ≤ (b : Int) := by omega
      by_cases c4 : b < 248
      · have c4i : (b : Int) < 248 := by omega
        have DM := Lib.hid (dec_multi s pos 4 (b - 240) 65536 (by rw [BV.out]; unfold Cls; omega))
        have hw0 : IntKind.i64.wrap ((b : Int) - 240) = (b : Int) - 240 := i64s (by omega) (by omega)
        have hw1 : IntKind.i64.wrap ((pos : Int) + 4) = (pos : Int) + 4 := i64s (by omega) (by omega)
        have ix := IX.out
        by_cases hn : s.size < pos + 4
        · have hni : (s.size : Int) < (pos : Int) + 4 := by omega
          have DB : Hid (Utf8.decode s pos = (65533, 1)) := Lib.hid (DM.out.2 fun d => by have := d.len; omega)
          obtain rfl : false = va := by rw [← HV.out, VS.out, if_pos DB.out]
          go_wp2_with fail
          go_ret2
          exact ⟨HB.out, rfl⟩
        have hni : ¬ (s.size : Int) < (pos : Int) + 4 := by omega
        go_wp2_with fail
        clear ix
        go_loopw [6, 9] (fun cv kv wX => ∃ k : Nat, 1 ≤ k ∧ k ≤ 4 ∧ kv = .int .i64 (k : Int) ∧ cv = .int .i64 ((accN s pos (b - 240) (k - 1) : Nat) : Int) ∧ Hid (∀ j, 1 ≤ j → j < k → Cont s pos j) ∧ wX = wr) (fun _ kv _ => 4 - (intOf kv).toNat)
        case atStart => exact ⟨1, by omega, by omega, rfl, by show _ = Value.int .i64 ((b - 240 : Nat) : Int); congr 1; omega, Lib.hid (fun j h1 h2 => by omega), rfl⟩
        case round =>
         obtain ⟨k, hk1, hkn, rfl, rfl, HC, rfl⟩ := hrel
         by_cases hk : k < 4
         · have hki : (k : Int) < 4 := by omega
           have IK0 := fun W => idx_str s (pos + k) ((pos : Int) + (k : Int)) (by omega) (by omega) W
           obtain ⟨d, hd⟩ : ∃ d, (s.get! (pos + k)).toNat = d := ⟨_, rfl⟩
           rw [hd] at IK0
           have hd256 : d < 256 := by rw [← hd]; exact u8_lt s _
           have DV := Lib.hid hd
           have EA : Hid (accN s pos (b - 240) (k + 1 - 1) = 64 * accN s pos (b - 240) (k - 1) + d - 128) := Lib.hid (by
            obtain ⟨m, rfl⟩ : ∃ m, k = m + 1 := ⟨k - 1, by omega⟩
            rw [← hd]
            rfl)
           have HSM : accN s pos (b - 240) (k - 1) ≤ 10000000 := accN_sm _ _ _ _ (by omega) (by omega)
           generalize accN s pos (b - 240) (k - 1) = q at *
           clear hd
           have hw2 : IntKind.i64.wrap ((pos : Int) + (k : Int)) = (pos : Int) + (k : Int) := i64s (by omega) (by omega)
           by_cases d1 : d < 128
           · have d1i : (d : Int) < 128 := by omega
             have DB : Hid (Utf8.decode s pos = (65533, 1)) := Lib.hid (DM.out.2 fun D => by have := (D.cont k hk1 hk).1; rw [DV.out] at this; omega)
             obtain rfl : false = va := by rw [← HV.out, VS.out, if_pos DB.out]
             go_wp2_with fail
             go_ret2
             exact ⟨HB.out, rfl⟩
           · have d1i : ¬ (d : Int) < 128 := by omega
             by_cases d2 : 192 ≤ d
             · have d2i : (192 : Int) ≤ (d : Int) := by omega
               have DB : Hid (Utf8.decode s pos = (65533, 1)) := Lib.hid (DM.out.2 fun D => by have := (D.cont k hk1 hk).2; rw [DV.out] at this; omega)
               obtain rfl : false = va := by rw [← HV.out, VS.out, if_pos DB.out]
               go_wp2_with fail
               go_ret2
               exact ⟨HB.out, rfl⟩
             · have d2i : ¬ (192 : Int) ≤ (d : Int) := by omega
               have hw3 : IntKind.i64.wrap (64 * (q : Int)) = 64 * (q : Int) := i64s (by omega) (by omega)
               have hw4 : IntKind.i64.wrap (64 * (q : Int) + (d : Int)) = 64 * (q : Int) + (d : Int) := i64s (by omega) (by omega)
               have hw5 : IntKind.i64.wrap (64 * (q : Int) + (d : Int) - 128) = 64 * (q : Int) + (d : Int) - 128 := i64s (by omega) (by omega)
               have HC2 : Hid (∀ j, 1 ≤ j → j < k + 1 → Cont s pos j) := Lib.hid (fun j j1 j2 => by
                by_cases h : j < k
                · exact HC.out j j1 h
                · rw [show j = k by omega]; unfold Cont; rw [DV.out]; omega)
               go_wp2_with fail
               go_roundw
               case rel => exact ⟨k + 1, by omega, by omega, by go_num, by rw [EA.out]; congr 1; omega, HC2, by trivial⟩
               case measure => simp [intOf]; omega
         · have hkk : k = 4 := by omega
           have hki : ¬ (k : Int) < 4 := by omega
           obtain ⟨q, hq⟩ : ∃ q, accN s pos (b - 240) (k - 1) = q := ⟨_, rfl⟩
           have QV : Hid (accN s pos (b - 240) (4 - 1) = q) := Lib.hid (by rw [← hq, hkk])
           have CV : Hid (∀ j, 1 ≤ j → j < 4 → Cont s pos j) := Lib.hid (by rw [← hkk]; exact HC.out)
           rw [hq]
           clear hq HC hkk
           by_cases g1 : q < 65536
           · have g1i : (q : Int) < 65536 := by omega
             have DB : Hid (Utf8.decode s pos = (65533, 1)) := Lib.hid (DM.out.2 fun D => by have := D.lo; rw [QV.out] at this; omega)
             obtain rfl : false = va := by rw [← HV.out, VS.out, if_pos DB.out]
             go_wp2_with fail
             go_ret2
             exact ⟨HB.out, rfl⟩
           have g1i : ¬ (q : Int) < 65536 := by omega
           by_cases g2 : 1114111 < q
           · have g2i : (1114111 : Int) < (q : Int) := by omega
             have DB : Hid (Utf8.decode s pos = (65533, 1)) := Lib.hid (DM.out.2 fun D => by have := D.hi; rw [QV.out] at this; omega)
             obtain rfl : false = va := by rw [← HV.out, VS.out, if_pos DB.out]
             go_wp2_with fail
             go_ret2
             exact ⟨HB.out, rfl⟩
           have g2i : ¬ (1114111 : Int) < (q : Int) := by omega
           by_cases g3 : 55296 ≤ q ∧ q ≤ 57343
           · have g3i : (55296 : Int) ≤ (q : Int) := by omega
             have g3j : (q : Int) ≤ 57343 := by omega
             have DB : Hid (Utf8.decode s pos = (65533, 1)) := Lib.hid (DM.out.2 fun D => by have := D.su; rw [QV.out] at this; exact this g3)
             obtain rfl : false = va := by rw [← HV.out, VS.out, if_pos DB.out]
             go_wp2_with fail
             go_ret2
             exact ⟨HB.out, rfl⟩
           have DE : Hid (Utf8.decode s pos = (q, 4)) := Lib.hid (by rw [← QV.out]; exact DM.out.1 ⟨by omega, CV.out, by rw [QV.out]; omega, by rw [QV.out]; omega, by rw [QV.out]; exact g3⟩)
           have HV6 : Hid (Lib.validD (s.data.toList.drop (pos + 4)) = va) := Lib.hid (by rw [← HV.out, VS.out, DE.out, if_neg (by intro h; have := congrArg Prod.snd h; simp at this)])
           have HA6 : Hid ((L ++ [q]).all okC = true ↔ ∀ i, i < pos + 4 → goodB (s.get! i) = true) := Lib.hid (good_up HA.out (by
            constructor
            · intro _ i h1 h2
              by_cases h : i = pos
              · rw [h]; exact good_high (by rw [BV.out]; omega)
              · have := (CV.out (i - pos) (by omega) (by omega)).1
                rw [show pos + (i - pos) = i by omega] at this
                exact good_high this
            · intro _
              unfold okC
              rw [decide_eq_true (by omega), decide_eq_true (by omega)]
              rfl))
           have g4i : (55296 : Int) ≤ (q : Int) := by omega
           have g5i : ¬ (q : Int) ≤ 57343 := by omega
           go_wp2_with (at_builtin; go_must (refine wpList_app rfl _ _ 142 142 rfl w.heap.size 3 _ 1 8 IT.out (.slice so L.length co) L.length (intsV L) rfl (HO.out.alloc _) _ 1 [.int .i64 (q : Int)] rfl ((CellsAt.new wr 3 (0, 0) [.int .i64 (q : Int)]).srcN rfl (by simp [Value.oneCell']) Tryd.underlying142 1 (by decide)) (by omega) (by omega) (by have := HWS.out; simp; omega) ?_); go_must (intro v6 w6 hown _ hbel _))
           have HO6 : Hid (w6.ownsRow w.heap.size 3 1 v6 (L ++ [q]).length (intsV (L ++ [q]))) := Lib.hid (by rw [List.length_append]; unfold intsV at hown ⊢; rw [List.map_append]; exact hown)
           have HB6 := Lib.hid ((HB.out.alloc HWS.out _).trans hbel)
           clear hown hbel
           go_wp2_with fail
           go_roundw
           case rel => exact ⟨pos + 4, L ++ [q], by omega, by go_num, HO6, Lib.hid (by rw [List.length_append]; have := HLL.out; simp; omega), HA6, HV6, HB6⟩
           case measure => simp [intOf]; omega
      have c4i : ¬ (b : Int) < 248 := by omega
      have DB : Hid (Utf8.decode s pos = (65533, 1)) := Lib.hid (dec_bad s pos (by rw [BV.out]; omega) (by rw [BV.out]; omega))
      have ix := IX.out
      obtain rfl : false = va := by rw [← HV.out, VS.out, if_pos DB.out]
      go_wp2_with fail
      go_ret2
      exact ⟨HB.out, rfl⟩
  · obtain rfl : pos = s.size := by omega
    obtain rfl : true = va := by rw [← HV.out]; exact (valid_end s).symm
    have hns : L.length ≤ 1000 := by have := HLL.out; have := HS.out; omega
    have CO : Hid (CellsAt wr so (intsV L)) := Lib.hid (CellsAt.ownN HO.out)
    have FA : Hid (L.all okC = allG s) := Lib.hid (by rw [Bool.eq_iff_iff, HA.out, allG_iff])
    go_wp2_with fail
    go_ret2
    exact ⟨HB.out, L, so, L.length, ⟨co, rfl⟩, rfl, hns, CO.out, FA.out⟩
end Go.Proofs.YtjlliohjeiclaaaDoor
namespace Go.Proofs.YtjlliohjeiclaaaDoor
namespace Ku
open Go.Op (bytesLess)
open St
def pathG (l : List ByteArray) : Bool := decide (l.length ≤ 6) && l.all keyG
theorem cmpB_eq : ∀ (l m : List UInt8), Lib.compareBytes l m = if bytesLess l m = true then -1 else if bytesLess m l = true then 1 else 0
 | [], [] => by simp [Lib.compareBytes, bytesLess]
 | [], _ :: _ => by simp [Lib.compareBytes, bytesLess]
 | _ :: _, [] => by simp [Lib.compareBytes, bytesLess]
 | a :: la, b :: lb => by
  have ih := cmpB_eq la lb
  unfold Lib.compareBytes
  by_cases h1 : a < b
  · rw [if_pos h1]; simp [bytesLess, h1]
  · rw [if_neg h1]
    by_cases h2 : b < a
    · rw [if_pos h2]
      have h3 : ¬ a = b := fun e => by rw [e] at h2; exact absurd h2 (by rw [UInt8.lt_iff_toNat_lt]; omega)
      simp [bytesLess, h1, h2, h3]
    · rw [if_neg h2]
      have h3 : a = b := by
       have n1 : ¬ a.toNat < b.toNat := fun h => h1 (UInt8.lt_iff_toNat_lt.2 h)
       have n2 : ¬ b.toNat < a.toNat := fun h => h2 (UInt8.lt_iff_toNat_lt.2 h)
       exact UInt8.toNat_inj.1 (by omega)
      subst h3
      rw [ih]
      simp [bytesLess, h1]
theorem cmpB_txt (a b : ByteArray) : Lib.compareBytes a.data.toList b.data.toList = txtC a b := by
 rw [cmpB_eq]
 unfold txtC Pm.klt
 rw [ByteArray.toList_eq, ByteArray.toList_eq]
end Ku
end Go.Proofs.YtjlliohjeiclaaaDoor
namespace Go.Proofs.YtjlliohjeiclaaaDoor
open Go.RowKit Ku St
theorem ints_get {w : World} {a : Option Addr} {l : List Nat} (h : CellsAt w a (intsV l)) (k : Nat) (hk : k < l.length) : ∃ b off, a = some ⟨b, off, none⟩ ∧ w.cell? ⟨b, off + k, none⟩ = some (.int .i64 (l[k] : Int)) := h.get k _ (by simp [intsV, hk])
set_option maxRecDepth 100000 in
set_option maxHeartbeats 2000000 in
theorem ref5_Key (s : ByteArray) (w : World) : Calls Tryd.prog 63 #[.string s] w fun e w' => e = .returned (.bool (keyG s)) ∧ Below w.heap.size w w' := by
 obtain ⟨res, hres⟩ : ∃ r, keyG s = r := ⟨_, rfl⟩
 have R := Lib.hid hres
 rw [hres]
 clear hres
 go_enter Tryd.func63, Tryd.ntmps63
 by_cases h1 : s.size < 1
 · have h1i : (s.size : Int) < 1 := by omega
   obtain rfl : false = res := by rw [← R.out]; unfold keyG; rw [decide_eq_false (by omega)]; rfl
   go_wp2_with fail
   go_ret
   exact ⟨rfl, Below.refl _ _⟩
 have h1i : ¬ (s.size : Int) < 1 := by omega
 by_cases h2 : 64 < s.size
 · have h2i : (64 : Int) < (s.size : Int) := by omega
   obtain rfl : false = res := by rw [← R.out]; unfold keyG; rw [decide_eq_false (p := s.size ≤ 64) (by omega)]; simp
   go_wp2_with fail
   go_ret
   exact ⟨rfl, Below.refl _ _⟩
 have h2i : ¬ (64 : Int) < (s.size : Int) := by omega
 go_wp2_with fail
 refine (ref5_runes s w (by omega)).mono ?_
 rintro e w1 ⟨hb, hP⟩
 have HB := Lib.hid hb
 obtain ⟨L, a, n, c, ok, rfl, hn, hn2, hc, hr⟩ : ∃ (L : List Nat) (a : Option Addr) (n c : Nat) (ok : Bool), e = .returned (.tuple #[.slice a n c, .bool ok]) ∧ n = L.length ∧ n ≤ 1000 ∧ CellsAt w1 a (intsV L) ∧ (L.all okC && ok) = res := by
  rcases hP with ⟨h, rfl⟩ | ⟨h, L, a, n, c, rfl, hn, hn2, hc, hl⟩
  · exact ⟨[], none, 0, 0, false, rfl, rfl, by omega, CellsAt.nil _ _, by rw [← R.out]; unfold keyG; rw [h]; simp⟩
  · exact ⟨L, a, n, c, true, rfl, hn, hn2, hc, by rw [hl, ← R.out]; unfold keyG; rw [h, decide_eq_true (by omega), decide_eq_true (by omega)]; simp⟩
 have HN := Lib.hid hn
 have HC := Lib.hid hc
 have HR := Lib.hid hr
 clear hP hb hn hc hr R
 go_wp2_with fail
 go_loopw [5] (fun i wr => ∃ k : Nat, k ≤ n ∧ i = .int .i64 (k : Int) ∧ wr = w1 ∧ Hid ((L.take k).all okC = true)) (fun i _ => n - (intOf i).toNat)
 case atStart => exact ⟨0, Nat.zero_le _, rfl, rfl, Lib.hid (by simp)⟩
 case round =>
  obtain ⟨k, hk, rfl, rfl, HA⟩ := hrel
  by_cases hlt : k < n
  · have hk1 : k < L.length := by have := HN.out; omega
    obtain ⟨ba, oa, rfl, p0⟩ := ints_get HC.out k hk1
    have BAD : Hid (okC L[k] = false → res = false) := Lib.hid (fun h => by
     rw [← HR.out]
     cases hh : L.all okC with
     | false => rfl
     | true => rw [List.all_eq_true.1 hh _ (List.getElem_mem hk1)] at h; cases h)
    have NXT : Hid (okC L[k] = true → (L.take (k + 1)).all okC = true) := Lib.hid (fun h => by rw [List.take_succ_eq_append_getElem hk1, List.all_append, HA.out]; simp [h])
    generalize L[k] = x at *
    have hki : (k : Int) < (n : Int) := by omega
    by_cases g1 : x < 32
    · have g1i : (x : Int) < 32 := by omega
      obtain rfl : false = res := (BAD.out (by unfold okC; rw [decide_eq_false (by omega)]; rfl)).symm
      go_wp2_with fail
      go_ret
      exact ⟨rfl, HB.out⟩
    have g1i : ¬ (x : Int) < 32 := by omega
    by_cases g2 : x = 47
    · subst g2
      obtain rfl : false = res := (BAD.out (by decide)).symm
      go_wp2_with fail
      go_ret
      exact ⟨rfl, HB.out⟩
    have g2i : ((x : Int) == 47) = false := beq_eq_false_iff_ne.2 (by omega)
    have g3i : ¬ (x : Int) = 47 := by omega
    have H := Lib.hid (NXT.out (by unfold okC; rw [decide_eq_true (by omega), decide_eq_true g2]; rfl))
    go_wp2_with fail
    go_roundw
    case rel => exact ⟨k + 1, by omega, by go_num, by trivial, H⟩
    case measure => simp [intOf]; omega
  · obtain rfl : k = n := by omega
    obtain rfl : ok = res := by rw [← HR.out, ← show (L.take k).all okC = L.all okC by rw [HN.out, List.take_length], HA.out]; rfl
    go_wp2_with fail
    go_ret
    exact ⟨rfl, HB.out⟩
set_option maxRecDepth 100000 in
set_option maxHeartbeats 2000000 in
theorem key_Path (l : List ByteArray) (a : Option Addr) (n c : Nat) (w : World) (hl : CellsAt w a (txV l)) (hn : n = l.length) (hs : ∀ x ∈ l, x.size ≤ 9223372036854775807) (hG : Glob w) :
 Calls Tryd.prog 59 #[.slice a n c] w fun e w' => e = .returned (.bool (pathG l)) ∧ Below w.heap.size w w' := by
 have HL := Lib.hid hl
 have HN := Lib.hid hn
 have HS := Lib.hid hs
 have G := Lib.hid hG
 obtain ⟨res, hres⟩ : ∃ r, pathG l = r := ⟨_, rfl⟩
 have R := Lib.hid hres
 rw [hres]
 clear hl hn hs hG hres
 go_enter Tryd.func59, Tryd.ntmps59
 by_cases g6 : 6 < n
 · have g6i : (6 : Int) < (n : Int) := by omega
   obtain rfl : false = res := by rw [← R.out]; unfold pathG; rw [decide_eq_false (by rw [← HN.out]; omega)]; rfl
   go_wp2_with fail
   go_ret
   exact ⟨rfl, Below.refl _ _⟩
 have g6i : ¬ (6 : Int) < (n : Int) := by omega
 have R2 : Hid (l.all keyG = res) := Lib.hid (by rw [← R.out]; unfold pathG; rw [decide_eq_true (by rw [← HN.out]; omega)]; rfl)
 clear R
 go_wp2_with fail
 go_loopw [10] (fun i wr => ∃ k : Nat, k ≤ n ∧ i = .int .i64 (k : Int) ∧ Hid ((l.take k).all keyG = true) ∧ Hid (Below w.heap.size w wr)) (fun i _ => n - (intOf i).toNat)
 case atStart => exact ⟨0, Nat.zero_le _, rfl, Lib.hid (by simp), Lib.hid (Below.refl _ _)⟩
 case round =>
  obtain ⟨k, hk, rfl, HA, HB⟩ := hrel
  by_cases hlt : k < n
  · have hk1 : k < l.length := by have := HN.out; omega
    obtain ⟨ba, oa, rfl, p0⟩ := tx_get (HL.out.below HB.out rfl) k hk1
    have BAD : Hid (keyG l[k] = false → res = false) := Lib.hid (fun h => by
     rw [← R2.out]
     cases hh : l.all keyG with
     | false => rfl
     | true => rw [List.all_eq_true.1 hh _ (List.getElem_mem hk1)] at h; cases h)
    have NXT : Hid (keyG l[k] = true → (l.take (k + 1)).all keyG = true) := Lib.hid (fun h => by rw [List.take_succ_eq_append_getElem hk1, List.all_append, HA.out]; simp [h])
    have SX : Hid (l[k].size ≤ 9223372036854775807) := Lib.hid (HS.out _ (List.getElem_mem hk1))
    generalize l[k] = x at *
    have hki : (k : Int) < (n : Int) := by omega
    go_wp2_with fail
    refine (key_Key x _ SX.out (G.out.below HB.out)).mono ?_
    rintro e w1 ⟨rfl, hb⟩
    have HB1 := Lib.hid (HB.out.trans (hb.mono HB.out.size))
    clear hb p0
    obtain ⟨v, hv⟩ : ∃ q, keyG x = q := ⟨_, rfl⟩
    rw [hv] at BAD NXT ⊢
    clear hv
    cases v with
    | false =>
     obtain rfl : false = res := (BAD.out rfl).symm
     go_wp2_with fail
     go_ret
     exact ⟨rfl, HB1.out⟩
    | true =>
     have H := Lib.hid (NXT.out rfl)
     go_wp2_with fail
     go_roundw
     case rel => exact ⟨k + 1, by omega, by go_num, H, HB1⟩
     case measure => simp [intOf]; omega
  · obtain rfl : k = n := by omega
    obtain rfl : true = res := by rw [← R2.out]; have := HA.out; rw [HN.out, List.take_length] at this; exact this.symm
    go_wp2_with fail
    go_ret
    exact ⟨rfl, HB.out⟩
end Go.Proofs.YtjlliohjeiclaaaDoor
namespace Go.Proofs.YtjlliohjeiclaaaDoor
open Go.RowKit
theorem grown_of_below {w w' : World} (h : Below w.heap.size w w') (row : Option Nat) : w.grownBy w' row := ⟨h.os, h.tape, h.output, h.size, fun k hk _ => h.block k hk⟩
theorem ownFrom_to {β : Type} {B : Nat} {I : β → World → Prop} (h : OwnFrom B I) {s : β} {A A' : World} (hs : I s A) (hb : Below A.heap.size A A') : I s A' :=
 h s A A' none hs (grown_of_below hb none) (fun r e => by cases e)
variable {P : Program} {n : Nat}
end Go.Proofs.YtjlliohjeiclaaaDoor
namespace Go.Proofs.YtjlliohjeiclaaaDoor
open Go.RowKit
def Iter2 {α : Type} (n : Nat) (P : Program) (g : Nat) (lb : Array Value) (encs : α → Array Value) (Kp : World → World → Prop) (X : List α → α → World → Prop) (End : World → List α → World → World → Prop) (Sp : List α → Prop) (w : World) : Prop :=
 ∀ (l : Nat) (J Jx : List α → World → Prop) (W : World), Below w.heap.size w W → w.heap.size + 2 ≤ W.heap.size →
  OwnFrom W.heap.size J → OwnFrom W.heap.size Jx →
  (∀ pre x W1, J pre W1 → X pre x W1 → YieldAt Fence.wide (n - 1) P l (encs x) W1 fun e W' =>
   (e = .returned (.bool true) ∧ J (pre ++ [x]) W' ∧ Kp W1 W') ∨ (e = .returned (.bool false) ∧ Jx (pre ++ [x]) W' ∧ Kp W1 W')) →
  J [] W →
  CallsIn Fence.wide n P g (#[.func (.yield l) #[] #[]] ++ lb) W fun e W' => (∃ v, e = .returned v) ∧ ((∃ xs W2, J xs W2 ∧ End W xs W2 W') ∨ (∃ pre, Sp pre ∧ Jx pre W'))
def bodyPostR2 {α : Type} (B : Nat) (Kp : World → World → Prop) (I : List α → World → Prop) (Ix : Code → List α → World → Prop) (xs : List α) (W : World) : Exit → Act → World → Prop
 | .normal, _, W' => KeepsFrom B W W' ∧ Kp W W' ∧ I xs W'
 | .ret, _, W' => KeepsFrom B W W' ∧ Kp W W' ∧ Ix .ret xs W'
 | .exit id, _, W' => KeepsFrom B W W' ∧ Kp W W' ∧ Ix (.exit id) xs W'
 | .goto t, _, W' => KeepsFrom B W W' ∧ Kp W W' ∧ Ix (.goto t) xs W'
 | .panic _, _, _ => False
 | .outgrown, _, _ => False
variable {P : Program} {n : Nat}
theorem range_law2 {α : Type} {g : Operand} {ps : Array Tmp} {assign body : Code} {Q : Exit → Act → World → Prop} {a : Act} {w : World} {gf : Nat} {lb : Array Value}
 (hg : a.eval g = .func (.func gf) #[] lb) (eg : ∀ args w, (callFunc gf args).run P w = .ok (.enter gf args) w)
 {encs : α → Array Value} {Kp : World → World → Prop} {X : List α → α → World → Prop} {End : World → List α → World → World → Prop} {Sp : List α → Prop} (hseq : Iter2 (n - 1) P gf lb encs Kp X End Sp w)
 (h1 : 1 ≤ n) (hKt : ∀ {A B C : World}, Kp A B → Kp B C → Kp A C) (hKb : ∀ (W : World) (o o' : Obj), W.heap[w.heap.size + 1]? = some o → o.isCells = false → Kp W (W.putObj (w.heap.size + 1) o'))
 (hps : ∀ x, (encs x).size = ps.size) (hX : ∀ pre, OwnFrom w.heap.size (X pre)) (hEnd : ∀ W1, w.heap.size + 2 ≤ W1.heap.size → ∀ xs A B, End W1 xs A B → ∀ k o, k < w.heap.size + 2 → A.heap[k]? = some o → o.isCells = false → B.heap[k]? = some o)
 (I : List α → World → Prop) (Ix : Code → List α → World → Prop) (F : List α → World → Prop) (hI : OwnFrom w.heap.size I) (hIx : ∀ c, OwnFrom w.heap.size (Ix c)) (hF : OwnFrom w.heap.size F) (hIF : ∀ W1, w.heap.size + 2 ≤ W1.heap.size → ∀ xs A B, I xs A → End W1 xs A B → F xs B)
 (h0 : I [] w) (Y : List α → α → Act → World → Prop) (hY : ∀ x a', OwnFrom w.heap.size (fun pre => Y pre x a'))
 (hassign : ∀ (l : Nat) (pre : List α) (x : α) (W : World) (K : Act → World → Prop), I pre W → X pre x W → w.heap.size ≤ W.heap.size →
  (∀ a' W', KeepsFrom w.heap.size W W' → Kp W W' → w.heap.size ≤ W'.heap.size → Y pre x a' W' → K a' W') →
  assign.wpIn (Fence.wide.inRound l) (n - 1 - 1) P (Exit.then K (fun _ _ _ => False)) { tmps := (ps.zip (encs x)).foldl (fun t (p, v) => t.setIfInBounds p v) a.tmps, defers := [] } W)
 (hbody : ∀ (l : Nat) (pre : List α) (x : α) (a' : Act) (W : World), Y pre x a' W → w.heap.size ≤ W.heap.size → body.wpIn (Fence.wide.inRound l) (n - 1 - 1) P (bodyPostR2 w.heap.size Kp I Ix (pre ++ [x]) W) a' W)
 (hdone : ∀ (D : Nat) (xs : List α) (W : World), w.heap.size ≤ D → F xs W → W.heap[D]? = some (.deferred (some [])) → Q .normal { a with defers := { target := .collected D, args := #[] } :: a.defers } W)
 (hstop : ∀ (D : Nat) (c : Code) (pre : List α) (W : World), w.heap.size ≤ D → Sp pre → Ix c pre W → W.heap[D]? = some (.deferred (some [])) → c.wpIn Fence.wide n P Q { a with defers := { target := .collected D, args := #[] } :: a.defers } W) :
 (Code.rangeFunc g ps assign body).wpIn Fence.wide n P Q a w := by
 refine wpIn_rangeFunc fun fn hfn => ?_
 obtain ⟨rec, hrec⟩ : ∃ rec : LoopState → Option Code → Loop, rec = fun st pe => { state := st, pending := pe, fn, tmps := a.tmps, params := ps, assign, body, defers := w.heap.size } := ⟨_, rfl⟩
 obtain ⟨W1, hW1⟩ : ∃ W1, (w.alloc (.deferred (some []))).alloc (.loop (rec .ready none)) = W1 := ⟨_, rfl⟩
 have hb1 : Below w.heap.size w W1 := by
  rw [← hW1]; exact (below_new w _).alloc (by simp) _
 have hL1 : W1.heap[w.heap.size + 1]? = some (.loop (rec .ready none)) := by
  have h := World.alloc_heap_new (w.alloc (.deferred (some []))) (.loop (rec .ready none))
  rw [World.size_alloc, hW1] at h
  exact h
 have hK1 : W1.heap[w.heap.size]? = some (.deferred (some [])) := by
  rw [← hW1]; exact (Below.heap_alloc _ _ _ (by simp)).trans (World.alloc_heap_new w _)
 refine ⟨w.heap.size + 1, [{ target := .collected w.heap.size, args := #[] }], W1, { target := .fn (.func gf) lb, args := #[.func (.yield (w.heap.size + 1)) #[] #[]] }, W1, gf,
  #[.func (.yield (w.heap.size + 1)) #[] #[]] ++ lb, W1, ?_, ?_, ?_, ?_, fun _ => h1, ?_⟩
 · rw [← hW1, hrec]; exact run_enterLoop_outer _ _ _ _ _
 · simp only [resolve, hg]
   simp [go_sem]
 · intro f' _; trivial
 · simp [invoke, go_sem, eg]
 · have keepRec : ∀ {A B : World} {k : Nat} {o : Obj}, A.heap[k]? = some o → Below A.heap.size A B → B.heap[k]? = some o := fun hk hb => (hb.block _ (Array.getElem?_eq_some_iff.1 hk).1).trans hk
   have hsz1 : W1.heap.size = w.heap.size + 2 := by rw [← hW1]; simp
   have key : ∀ {A A' : World} {row : Option Nat}, A.grownBy A' row → (∀ r, row = some r → W1.heap.size ≤ r ∧ ∃ o : Obj, A.heap[r]? = some o ∧ o.isCells = false) → ∀ k o, A.heap[k]? = some o → k < W1.heap.size → A'.heap[k]? = some o := fun hg hr k o hk hlt => (hg.block k (Array.getElem?_eq_some_iff.1 hk).1 (fun e => by have := (hr k e.symm).1; omega)).trans hk
   have hJo : OwnFrom W1.heap.size (fun pre W => I pre W ∧ W.heap[w.heap.size + 1]? = some (.loop (rec .ready none)) ∧ W.heap[w.heap.size]? = some (.deferred (some []))) := by
    rintro s A A' row ⟨h1, h2, h3⟩ hg hr
    exact ⟨hI s A A' row h1 hg (fun r e => ⟨by have := (hr r e).1; omega, (hr r e).2⟩), key hg hr _ _ h2 (by omega), key hg hr _ _ h3 (by omega)⟩
   have hJxo : OwnFrom W1.heap.size (fun pre W => ∃ c, Ix c pre W ∧ W.heap[w.heap.size + 1]? = some (.loop (rec .done (some c))) ∧ W.heap[w.heap.size]? = some (.deferred (some []))) := by
    rintro s A A' row ⟨c, h1, h2, h3⟩ hg hr
    exact ⟨c, hIx c s A A' row h1 hg (fun r e => ⟨by have := (hr r e).1; omega, (hr r e).2⟩), key hg hr _ _ h2 (by omega), key hg hr _ _ h3 (by omega)⟩
   refine (hseq (w.heap.size + 1)
    (fun pre W => I pre W ∧ W.heap[w.heap.size + 1]? = some (.loop (rec .ready none)) ∧ W.heap[w.heap.size]? = some (.deferred (some [])))
    (fun pre W => ∃ c, Ix c pre W ∧ W.heap[w.heap.size + 1]? = some (.loop (rec .done (some c))) ∧ W.heap[w.heap.size]? = some (.deferred (some [])))
    W1 hb1 (by omega) hJo hJxo ?_ ⟨ownFrom_to hI h0 hb1, hL1, hK1⟩).mono ?_
   · rintro pre x W ⟨hi, hl, hk⟩ hx
     have hlt : w.heap.size + 1 < W.heap.size := (Array.getElem?_eq_some_iff.1 hl).1
     have hy := run_yield (P := P) (args := encs x) hl (by rw [hrec]; exact hps x)
     rw [hrec] at hy
     refine ⟨fn, _, assign, body, hy, roundIn_of_wpIn hfn (hassign _ pre x W _ hi hx (by omega) ?_)⟩
     intro a' Wa hkoa hkpa hsa hYa
     have hla := hkoa.same _ _ (by omega) hl rfl
     have hka := hkoa.same _ _ (by omega) hk rfl
     have hlta : w.heap.size + 1 < Wa.heap.size := (Array.getElem?_eq_some_iff.1 hla).1
     refine ⟨_, run_beginRound hla (by rw [hrec]), ?_⟩
     obtain ⟨W2, hW2⟩ : ∃ W2, Wa.putObj (w.heap.size + 1) (.loop { rec .ready none with state := .busy }) = W2 := ⟨_, rfl⟩
     have hl2 : W2.heap[w.heap.size + 1]? = some (.loop { rec .ready none with state := .busy }) := by rw [← hW2]; exact World.putObj_heap_same hlta
     have hk2 : W2.heap[w.heap.size]? = some (.deferred (some [])) := by rw [← hW2]; exact (World.putObj_heap_other (by omega)).trans hka
     have hw2 : Kp W W2 := by rw [← hW2]; exact hKt hkpa (hKb _ _ _ hla rfl)
     have hY2 : Y pre x a' W2 := by rw [← hW2]; exact (hY x a').putObj _ hYa (by omega) hla rfl
     have hs2 : w.heap.size ≤ W2.heap.size := by rw [← hW2, World.putObj_size]; omega
     rw [hW2]
     refine wpIn_mono (hbody _ pre x a' _ hY2 hs2) ?_
     have fin : ∀ (jump : Option Code) (W3 : World), KeepsFrom w.heap.size W2 W3 →
      (Instr.endRound (w.heap.size + 1) jump).run P W3 = .ok (.bool jump.isNone) (W3.putObj (w.heap.size + 1) (.loop (rec (if jump.isNone then .ready else .done) jump))) ∧
      W3.heap[w.heap.size + 1]? = some (.loop { rec .ready none with state := .busy }) ∧
      (W3.putObj (w.heap.size + 1) (.loop (rec (if jump.isNone then .ready else .done) jump))).heap[w.heap.size + 1]? = some (.loop (rec (if jump.isNone then .ready else .done) jump)) ∧
      (W3.putObj (w.heap.size + 1) (.loop (rec (if jump.isNone then .ready else .done) jump))).heap[w.heap.size]? = some (.deferred (some [])) := by
      intro jump W3 hk3
      have hl3 := hk3.same _ _ (by omega) hl2 rfl
      have h4 := run_endRound (P := P) jump hl3
      rw [hrec] at h4 ⊢
      rw [hrec] at hl3
      exact ⟨h4, hl3, World.putObj_heap_same (Array.getElem?_eq_some_iff.1 hl3).1, (World.putObj_heap_other (by omega)).trans (hk3.same _ _ (by omega) hk2 rfl)⟩
     rintro e a3 W3 hp
     cases e with
     | normal =>
      obtain ⟨hk3, hkp3, hi3⟩ := hp
      obtain ⟨hr, hl3, hl4, hk4⟩ := fin none W3 hk3
      exact ⟨_, _, hr, .inl ⟨rfl, ⟨hI.putObj _ hi3 (by omega) hl3 rfl, hl4, hk4⟩, hKt (hKt hw2 hkp3) (hKb _ _ _ hl3 rfl)⟩⟩
     | ret =>
      obtain ⟨hk3, hkp3, hi3⟩ := hp
      obtain ⟨hr, hl3, hl4, hk4⟩ := fin (some .ret) W3 hk3
      exact ⟨_, _, hr, .inr ⟨rfl, ⟨.ret, (hIx _).putObj _ hi3 (by omega) hl3 rfl, hl4, hk4⟩, hKt (hKt hw2 hkp3) (hKb _ _ _ hl3 rfl)⟩⟩
     | exit id =>
      obtain ⟨hk3, hkp3, hi3⟩ := hp
      obtain ⟨hr, hl3, hl4, hk4⟩ := fin (some (.exit id)) W3 hk3
      exact ⟨_, _, hr, .inr ⟨rfl, ⟨.exit id, (hIx _).putObj _ hi3 (by omega) hl3 rfl, hl4, hk4⟩, hKt (hKt hw2 hkp3) (hKb _ _ _ hl3 rfl)⟩⟩
     | goto t =>
      obtain ⟨hk3, hkp3, hi3⟩ := hp
      obtain ⟨hr, hl3, hl4, hk4⟩ := fin (some (.goto t)) W3 hk3
      exact ⟨_, _, hr, .inr ⟨rfl, ⟨.goto t, (hIx _).putObj _ hi3 (by omega) hl3 rfl, hl4, hk4⟩, hKt (hKt hw2 hkp3) (hKb _ _ _ hl3 rfl)⟩⟩
     | panic ch => exact hp.elim
     | outgrown => exact hp.elim
   · rintro e W2 ⟨⟨v, rfl⟩, (⟨xs, W3, ⟨hi, hl, hk⟩, he⟩ | ⟨pre, hSp, c, hi, hl, hk⟩)⟩
     · have ho := hEnd _ (by omega) _ _ _ he
       have hl3 := ho _ _ (by omega) hl rfl
       have hk3 := ho _ _ (by omega) hk rfl
       exact ⟨none, _, by have h4 := run_endLoop (P := P) hl3 (by rw [hrec]; simp); rw [hrec] at h4; exact h4, hdone _ xs _ (Nat.le_refl _) (hF.putObj _ (hIF _ (by omega) _ _ _ hi he) (by omega) hl3 rfl) ((World.putObj_heap_other (by omega)).trans hk3)⟩
     · exact ⟨some c, _, by have h4 := run_endLoop (P := P) hl (by rw [hrec]; simp); rw [hrec] at h4; exact h4, hstop _ c pre _ (Nat.le_refl _) hSp ((hIx c).putObj _ hi (by omega) hl rfl) ((World.putObj_heap_other (by omega)).trans hk)⟩
end Go.Proofs.YtjlliohjeiclaaaDoor
namespace Go.Proofs.YtjlliohjeiclaaaDoor
open Go.RowKit
section
variable {P : Program} {n : Nat} {md : Region.Mode} {ops : Array Oper} {Q : Exit → Act → World → Prop} {S : World → Prop}
def OnlyE (Q : Exit → Act → World → Prop) : Exit → Act → World → Prop
 | .normal, a, w => Q .normal a w
 | _, _, _ => False
theorem OnlyE.normal {a : Act} {w : World} (h : Q .normal a w) : OnlyE Q .normal a w := h
end
end Go.Proofs.YtjlliohjeiclaaaDoor
namespace Go.Proofs.YtjlliohjeiclaaaDoor
open Go.RowKit
structure KeepE (M : Nat) (S : Nat → Prop) (Ex : TypeId → Prop) (A B : World) : Prop where
 os : B.os = A.os
 tape : B.tape = A.tape
 output : B.output = A.output
 size : A.heap.size ≤ B.heap.size
 block : ∀ k, S k → B.heap[k]? = A.heap[k]?
 rest : ∀ k o, M ≤ k → A.heap[k]? = some o → (∀ c t fr, o = .cells c t fr → ¬ Ex t) → B.heap[k]? = some o
theorem KeepE.trans {M : Nat} {S : Nat → Prop} {Ex : TypeId → Prop} {A B C : World} (h : KeepE M S Ex A B) (k : KeepE M S Ex B C) : KeepE M S Ex A C :=
 ⟨k.os.trans h.os, k.tape.trans h.tape, k.output.trans h.output, Nat.le_trans h.size k.size, fun i hi => (k.block i hi).trans (h.block i hi), fun i o hi ho ht => k.rest i o hi (h.rest i o hi ho ht) ht⟩
theorem KeepE.below {M : Nat} {S : Nat → Prop} {Ex : TypeId → Prop} {A B : World} (h : Below A.heap.size A B) (hS : ∀ k, S k → k < A.heap.size) : KeepE M S Ex A B :=
 ⟨h.os, h.tape, h.output, h.size, fun k hk => h.block k (hS k hk), fun k o _ ho _ => (h.block k (Array.getElem?_eq_some_iff.1 ho).1).trans ho⟩
theorem KeepE.refl {M : Nat} {S : Nat → Prop} {Ex : TypeId → Prop} (A : World) : KeepE M S Ex A A := ⟨rfl, rfl, rfl, Nat.le_refl _, fun _ _ => rfl, fun _ _ _ h _ => h⟩
theorem KeepE.put {M : Nat} {S : Nat → Prop} {Ex : TypeId → Prop} (W : World) (l : Nat) (o : Obj) (hl : l < M) (hS : ∀ k, S k → k < l) : KeepE M S Ex W (W.putObj l o) :=
 ⟨rfl, rfl, rfl, by simp, fun i hi => World.putObj_heap_other (by have := hS i hi; omega), fun k o' hk ho _ => (World.putObj_heap_other (by omega)).trans ho⟩
theorem KeepE.setCell {M : Nat} {S : Nat → Prop} {Ex : TypeId → Prop} (W : World) (X i : Nat) (v : Value) (hX : X < M) (hS : ¬ S X) : KeepE M S Ex W (W.setCell ⟨X, i, none⟩ v) :=
 ⟨rfl, rfl, rfl, by simp [World.setCell], fun k hk => Below.heap_setCell _ _ _ _ (fun e => hS (show S X from (show k = X from e) ▸ hk)), fun k o hk ho _ => (Below.heap_setCell _ _ _ _ (by simp; omega)).trans ho⟩
end Go.Proofs.YtjlliohjeiclaaaDoor
namespace Go.Proofs.YtjlliohjeiclaaaDoor
open Go.RowKit
def Facts (H : List (Nat × Obj)) (W : World) : Prop := ∀ p ∈ H, W.heap[p.1]? = some p.2
theorem Facts.below {H : List (Nat × Obj)} {A B : World} (h : Facts H A) (hb : Below A.heap.size A B) : Facts H B := fun p hp => (hb.block _ (Array.getElem?_eq_some_iff.1 (h p hp)).1).trans (h p hp)
theorem Facts.lt {H : List (Nat × Obj)} {A : World} (h : Facts H A) : ∀ p ∈ H, p.1 < A.heap.size := fun p hp => (Array.getElem?_eq_some_iff.1 (h p hp)).1
theorem Facts.setCell {H : List (Nat × Obj)} {A : World} {c i : Nat} (h : Facts H A) (hc : ∀ p ∈ H, p.1 ≠ c) (v : Value) : Facts H (A.setCell ⟨c, i, none⟩ v) := fun p hp => (Below.heap_setCell _ _ _ _ (by simpa using hc p hp)).trans (h p hp)
theorem Facts.putObj {H : List (Nat × Obj)} {A : World} {c : Nat} (h : Facts H A) (hc : ∀ p ∈ H, p.1 ≠ c) (o : Obj) : Facts H (A.putObj c o) := fun p hp => (World.putObj_heap_other (fun e => hc p hp e)).trans (h p hp)
theorem Facts.cons {H : List (Nat × Obj)} {A : World} {b : Nat} {o : Obj} (h : Facts H A) (hb : A.heap[b]? = some o) : Facts ((b, o) :: H) A := fun p hp => by
 rcases List.mem_cons.1 hp with rfl | hp
 · exact hb
 · exact h p hp
theorem own_block {β : Type} {B k : Nat} {o : Obj} (hk : k < B) : OwnFrom B (fun (_ : β) W => W.heap[k]? = some o) := by
 rintro _ A A' row h hg hr
 exact (hg.block k (Array.getElem?_eq_some_iff.1 h).1 (fun e => by have := (hr k e.symm).1; omega)).trans h
def marks (Ds : List Nat) : List Deferred := Ds.map fun D => { target := .collected D, args := #[] }
def markF (Ds : List Nat) : List (Nat × Obj) := Ds.map fun D => (D, .deferred (some []))
theorem leaves_marks {F : Fence} {n : Nat} {P : Program} {fn : Func} {tmps : Array Value} {R : Ending → World → Prop} : ∀ (Ds : List Nat) (W : World), Ds.Nodup → Facts (markF Ds) W →
 (∀ W', W'.os = W.os → W'.tape = W.tape → W'.output = W.output → W'.heap.size = W.heap.size → (∀ k, k ∉ Ds → W'.heap[k]? = W.heap[k]?) → ∃ v, (results fn tmps).run P W' = .ok v W' ∧ R (.returned v) W') →
 LeavesInM F n P fn tmps R (marks Ds) .returning W
 | [], W, _, _, h => h W rfl rfl rfl rfl fun _ _ => rfl
 | D :: Ds, W, hnd, hf, h => by
  obtain ⟨h1, h2⟩ := List.nodup_cons.1 hnd
  refine ⟨by simp, .inl ⟨_, _, rfl, run_takeDeferred (hf (D, .deferred (some [])) (by simp [markF])), ?_⟩⟩
  refine leaves_marks Ds _ h2 (Facts.putObj (fun p hp => hf p (by simp only [markF, List.map_cons, List.mem_cons]; exact .inr hp)) (fun p hp e => ?_) _) ?_
  · obtain ⟨D', hD', rfl⟩ := List.mem_map.1 hp
    exact h1 (e ▸ hD')
  · intro W' e1 e2 e3 e4 e5
    refine h W' e1 e2 e3 (by rw [e4]; simp) fun k hk => ?_
    rw [e5 k (fun hm => hk (List.mem_cons_of_mem _ hm))]
    exact World.putObj_heap_other (fun e => hk (e ▸ List.mem_cons_self))
structure SameBut (c y : Nat) (A B : World) : Prop where
 os : B.os = A.os
 tape : B.tape = A.tape
 output : B.output = A.output
 size : A.heap.size ≤ B.heap.size
 block : ∀ k, k < y → k ≠ c → B.heap[k]? = A.heap[k]?
theorem SameBut.refl (c y : Nat) (A : World) : SameBut c y A A := ⟨rfl, rfl, rfl, Nat.le_refl _, fun _ _ _ => rfl⟩
theorem SameBut.trans {c y : Nat} {A B C : World} (h : SameBut c y A B) (k : SameBut c y B C) : SameBut c y A C :=
 ⟨k.os.trans h.os, k.tape.trans h.tape, k.output.trans h.output, Nat.le_trans h.size k.size, fun i h1 h2 => (k.block i h1 h2).trans (h.block i h1 h2)⟩
theorem SameBut.setCell {c y : Nat} {A B : World} (h : SameBut c y A B) (i : Nat) (v : Value) : SameBut c y A (B.setCell ⟨c, i, none⟩ v) :=
 ⟨h.os, h.tape, h.output, by simpa [World.setCell] using h.size, fun k h1 h2 => (Below.heap_setCell _ _ _ _ (by simpa using h2)).trans (h.block k h1 h2)⟩
theorem SameBut.own {β : Type} {c y B : Nat} {w : World} (hw : y ≤ w.heap.size) (hB : y ≤ B) : OwnFrom B (fun (_ : β) W => SameBut c y w W) := by
 rintro _ A A' row h hg hr
 exact ⟨hg.os.trans h.os, hg.tape.trans h.tape, hg.output.trans h.output, Nat.le_trans h.size hg.size, fun k h1 h2 => (hg.block k (by have := h.size; omega) (fun e => by have := (hr k e.symm).1; omega)).trans (h.block k h1 h2)⟩
def allocs (w : World) : List Obj → World
 | [] => w
 | o :: l => allocs (w.alloc o) l
theorem allocs_below : ∀ (l : List Obj) (w : World), Below w.heap.size w (allocs w l)
 | [], w => Below.refl _ _
 | o :: l, w => (below_new w o).trans ((allocs_below l (w.alloc o)).mono (by simp))
theorem allocs_get : ∀ (l : List Obj) (w : World) (i : Nat) (o : Obj), l[i]? = some o → (allocs w l).heap[w.heap.size + i]? = some o
 | [], w, i, o, h => by simp at h
 | o' :: l, w, 0, o, h => by
  simp at h
  subst h
  exact ((allocs_below l (w.alloc o')).block _ (by simp)).trans (heap_alloc_new w o')
 | o' :: l, w, i + 1, o, h => by
  have := allocs_get l (w.alloc o') i o (by simpa using h)
  rw [World.size_alloc] at this
  rw [show w.heap.size + (i + 1) = w.heap.size + 1 + i by omega]
  exact this
end Go.Proofs.YtjlliohjeiclaaaDoor
namespace Go.Proofs.YtjlliohjeiclaaaDoor
open Go.RowKit Ku St
set_option maxRecDepth 100000 in
set_option maxHeartbeats 2000000 in
theorem ref5_Path (l : List ByteArray) (a : Option Addr) (n c : Nat) (w : World) (hl : CellsAt w a (txV l)) (hn : n = l.length) :
 Calls Tryd.prog 62 #[.slice a n c] w fun e w' => e = .returned (.bool (pathG l)) ∧ Below w.heap.size w w' := by
 have HL := Lib.hid hl
 have HN := Lib.hid hn
 obtain ⟨res, hres⟩ : ∃ r, pathG l = r := ⟨_, rfl⟩
 have R := Lib.hid hres
 rw [hres]
 clear hl hn hres
 go_enter Tryd.func62, Tryd.ntmps62
 by_cases g6 : 6 < n
 · have g6i : (6 : Int) < (n : Int) := by omega
   obtain rfl : false = res := by rw [← R.out]; unfold pathG; rw [decide_eq_false (by rw [← HN.out]; omega)]; rfl
   go_wp2_with fail
   go_ret
   exact ⟨rfl, Below.refl _ _⟩
 have g6i : ¬ (6 : Int) < (n : Int) := by omega
 have R2 : Hid (l.all keyG = res) := Lib.hid (by rw [← R.out]; unfold pathG; rw [decide_eq_true (by rw [← HN.out]; omega)]; rfl)
 clear R
 go_wp2_with fail
 go_loopw [3] (fun i wr => ∃ k : Nat, k ≤ n ∧ i = .int .i64 (k : Int) ∧ Hid ((l.take k).all keyG = true) ∧ Hid (Below w.heap.size w wr)) (fun i _ => n - (intOf i).toNat)
 case atStart => exact ⟨0, Nat.zero_le _, rfl, Lib.hid (by simp), Lib.hid (Below.refl _ _)⟩
 case round =>
  obtain ⟨k, hk, rfl, HA, HB⟩ := hrel
  by_cases hlt : k < n
  · have hk1 : k < l.length := by have := HN.out; omega
    obtain ⟨ba, oa, rfl, p0⟩ := tx_get (HL.out.below HB.out rfl) k hk1
    have BAD : Hid (keyG l[k] = false → res = false) := Lib.hid (fun h => by
     rw [← R2.out]
     cases hh : l.all keyG with
     | false => rfl
     | true => rw [List.all_eq_true.1 hh _ (List.getElem_mem hk1)] at h; cases h)
    have NXT : Hid (keyG l[k] = true → (l.take (k + 1)).all keyG = true) := Lib.hid (fun h => by rw [List.take_succ_eq_append_getElem hk1, List.all_append, HA.out]; simp [h])
    generalize l[k] = x at *
    have hki : (k : Int) < (n : Int) := by omega
    go_wp2_with fail
    refine (ref5_Key x _).mono ?_
    rintro e w1 ⟨rfl, hb⟩
    have HB1 := Lib.hid (HB.out.trans (hb.mono HB.out.size))
    clear hb p0
    obtain ⟨v, hv⟩ : ∃ q, keyG x = q := ⟨_, rfl⟩
    rw [hv] at BAD NXT ⊢
    clear hv
    cases v with
    | false =>
     obtain rfl : false = res := (BAD.out rfl).symm
     go_wp2_with fail
     go_ret
     exact ⟨rfl, HB1.out⟩
    | true =>
     have H := Lib.hid (NXT.out rfl)
     go_wp2_with fail
     go_roundw
     case rel => exact ⟨k + 1, by omega, by go_num, H, HB1⟩
     case measure => simp [intOf]; omega
  · obtain rfl : k = n := by omega
    obtain rfl : true = res := by rw [← R2.out]; have := HA.out; rw [HN.out, List.take_length] at this; exact this.symm
    go_wp2_with fail
    go_ret
    exact ⟨rfl, HB.out⟩
structure Plc where
 l : List ByteArray
 k : Int
 x : ByteArray
 a : Option Addr
 n : Nat
 c : Nat
def Plc.v (p : Plc) : Value := .agg #[.slice p.a p.n p.c, .int .i64 p.k, .string p.x]
structure PlcAt (w : World) (p : Plc) : Prop where
 at_ : CellsAt w p.a (txV p.l)
 len : p.n = p.l.length
 le : p.n ≤ 9223372036854775807
 sz : ∀ x ∈ p.l, x.size ≤ 9223372036854775807
 sx : p.x.size ≤ 9223372036854775807
theorem PlcAt.below {w w' : World} {p : Plc} (h : PlcAt w p) (hb : Below w.heap.size w w') : PlcAt w' p := ⟨h.at_.below hb rfl, h.len, h.le, h.sz, h.sx⟩
end Go.Proofs.YtjlliohjeiclaaaDoor
