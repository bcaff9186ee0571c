/- Words, contracts and walks that the proof stands on (KoC OpenC OpenK). -/
import Derived.Deep.DeepHandedRow
import Derived.Deep.DeepWitnessRowRef
import Derived.Deep.Grids
import Derived.Deep.Slices
import Derived.Lib.LaidIn
import Derived.Lib.LaidU8T
import Derived.OpenShut
import Derived.ProofKit
import Derived.Shelf.Vars
import Derived.SliceStrings
import Derived.Test.YtjlliohjeiclaaaDoorCards
import Derived.Test.YtjlliohjeiclaaaDoorKB10
import Derived.Test.YtjlliohjeiclaaaDoorKB2
import Derived.Test.YtjlliohjeiclaaaDoorKB3
import Derived.Test.YtjlliohjeiclaaaDoorKB8
import Derived.Test.YtjlliohjeiclaaaDoorTie
namespace Go.Proofs.YtjlliohjeiclaaaDoor
open Go.RowKit St Pm Ku Kn
namespace Kn
theorem three_len (base A B : List Ev) : (threeG base A B).length ≤ A.length + B.length := by
 unfold threeG
 rw [List.length_map]
 have := elsF_length (base.map toE) (A.map toE) (B.map toE) _ (A.map toE) (B.map toE) (Nat.le_refl _)
 simpa using this
def Few (l : List Ev) : Prop := l.length ≤ 200 ∧ ∀ e ∈ l, e.1.l.size ≤ 9223372036854775807
theorem few_mk {v : Vl} {lab : ByteArray} {g : Int} {X : List Opv} (hv : v.ok = true) (hm : IntKind.i64.wrap v.m = v.m) (hl : v.l.length ≤ 100) (hz : ∀ e ∈ v.l, e.1.l.size ≤ 9223372036854775807) (hlab : lab.size ≤ 9223372036854775807) (i : Nat) (hi : i ≤ 40) : (doneG lab g X v i).l.length ≤ v.l.length + 40 ∧ Few (doneG lab g X v i).l := by
 obtain ⟨_, _, _, h4, h5⟩ := done_ok lab g X hv hm i
 refine ⟨by omega, by omega, fun e he => ?_⟩
 rcases h5 e he with h | h
 · exact hz e h
 · rw [h]; exact hlab
theorem three_few {base A B : List Ev} (hb : Right base) (hA : Right A) (hB : Right B) (fA : Few A) (fB : Few B) : (threeG base A B).length ≤ 400 ∧ ∀ e ∈ threeG base A B, e.1.l.size ≤ 9223372036854775807 := by
 refine ⟨by have := three_len base A B; have := fA.1; have := fB.1; omega, fun e he => ?_⟩
 have := ((three_mem hb hA hB).2 e).1 he
 unfold pickG at this
 rcases List.mem_append.1 this with h | h
 · exact fA.2 e (List.mem_filter.1 h).1
 · exact fB.2 e (List.mem_filter.1 h).1
theorem threeO_ok {k mb ma m2 : Int} {lb la l2 : List Ev} (h1 : valG k mb lb = true) (h2 : valG k ma la = true) (h3 : valG k m2 l2 = true) : threeO k mb lb k ma la k m2 l2 = (k, IntKind.i64.wrap (IntKind.i64.wrap (ma + m2) - mb), threeG lb la l2, 0) := by
 unfold threeO
 rw [if_neg]
 rintro (h | h | h | h | h)
 · rw [h1] at h; cases h
 · rw [h2] at h; cases h
 · rw [h3] at h; cases h
 · exact h rfl
 · exact h rfl
theorem memG_no {l : List Ev} {x : Ev} (h : memG l x = false) : x ∉ l := fun h1 => by rw [memG_iff.2 h1] at h; cases h
end Kn
open Kn
theorem kn_numB (e : Int) (w : World) : Calls Tryd.prog 18 #[.int .i64 e] w fun r w' => r = .returned (.int .i64 e) ∧ Below w.heap.size w w' := (kn_numK e w).mono fun _ _ ⟨h1, h2⟩ => ⟨h1, by rw [h2]; exact Below.refl _ _⟩
theorem kn_SameT (k m : Int) (l : List Ev) (a1 : Option Addr) (n1 c1 : Nat) (a2 : Option Addr) (n2 c2 : Nat) (w : World) (hl1 : CellsAt w a1 (elsV l)) (hl2 : CellsAt w a2 (elsV l)) (hn1 : n1 = l.length) (hn2 : n2 = l.length) (hb : n1 ≤ 9223372036854775807) :
 Calls Tryd.prog 33 #[.agg #[.int .i64 k, .int .i64 m, .slice a1 n1 c1], .agg #[.int .i64 k, .int .i64 m, .slice a2 n2 c2]] w fun e w' => e = .returned (.bool true) ∧ Below w.heap.size w w' :=
 (kn_Same k m l a1 n1 c1 k m l a2 n2 c2 w hl1 hl2 hn1 hn2 hb).mono fun _ _ ⟨h1, h2⟩ => ⟨h1.trans (by simp [sameG]), h2⟩
set_option maxRecDepth 100000 in
set_option maxHeartbeats 8000000 in
theorem law_Together (k : Int) (xb xa xc : List Opc) (bA aA cA : Option Addr) (nb cb na ca nc cc : Nat) (w : World)
 (hb : CellsAt w bA (xb.flatMap opV)) (ha : CellsAt w aA (xa.flatMap opV)) (hc : CellsAt w cA (xc.flatMap opV)) (hnb : nb = xb.length) (hna : na = xa.length) (hnc : nc = xc.length)
 (ob : ∀ q ∈ xb, OpAt w q) (oa : ∀ q ∈ xa, OpAt w q) (oc : ∀ q ∈ xc, OpAt w q) (hG : Glob w) :
 Calls Tryd.prog 6 #[.agg #[.int .i64 k, .slice bA nb cb, .slice aA na ca, .slice cA nc cc]] w fun e w' => e = .returned (.bool true) ∧ Below w.heap.size w w' := by
 have XB := Lib.hid hb
 have XA := Lib.hid ha
 have XC := Lib.hid hc
 have NB := Lib.hid hnb
 have NA := Lib.hid hna
 have NC := Lib.hid hnc
 have OB := Lib.hid ob
 have OA := Lib.hid oa
 have OC := Lib.hid oc
 have G := Lib.hid hG
 clear hb ha hc hnb hna hnc ob oa oc hG
 have HC : Hid (Chain [w] w) := Lib.hid (Chain.one w)
 go_enter Tryd.func6, Tryd.ntmps6
 go_upto_region 1 with (fail)
 obtain ⟨z, hz⟩ : ∃ c, w.heap.size = c := ⟨_, rfl⟩
 try rw [hz]
 obtain ⟨w1, hw1⟩ : ∃ X, allocs w [.cells #[.int .i64 k, .slice bA nb cb, .slice aA na ca, .slice cA nc cc] 70] = X := ⟨_, rfl⟩
 rw [show w.alloc (.cells #[.int .i64 k, .slice bA nb cb, .slice aA na ca, .slice cA nc cc] 70) = w1 from hw1]
 have hb : Below w.heap.size w w1 := by rw [← hw1]; exact allocs_below _ _
 have HX : Hid (w1.heap[z]? = some (.cells #[.int .i64 k, .slice bA nb cb, .slice aA na ca, .slice cA nc cc] 70 (0, 0))) := Lib.hid (by have := allocs_get [.cells #[.int .i64 k, .slice bA nb cb, .slice aA na ca, .slice cA nc cc] 70] w 0 _ rfl; rw [hw1, hz] at this; exact this)
 have Sz : Hid (w.heap.size = z) := Lib.hid hz
 replace HC := Lib.hid (HC.out.push hb)
 clear hb hw1 hz
 go_wp2_with fail
 refine (known_09 _ (G.out.below (HC.out.to w (by simp)))).mono ?_
 rintro e w2 ⟨rfl, hb⟩
 replace HC := Lib.hid (HC.out.push hb)
 clear hb
 have kX0 := cell_of_row _ _ 0 _ _ _ (boxStays HX.out (HC.out.to w1 (by simp)))
 have kX1 := cell_of_row _ _ 1 _ _ _ (boxStays HX.out (HC.out.to w1 (by simp)))
 have kX2 := cell_of_row _ _ 2 _ _ _ (boxStays HX.out (HC.out.to w1 (by simp)))
 have kX3 := cell_of_row _ _ 3 _ _ _ (boxStays HX.out (HC.out.to w1 (by simp)))
 go_wp2_with fail
 refine (kn_Empty k _).mono ?_
 rintro e w3 ⟨rfl, hb⟩
 clear kX0 kX1 kX2 kX3
 replace HC := Lib.hid (HC.out.push hb)
 clear hb
 by_cases ht : thingG k = true
 case neg =>
  rw [if_neg ht, if_neg ht]
  go_upto_region 4 with (fail)
  obtain ⟨zv, hzv⟩ : ∃ c, w3.heap.size = c := ⟨_, rfl⟩
  try rw [hzv]
  obtain ⟨w4, hw4⟩ : ∃ X, allocs w3 [.cells #[.int .i64 0, .int .i64 0, .slice none 0 0] 49] = X := ⟨_, rfl⟩
  rw [show w3.alloc (.cells #[.int .i64 0, .int .i64 0, .slice none 0 0] 49) = w4 from hw4]
  have hb : Below w3.heap.size w3 w4 := by rw [← hw4]; exact allocs_below _ _
  have HV : Hid (w4.heap[zv]? = some (.cells #[.int .i64 0, .int .i64 0, .slice none 0 0] 49 (0, 0))) := Lib.hid (by have := allocs_get [.cells #[.int .i64 0, .int .i64 0, .slice none 0 0] 49] w3 0 _ rfl; rw [hw4, hzv] at this; exact this)
  have Szv : Hid (w3.heap.size = zv) := Lib.hid hzv
  replace HC := Lib.hid (HC.out.push hb)
  clear hb hw4 hzv
  go_wp2_with fail
  refine (kn_numB 2 _).mono ?_
  rintro e w5 ⟨rfl, hb⟩
  replace HC := Lib.hid (HC.out.push hb)
  clear hb
  have ht2 : k < 1 ∨ 5 < k := by
   by_cases h1 : k < 1
   · exact .inl h1
   · by_cases h2 : 5 < k
     · exact .inr h2
     · exact absurd (show thingG k = true by unfold thingG; simp; omega) ht
  have BW := Lib.hid (HC.out.to w (by simp))
  have kX0 := cell_of_row _ _ 0 _ _ _ (boxStays HX.out (HC.out.to w1 (by simp)))
  have kX1 := cell_of_row _ _ 1 _ _ _ (boxStays HX.out (HC.out.to w1 (by simp)))
  have kX2 := cell_of_row _ _ 2 _ _ _ (boxStays HX.out (HC.out.to w1 (by simp)))
  have kX3 := cell_of_row _ _ 3 _ _ _ (boxStays HX.out (HC.out.to w1 (by simp)))
  by_cases h1 : k < 1
  · have e1 : decide (k < 1) = true := decide_eq_true h1
    clear ht2
    go_wp2_with fail
    go_ret
    exact ⟨rfl, BW.out⟩
  · have h2 : 5 < k := by omega
    have e1 : decide (k < 1) = false := decide_eq_false h1
    have e2 : decide (5 < k) = true := decide_eq_true h2
    clear ht2
    go_wp2_with fail
    go_ret
    exact ⟨rfl, BW.out⟩
 rw [if_pos ht, if_pos ht]
 obtain ⟨v, hv⟩ : ∃ v, doneG baseS 1 (xb.map (·.o)) ⟨k, 0, []⟩ (min nb 40) = v := ⟨_, rfl⟩
 obtain ⟨va, hva⟩ : ∃ u, doneG aS 100 (xa.map (·.o)) v (min na 40) = u := ⟨_, rfl⟩
 obtain ⟨vb, hvb⟩ : ∃ u, doneG bS 100 (xc.map (·.o)) v (min nc 40) = u := ⟨_, rfl⟩
 have T : Tog v va vb := by rw [← hvb, ← hva, ← hv]; exact tog_mk ht _ _ _ _ _ _ _ _ _
 have h0 : (⟨k, 0, []⟩ : Vl).ok = true := val_iff.2 ⟨ht, fun _ => rfl, fun _ => ⟨rfl, fun x hx => (by cases hx), List.Pairwise.nil⟩⟩
 have vd := done_ok baseS 1 (xb.map (·.o)) h0 wrap0 (min nb 40)
 have vf := few_mk (lab := baseS) (g := 1) (X := xb.map (·.o)) h0 wrap0 (Nat.zero_le _) (fun e he => (by cases he)) (by decide) (min nb 40) (Nat.min_le_right _ _)
 rw [hv] at vd vf
 have vl : v.l.length ≤ 40 := by have := vf.1; simpa using this
 have af := (few_mk (lab := aS) (g := 100) (X := xa.map (·.o)) vd.1 vd.2.2.1 (by omega) vf.2.2 (by decide) (min na 40) (Nat.min_le_right _ _)).2
 have bf := (few_mk (lab := bS) (g := 100) (X := xc.map (·.o)) vd.1 vd.2.2.1 (by omega) vf.2.2 (by decide) (min nc 40) (Nat.min_le_right _ _)).2
 rw [hva] at af
 rw [hvb] at bf
 have D1 : Hid (∀ W, Below w.heap.size w W → Calls Tryd.prog 31 #[.agg #[.int .i64 k, .int .i64 0, .slice none 0 0], .slice bA nb cb, .int .i64 1, .string ⟨#[98, 97, 115, 101]⟩] W fun e w' => ∃ (a' : Option Addr) (n' c' : Nat), e = .returned (.tuple #[.agg #[.int .i64 v.k, .int .i64 v.m, .slice a' n' c'], .bool true]) ∧ CellsAt w' a' (elsV v.l) ∧ n' = v.l.length ∧ n' ≤ c' ∧ Below W.heap.size W w') := Lib.hid (fun W hW => by
  have := kn_done ⟨k, 0, []⟩ none 0 0 xb bA nb cb 1 baseS W h0 wrap0 (CellsAt.nil _ _) rfl (Nat.le_refl _) (Nat.zero_le _) (fun e he => (by cases he)) (XB.out.below hW rfl) NB.out (fun q hq => (OB.out q hq).below hW rfl) (by decide) (by decide) (by decide) (G.out.below hW)
  rw [hv] at this
  exact this)
 have D2 : Hid (∀ W ax nx cx, Below w.heap.size w W → CellsAt W ax (elsV v.l) → nx = v.l.length → nx ≤ cx → Calls Tryd.prog 31 #[.agg #[.int .i64 v.k, .int .i64 v.m, .slice ax nx cx], .slice aA na ca, .int .i64 100, .string ⟨#[97]⟩] W fun e w' => ∃ (a' : Option Addr) (n' c' : Nat), e = .returned (.tuple #[.agg #[.int .i64 va.k, .int .i64 va.m, .slice a' n' c'], .bool true]) ∧ CellsAt w' a' (elsV va.l) ∧ n' = va.l.length ∧ n' ≤ c' ∧ Below W.heap.size W w') := Lib.hid (fun W ax nx cx hW h1 h2 h3 => by
  have := kn_done v ax nx cx xa aA na ca 100 aS W vd.1 vd.2.2.1 h1 h2 h3 (by omega) vf.2.2 (XA.out.below hW rfl) NA.out (fun q hq => (OA.out q hq).below hW rfl) (by decide) (by decide) (by decide) (G.out.below hW)
  rw [hva] at this
  exact this)
 have D3 : Hid (∀ W ax nx cx, Below w.heap.size w W → CellsAt W ax (elsV v.l) → nx = v.l.length → nx ≤ cx → Calls Tryd.prog 31 #[.agg #[.int .i64 v.k, .int .i64 v.m, .slice ax nx cx], .slice cA nc cc, .int .i64 100, .string ⟨#[98]⟩] W fun e w' => ∃ (a' : Option Addr) (n' c' : Nat), e = .returned (.tuple #[.agg #[.int .i64 vb.k, .int .i64 vb.m, .slice a' n' c'], .bool true]) ∧ CellsAt w' a' (elsV vb.l) ∧ n' = vb.l.length ∧ n' ≤ c' ∧ Below W.heap.size W w') := Lib.hid (fun W ax nx cx hW h1 h2 h3 => by
  have := kn_done v ax nx cx xc cA nc cc 100 bS W vd.1 vd.2.2.1 h1 h2 h3 (by omega) vf.2.2 (XC.out.below hW rfl) NC.out (fun q hq => (OC.out q hq).below hW rfl) (by decide) (by decide) (by decide) (G.out.below hW)
  rw [hvb] at this
  exact this)
 have vw := vd.2.2.1
 have vf2 := vf.2
 clear hv hva hvb vd vf vl h0 XB XA XC NB NA NC OB OA OC
 obtain ⟨k0, m0, l0⟩ := v
 obtain ⟨ka, ma, la⟩ := va
 obtain ⟨kb, mb, lb⟩ := vb
 obtain rfl : k0 = ka := T.ka.symm
 obtain rfl : k0 = kb := T.kb.symm
 simp only at vw vf2 af bf D1 D2 D3
 have wa : IntKind.i64.wrap ma = ma := T.wa
 have wb : IntKind.i64.wrap mb = mb := T.wb
 have ok0 : valG k0 m0 l0 = true := T.ok
 have oka : valG k0 ma la = true := T.oka
 have okb : valG k0 mb lb = true := T.okb
 have ML3 := three_few (vl_right ok0) (vl_right oka) (vl_right okb) af bf
 obtain ⟨M, hM⟩ : ∃ x, IntKind.i64.wrap (IntKind.i64.wrap (ma + mb) - m0) = x := ⟨_, rfl⟩
 obtain ⟨ML, hML⟩ : ∃ x, threeG l0 la lb = x := ⟨_, rfl⟩
 have okm : valG k0 M ML = true := by rw [← hM, ← hML]; exact T.okm
 have KEEP : Hid (∀ y ∈ ML, y ∈ l0 → y ∈ la ∧ y ∈ lb) := Lib.hid (by rw [← hML]; exact T.keep)
 have NEW : Hid (∀ y ∈ la, y ∉ l0 → y ∈ ML) := Lib.hid (by rw [← hML]; exact T.new)
 have NUM : Hid (IntKind.i64.wrap (M - m0) = IntKind.i64.wrap (IntKind.i64.wrap (IntKind.i64.wrap (ma - m0) + mb) - m0)) := Lib.hid (by rw [← hM]; exact num_sum ma mb m0)
 rw [hML] at ML3
 have T1 : Hid (∀ (W : World) (a1 a2 a3 : Option Addr) (n1 n2 n3 c1 c2 c3 : Nat), CellsAt W a1 (elsV l0) → CellsAt W a2 (elsV la) → CellsAt W a3 (elsV lb) → n1 = l0.length → n2 = la.length → n3 = lb.length → Calls Tryd.prog 32 #[.agg #[.int .i64 k0, .int .i64 m0, .slice a1 n1 c1], .agg #[.int .i64 k0, .int .i64 ma, .slice a2 n2 c2], .agg #[.int .i64 k0, .int .i64 mb, .slice a3 n3 c3]] W fun e w' => ValOut W w' (k0, M, ML, 0) e) := Lib.hid (fun W a1 a2 a3 n1 n2 n3 c1 c2 c3 h1 h2 h3 e1 e2 e3 => by
  have := kn_Three k0 m0 l0 a1 n1 c1 k0 ma la a2 n2 c2 k0 mb lb a3 n3 c3 W h1 h2 h3 e1 e2 e3 (by have := vf2.1; omega) (by have := af.1; omega) (by have := bf.1; omega) vf2.2 af.2 bf.2
  rw [threeO_ok ok0 oka okb] at this
  rw [hM, hML] at this
  exact this)
 have T2 : Hid (∀ (W : World) (a1 a2 a3 : Option Addr) (n1 n2 n3 c1 c2 c3 : Nat), CellsAt W a1 (elsV l0) → CellsAt W a2 (elsV lb) → CellsAt W a3 (elsV la) → n1 = l0.length → n2 = lb.length → n3 = la.length → Calls Tryd.prog 32 #[.agg #[.int .i64 k0, .int .i64 m0, .slice a1 n1 c1], .agg #[.int .i64 k0, .int .i64 mb, .slice a2 n2 c2], .agg #[.int .i64 k0, .int .i64 ma, .slice a3 n3 c3]] W fun e w' => ValOut W w' (k0, M, ML, 0) e) := Lib.hid (fun W a1 a2 a3 n1 n2 n3 c1 c2 c3 h1 h2 h3 e1 e2 e3 => by
  have := kn_Three k0 m0 l0 a1 n1 c1 k0 mb lb a2 n2 c2 k0 ma la a3 n3 c3 W h1 h2 h3 e1 e2 e3 (by have := vf2.1; omega) (by have := bf.1; omega) (by have := af.1; omega) vf2.2 bf.2 af.2
  rw [threeO_ok ok0 okb oka] at this
  rw [Int.add_comm mb ma, hM, show threeG l0 lb la = ML from T.comm.trans hML] at this
  exact this)
 have T3 : Hid (∀ (W : World) (a1 a2 a3 : Option Addr) (n1 n2 n3 c1 c2 c3 : Nat), CellsAt W a1 (elsV l0) → CellsAt W a2 (elsV la) → CellsAt W a3 (elsV l0) → n1 = l0.length → n2 = la.length → n3 = l0.length → Calls Tryd.prog 32 #[.agg #[.int .i64 k0, .int .i64 m0, .slice a1 n1 c1], .agg #[.int .i64 k0, .int .i64 ma, .slice a2 n2 c2], .agg #[.int .i64 k0, .int .i64 m0, .slice a3 n3 c3]] W fun e w' => ValOut W w' (k0, ma, la, 0) e) := Lib.hid (fun W a1 a2 a3 n1 n2 n3 c1 c2 c3 h1 h2 h3 e1 e2 e3 => by
  have := kn_Three k0 m0 l0 a1 n1 c1 k0 ma la a2 n2 c2 k0 m0 l0 a3 n3 c3 W h1 h2 h3 e1 e2 e3 (by have := vf2.1; omega) (by have := af.1; omega) (by have := vf2.1; omega) vf2.2 af.2 vf2.2
  rw [threeO_ok ok0 oka ok0] at this
  rw [num_id wa, show threeG l0 la l0 = la from T.ida] at this
  exact this)
 have T4 : Hid (∀ (W : World) (a1 a2 a3 : Option Addr) (n1 n2 n3 c1 c2 c3 : Nat), CellsAt W a1 (elsV l0) → CellsAt W a2 (elsV l0) → CellsAt W a3 (elsV lb) → n1 = l0.length → n2 = l0.length → n3 = lb.length → Calls Tryd.prog 32 #[.agg #[.int .i64 k0, .int .i64 m0, .slice a1 n1 c1], .agg #[.int .i64 k0, .int .i64 m0, .slice a2 n2 c2], .agg #[.int .i64 k0, .int .i64 mb, .slice a3 n3 c3]] W fun e w' => ValOut W w' (k0, mb, lb, 0) e) := Lib.hid (fun W a1 a2 a3 n1 n2 n3 c1 c2 c3 h1 h2 h3 e1 e2 e3 => by
  have := kn_Three k0 m0 l0 a1 n1 c1 k0 m0 l0 a2 n2 c2 k0 mb lb a3 n3 c3 W h1 h2 h3 e1 e2 e3 (by have := vf2.1; omega) (by have := vf2.1; omega) (by have := bf.1; omega) vf2.2 vf2.2 bf.2
  rw [threeO_ok ok0 ok0 okb] at this
  rw [num_id2 wb, show threeG l0 l0 lb = lb from T.idb] at this
  exact this)
 have OKM := Lib.hid okm
 have MZ := Lib.hid ML3
 have AZ := Lib.hid af
 have BZ := Lib.hid vf2
 have BF := Lib.hid bf
 clear T hM hML okm ML3 af bf vf2 ok0 oka okb wa wb vw
 go_upto_region 4 with (fail)
 obtain ⟨zv, hzv⟩ : ∃ c, w3.heap.size = c := ⟨_, rfl⟩
 try rw [hzv]
 obtain ⟨w4, hw4⟩ : ∃ X, allocs w3 [.cells #[.int .i64 k, .int .i64 0, .slice none 0 0] 49] = X := ⟨_, rfl⟩
 rw [show w3.alloc (.cells #[.int .i64 k, .int .i64 0, .slice none 0 0] 49) = w4 from hw4]
 have hb : Below w3.heap.size w3 w4 := by rw [← hw4]; exact allocs_below _ _
 have HV : Hid (w4.heap[zv]? = some (.cells #[.int .i64 k, .int .i64 0, .slice none 0 0] 49 (0, 0))) := Lib.hid (by have := allocs_get [.cells #[.int .i64 k, .int .i64 0, .slice none 0 0] 49] w3 0 _ rfl; rw [hw4, hzv] at this; exact this)
 have Szv : Hid (w3.heap.size = zv) := Lib.hid hzv
 replace HC := Lib.hid (HC.out.push hb)
 clear hb hw4 hzv
 go_wp2_with fail
 refine (kn_numB 0 _).mono ?_
 rintro e w5 ⟨rfl, hb⟩
 replace HC := Lib.hid (HC.out.push hb)
 clear hb
 have kV0 := cell_of_row _ _ 0 _ _ _ (boxStays HV.out (HC.out.to w4 (by simp)))
 have kV1 := cell_of_row _ _ 1 _ _ _ (boxStays HV.out (HC.out.to w4 (by simp)))
 have kV2 := cell_of_row _ _ 2 _ _ _ (boxStays HV.out (HC.out.to w4 (by simp)))
 have kX0 := cell_of_row _ _ 0 _ _ _ (boxStays HX.out (HC.out.to w1 (by simp)))
 have kX1 := cell_of_row _ _ 1 _ _ _ (boxStays HX.out (HC.out.to w1 (by simp)))
 have kX2 := cell_of_row _ _ 2 _ _ _ (boxStays HX.out (HC.out.to w1 (by simp)))
 have kX3 := cell_of_row _ _ 3 _ _ _ (boxStays HX.out (HC.out.to w1 (by simp)))
 go_wp2_with fail
 refine (D1.out _ (HC.out.to w (by simp))).mono ?_
 rintro e w6 ⟨a1, n1, c1, rfl, h1, h2, h3, hb⟩
 clear kV0 kV1 kV2 kX0 kX1 kX2 kX3
 replace HC := Lib.hid (HC.out.push hb)
 clear hb
 have E1 := Lib.hid h1
 have N1 := Lib.hid (And.intro h2 h3)
 clear h1 h2 h3
 go_upto_region 7 with (fail)
 obtain ⟨zb, hzb⟩ : ∃ c, w6.heap.size = c := ⟨_, rfl⟩
 try rw [hzb]
 obtain ⟨w7, hw7⟩ : ∃ X, allocs w6 [.cells #[.int .i64 k0, .int .i64 m0, .slice a1 n1 c1] 49] = X := ⟨_, rfl⟩
 rw [show w6.alloc (.cells #[.int .i64 k0, .int .i64 m0, .slice a1 n1 c1] 49) = w7 from hw7]
 have hb : Below w6.heap.size w6 w7 := by rw [← hw7]; exact allocs_below _ _
 have HB : Hid (w7.heap[zb]? = some (.cells #[.int .i64 k0, .int .i64 m0, .slice a1 n1 c1] 49 (0, 0))) := Lib.hid (by have := allocs_get [.cells #[.int .i64 k0, .int .i64 m0, .slice a1 n1 c1] 49] w6 0 _ rfl; rw [hw7, hzb] at this; exact this)
 have Szb : Hid (w6.heap.size = zb) := Lib.hid hzb
 replace HC := Lib.hid (HC.out.push hb)
 clear hb hw7 hzb
 have kB0 := cell_of_row _ _ 0 _ _ _ HB.out
 have kB1 := cell_of_row _ _ 1 _ _ _ HB.out
 have kB2 := cell_of_row _ _ 2 _ _ _ HB.out
 have kX0 := cell_of_row _ _ 0 _ _ _ (boxStays HX.out (HC.out.to w1 (by simp)))
 have kX1 := cell_of_row _ _ 1 _ _ _ (boxStays HX.out (HC.out.to w1 (by simp)))
 have kX2 := cell_of_row _ _ 2 _ _ _ (boxStays HX.out (HC.out.to w1 (by simp)))
 have kX3 := cell_of_row _ _ 3 _ _ _ (boxStays HX.out (HC.out.to w1 (by simp)))
 go_wp2_with fail
 refine (D2.out _ a1 n1 c1 (HC.out.to w (by simp)) (E1.out.below (HC.out.to w6 (by simp)) rfl) N1.out.1 N1.out.2).mono ?_
 rintro e w8 ⟨a2, n2, c2, rfl, h1, h2, h3, hb⟩
 clear kB0 kB1 kB2 kX0 kX1 kX2 kX3
 replace HC := Lib.hid (HC.out.push hb)
 clear hb
 have E2 := Lib.hid h1
 have N2 := Lib.hid (And.intro h2 h3)
 clear h1 h2 h3
 go_upto_region 8 with (fail)
 obtain ⟨za, hza⟩ : ∃ c, w8.heap.size = c := ⟨_, rfl⟩
 try rw [hza]
 obtain ⟨w9, hw9⟩ : ∃ X, allocs w8 [.cells #[.int .i64 k0, .int .i64 ma, .slice a2 n2 c2] 49] = X := ⟨_, rfl⟩
 rw [show w8.alloc (.cells #[.int .i64 k0, .int .i64 ma, .slice a2 n2 c2] 49) = w9 from hw9]
 have hb : Below w8.heap.size w8 w9 := by rw [← hw9]; exact allocs_below _ _
 have HA : Hid (w9.heap[za]? = some (.cells #[.int .i64 k0, .int .i64 ma, .slice a2 n2 c2] 49 (0, 0))) := Lib.hid (by have := allocs_get [.cells #[.int .i64 k0, .int .i64 ma, .slice a2 n2 c2] 49] w8 0 _ rfl; rw [hw9, hza] at this; exact this)
 have Sza : Hid (w8.heap.size = za) := Lib.hid hza
 replace HC := Lib.hid (HC.out.push hb)
 clear hb hw9 hza
 have kB0 := cell_of_row _ _ 0 _ _ _ (boxStays HB.out (HC.out.to w7 (by simp)))
 have kB1 := cell_of_row _ _ 1 _ _ _ (boxStays HB.out (HC.out.to w7 (by simp)))
 have kB2 := cell_of_row _ _ 2 _ _ _ (boxStays HB.out (HC.out.to w7 (by simp)))
 have kX0 := cell_of_row _ _ 0 _ _ _ (boxStays HX.out (HC.out.to w1 (by simp)))
 have kX1 := cell_of_row _ _ 1 _ _ _ (boxStays HX.out (HC.out.to w1 (by simp)))
 have kX2 := cell_of_row _ _ 2 _ _ _ (boxStays HX.out (HC.out.to w1 (by simp)))
 have kX3 := cell_of_row _ _ 3 _ _ _ (boxStays HX.out (HC.out.to w1 (by simp)))
 go_wp2_with fail
 refine (D3.out _ a1 n1 c1 (HC.out.to w (by simp)) (E1.out.below (HC.out.to w6 (by simp)) rfl) N1.out.1 N1.out.2).mono ?_
 rintro e w10 ⟨a3, n3, c3, rfl, h1, h2, h3, hb⟩
 clear kB0 kB1 kB2 kX0 kX1 kX2 kX3
 replace HC := Lib.hid (HC.out.push hb)
 clear hb
 have E3 := Lib.hid h1
 have N3 := Lib.hid (And.intro h2 h3)
 clear h1 h2 h3
 go_upto_region 9 with (fail)
 obtain ⟨zd, hzd⟩ : ∃ c, w10.heap.size = c := ⟨_, rfl⟩
 try rw [hzd]
 obtain ⟨w11, hw11⟩ : ∃ X, allocs w10 [.cells #[.int .i64 k0, .int .i64 mb, .slice a3 n3 c3] 49] = X := ⟨_, rfl⟩
 rw [show w10.alloc (.cells #[.int .i64 k0, .int .i64 mb, .slice a3 n3 c3] 49) = w11 from hw11]
 have hb : Below w10.heap.size w10 w11 := by rw [← hw11]; exact allocs_below _ _
 have HD : Hid (w11.heap[zd]? = some (.cells #[.int .i64 k0, .int .i64 mb, .slice a3 n3 c3] 49 (0, 0))) := Lib.hid (by have := allocs_get [.cells #[.int .i64 k0, .int .i64 mb, .slice a3 n3 c3] 49] w10 0 _ rfl; rw [hw11, hzd] at this; exact this)
 have Szd : Hid (w10.heap.size = zd) := Lib.hid hzd
 replace HC := Lib.hid (HC.out.push hb)
 clear hb hw11 hzd
 have kB0 := cell_of_row _ _ 0 _ _ _ (boxStays HB.out (HC.out.to w7 (by simp)))
 have kB1 := cell_of_row _ _ 1 _ _ _ (boxStays HB.out (HC.out.to w7 (by simp)))
 have kB2 := cell_of_row _ _ 2 _ _ _ (boxStays HB.out (HC.out.to w7 (by simp)))
 have kA0 := cell_of_row _ _ 0 _ _ _ (boxStays HA.out (HC.out.to w9 (by simp)))
 have kA1 := cell_of_row _ _ 1 _ _ _ (boxStays HA.out (HC.out.to w9 (by simp)))
 have kA2 := cell_of_row _ _ 2 _ _ _ (boxStays HA.out (HC.out.to w9 (by simp)))
 have kD0 := cell_of_row _ _ 0 _ _ _ HD.out
 have kD1 := cell_of_row _ _ 1 _ _ _ HD.out
 have kD2 := cell_of_row _ _ 2 _ _ _ HD.out
 go_wp2_with fail
 refine (T1.out _ a1 a2 a3 n1 n2 n3 c1 c2 c3 (E1.out.below (HC.out.to w6 (by simp)) rfl) (E2.out.below (HC.out.to w8 (by simp)) rfl) (E3.out.below (HC.out.to w10 (by simp)) rfl) N1.out.1 N2.out.1 N3.out.1).mono ?_
 rintro e w12 ⟨a4, n4, c4, rfl, h1, h2, h3, _, hb⟩
 clear kB0 kB1 kB2 kA0 kA1 kA2 kD0 kD1 kD2
 replace HC := Lib.hid (HC.out.push hb)
 clear hb
 have E4 := Lib.hid h1
 have N4 := Lib.hid (And.intro h2 h3)
 clear h1 h2 h3
 go_upto_region 10 with (fail)
 obtain ⟨z4, hz4⟩ : ∃ c, w12.heap.size = c := ⟨_, rfl⟩
 try rw [hz4]
 obtain ⟨w13, hw13⟩ : ∃ X, allocs w12 [.cells #[.int .i64 k0, .int .i64 M, .slice a4 n4 c4] 49] = X := ⟨_, rfl⟩
 rw [show w12.alloc (.cells #[.int .i64 k0, .int .i64 M, .slice a4 n4 c4] 49) = w13 from hw13]
 have hb : Below w12.heap.size w12 w13 := by rw [← hw13]; exact allocs_below _ _
 have HP : Hid (w13.heap[z4]? = some (.cells #[.int .i64 k0, .int .i64 M, .slice a4 n4 c4] 49 (0, 0))) := Lib.hid (by have := allocs_get [.cells #[.int .i64 k0, .int .i64 M, .slice a4 n4 c4] 49] w12 0 _ rfl; rw [hw13, hz4] at this; exact this)
 have Sz4 : Hid (w12.heap.size = z4) := Lib.hid hz4
 replace HC := Lib.hid (HC.out.push hb)
 clear hb hw13 hz4
 have kB0 := cell_of_row _ _ 0 _ _ _ (boxStays HB.out (HC.out.to w7 (by simp)))
 have kB1 := cell_of_row _ _ 1 _ _ _ (boxStays HB.out (HC.out.to w7 (by simp)))
 have kB2 := cell_of_row _ _ 2 _ _ _ (boxStays HB.out (HC.out.to w7 (by simp)))
 have kD0 := cell_of_row _ _ 0 _ _ _ (boxStays HD.out (HC.out.to w11 (by simp)))
 have kD1 := cell_of_row _ _ 1 _ _ _ (boxStays HD.out (HC.out.to w11 (by simp)))
 have kD2 := cell_of_row _ _ 2 _ _ _ (boxStays HD.out (HC.out.to w11 (by simp)))
 have kA0 := cell_of_row _ _ 0 _ _ _ (boxStays HA.out (HC.out.to w9 (by simp)))
 have kA1 := cell_of_row _ _ 1 _ _ _ (boxStays HA.out (HC.out.to w9 (by simp)))
 have kA2 := cell_of_row _ _ 2 _ _ _ (boxStays HA.out (HC.out.to w9 (by simp)))
 go_wp2_with fail
 refine (T2.out _ a1 a3 a2 n1 n3 n2 c1 c3 c2 (E1.out.below (HC.out.to w6 (by simp)) rfl) (E3.out.below (HC.out.to w10 (by simp)) rfl) (E2.out.below (HC.out.to w8 (by simp)) rfl) N1.out.1 N3.out.1 N2.out.1).mono ?_
 rintro e w14 ⟨a5, n5, c5, rfl, h1, h2, h3, _, hb⟩
 clear kB0 kB1 kB2 kD0 kD1 kD2 kA0 kA1 kA2
 replace HC := Lib.hid (HC.out.push hb)
 clear hb
 have E5 := Lib.hid h1
 have N5 := Lib.hid (And.intro h2 h3)
 clear h1 h2 h3
 go_upto_region 11 with (fail)
 obtain ⟨z5, hz5⟩ : ∃ c, w14.heap.size = c := ⟨_, rfl⟩
 try rw [hz5]
 obtain ⟨w15, hw15⟩ : ∃ X, allocs w14 [.cells #[.int .i64 k0, .int .i64 M, .slice a5 n5 c5] 49] = X := ⟨_, rfl⟩
 rw [show w14.alloc (.cells #[.int .i64 k0, .int .i64 M, .slice a5 n5 c5] 49) = w15 from hw15]
 have hb : Below w14.heap.size w14 w15 := by rw [← hw15]; exact allocs_below _ _
 have HQ : Hid (w15.heap[z5]? = some (.cells #[.int .i64 k0, .int .i64 M, .slice a5 n5 c5] 49 (0, 0))) := Lib.hid (by have := allocs_get [.cells #[.int .i64 k0, .int .i64 M, .slice a5 n5 c5] 49] w14 0 _ rfl; rw [hw15, hz5] at this; exact this)
 have Sz5 : Hid (w14.heap.size = z5) := Lib.hid hz5
 replace HC := Lib.hid (HC.out.push hb)
 clear hb hw15 hz5
 have kB0 := cell_of_row _ _ 0 _ _ _ (boxStays HB.out (HC.out.to w7 (by simp)))
 have kB1 := cell_of_row _ _ 1 _ _ _ (boxStays HB.out (HC.out.to w7 (by simp)))
 have kB2 := cell_of_row _ _ 2 _ _ _ (boxStays HB.out (HC.out.to w7 (by simp)))
 have kA0 := cell_of_row _ _ 0 _ _ _ (boxStays HA.out (HC.out.to w9 (by simp)))
 have kA1 := cell_of_row _ _ 1 _ _ _ (boxStays HA.out (HC.out.to w9 (by simp)))
 have kA2 := cell_of_row _ _ 2 _ _ _ (boxStays HA.out (HC.out.to w9 (by simp)))
 go_wp2_with fail
 refine (T3.out _ a1 a2 a1 n1 n2 n1 c1 c2 c1 (E1.out.below (HC.out.to w6 (by simp)) rfl) (E2.out.below (HC.out.to w8 (by simp)) rfl) (E1.out.below (HC.out.to w6 (by simp)) rfl) N1.out.1 N2.out.1 N1.out.1).mono ?_
 rintro e w16 ⟨a6, n6, c6, rfl, h1, h2, h3, _, hb⟩
 clear kB0 kB1 kB2 kA0 kA1 kA2
 replace HC := Lib.hid (HC.out.push hb)
 clear hb
 have E6 := Lib.hid h1
 have N6 := Lib.hid (And.intro h2 h3)
 clear h1 h2 h3
 go_upto_region 12 with (fail)
 obtain ⟨z6, hz6⟩ : ∃ c, w16.heap.size = c := ⟨_, rfl⟩
 try rw [hz6]
 obtain ⟨w17, hw17⟩ : ∃ X, allocs w16 [.cells #[.int .i64 k0, .int .i64 ma, .slice a6 n6 c6] 49] = X := ⟨_, rfl⟩
 rw [show w16.alloc (.cells #[.int .i64 k0, .int .i64 ma, .slice a6 n6 c6] 49) = w17 from hw17]
 have hb : Below w16.heap.size w16 w17 := by rw [← hw17]; exact allocs_below _ _
 have HR : Hid (w17.heap[z6]? = some (.cells #[.int .i64 k0, .int .i64 ma, .slice a6 n6 c6] 49 (0, 0))) := Lib.hid (by have := allocs_get [.cells #[.int .i64 k0, .int .i64 ma, .slice a6 n6 c6] 49] w16 0 _ rfl; rw [hw17, hz6] at this; exact this)
 have Sz6 : Hid (w16.heap.size = z6) := Lib.hid hz6
 replace HC := Lib.hid (HC.out.push hb)
 clear hb hw17 hz6
 have kB0 := cell_of_row _ _ 0 _ _ _ (boxStays HB.out (HC.out.to w7 (by simp)))
 have kB1 := cell_of_row _ _ 1 _ _ _ (boxStays HB.out (HC.out.to w7 (by simp)))
 have kB2 := cell_of_row _ _ 2 _ _ _ (boxStays HB.out (HC.out.to w7 (by simp)))
 have kD0 := cell_of_row _ _ 0 _ _ _ (boxStays HD.out (HC.out.to w11 (by simp)))
 have kD1 := cell_of_row _ _ 1 _ _ _ (boxStays HD.out (HC.out.to w11 (by simp)))
 have kD2 := cell_of_row _ _ 2 _ _ _ (boxStays HD.out (HC.out.to w11 (by simp)))
 go_wp2_with fail
 refine (T4.out _ a1 a1 a3 n1 n1 n3 c1 c1 c3 (E1.out.below (HC.out.to w6 (by simp)) rfl) (E1.out.below (HC.out.to w6 (by simp)) rfl) (E3.out.below (HC.out.to w10 (by simp)) rfl) N1.out.1 N1.out.1 N3.out.1).mono ?_
 rintro e w18 ⟨a7, n7, c7, rfl, h1, h2, h3, _, hb⟩
 clear kB0 kB1 kB2 kD0 kD1 kD2
 replace HC := Lib.hid (HC.out.push hb)
 clear hb
 have E7 := Lib.hid h1
 have N7 := Lib.hid (And.intro h2 h3)
 clear h1 h2 h3
 go_upto_region 13 with (fail)
 obtain ⟨z7, hz7⟩ : ∃ c, w18.heap.size = c := ⟨_, rfl⟩
 try rw [hz7]
 obtain ⟨w19, hw19⟩ : ∃ X, allocs w18 [.cells #[.int .i64 k0, .int .i64 mb, .slice a7 n7 c7] 49] = X := ⟨_, rfl⟩
 rw [show w18.alloc (.cells #[.int .i64 k0, .int .i64 mb, .slice a7 n7 c7] 49) = w19 from hw19]
 have hb : Below w18.heap.size w18 w19 := by rw [← hw19]; exact allocs_below _ _
 have HS : Hid (w19.heap[z7]? = some (.cells #[.int .i64 k0, .int .i64 mb, .slice a7 n7 c7] 49 (0, 0))) := Lib.hid (by have := allocs_get [.cells #[.int .i64 k0, .int .i64 mb, .slice a7 n7 c7] 49] w18 0 _ rfl; rw [hw19, hz7] at this; exact this)
 have Sz7 : Hid (w18.heap.size = z7) := Lib.hid hz7
 replace HC := Lib.hid (HC.out.push hb)
 clear hb hw19 hz7
 clear D1 D2 D3 T1 T2 T3 T4
 go_wp2_with fail
 refine (kn_numB 0 _).mono ?_
 rintro e w20 ⟨rfl, hb⟩
 replace HC := Lib.hid (HC.out.push hb)
 clear hb
 go_wp2_with fail
 refine (kn_numB 0 _).mono ?_
 rintro e w21 ⟨rfl, hb⟩
 replace HC := Lib.hid (HC.out.push hb)
 clear hb
 go_wp2_with fail
 refine (kn_numB 0 _).mono ?_
 rintro e w22 ⟨rfl, hb⟩
 replace HC := Lib.hid (HC.out.push hb)
 clear hb
 go_wp2_with fail
 refine (kn_numB 0 _).mono ?_
 rintro e w23 ⟨rfl, hb⟩
 replace HC := Lib.hid (HC.out.push hb)
 clear hb
 have kP0 := cell_of_row _ _ 0 _ _ _ (boxStays HP.out (HC.out.to w13 (by simp)))
 have kP1 := cell_of_row _ _ 1 _ _ _ (boxStays HP.out (HC.out.to w13 (by simp)))
 have kP2 := cell_of_row _ _ 2 _ _ _ (boxStays HP.out (HC.out.to w13 (by simp)))
 have kQ0 := cell_of_row _ _ 0 _ _ _ (boxStays HQ.out (HC.out.to w15 (by simp)))
 have kQ1 := cell_of_row _ _ 1 _ _ _ (boxStays HQ.out (HC.out.to w15 (by simp)))
 have kQ2 := cell_of_row _ _ 2 _ _ _ (boxStays HQ.out (HC.out.to w15 (by simp)))
 go_wp2_with fail
 refine (kn_SameT k0 M ML a4 n4 c4 a5 n5 c5 _ (E4.out.below (HC.out.to w12 (by simp)) rfl) (E5.out.below (HC.out.to w14 (by simp)) rfl) N4.out.1 N5.out.1 (by have := N4.out.1; have := MZ.out.1; omega)).mono ?_
 rintro e w24 ⟨rfl, hb⟩
 clear kP0 kP1 kP2 kQ0 kQ1 kQ2
 replace HC := Lib.hid (HC.out.push hb)
 clear hb
 have kR0 := cell_of_row _ _ 0 _ _ _ (boxStays HR.out (HC.out.to w17 (by simp)))
 have kR1 := cell_of_row _ _ 1 _ _ _ (boxStays HR.out (HC.out.to w17 (by simp)))
 have kR2 := cell_of_row _ _ 2 _ _ _ (boxStays HR.out (HC.out.to w17 (by simp)))
 have kA0 := cell_of_row _ _ 0 _ _ _ (boxStays HA.out (HC.out.to w9 (by simp)))
 have kA1 := cell_of_row _ _ 1 _ _ _ (boxStays HA.out (HC.out.to w9 (by simp)))
 have kA2 := cell_of_row _ _ 2 _ _ _ (boxStays HA.out (HC.out.to w9 (by simp)))
 go_wp2_with fail
 refine (kn_SameT k0 ma la a6 n6 c6 a2 n2 c2 _ (E6.out.below (HC.out.to w16 (by simp)) rfl) (E2.out.below (HC.out.to w8 (by simp)) rfl) N6.out.1 N2.out.1 (by have := N6.out.1; have := AZ.out.1; omega)).mono ?_
 rintro e w25 ⟨rfl, hb⟩
 clear kR0 kR1 kR2 kA0 kA1 kA2
 replace HC := Lib.hid (HC.out.push hb)
 clear hb
 have kS0 := cell_of_row _ _ 0 _ _ _ (boxStays HS.out (HC.out.to w19 (by simp)))
 have kS1 := cell_of_row _ _ 1 _ _ _ (boxStays HS.out (HC.out.to w19 (by simp)))
 have kS2 := cell_of_row _ _ 2 _ _ _ (boxStays HS.out (HC.out.to w19 (by simp)))
 have kD0 := cell_of_row _ _ 0 _ _ _ (boxStays HD.out (HC.out.to w11 (by simp)))
 have kD1 := cell_of_row _ _ 1 _ _ _ (boxStays HD.out (HC.out.to w11 (by simp)))
 have kD2 := cell_of_row _ _ 2 _ _ _ (boxStays HD.out (HC.out.to w11 (by simp)))
 go_wp2_with fail
 refine (kn_SameT k0 mb lb a7 n7 c7 a3 n3 c3 _ (E7.out.below (HC.out.to w18 (by simp)) rfl) (E3.out.below (HC.out.to w10 (by simp)) rfl) N7.out.1 N3.out.1 (by have := N7.out.1; have := BF.out.1; omega)).mono ?_
 rintro e w26 ⟨rfl, hb⟩
 clear kS0 kS1 kS2 kD0 kD1 kD2
 replace HC := Lib.hid (HC.out.push hb)
 clear hb
 have kP0 := cell_of_row _ _ 0 _ _ _ (boxStays HP.out (HC.out.to w13 (by simp)))
 have kP1 := cell_of_row _ _ 1 _ _ _ (boxStays HP.out (HC.out.to w13 (by simp)))
 have kP2 := cell_of_row _ _ 2 _ _ _ (boxStays HP.out (HC.out.to w13 (by simp)))
 go_wp2_with fail
 refine (kn_Value k0 M ML a4 n4 c4 _ (E4.out.below (HC.out.to w12 (by simp)) rfl) N4.out.1 (by have := N4.out.1; have := MZ.out.1; omega) MZ.out.2).mono ?_
 rintro e w27 ⟨rfl, hb⟩
 clear kP0 kP1 kP2
 replace HC := Lib.hid (HC.out.push hb)
 clear hb
 rw [OKM.out]
 have BW27 := Lib.hid (HC.out.to w (by simp))
 go_wp2_with fail
 have bn4 : n4 ≤ 400 := by have := N4.out.1; have := MZ.out.1; omega
 have bn2 : n2 ≤ 200 := by have := N2.out.1; have := AZ.out.1; omega
 go_loopw [19] (fun u19 wr => ∃ (i : Nat) (wq : World), wq = wr ∧ u19 = .int .i64 (i : Int) ∧ i ≤ n4 ∧ Hid (Below w27.heap.size w27 wq)) (fun u19 _ => n4 - (intOf u19).toNat)
 case atStart => exact ⟨0, _, rfl, rfl, Nat.zero_le _, Lib.hid (Below.refl _ _)⟩
 case round =>
  obtain ⟨i, wq, rfl, rfl, hi, HLB⟩ := hrel
  have hb := HLB.out
  replace HC := Lib.hid (HC.out.push hb)
  clear hb
  clear HLB
  by_cases hlt : i < n4
  · have hli : (i : Int) < (n4 : Int) := by omega
    have hil : i < ML.length := by have := N4.out.1; omega
    obtain ⟨be, oe, he, pc⟩ := els_get (E4.out.below (HC.out.to w12 (by simp)) rfl) i hil
    subst he
    obtain ⟨p0, p1, p2, p3, p4, p5⟩ := pc
    have K1 : Hid (ML[i] ∈ l0 → ML[i] ∈ la ∧ ML[i] ∈ lb) := Lib.hid (KEEP.out _ (List.getElem_mem hil))
    obtain ⟨y, hy⟩ : ∃ y, ML[i] = y := ⟨_, rfl⟩
    rw [hy] at p0 p1 p2 p3 p4 p5 K1
    clear hy
    have kP0 := cell_of_row _ _ 0 _ _ _ (boxStays HP.out (HC.out.to w13 (by simp)))
    have kP1 := cell_of_row _ _ 1 _ _ _ (boxStays HP.out (HC.out.to w13 (by simp)))
    have kP2 := cell_of_row _ _ 2 _ _ _ (boxStays HP.out (HC.out.to w13 (by simp)))
    go_upto_region 19 with (fail)
    clear p0 p1 p2 p3 p4 p5
    clear kP0 kP1 kP2
    obtain ⟨zy, hzy⟩ : ∃ c, wq.heap.size = c := ⟨_, rfl⟩
    try rw [hzy]
    obtain ⟨wy, hwy⟩ : ∃ X, allocs wq [.cells #[.int .i64 y.1.g, .int .i64 y.1.r, .string y.1.l, .int .i64 y.1.n, .int .i64 y.1.i, .string y.2] 33] = X := ⟨_, rfl⟩
    rw [show wq.alloc (.cells #[.int .i64 y.1.g, .int .i64 y.1.r, .string y.1.l, .int .i64 y.1.n, .int .i64 y.1.i, .string y.2] 33) = wy from hwy]
    have hb : Below wq.heap.size wq wy := by rw [← hwy]; exact allocs_below _ _
    have HY : Hid (wy.heap[zy]? = some (.cells #[.int .i64 y.1.g, .int .i64 y.1.r, .string y.1.l, .int .i64 y.1.n, .int .i64 y.1.i, .string y.2] 33 (0, 0))) := Lib.hid (by have := allocs_get [.cells #[.int .i64 y.1.g, .int .i64 y.1.r, .string y.1.l, .int .i64 y.1.n, .int .i64 y.1.i, .string y.2] 33] wq 0 _ rfl; rw [hwy, hzy] at this; exact this)
    have Szy : Hid (wq.heap.size = zy) := Lib.hid hzy
    replace HC := Lib.hid (HC.out.push hb)
    clear hb hwy hzy
    have kB0 := cell_of_row _ _ 0 _ _ _ (boxStays HB.out (HC.out.to w7 (by simp)))
    have kB1 := cell_of_row _ _ 1 _ _ _ (boxStays HB.out (HC.out.to w7 (by simp)))
    have kB2 := cell_of_row _ _ 2 _ _ _ (boxStays HB.out (HC.out.to w7 (by simp)))
    have kY0 := cell_of_row _ _ 0 _ _ _ HY.out
    have kY1 := cell_of_row _ _ 1 _ _ _ HY.out
    have kY2 := cell_of_row _ _ 2 _ _ _ HY.out
    have kY3 := cell_of_row _ _ 3 _ _ _ HY.out
    have kY4 := cell_of_row _ _ 4 _ _ _ HY.out
    have kY5 := cell_of_row _ _ 5 _ _ _ HY.out
    go_wp2_with fail
    refine (kn_has k0 m0 l0 a1 n1 c1 y _ (E1.out.below (HC.out.to w6 (by simp)) rfl) N1.out.1 (by have := N1.out.1; have := BZ.out.1; omega)).mono ?_
    rintro e wh ⟨rfl, hb⟩
    clear kB0 kB1 kB2 kY0 kY1 kY2 kY3 kY4 kY5
    replace HC := Lib.hid (HC.out.push hb)
    clear hb
    obtain ⟨m1, hm1⟩ : ∃ b, memG l0 y = b := ⟨_, rfl⟩
    rw [hm1]
    have H1 := Lib.hid hm1
    clear hm1
    cases m1
    · go_wp2_with fail
      go_roundw
      case rel => exact ⟨i + 1, _, rfl, by go_num, by omega, Lib.hid (HC.out.to w27 (by simp))⟩
      case measure => simp [intOf]; omega
    · have K2 : Hid (memG la y = true ∧ memG lb y = true) := Lib.hid (by have h := K1.out (memG_iff.1 H1.out); exact ⟨memG_iff.2 h.1, memG_iff.2 h.2⟩)
      have kA0 := cell_of_row _ _ 0 _ _ _ (boxStays HA.out (HC.out.to w9 (by simp)))
      have kA1 := cell_of_row _ _ 1 _ _ _ (boxStays HA.out (HC.out.to w9 (by simp)))
      have kA2 := cell_of_row _ _ 2 _ _ _ (boxStays HA.out (HC.out.to w9 (by simp)))
      have kY0 := cell_of_row _ _ 0 _ _ _ (boxStays HY.out (HC.out.to wy (by simp)))
      have kY1 := cell_of_row _ _ 1 _ _ _ (boxStays HY.out (HC.out.to wy (by simp)))
      have kY2 := cell_of_row _ _ 2 _ _ _ (boxStays HY.out (HC.out.to wy (by simp)))
      have kY3 := cell_of_row _ _ 3 _ _ _ (boxStays HY.out (HC.out.to wy (by simp)))
      have kY4 := cell_of_row _ _ 4 _ _ _ (boxStays HY.out (HC.out.to wy (by simp)))
      have kY5 := cell_of_row _ _ 5 _ _ _ (boxStays HY.out (HC.out.to wy (by simp)))
      go_wp2_with fail
      refine (kn_has k0 ma la a2 n2 c2 y _ (E2.out.below (HC.out.to w8 (by simp)) rfl) N2.out.1 (by have := N2.out.1; have := AZ.out.1; omega)).mono ?_
      rintro e wi ⟨rfl, hb⟩
      clear kA0 kA1 kA2 kY0 kY1 kY2 kY3 kY4 kY5
      replace HC := Lib.hid (HC.out.push hb)
      clear hb
      rw [K2.out.1]
      have kD0 := cell_of_row _ _ 0 _ _ _ (boxStays HD.out (HC.out.to w11 (by simp)))
      have kD1 := cell_of_row _ _ 1 _ _ _ (boxStays HD.out (HC.out.to w11 (by simp)))
      have kD2 := cell_of_row _ _ 2 _ _ _ (boxStays HD.out (HC.out.to w11 (by simp)))
      have kY0 := cell_of_row _ _ 0 _ _ _ (boxStays HY.out (HC.out.to wy (by simp)))
      have kY1 := cell_of_row _ _ 1 _ _ _ (boxStays HY.out (HC.out.to wy (by simp)))
      have kY2 := cell_of_row _ _ 2 _ _ _ (boxStays HY.out (HC.out.to wy (by simp)))
      have kY3 := cell_of_row _ _ 3 _ _ _ (boxStays HY.out (HC.out.to wy (by simp)))
      have kY4 := cell_of_row _ _ 4 _ _ _ (boxStays HY.out (HC.out.to wy (by simp)))
      have kY5 := cell_of_row _ _ 5 _ _ _ (boxStays HY.out (HC.out.to wy (by simp)))
      go_wp2_with fail
      refine (kn_has k0 mb lb a3 n3 c3 y _ (E3.out.below (HC.out.to w10 (by simp)) rfl) N3.out.1 (by have := N3.out.1; have := BF.out.1; omega)).mono ?_
      rintro e wj ⟨rfl, hb⟩
      clear kD0 kD1 kD2 kY0 kY1 kY2 kY3 kY4 kY5
      replace HC := Lib.hid (HC.out.push hb)
      clear hb
      rw [K2.out.2]
      go_wp2_with fail
      go_roundw
      case rel => exact ⟨i + 1, _, rfl, by go_num, by omega, Lib.hid (HC.out.to w27 (by simp))⟩
      case measure => simp [intOf]; omega
  · obtain rfl : i = n4 := by omega
    have hli : ¬ (i : Int) < (i : Int) := by omega
    have kP0 := cell_of_row _ _ 0 _ _ _ (boxStays HP.out (HC.out.to w13 (by simp)))
    have kP1 := cell_of_row _ _ 1 _ _ _ (boxStays HP.out (HC.out.to w13 (by simp)))
    have kP2 := cell_of_row _ _ 2 _ _ _ (boxStays HP.out (HC.out.to w13 (by simp)))
    go_wp2_with fail
    clear kP0 kP1 kP2
    clear hli hlt hi
    go_loopw [21] (fun u21 wr => ∃ (j : Nat) (wp : World), wp = wr ∧ u21 = .int .i64 (j : Int) ∧ j ≤ n2 ∧ Hid (Below wq.heap.size wq wp)) (fun u21 _ => n2 - (intOf u21).toNat)
    case atStart => exact ⟨0, _, rfl, rfl, Nat.zero_le _, Lib.hid (Below.refl _ _)⟩
    case round =>
     obtain ⟨j, wp, rfl, rfl, hj, HLB⟩ := hrel
     have hb := HLB.out
     replace HC := Lib.hid (HC.out.push hb)
     clear hb
     clear HLB
     by_cases hlt : j < n2
     · have hlj : (j : Int) < (n2 : Int) := by omega
       have hjl : j < la.length := by have := N2.out.1; omega
       obtain ⟨be, oe, he, -⟩ := els_get (E2.out.below (HC.out.to w8 (by simp)) rfl) j hjl
       subst he
       have PC : Hid (∀ W, Below wp.heap.size wp W → ElCell W be (oe + j * 6) la[j]) := Lib.hid (fun W hW => by
        obtain ⟨b', o', e, pc⟩ := els_get ((E2.out.below (HC.out.to w8 (by simp)) rfl).below hW rfl) j hjl
        cases e
        exact pc)
       have NW : Hid (la[j] ∉ l0 → la[j] ∈ ML) := Lib.hid (NEW.out _ (List.getElem_mem hjl))
       obtain ⟨y, hy⟩ : ∃ y, la[j] = y := ⟨_, rfl⟩
       rw [hy] at PC NW
       clear hy
       have kA0 := cell_of_row _ _ 0 _ _ _ (boxStays HA.out (HC.out.to w9 (by simp)))
       have kA1 := cell_of_row _ _ 1 _ _ _ (boxStays HA.out (HC.out.to w9 (by simp)))
       have kA2 := cell_of_row _ _ 2 _ _ _ (boxStays HA.out (HC.out.to w9 (by simp)))
       go_upto_region 24 with (fail)
       clear kA0 kA1 kA2
       have YB := Lib.hid (boxStays HB.out (HC.out.to w7 (by simp)))
       have YA := Lib.hid (boxStays HA.out (HC.out.to w9 (by simp)))
       have YP := Lib.hid (boxStays HP.out (HC.out.to w13 (by simp)))
       have CB : Hid (∀ W, Below wp.heap.size wp W → CellsAt W a1 (elsV l0)) := Lib.hid (fun W hW => (E1.out.below (HC.out.to w6 (by simp)) rfl).below hW rfl)
       have CM : Hid (∀ W, Below wp.heap.size wp W → CellsAt W a4 (elsV ML)) := Lib.hid (fun W hW => (E4.out.below (HC.out.to w12 (by simp)) rfl).below hW rfl)
       have LB1 : Hid (n1 ≤ 9223372036854775807 ∧ i ≤ 9223372036854775807) := Lib.hid ⟨by have := N1.out.1; have := BZ.out.1; omega, by have := N4.out.1; have := MZ.out.1; omega⟩
       obtain ⟨m1, hm1⟩ : ∃ b, memG l0 y = b := ⟨_, rfl⟩
       have H1 := Lib.hid hm1
       clear hm1
       go_cut [187] (fun u187 wx => u187 = .bool false ∧ Hid (Below wp.heap.size wp wx))
       case first =>
        cases m1
        case false =>
         have H2 : Hid (memG ML y = true) := Lib.hid (memG_iff.2 (NW.out (memG_no H1.out)))
         as_aux_lemma =>
          refine relG_start (slots := [170, 171, 172, 173, 174, 175, 176, 177, 178, 179, 180, 181, 182, 183, 184, 185, 186, 187]) (so := []) (by kernel_rfl) (by kernel_rfl) (by rfl) ?_
          refine relG_pure (i := 0) (o := ⟨some 170, _, _, _, _, _⟩) (v := ?v1) [] [5] rfl rfl (by kernel_rfl) (by kernel_rfl) (fun t w1 hB hf hbf => ?y1) ?n1
          case y1 =>
           simp only [BasF] at hbf
           clear hf
           obtain ⟨⟨b5, k5⟩, _⟩ := hbf
           have yb := boxStays YB.out hB
           have b0 := cell_of_row _ zb 0 _ _ _ yb
           have b1 := cell_of_row _ zb 1 _ _ _ yb
           have b2 := cell_of_row _ zb 2 _ _ _ yb
           have ya := boxStays YA.out hB
           have q2 := cell_of_row _ za 2 _ _ _ ya
           have yp := boxStays YP.out hB
           have r0 := cell_of_row _ z4 0 _ _ _ yp
           have r1 := cell_of_row _ z4 1 _ _ _ yp
           have r2 := cell_of_row _ z4 2 _ _ _ yp
           clear yb ya yp
           obtain ⟨p0, p1, p2, p3, p4, p5⟩ := PC.out w1 hB
           refine Or.inl ⟨wanted_none rfl, ?_⟩
           rintro _ rfl
           go_simp <;> with_reducible rfl
          refine relG_pure (i := 1) (o := ⟨some 171, _, _, _, _, _⟩) (v := ?v2) [] [7] rfl rfl (by kernel_rfl) (by kernel_rfl) (fun t w1 hB hf hbf => ?y2) ?n2
          case y2 =>
           simp only [BasF] at hbf
           clear hf
           obtain ⟨⟨b7, k7⟩, _⟩ := hbf
           have yb := boxStays YB.out hB
           have b0 := cell_of_row _ zb 0 _ _ _ yb
           have b1 := cell_of_row _ zb 1 _ _ _ yb
           have b2 := cell_of_row _ zb 2 _ _ _ yb
           have ya := boxStays YA.out hB
           have q2 := cell_of_row _ za 2 _ _ _ ya
           have yp := boxStays YP.out hB
           have r0 := cell_of_row _ z4 0 _ _ _ yp
           have r1 := cell_of_row _ z4 1 _ _ _ yp
           have r2 := cell_of_row _ z4 2 _ _ _ yp
           clear yb ya yp
           obtain ⟨p0, p1, p2, p3, p4, p5⟩ := PC.out w1 hB
           refine Or.inl ⟨wanted_none rfl, ?_⟩
           rintro _ rfl
           go_simp <;> with_reducible rfl
          refine relG_pure (i := 2) (o := ⟨some 172, _, _, _, _, _⟩) (v := ?v3) [(1, 171, 0)] [] rfl rfl (by kernel_rfl) (by kernel_rfl) (fun t w1 hB hf hbf => ?y3) ?n3
          case y3 =>
           simp only [DepF, List.getD_cons_zero] at hf
           obtain ⟨⟨_, ⟨e171, i171⟩, rfl⟩, _⟩ := hf
           clear hbf
           have yb := boxStays YB.out hB
           have b0 := cell_of_row _ zb 0 _ _ _ yb
           have b1 := cell_of_row _ zb 1 _ _ _ yb
           have b2 := cell_of_row _ zb 2 _ _ _ yb
           have ya := boxStays YA.out hB
           have q2 := cell_of_row _ za 2 _ _ _ ya
           have yp := boxStays YP.out hB
           have r0 := cell_of_row _ z4 0 _ _ _ yp
           have r1 := cell_of_row _ z4 1 _ _ _ yp
           have r2 := cell_of_row _ z4 2 _ _ _ yp
           clear yb ya yp
           obtain ⟨p0, p1, p2, p3, p4, p5⟩ := PC.out w1 hB
           refine Or.inl ⟨wanted_none rfl, ?_⟩
           rintro _ rfl
           go_simp <;> with_reducible rfl
          refine relG_pure (i := 3) (o := ⟨some 173, _, _, _, _, _⟩) (v := ?v4) [] [21] rfl rfl (by kernel_rfl) (by kernel_rfl) (fun t w1 hB hf hbf => ?y4) ?n4
          case y4 =>
           simp only [BasF] at hbf
           clear hf
           obtain ⟨⟨b21, k21⟩, _⟩ := hbf
           have yb := boxStays YB.out hB
           have b0 := cell_of_row _ zb 0 _ _ _ yb
           have b1 := cell_of_row _ zb 1 _ _ _ yb
           have b2 := cell_of_row _ zb 2 _ _ _ yb
           have ya := boxStays YA.out hB
           have q2 := cell_of_row _ za 2 _ _ _ ya
           have yp := boxStays YP.out hB
           have r0 := cell_of_row _ z4 0 _ _ _ yp
           have r1 := cell_of_row _ z4 1 _ _ _ yp
           have r2 := cell_of_row _ z4 2 _ _ _ yp
           clear yb ya yp
           obtain ⟨p0, p1, p2, p3, p4, p5⟩ := PC.out w1 hB
           refine Or.inl ⟨wanted_none rfl, ?_⟩
           rintro _ rfl
           go_simp <;> with_reducible rfl
          refine relG_pure (i := 4) (o := ⟨some 174, _, _, _, _, _⟩) (v := ?v5) [(2, 172, 1), (3, 173, 0)] [] rfl rfl (by kernel_rfl) (by kernel_rfl) (fun t w1 hB hf hbf => ?y5) ?n5
          case y5 =>
           simp only [DepF, List.getD_cons_zero, List.getD_cons_succ] at hf
           obtain ⟨⟨_, ⟨e172, i172⟩, rfl⟩, ⟨_, ⟨e173, i173⟩, rfl⟩, _⟩ := hf
           clear hbf
           have yb := boxStays YB.out hB
           have b0 := cell_of_row _ zb 0 _ _ _ yb
           have b1 := cell_of_row _ zb 1 _ _ _ yb
           have b2 := cell_of_row _ zb 2 _ _ _ yb
           have ya := boxStays YA.out hB
           have q2 := cell_of_row _ za 2 _ _ _ ya
           have yp := boxStays YP.out hB
           have r0 := cell_of_row _ z4 0 _ _ _ yp
           have r1 := cell_of_row _ z4 1 _ _ _ yp
           have r2 := cell_of_row _ z4 2 _ _ _ yp
           clear yb ya yp
           obtain ⟨p0, p1, p2, p3, p4, p5⟩ := PC.out w1 hB
           refine Or.inl ⟨wanted_none rfl, ?_⟩
           rintro _ rfl
           go_simp <;> with_reducible rfl
          refine relG_pure (i := 5) (o := ⟨some 175, _, _, _, _, _⟩) (v := ?v6) [(4, 174, 0)] [] rfl rfl (by kernel_rfl) (by kernel_rfl) (fun t w1 hB hf hbf => ?y6) ?n6
          case y6 =>
           simp only [DepF, List.getD_cons_zero] at hf
           obtain ⟨⟨_, ⟨e174, i174⟩, rfl⟩, _⟩ := hf
           clear hbf
           have yb := boxStays YB.out hB
           have b0 := cell_of_row _ zb 0 _ _ _ yb
           have b1 := cell_of_row _ zb 1 _ _ _ yb
           have b2 := cell_of_row _ zb 2 _ _ _ yb
           have ya := boxStays YA.out hB
           have q2 := cell_of_row _ za 2 _ _ _ ya
           have yp := boxStays YP.out hB
           have r0 := cell_of_row _ z4 0 _ _ _ yp
           have r1 := cell_of_row _ z4 1 _ _ _ yp
           have r2 := cell_of_row _ z4 2 _ _ _ yp
           clear yb ya yp
           obtain ⟨p0, p1, p2, p3, p4, p5⟩ := PC.out w1 hB
           refine Or.inl ⟨wanted_none rfl, ?_⟩
           rintro _ rfl
           go_simp <;> with_reducible rfl
          refine relG_call (i := 6) (o := ⟨some 176, _, _, _, _, _⟩) ((fun v _ => v = .bool false)) [(0, 170, 5), (5, 175, 0)] [] rfl rfl (by kernel_rfl) (by kernel_rfl) ((fun _ _ _ h _ => h)) ?_ ?_
          · intro t w1 hB hf hbf K hK
            simp only [DepF, List.getD_cons_zero, List.getD_cons_succ] at hf
            obtain ⟨⟨_, ⟨e170, i170⟩, rfl⟩, ⟨_, ⟨e175, i175⟩, rfl⟩, _⟩ := hf
            clear hbf
            have yb := boxStays YB.out hB
            have b0 := cell_of_row _ zb 0 _ _ _ yb
            have b1 := cell_of_row _ zb 1 _ _ _ yb
            have b2 := cell_of_row _ zb 2 _ _ _ yb
            have ya := boxStays YA.out hB
            have q2 := cell_of_row _ za 2 _ _ _ ya
            have yp := boxStays YP.out hB
            have r0 := cell_of_row _ z4 0 _ _ _ yp
            have r1 := cell_of_row _ z4 1 _ _ _ yp
            have r2 := cell_of_row _ z4 2 _ _ _ yp
            clear yb ya yp
            obtain ⟨p0, p1, p2, p3, p4, p5⟩ := PC.out w1 hB
            refine ⟨wanted_none rfl, ?_⟩
            go_simp
            refine (kn_has k0 m0 l0 a1 n1 c1 y w1 (CB.out w1 hB) N1.out.1 LB1.out.1).mono ?_
            rintro e w2 ⟨rfl, hb⟩
            exact hK.out _ w2 (by rw [H1.out]) hb
          refine relG_pure (i := 7) (o := ⟨some 177, _, _, _, _, _⟩) (v := ?v7) [(6, 176, 0)] [] rfl rfl (by kernel_rfl) (by kernel_rfl) (fun t w1 hB hf hbf => ?y7) ?n7
          case y7 =>
           simp only [DepF, List.getD_cons_zero] at hf
           obtain ⟨⟨_, ⟨e176, i176⟩, rfl⟩, _⟩ := hf
           clear hbf
           have yb := boxStays YB.out hB
           have b0 := cell_of_row _ zb 0 _ _ _ yb
           have b1 := cell_of_row _ zb 1 _ _ _ yb
           have b2 := cell_of_row _ zb 2 _ _ _ yb
           have ya := boxStays YA.out hB
           have q2 := cell_of_row _ za 2 _ _ _ ya
           have yp := boxStays YP.out hB
           have r0 := cell_of_row _ z4 0 _ _ _ yp
           have r1 := cell_of_row _ z4 1 _ _ _ yp
           have r2 := cell_of_row _ z4 2 _ _ _ yp
           clear yb ya yp
           obtain ⟨p0, p1, p2, p3, p4, p5⟩ := PC.out w1 hB
           refine Or.inl ⟨wanted_none rfl, ?_⟩
           rintro _ rfl
           go_simp <;> with_reducible rfl
          refine relG_pure (i := 8) (o := ⟨some 178, _, _, _, _, _⟩) (v := ?v8) [(7, 177, 0)] [] rfl rfl (by kernel_rfl) (by kernel_rfl) (fun t w1 hB hf hbf => ?y8) ?n8
          case y8 =>
           simp only [DepF, List.getD_cons_zero] at hf
           obtain ⟨⟨_, ⟨e177, i177⟩, rfl⟩, _⟩ := hf
           clear hbf
           have yb := boxStays YB.out hB
           have b0 := cell_of_row _ zb 0 _ _ _ yb
           have b1 := cell_of_row _ zb 1 _ _ _ yb
           have b2 := cell_of_row _ zb 2 _ _ _ yb
           have ya := boxStays YA.out hB
           have q2 := cell_of_row _ za 2 _ _ _ ya
           have yp := boxStays YP.out hB
           have r0 := cell_of_row _ z4 0 _ _ _ yp
           have r1 := cell_of_row _ z4 1 _ _ _ yp
           have r2 := cell_of_row _ z4 2 _ _ _ yp
           clear yb ya yp
           obtain ⟨p0, p1, p2, p3, p4, p5⟩ := PC.out w1 hB
           refine Or.inl ⟨wanted_none rfl, ?_⟩
           rintro _ rfl
           go_simp <;> with_reducible rfl
          refine relG_pure (i := 9) (o := ⟨some 179, _, _, _, _, _⟩) (v := ?v9) [(8, 178, 0)] [11] rfl rfl (by kernel_rfl) (by kernel_rfl) (fun t w1 hB hf hbf => ?y9) ?n9
          case y9 =>
           simp only [DepF, List.getD_cons_zero] at hf
           simp only [BasF] at hbf
           obtain ⟨⟨_, ⟨e178, i178⟩, rfl⟩, _⟩ := hf
           obtain ⟨⟨b11, k11⟩, _⟩ := hbf
           have yb := boxStays YB.out hB
           have b0 := cell_of_row _ zb 0 _ _ _ yb
           have b1 := cell_of_row _ zb 1 _ _ _ yb
           have b2 := cell_of_row _ zb 2 _ _ _ yb
           have ya := boxStays YA.out hB
           have q2 := cell_of_row _ za 2 _ _ _ ya
           have yp := boxStays YP.out hB
           have r0 := cell_of_row _ z4 0 _ _ _ yp
           have r1 := cell_of_row _ z4 1 _ _ _ yp
           have r2 := cell_of_row _ z4 2 _ _ _ yp
           clear yb ya yp
           obtain ⟨p0, p1, p2, p3, p4, p5⟩ := PC.out w1 hB
           refine Or.inl ⟨(by have hg := getD_some i178; simp [Region.wanted, yielded, hg]), ?_⟩
           rintro _ rfl
           go_simp <;> with_reducible rfl
          refine relG_pure (i := 10) (o := ⟨some 180, _, _, _, _, _⟩) (v := ?v10) [(8, 178, 1)] [7] rfl rfl (by kernel_rfl) (by kernel_rfl) (fun t w1 hB hf hbf => ?y10) ?n10
          case y10 =>
           simp only [DepF, List.getD_cons_zero, List.getD_cons_succ] at hf
           simp only [BasF] at hbf
           obtain ⟨⟨_, ⟨e178, i178⟩, rfl⟩, _⟩ := hf
           obtain ⟨⟨b7, k7⟩, _⟩ := hbf
           have yb := boxStays YB.out hB
           have b0 := cell_of_row _ zb 0 _ _ _ yb
           have b1 := cell_of_row _ zb 1 _ _ _ yb
           have b2 := cell_of_row _ zb 2 _ _ _ yb
           have ya := boxStays YA.out hB
           have q2 := cell_of_row _ za 2 _ _ _ ya
           have yp := boxStays YP.out hB
           have r0 := cell_of_row _ z4 0 _ _ _ yp
           have r1 := cell_of_row _ z4 1 _ _ _ yp
           have r2 := cell_of_row _ z4 2 _ _ _ yp
           clear yb ya yp
           obtain ⟨p0, p1, p2, p3, p4, p5⟩ := PC.out w1 hB
           refine Or.inl ⟨(by have hg := getD_some i178; simp [Region.wanted, yielded, hg]), ?_⟩
           rintro _ rfl
           go_simp <;> with_reducible rfl
          refine relG_pure (i := 11) (o := ⟨some 181, _, _, _, _, _⟩) (v := ?v11) [(10, 180, 0), (8, 178, 2)] [] rfl rfl (by kernel_rfl) (by kernel_rfl) (fun t w1 hB hf hbf => ?y11) ?n11
          case y11 =>
           simp only [DepF, List.getD_cons_zero, List.getD_cons_succ] at hf
           obtain ⟨⟨_, ⟨e180, i180⟩, rfl⟩, ⟨_, ⟨e178, i178⟩, rfl⟩, _⟩ := hf
           clear hbf
           have yb := boxStays YB.out hB
           have b0 := cell_of_row _ zb 0 _ _ _ yb
           have b1 := cell_of_row _ zb 1 _ _ _ yb
           have b2 := cell_of_row _ zb 2 _ _ _ yb
           have ya := boxStays YA.out hB
           have q2 := cell_of_row _ za 2 _ _ _ ya
           have yp := boxStays YP.out hB
           have r0 := cell_of_row _ z4 0 _ _ _ yp
           have r1 := cell_of_row _ z4 1 _ _ _ yp
           have r2 := cell_of_row _ z4 2 _ _ _ yp
           clear yb ya yp
           obtain ⟨p0, p1, p2, p3, p4, p5⟩ := PC.out w1 hB
           refine Or.inl ⟨(by have hg := getD_some i178; simp [Region.wanted, yielded, hg]), ?_⟩
           rintro _ rfl
           go_simp <;> with_reducible rfl
          refine relG_pure (i := 12) (o := ⟨some 182, _, _, _, _, _⟩) (v := ?v12) [(8, 178, 3)] [21] rfl rfl (by kernel_rfl) (by kernel_rfl) (fun t w1 hB hf hbf => ?y12) ?n12
          case y12 =>
           simp only [DepF, List.getD_cons_zero, List.getD_cons_succ] at hf
           simp only [BasF] at hbf
           obtain ⟨⟨_, ⟨e178, i178⟩, rfl⟩, _⟩ := hf
           obtain ⟨⟨b21, k21⟩, _⟩ := hbf
           have yb := boxStays YB.out hB
           have b0 := cell_of_row _ zb 0 _ _ _ yb
           have b1 := cell_of_row _ zb 1 _ _ _ yb
           have b2 := cell_of_row _ zb 2 _ _ _ yb
           have ya := boxStays YA.out hB
           have q2 := cell_of_row _ za 2 _ _ _ ya
           have yp := boxStays YP.out hB
           have r0 := cell_of_row _ z4 0 _ _ _ yp
           have r1 := cell_of_row _ z4 1 _ _ _ yp
           have r2 := cell_of_row _ z4 2 _ _ _ yp
           clear yb ya yp
           obtain ⟨p0, p1, p2, p3, p4, p5⟩ := PC.out w1 hB
           refine Or.inl ⟨(by have hg := getD_some i178; simp [Region.wanted, yielded, hg]), ?_⟩
           rintro _ rfl
           go_simp <;> with_reducible rfl
          refine relG_pure (i := 13) (o := ⟨some 183, _, _, _, _, _⟩) (v := ?v13) [(11, 181, 1), (12, 182, 0), (8, 178, 4)] [] rfl rfl (by kernel_rfl) (by kernel_rfl) (fun t w1 hB hf hbf => ?y13) ?n13
          case y13 =>
           simp only [DepF, List.getD_cons_zero, List.getD_cons_succ] at hf
           obtain ⟨⟨_, ⟨e181, i181⟩, rfl⟩, ⟨_, ⟨e182, i182⟩, rfl⟩, ⟨_, ⟨e178, i178⟩, rfl⟩, _⟩ := hf
           clear hbf
           have yb := boxStays YB.out hB
           have b0 := cell_of_row _ zb 0 _ _ _ yb
           have b1 := cell_of_row _ zb 1 _ _ _ yb
           have b2 := cell_of_row _ zb 2 _ _ _ yb
           have ya := boxStays YA.out hB
           have q2 := cell_of_row _ za 2 _ _ _ ya
           have yp := boxStays YP.out hB
           have r0 := cell_of_row _ z4 0 _ _ _ yp
           have r1 := cell_of_row _ z4 1 _ _ _ yp
           have r2 := cell_of_row _ z4 2 _ _ _ yp
           clear yb ya yp
           obtain ⟨p0, p1, p2, p3, p4, p5⟩ := PC.out w1 hB
           refine Or.inl ⟨(by have hg := getD_some i178; simp [Region.wanted, yielded, hg]), ?_⟩
           rintro _ rfl
           go_simp <;> with_reducible rfl
          refine relG_pure (i := 14) (o := ⟨some 184, _, _, _, _, _⟩) (v := ?v14) [(13, 183, 0), (8, 178, 5)] [] rfl rfl (by kernel_rfl) (by kernel_rfl) (fun t w1 hB hf hbf => ?y14) ?n14
          case y14 =>
           simp only [DepF, List.getD_cons_zero, List.getD_cons_succ] at hf
           obtain ⟨⟨_, ⟨e183, i183⟩, rfl⟩, ⟨_, ⟨e178, i178⟩, rfl⟩, _⟩ := hf
           clear hbf
           have yb := boxStays YB.out hB
           have b0 := cell_of_row _ zb 0 _ _ _ yb
           have b1 := cell_of_row _ zb 1 _ _ _ yb
           have b2 := cell_of_row _ zb 2 _ _ _ yb
           have ya := boxStays YA.out hB
           have q2 := cell_of_row _ za 2 _ _ _ ya
           have yp := boxStays YP.out hB
           have r0 := cell_of_row _ z4 0 _ _ _ yp
           have r1 := cell_of_row _ z4 1 _ _ _ yp
           have r2 := cell_of_row _ z4 2 _ _ _ yp
           clear yb ya yp
           obtain ⟨p0, p1, p2, p3, p4, p5⟩ := PC.out w1 hB
           refine Or.inl ⟨(by have hg := getD_some i178; simp [Region.wanted, yielded, hg]), ?_⟩
           rintro _ rfl
           go_simp <;> with_reducible rfl
          refine relG_call (i := 15) (o := ⟨some 185, _, _, _, _, _⟩) ((fun v _ => v = .bool true)) [(9, 179, 5), (14, 184, 0), (8, 178, 6)] [] rfl rfl (by kernel_rfl) (by kernel_rfl) ((fun _ _ _ h _ => h)) ?_ ?_
          · intro t w1 hB hf hbf K hK
            simp only [DepF, List.getD_cons_zero, List.getD_cons_succ] at hf
            obtain ⟨⟨_, ⟨e179, i179⟩, rfl⟩, ⟨_, ⟨e184, i184⟩, rfl⟩, ⟨_, ⟨e178, i178⟩, rfl⟩, _⟩ := hf
            clear hbf
            have yb := boxStays YB.out hB
            have b0 := cell_of_row _ zb 0 _ _ _ yb
            have b1 := cell_of_row _ zb 1 _ _ _ yb
            have b2 := cell_of_row _ zb 2 _ _ _ yb
            have ya := boxStays YA.out hB
            have q2 := cell_of_row _ za 2 _ _ _ ya
            have yp := boxStays YP.out hB
            have r0 := cell_of_row _ z4 0 _ _ _ yp
            have r1 := cell_of_row _ z4 1 _ _ _ yp
            have r2 := cell_of_row _ z4 2 _ _ _ yp
            clear yb ya yp
            obtain ⟨p0, p1, p2, p3, p4, p5⟩ := PC.out w1 hB
            refine ⟨(by have hg := getD_some i178; simp [Region.wanted, yielded, hg]), ?_⟩
            go_simp
            refine (kn_has k0 M ML a4 i c4 y w1 (CM.out w1 hB) N4.out.1 LB1.out.2).mono ?_
            rintro e w2 ⟨rfl, hb⟩
            exact hK.out _ w2 (by rw [H2.out]) hb
          refine relG_pure (i := 16) (o := ⟨some 186, _, _, _, _, _⟩) (v := ?v15) [(15, 185, 0), (8, 178, 7)] [] rfl rfl (by kernel_rfl) (by kernel_rfl) (fun t w1 hB hf hbf => ?y15) ?n15
          case y15 =>
           simp only [DepF, List.getD_cons_zero, List.getD_cons_succ] at hf
           obtain ⟨⟨_, ⟨e185, i185⟩, rfl⟩, ⟨_, ⟨e178, i178⟩, rfl⟩, _⟩ := hf
           clear hbf
           have yb := boxStays YB.out hB
           have b0 := cell_of_row _ zb 0 _ _ _ yb
           have b1 := cell_of_row _ zb 1 _ _ _ yb
           have b2 := cell_of_row _ zb 2 _ _ _ yb
           have ya := boxStays YA.out hB
           have q2 := cell_of_row _ za 2 _ _ _ ya
           have yp := boxStays YP.out hB
           have r0 := cell_of_row _ z4 0 _ _ _ yp
           have r1 := cell_of_row _ z4 1 _ _ _ yp
           have r2 := cell_of_row _ z4 2 _ _ _ yp
           clear yb ya yp
           obtain ⟨p0, p1, p2, p3, p4, p5⟩ := PC.out w1 hB
           refine Or.inl ⟨(by have hg := getD_some i178; simp [Region.wanted, yielded, hg]), ?_⟩
           rintro _ rfl
           go_simp <;> with_reducible rfl
          refine relG_pure (i := 17) (o := ⟨some 187, _, _, _, _, _⟩) (v := ?v16) [(8, 178, 8), (16, 186, 0)] [] rfl rfl (by kernel_rfl) (by kernel_rfl) (fun t w1 hB hf hbf => ?y16) ?n16
          case y16 =>
           simp only [DepF, List.getD_cons_zero, List.getD_cons_succ] at hf
           obtain ⟨⟨_, ⟨e178, i178⟩, rfl⟩, ⟨_, ⟨e186, i186⟩, rfl⟩, _⟩ := hf
           clear hbf
           have yb := boxStays YB.out hB
           have b0 := cell_of_row _ zb 0 _ _ _ yb
           have b1 := cell_of_row _ zb 1 _ _ _ yb
           have b2 := cell_of_row _ zb 2 _ _ _ yb
           have ya := boxStays YA.out hB
           have q2 := cell_of_row _ za 2 _ _ _ ya
           have yp := boxStays YP.out hB
           have r0 := cell_of_row _ z4 0 _ _ _ yp
           have r1 := cell_of_row _ z4 1 _ _ _ yp
           have r2 := cell_of_row _ z4 2 _ _ _ yp
           clear yb ya yp
           obtain ⟨p0, p1, p2, p3, p4, p5⟩ := PC.out w1 hB
           refine Or.inl ⟨wanted_none rfl, ?_⟩
           rintro _ rfl
           go_simp <;> with_reducible rfl
          refine relG_done [(17, 187, 0)] (by kernel_rfl) rfl (by kernel_rfl) (fun f wE hB hf => ?_)
          simp only [FinF, List.getD_cons_zero] at hf
          obtain ⟨⟨_, e187, rfl⟩, _⟩ := hf
          rw [regT_run (s := 170) (n := 18)]
          case h => rfl
          case hb => exact Nat.le_of_ble_eq_true (by kernel_rfl)
          simp only [List.take_succ_cons, List.take_zero, List.map_cons, List.map_nil, List.drop_succ_cons, List.drop_zero, List.cons_append, List.nil_append, e187]
          clear e187
          have HBD := Lib.hid hB
          clear hB
          go_wp2_with fail
          go_meet
          exact ⟨rfl, HBD⟩
        case true =>
         as_aux_lemma =>
          refine relG_start (slots := [170, 171, 172, 173, 174, 175, 176, 177, 178, 179, 180, 181, 182, 183, 184, 185, 186, 187]) (so := []) (by kernel_rfl) (by kernel_rfl) (by rfl) ?_
          refine relG_pure (i := 0) (o := ⟨some 170, _, _, _, _, _⟩) (v := ?v17) [] [5] rfl rfl (by kernel_rfl) (by kernel_rfl) (fun t w1 hB hf hbf => ?y17) ?n17
          case y17 =>
           simp only [BasF] at hbf
           clear hf
           obtain ⟨⟨b5, k5⟩, _⟩ := hbf
           have yb := boxStays YB.out hB
           have b0 := cell_of_row _ zb 0 _ _ _ yb
           have b1 := cell_of_row _ zb 1 _ _ _ yb
           have b2 := cell_of_row _ zb 2 _ _ _ yb
           have ya := boxStays YA.out hB
           have q2 := cell_of_row _ za 2 _ _ _ ya
           have yp := boxStays YP.out hB
           have r0 := cell_of_row _ z4 0 _ _ _ yp
           have r1 := cell_of_row _ z4 1 _ _ _ yp
           have r2 := cell_of_row _ z4 2 _ _ _ yp
           clear yb ya yp
           obtain ⟨p0, p1, p2, p3, p4, p5⟩ := PC.out w1 hB
           refine Or.inl ⟨wanted_none rfl, ?_⟩
           rintro _ rfl
           go_simp <;> with_reducible rfl
          refine relG_pure (i := 1) (o := ⟨some 171, _, _, _, _, _⟩) (v := ?v18) [] [7] rfl rfl (by kernel_rfl) (by kernel_rfl) (fun t w1 hB hf hbf => ?y18) ?n18
          case y18 =>
           simp only [BasF] at hbf
           clear hf
           obtain ⟨⟨b7, k7⟩, _⟩ := hbf
           have yb := boxStays YB.out hB
           have b0 := cell_of_row _ zb 0 _ _ _ yb
           have b1 := cell_of_row _ zb 1 _ _ _ yb
           have b2 := cell_of_row _ zb 2 _ _ _ yb
           have ya := boxStays YA.out hB
           have q2 := cell_of_row _ za 2 _ _ _ ya
           have yp := boxStays YP.out hB
           have r0 := cell_of_row _ z4 0 _ _ _ yp
           have r1 := cell_of_row _ z4 1 _ _ _ yp
           have r2 := cell_of_row _ z4 2 _ _ _ yp
           clear yb ya yp
           obtain ⟨p0, p1, p2, p3, p4, p5⟩ := PC.out w1 hB
           refine Or.inl ⟨wanted_none rfl, ?_⟩
           rintro _ rfl
           go_simp <;> with_reducible rfl
          refine relG_pure (i := 2) (o := ⟨some 172, _, _, _, _, _⟩) (v := ?v19) [(1, 171, 0)] [] rfl rfl (by kernel_rfl) (by kernel_rfl) (fun t w1 hB hf hbf => ?y19) ?n19
          case y19 =>
           simp only [DepF, List.getD_cons_zero] at hf
           obtain ⟨⟨_, ⟨e171, i171⟩, rfl⟩, _⟩ := hf
           clear hbf
           have yb := boxStays YB.out hB
           have b0 := cell_of_row _ zb 0 _ _ _ yb
           have b1 := cell_of_row _ zb 1 _ _ _ yb
           have b2 := cell_of_row _ zb 2 _ _ _ yb
           have ya := boxStays YA.out hB
           have q2 := cell_of_row _ za 2 _ _ _ ya
           have yp := boxStays YP.out hB
           have r0 := cell_of_row _ z4 0 _ _ _ yp
           have r1 := cell_of_row _ z4 1 _ _ _ yp
           have r2 := cell_of_row _ z4 2 _ _ _ yp
           clear yb ya yp
           obtain ⟨p0, p1, p2, p3, p4, p5⟩ := PC.out w1 hB
           refine Or.inl ⟨wanted_none rfl, ?_⟩
           rintro _ rfl
           go_simp <;> with_reducible rfl
          refine relG_pure (i := 3) (o := ⟨some 173, _, _, _, _, _⟩) (v := ?v20) [] [21] rfl rfl (by kernel_rfl) (by kernel_rfl) (fun t w1 hB hf hbf => ?y20) ?n20
          case y20 =>
           simp only [BasF] at hbf
           clear hf
           obtain ⟨⟨b21, k21⟩, _⟩ := hbf
           have yb := boxStays YB.out hB
           have b0 := cell_of_row _ zb 0 _ _ _ yb
           have b1 := cell_of_row _ zb 1 _ _ _ yb
           have b2 := cell_of_row _ zb 2 _ _ _ yb
           have ya := boxStays YA.out hB
           have q2 := cell_of_row _ za 2 _ _ _ ya
           have yp := boxStays YP.out hB
           have r0 := cell_of_row _ z4 0 _ _ _ yp
           have r1 := cell_of_row _ z4 1 _ _ _ yp
           have r2 := cell_of_row _ z4 2 _ _ _ yp
           clear yb ya yp
           obtain ⟨p0, p1, p2, p3, p4, p5⟩ := PC.out w1 hB
           refine Or.inl ⟨wanted_none rfl, ?_⟩
           rintro _ rfl
           go_simp <;> with_reducible rfl
          refine relG_pure (i := 4) (o := ⟨some 174, _, _, _, _, _⟩) (v := ?v21) [(2, 172, 1), (3, 173, 0)] [] rfl rfl (by kernel_rfl) (by kernel_rfl) (fun t w1 hB hf hbf => ?y21) ?n21
          case y21 =>
           simp only [DepF, List.getD_cons_zero, List.getD_cons_succ] at hf
           obtain ⟨⟨_, ⟨e172, i172⟩, rfl⟩, ⟨_, ⟨e173, i173⟩, rfl⟩, _⟩ := hf
           clear hbf
           have yb := boxStays YB.out hB
           have b0 := cell_of_row _ zb 0 _ _ _ yb
           have b1 := cell_of_row _ zb 1 _ _ _ yb
           have b2 := cell_of_row _ zb 2 _ _ _ yb
           have ya := boxStays YA.out hB
           have q2 := cell_of_row _ za 2 _ _ _ ya
           have yp := boxStays YP.out hB
           have r0 := cell_of_row _ z4 0 _ _ _ yp
           have r1 := cell_of_row _ z4 1 _ _ _ yp
           have r2 := cell_of_row _ z4 2 _ _ _ yp
           clear yb ya yp
           obtain ⟨p0, p1, p2, p3, p4, p5⟩ := PC.out w1 hB
           refine Or.inl ⟨wanted_none rfl, ?_⟩
           rintro _ rfl
           go_simp <;> with_reducible rfl
          refine relG_pure (i := 5) (o := ⟨some 175, _, _, _, _, _⟩) (v := ?v22) [(4, 174, 0)] [] rfl rfl (by kernel_rfl) (by kernel_rfl) (fun t w1 hB hf hbf => ?y22) ?n22
          case y22 =>
           simp only [DepF, List.getD_cons_zero] at hf
           obtain ⟨⟨_, ⟨e174, i174⟩, rfl⟩, _⟩ := hf
           clear hbf
           have yb := boxStays YB.out hB
           have b0 := cell_of_row _ zb 0 _ _ _ yb
           have b1 := cell_of_row _ zb 1 _ _ _ yb
           have b2 := cell_of_row _ zb 2 _ _ _ yb
           have ya := boxStays YA.out hB
           have q2 := cell_of_row _ za 2 _ _ _ ya
           have yp := boxStays YP.out hB
           have r0 := cell_of_row _ z4 0 _ _ _ yp
           have r1 := cell_of_row _ z4 1 _ _ _ yp
           have r2 := cell_of_row _ z4 2 _ _ _ yp
           clear yb ya yp
           obtain ⟨p0, p1, p2, p3, p4, p5⟩ := PC.out w1 hB
           refine Or.inl ⟨wanted_none rfl, ?_⟩
           rintro _ rfl
           go_simp <;> with_reducible rfl
          refine relG_call (i := 6) (o := ⟨some 176, _, _, _, _, _⟩) ((fun v _ => v = .bool true)) [(0, 170, 5), (5, 175, 0)] [] rfl rfl (by kernel_rfl) (by kernel_rfl) ((fun _ _ _ h _ => h)) ?_ ?_
          · intro t w1 hB hf hbf K hK
            simp only [DepF, List.getD_cons_zero, List.getD_cons_succ] at hf
            obtain ⟨⟨_, ⟨e170, i170⟩, rfl⟩, ⟨_, ⟨e175, i175⟩, rfl⟩, _⟩ := hf
            clear hbf
            have yb := boxStays YB.out hB
            have b0 := cell_of_row _ zb 0 _ _ _ yb
            have b1 := cell_of_row _ zb 1 _ _ _ yb
            have b2 := cell_of_row _ zb 2 _ _ _ yb
            have ya := boxStays YA.out hB
            have q2 := cell_of_row _ za 2 _ _ _ ya
            have yp := boxStays YP.out hB
            have r0 := cell_of_row _ z4 0 _ _ _ yp
            have r1 := cell_of_row _ z4 1 _ _ _ yp
            have r2 := cell_of_row _ z4 2 _ _ _ yp
            clear yb ya yp
            obtain ⟨p0, p1, p2, p3, p4, p5⟩ := PC.out w1 hB
            refine ⟨wanted_none rfl, ?_⟩
            go_simp
            refine (kn_has k0 m0 l0 a1 n1 c1 y w1 (CB.out w1 hB) N1.out.1 LB1.out.1).mono ?_
            rintro e w2 ⟨rfl, hb⟩
            exact hK.out _ w2 (by rw [H1.out]) hb
          refine relG_pure (i := 7) (o := ⟨some 177, _, _, _, _, _⟩) (v := ?v23) [(6, 176, 0)] [] rfl rfl (by kernel_rfl) (by kernel_rfl) (fun t w1 hB hf hbf => ?y23) ?n23
          case y23 =>
           simp only [DepF, List.getD_cons_zero] at hf
           obtain ⟨⟨_, ⟨e176, i176⟩, rfl⟩, _⟩ := hf
           clear hbf
           have yb := boxStays YB.out hB
           have b0 := cell_of_row _ zb 0 _ _ _ yb
           have b1 := cell_of_row _ zb 1 _ _ _ yb
           have b2 := cell_of_row _ zb 2 _ _ _ yb
           have ya := boxStays YA.out hB
           have q2 := cell_of_row _ za 2 _ _ _ ya
           have yp := boxStays YP.out hB
           have r0 := cell_of_row _ z4 0 _ _ _ yp
           have r1 := cell_of_row _ z4 1 _ _ _ yp
           have r2 := cell_of_row _ z4 2 _ _ _ yp
           clear yb ya yp
           obtain ⟨p0, p1, p2, p3, p4, p5⟩ := PC.out w1 hB
           refine Or.inl ⟨wanted_none rfl, ?_⟩
           rintro _ rfl
           go_simp <;> with_reducible rfl
          refine relG_pure (i := 8) (o := ⟨some 178, _, _, _, _, _⟩) (v := ?v24) [(7, 177, 0)] [] rfl rfl (by kernel_rfl) (by kernel_rfl) (fun t w1 hB hf hbf => ?y24) ?n24
          case y24 =>
           simp only [DepF, List.getD_cons_zero] at hf
           obtain ⟨⟨_, ⟨e177, i177⟩, rfl⟩, _⟩ := hf
           clear hbf
           have yb := boxStays YB.out hB
           have b0 := cell_of_row _ zb 0 _ _ _ yb
           have b1 := cell_of_row _ zb 1 _ _ _ yb
           have b2 := cell_of_row _ zb 2 _ _ _ yb
           have ya := boxStays YA.out hB
           have q2 := cell_of_row _ za 2 _ _ _ ya
           have yp := boxStays YP.out hB
           have r0 := cell_of_row _ z4 0 _ _ _ yp
           have r1 := cell_of_row _ z4 1 _ _ _ yp
           have r2 := cell_of_row _ z4 2 _ _ _ yp
           clear yb ya yp
           obtain ⟨p0, p1, p2, p3, p4, p5⟩ := PC.out w1 hB
           refine Or.inl ⟨wanted_none rfl, ?_⟩
           rintro _ rfl
           go_simp <;> with_reducible rfl
          refine relG_pure (i := 9) (o := ⟨some 179, _, _, _, _, _⟩) (v := undef) [(8, 178, 0)] [11] rfl rfl (by kernel_rfl) (by kernel_rfl) (fun t w1 hB hf hbf => ?_) ?_
          · simp only [DepF, List.getD_cons_zero] at hf
            obtain ⟨⟨_, ⟨e178, i178⟩, rfl⟩, _⟩ := hf
            exact Or.inr ⟨(by have hg := getD_some i178; simp [Region.wanted, yielded, hg]), rfl⟩
          refine relG_pure (i := 10) (o := ⟨some 180, _, _, _, _, _⟩) (v := undef) [(8, 178, 1)] [7] rfl rfl (by kernel_rfl) (by kernel_rfl) (fun t w1 hB hf hbf => ?_) ?_
          · simp only [DepF, List.getD_cons_zero, List.getD_cons_succ] at hf
            obtain ⟨⟨_, ⟨e178, i178⟩, rfl⟩, _⟩ := hf
            exact Or.inr ⟨(by have hg := getD_some i178; simp [Region.wanted, yielded, hg]), rfl⟩
          refine relG_pure (i := 11) (o := ⟨some 181, _, _, _, _, _⟩) (v := undef) [(10, 180, 0), (8, 178, 2)] [] rfl rfl (by kernel_rfl) (by kernel_rfl) (fun t w1 hB hf hbf => ?_) ?_
          · simp only [DepF, List.getD_cons_zero, List.getD_cons_succ] at hf
            obtain ⟨⟨_, ⟨e180, i180⟩, rfl⟩, ⟨_, ⟨e178, i178⟩, rfl⟩, _⟩ := hf
            exact Or.inr ⟨(by have hg := getD_some i178; simp [Region.wanted, yielded, hg]), rfl⟩
          refine relG_pure (i := 12) (o := ⟨some 182, _, _, _, _, _⟩) (v := undef) [(8, 178, 3)] [21] rfl rfl (by kernel_rfl) (by kernel_rfl) (fun t w1 hB hf hbf => ?_) ?_
          · simp only [DepF, List.getD_cons_zero, List.getD_cons_succ] at hf
            obtain ⟨⟨_, ⟨e178, i178⟩, rfl⟩, _⟩ := hf
            exact Or.inr ⟨(by have hg := getD_some i178; simp [Region.wanted, yielded, hg]), rfl⟩
          refine relG_pure (i := 13) (o := ⟨some 183, _, _, _, _, _⟩) (v := undef) [(11, 181, 1), (12, 182, 0), (8, 178, 4)] [] rfl rfl (by kernel_rfl) (by kernel_rfl) (fun t w1 hB hf hbf => ?_) ?_
          · simp only [DepF, List.getD_cons_zero, List.getD_cons_succ] at hf
            obtain ⟨⟨_, ⟨e181, i181⟩, rfl⟩, ⟨_, ⟨e182, i182⟩, rfl⟩, ⟨_, ⟨e178, i178⟩, rfl⟩, _⟩ := hf
            exact Or.inr ⟨(by have hg := getD_some i178; simp [Region.wanted, yielded, hg]), rfl⟩
          refine relG_pure (i := 14) (o := ⟨some 184, _, _, _, _, _⟩) (v := undef) [(13, 183, 0), (8, 178, 5)] [] rfl rfl (by kernel_rfl) (by kernel_rfl) (fun t w1 hB hf hbf => ?_) ?_
          · simp only [DepF, List.getD_cons_zero, List.getD_cons_succ] at hf
            obtain ⟨⟨_, ⟨e183, i183⟩, rfl⟩, ⟨_, ⟨e178, i178⟩, rfl⟩, _⟩ := hf
            exact Or.inr ⟨(by have hg := getD_some i178; simp [Region.wanted, yielded, hg]), rfl⟩
          refine relG_pure (i := 15) (o := ⟨some 185, _, _, _, _, _⟩) (v := undef) [(9, 179, 5), (14, 184, 0), (8, 178, 6)] [] rfl rfl (by kernel_rfl) (by kernel_rfl) (fun t w1 hB hf hbf => ?_) ?_
          · simp only [DepF, List.getD_cons_zero, List.getD_cons_succ] at hf
            obtain ⟨⟨_, ⟨e179, i179⟩, rfl⟩, ⟨_, ⟨e184, i184⟩, rfl⟩, ⟨_, ⟨e178, i178⟩, rfl⟩, _⟩ := hf
            exact Or.inr ⟨(by have hg := getD_some i178; simp [Region.wanted, yielded, hg]), rfl⟩
          refine relG_pure (i := 16) (o := ⟨some 186, _, _, _, _, _⟩) (v := undef) [(15, 185, 0), (8, 178, 7)] [] rfl rfl (by kernel_rfl) (by kernel_rfl) (fun t w1 hB hf hbf => ?_) ?_
          · simp only [DepF, List.getD_cons_zero, List.getD_cons_succ] at hf
            obtain ⟨⟨_, ⟨e185, i185⟩, rfl⟩, ⟨_, ⟨e178, i178⟩, rfl⟩, _⟩ := hf
            exact Or.inr ⟨(by have hg := getD_some i178; simp [Region.wanted, yielded, hg]), rfl⟩
          refine relG_pure (i := 17) (o := ⟨some 187, _, _, _, _, _⟩) (v := ?v25) [(8, 178, 8), (16, 186, 0)] [] rfl rfl (by kernel_rfl) (by kernel_rfl) (fun t w1 hB hf hbf => ?y25) ?n25
          case y25 =>
           simp only [DepF, List.getD_cons_zero, List.getD_cons_succ] at hf
           obtain ⟨⟨_, ⟨e178, i178⟩, rfl⟩, ⟨_, ⟨e186, i186⟩, rfl⟩, _⟩ := hf
           clear hbf
           have yb := boxStays YB.out hB
           have b0 := cell_of_row _ zb 0 _ _ _ yb
           have b1 := cell_of_row _ zb 1 _ _ _ yb
           have b2 := cell_of_row _ zb 2 _ _ _ yb
           have ya := boxStays YA.out hB
           have q2 := cell_of_row _ za 2 _ _ _ ya
           have yp := boxStays YP.out hB
           have r0 := cell_of_row _ z4 0 _ _ _ yp
           have r1 := cell_of_row _ z4 1 _ _ _ yp
           have r2 := cell_of_row _ z4 2 _ _ _ yp
           clear yb ya yp
           obtain ⟨p0, p1, p2, p3, p4, p5⟩ := PC.out w1 hB
           refine Or.inl ⟨wanted_none rfl, ?_⟩
           rintro _ rfl
           go_simp <;> with_reducible rfl
          refine relG_done [(17, 187, 0)] (by kernel_rfl) rfl (by kernel_rfl) (fun f wE hB hf => ?_)
          simp only [FinF, List.getD_cons_zero] at hf
          obtain ⟨⟨_, e187, rfl⟩, _⟩ := hf
          rw [regT_run (s := 170) (n := 18)]
          case h => rfl
          case hb => exact Nat.le_of_ble_eq_true (by kernel_rfl)
          simp only [List.take_succ_cons, List.take_zero, List.map_cons, List.map_nil, List.drop_succ_cons, List.drop_zero, List.cons_append, List.nil_append, e187]
          clear e187
          have HBD := Lib.hid hB
          clear hB
          go_wp2_with fail
          go_meet
          exact ⟨rfl, HBD⟩
       case rest =>
        obtain ⟨rfl, HBC⟩ := hcut
        obtain ⟨wE, rfl⟩ : ∃ X : World, X = wc := ⟨_, rfl⟩
        have hb := HBC.out
        replace HC := Lib.hid (HC.out.push hb)
        clear hb
        clear HBC
        go_wp2_with fail
        go_roundw
        case rel => exact ⟨j + 1, _, rfl, by go_num, by omega, Lib.hid (HC.out.to wq (by simp))⟩
        case measure => simp [intOf]; omega
     · obtain rfl : j = n2 := by omega
       have hlj : ¬ (j : Int) < (j : Int) := by omega
       have kP0 := cell_of_row _ _ 0 _ _ _ (boxStays HP.out (HC.out.to w13 (by simp)))
       have kP1 := cell_of_row _ _ 1 _ _ _ (boxStays HP.out (HC.out.to w13 (by simp)))
       have kP2 := cell_of_row _ _ 2 _ _ _ (boxStays HP.out (HC.out.to w13 (by simp)))
       have kB0 := cell_of_row _ _ 0 _ _ _ (boxStays HB.out (HC.out.to w7 (by simp)))
       have kB1 := cell_of_row _ _ 1 _ _ _ (boxStays HB.out (HC.out.to w7 (by simp)))
       have kB2 := cell_of_row _ _ 2 _ _ _ (boxStays HB.out (HC.out.to w7 (by simp)))
       have kA0 := cell_of_row _ _ 0 _ _ _ (boxStays HA.out (HC.out.to w9 (by simp)))
       have kA1 := cell_of_row _ _ 1 _ _ _ (boxStays HA.out (HC.out.to w9 (by simp)))
       have kA2 := cell_of_row _ _ 2 _ _ _ (boxStays HA.out (HC.out.to w9 (by simp)))
       have kD0 := cell_of_row _ _ 0 _ _ _ (boxStays HD.out (HC.out.to w11 (by simp)))
       have kD1 := cell_of_row _ _ 1 _ _ _ (boxStays HD.out (HC.out.to w11 (by simp)))
       have kD2 := cell_of_row _ _ 2 _ _ _ (boxStays HD.out (HC.out.to w11 (by simp)))
       obtain ⟨d1, e1⟩ : ∃ x, IntKind.i64.wrap (M - m0) = x := ⟨_, rfl⟩
       obtain ⟨d2, e2⟩ : ∃ x, IntKind.i64.wrap (ma - m0) = x := ⟨_, rfl⟩
       obtain ⟨d3, e3⟩ : ∃ x, IntKind.i64.wrap (d2 + mb) = x := ⟨_, rfl⟩
       have e4 : IntKind.i64.wrap (d3 - m0) = d1 := by rw [← e1, NUM.out, e2, e3]
       clear hj hlt
       go_wp2_with fail
       go_ret
       exact ⟨rfl, (HC.out.to w (by simp))⟩
end Go.Proofs.YtjlliohjeiclaaaDoor
namespace Go.Proofs.YtjlliohjeiclaaaDoor
open Go.ChangeShapes Go.WideShapes Go.ChangeAt Go.RowKit Go.Deep
section
variable {H : Type} {enc : TypeId × Value → H} {P : Program} {w : World} {base : Nat} {held : Bool}
theorem spot_none {a : Addr} {v : Value} (h : w.cell? (a.add 0) = some v) : ∃ b off, a = ⟨b, off, none⟩ := by
 obtain ⟨b, off, spot⟩ := a
 have hs : spot = none := by simpa [Addr.add] using World.cell?_spot h
 subst hs
 exact ⟨b, off, rfl⟩
theorem open_strings_cells {t e : TypeId} {fuel : Nat} {a0 : Option Addr} {len cap : Nat} {x : DataW H × List MemPlace} (ht : P.underlying t = some (.slice e)) (he : P.underlying e = some .string)
 (ce : P.cellsOf e = 1) (h : DataW.trod enc P w base (fun _ => true) held fuel t (Value.slice a0 len cap).cells.toList = some x) :
 ∃ l : List ByteArray, len = l.length ∧ CellsAt w a0 (l.map Value.string) ∧ l.length ≤ maxLen ∧ len ≤ cap ∧ ∀ s ∈ l, s.size ≤ maxLen := by
 rcases open_strings ht he ce h with ⟨hcs, _⟩ | ⟨a, l, c, zs, hcs, _, hl, hm, hz, hx, hcell, hwz⟩
 · simp [Value.cells] at hcs
   obtain ⟨rfl, rfl, rfl⟩ := hcs
   exact ⟨[], rfl, CellsAt.nil _ _, Nat.zero_le _, Nat.le_refl _, fun n hn => by simp at hn⟩
 · have hz' : zs.length = c := by simpa using hz
   simp [Value.cells] at hcs
   obtain ⟨rfl, rfl, rfl⟩ := hcs
   refine ⟨zs.take len, by simp; omega, fun i hi => ?_, by simp; omega, hl, fun n hn => hwz n (List.mem_of_mem_take hn)⟩
   have hi' : i < len ∧ i < zs.length := by simp at hi; omega
   obtain ⟨b, off, rfl⟩ := spot_none (hcell 0 (by omega))
   refine ⟨b, off, rfl, ?_⟩
   have h0 := hcell i (by omega)
   rw [Addr_add] at h0
   rw [h0]
   simp [hi'.2]
end
end Go.Proofs.YtjlliohjeiclaaaDoor
namespace Go.Proofs.YtjlliohjeiclaaaDoor
open Go.ChangeShapes Go.WideShapes Go.ChangeAt Go.RowKit Go.Deep St Ku
section
variable {H : Type} {enc : TypeId × Value → H} {w : World} {base : Nat} {held : Bool}
theorem maxLen_small {n : Nat} (h : n ≤ maxLen) : n ≤ 9223372036854775807 := by unfold maxLen at h; omega
end
theorem laid_eq1 : (Rows.laid_unicode_utf8_acceptRanges : DataW Unit) = Lib.acceptData := by kernel_rfl
theorem laid_eq2 : Rows.laid_unicode_utf8_first = Lib.firstData := by kernel_rfl
theorem glob_of {W : World} (hL : laidMetH Tryd.prog [("unicode/utf8.acceptRanges", Rows.laid_unicode_utf8_acceptRanges), ("unicode/utf8.first", Rows.laid_unicode_utf8_first)] W) (hS : W.ShapedOpen Tryd.prog) : Glob W := by
 refine ⟨utf8Tabs_of_readsT (U8Types.of196 lay196) ⟨by kernel_rfl, by kernel_rfl, by kernel_rfl, by kernel_rfl, by kernel_rfl, by kernel_rfl, by kernel_rfl⟩ ?_ ?_, ?_⟩
 · rw [← laid_eq2]; exact Lib.laidMet.reads hL (.tail _ (.head _))
 · rw [← laid_eq1]; exact Lib.laidMet.reads hL (.head _)
 · exact cell_of_shapedOpen_int (P := Tryd.prog) (g := 2) (t := 3) (zero := #[.int .i64 0]) hS (of_decide_eq_true (by kernel_rfl)) (by kernel_rfl) rfl (by kernel_rfl) (by kernel_rfl) Tryd.underlying3
noncomputable def laidWorld (os : Os) : World :=
 let w0 := World.holding Tryd.prog os ⟨#[], #[], []⟩
 let put (h : Array Obj) (g : Nat) (cs : Array Value) : Array Obj := h.modify g fun
  | .cells _ t frozen => .cells cs t frozen
  | o => o
 let h1 := put w0.heap 0 (Lib.firstTab.map fun z => Value.int .u8 z).toArray
 let h2 := put h1 1 ((List.range 16).flatMap fun i => [Value.int .u8 (Lib.accLo i), Value.int .u8 (Lib.accHi i)]).toArray
 { w0 with heap := h2 }
theorem laid_met (os : Os) (args : Array Value) : laidMet Tryd.prog [("unicode/utf8.acceptRanges", Rows.laid_unicode_utf8_acceptRanges), ("unicode/utf8.first", Rows.laid_unicode_utf8_first)] ((laidWorld os).forCall (fun _ _ => 0) ⟨#[], args, []⟩).memory :=
 (LaidIn.of_run (l := [("unicode/utf8.acceptRanges", Rows.laid_unicode_utf8_acceptRanges), ("unicode/utf8.first", Rows.laid_unicode_utf8_first)]) [1, 0] 8 (by kernel_rfl) (by kernel_rfl) (by kernel_rfl) (by kernel_rfl)).met
end Go.Proofs.YtjlliohjeiclaaaDoor
