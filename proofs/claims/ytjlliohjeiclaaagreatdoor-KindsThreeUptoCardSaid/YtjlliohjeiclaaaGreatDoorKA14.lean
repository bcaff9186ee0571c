/- Words, contracts and walks that the proof stands on (KqD OpenC OpenK OpenR OpenV). -/
import Derived.Deep.DeepHandedRow
import Derived.Deep.DeepWitnessRowRef
import Derived.Deep.Grids
import Derived.Deep.Slices
import Derived.Lib.LaidIn
import Derived.Lib.LaidU8T
import Derived.OpenShut
import Derived.ProofKit
import Derived.Shelf.Vars
import Derived.SliceStrings
import Derived.Test.YtjlliohjeiclaaaGreatDoorCards
import Derived.Test.YtjlliohjeiclaaaGreatDoorKA13
import Derived.Test.YtjlliohjeiclaaaGreatDoorKA2
import Derived.Test.YtjlliohjeiclaaaGreatDoorKA3
import Derived.Test.YtjlliohjeiclaaaGreatDoorTie
namespace Go.Proofs.YtjlliohjeiclaaaGreatDoor
open Go.RowKit St Pm Ku Kn
namespace Kn
structure GrS (S : Nat → Prop) (w w' : World) : Prop where
 os : w'.os = w.os
 tape : w'.tape = w.tape
 output : w'.output = w.output
 size : w.heap.size ≤ w'.heap.size
 block : ∀ k, k < w.heap.size → ¬ S k → w'.heap[k]? = w.heap[k]?
theorem GrS.refl (S : Nat → Prop) (w : World) : GrS S w w := ⟨rfl, rfl, rfl, Nat.le_refl _, fun _ _ _ => rfl⟩
theorem GrS.grown {S : Nat → Prop} {w w1 w2 : World} {g : Nat} (h : GrS S w w1) (hg : w1.grownBy w2 (some g)) (hs : S g) : GrS S w w2 :=
 ⟨hg.os.trans h.os, hg.tape.trans h.tape, hg.output.trans h.output, Nat.le_trans h.size hg.size, fun k hk hn => (hg.block k (Nat.lt_of_lt_of_le hk h.size) (fun e => hn (Option.some.inj e ▸ hs))).trans (h.block k hk hn)⟩
theorem GrS.below {S : Nat → Prop} {w w1 w2 : World} (h : GrS S w w1) (hb : Below w1.heap.size w1 w2) : GrS S w w2 :=
 ⟨hb.os.trans h.os, hb.tape.trans h.tape, hb.output.trans h.output, Nat.le_trans h.size hb.size, fun k hk hn => (hb.block k (Nat.lt_of_lt_of_le hk h.size)).trans (h.block k hk hn)⟩
theorem GrS.box {S : Nat → Prop} {w w' : World} {b : Nat} {o : Obj} (h : GrS S w w') (hb : w.heap[b]? = some o) (hn : ¬ S b) : w'.heap[b]? = some o := (h.block b (Array.getElem?_eq_some_iff.1 hb).1 hn).trans hb
theorem GrS.cells {S : Nat → Prop} {w w' : World} {a : Option Addr} {l : List Ev} (h : GrS S w w') (hc : CellsAt w a (elsV l)) (hn : l ≠ [] → ∀ ad, a = some ad → ¬ S ad.block) : CellsAt w' a (elsV l) := by
 by_cases h0 : l = []
 · subst h0; exact CellsAt.nil _ _
 · intro i hi
   obtain ⟨b, off, rfl, h1⟩ := hc i hi
   refine ⟨b, off, rfl, ?_⟩
   have h2 := cell_lt h1
   have h3 := h.block b h2 (hn h0 _ rfl)
   unfold World.cell? at h1 ⊢
   simp only [h3]
   exact h1
theorem GrS.bel {S : Nat → Prop} {B : Nat} {a w w' : World} (h : GrS S w w') (hb : Below B a w) (hB : B ≤ w.heap.size) (hs : ∀ k, S k → B ≤ k) : Below B a w' :=
 ⟨h.os.trans hb.os, h.tape.trans hb.tape, h.output.trans hb.output, Nat.le_trans hb.size h.size, fun k hk => (h.block k (Nat.lt_of_lt_of_le hk hB) (fun hs' => by have := hs k hs'; omega)).trans (hb.block k hk)⟩
end Kn
open Kn
theorem cells_inL {w : World} {a : Option Addr} {l : List Ev} (h : CellsAt w a (elsV l)) (hne : l ≠ []) : ∀ ad, a = some ad → ad.block < w.heap.size := by
 intro ad had
 cases l with
 | nil => exact absurd rfl hne
 | cons e l =>
  obtain ⟨b, off, e1, hc⟩ := h 0 (by simp [elsV, elV])
  rw [e1] at had
  cases had
  exact cell_lt hc
theorem own_pre {w : World} {B g n cc : Nat} {l : List Ev} (h : w.ownsRow B 53 6 (.slice (some ⟨g, 0, none⟩) (n + 1) cc) (n + 1) (elsV (l ++ [markE]))) : CellsAt w (some ⟨g, 0, none⟩) (elsV l) := by
 have h := CellsAt.ownN h
 rw [elsV_append] at h
 intro i hi
 obtain ⟨b, o, e, hc⟩ := h i (by rw [List.length_append]; omega)
 rw [List.getElem_append_left hi] at hc
 exact ⟨b, o, e, hc⟩
theorem threeG_len (base A B : List Ev) : (threeG base A B).length ≤ A.length + B.length := by
 unfold threeG
 rw [List.length_map]
 have := elsF_length (base.map toE) (A.map toE) (B.map toE) _ (A.map toE) (B.map toE) (Nat.le_refl _)
 simpa using this
theorem kn_numC (e : Int) (w : World) : Calls Tryz.prog 41 #[.int .i64 e] w fun r w' => r = .returned (.int .i64 e) ∧ Below w.heap.size w w' := (kn_num e w).mono fun _ _ ⟨h1, h2⟩ => ⟨h1, by rw [h2]; exact Below.refl _ _⟩
set_option maxRecDepth 100000 in
set_option maxHeartbeats 16000000 in
theorem law_KThree (k1 m1 : Int) (l1 : List Ev) (a1 : Option Addr) (n1 c1 : Nat) (k2 m2 : Int) (l2 : List Ev) (a2 : Option Addr) (n2 c2 : Nat) (k3 m3 : Int) (l3 : List Ev) (a3 : Option Addr) (n3 c3 : Nat) (w : World)
 (h1 : CellsAt w a1 (elsV l1)) (h2 : CellsAt w a2 (elsV l2)) (h3 : CellsAt w a3 (elsV l3)) (hn1 : n1 = l1.length) (hn2 : n2 = l2.length) (hn3 : n3 = l3.length)
 (z1 : ∀ e ∈ l1, e.1.l.size ≤ 9223372036854775807) (z2 : ∀ e ∈ l2, e.1.l.size ≤ 9223372036854775807) (z3 : ∀ e ∈ l3, e.1.l.size ≤ 9223372036854775807) (hs : n1 + n2 + n3 ≤ 4611686018427387904) (hG : Glob w) :
 Calls Tryz.prog 7 #[.agg #[.int .i64 k1, .int .i64 m1, .slice a1 n1 c1, .int .i64 k2, .int .i64 m2, .slice a2 n2 c2, .int .i64 k3, .int .i64 m3, .slice a3 n3 c3]] w fun e w' => e = .returned (.bool true) ∧ Below w.heap.size w w' := by
 have H1 := Lib.hid h1
 have H2 := Lib.hid h2
 have H3 := Lib.hid h3
 have N1 := Lib.hid hn1
 have N2 := Lib.hid hn2
 have N3 := Lib.hid hn3
 have Z1 := Lib.hid z1
 have Z2 := Lib.hid z2
 have Z3 := Lib.hid z3
 have G := Lib.hid hG
 clear h1 h2 h3 hn1 hn2 hn3 z1 z2 z3 hG
 have HC : Hid (Chain [w] w) := Lib.hid (Chain.one w)
 go_enter Tryz.func7, Tryz.ntmps7
 go_upto_region 1 with (fail)
 obtain ⟨z, hz⟩ : ∃ c, w.heap.size = c := ⟨_, rfl⟩
 try rw [hz]
 obtain ⟨w1, hw1⟩ : ∃ X, allocs w [.cells #[.int .i64 k1, .int .i64 m1, .slice a1 n1 c1, .int .i64 k2, .int .i64 m2, .slice a2 n2 c2, .int .i64 k3, .int .i64 m3, .slice a3 n3 c3] 96] = X := ⟨_, rfl⟩
 rw [show w.alloc (.cells #[.int .i64 k1, .int .i64 m1, .slice a1 n1 c1, .int .i64 k2, .int .i64 m2, .slice a2 n2 c2, .int .i64 k3, .int .i64 m3, .slice a3 n3 c3] 96) = w1 from hw1]
 have hb : Below w.heap.size w w1 := by rw [← hw1]; exact allocs_below _ _
 have HL : Hid (w1.heap[z]? = some (.cells #[.int .i64 k1, .int .i64 m1, .slice a1 n1 c1, .int .i64 k2, .int .i64 m2, .slice a2 n2 c2, .int .i64 k3, .int .i64 m3, .slice a3 n3 c3] 96 (0, 0))) := Lib.hid (by have := allocs_get [.cells #[.int .i64 k1, .int .i64 m1, .slice a1 n1 c1, .int .i64 k2, .int .i64 m2, .slice a2 n2 c2, .int .i64 k3, .int .i64 m3, .slice a3 n3 c3] 96] w 0 _ rfl; rw [hw1, hz] at this; exact this)
 have Sz : Hid (w.heap.size = z) := Lib.hid hz
 replace HC := Lib.hid (HC.out.push hb)
 clear hb hw1 hz
 have kL0 := cell_of_row _ _ 0 _ _ _ HL.out
 have kL1 := cell_of_row _ _ 1 _ _ _ HL.out
 have kL2 := cell_of_row _ _ 2 _ _ _ HL.out
 have kL3 := cell_of_row _ _ 3 _ _ _ HL.out
 have kL4 := cell_of_row _ _ 4 _ _ _ HL.out
 have kL5 := cell_of_row _ _ 5 _ _ _ HL.out
 have kL6 := cell_of_row _ _ 6 _ _ _ HL.out
 have kL7 := cell_of_row _ _ 7 _ _ _ HL.out
 have kL8 := cell_of_row _ _ 8 _ _ _ HL.out
 go_wp2_with fail
 refine (kr_much [⟨k1, m1, l1, a1, n1, c1⟩, ⟨k2, m2, l2, a2, n2, c2⟩, ⟨k3, m3, l3, a3, n3, c3⟩] _ 3 3 _ (CellsAt.new w1 79 (0, 0) ([⟨k1, m1, l1, a1, n1, c1⟩, ⟨k2, m2, l2, a2, n2, c2⟩, ⟨k3, m3, l3, a3, n3, c3⟩].flatMap vcV)) rfl (by omega) (by show n1 + (n2 + (n3 + 0)) ≤ _; omega)).mono ?_
 rintro _ w2 ⟨rfl, hb2⟩
 have hb : Below w1.heap.size w1 w2 := (below_new w1 _).trans (hb2.mono (by rw [World.size_alloc]; omega))
 clear kL0 kL1 kL2 kL3 kL4 kL5 kL6 kL7 kL8
 replace HC := Lib.hid (HC.out.push hb)
 clear hb
 clear hb2
 rw [show ([⟨k1, m1, l1, a1, n1, c1⟩, ⟨k2, m2, l2, a2, n2, c2⟩, ⟨k3, m3, l3, a3, n3, c3⟩] : List Vc).map (·.n) = [n1, n2, n3] from rfl, show [n1, n2, n3].sum = n1 + n2 + n3 from by simp; omega]
 by_cases hmu : 400 < n1 + n2 + n3
 case pos =>
  have e1 : decide (400 < n1 + n2 + n3) = true := decide_eq_true hmu
  go_wp2_with fail
  refine (known_09 _ (G.out.below (HC.out.to w (by simp)))).mono ?_
  rintro e w3 ⟨rfl, hb⟩
  replace HC := Lib.hid (HC.out.push hb)
  clear hb
  go_wp2_with fail
  go_ret
  exact ⟨rfl, (HC.out.to w (by simp))⟩
 have e1 : decide (400 < n1 + n2 + n3) = false := decide_eq_false hmu
 rw [e1]
 clear e1
 go_upto_region 3 with (fail)
 have BW := Lib.hid (HC.out.to w (by simp))
 have XL := Lib.hid (boxStays HL.out (HC.out.to w1 (by simp)))
 have ZL : Hid (w.heap.size ≤ z ∧ z < w2.heap.size) := Lib.hid ⟨by have := Sz.out; omega, (Array.getElem?_eq_some_iff.1 XL.out).1⟩
 have C1 : Hid (∀ W, Below w2.heap.size w2 W → CellsAt W a1 (elsV l1)) := Lib.hid (fun W hW => (H1.out.below BW.out rfl).below hW rfl)
 have C2 : Hid (∀ W, Below w2.heap.size w2 W → CellsAt W a2 (elsV l2)) := Lib.hid (fun W hW => (H2.out.below BW.out rfl).below hW rfl)
 have C3 : Hid (∀ W, Below w2.heap.size w2 W → CellsAt W a3 (elsV l3)) := Lib.hid (fun W hW => (H3.out.below BW.out rfl).below hW rfl)
 clear HC HL
 refine relF_start (slots := [20, 21, 22, 23, 24, 25, 26, 27, 28, 3, 4, 5]) (so := [2, 5, 8, 9, 10, 11]) (by kernel_rfl) (by kernel_rfl) (by rfl) ?_
 refine relF_pure (i := 0) (o := ⟨some 20, _, _, _, _, _⟩) (v := ?v1) (by rfl) [] [1] rfl rfl (by kernel_rfl) (by kernel_rfl) (fun t w1 hB hf hbf => ?y1) ?n1
 case y1 =>
  simp only [BasF] at hbf
  clear hf
  obtain ⟨⟨b1, k1⟩, _⟩ := hbf
  have yl := boxStays XL.out hB
  have x0 := cell_of_row _ z 0 _ _ _ yl
  have x1 := cell_of_row _ z 1 _ _ _ yl
  have x2 := cell_of_row _ z 2 _ _ _ yl
  have x3 := cell_of_row _ z 3 _ _ _ yl
  have x4 := cell_of_row _ z 4 _ _ _ yl
  have x5 := cell_of_row _ z 5 _ _ _ yl
  have x6 := cell_of_row _ z 6 _ _ _ yl
  have x7 := cell_of_row _ z 7 _ _ _ yl
  have x8 := cell_of_row _ z 8 _ _ _ yl
  clear yl
  refine Or.inl ⟨wanted_none rfl, ?_⟩
  rintro _ rfl
  go_simp <;> with_reducible rfl
 refine relF_pure (i := 1) (o := ⟨some 21, _, _, _, _, _⟩) (v := ?v2) (by rfl) [(0, 20, 0)] [] rfl rfl (by kernel_rfl) (by kernel_rfl) (fun t w1 hB hf hbf => ?y2) ?n2
 case y2 =>
  simp only [DepF, List.getD_cons_zero] at hf
  obtain ⟨⟨_, ⟨e20, i20⟩, rfl⟩, _⟩ := hf
  clear hbf
  have yl := boxStays XL.out hB
  have x0 := cell_of_row _ z 0 _ _ _ yl
  have x1 := cell_of_row _ z 1 _ _ _ yl
  have x2 := cell_of_row _ z 2 _ _ _ yl
  have x3 := cell_of_row _ z 3 _ _ _ yl
  have x4 := cell_of_row _ z 4 _ _ _ yl
  have x5 := cell_of_row _ z 5 _ _ _ yl
  have x6 := cell_of_row _ z 6 _ _ _ yl
  have x7 := cell_of_row _ z 7 _ _ _ yl
  have x8 := cell_of_row _ z 8 _ _ _ yl
  clear yl
  refine Or.inl ⟨wanted_none rfl, ?_⟩
  rintro _ rfl
  go_simp <;> with_reducible rfl
 refine relF_own (i := 2) (o := ⟨some 22, _, _, _, _, _⟩) (by rfl) ((fun v w' => ∃ g cc, v = .agg #[.int .i64 k1, .int .i64 m1, .slice (some ⟨g, 0, none⟩) n1 cc] ∧ w'.ownsRow w2.heap.size 53 6 (.slice (some ⟨g, 0, none⟩) (n1 + 1) cc) (n1 + 1) (elsV (l1 ++ [markE])))) [(1, 21, 0)] [] rfl rfl (by kernel_rfl) (by kernel_rfl) ((fun v w' w'' h hb => by obtain ⟨g, cc, e, h⟩ := h; exact ⟨g, cc, e, own_below h hb (fun k' hk => (h.lt k' hk).2)⟩)) ?_ ?_
 · intro t w1 hB hf hbf K hK
   simp only [DepF, List.getD_cons_zero] at hf
   obtain ⟨⟨_, ⟨e21, i21⟩, rfl⟩, _⟩ := hf
   clear hbf
   have yl := boxStays XL.out hB
   have x0 := cell_of_row _ z 0 _ _ _ yl
   have x1 := cell_of_row _ z 1 _ _ _ yl
   have x2 := cell_of_row _ z 2 _ _ _ yl
   have x3 := cell_of_row _ z 3 _ _ _ yl
   have x4 := cell_of_row _ z 4 _ _ _ yl
   have x5 := cell_of_row _ z 5 _ _ _ yl
   have x6 := cell_of_row _ z 6 _ _ _ yl
   have x7 := cell_of_row _ z 7 _ _ _ yl
   have x8 := cell_of_row _ z 8 _ _ _ yl
   clear yl
   refine ⟨wanted_none rfl, ?_⟩
   go_simp
   refine (kr_copied k1 m1 l1 a1 n1 c1 w1 (C1.out w1 hB) N1.out (by omega)).mono ?_
   rintro e w2 ⟨g', cc', rfl, h1, hb⟩
   exact hK.out _ w2 (⟨g', cc', rfl, own_mono h1 hB.size⟩) hb ((h1.lt g' rfl).1) ((h1.lt g' rfl).2)
 refine relF_pure (i := 3) (o := ⟨some 23, _, _, _, _, _⟩) (v := ?v3) (by rfl) [] [1] rfl rfl (by kernel_rfl) (by kernel_rfl) (fun t w1 hB hf hbf => ?y3) ?n3
 case y3 =>
  simp only [BasF] at hbf
  clear hf
  obtain ⟨⟨b1, k1⟩, _⟩ := hbf
  have yl := boxStays XL.out hB
  have x0 := cell_of_row _ z 0 _ _ _ yl
  have x1 := cell_of_row _ z 1 _ _ _ yl
  have x2 := cell_of_row _ z 2 _ _ _ yl
  have x3 := cell_of_row _ z 3 _ _ _ yl
  have x4 := cell_of_row _ z 4 _ _ _ yl
  have x5 := cell_of_row _ z 5 _ _ _ yl
  have x6 := cell_of_row _ z 6 _ _ _ yl
  have x7 := cell_of_row _ z 7 _ _ _ yl
  have x8 := cell_of_row _ z 8 _ _ _ yl
  clear yl
  refine Or.inl ⟨wanted_none rfl, ?_⟩
  rintro _ rfl
  go_simp <;> with_reducible rfl
 refine relF_pure (i := 4) (o := ⟨some 24, _, _, _, _, _⟩) (v := ?v4) (by rfl) [(3, 23, 0)] [] rfl rfl (by kernel_rfl) (by kernel_rfl) (fun t w1 hB hf hbf => ?y4) ?n4
 case y4 =>
  simp only [DepF, List.getD_cons_zero] at hf
  obtain ⟨⟨_, ⟨e23, i23⟩, rfl⟩, _⟩ := hf
  clear hbf
  have yl := boxStays XL.out hB
  have x0 := cell_of_row _ z 0 _ _ _ yl
  have x1 := cell_of_row _ z 1 _ _ _ yl
  have x2 := cell_of_row _ z 2 _ _ _ yl
  have x3 := cell_of_row _ z 3 _ _ _ yl
  have x4 := cell_of_row _ z 4 _ _ _ yl
  have x5 := cell_of_row _ z 5 _ _ _ yl
  have x6 := cell_of_row _ z 6 _ _ _ yl
  have x7 := cell_of_row _ z 7 _ _ _ yl
  have x8 := cell_of_row _ z 8 _ _ _ yl
  clear yl
  refine Or.inl ⟨wanted_none rfl, ?_⟩
  rintro _ rfl
  go_simp <;> with_reducible rfl
 refine relF_own (i := 5) (o := ⟨some 25, _, _, _, _, _⟩) (by rfl) ((fun v w' => ∃ g cc, v = .agg #[.int .i64 k2, .int .i64 m2, .slice (some ⟨g, 0, none⟩) n2 cc] ∧ w'.ownsRow w2.heap.size 53 6 (.slice (some ⟨g, 0, none⟩) (n2 + 1) cc) (n2 + 1) (elsV (l2 ++ [markE])))) [(4, 24, 0)] [] rfl rfl (by kernel_rfl) (by kernel_rfl) ((fun v w' w'' h hb => by obtain ⟨g, cc, e, h⟩ := h; exact ⟨g, cc, e, own_below h hb (fun k' hk => (h.lt k' hk).2)⟩)) ?_ ?_
 · intro t w1 hB hf hbf K hK
   simp only [DepF, List.getD_cons_zero] at hf
   obtain ⟨⟨_, ⟨e24, i24⟩, rfl⟩, _⟩ := hf
   clear hbf
   have yl := boxStays XL.out hB
   have x0 := cell_of_row _ z 0 _ _ _ yl
   have x1 := cell_of_row _ z 1 _ _ _ yl
   have x2 := cell_of_row _ z 2 _ _ _ yl
   have x3 := cell_of_row _ z 3 _ _ _ yl
   have x4 := cell_of_row _ z 4 _ _ _ yl
   have x5 := cell_of_row _ z 5 _ _ _ yl
   have x6 := cell_of_row _ z 6 _ _ _ yl
   have x7 := cell_of_row _ z 7 _ _ _ yl
   have x8 := cell_of_row _ z 8 _ _ _ yl
   clear yl
   refine ⟨wanted_none rfl, ?_⟩
   go_simp
   refine (kr_copied k2 m2 l2 a2 n2 c2 w1 (C2.out w1 hB) N2.out (by omega)).mono ?_
   rintro e w2 ⟨g', cc', rfl, h1, hb⟩
   exact hK.out _ w2 (⟨g', cc', rfl, own_mono h1 hB.size⟩) hb ((h1.lt g' rfl).1) ((h1.lt g' rfl).2)
 refine relF_pure (i := 6) (o := ⟨some 26, _, _, _, _, _⟩) (v := ?v5) (by rfl) [] [1] rfl rfl (by kernel_rfl) (by kernel_rfl) (fun t w1 hB hf hbf => ?y5) ?n5
 case y5 =>
  simp only [BasF] at hbf
  clear hf
  obtain ⟨⟨b1, k1⟩, _⟩ := hbf
  have yl := boxStays XL.out hB
  have x0 := cell_of_row _ z 0 _ _ _ yl
  have x1 := cell_of_row _ z 1 _ _ _ yl
  have x2 := cell_of_row _ z 2 _ _ _ yl
  have x3 := cell_of_row _ z 3 _ _ _ yl
  have x4 := cell_of_row _ z 4 _ _ _ yl
  have x5 := cell_of_row _ z 5 _ _ _ yl
  have x6 := cell_of_row _ z 6 _ _ _ yl
  have x7 := cell_of_row _ z 7 _ _ _ yl
  have x8 := cell_of_row _ z 8 _ _ _ yl
  clear yl
  refine Or.inl ⟨wanted_none rfl, ?_⟩
  rintro _ rfl
  go_simp <;> with_reducible rfl
 refine relF_pure (i := 7) (o := ⟨some 27, _, _, _, _, _⟩) (v := ?v6) (by rfl) [(6, 26, 0)] [] rfl rfl (by kernel_rfl) (by kernel_rfl) (fun t w1 hB hf hbf => ?y6) ?n6
 case y6 =>
  simp only [DepF, List.getD_cons_zero] at hf
  obtain ⟨⟨_, ⟨e26, i26⟩, rfl⟩, _⟩ := hf
  clear hbf
  have yl := boxStays XL.out hB
  have x0 := cell_of_row _ z 0 _ _ _ yl
  have x1 := cell_of_row _ z 1 _ _ _ yl
  have x2 := cell_of_row _ z 2 _ _ _ yl
  have x3 := cell_of_row _ z 3 _ _ _ yl
  have x4 := cell_of_row _ z 4 _ _ _ yl
  have x5 := cell_of_row _ z 5 _ _ _ yl
  have x6 := cell_of_row _ z 6 _ _ _ yl
  have x7 := cell_of_row _ z 7 _ _ _ yl
  have x8 := cell_of_row _ z 8 _ _ _ yl
  clear yl
  refine Or.inl ⟨wanted_none rfl, ?_⟩
  rintro _ rfl
  go_simp <;> with_reducible rfl
 refine relF_own (i := 8) (o := ⟨some 28, _, _, _, _, _⟩) (by rfl) ((fun v w' => ∃ g cc, v = .agg #[.int .i64 k3, .int .i64 m3, .slice (some ⟨g, 0, none⟩) n3 cc] ∧ w'.ownsRow w2.heap.size 53 6 (.slice (some ⟨g, 0, none⟩) (n3 + 1) cc) (n3 + 1) (elsV (l3 ++ [markE])))) [(7, 27, 0)] [] rfl rfl (by kernel_rfl) (by kernel_rfl) ((fun v w' w'' h hb => by obtain ⟨g, cc, e, h⟩ := h; exact ⟨g, cc, e, own_below h hb (fun k' hk => (h.lt k' hk).2)⟩)) ?_ ?_
 · intro t w1 hB hf hbf K hK
   simp only [DepF, List.getD_cons_zero] at hf
   obtain ⟨⟨_, ⟨e27, i27⟩, rfl⟩, _⟩ := hf
   clear hbf
   have yl := boxStays XL.out hB
   have x0 := cell_of_row _ z 0 _ _ _ yl
   have x1 := cell_of_row _ z 1 _ _ _ yl
   have x2 := cell_of_row _ z 2 _ _ _ yl
   have x3 := cell_of_row _ z 3 _ _ _ yl
   have x4 := cell_of_row _ z 4 _ _ _ yl
   have x5 := cell_of_row _ z 5 _ _ _ yl
   have x6 := cell_of_row _ z 6 _ _ _ yl
   have x7 := cell_of_row _ z 7 _ _ _ yl
   have x8 := cell_of_row _ z 8 _ _ _ yl
   clear yl
   refine ⟨wanted_none rfl, ?_⟩
   go_simp
   refine (kr_copied k3 m3 l3 a3 n3 c3 w1 (C3.out w1 hB) N3.out (by omega)).mono ?_
   rintro e w2 ⟨g', cc', rfl, h1, hb⟩
   exact hK.out _ w2 (⟨g', cc', rfl, own_mono h1 hB.size⟩) hb ((h1.lt g' rfl).1) ((h1.lt g' rfl).2)
 refine relF_own (i := 9) (o := ⟨some 3, _, _, _, _, _⟩) (by rfl) ((fun v w' => ∃ b, v = .pointer (some ⟨b, 0, none⟩) ∧ w2.heap.size ≤ b ∧ w'.heap[b]? = some (.cells #[.int .i64 0, .int .i64 0, .slice none 0 0] 79 (0, 0)))) [] [] rfl rfl (by kernel_rfl) (by kernel_rfl) ((fun v w' w'' h hb => by obtain ⟨b, e1, e2, e3⟩ := h; exact ⟨b, e1, e2, boxStays e3 hb⟩)) ?_ ?_
 · intro t w1 hB hf hbf K hK
   clear hf
   clear hbf
   have yl := boxStays XL.out hB
   have x0 := cell_of_row _ z 0 _ _ _ yl
   have x1 := cell_of_row _ z 1 _ _ _ yl
   have x2 := cell_of_row _ z 2 _ _ _ yl
   have x3 := cell_of_row _ z 3 _ _ _ yl
   have x4 := cell_of_row _ z 4 _ _ _ yl
   have x5 := cell_of_row _ z 5 _ _ _ yl
   have x6 := cell_of_row _ z 6 _ _ _ yl
   have x7 := cell_of_row _ z 7 _ _ _ yl
   have x8 := cell_of_row _ z 8 _ _ _ yl
   clear yl
   refine ⟨wanted_none rfl, ?_⟩
   go_simp
   exact hK.out _ _ (⟨_, rfl, hB.size, heap_alloc_new _ _⟩) (below_new _ _) (Nat.le_refl _) (by rw [World.size_alloc]; exact Nat.lt_succ_self _)
 refine relF_own (i := 10) (o := ⟨some 4, _, _, _, _, _⟩) (by rfl) ((fun v w' => ∃ b, v = .pointer (some ⟨b, 0, none⟩) ∧ w2.heap.size ≤ b ∧ w'.heap[b]? = some (.cells #[.int .i64 0, .int .i64 0, .slice none 0 0] 79 (0, 0)))) [] [] rfl rfl (by kernel_rfl) (by kernel_rfl) ((fun v w' w'' h hb => by obtain ⟨b, e1, e2, e3⟩ := h; exact ⟨b, e1, e2, boxStays e3 hb⟩)) ?_ ?_
 · intro t w1 hB hf hbf K hK
   clear hf
   clear hbf
   have yl := boxStays XL.out hB
   have x0 := cell_of_row _ z 0 _ _ _ yl
   have x1 := cell_of_row _ z 1 _ _ _ yl
   have x2 := cell_of_row _ z 2 _ _ _ yl
   have x3 := cell_of_row _ z 3 _ _ _ yl
   have x4 := cell_of_row _ z 4 _ _ _ yl
   have x5 := cell_of_row _ z 5 _ _ _ yl
   have x6 := cell_of_row _ z 6 _ _ _ yl
   have x7 := cell_of_row _ z 7 _ _ _ yl
   have x8 := cell_of_row _ z 8 _ _ _ yl
   clear yl
   refine ⟨wanted_none rfl, ?_⟩
   go_simp
   exact hK.out _ _ (⟨_, rfl, hB.size, heap_alloc_new _ _⟩) (below_new _ _) (Nat.le_refl _) (by rw [World.size_alloc]; exact Nat.lt_succ_self _)
 refine relF_own (i := 11) (o := ⟨some 5, _, _, _, _, _⟩) (by rfl) ((fun v w' => ∃ b, v = .pointer (some ⟨b, 0, none⟩) ∧ w2.heap.size ≤ b ∧ w'.heap[b]? = some (.cells #[.int .i64 0, .int .i64 0, .slice none 0 0] 79 (0, 0)))) [] [] rfl rfl (by kernel_rfl) (by kernel_rfl) ((fun v w' w'' h hb => by obtain ⟨b, e1, e2, e3⟩ := h; exact ⟨b, e1, e2, boxStays e3 hb⟩)) ?_ ?_
 · intro t w1 hB hf hbf K hK
   clear hf
   clear hbf
   have yl := boxStays XL.out hB
   have x0 := cell_of_row _ z 0 _ _ _ yl
   have x1 := cell_of_row _ z 1 _ _ _ yl
   have x2 := cell_of_row _ z 2 _ _ _ yl
   have x3 := cell_of_row _ z 3 _ _ _ yl
   have x4 := cell_of_row _ z 4 _ _ _ yl
   have x5 := cell_of_row _ z 5 _ _ _ yl
   have x6 := cell_of_row _ z 6 _ _ _ yl
   have x7 := cell_of_row _ z 7 _ _ _ yl
   have x8 := cell_of_row _ z 8 _ _ _ yl
   clear yl
   refine ⟨wanted_none rfl, ?_⟩
   go_simp
   exact hK.out _ _ (⟨_, rfl, hB.size, heap_alloc_new _ _⟩) (below_new _ _) (Nat.le_refl _) (by rw [World.size_alloc]; exact Nat.lt_succ_self _)
 refine relF_tail 12 [(2, 22), (5, 25), (8, 28), (9, 3), (10, 4), (11, 5)] [(0, 20, 11), (1, 21, 10), (2, 22, 9), (3, 23, 8), (4, 24, 7), (5, 25, 6), (6, 26, 5), (7, 27, 4), (8, 28, 3), (9, 3, 2), (10, 4, 1), (11, 5, 0)] (by kernel_rfl) rfl (by kernel_rfl) (by kernel_rfl) (by intro q hq; simp at hq; rcases hq with rfl | rfl | rfl | rfl | rfl | rfl <;> decide) (by intro q hq; simp at hq; rcases hq with rfl | rfl | rfl | rfl | rfl | rfl <;> rfl) (fun f wE hB hf hO => ?_) (by kernel_rfl)
 simp only [FinF, List.getD_cons_zero, List.getD_cons_succ] at hf
 obtain ⟨⟨_, e20, rfl⟩, ⟨_, e21, rfl⟩, ⟨_, e22, ⟨g1, cc1, rfl, o1⟩⟩, ⟨_, e23, rfl⟩, ⟨_, e24, rfl⟩, ⟨_, e25, ⟨g2, cc2, rfl, o2⟩⟩, ⟨_, e26, rfl⟩, ⟨_, e27, rfl⟩, ⟨_, e28, ⟨g3, cc3, rfl, o3⟩⟩, ⟨_, e3, ⟨y1, rfl, q1, r1⟩⟩, ⟨_, e4, ⟨y2, rfl, q2, r2⟩⟩, ⟨_, e5, ⟨y3, rfl, q3, r3⟩⟩, _⟩ := hf
 have lf22 := hO.1 (2, 22) (by simp) rfl
 simp only [e22] at lf22
 have nf22x25 := hO.2 (2, 22) (by simp) (5, 25) (by simp) (by decide) rfl rfl
 simp only [e22, e25] at nf22x25
 have nf22x28 := hO.2 (2, 22) (by simp) (8, 28) (by simp) (by decide) rfl rfl
 simp only [e22, e28] at nf22x28
 have nf22x3 := hO.2 (2, 22) (by simp) (9, 3) (by simp) (by decide) rfl rfl
 simp only [e22, e3] at nf22x3
 have nf22x4 := hO.2 (2, 22) (by simp) (10, 4) (by simp) (by decide) rfl rfl
 simp only [e22, e4] at nf22x4
 have nf22x5 := hO.2 (2, 22) (by simp) (11, 5) (by simp) (by decide) rfl rfl
 simp only [e22, e5] at nf22x5
 have lf25 := hO.1 (5, 25) (by simp) rfl
 simp only [e25] at lf25
 have nf25x28 := hO.2 (5, 25) (by simp) (8, 28) (by simp) (by decide) rfl rfl
 simp only [e25, e28] at nf25x28
 have nf25x3 := hO.2 (5, 25) (by simp) (9, 3) (by simp) (by decide) rfl rfl
 simp only [e25, e3] at nf25x3
 have nf25x4 := hO.2 (5, 25) (by simp) (10, 4) (by simp) (by decide) rfl rfl
 simp only [e25, e4] at nf25x4
 have nf25x5 := hO.2 (5, 25) (by simp) (11, 5) (by simp) (by decide) rfl rfl
 simp only [e25, e5] at nf25x5
 have lf28 := hO.1 (8, 28) (by simp) rfl
 simp only [e28] at lf28
 have nf28x3 := hO.2 (8, 28) (by simp) (9, 3) (by simp) (by decide) rfl rfl
 simp only [e28, e3] at nf28x3
 have nf28x4 := hO.2 (8, 28) (by simp) (10, 4) (by simp) (by decide) rfl rfl
 simp only [e28, e4] at nf28x4
 have nf28x5 := hO.2 (8, 28) (by simp) (11, 5) (by simp) (by decide) rfl rfl
 simp only [e28, e5] at nf28x5
 have lf3 := hO.1 (9, 3) (by simp) rfl
 simp only [e3] at lf3
 have nf3x4 := hO.2 (9, 3) (by simp) (10, 4) (by simp) (by decide) rfl rfl
 simp only [e3, e4] at nf3x4
 have nf3x5 := hO.2 (9, 3) (by simp) (11, 5) (by simp) (by decide) rfl rfl
 simp only [e3, e5] at nf3x5
 have lf4 := hO.1 (10, 4) (by simp) rfl
 simp only [e4] at lf4
 have nf4x5 := hO.2 (10, 4) (by simp) (11, 5) (by simp) (by decide) rfl rfl
 simp only [e4, e5] at nf4x5
 have lf5 := hO.1 (11, 5) (by simp) rfl
 simp only [e5] at lf5
 clear hO
 simp only [regT, List.foldl_cons, List.foldl_nil, List.setIfInBounds_toArray, List.set_cons_zero, List.set_cons_succ, e20, e21, e22, e23, e24, e25, e26, e27, e28, e3, e4, e5]
 clear e20 e21 e22 e23 e24 e25 e26 e27 e28 e3 e4 e5
 change wpList _ _ _ [_, _, _] _ _
 have NE : Hid ((g1 ≠ g2 ∧ g1 ≠ g3 ∧ g2 ≠ g3) ∧ (g1 ≠ y1 ∧ g1 ≠ y2 ∧ g1 ≠ y3) ∧ (g2 ≠ y1 ∧ g2 ≠ y2 ∧ g2 ≠ y3) ∧ (g3 ≠ y1 ∧ g3 ≠ y2 ∧ g3 ≠ y3) ∧ (y1 ≠ y2 ∧ y1 ≠ y3 ∧ y2 ≠ y3)) := Lib.hid ⟨⟨nf22x25, nf22x28, nf25x28⟩, ⟨nf22x3, nf22x4, nf22x5⟩, ⟨nf25x3, nf25x4, nf25x5⟩, ⟨nf28x3, nf28x4, nf28x5⟩, ⟨nf3x4, nf3x5, nf4x5⟩⟩
 clear nf22x25 nf22x28 nf25x28 nf22x3 nf22x4 nf22x5 nf25x3 nf25x4 nf25x5 nf28x3 nf28x4 nf28x5 nf3x4 nf3x5 nf4x5 lf22 lf25 lf28 lf3 lf4 lf5
 have GB : Hid (w2.heap.size ≤ g1 ∧ w2.heap.size ≤ g2 ∧ w2.heap.size ≤ g3) := Lib.hid ⟨(o1.lt g1 rfl).1, (o2.lt g2 rfl).1, (o3.lt g3 rfl).1⟩
 have r2a : (wE.setRow y1 #[.int .i64 k1, .int .i64 m1, .slice (some ⟨g1, 0, none⟩) n1 cc1]).heap[y2]? = some (.cells #[.int .i64 0, .int .i64 0, .slice none 0 0] 79 (0, 0)) := (setRow_other _ _ _ _ (by have := NE.out; omega)).trans r2
 have r3b : ((wE.setRow y1 #[.int .i64 k1, .int .i64 m1, .slice (some ⟨g1, 0, none⟩) n1 cc1]).setRow y2 #[.int .i64 k2, .int .i64 m2, .slice (some ⟨g2, 0, none⟩) n2 cc2]).heap[y3]? = some (.cells #[.int .i64 0, .int .i64 0, .slice none 0 0] 79 (0, 0)) := (setRow_other _ _ _ _ (by have := NE.out; omega)).trans ((setRow_other _ _ _ _ (by have := NE.out; omega)).trans r3)
 refine wpList_store_row rfl 79 (.tmp 3) (.tmp 22) rfl y1 #[.int .i64 k1, .int .i64 m1, .slice (some ⟨g1, 0, none⟩) n1 cc1] rfl rfl 79 _ r1 (by kernel_rfl) rfl (by simp [Value.oneCell']) ?_
 refine wpList_store_row rfl 79 (.tmp 4) (.tmp 25) rfl y2 #[.int .i64 k2, .int .i64 m2, .slice (some ⟨g2, 0, none⟩) n2 cc2] rfl rfl 79 _ r2a (by kernel_rfl) rfl (by simp [Value.oneCell']) ?_
 refine wpList_store_row rfl 79 (.tmp 5) (.tmp 28) rfl y3 #[.int .i64 k3, .int .i64 m3, .slice (some ⟨g3, 0, none⟩) n3 cc3] rfl rfl 79 _ r3b (by kernel_rfl) rfl (by simp [Value.oneCell']) ?_
 have HP3 : Hid ((((wE.setRow y1 #[.int .i64 k1, .int .i64 m1, .slice (some ⟨g1, 0, none⟩) n1 cc1]).setRow y2 #[.int .i64 k2, .int .i64 m2, .slice (some ⟨g2, 0, none⟩) n2 cc2]).setRow y3 #[.int .i64 k3, .int .i64 m3, .slice (some ⟨g3, 0, none⟩) n3 cc3]).heap[y3]? = some (.cells #[.int .i64 k3, .int .i64 m3, .slice (some ⟨g3, 0, none⟩) n3 cc3] 79 (0, 0))) := Lib.hid (setRow_heap _ _ _ _ _ _ r3b)
 have HP2 : Hid ((((wE.setRow y1 #[.int .i64 k1, .int .i64 m1, .slice (some ⟨g1, 0, none⟩) n1 cc1]).setRow y2 #[.int .i64 k2, .int .i64 m2, .slice (some ⟨g2, 0, none⟩) n2 cc2]).setRow y3 #[.int .i64 k3, .int .i64 m3, .slice (some ⟨g3, 0, none⟩) n3 cc3]).heap[y2]? = some (.cells #[.int .i64 k2, .int .i64 m2, .slice (some ⟨g2, 0, none⟩) n2 cc2] 79 (0, 0))) := Lib.hid ((setRow_other _ _ _ _ (by have := NE.out; omega)).trans (setRow_heap _ _ _ _ _ _ r2a))
 have HP1 : Hid ((((wE.setRow y1 #[.int .i64 k1, .int .i64 m1, .slice (some ⟨g1, 0, none⟩) n1 cc1]).setRow y2 #[.int .i64 k2, .int .i64 m2, .slice (some ⟨g2, 0, none⟩) n2 cc2]).setRow y3 #[.int .i64 k3, .int .i64 m3, .slice (some ⟨g3, 0, none⟩) n3 cc3]).heap[y1]? = some (.cells #[.int .i64 k1, .int .i64 m1, .slice (some ⟨g1, 0, none⟩) n1 cc1] 79 (0, 0))) := Lib.hid ((setRow_other _ _ _ _ (by have := NE.out; omega)).trans ((setRow_other _ _ _ _ (by have := NE.out; omega)).trans (setRow_heap _ _ _ _ _ _ r1)))
 have O1 := Lib.hid (own_grown (own_grown (own_grown o1 (grown_setRow wE y1 #[.int .i64 k1, .int .i64 m1, .slice (some ⟨g1, 0, none⟩) n1 cc1]) (fun k' hk' e => by have h3 := Option.some.inj (show some g1 = some k' from hk'); have h4 := Option.some.inj e; have := NE.out; omega)) (grown_setRow _ y2 #[.int .i64 k2, .int .i64 m2, .slice (some ⟨g2, 0, none⟩) n2 cc2]) (fun k' hk' e => by have h3 := Option.some.inj (show some g1 = some k' from hk'); have h4 := Option.some.inj e; have := NE.out; omega)) (grown_setRow _ y3 #[.int .i64 k3, .int .i64 m3, .slice (some ⟨g3, 0, none⟩) n3 cc3]) (fun k' hk' e => by have h3 := Option.some.inj (show some g1 = some k' from hk'); have h4 := Option.some.inj e; have := NE.out; omega))
 have O2 := Lib.hid (own_grown (own_grown (own_grown o2 (grown_setRow wE y1 #[.int .i64 k1, .int .i64 m1, .slice (some ⟨g1, 0, none⟩) n1 cc1]) (fun k' hk' e => by have h3 := Option.some.inj (show some g2 = some k' from hk'); have h4 := Option.some.inj e; have := NE.out; omega)) (grown_setRow _ y2 #[.int .i64 k2, .int .i64 m2, .slice (some ⟨g2, 0, none⟩) n2 cc2]) (fun k' hk' e => by have h3 := Option.some.inj (show some g2 = some k' from hk'); have h4 := Option.some.inj e; have := NE.out; omega)) (grown_setRow _ y3 #[.int .i64 k3, .int .i64 m3, .slice (some ⟨g3, 0, none⟩) n3 cc3]) (fun k' hk' e => by have h3 := Option.some.inj (show some g2 = some k' from hk'); have h4 := Option.some.inj e; have := NE.out; omega))
 have O3 := Lib.hid (own_grown (own_grown (own_grown o3 (grown_setRow wE y1 #[.int .i64 k1, .int .i64 m1, .slice (some ⟨g1, 0, none⟩) n1 cc1]) (fun k' hk' e => by have h3 := Option.some.inj (show some g3 = some k' from hk'); have h4 := Option.some.inj e; have := NE.out; omega)) (grown_setRow _ y2 #[.int .i64 k2, .int .i64 m2, .slice (some ⟨g2, 0, none⟩) n2 cc2]) (fun k' hk' e => by have h3 := Option.some.inj (show some g3 = some k' from hk'); have h4 := Option.some.inj e; have := NE.out; omega)) (grown_setRow _ y3 #[.int .i64 k3, .int .i64 m3, .slice (some ⟨g3, 0, none⟩) n3 cc3]) (fun k' hk' e => by have h3 := Option.some.inj (show some g3 = some k' from hk'); have h4 := Option.some.inj e; have := NE.out; omega))
 have BE : Hid (Below w2.heap.size w2 (((wE.setRow y1 #[.int .i64 k1, .int .i64 m1, .slice (some ⟨g1, 0, none⟩) n1 cc1]).setRow y2 #[.int .i64 k2, .int .i64 m2, .slice (some ⟨g2, 0, none⟩) n2 cc2]).setRow y3 #[.int .i64 k3, .int .i64 m3, .slice (some ⟨g3, 0, none⟩) n3 cc3])) := Lib.hid (below_setRow (below_setRow (below_setRow hB q1 _) q2 _) q3 _)
 have YG : Hid (w2.heap.size ≤ y1 ∧ w2.heap.size ≤ y2 ∧ w2.heap.size ≤ y3) := Lib.hid ⟨q1, q2, q3⟩
 clear r1 r2 r3 r2a r3b o1 o2 o3 q1 q2 q3 hB
 generalize (((wE.setRow y1 #[.int .i64 k1, .int .i64 m1, .slice (some ⟨g1, 0, none⟩) n1 cc1]).setRow y2 #[.int .i64 k2, .int .i64 m2, .slice (some ⟨g2, 0, none⟩) n2 cc2]).setRow y3 #[.int .i64 k3, .int .i64 m3, .slice (some ⟨g3, 0, none⟩) n3 cc3]) = w6 at *
 have HL : Hid (w6.heap[z]? = some (.cells #[.int .i64 k1, .int .i64 m1, .slice a1 n1 c1, .int .i64 k2, .int .i64 m2, .slice a2 n2 c2, .int .i64 k3, .int .i64 m3, .slice a3 n3 c3] 96 (0, 0))) := Lib.hid (boxStays XL.out BE.out)
 have HC : Hid (Chain [w6] w6) := Lib.hid (Chain.one w6)
 obtain ⟨rt, hT⟩ : ∃ r, threeO k1 m1 l1 k2 m2 l2 k3 m3 l3 = r := ⟨_, rfl⟩
 have TH : Hid (∀ W, Below w6.heap.size w6 W → Calls Tryz.prog 45 #[.agg #[.int .i64 k1, .int .i64 m1, .slice (some ⟨g1, 0, none⟩) n1 cc1], .agg #[.int .i64 k2, .int .i64 m2, .slice (some ⟨g2, 0, none⟩) n2 cc2], .agg #[.int .i64 k3, .int .i64 m3, .slice (some ⟨g3, 0, none⟩) n3 cc3]] W fun e w' => ValOut W w' rt e) := Lib.hid (fun W hW => by
  have := kn_Three k1 m1 l1 (some ⟨g1, 0, none⟩) n1 cc1 k2 m2 l2 (some ⟨g2, 0, none⟩) n2 cc2 k3 m3 l3 (some ⟨g3, 0, none⟩) n3 cc3 W ((own_pre O1.out).below hW rfl) ((own_pre O2.out).below hW rfl) ((own_pre O3.out).below hW rfl) N1.out N2.out N3.out (by omega) (by omega) (by omega) Z1.out Z2.out Z3.out
  rw [hT] at this
  exact this)
 have TR : Hid (∀ W, Below w6.heap.size w6 W → Calls Tryz.prog 46 #[.agg #[.int .i64 k1, .int .i64 m1, .slice a1 n1 c1], .agg #[.int .i64 k2, .int .i64 m2, .slice a2 n2 c2], .agg #[.int .i64 k3, .int .i64 m3, .slice a3 n3 c3]] W fun e w' => ValOut W w' rt e) := Lib.hid (fun W hW => by
  have hW2 := BE.out.trans (hW.mono BE.out.size)
  have := kr_Three k1 m1 l1 a1 n1 c1 k2 m2 l2 a2 n2 c2 k3 m3 l3 a3 n3 c3 W (C1.out W hW2) (C2.out W hW2) (C3.out W hW2) N1.out N2.out N3.out (by omega) (by omega) (by omega) Z1.out Z2.out Z3.out
  rw [hT] at this
  exact this)
 have TLN0 : Hid (rt.2.2.1.length ≤ 9223372036854775807) := Lib.hid (by
  rw [← hT]
  unfold threeO
  split
  · exact Nat.zero_le _
  · have h1 := threeG_len l1 l2 l3
    have h2 := N2.out
    have h3 := N3.out
    show (threeG l1 l2 l3).length ≤ _
    omega)
 clear hT
 obtain ⟨tk, tm, tl, te⟩ := rt
 have kP10 := cell_of_row _ _ 0 _ _ _ HP1.out
 have kP11 := cell_of_row _ _ 1 _ _ _ HP1.out
 have kP12 := cell_of_row _ _ 2 _ _ _ HP1.out
 have kP20 := cell_of_row _ _ 0 _ _ _ HP2.out
 have kP21 := cell_of_row _ _ 1 _ _ _ HP2.out
 have kP22 := cell_of_row _ _ 2 _ _ _ HP2.out
 have kP30 := cell_of_row _ _ 0 _ _ _ HP3.out
 have kP31 := cell_of_row _ _ 1 _ _ _ HP3.out
 have kP32 := cell_of_row _ _ 2 _ _ _ HP3.out
 go_wp2_with fail
 refine (TH.out _ (HC.out.to w6 (by simp))).mono ?_
 rintro e w7 ⟨xa, xn, xc, rfl, h1, h2, h3, h4, hb⟩
 clear kP10 kP11 kP12 kP20 kP21 kP22 kP30 kP31 kP32
 replace HC := Lib.hid (HC.out.push hb)
 clear hb
 have EX := Lib.hid h1
 have NX := Lib.hid h2
 have FX : Hid (∀ ad, xa = some ad → w6.heap.size ≤ ad.block) := Lib.hid h4
 clear h1 h2 h3 h4
 have S67 : Hid (w6.heap.size ≤ w7.heap.size) := Lib.hid (HC.out.to w6 (by simp)).size
 go_upto_region 5 with (fail)
 obtain ⟨zx, hzx⟩ : ∃ c, w7.heap.size = c := ⟨_, rfl⟩
 try rw [hzx]
 obtain ⟨w8, hw8⟩ : ∃ X, allocs w7 [.cells #[.int .i64 tk, .int .i64 tm, .slice xa xn xc] 79] = X := ⟨_, rfl⟩
 rw [show w7.alloc (.cells #[.int .i64 tk, .int .i64 tm, .slice xa xn xc] 79) = w8 from hw8]
 have hb : Below w7.heap.size w7 w8 := by rw [← hw8]; exact allocs_below _ _
 have HX : Hid (w8.heap[zx]? = some (.cells #[.int .i64 tk, .int .i64 tm, .slice xa xn xc] 79 (0, 0))) := Lib.hid (by have := allocs_get [.cells #[.int .i64 tk, .int .i64 tm, .slice xa xn xc] 79] w7 0 _ rfl; rw [hw8, hzx] at this; exact this)
 have Szx : Hid (w7.heap.size = zx) := Lib.hid hzx
 replace HC := Lib.hid (HC.out.push hb)
 clear hb hw8 hzx
 have S68 : Hid (w6.heap.size ≤ w8.heap.size) := Lib.hid (HC.out.to w6 (by simp)).size
 have kL0 := cell_of_row _ _ 0 _ _ _ (boxStays HL.out (HC.out.to w6 (by simp)))
 have kL1 := cell_of_row _ _ 1 _ _ _ (boxStays HL.out (HC.out.to w6 (by simp)))
 have kL2 := cell_of_row _ _ 2 _ _ _ (boxStays HL.out (HC.out.to w6 (by simp)))
 have kL3 := cell_of_row _ _ 3 _ _ _ (boxStays HL.out (HC.out.to w6 (by simp)))
 have kL4 := cell_of_row _ _ 4 _ _ _ (boxStays HL.out (HC.out.to w6 (by simp)))
 have kL5 := cell_of_row _ _ 5 _ _ _ (boxStays HL.out (HC.out.to w6 (by simp)))
 have kL6 := cell_of_row _ _ 6 _ _ _ (boxStays HL.out (HC.out.to w6 (by simp)))
 have kL7 := cell_of_row _ _ 7 _ _ _ (boxStays HL.out (HC.out.to w6 (by simp)))
 have kL8 := cell_of_row _ _ 8 _ _ _ (boxStays HL.out (HC.out.to w6 (by simp)))
 go_wp2_with fail
 refine (TR.out _ (HC.out.to w6 (by simp))).mono ?_
 rintro e w9 ⟨ya, yn, yc, rfl, h1, h2, h3, h4, hb⟩
 clear kL0 kL1 kL2 kL3 kL4 kL5 kL6 kL7 kL8
 replace HC := Lib.hid (HC.out.push hb)
 clear hb
 have EW := Lib.hid h1
 have NW := Lib.hid h2
 have FW : Hid (∀ ad, ya = some ad → w6.heap.size ≤ ad.block) := Lib.hid (fun ad had => Nat.le_trans S68.out (h4 ad had))
 clear h1 h2 h3 h4 TH TR
 have S69 : Hid (w6.heap.size ≤ w9.heap.size) := Lib.hid (HC.out.to w6 (by simp)).size
 go_upto_region 6 with (fail)
 obtain ⟨zw, hzw⟩ : ∃ c, w9.heap.size = c := ⟨_, rfl⟩
 try rw [hzw]
 obtain ⟨w10, hw10⟩ : ∃ X, allocs w9 [.cells #[.int .i64 tk, .int .i64 tm, .slice ya yn yc] 79] = X := ⟨_, rfl⟩
 rw [show w9.alloc (.cells #[.int .i64 tk, .int .i64 tm, .slice ya yn yc] 79) = w10 from hw10]
 have hb : Below w9.heap.size w9 w10 := by rw [← hw10]; exact allocs_below _ _
 have HY : Hid (w10.heap[zw]? = some (.cells #[.int .i64 tk, .int .i64 tm, .slice ya yn yc] 79 (0, 0))) := Lib.hid (by have := allocs_get [.cells #[.int .i64 tk, .int .i64 tm, .slice ya yn yc] 79] w9 0 _ rfl; rw [hw10, hzw] at this; exact this)
 have Szw : Hid (w9.heap.size = zw) := Lib.hid hzw
 replace HC := Lib.hid (HC.out.push hb)
 clear hb hw10 hzw
 have XP1 := Lib.hid (boxStays HP1.out (HC.out.to w6 (by simp)))
 have XP2 := Lib.hid (boxStays HP2.out (HC.out.to w6 (by simp)))
 have XL6 := Lib.hid (boxStays HL.out (HC.out.to w6 (by simp)))
 have B610 := Lib.hid (HC.out.to w6 (by simp))
 obtain ⟨sv, hsv⟩ : ∃ b, sameG k1 m1 l1 k2 m2 l2 = b := ⟨_, rfl⟩
 have SV := Lib.hid hsv
 clear hsv
 refine relG_start (slots := [46, 47, 48, 49, 50, 51, 52, 53, 54, 10]) (so := []) (by kernel_rfl) (by kernel_rfl) (by rfl) ?_
 refine relG_pure (i := 0) (o := ⟨some 46, _, _, _, _, _⟩) (v := ?v7) [] [3] rfl rfl (by kernel_rfl) (by kernel_rfl) (fun t w1 hB hf hbf => ?y7) ?n7
 case y7 =>
  simp only [BasF] at hbf
  clear hf
  obtain ⟨⟨b3, k3⟩, _⟩ := hbf
  have b6 := B610.out.trans (hB.mono B610.out.size)
  have yp1 := boxStays XP1.out hB
  have yp2 := boxStays XP2.out hB
  have yl := boxStays XL6.out hB
  have u0 := cell_of_row _ y1 0 _ _ _ yp1
  have u1 := cell_of_row _ y1 1 _ _ _ yp1
  have u2 := cell_of_row _ y1 2 _ _ _ yp1
  have v0 := cell_of_row _ y2 0 _ _ _ yp2
  have v1 := cell_of_row _ y2 1 _ _ _ yp2
  have v2 := cell_of_row _ y2 2 _ _ _ yp2
  have x0 := cell_of_row _ z 0 _ _ _ yl
  have x1 := cell_of_row _ z 1 _ _ _ yl
  have x2 := cell_of_row _ z 2 _ _ _ yl
  have x3 := cell_of_row _ z 3 _ _ _ yl
  have x4 := cell_of_row _ z 4 _ _ _ yl
  have x5 := cell_of_row _ z 5 _ _ _ yl
  clear yl yp1 yp2
  refine Or.inl ⟨wanted_none rfl, ?_⟩
  rintro _ rfl
  go_simp <;> with_reducible rfl
 refine relG_pure (i := 1) (o := ⟨some 47, _, _, _, _, _⟩) (v := ?v8) [] [4] rfl rfl (by kernel_rfl) (by kernel_rfl) (fun t w1 hB hf hbf => ?y8) ?n8
 case y8 =>
  simp only [BasF] at hbf
  clear hf
  obtain ⟨⟨b4, k4⟩, _⟩ := hbf
  have b6 := B610.out.trans (hB.mono B610.out.size)
  have yp1 := boxStays XP1.out hB
  have yp2 := boxStays XP2.out hB
  have yl := boxStays XL6.out hB
  have u0 := cell_of_row _ y1 0 _ _ _ yp1
  have u1 := cell_of_row _ y1 1 _ _ _ yp1
  have u2 := cell_of_row _ y1 2 _ _ _ yp1
  have v0 := cell_of_row _ y2 0 _ _ _ yp2
  have v1 := cell_of_row _ y2 1 _ _ _ yp2
  have v2 := cell_of_row _ y2 2 _ _ _ yp2
  have x0 := cell_of_row _ z 0 _ _ _ yl
  have x1 := cell_of_row _ z 1 _ _ _ yl
  have x2 := cell_of_row _ z 2 _ _ _ yl
  have x3 := cell_of_row _ z 3 _ _ _ yl
  have x4 := cell_of_row _ z 4 _ _ _ yl
  have x5 := cell_of_row _ z 5 _ _ _ yl
  clear yl yp1 yp2
  refine Or.inl ⟨wanted_none rfl, ?_⟩
  rintro _ rfl
  go_simp <;> with_reducible rfl
 refine relG_call (i := 2) (o := ⟨some 48, _, _, _, _, _⟩) ((fun v _ => v = .bool sv)) [(0, 46, 1), (1, 47, 0)] [] rfl rfl (by kernel_rfl) (by kernel_rfl) ((fun _ _ _ h _ => h)) ?_ ?_
 · intro t w1 hB hf hbf K hK
   simp only [DepF, List.getD_cons_zero, List.getD_cons_succ] at hf
   obtain ⟨⟨_, ⟨e46, i46⟩, rfl⟩, ⟨_, ⟨e47, i47⟩, rfl⟩, _⟩ := hf
   clear hbf
   have b6 := B610.out.trans (hB.mono B610.out.size)
   have yp1 := boxStays XP1.out hB
   have yp2 := boxStays XP2.out hB
   have yl := boxStays XL6.out hB
   have u0 := cell_of_row _ y1 0 _ _ _ yp1
   have u1 := cell_of_row _ y1 1 _ _ _ yp1
   have u2 := cell_of_row _ y1 2 _ _ _ yp1
   have v0 := cell_of_row _ y2 0 _ _ _ yp2
   have v1 := cell_of_row _ y2 1 _ _ _ yp2
   have v2 := cell_of_row _ y2 2 _ _ _ yp2
   have x0 := cell_of_row _ z 0 _ _ _ yl
   have x1 := cell_of_row _ z 1 _ _ _ yl
   have x2 := cell_of_row _ z 2 _ _ _ yl
   have x3 := cell_of_row _ z 3 _ _ _ yl
   have x4 := cell_of_row _ z 4 _ _ _ yl
   have x5 := cell_of_row _ z 5 _ _ _ yl
   clear yl yp1 yp2
   refine ⟨wanted_none rfl, ?_⟩
   go_simp
   refine (kn_Same k1 m1 l1 (some ⟨g1, 0, none⟩) n1 cc1 k2 m2 l2 (some ⟨g2, 0, none⟩) n2 cc2 w1 ((own_pre O1.out).below b6 rfl) ((own_pre O2.out).below b6 rfl) N1.out N2.out (by omega)).mono ?_
   rintro e w2 ⟨rfl, hb⟩
   exact hK.out _ w2 (by rw [SV.out]) hb
 refine relG_pure (i := 3) (o := ⟨some 49, _, _, _, _, _⟩) (v := ?v9) [] [1] rfl rfl (by kernel_rfl) (by kernel_rfl) (fun t w1 hB hf hbf => ?y9) ?n9
 case y9 =>
  simp only [BasF] at hbf
  clear hf
  obtain ⟨⟨b1, k1⟩, _⟩ := hbf
  have b6 := B610.out.trans (hB.mono B610.out.size)
  have yp1 := boxStays XP1.out hB
  have yp2 := boxStays XP2.out hB
  have yl := boxStays XL6.out hB
  have u0 := cell_of_row _ y1 0 _ _ _ yp1
  have u1 := cell_of_row _ y1 1 _ _ _ yp1
  have u2 := cell_of_row _ y1 2 _ _ _ yp1
  have v0 := cell_of_row _ y2 0 _ _ _ yp2
  have v1 := cell_of_row _ y2 1 _ _ _ yp2
  have v2 := cell_of_row _ y2 2 _ _ _ yp2
  have x0 := cell_of_row _ z 0 _ _ _ yl
  have x1 := cell_of_row _ z 1 _ _ _ yl
  have x2 := cell_of_row _ z 2 _ _ _ yl
  have x3 := cell_of_row _ z 3 _ _ _ yl
  have x4 := cell_of_row _ z 4 _ _ _ yl
  have x5 := cell_of_row _ z 5 _ _ _ yl
  clear yl yp1 yp2
  refine Or.inl ⟨wanted_none rfl, ?_⟩
  rintro _ rfl
  go_simp <;> with_reducible rfl
 refine relG_pure (i := 4) (o := ⟨some 50, _, _, _, _, _⟩) (v := ?v10) [(3, 49, 0)] [] rfl rfl (by kernel_rfl) (by kernel_rfl) (fun t w1 hB hf hbf => ?y10) ?n10
 case y10 =>
  simp only [DepF, List.getD_cons_zero] at hf
  obtain ⟨⟨_, ⟨e49, i49⟩, rfl⟩, _⟩ := hf
  clear hbf
  have b6 := B610.out.trans (hB.mono B610.out.size)
  have yp1 := boxStays XP1.out hB
  have yp2 := boxStays XP2.out hB
  have yl := boxStays XL6.out hB
  have u0 := cell_of_row _ y1 0 _ _ _ yp1
  have u1 := cell_of_row _ y1 1 _ _ _ yp1
  have u2 := cell_of_row _ y1 2 _ _ _ yp1
  have v0 := cell_of_row _ y2 0 _ _ _ yp2
  have v1 := cell_of_row _ y2 1 _ _ _ yp2
  have v2 := cell_of_row _ y2 2 _ _ _ yp2
  have x0 := cell_of_row _ z 0 _ _ _ yl
  have x1 := cell_of_row _ z 1 _ _ _ yl
  have x2 := cell_of_row _ z 2 _ _ _ yl
  have x3 := cell_of_row _ z 3 _ _ _ yl
  have x4 := cell_of_row _ z 4 _ _ _ yl
  have x5 := cell_of_row _ z 5 _ _ _ yl
  clear yl yp1 yp2
  refine Or.inl ⟨wanted_none rfl, ?_⟩
  rintro _ rfl
  go_simp <;> with_reducible rfl
 refine relG_pure (i := 5) (o := ⟨some 51, _, _, _, _, _⟩) (v := ?v11) [] [1] rfl rfl (by kernel_rfl) (by kernel_rfl) (fun t w1 hB hf hbf => ?y11) ?n11
 case y11 =>
  simp only [BasF] at hbf
  clear hf
  obtain ⟨⟨b1, k1⟩, _⟩ := hbf
  have b6 := B610.out.trans (hB.mono B610.out.size)
  have yp1 := boxStays XP1.out hB
  have yp2 := boxStays XP2.out hB
  have yl := boxStays XL6.out hB
  have u0 := cell_of_row _ y1 0 _ _ _ yp1
  have u1 := cell_of_row _ y1 1 _ _ _ yp1
  have u2 := cell_of_row _ y1 2 _ _ _ yp1
  have v0 := cell_of_row _ y2 0 _ _ _ yp2
  have v1 := cell_of_row _ y2 1 _ _ _ yp2
  have v2 := cell_of_row _ y2 2 _ _ _ yp2
  have x0 := cell_of_row _ z 0 _ _ _ yl
  have x1 := cell_of_row _ z 1 _ _ _ yl
  have x2 := cell_of_row _ z 2 _ _ _ yl
  have x3 := cell_of_row _ z 3 _ _ _ yl
  have x4 := cell_of_row _ z 4 _ _ _ yl
  have x5 := cell_of_row _ z 5 _ _ _ yl
  clear yl yp1 yp2
  refine Or.inl ⟨wanted_none rfl, ?_⟩
  rintro _ rfl
  go_simp <;> with_reducible rfl
 refine relG_pure (i := 6) (o := ⟨some 52, _, _, _, _, _⟩) (v := ?v12) [(5, 51, 0)] [] rfl rfl (by kernel_rfl) (by kernel_rfl) (fun t w1 hB hf hbf => ?y12) ?n12
 case y12 =>
  simp only [DepF, List.getD_cons_zero] at hf
  obtain ⟨⟨_, ⟨e51, i51⟩, rfl⟩, _⟩ := hf
  clear hbf
  have b6 := B610.out.trans (hB.mono B610.out.size)
  have yp1 := boxStays XP1.out hB
  have yp2 := boxStays XP2.out hB
  have yl := boxStays XL6.out hB
  have u0 := cell_of_row _ y1 0 _ _ _ yp1
  have u1 := cell_of_row _ y1 1 _ _ _ yp1
  have u2 := cell_of_row _ y1 2 _ _ _ yp1
  have v0 := cell_of_row _ y2 0 _ _ _ yp2
  have v1 := cell_of_row _ y2 1 _ _ _ yp2
  have v2 := cell_of_row _ y2 2 _ _ _ yp2
  have x0 := cell_of_row _ z 0 _ _ _ yl
  have x1 := cell_of_row _ z 1 _ _ _ yl
  have x2 := cell_of_row _ z 2 _ _ _ yl
  have x3 := cell_of_row _ z 3 _ _ _ yl
  have x4 := cell_of_row _ z 4 _ _ _ yl
  have x5 := cell_of_row _ z 5 _ _ _ yl
  clear yl yp1 yp2
  refine Or.inl ⟨wanted_none rfl, ?_⟩
  rintro _ rfl
  go_simp <;> with_reducible rfl
 refine relG_call (i := 7) (o := ⟨some 53, _, _, _, _, _⟩) ((fun v _ => v = .bool sv)) [(4, 50, 2), (6, 52, 0)] [] rfl rfl (by kernel_rfl) (by kernel_rfl) ((fun _ _ _ h _ => h)) ?_ ?_
 · intro t w1 hB hf hbf K hK
   simp only [DepF, List.getD_cons_zero, List.getD_cons_succ] at hf
   obtain ⟨⟨_, ⟨e50, i50⟩, rfl⟩, ⟨_, ⟨e52, i52⟩, rfl⟩, _⟩ := hf
   clear hbf
   have b6 := B610.out.trans (hB.mono B610.out.size)
   have yp1 := boxStays XP1.out hB
   have yp2 := boxStays XP2.out hB
   have yl := boxStays XL6.out hB
   have u0 := cell_of_row _ y1 0 _ _ _ yp1
   have u1 := cell_of_row _ y1 1 _ _ _ yp1
   have u2 := cell_of_row _ y1 2 _ _ _ yp1
   have v0 := cell_of_row _ y2 0 _ _ _ yp2
   have v1 := cell_of_row _ y2 1 _ _ _ yp2
   have v2 := cell_of_row _ y2 2 _ _ _ yp2
   have x0 := cell_of_row _ z 0 _ _ _ yl
   have x1 := cell_of_row _ z 1 _ _ _ yl
   have x2 := cell_of_row _ z 2 _ _ _ yl
   have x3 := cell_of_row _ z 3 _ _ _ yl
   have x4 := cell_of_row _ z 4 _ _ _ yl
   have x5 := cell_of_row _ z 5 _ _ _ yl
   clear yl yp1 yp2
   refine ⟨wanted_none rfl, ?_⟩
   go_simp
   refine (kr_Same k1 m1 l1 a1 n1 c1 k2 m2 l2 a2 n2 c2 w1 (C1.out w1 (BE.out.trans (b6.mono BE.out.size))) (C2.out w1 (BE.out.trans (b6.mono BE.out.size))) N1.out N2.out (by omega)).mono ?_
   rintro e w2 ⟨rfl, hb⟩
   exact hK.out _ w2 (by rw [SV.out]) hb
 refine relG_pure (i := 8) (o := ⟨some 54, _, _, _, _, _⟩) (v := ?v13) [(2, 48, 5), (7, 53, 0)] [] rfl rfl (by kernel_rfl) (by kernel_rfl) (fun t w1 hB hf hbf => ?y13) ?n13
 case y13 =>
  simp only [DepF, List.getD_cons_zero, List.getD_cons_succ] at hf
  obtain ⟨⟨_, ⟨e48, i48⟩, rfl⟩, ⟨_, ⟨e53, i53⟩, rfl⟩, _⟩ := hf
  clear hbf
  have b6 := B610.out.trans (hB.mono B610.out.size)
  have yp1 := boxStays XP1.out hB
  have yp2 := boxStays XP2.out hB
  have yl := boxStays XL6.out hB
  have u0 := cell_of_row _ y1 0 _ _ _ yp1
  have u1 := cell_of_row _ y1 1 _ _ _ yp1
  have u2 := cell_of_row _ y1 2 _ _ _ yp1
  have v0 := cell_of_row _ y2 0 _ _ _ yp2
  have v1 := cell_of_row _ y2 1 _ _ _ yp2
  have v2 := cell_of_row _ y2 2 _ _ _ yp2
  have x0 := cell_of_row _ z 0 _ _ _ yl
  have x1 := cell_of_row _ z 1 _ _ _ yl
  have x2 := cell_of_row _ z 2 _ _ _ yl
  have x3 := cell_of_row _ z 3 _ _ _ yl
  have x4 := cell_of_row _ z 4 _ _ _ yl
  have x5 := cell_of_row _ z 5 _ _ _ yl
  clear yl yp1 yp2
  refine Or.inl ⟨wanted_none rfl, ?_⟩
  rintro _ rfl
  go_simp <;> with_reducible rfl
 refine relG_pure (i := 9) (o := ⟨some 10, _, _, _, _, _⟩) (v := ?v14) [(8, 54, 0)] [] rfl rfl (by kernel_rfl) (by kernel_rfl) (fun t w1 hB hf hbf => ?y14) ?n14
 case y14 =>
  simp only [DepF, List.getD_cons_zero] at hf
  obtain ⟨⟨_, ⟨e54, i54⟩, rfl⟩, _⟩ := hf
  clear hbf
  have b6 := B610.out.trans (hB.mono B610.out.size)
  have yp1 := boxStays XP1.out hB
  have yp2 := boxStays XP2.out hB
  have yl := boxStays XL6.out hB
  have u0 := cell_of_row _ y1 0 _ _ _ yp1
  have u1 := cell_of_row _ y1 1 _ _ _ yp1
  have u2 := cell_of_row _ y1 2 _ _ _ yp1
  have v0 := cell_of_row _ y2 0 _ _ _ yp2
  have v1 := cell_of_row _ y2 1 _ _ _ yp2
  have v2 := cell_of_row _ y2 2 _ _ _ yp2
  have x0 := cell_of_row _ z 0 _ _ _ yl
  have x1 := cell_of_row _ z 1 _ _ _ yl
  have x2 := cell_of_row _ z 2 _ _ _ yl
  have x3 := cell_of_row _ z 3 _ _ _ yl
  have x4 := cell_of_row _ z 4 _ _ _ yl
  have x5 := cell_of_row _ z 5 _ _ _ yl
  clear yl yp1 yp2
  refine Or.inl ⟨wanted_none rfl, ?_⟩
  rintro _ rfl
  go_simp <;> with_reducible rfl
 refine relG_done [(0, 46, 9), (1, 47, 8), (2, 48, 7), (3, 49, 6), (4, 50, 5), (5, 51, 4), (6, 52, 3), (7, 53, 2), (8, 54, 1), (9, 10, 0)] (by kernel_rfl) rfl (by kernel_rfl) (fun f wE hB hf => ?_)
 simp only [FinF, List.getD_cons_zero, List.getD_cons_succ] at hf
 obtain ⟨⟨_, e46, rfl⟩, ⟨_, e47, rfl⟩, ⟨_, e48, rfl⟩, ⟨_, e49, rfl⟩, ⟨_, e50, rfl⟩, ⟨_, e51, rfl⟩, ⟨_, e52, rfl⟩, ⟨_, e53, rfl⟩, ⟨_, e54, rfl⟩, ⟨_, e10, rfl⟩, _⟩ := hf
 simp only [regT, List.foldl_cons, List.foldl_nil, List.setIfInBounds_toArray, List.set_cons_zero, List.set_cons_succ, e46, e47, e48, e49, e50, e51, e52, e53, e54, e10]
 clear e46 e47 e48 e49 e50 e51 e52 e53 e54 e10
 have hb := hB
 clear hB
 replace HC := Lib.hid (HC.out.push hb)
 clear hb
 clear XP1 XP2 XL6 B610
 have K1 := Lib.hid (own_below O1.out (HC.out.to w6 (by simp)) (fun k' hk => (O1.out.lt k' hk).2))
 have K2 := Lib.hid (own_below O2.out (HC.out.to w6 (by simp)) (fun k' hk => (O2.out.lt k' hk).2))
 have K3 := Lib.hid (own_below O3.out (HC.out.to w6 (by simp)) (fun k' hk => (O3.out.lt k' hk).2))
 have GL : Hid (g1 < w6.heap.size ∧ g2 < w6.heap.size ∧ g3 < w6.heap.size) := Lib.hid ⟨(O1.out.lt g1 rfl).2, (O2.out.lt g2 rfl).2, (O3.out.lt g3 rfl).2⟩
 have R1 := Lib.hid (boxStays HP1.out (HC.out.to w6 (by simp)))
 have R2 := Lib.hid (boxStays HP2.out (HC.out.to w6 (by simp)))
 have R3 := Lib.hid (boxStays HP3.out (HC.out.to w6 (by simp)))
 have RL := Lib.hid (boxStays HL.out (HC.out.to w6 (by simp)))
 have RX := Lib.hid (boxStays HX.out (HC.out.to w8 (by simp)))
 have RY := Lib.hid (boxStays HY.out (HC.out.to w10 (by simp)))
 have B2E : Hid (Below w2.heap.size w2 wE) := Lib.hid (BE.out.trans ((HC.out.to w6 (by simp)).mono BE.out.size))
 have A1 := Lib.hid (C1.out wE B2E.out)
 have A2 := Lib.hid (C2.out wE B2E.out)
 have A3 := Lib.hid (C3.out wE B2E.out)
 have CX := Lib.hid (EX.out.below (HC.out.to w7 (by simp)) rfl)
 have CY := Lib.hid (EW.out.below (HC.out.to w9 (by simp)) rfl)
 have BWE : Hid (Below w.heap.size w wE) := Lib.hid (BW.out.trans (B2E.out.mono BW.out.size))
 have SXY : Hid (w6.heap.size ≤ zx ∧ w6.heap.size ≤ zw) := Lib.hid ⟨by have h1 := Szx.out; have h2 := S67.out; omega, by have h1 := Szw.out; have h2 := S69.out; omega⟩
 have NS : Hid (¬ (fun k => k = g1 ∨ k = g2 ∨ k = g3) z ∧ ¬ (fun k => k = g1 ∨ k = g2 ∨ k = g3) y1 ∧ ¬ (fun k => k = g1 ∨ k = g2 ∨ k = g3) y2 ∧ ¬ (fun k => k = g1 ∨ k = g2 ∨ k = g3) y3 ∧ ¬ (fun k => k = g1 ∨ k = g2 ∨ k = g3) zx ∧ ¬ (fun k => k = g1 ∨ k = g2 ∨ k = g3) zw) := Lib.hid (by
  have h1 := GB.out
  have h2 := ZL.out
  have h3 := NE.out
  have h4 := SXY.out
  have h5 := GL.out
  refine ⟨?_, ?_, ?_, ?_, ?_, ?_⟩ <;> (show ¬ (_ ∨ _ ∨ _); omega))
 have AS2 : Hid (l2 ≠ [] → ∀ ad, a2 = some ad → ¬ (fun k => k = g1 ∨ k = g2 ∨ k = g3) ad.block) := Lib.hid (fun h0 ad had => by
  have h1 := cells_inL H2.out h0 ad had
  have h2 := GB.out
  have h3 := ZL.out
  show ¬ (_ ∨ _ ∨ _); omega)
 have AS3 : Hid (l3 ≠ [] → ∀ ad, a3 = some ad → ¬ (fun k => k = g1 ∨ k = g2 ∨ k = g3) ad.block) := Lib.hid (fun h0 ad had => by
  have h1 := cells_inL H3.out h0 ad had
  have h2 := GB.out
  have h3 := ZL.out
  show ¬ (_ ∨ _ ∨ _); omega)
 have XS : Hid (tl ≠ [] → ∀ ad, xa = some ad → ¬ (fun k => k = g1 ∨ k = g2 ∨ k = g3) ad.block) := Lib.hid (fun _ ad had => by
  have h1 := FX.out ad had
  have h2 := GL.out
  show ¬ (_ ∨ _ ∨ _); omega)
 have YS : Hid (tl ≠ [] → ∀ ad, ya = some ad → ¬ (fun k => k = g1 ∨ k = g2 ∨ k = g3) ad.block) := Lib.hid (fun _ ad had => by
  have h1 := FW.out ad had
  have h2 := GL.out
  show ¬ (_ ∨ _ ∨ _); omega)
 have GW : Hid (∀ k, (fun k => k = g1 ∨ k = g2 ∨ k = g3) k → w.heap.size ≤ k) := Lib.hid (fun k hk => by
  have h1 := GB.out
  have h2 := ZL.out
  rcases hk with rfl | rfl | rfl <;> omega)
 clear HC O1 O2 O3 HP1 HP2 HP3 HL HX HY EX EW C1 C2 C3
 have t0 := cell_of_row _ y1 0 _ _ _ R1.out
 have t1 := cell_of_row _ y1 1 _ _ _ R1.out
 have t2 := cell_of_row _ y1 2 _ _ _ R1.out
 have s0 := cell_of_row _ z 0 _ _ _ RL.out
 have s1 := cell_of_row _ z 1 _ _ _ RL.out
 have s2 := cell_of_row _ z 2 _ _ _ RL.out
 go_wp2_with fail
 refine (kr_left k1 m1 l1 g1 n1 cc1 w2.heap.size a1 c1 _ N1.out (by omega) K1.out A1.out).mono ?_
 rintro _ w12 ⟨rfl, hg⟩
 clear t0 t1 t2 s0 s1 s2
 have GS1 : Hid (GrS (fun k => k = g1 ∨ k = g2 ∨ k = g3) wE w12) := Lib.hid ((GrS.refl (fun k => k = g1 ∨ k = g2 ∨ k = g3) wE).grown hg (by simp))
 replace K2 := Lib.hid (own_grown K2.out hg (fun k' hk' e => by have h3 := Option.some.inj (show some g2 = some k' from hk'); have h4 := Option.some.inj e; have := NE.out; omega))
 replace K3 := Lib.hid (own_grown K3.out hg (fun k' hk' e => by have h3 := Option.some.inj (show some g3 = some k' from hk'); have h4 := Option.some.inj e; have := NE.out; omega))
 clear hg
 have t0 := cell_of_row _ y2 0 _ _ _ (GS1.out.box R2.out NS.out.2.2.1)
 have t1 := cell_of_row _ y2 1 _ _ _ (GS1.out.box R2.out NS.out.2.2.1)
 have t2 := cell_of_row _ y2 2 _ _ _ (GS1.out.box R2.out NS.out.2.2.1)
 have s0 := cell_of_row _ z 3 _ _ _ (GS1.out.box RL.out NS.out.1)
 have s1 := cell_of_row _ z 4 _ _ _ (GS1.out.box RL.out NS.out.1)
 have s2 := cell_of_row _ z 5 _ _ _ (GS1.out.box RL.out NS.out.1)
 go_wp2_with fail
 refine (kr_left k2 m2 l2 g2 n2 cc2 w2.heap.size a2 c2 _ N2.out (by omega) K2.out (GS1.out.cells A2.out AS2.out)).mono ?_
 rintro _ w13 ⟨rfl, hg⟩
 clear t0 t1 t2 s0 s1 s2
 have GS2 : Hid (GrS (fun k => k = g1 ∨ k = g2 ∨ k = g3) wE w13) := Lib.hid (GS1.out.grown hg (by simp))
 replace K3 := Lib.hid (own_grown K3.out hg (fun k' hk' e => by have h3 := Option.some.inj (show some g3 = some k' from hk'); have h4 := Option.some.inj e; have := NE.out; omega))
 clear hg
 have t0 := cell_of_row _ y3 0 _ _ _ (GS2.out.box R3.out NS.out.2.2.2.1)
 have t1 := cell_of_row _ y3 1 _ _ _ (GS2.out.box R3.out NS.out.2.2.2.1)
 have t2 := cell_of_row _ y3 2 _ _ _ (GS2.out.box R3.out NS.out.2.2.2.1)
 have s0 := cell_of_row _ z 6 _ _ _ (GS2.out.box RL.out NS.out.1)
 have s1 := cell_of_row _ z 7 _ _ _ (GS2.out.box RL.out NS.out.1)
 have s2 := cell_of_row _ z 8 _ _ _ (GS2.out.box RL.out NS.out.1)
 go_wp2_with fail
 refine (kr_left k3 m3 l3 g3 n3 cc3 w2.heap.size a3 c3 _ N3.out (by omega) K3.out (GS2.out.cells A3.out AS3.out)).mono ?_
 rintro _ w14 ⟨rfl, hg⟩
 clear t0 t1 t2 s0 s1 s2
 have GS3 : Hid (GrS (fun k => k = g1 ∨ k = g2 ∨ k = g3) wE w14) := Lib.hid (GS2.out.grown hg (by simp))
 clear hg
 have t0 := cell_of_row _ zx 0 _ _ _ (GS3.out.box RX.out NS.out.2.2.2.2.1)
 have t1 := cell_of_row _ zx 1 _ _ _ (GS3.out.box RX.out NS.out.2.2.2.2.1)
 have t2 := cell_of_row _ zx 2 _ _ _ (GS3.out.box RX.out NS.out.2.2.2.2.1)
 have s0 := cell_of_row _ zw 0 _ _ _ (GS3.out.box RY.out NS.out.2.2.2.2.2)
 have s1 := cell_of_row _ zw 1 _ _ _ (GS3.out.box RY.out NS.out.2.2.2.2.2)
 have s2 := cell_of_row _ zw 2 _ _ _ (GS3.out.box RY.out NS.out.2.2.2.2.2)
 have TN : Hid (tl.length ≤ 9223372036854775807) := TLN0
 go_wp2_with fail
 refine (kr_Same tk tm tl xa xn xc tk tm tl ya yn yc _ (GS3.out.cells CX.out XS.out) (GS3.out.cells CY.out YS.out) NX.out NW.out (by have := NX.out; have := TN.out; omega)).mono ?_
 rintro _ w15 ⟨rfl, hb⟩
 rw [show sameG tk tm tl tk tm tl = true from by simp [sameG]]
 clear t0 t1 t2 s0 s1 s2
 have BF : Hid (Below w.heap.size w w15) := Lib.hid ((GS3.out.below hb).bel BWE.out BWE.out.size GW.out)
 clear hb
 have HC : Hid (Chain [w15] w15) := Lib.hid (Chain.one w15)
 go_wp2_with fail
 refine (kn_numC te _).mono ?_
 rintro e w16 ⟨rfl, hb⟩
 replace HC := Lib.hid (HC.out.push hb)
 clear hb
 have BF2 : Hid (Below w.heap.size w w16) := Lib.hid (BF.out.trans ((HC.out.to w15 (by simp)).mono BF.out.size))
 go_wp2_with fail
 refine (known_09 _ (G.out.below BF2.out)).mono ?_
 rintro _ w18 ⟨rfl, hb⟩
 have BF3 : Hid (Below w.heap.size w w18) := Lib.hid (BF2.out.trans (hb.mono BF2.out.size))
 clear hb
 go_wp2_with fail
 go_ret
 exact ⟨rfl, BF3.out⟩
end Go.Proofs.YtjlliohjeiclaaaGreatDoor
namespace Go.Proofs.YtjlliohjeiclaaaGreatDoor
open Go.ChangeShapes Go.WideShapes Go.ChangeAt Go.RowKit Go.Deep
section
variable {H : Type} {enc : TypeId × Value → H} {P : Program} {w : World} {base : Nat} {held : Bool}
theorem spot_none {a : Addr} {v : Value} (h : w.cell? (a.add 0) = some v) : ∃ b off, a = ⟨b, off, none⟩ := by
 obtain ⟨b, off, spot⟩ := a
 have hs : spot = none := by simpa [Addr.add] using World.cell?_spot h
 subst hs
 exact ⟨b, off, rfl⟩
end
end Go.Proofs.YtjlliohjeiclaaaGreatDoor
namespace Go.Proofs.YtjlliohjeiclaaaGreatDoor
open Go.ChangeShapes Go.WideShapes Go.ChangeAt Go.RowKit Go.Deep St Ku
section
variable {H : Type} {enc : TypeId × Value → H} {w : World} {base : Nat} {held : Bool}
theorem maxLen_small {n : Nat} (h : n ≤ maxLen) : n ≤ 9223372036854775807 := by unfold maxLen at h; omega
end
theorem laid_eq1 : (Rows.laid_unicode_utf8_acceptRanges : DataW Unit) = Lib.acceptData := by kernel_rfl
theorem laid_eq2 : Rows.laid_unicode_utf8_first = Lib.firstData := by kernel_rfl
theorem glob_of {W : World} (hL : laidMetH Tryz.prog [("unicode/utf8.acceptRanges", Rows.laid_unicode_utf8_acceptRanges), ("unicode/utf8.first", Rows.laid_unicode_utf8_first)] W) (hS : W.ShapedOpen Tryz.prog) : Glob W := by
 refine ⟨utf8Tabs_of_readsT (U8Types.of196 lay196) ⟨by kernel_rfl, by kernel_rfl, by kernel_rfl, by kernel_rfl, by kernel_rfl, by kernel_rfl, by kernel_rfl⟩ ?_ ?_, ?_⟩
 · rw [← laid_eq2]; exact Lib.laidMet.reads hL (.tail _ (.head _))
 · rw [← laid_eq1]; exact Lib.laidMet.reads hL (.head _)
 · exact cell_of_shapedOpen_int (P := Tryz.prog) (g := 2) (t := 3) (zero := #[.int .i64 0]) hS (of_decide_eq_true (by kernel_rfl)) (by kernel_rfl) rfl (by kernel_rfl) (by kernel_rfl) Tryz.underlying3
noncomputable def laidWorld (os : Os) : World :=
 let w0 := World.holding Tryz.prog os ⟨#[], #[], []⟩
 let put (h : Array Obj) (g : Nat) (cs : Array Value) : Array Obj := h.modify g fun
  | .cells _ t frozen => .cells cs t frozen
  | o => o
 let h1 := put w0.heap 0 (Lib.firstTab.map fun z => Value.int .u8 z).toArray
 let h2 := put h1 1 ((List.range 16).flatMap fun i => [Value.int .u8 (Lib.accLo i), Value.int .u8 (Lib.accHi i)]).toArray
 { w0 with heap := h2 }
theorem laid_met (os : Os) (args : Array Value) : laidMet Tryz.prog [("unicode/utf8.acceptRanges", Rows.laid_unicode_utf8_acceptRanges), ("unicode/utf8.first", Rows.laid_unicode_utf8_first)] ((laidWorld os).forCall (fun _ _ => 0) ⟨#[], args, []⟩).memory :=
 (LaidIn.of_run (l := [("unicode/utf8.acceptRanges", Rows.laid_unicode_utf8_acceptRanges), ("unicode/utf8.first", Rows.laid_unicode_utf8_first)]) [1, 0] 8 (by kernel_rfl) (by kernel_rfl) (by kernel_rfl) (by kernel_rfl)).met
end Go.Proofs.YtjlliohjeiclaaaGreatDoor
namespace Go.Proofs.YtjlliohjeiclaaaGreatDoor
open Go.ChangeShapes Go.WideShapes Go.ChangeAt Go.RowKit Go.Deep
section
variable {H : Type} {enc : TypeId × Value → H} {w : World} {base : Nat} {held : Bool}
theorem flat_get {α : Type} (f : α → List Value) (m : Nat) (hf : ∀ x, (f x).length = m) (hm : 0 < m) : ∀ (l : List α) (i r : Nat) (hi : i < l.length), r < m → (l.flatMap f)[i * m + r]? = (f l[i])[r]?
 | [], i, r, hi, _ => by simp at hi
 | x :: l, 0, r, _, hr => by
  rw [List.flatMap_cons, Nat.zero_mul, Nat.zero_add, List.getElem?_append_left (by rw [hf]; exact hr)]
  rfl
 | x :: l, i + 1, r, hi, hr => by
  rw [List.flatMap_cons, List.getElem?_append_right (by rw [hf, Nat.succ_mul]; omega), hf, Nat.succ_mul]
  rw [show i * m + m + r - m = i * m + r by omega, flat_get f m hf hm l i r (by simpa using hi) hr]
  rfl
theorem flat_len {α : Type} (f : α → List Value) (m : Nat) (hf : ∀ x, (f x).length = m) : ∀ (l : List α), (l.flatMap f).length = l.length * m
 | [] => by simp
 | x :: l => by rw [List.flatMap_cons, List.length_append, hf, flat_len f m hf l, List.length_cons, Nat.succ_mul]; omega
theorem open_structs {α : Type} [Inhabited α] (f : α → List Value) (m : Nat) (hf : ∀ x, (f x).length = m) (hm : 0 < m) (G : α → Prop) {t e : TypeId} {fuel : Nat} {a0 : Option Addr} {len cap : Nat} {x : DataW H × List MemPlace} (ht : Tryz.prog.underlying t = some (.slice e)) (ce : Tryz.prog.cellsOf e = m)
 (each : ∀ {fuel : Nat} {cs : List Value} {x : DataW H × List MemPlace}, DataW.trod enc Tryz.prog w base (fun _ => true) held fuel e cs = some x → ∃ y : α, cs = f y ∧ G y)
 (h : DataW.trod enc Tryz.prog w base (fun _ => true) held fuel t (Value.slice a0 len cap).cells.toList = some x) :
 ∃ l : List α, len = l.length ∧ CellsAt w a0 (l.flatMap f) ∧ l.length ≤ maxLen ∧ ∀ y ∈ l, G y := by
 rcases open_slice ht h with ⟨hcs, _⟩ | ⟨a, l, c, k, n, D, Pl, hcs, _, hl, hmx, hmm, hx, hi⟩
 · simp [Value.cells] at hcs
   obtain ⟨rfl, rfl, rfl⟩ := hcs
   exact ⟨[], rfl, CellsAt.nil _ _, Nat.zero_le _, fun y hy => by cases hy⟩
 · simp [Value.cells] at hcs
   obtain ⟨rfl, rfl, rfl⟩ := hcs
   simp only [if_true] at hmm
   subst hmm
   have each2 : ∀ i, i < k → ∃ y : α, (∀ r, r < m → w.cell? ((a.add (i * m)).add r) = (f y)[r]?) ∧ G y := by
    intro i hik
    obtain ⟨cs', hc, htr⟩ := hi i hik
    rw [ce] at hc
    obtain ⟨y, rfl, hg⟩ := each htr
    obtain ⟨_, hcl, hat⟩ := World.cells?_some hc
    refine ⟨y, fun r hr => ?_, hg⟩
    have := hat r hr
    rw [this]
    try rw [List.getElem?_eq_getElem]
    done
   obtain ⟨F, hF⟩ := choose_lt (α := α) (n := k) (p := fun i y => (∀ r, r < m → w.cell? ((a.add (i * m)).add r) = (f y)[r]?) ∧ G y) each2
   refine ⟨(List.range len).map F, by simp, fun q hq => ?_, by simp; omega, fun y hy => ?_⟩
   · have hlenF : (((List.range len).map F).flatMap f).length = len * m := by rw [flat_len f m hf]; simp
     have hq2 : q < len * m := by rw [← hlenF]; exact hq
     have hqm : q / m < len := Nat.div_lt_of_lt_mul (by rw [Nat.mul_comm]; exact hq2)
     have hp : 0 < k := Nat.lt_of_le_of_lt (Nat.zero_le _) (Nat.lt_of_lt_of_le hqm hl)
     have z0 := (hF 0 hp).1 0 hm
     rw [List.getElem?_eq_getElem (by rw [hf]; exact hm), Nat.zero_mul] at z0
     obtain ⟨b, off, rfl⟩ := spot_none (a := a) z0
     refine ⟨b, off, rfl, ?_⟩
     have hr : q % m < m := Nat.mod_lt _ hm
     have hk := (hF (q / m) (Nat.lt_of_lt_of_le hqm hl)).1 (q % m) hr
     have hg := flat_get f m hf hm ((List.range len).map F) (q / m) (q % m) (by simpa using hqm) hr
     simp only [List.getElem_map, List.getElem_range] at hg
     have hqe : q / m * m + q % m = q := by rw [Nat.mul_comm]; exact Nat.div_add_mod q m
     rw [hqe] at hg
     rw [Addr_add, Addr_add, Nat.add_assoc, hqe] at hk
     rw [hk, ← hg, List.getElem?_eq_getElem hq]
   · obtain ⟨i, hi', rfl⟩ := List.mem_map.1 hy
     exact (hF i (by have := List.mem_range.1 hi'; omega)).2
end
end Go.Proofs.YtjlliohjeiclaaaGreatDoor
namespace Go.Proofs.YtjlliohjeiclaaaGreatDoor
open Go.ChangeShapes Go.WideShapes Go.ChangeAt Go.RowKit Go.Deep St
section
variable {H : Type} {enc : TypeId × Value → H} {w : World} {base : Nat} {held : Bool}
theorem bulk_part {d : DataW H} {l : List (DataW H)} (h : d ∈ l) : Rows.uptoBulk d ≤ Rows.uptoBulkAll l := by
 induction l with
 | nil => cases h
 | cons x r ih =>
  simp only [Rows.uptoBulkAll]
  cases List.mem_cons.1 h with
  | inl e => subst e; omega
  | inr e => have := ih e; omega
theorem bulk_one (d : DataW H) : 1 ≤ Rows.uptoBulk d := by
 cases d with
 | lit l => cases l <;> simp [Rows.uptoBulk]
 | nil => simp [Rows.uptoBulk]
 | ptr d => simp [Rows.uptoBulk]
 | slice elems spare => simp [Rows.uptoBulk]
 | agg parts => simp [Rows.uptoBulk]
 | iface t d => simp [Rows.uptoBulk]
 | map entries => simp [Rows.uptoBulk]
 | held h => simp [Rows.uptoBulk]
theorem bulk_len (l : List (DataW H)) : l.length ≤ Rows.uptoBulkAll l := by
 induction l with
 | nil => simp [Rows.uptoBulkAll]
 | cons x r ih => have := bulk_one x; simp only [Rows.uptoBulkAll, List.length_cons]; omega
set_option maxRecDepth 100000 in
theorem open_br {fuel : Nat} {cs : List Value} {x : DataW H × List MemPlace} (h : DataW.trod enc Tryz.prog w base (fun _ => true) held fuel 39 cs = some x) :
 ∃ (r : Int) (l : ByteArray), cs = [.int .i64 r, .string l] ∧ l.size ≤ maxLen := by
 obtain ⟨xs, n, _, _, hlen, hz, hff⟩ := DataW.trod_struct Tryz.underlying39 h
 rw [show Tryz.prog.cellsOf 39 = 2 by kernel_rfl] at hlen
 match cs, hlen with
 | [v0, v1], _ =>
  have q0 := hff 0 _ rfl
  have q1 := hff 1 _ rfl
  rw [List.getElem?_eq_getElem (by rw [hz]; decide)] at q0 q1
  change DataW.trod enc _ w base _ held n 3 (List.take (Tryz.prog.cellsOf 3) [v0, v1]) = _ at q0
  change DataW.trod enc _ w base _ held n 9 (List.take (Tryz.prog.cellsOf 9) [v1]) = _ at q1
  rw [show Tryz.prog.cellsOf 3 = 1 by kernel_rfl] at q0
  rw [show Tryz.prog.cellsOf 9 = 1 by kernel_rfl] at q1
  obtain ⟨r, k0, _⟩ := DataW.trod_int Tryz.underlying3 q0
  obtain ⟨l, k1, _, k2⟩ := DataW.trod_string Tryz.underlying9 q1
  simp only [List.take, List.cons.injEq, and_true] at k0 k1
  subst k0 k1
  exact ⟨r, l, rfl, k2⟩
set_option maxRecDepth 100000 in
theorem open_nm {fuel : Nat} {cs : List Value} {x : DataW H × List MemPlace} (h : DataW.trod enc Tryz.prog w base (fun _ => true) held fuel 41 cs = some x) :
 ∃ (r : Int) (l : ByteArray) (k : Int), cs = [.int .i64 r, .string l, .int .i64 k] ∧ l.size ≤ maxLen := by
 obtain ⟨xs, n, _, _, hlen, hz, hff⟩ := DataW.trod_struct Tryz.underlying41 h
 rw [show Tryz.prog.cellsOf 41 = 3 by kernel_rfl] at hlen
 match cs, hlen with
 | [v0, v1, v2], _ =>
  have q0 := hff 0 _ rfl
  have q1 := hff 1 _ rfl
  rw [List.getElem?_eq_getElem (by rw [hz]; decide)] at q0 q1
  change DataW.trod enc _ w base _ held n 39 (List.take (Tryz.prog.cellsOf 39) [v0, v1, v2]) = _ at q0
  change DataW.trod enc _ w base _ held n 2 (List.take (Tryz.prog.cellsOf 2) [v2]) = _ at q1
  rw [show Tryz.prog.cellsOf 39 = 2 by kernel_rfl] at q0
  rw [show Tryz.prog.cellsOf 2 = 1 by kernel_rfl] at q1
  obtain ⟨r, l, k0, kl⟩ := open_br q0
  obtain ⟨k, k1, _⟩ := DataW.trod_int Tryz.underlying2 q1
  simp only [List.take, List.cons.injEq, and_true] at k0 k1
  obtain ⟨k0, k0'⟩ := k0
  subst k0 k0' k1
  exact ⟨r, l, k, rfl, kl⟩
set_option maxRecDepth 100000 in
theorem open_sv {fuel : Nat} {cs : List Value} {x : DataW H × List MemPlace} (h : DataW.trod enc Tryz.prog w base (fun _ => true) held fuel 43 cs = some x) :
 ∃ s : Sv, cs = [.int .i64 s.g, .int .i64 s.r, .string s.l, .int .i64 s.n, .int .i64 s.i] ∧ s.l.size ≤ maxLen := by
 obtain ⟨xs, n, _, _, hlen, hz, hff⟩ := DataW.trod_struct Tryz.underlying43 h
 rw [show Tryz.prog.cellsOf 43 = 5 by kernel_rfl] at hlen
 match cs, hlen with
 | [v0, v1, v2, v3, v4], _ =>
  have q0 := hff 0 _ rfl
  have q1 := hff 1 _ rfl
  have q2 := hff 2 _ rfl
  rw [List.getElem?_eq_getElem (by rw [hz]; decide)] at q0 q1 q2
  change DataW.trod enc _ w base _ held n 2 (List.take (Tryz.prog.cellsOf 2) [v0, v1, v2, v3, v4]) = _ at q0
  change DataW.trod enc _ w base _ held n 41 (List.take (Tryz.prog.cellsOf 41) [v1, v2, v3, v4]) = _ at q1
  change DataW.trod enc _ w base _ held n 3 (List.take (Tryz.prog.cellsOf 3) [v4]) = _ at q2
  rw [show Tryz.prog.cellsOf 2 = 1 by kernel_rfl] at q0
  rw [show Tryz.prog.cellsOf 41 = 3 by kernel_rfl] at q1
  rw [show Tryz.prog.cellsOf 3 = 1 by kernel_rfl] at q2
  obtain ⟨g, k0, _⟩ := DataW.trod_int Tryz.underlying2 q0
  obtain ⟨r, l, k, k1, kl⟩ := open_nm q1
  obtain ⟨i, k2, _⟩ := DataW.trod_int Tryz.underlying3 q2
  simp only [List.take, List.cons.injEq, and_true] at k0 k1 k2
  obtain ⟨e1, e2, e3⟩ := k1
  subst k0 e1 e2 e3 k2
  exact ⟨⟨g, r, l, k, i⟩, rfl, kl⟩
set_option maxRecDepth 100000 in
theorem open_ev {fuel : Nat} {cs : List Value} {x : DataW H × List MemPlace} (h : DataW.trod enc Tryz.prog w base (fun _ => true) held fuel 53 cs = some x) :
 ∃ e : Ev, cs = elV e ∧ e.1.l.size ≤ maxLen ∧ e.2.size ≤ maxLen := by
 obtain ⟨xs, n, _, _, hlen, hz, hff⟩ := DataW.trod_struct Tryz.underlying53 h
 rw [show Tryz.prog.cellsOf 53 = 6 by kernel_rfl] at hlen
 match cs, hlen with
 | [v0, v1, v2, v3, v4, v5], _ =>
  have q0 := hff 0 _ rfl
  have q1 := hff 1 _ rfl
  rw [List.getElem?_eq_getElem (by rw [hz]; decide)] at q0 q1
  change DataW.trod enc _ w base _ held n 43 (List.take (Tryz.prog.cellsOf 43) [v0, v1, v2, v3, v4, v5]) = _ at q0
  change DataW.trod enc _ w base _ held n 9 (List.take (Tryz.prog.cellsOf 9) [v5]) = _ at q1
  rw [show Tryz.prog.cellsOf 43 = 5 by kernel_rfl] at q0
  rw [show Tryz.prog.cellsOf 9 = 1 by kernel_rfl] at q1
  obtain ⟨s, k0, kl⟩ := open_sv q0
  obtain ⟨t, k1, _, kt⟩ := DataW.trod_string Tryz.underlying9 q1
  simp only [List.take, List.cons.injEq, and_true] at k0 k1
  obtain ⟨e1, e2, e3, e4, e5⟩ := k0
  subst e1 e2 e3 e4 e5 k1
  exact ⟨(s, t), rfl, kl, kt⟩
instance instEvV : Inhabited Ev := ⟨(⟨0, 0, ⟨#[]⟩, 0, 0⟩, ⟨#[]⟩)⟩
theorem open_elsV {fuel : Nat} {a0 : Option Addr} {len cap : Nat} {x : DataW H × List MemPlace} (h : DataW.trod enc Tryz.prog w base (fun _ => true) held fuel 22 (Value.slice a0 len cap).cells.toList = some x) :
 ∃ l : List Ev, len = l.length ∧ CellsAt w a0 (elsV l) ∧ l.length ≤ maxLen ∧ ∀ e ∈ l, e.1.l.size ≤ 9223372036854775807 :=
 open_structs (α := Ev) elV 6 (fun _ => rfl) (by omega) (fun e => e.1.l.size ≤ 9223372036854775807) Tryz.underlying22 (by kernel_rfl) (fun h => by obtain ⟨e, h1, h2, _⟩ := open_ev h; exact ⟨e, h1, maxLen_small h2⟩) h
set_option maxRecDepth 100000 in
theorem open_val {fuel : Nat} {cs : List Value} {x : DataW H × List MemPlace} (h : DataW.trod enc Tryz.prog w base (fun _ => true) held fuel 79 cs = some x) :
 ∃ (k m : Int) (l : List Ev) (a : Option Addr) (n c : Nat), cs = [.int .i64 k, .int .i64 m, .slice a n c] ∧ CellsAt w a (elsV l) ∧ n = l.length ∧ (∀ e ∈ l, e.1.l.size ≤ 9223372036854775807) ∧ n ≤ Rows.uptoBulk x.1 := by
 obtain ⟨xs, f, _, rfl, hlen, hz, hff⟩ := DataW.trod_struct Tryz.underlying79 h
 rw [show Tryz.prog.cellsOf 79 = 3 by kernel_rfl] at hlen
 match cs, hlen with
 | [v0, v1, v2], _ =>
  have q0 := hff 0 _ rfl
  have q1 := hff 1 _ rfl
  have q2 := hff 2 _ rfl
  have hz2 : 2 < xs.length := by rw [hz]; decide
  rw [List.getElem?_eq_getElem (by rw [hz]; decide)] at q0 q1
  rw [List.getElem?_eq_getElem hz2] at q2
  change DataW.trod enc _ w base _ held f 77 (List.take (Tryz.prog.cellsOf 77) [v0, v1, v2]) = _ at q0
  change DataW.trod enc _ w base _ held f 2 (List.take (Tryz.prog.cellsOf 2) [v1, v2]) = _ at q1
  change DataW.trod enc _ w base _ held f 22 (List.take (Tryz.prog.cellsOf 22) [v2]) = _ at q2
  rw [show Tryz.prog.cellsOf 77 = 1 by kernel_rfl] at q0
  rw [show Tryz.prog.cellsOf 2 = 1 by kernel_rfl] at q1
  rw [show Tryz.prog.cellsOf 22 = 1 by kernel_rfl] at q2
  obtain ⟨k, k0, _⟩ := DataW.trod_int Tryz.underlying77 q0
  obtain ⟨m, k1, _⟩ := DataW.trod_int Tryz.underlying2 q1
  simp only [List.take, List.cons.injEq, and_true] at k0 k1
  subst k0 k1
  simp only [List.take] at q2
  have hmem : xs[2].1 ∈ xs.map (·.1) := List.mem_map.2 ⟨xs[2], List.getElem_mem hz2, rfl⟩
  have hle := bulk_part hmem
  obtain ⟨a, n, c, rfl, hn⟩ : ∃ a n c, v2 = .slice a n c ∧ n ≤ Rows.uptoBulk xs[2].1 := by
   rcases open_slice Tryz.underlying22 q2 with ⟨hcs, _⟩ | ⟨a, l, c, kk, ff, D, Pl, hcs, _, _, _, _, hx, _⟩
   · simp only [List.cons.injEq, and_true] at hcs; exact ⟨_, _, _, hcs, Nat.zero_le _⟩
   · simp only [List.cons.injEq, and_true] at hcs
     refine ⟨_, _, _, hcs, ?_⟩
     rw [hx]
     have h1 := bulk_len ((List.range l).map D)
     simp only [Rows.uptoBulk]
     simp only [List.length_map, List.length_range] at h1
     omega
  obtain ⟨l, h1, h2, _, h4⟩ := open_elsV (a0 := a) (len := n) (cap := c) q2
  exact ⟨k, m, l, a, n, c, rfl, h2, h1, h4, by simp only [Rows.uptoBulk]; omega⟩
theorem arr_elemB {P : Program} {fuel : Nat} {t e : TypeId} {n : Nat} {cs : List Value} {x : DataW H × List MemPlace} {sp : Nat → Bool} (ht : P.underlying t = some (.array n e))
 (h : DataW.trod enc P w base sp held fuel t cs = some x) (i : Nat) (hi : i < n) :
 ∃ fuel' y, DataW.trod enc P w base sp held fuel' e ((cs.drop (i * P.cellsOf e)).take (P.cellsOf e)) = some y ∧ Rows.uptoBulk y.1 ≤ Rows.uptoBulk x.1 := by
 cases fuel with
 | zero => simp [DataW.trod] at h
 | succ fuel =>
  simp only [DataW.trod, ht] at h
  split at h
  · obtain ⟨xs, hm, hx⟩ := Option.map_eq_some_iff.1 h
    obtain ⟨b, hb, hf⟩ := Lib.mapM_at hm i i (by simp [hi])
    refine ⟨fuel, b, hf, ?_⟩
    have hmem : b.1 ∈ xs.map (·.1) := List.mem_map.2 ⟨b, List.mem_of_getElem? hb, rfl⟩
    have := bulk_part hmem
    rw [← hx]
    simp only [Rows.uptoBulk]
    omega
  · cases h
set_option maxRecDepth 100000 in
theorem open_vals {v : Value} {b : Nat} {r : Reach} {fuel : Nat} {x : DataW H × List MemPlace} (hok : Value.okWide Tryz.prog w r b 96 v)
 (h : DataW.trod enc Tryz.prog w base (fun _ => true) held fuel 96 v.cells.toList = some x) :
 ∃ (k1 m1 : Int) (l1 : List Ev) (a1 : Option Addr) (n1 c1 : Nat) (k2 m2 : Int) (l2 : List Ev) (a2 : Option Addr) (n2 c2 : Nat) (k3 m3 : Int) (l3 : List Ev) (a3 : Option Addr) (n3 c3 : Nat), v = .agg #[.int .i64 k1, .int .i64 m1, .slice a1 n1 c1, .int .i64 k2, .int .i64 m2, .slice a2 n2 c2, .int .i64 k3, .int .i64 m3, .slice a3 n3 c3] ∧
  (CellsAt w a1 (elsV l1) ∧ CellsAt w a2 (elsV l2) ∧ CellsAt w a3 (elsV l3)) ∧ (n1 = l1.length ∧ n2 = l2.length ∧ n3 = l3.length) ∧ ((∀ e ∈ l1, e.1.l.size ≤ 9223372036854775807) ∧ (∀ e ∈ l2, e.1.l.size ≤ 9223372036854775807) ∧ ∀ e ∈ l3, e.1.l.size ≤ 9223372036854775807) ∧ n1 ≤ Rows.uptoBulk x.1 ∧ n2 ≤ Rows.uptoBulk x.1 ∧ n3 ≤ Rows.uptoBulk x.1 := by
 obtain ⟨cs, rfl, hsz⟩ : ∃ cs, v = .agg cs ∧ cs.size = 9 := by
  simp only [Value.okWide, Tryz.underlying96] at hok
  obtain ⟨cs, h1, h2, _⟩ := hok
  exact ⟨cs, h1, by rw [h2]; kernel_rfl⟩
 obtain ⟨l, rfl⟩ : ∃ l : List Value, cs = l.toArray := ⟨cs.toList, by simp⟩
 have hl : l.length = 9 := by simpa using hsz
 match l, hl with
 | [x0, x1, x2, x3, x4, x5, x6, x7, x8], _ =>
  have ce : Tryz.prog.cellsOf 79 = 3 := by kernel_rfl
  obtain ⟨f0, y0, h0, b0⟩ := arr_elemB Tryz.underlying96 h 0 (by decide)
  obtain ⟨f1, y1, h1, b1⟩ := arr_elemB Tryz.underlying96 h 1 (by decide)
  obtain ⟨f2, y2, h2, b2⟩ := arr_elemB Tryz.underlying96 h 2 (by decide)
  rw [ce] at h0 h1 h2
  obtain ⟨k1, m1, l1, a1, n1, c1, e0, p1, q1, z1, u1⟩ := open_val h0
  obtain ⟨k2, m2, l2, a2, n2, c2, e1, p2, q2, z2, u2⟩ := open_val h1
  obtain ⟨k3, m3, l3, a3, n3, c3, e2, p3, q3, z3, u3⟩ := open_val h2
  simp [Value.cells] at e0 e1 e2
  obtain ⟨rfl, rfl, rfl⟩ := e0
  obtain ⟨rfl, rfl, rfl⟩ := e1
  obtain ⟨rfl, rfl, rfl⟩ := e2
  exact ⟨k1, m1, l1, a1, n1, c1, k2, m2, l2, a2, n2, c2, k3, m3, l3, a3, n3, c3, rfl, ⟨p1, p2, p3⟩, ⟨q1, q2, q3⟩, ⟨z1, z2, z3⟩, by omega, by omega, by omega⟩
end
end Go.Proofs.YtjlliohjeiclaaaGreatDoor
