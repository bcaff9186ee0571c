/- Words, contracts and walks that the proof stands on (KnW OpenK). -/
import Derived.Deep.CutRange
import Derived.Deep.DeepHandedRow
import Derived.Deep.DeepWitnessRowRef
import Derived.Deep.Grids
import Derived.Deep.Slices
import Derived.Lib.LaidIn
import Derived.Lib.LaidU8T
import Derived.LoopIn
import Derived.LoopNIn
import Derived.OpenShut
import Derived.ProofKit
import Derived.Shelf.Vars
import Derived.SliceStrings
import Derived.Test.YtjlliohjeiclaaaDoorCards
import Derived.Test.YtjlliohjeiclaaaDoorKA2
import Derived.Test.YtjlliohjeiclaaaDoorKA3
import Derived.Test.YtjlliohjeiclaaaDoorKA5
import Derived.Test.YtjlliohjeiclaaaDoorKA9
import Derived.Test.YtjlliohjeiclaaaDoorTie
namespace Go.Proofs.YtjlliohjeiclaaaDoor
open Go.RowKit St Pm Ku Kn
attribute [local go_sem] Oper.semAt_some
theorem kn_Empty6 (w : World) : Calls Tryd.prog 17 #[.int .i64 6] w fun e w' => e = .returned (.tuple #[.agg #[.int .i64 0, .int .i64 0, .slice none 0 0], .int .i64 2]) ∧ Below w.heap.size w w' := (kn_Empty 6 w).mono fun _ _ ⟨h1, h2⟩ => ⟨h1.trans (by rw [if_neg (by decide), if_neg (by decide)]), h2⟩
theorem kn_Empty0 (w : World) : Calls Tryd.prog 17 #[.int .i64 0] w fun e w' => e = .returned (.tuple #[.agg #[.int .i64 0, .int .i64 0, .slice none 0 0], .int .i64 2]) ∧ Below w.heap.size w w' := (kn_Empty 0 w).mono fun _ _ ⟨h1, h2⟩ => ⟨h1.trans (by rw [if_neg (by decide), if_neg (by decide)]), h2⟩
namespace Kn
def pkT (g : Nat → Value) (z T : Nat) : Array Value := #[.pointer (some ⟨z, 0, none⟩), .func (.func 51) #[] #[], .pointer (some ⟨T, 0, none⟩), g 3, g 4, g 5, g 6, g 7, g 8, g 9, g 10, g 11, g 12, g 13, g 14, g 15, g 16, g 17, g 18, g 19, g 20, g 21, g 22, g 23, g 24, g 25, g 26, g 27, g 28, g 29, g 30, g 31, g 32, g 33, g 34, g 35, g 36, g 37, g 38, g 39, g 40, g 41, g 42, g 43, g 44, g 45, g 46, g 47, g 48, g 49, g 50, g 51, g 52, g 53, g 54, g 55, g 56, g 57, g 58, g 59, g 60, g 61, g 62, g 63, g 64, g 65, g 66, g 67, g 68]
structure PtK (c T u B : Nat) (Ds : List Nat) (w : World) (pre : List KW) (W : World) : Prop where
 cnt : Boxed W c 3 (.int .i64 (pre.length : Int))
 trn : Boxed W T 3 (.int .i64 (u : Int))
 mrk : Facts (markF Ds) W
 bel : Below B w W
theorem ptK_own {c T u B : Nat} {Ds : List Nat} {w : World} {N : Nat} (hB : B ≤ w.heap.size) (hN : B ≤ N) (hc : c < N) (hT : T < N) (hD : ∀ D ∈ Ds, D < N) : OwnFrom N (PtK c T u B Ds w) := by
 rintro pre A A' row ⟨h1, h2, h3, h4⟩ hg hr
 exact ⟨own_block (β := Unit) hc () A A' row h1 hg hr, own_block (β := Unit) hT () A A' row h2 hg hr, facts_own (β := Unit) _ N (fun p hp => by obtain ⟨D, hD', rfl⟩ := List.mem_map.1 hp; exact hD D hD') () A A' row h3 hg hr, ownFrom_below (β := Unit) hB hN () A A' row h4 hg hr⟩
theorem PtK.below {c T u B : Nat} {Ds : List Nat} {w : World} {pre : List KW} {A A' : World} (h : PtK c T u B Ds w pre A) (hb : Below A.heap.size A A') (hB : B ≤ A.heap.size) : PtK c T u B Ds w pre A' :=
 ⟨boxStays h.cnt hb, boxStays h.trn hb, h.mrk.below hb, h.bel.trans (hb.mono hB)⟩
end Kn
open Kn
set_option maxRecDepth 100000 in
set_option maxHeartbeats 8000000 in
theorem law_Names (w : World) (hG : Glob w) : Calls Tryd.prog 4 #[] w fun e w' => e = .returned (.bool true) ∧ Below w.heap.size w w' := by
 have G := Lib.hid hG
 have EQ := Lib.hid (fun W env => eql_func (P := Tryd.prog) (t := 42) Tryd.underlying42 (.func 51) #[] env W)
 clear hG
 refine (callsIn_wide (n := 6)).1 ?_
 refine callsIn_of_wp_marks Tryd.func4 rfl trivial ?_ rfl
 simp only [Tryd.ntmps4, List.size_toArray, List.length_cons, List.length_nil, Nat.reduceAdd, Nat.reduceSub, Array.replicate_succ, Array.replicate_zero, List.push_toArray, List.append_toArray, List.nil_append, List.cons_append]
 refine wpIn_wide.2 ?_
 have HC : Hid (Chain [w] w) := Lib.hid (Chain.one w)
 go_upto_region 1 with (fail)
 obtain ⟨z, hz⟩ : ∃ c, w.heap.size = c := ⟨_, rfl⟩
 try rw [hz]
 obtain ⟨wA, hwA⟩ : ∃ X, allocs w [.cells #[.bool false] 4] = X := ⟨_, rfl⟩
 rw [show w.alloc (.cells #[.bool false] 4) = wA from hwA]
 have hb : Below w.heap.size w wA := by rw [← hwA]; exact allocs_below _ _
 have HR : Hid (wA.heap[z]? = some (.cells #[.bool false] 4 (0, 0))) := Lib.hid (by have := allocs_get [.cells #[.bool false] 4] w 0 _ rfl; rw [hwA, hz] at this; exact this)
 have Sz : Hid (w.heap.size = z) := Lib.hid hz
 replace HC := Lib.hid (HC.out.push hb)
 clear hb hwA hz
 go_wp2_with fail
 refine (kn_Kinds _).mono ?_
 rintro e w8 ⟨rfl, hb⟩
 replace HC := Lib.hid (HC.out.push hb)
 clear hb
 have EQ6 := EQ.out
 have X3 := Lib.hid (boxStays HR.out (HC.out.to wA (by simp)))
 have BW := Lib.hid (HC.out.to w (by simp))
 have SZ := Sz
 clear HC HR
 go_wp2_with fail
 clear EQ6
 obtain ⟨B0, hB0⟩ : ∃ b, w8.heap.size = b := ⟨_, rfl⟩
 rw [hB0]
 have HB0 := Lib.hid hB0
 have B7 : Hid (Below B0 w8 (w8.alloc (.cells #[.int .i64 0] 3))) := Lib.hid (by rw [← hB0]; exact below_new _ _)
 have T7 : Hid (Boxed (w8.alloc (.cells #[.int .i64 0] 3)) B0 3 (.int .i64 ((0 : Nat) : Int))) := Lib.hid (by rw [← hB0]; exact Boxed.new _ _ _)
 have SB : Hid (z < B0 ∧ w.heap.size ≤ B0) := Lib.hid (by rw [← hB0]; exact ⟨(Array.getElem?_eq_some_iff.1 X3.out).1, BW.out.size⟩)
 have hT7 : B0 < (w8.alloc (.cells #[.int .i64 0] 3)).heap.size := by rw [World.size_alloc]; omega
 clear hB0
 refine (wpIn_wide (n := 6)).1 ?_
 refine wpIn_loop (fun a' w1 => ∃ (u T : Nat) (Ds : List Nat), a' = { tmps := pkT (fun i => a'.tmps.getD i undef) z T, defers := Ds.map fun D => { target := .collected D, args := #[] } } ∧ Ds.length = u ∧ u ≤ 2 ∧ B0 ≤ T ∧ T < w1.heap.size ∧ Hid (Boxed w1 T 3 (.int .i64 (u : Int))) ∧ Hid (Facts (markF Ds) w1) ∧ Ds.Nodup ∧ (∀ D ∈ Ds, B0 ≤ D) ∧ Hid (Below B0 w8 w1)) (fun a' _ => 2 - a'.defers.length) ⟨0, B0, [], rfl, rfl, by omega, Nat.le_refl _, hT7, T7, Lib.hid (fun p hp => by cases hp), List.nodup_nil, by simp, B7⟩ ?_
 clear B7 T7 hT7
 rintro a' w1 ⟨u, T, Ds, he, hlen, hu, hT, hTl, HT, HF, hnd, hD4, HB⟩
 generalize (fun i => a'.tmps.getD i undef) = g9 at he
 subst he
 simp only [pkT]
 have eT := cell_of_one HT.out
 by_cases hu2 : u < 2
 · have hui : (u : Int) < 2 := by omega
   gi_wp2
   clear eT
   obtain ⟨c9, hc9⟩ : ∃ c, c = w1.heap.size := ⟨_, rfl⟩
   rw [← hc9]
   obtain ⟨W8, hW8⟩ : ∃ W8, w1.alloc (.cells #[.int .i64 0] 3) = W8 := ⟨_, rfl⟩
   rw [hW8]
   have g8 : Boxed W8 c9 3 (.int .i64 ((([] : List KW).length : Nat) : Int)) := by rw [← hW8, hc9]; exact Boxed.new _ _ _
   have hb8 : Below w1.heap.size w1 W8 := by rw [← hW8]; exact below_new _ _
   have z8 : W8.heap.size = c9 + 1 := by rw [← hW8, hc9]; simp
   have hB1 : B0 ≤ w1.heap.size := by have := HB.out.size; have := HB0.out; omega
   have D8 : Below B0 w8 W8 := HB.out.trans (hb8.mono hB1)
   have hDc : ∀ D ∈ Ds, D < c9 := fun D h => by rw [hc9]; exact (HF.out.lt (D, .deferred (some [])) (List.mem_map.2 ⟨D, h, rfl⟩))
   have I8 : PtK c9 T u B0 Ds w8 [] W8 := ⟨g8, boxStays HT.out hb8, HF.out.below hb8, D8⟩
   have hBc : B0 ≤ c9 := by omega
   have hTc : T < c9 := by omega
   clear hW8 hb8 hc9 g8
   have HIter := kinds1_iter 5 (by omega) W8
   have HB00 : B0 ≤ w8.heap.size := Nat.le_of_eq HB0.out.symm
   have OWN : OwnFrom W8.heap.size (PtK c9 T u B0 Ds w8) := ptK_own HB00 (by omega) (by omega) (by omega) (fun D h => by have := hDc D h; omega)
   refine range_law2 (n := 6) rfl (enters_of Tryd.func51 (by kernel_rfl) rfl) HIter (by omega) (fun _ _ => trivial) (fun W o o' _ _ => trivial) (fun x => rfl) (fun pre => (by rintro _ _ _ _ h _ _; exact h)) ?_ (PtK c9 T u B0 Ds w8) (fun code pre W => code = .exit 2 ∧ u = 0 ∧ PtK c9 T u B0 Ds w8 pre W) (fun ys W => ys.length = 6 ∧ PtK c9 T u B0 Ds w8 ys W) OWN ?_ ?_ ?_ I8
    (fun pre x a' W => PtK c9 T u B0 Ds w8 pre W ∧ kwX pre x W ∧ a' = { tmps := #[.pointer (some ⟨z, 0, none⟩), .func (.func 51) #[] #[], .pointer (some ⟨T, 0, none⟩), .pointer (some ⟨c9, 0, none⟩), .int .i64 x.1, .string x.2, g9 6, g9 7, g9 8, g9 9, g9 10, g9 11, g9 12, .int .i64 (u : Int), .bool true, g9 15, g9 16, .func (.func 51) #[] #[], .int .i64 x.1, .string x.2, g9 20, g9 21, g9 22, g9 23, g9 24, g9 25, g9 26, g9 27, g9 28, g9 29, g9 30, g9 31, g9 32, g9 33, g9 34, g9 35, g9 36, g9 37, g9 38, g9 39, g9 40, g9 41, g9 42, g9 43, g9 44, g9 45, g9 46, g9 47, g9 48, g9 49, g9 50, g9 51, g9 52, g9 53, g9 54, g9 55, g9 56, g9 57, g9 58, g9 59, g9 60, g9 61, g9 62, g9 63, g9 64, g9 65, g9 66, g9 67, g9 68], defers := [] }) ?_ ?assign ?body ?done ?stop
   · rintro W1 _ ys A B ⟨_, rfl⟩ k o _ ho _; exact ho
   · rintro code pre A A' row ⟨h1, h2, h3⟩ hg hr; exact ⟨h1, h2, OWN pre A A' row h3 hg hr⟩
   · rintro ys A A' row ⟨h1, h2⟩ hg hr; exact ⟨h1, OWN ys A A' row h2 hg hr⟩
   · rintro W1 _ ys A B h ⟨h1, rfl⟩; exact ⟨h1, h⟩
   · rintro x a' pre A A' row ⟨h1, h2, h3⟩ hg hr
     exact ⟨OWN pre A A' row h1 hg hr, h2, h3⟩
   case assign =>
    intro ll pre x W K hi hx hsz hK
    have HI := Lib.hid hi
    have HX := Lib.hid hx
    clear hi hx HIter I8 D8
    simp only [encKW, List.zip_toArray, List.zip_cons_cons, List.zip_nil_right, List.foldl_toArray, List.foldl_cons, List.foldl_nil]
    gi_wp2
    exact hK _ _ (KeepsFrom.refl _ _) trivial hsz ⟨HI.out, HX.out, rfl⟩
   case body =>
    clear HIter I8 D8
    rintro ll pre x a' W ⟨hI, ⟨hp6, hx⟩, rfl⟩ hsz
    obtain ⟨j, hj⟩ : ∃ j, pre.length + 1 = j := ⟨_, rfl⟩
    rw [hj] at hx
    obtain ⟨k, v⟩ := x
    obtain ⟨rfl, rfl⟩ := Prod.mk.inj hx
    have hj7 : j < 7 := by omega
    have HJ := Lib.hid hj
    have HI := Lib.hid hI
    have hWD : wordL.getD j ⟨#[]⟩ = wordL[j]'(by show j < 7; exact hj7) := by rw [List.getD_eq_getElem?_getD, List.getElem?_eq_getElem (by show j < 7; exact hj7)]; rfl
    have VJ : Hid (∀ W' g, CellsAt W' (some ⟨g, 0, none⟩) (txV wordL) → W'.cell? ⟨g, j, none⟩ = some (.string (wordL.getD j ⟨#[]⟩))) := Lib.hid (fun W' g hc => by
     obtain ⟨b, o, e, p0⟩ := tx_get hc j (by show j < 7; exact hj7)
     cases e
     rw [hWD]
     simpa using p0)
    have eC := cell_of_one hI.cnt
    have fC := hI.cnt.frozen
    have hpw : IntKind.i64.wrap ((pre.length : Int) + 1) = (j : Int) := by rw [IntKind.wrap_i64]; omega
    obtain ⟨V, hV⟩ : ∃ V, W.setCell ⟨c9, 0, none⟩ (.int .i64 (j : Int)) = V := ⟨_, rfl⟩
    have CN : Hid (Boxed V c9 3 (.int .i64 (j : Int))) := Lib.hid (by rw [← hV]; exact Boxed.set (t := 3) _ hI.cnt)
    have GG : Hid (PtK c9 T u B0 Ds w8 (pre ++ [((j : Int), wordL.getD j ⟨#[]⟩)]) V) := Lib.hid ⟨by rw [List.length_append, show pre.length + [((j : Int), wordL.getD j ⟨#[]⟩)].length = j from hj]; exact CN.out, by rw [← hV]; exact (Below.heap_setCell _ _ _ _ (by simp; omega)).trans hI.trn, by rw [← hV]; exact hI.mrk.setCell (fun p hp => by obtain ⟨D, hD', rfl⟩ := List.mem_map.1 hp; have := hDc D hD'; show D ≠ c9; omega) _, by rw [← hV]; exact hI.bel.setCell (p := ⟨c9, 0, none⟩) (by show B0 ≤ c9; omega) _⟩
    have KF : Hid (KeepsFrom W8.heap.size W V) := Lib.hid (by rw [← hV]; exact (KeepsOthers.setCell _ _ _).from _)
    have VS : Hid (W8.heap.size ≤ V.heap.size ∧ B0 ≤ V.heap.size) := Lib.hid (by rw [← hV]; simp [World.setCell]; omega)
    clear hI hx hj hWD
    generalize wordL.getD j ⟨#[]⟩ = v at VJ GG ⊢
    have h6 : ¬ (6 : Int) < (j : Int) := by omega
    have D6 : Hid (decide ((6 : Int) < (j : Int)) = false) := Lib.hid (by simp; omega)
    have hj7i : (j : Int) < 7 := by omega
    have HC : Hid (Chain [V] V) := Lib.hid (Chain.one V)
    gi_wp2
    try rw [hV]
    clear eC fC hpw hV
    refine wpIn_region_round (S := fun w' => Below V.heap.size V w') (by kernel_rfl) (by kernel_rfl) (Below.refl _ _).drew (fun hS => ?_)
    refine wpAnyH_take (i := 0) (oi := ⟨some 22, _, _, _, _, _⟩) (v := ?_) rfl (by kernel_rfl) (by kernel_rfl) (by kernel_rfl) (fun _ _ _ h => h) (Or.inl ⟨by rfl, ?_⟩) hS ?_
    rotate_left 1
    · intro w' hB; have hd := (HC.out.to V (by simp)).trans (hB.mono (HC.out.to V (by simp)).size); have k4 := cell_of_one (boxStays CN.out hd); (try have p0 := (hB.cell (p := ⟨gw, j, none⟩) (block_lt_of_cell P0.out)).trans P0.out); have d6 := D6.out; clear hd; (go_simp <;> with_reducible rfl)
    try simp only [Act.put, List.setIfInBounds_toArray, List.set_cons_zero, List.set_cons_succ]
    refine wpAnyH_take (i := 1) (oi := ⟨some 23, _, _, _, _, _⟩) (v := ?_) rfl (by kernel_rfl) (by kernel_rfl) (by kernel_rfl) (fun _ _ _ h => h) (Or.inl ⟨by rfl, ?_⟩) hS ?_
    rotate_left 1
    · intro w' hB; have hd := (HC.out.to V (by simp)).trans (hB.mono (HC.out.to V (by simp)).size); have k4 := cell_of_one (boxStays CN.out hd); (try have p0 := (hB.cell (p := ⟨gw, j, none⟩) (block_lt_of_cell P0.out)).trans P0.out); have d6 := D6.out; clear hd; (go_simp <;> with_reducible rfl)
    try simp only [Act.put, List.setIfInBounds_toArray, List.set_cons_zero, List.set_cons_succ]
    refine wpAnyH_take (i := 2) (oi := ⟨some 24, _, _, _, _, _⟩) (v := ?_) rfl (by kernel_rfl) (by kernel_rfl) (by kernel_rfl) (fun _ _ _ h => h) (Or.inl ⟨by rfl, ?_⟩) hS ?_
    rotate_left 1
    · intro w' hB; have hd := (HC.out.to V (by simp)).trans (hB.mono (HC.out.to V (by simp)).size); have k4 := cell_of_one (boxStays CN.out hd); (try have p0 := (hB.cell (p := ⟨gw, j, none⟩) (block_lt_of_cell P0.out)).trans P0.out); have d6 := D6.out; clear hd; (go_simp <;> with_reducible rfl)
    try simp only [Act.put, List.setIfInBounds_toArray, List.set_cons_zero, List.set_cons_succ]
    refine wpAnyH_take (i := 3) (oi := ⟨some 25, _, _, _, _, _⟩) (v := ?_) rfl (by kernel_rfl) (by kernel_rfl) (by kernel_rfl) (fun _ _ _ h => h) (Or.inl ⟨by rfl, ?_⟩) hS ?_
    rotate_left 1
    · intro w' hB; have hd := (HC.out.to V (by simp)).trans (hB.mono (HC.out.to V (by simp)).size); have k4 := cell_of_one (boxStays CN.out hd); (try have p0 := (hB.cell (p := ⟨gw, j, none⟩) (block_lt_of_cell P0.out)).trans P0.out); have d6 := D6.out; clear hd; (go_simp <;> with_reducible rfl)
    try simp only [Act.put, List.setIfInBounds_toArray, List.set_cons_zero, List.set_cons_succ]
    refine wpAnyH_take (i := 4) (oi := ⟨some 26, _, _, _, _, _⟩) (v := ?_) rfl (by kernel_rfl) (by kernel_rfl) (by kernel_rfl) (fun _ _ _ h => h) (Or.inl ⟨by rfl, ?_⟩) hS ?_
    rotate_left 1
    · intro w' hB; have hd := (HC.out.to V (by simp)).trans (hB.mono (HC.out.to V (by simp)).size); have k4 := cell_of_one (boxStays CN.out hd); (try have p0 := (hB.cell (p := ⟨gw, j, none⟩) (block_lt_of_cell P0.out)).trans P0.out); have d6 := D6.out; clear hd; (go_simp <;> with_reducible rfl)
    try simp only [Act.put, List.setIfInBounds_toArray, List.set_cons_zero, List.set_cons_succ]
    refine wpAnyH_take (i := 5) (oi := ⟨some 27, _, _, _, _, _⟩) (v := ?_) rfl (by kernel_rfl) (by kernel_rfl) (by kernel_rfl) (fun _ _ _ h => h) (Or.inl ⟨by rfl, ?_⟩) hS ?_
    rotate_left 1
    · intro w' hB; have hd := (HC.out.to V (by simp)).trans (hB.mono (HC.out.to V (by simp)).size); have k4 := cell_of_one (boxStays CN.out hd); (try have p0 := (hB.cell (p := ⟨gw, j, none⟩) (block_lt_of_cell P0.out)).trans P0.out); have d6 := D6.out; clear hd; (go_simp <;> with_reducible rfl)
    try simp only [Act.put, List.setIfInBounds_toArray, List.set_cons_zero, List.set_cons_succ]
    refine wpAnyH_take (i := 6) (oi := ⟨some 28, _, _, _, _, _⟩) (v := ?_) rfl (by kernel_rfl) (by kernel_rfl) (by kernel_rfl) (fun _ _ _ h => h) (Or.inl ⟨by rfl, ?_⟩) hS ?_
    rotate_left 1
    · intro w' hB; have hd := (HC.out.to V (by simp)).trans (hB.mono (HC.out.to V (by simp)).size); have k4 := cell_of_one (boxStays CN.out hd); (try have p0 := (hB.cell (p := ⟨gw, j, none⟩) (block_lt_of_cell P0.out)).trans P0.out); have d6 := D6.out; clear hd; (go_simp <;> with_reducible rfl)
    try simp only [Act.put, List.setIfInBounds_toArray, List.set_cons_zero, List.set_cons_succ]
    refine wpAnyH_take (i := 7) (oi := ⟨some 29, _, _, _, _, _⟩) (v := ?_) rfl (by kernel_rfl) (by kernel_rfl) (by kernel_rfl) (fun _ _ _ h => h) (Or.inl ⟨by rfl, ?_⟩) hS ?_
    rotate_left 1
    · intro w' hB; have hd := (HC.out.to V (by simp)).trans (hB.mono (HC.out.to V (by simp)).size); have k4 := cell_of_one (boxStays CN.out hd); (try have p0 := (hB.cell (p := ⟨gw, j, none⟩) (block_lt_of_cell P0.out)).trans P0.out); have d6 := D6.out; clear hd; (go_simp <;> with_reducible rfl)
    try simp only [Act.put, List.setIfInBounds_toArray, List.set_cons_zero, List.set_cons_succ]
    refine wpAnyH_take (i := 8) (oi := ⟨some 30, _, _, _, _, _⟩) (v := ?_) rfl (by kernel_rfl) (by kernel_rfl) (by kernel_rfl) (fun _ _ _ h => h) (Or.inl ⟨by rfl, ?_⟩) hS ?_
    rotate_left 1
    · intro w' hB; have hd := (HC.out.to V (by simp)).trans (hB.mono (HC.out.to V (by simp)).size); have k4 := cell_of_one (boxStays CN.out hd); (try have p0 := (hB.cell (p := ⟨gw, j, none⟩) (block_lt_of_cell P0.out)).trans P0.out); have d6 := D6.out; clear hd; (go_simp <;> with_reducible rfl)
    try simp only [Act.put, List.setIfInBounds_toArray, List.set_cons_zero, List.set_cons_succ]
    refine wpAnyH_take (i := 10) (oi := ⟨some 32, _, _, _, _, _⟩) (v := ?_) rfl (by kernel_rfl) (by kernel_rfl) (by kernel_rfl) (fun _ _ _ h => h) (Or.inl ⟨by rfl, ?_⟩) hS ?_
    rotate_left 1
    · intro w' hB; have hd := (HC.out.to V (by simp)).trans (hB.mono (HC.out.to V (by simp)).size); have k4 := cell_of_one (boxStays CN.out hd); (try have p0 := (hB.cell (p := ⟨gw, j, none⟩) (block_lt_of_cell P0.out)).trans P0.out); have d6 := D6.out; clear hd; (go_simp <;> with_reducible rfl)
    try simp only [Act.put, List.setIfInBounds_toArray, List.set_cons_zero, List.set_cons_succ]
    refine wpAnyH_ready (rs := [9]) (by kernel_rfl) (by simp) (AllReadyH.cons (o := ⟨some 31, _, _, _, _, _⟩) rfl (fun K hK => ?_) AllReadyH.nil)
    go_simp
    refine (kr_Words _).mono ?_
    rintro e q1 ⟨gw, rfl, hc, hb⟩
    refine hK.out _ _ (hS.trans (hb.mono hS.size)) (fun _ => ?_)
    clear hK K
    have hB := hS.trans (hb.mono hS.size)
    refine wpAnyH_now hB ?_
    clear hS
    have hS := Below.refl q1.heap.size q1
    replace HC := Lib.hid (HC.out.push hB)
    have P0 := Lib.hid (VJ.out _ _ hc)
    clear hc
    clear hB hb
    try simp only [Act.put, List.setIfInBounds_toArray, List.set_cons_zero, List.set_cons_succ]
    refine wpAnyH_take (i := 11) (oi := ⟨some 33, _, _, _, _, _⟩) (v := ?_) rfl (by kernel_rfl) (by kernel_rfl) (by kernel_rfl) (fun _ _ _ h => h) (Or.inl ⟨by rfl, ?_⟩) hS ?_
    rotate_left 1
    · intro w' hB; have hd := (HC.out.to V (by simp)).trans (hB.mono (HC.out.to V (by simp)).size); have k4 := cell_of_one (boxStays CN.out hd); (try have p0 := (hB.cell (p := ⟨gw, j, none⟩) (block_lt_of_cell P0.out)).trans P0.out); have d6 := D6.out; clear hd; (go_simp <;> with_reducible rfl)
    try simp only [Act.put, List.setIfInBounds_toArray, List.set_cons_zero, List.set_cons_succ]
    refine wpAnyH_take (i := 12) (oi := ⟨some 34, _, _, _, _, _⟩) (v := ?_) rfl (by kernel_rfl) (by kernel_rfl) (by kernel_rfl) (fun _ _ _ h => h) (Or.inl ⟨by rfl, ?_⟩) hS ?_
    rotate_left 1
    · intro w' hB; have hd := (HC.out.to V (by simp)).trans (hB.mono (HC.out.to V (by simp)).size); have k4 := cell_of_one (boxStays CN.out hd); (try have p0 := (hB.cell (p := ⟨gw, j, none⟩) (block_lt_of_cell P0.out)).trans P0.out); have d6 := D6.out; clear hd; (go_simp <;> with_reducible rfl)
    try simp only [Act.put, List.setIfInBounds_toArray, List.set_cons_zero, List.set_cons_succ]
    refine wpAnyH_take (i := 13) (oi := ⟨some 35, _, _, _, _, _⟩) (v := ?_) rfl (by kernel_rfl) (by kernel_rfl) (by kernel_rfl) (fun _ _ _ h => h) (Or.inl ⟨by rfl, ?_⟩) hS ?_
    rotate_left 1
    · intro w' hB; have hd := (HC.out.to V (by simp)).trans (hB.mono (HC.out.to V (by simp)).size); have k4 := cell_of_one (boxStays CN.out hd); (try have p0 := (hB.cell (p := ⟨gw, j, none⟩) (block_lt_of_cell P0.out)).trans P0.out); have d6 := D6.out; clear hd; (go_simp <;> with_reducible rfl)
    try simp only [Act.put, List.setIfInBounds_toArray, List.set_cons_zero, List.set_cons_succ]
    refine wpAnyH_take (i := 14) (oi := ⟨some 36, _, _, _, _, _⟩) (v := ?_) rfl (by kernel_rfl) (by kernel_rfl) (by kernel_rfl) (fun _ _ _ h => h) (Or.inl ⟨by rfl, ?_⟩) hS ?_
    rotate_left 1
    · intro w' hB; have hd := (HC.out.to V (by simp)).trans (hB.mono (HC.out.to V (by simp)).size); have k4 := cell_of_one (boxStays CN.out hd); (try have p0 := (hB.cell (p := ⟨gw, j, none⟩) (block_lt_of_cell P0.out)).trans P0.out); have d6 := D6.out; clear hd; (go_simp <;> with_reducible rfl)
    try simp only [Act.put, List.setIfInBounds_toArray, List.set_cons_zero, List.set_cons_succ]
    refine wpAnyH_done (by kernel_rfl) (OnlyN.normal ?_) _
    have hE : Hid (Below V.heap.size V q1) := Lib.hid (HC.out.to V (by simp))
    have GE := Lib.hid (GG.out.below hE.out VS.out.2)
    have KE : Hid (KeepsFrom W8.heap.size W q1) := Lib.hid (KF.out.trans ⟨hE.out.size, fun k o _ h _ => boxStays h hE.out⟩)
    have eC := cell_of_one (boxStays CN.out hE.out)
    have eT := cell_of_one GE.out.trn
    have hu01 : u = 0 ∨ u = 1 := by omega
    have KE2 := KE.out
    rw [z8] at KE2
    replace KE2 := Lib.hid KE2
    rcases hu01 with rfl | rfl
    · by_cases hj3 : j = 3
      · subst hj3
        gi_wp2
        exact ⟨by first | exact KE.out | exact KE2.out, trivial, rfl, GE.out⟩
      · have hj3b : ((j : Int) == 3) = false := by simp; omega
        gi_wp2
        exact ⟨by first | exact KE.out | exact KE2.out, trivial, GE.out⟩
    · gi_wp2
      exact ⟨by first | exact KE.out | exact KE2.out, trivial, GE.out⟩
   case done =>
    clear HIter I8 D8
    rintro D ys W1 hD ⟨hys, hI⟩ hK
    have eC := cell_of_one hI.cnt
    have eT := cell_of_one hI.trn
    rw [hys] at eC
    have HI := Lib.hid hI
    have HKD := Lib.hid hK
    clear hI hK hys
    simp only [Exit.inBlock]
    have hu01 : u = 0 ∨ u = 1 := by omega
    rcases hu01 with rfl | rfl
    · gi_wp2
      have hDl : D < W1.heap.size := (Array.getElem?_eq_some_iff.1 HKD.out).1
      have NEW : Hid (Facts (markF (D :: Ds)) (W1.alloc (.cells #[.int .i64 1] 3))) := Lib.hid (by
       have f := HI.out.mrk.below (below_new W1 (.cells #[.int .i64 1] 3))
       intro p hp
       rcases List.mem_cons.1 (show p ∈ (D, Obj.deferred (some [])) :: markF Ds from hp) with rfl | h
       · exact ((below_new W1 (.cells #[.int .i64 1] 3)).block _ hDl).trans HKD.out
       · exact f p h)
      have B9 := Lib.hid (HI.out.bel.trans ((below_new W1 (.cells #[.int .i64 1] 3)).mono (by have := HI.out.bel.size; omega)))
      refine ⟨⟨(0+1), W1.heap.size, D :: Ds, rfl, by simp [hlen], by omega, by have := HI.out.bel.size; omega, by rw [World.size_alloc]; omega, Lib.hid (Boxed.new W1 3 (.int .i64 1)), NEW, List.nodup_cons.2 ⟨fun h => by have := hDc D h; omega, hnd⟩, fun D' h => ?_, B9⟩, ?_⟩
      · rcases List.mem_cons.1 h with rfl | h
        · omega
        · exact hD4 D' h
      · simp [hlen] <;> omega
    · gi_wp2
      have hDl : D < W1.heap.size := (Array.getElem?_eq_some_iff.1 HKD.out).1
      have NEW : Hid (Facts (markF (D :: Ds)) (W1.alloc (.cells #[.int .i64 2] 3))) := Lib.hid (by
       have f := HI.out.mrk.below (below_new W1 (.cells #[.int .i64 2] 3))
       intro p hp
       rcases List.mem_cons.1 (show p ∈ (D, Obj.deferred (some [])) :: markF Ds from hp) with rfl | h
       · exact ((below_new W1 (.cells #[.int .i64 2] 3)).block _ hDl).trans HKD.out
       · exact f p h)
      have B9 := Lib.hid (HI.out.bel.trans ((below_new W1 (.cells #[.int .i64 2] 3)).mono (by have := HI.out.bel.size; omega)))
      refine ⟨⟨(1+1), W1.heap.size, D :: Ds, rfl, by simp [hlen], by omega, by have := HI.out.bel.size; omega, by rw [World.size_alloc]; omega, Lib.hid (Boxed.new W1 3 (.int .i64 2)), NEW, List.nodup_cons.2 ⟨fun h => by have := hDc D h; omega, hnd⟩, fun D' h => ?_, B9⟩, ?_⟩
      · rcases List.mem_cons.1 h with rfl | h
        · omega
        · exact hD4 D' h
      · simp [hlen] <;> omega
   case stop =>
    clear HIter I8 D8
    rintro D code pre W1 hD hSp ⟨rfl, hu0, hI⟩ hK
    subst hu0
    have eC := cell_of_one hI.cnt
    have eT := cell_of_one hI.trn
    have HI := Lib.hid hI
    have HKD := Lib.hid hK
    clear hI hK
    gi_wp2
    have hDl : D < W1.heap.size := (Array.getElem?_eq_some_iff.1 HKD.out).1
    have NEW : Hid (Facts (markF (D :: Ds)) (W1.alloc (.cells #[.int .i64 1] 3))) := Lib.hid (by
     have f := HI.out.mrk.below (below_new W1 (.cells #[.int .i64 1] 3))
     intro p hp
     rcases List.mem_cons.1 (show p ∈ (D, Obj.deferred (some [])) :: markF Ds from hp) with rfl | h
     · exact ((below_new W1 (.cells #[.int .i64 1] 3)).block _ hDl).trans HKD.out
     · exact f p h)
    have B9 := Lib.hid (HI.out.bel.trans ((below_new W1 (.cells #[.int .i64 1] 3)).mono (by have := HI.out.bel.size; omega)))
    refine ⟨⟨(0+1), W1.heap.size, D :: Ds, rfl, by simp [hlen], by omega, by have := HI.out.bel.size; omega, by rw [World.size_alloc]; omega, Lib.hid (Boxed.new W1 3 (.int .i64 1)), NEW, List.nodup_cons.2 ⟨fun h => by have := hDc D h; omega, hnd⟩, fun D' h => ?_, B9⟩, ?_⟩
    · rcases List.mem_cons.1 h with rfl | h
      · omega
      · exact hD4 D' h
    · simp [hlen] <;> omega
 · have hui : ¬ (u : Int) < 2 := by omega
   gi_wp2
   go_wp2_with fail
   have BWW : Hid (Below w.heap.size w w1) := Lib.hid (BW.out.trans (HB.out.mono SB.out.2))
   clear eT
   have HC : Hid (Chain [w1] w1) := Lib.hid (Chain.one w1)
   refine (kn_Empty6 _).mono ?_
   rintro e w2 ⟨rfl, hb⟩
   replace HC := Lib.hid (HC.out.push hb)
   clear hb
   go_wp2_with fail
   obtain ⟨y1, hy1⟩ : ∃ c, w2.heap.size = c := ⟨_, rfl⟩
   try rw [hy1]
   obtain ⟨w3, hw3⟩ : ∃ X, allocs w2 [.cells #[.int .i64 0, .int .i64 0, .slice none 0 0] 49] = X := ⟨_, rfl⟩
   rw [show w2.alloc (.cells #[.int .i64 0, .int .i64 0, .slice none 0 0] 49) = w3 from hw3]
   have hb : Below w2.heap.size w2 w3 := by rw [← hw3]; exact allocs_below _ _
   have HP : Hid (w3.heap[y1]? = some (.cells #[.int .i64 0, .int .i64 0, .slice none 0 0] 49 (0, 0))) := Lib.hid (by have := allocs_get [.cells #[.int .i64 0, .int .i64 0, .slice none 0 0] 49] w2 0 _ rfl; rw [hw3, hy1] at this; exact this)
   have Sy1 : Hid (w2.heap.size = y1) := Lib.hid hy1
   replace HC := Lib.hid (HC.out.push hb)
   clear hb hw3 hy1
   refine (kn_Empty0 _).mono ?_
   rintro e w4 ⟨rfl, hb⟩
   replace HC := Lib.hid (HC.out.push hb)
   clear hb
   go_upto_region 21 with (fail)
   obtain ⟨y2, hy2⟩ : ∃ c, w4.heap.size = c := ⟨_, rfl⟩
   try rw [hy2]
   obtain ⟨w5, hw5⟩ : ∃ X, allocs w4 [.cells #[.int .i64 0, .int .i64 0, .slice none 0 0] 49] = X := ⟨_, rfl⟩
   rw [show w4.alloc (.cells #[.int .i64 0, .int .i64 0, .slice none 0 0] 49) = w5 from hw5]
   have hb : Below w4.heap.size w4 w5 := by rw [← hw5]; exact allocs_below _ _
   have HQ : Hid (w5.heap[y2]? = some (.cells #[.int .i64 0, .int .i64 0, .slice none 0 0] 49 (0, 0))) := Lib.hid (by have := allocs_get [.cells #[.int .i64 0, .int .i64 0, .slice none 0 0] 49] w4 0 _ rfl; rw [hw5, hy2] at this; exact this)
   have Sy2 : Hid (w4.heap.size = y2) := Lib.hid hy2
   replace HC := Lib.hid (HC.out.push hb)
   clear hb hw5 hy2
   go_wp2_with fail
   refine (kn_num _ _).mono ?_
   rintro e w' ⟨rfl, hw⟩
   rw [hw]
   clear hw w'
   go_wp2_with fail
   refine (kn_num _ _).mono ?_
   rintro e w' ⟨rfl, hw⟩
   rw [hw]
   clear hw w'
   go_wp2_with fail
   refine (known_09 _ (G.out.below (BWW.out.trans ((HC.out.to w1 (by simp)).mono BWW.out.size)))).mono ?_
   rintro e w6 ⟨rfl, hb⟩
   replace HC := Lib.hid (HC.out.push hb)
   clear hb
   have hX3 : w6.heap[z]? = some (.cells #[.bool false] 4 (0, 0)) := boxStays ((HB.out.block z SB.out.1).trans X3.out) (HC.out.to w1 (by simp))
   have HX3 := Lib.hid (Boxed.set (t := 4) (.bool true) hX3)
   have e3 := cell_of_one hX3
   have f3 := frozen_of_row _ z 0 _ _ hX3
   have MK := Lib.hid ((HF.out.below (HC.out.to w1 (by simp))).setCell (c := z) (i := 0) (fun p hp => by obtain ⟨D, hD', rfl⟩ := List.mem_map.1 hp; have h1 := hD4 D hD'; have h2 := SB.out.1; show D ≠ z; omega) (.bool true))
   have BF := Lib.hid ((BWW.out.trans ((HC.out.to w1 (by simp)).mono BWW.out.size)).setCell (p := ⟨z, 0, none⟩) (by have := SZ.out; show w.heap.size ≤ z; omega) (.bool true))
   have hDs : ∀ D ∈ Ds, z < D ∧ w.heap.size ≤ D := fun D h => by have h1 := hD4 D h; have h2 := SB.out; omega
   clear hX3
   go_wp2_with fail
   try rw [Exit.noGoto_ret]
   try show LeavesInM _ _ _ _ _ _ (marks Ds) _ _
   refine leaves_marks Ds _ hnd MK.out ?_
   intro W' q1 q2 q3 q4 q5
   have k9 := cell_of_one ((q5 z (fun h => by have := hDs _ h; omega)).trans HX3.out)
   have bW : Below w.heap.size w W' := ⟨q1.trans BF.out.os, q2.trans BF.out.tape, q3.trans BF.out.output, by rw [q4]; exact BF.out.size, fun k hk => (q5 k (fun h => by have := hDs _ h; omega)).trans (BF.out.block k hk)⟩
   exact ⟨.bool true, by simp [results, Tryd.results4, go_sem, k9], rfl, bW⟩
end Go.Proofs.YtjlliohjeiclaaaDoor
namespace Go.Proofs.YtjlliohjeiclaaaDoor
open Go.ChangeShapes Go.WideShapes Go.ChangeAt Go.RowKit Go.Deep St Ku
section
variable {H : Type} {enc : TypeId × Value → H} {w : World} {base : Nat} {held : Bool}
end
theorem laid_eq1 : (Rows.laid_unicode_utf8_acceptRanges : DataW Unit) = Lib.acceptData := by kernel_rfl
theorem laid_eq2 : Rows.laid_unicode_utf8_first = Lib.firstData := by kernel_rfl
theorem glob_of {W : World} (hL : laidMetH Tryd.prog [("unicode/utf8.acceptRanges", Rows.laid_unicode_utf8_acceptRanges), ("unicode/utf8.first", Rows.laid_unicode_utf8_first)] W) (hS : W.ShapedOpen Tryd.prog) : Glob W := by
 refine ⟨utf8Tabs_of_readsT (U8Types.of196 lay196) ⟨by kernel_rfl, by kernel_rfl, by kernel_rfl, by kernel_rfl, by kernel_rfl, by kernel_rfl, by kernel_rfl⟩ ?_ ?_, ?_⟩
 · rw [← laid_eq2]; exact Lib.laidMet.reads hL (.tail _ (.head _))
 · rw [← laid_eq1]; exact Lib.laidMet.reads hL (.head _)
 · exact cell_of_shapedOpen_int (P := Tryd.prog) (g := 2) (t := 3) (zero := #[.int .i64 0]) hS (of_decide_eq_true (by kernel_rfl)) (by kernel_rfl) rfl (by kernel_rfl) (by kernel_rfl) Tryd.underlying3
noncomputable def laidWorld (os : Os) : World :=
 let w0 := World.holding Tryd.prog os ⟨#[], #[], []⟩
 let put (h : Array Obj) (g : Nat) (cs : Array Value) : Array Obj := h.modify g fun
  | .cells _ t frozen => .cells cs t frozen
  | o => o
 let h1 := put w0.heap 0 (Lib.firstTab.map fun z => Value.int .u8 z).toArray
 let h2 := put h1 1 ((List.range 16).flatMap fun i => [Value.int .u8 (Lib.accLo i), Value.int .u8 (Lib.accHi i)]).toArray
 { w0 with heap := h2 }
theorem laid_met (os : Os) (args : Array Value) : laidMet Tryd.prog [("unicode/utf8.acceptRanges", Rows.laid_unicode_utf8_acceptRanges), ("unicode/utf8.first", Rows.laid_unicode_utf8_first)] ((laidWorld os).forCall (fun _ _ => 0) ⟨#[], args, []⟩).memory :=
 (LaidIn.of_run (l := [("unicode/utf8.acceptRanges", Rows.laid_unicode_utf8_acceptRanges), ("unicode/utf8.first", Rows.laid_unicode_utf8_first)]) [1, 0] 8 (by kernel_rfl) (by kernel_rfl) (by kernel_rfl) (by kernel_rfl)).met
end Go.Proofs.YtjlliohjeiclaaaDoor
