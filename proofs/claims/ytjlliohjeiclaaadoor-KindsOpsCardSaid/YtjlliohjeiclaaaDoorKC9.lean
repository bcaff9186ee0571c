/- Words, contracts and walks that the proof stands on (KnL KnQ KnM KnS KnU KnN). -/
import Derived.Lib.SlicesCompact
import Derived.Shelf.SlSortCmp.NoneTotal
import Derived.Shelf.SlSortCmp.WholeK
import Derived.Shelf.Slices.CompactS
import Derived.Shelf.Slices.In.SortNone
import Derived.Shelf.Sort.Plain
import Derived.Test.YtjlliohjeiclaaaDoorKC1
import Derived.Test.YtjlliohjeiclaaaDoorKC2
import Derived.Test.YtjlliohjeiclaaaDoorKC6
import Derived.Test.YtjlliohjeiclaaaDoorKC7
import Derived.Test.YtjlliohjeiclaaaDoorKC8
namespace Go.Proofs.YtjlliohjeiclaaaDoor
open Go.RowKit Go.Sort St Pm Kn
def layF0_ren : Go.Shelf.Ren := ⟨fun | 6 => 66 | 14 => 92 | 15 => 93 | 20 => 111 | 21 => 112 | 22 => 113 | 23 => 114 | 24 => 115 | 25 => 116 | 26 => 117 | 27 => 118 | 28 => 119 | 29 => 120 | 46 => 147 | 47 => 148 | 48 => 149 | 49 => 150 | 50 => 151 | 57 => 166 | n => n, fun | 0 => 0 | 3 => 3 | 4 => 4 | 5 => 5 | 9 => 9 | 22 => 47 | 24 => 33 | 25 => 120 | 39 => 147 | 45 => 173 | 46 => 174 | 50 => 178 | 53 => 181 | 55 => 183 | 66 => 210 | 70 => 214 | 76 => 222 | 77 => 223 | n => n, fun n => n⟩
theorem layF0 : Go.Proofs.SlLaysF0.n6 Tryd.prog layF0_ren := {
 mixed := by kernel_rfl
 f6 := ⟨"slices.SortFunc[[]estuary/api.Element,estuary/api.Element]", by decide, Tryd.func66.trans (congrArg some (by kernel_rfl))⟩
 f14 := ⟨"slices.pdqsortCmpFunc[estuary/api.Element]", by decide, Tryd.func92.trans (congrArg some (by kernel_rfl))⟩
 f15 := Tryd.func93.trans (congrArg some (by kernel_rfl))
 f20 := ⟨"slices.insertionSortCmpFunc[estuary/api.Element]", by decide, Tryd.func111.trans (congrArg some (by kernel_rfl))⟩
 f21 := ⟨"slices.heapSortCmpFunc[estuary/api.Element]", by decide, Tryd.func112.trans (congrArg some (by kernel_rfl))⟩
 f22 := ⟨"slices.breakPatternsCmpFunc[estuary/api.Element]", by decide, Tryd.func113.trans (congrArg some (by kernel_rfl))⟩
 f23 := ⟨"slices.choosePivotCmpFunc[estuary/api.Element]", by decide, Tryd.func114.trans (congrArg some (by kernel_rfl))⟩
 f24 := ⟨"slices.reverseRangeCmpFunc[estuary/api.Element]", by decide, Tryd.func115.trans (congrArg some (by kernel_rfl))⟩
 f25 := ⟨"slices.partialInsertionSortCmpFunc[estuary/api.Element]", by decide, Tryd.func116.trans (congrArg some (by kernel_rfl))⟩
 f26 := ⟨"slices.partitionEqualCmpFunc[estuary/api.Element]", by decide, Tryd.func117.trans (congrArg some (by kernel_rfl))⟩
 f27 := ⟨"slices.partitionCmpFunc[estuary/api.Element]", by decide, Tryd.func118.trans (congrArg some (by kernel_rfl))⟩
 f28 := Tryd.func119.trans (congrArg some (by kernel_rfl))
 f29 := Tryd.func120.trans (congrArg some (by kernel_rfl))
 f46 := ⟨"slices.siftDownCmpFunc[estuary/api.Element]", by decide, Tryd.func147.trans (congrArg some (by kernel_rfl))⟩
 f47 := Tryd.func148.trans (congrArg some (by kernel_rfl))
 f48 := Tryd.func149.trans (congrArg some (by kernel_rfl))
 f49 := ⟨"slices.medianAdjacentCmpFunc[estuary/api.Element]", by decide, Tryd.func150.trans (congrArg some (by kernel_rfl))⟩
 f50 := ⟨"slices.medianCmpFunc[estuary/api.Element]", by decide, Tryd.func151.trans (congrArg some (by kernel_rfl))⟩
 f57 := ⟨"slices.order2CmpFunc[estuary/api.Element]", by decide, Tryd.func166.trans (congrArg some (by kernel_rfl))⟩
 t0 := Tryd.underlying0
 a0 := Tryd.isAgg0
 z0 := Tryd.sizeOf0
 v0 := Tryd.zeroValue0
 t3 := Tryd.underlying3
 a3 := Tryd.isAgg3
 z3 := Tryd.sizeOf3
 v3 := Tryd.zeroValue3
 t4 := Tryd.underlying4
 a4 := Tryd.isAgg4
 z4 := Tryd.sizeOf4
 v4 := Tryd.zeroValue4
 t5 := Tryd.underlying5
 a5 := Tryd.isAgg5
 z5 := Tryd.sizeOf5
 v5 := Tryd.zeroValue5
 t9 := Tryd.underlying9
 a9 := Tryd.isAgg9
 z9 := Tryd.sizeOf9
 v9 := Tryd.zeroValue9
 t22 := Tryd.underlying47
 a22 := Tryd.isAgg47
 z22 := Tryd.sizeOf47
 v22 := Tryd.zeroValue47
 t25 := Tryd.underlying120
 a25 := Tryd.isAgg120
 z25 := Tryd.sizeOf120
 v25 := Tryd.zeroValue120
 t39 := Tryd.underlying147
 a39 := Tryd.isAgg147
 z39 := Tryd.sizeOf147
 v39 := Tryd.zeroValue147
 t45 := Tryd.underlying173
 a45 := Tryd.isAgg173
 z45 := Tryd.sizeOf173
 v45 := Tryd.zeroValue173
 t46 := Tryd.underlying174
 a46 := Tryd.isAgg174
 z46 := Tryd.sizeOf174
 v46 := Tryd.zeroValue174
 t50 := Tryd.underlying178
 a50 := Tryd.isAgg178
 z50 := Tryd.sizeOf178
 v50 := Tryd.zeroValue178
 t53 := Tryd.underlying181
 a53 := Tryd.isAgg181
 z53 := Tryd.sizeOf181
 v53 := Tryd.zeroValue181
 t55 := Tryd.underlying183
 a55 := Tryd.isAgg183
 z55 := Tryd.sizeOf183
 v55 := Tryd.zeroValue183
 t66 := Tryd.underlying210
 a66 := Tryd.isAgg210
 z66 := Tryd.sizeOf210
 v66 := Tryd.zeroValue210
 t70 := Tryd.underlying214
 a70 := Tryd.isAgg214
 z70 := Tryd.sizeOf214
 v70 := Tryd.zeroValue214
 t76 := Tryd.underlying222
 a76 := Tryd.isAgg222
 z76 := Tryd.sizeOf222
 v76 := Tryd.zeroValue222
 t77 := Tryd.underlying223
 a77 := Tryd.isAgg223
 z77 := Tryd.sizeOf223
 v77 := Tryd.zeroValue223
}
instance : Inhabited Ev := ⟨(⟨0, 0, ⟨#[]⟩, 0, 0⟩, ⟨#[]⟩)⟩
theorem flat_els (d : Array Ev) : flatK elV 6 d = (elsV d.toList).toArray := by
 have hs : (flatK elV 6 d).size = (elsV d.toList).toArray.size := by simp [elsV_length]
 refine ext_get! hs fun t ht => ?_
 rw [size_flatK] at ht
 rw [get_flatK _ _ _ _ ht]
 have h1 : t / 6 < d.toList.length := by rw [Array.length_toList]; omega
 have h2 := elsV_get d.toList (t / 6) (t % 6) h1 (by omega)
 have e : t / 6 * 6 + t % 6 = t := by omega
 rw [e] at h2
 have h3 : d[t / 6]! = d.toList[t / 6] := by rw [getElem!_pos d (t / 6) (by simpa using h1)]; rfl
 have hl : t < (elsV d.toList).length := by rw [elsV_length, Array.length_toList]; exact ht
 have h5 : (elV d.toList[t / 6]).length = 6 := rfl
 rw [h3, getElem!_pos _ (t % 6) (by rw [h5]; omega), getElem!_pos _ t (by simpa using hl)]
 rw [List.getElem?_eq_getElem hl, List.getElem?_eq_getElem (by rw [h5]; omega)] at h2
 exact (Option.some.inj h2).symm
theorem holds_own {w : World} {base n g c : Nat} {e : TypeId} {l : List Ev} (h : w.ownsRow base e 6 (.slice (some ⟨g, 0, none⟩) n c) n (elsV l)) : HoldsK elV 6 w g 0 l.toArray := by
 intro j hj
 rw [flat_els] at hj ⊢
 have hl : j < (elsV l).length := by simpa using hj
 obtain ⟨h1, h2⟩ := own_cellM h j hl
 rw [Nat.zero_add]
 refine ⟨?_, h2⟩
 rw [h1, getElem!_pos _ j (by simpa using hl)]
 rfl
theorem cells_holds {w : World} {g : Nat} {d : Array Ev} (h : HoldsK elV 6 w g 0 d) : CellsAt w (some ⟨g, 0, none⟩) (elsV d.toList) := by
 intro j hj
 have h1 := (h j (by rw [flat_els]; simpa using hj)).1
 refine ⟨g, 0, rfl, ?_⟩
 rw [h1, flat_els, getElem!_pos _ j (by simpa using hj)]
 rfl
theorem sortWorld_grown (w : World) (g n : Nat) (d : Array Ev) (os : Array Obj) : w.grownBy (sortWorldK elV 6 w g 0 n d os) (some g) := by
 refine ⟨rfl, rfl, rfl, ?_, fun k hk hne => ?_⟩
 · simp [sortWorldK, Sort.grow, putRowK, putRow, mapBlock]
 · have hne' : g ≠ k := fun e => hne (by rw [e])
   show (((Sort.ahead w n).heap.modify g _) ++ os)[k]? = _
   rw [Array.getElem?_append_left (by simpa using hk), Array.getElem?_modify, if_neg hne']
   rfl
theorem sl_SortEl (l : List Ev) (g n c base : Nat) (e0 : TypeId) (w : World) (hn : n = l.length) (hb : n ≤ 1000000) (hown : w.ownsRow base e0 6 (.slice (some ⟨g, 0, none⟩) n c) n (elsV l)) :
 Calls Tryd.prog 66 #[.slice (some ⟨g, 0, none⟩) n c, .func (.func 67) #[] #[]] w fun e w' => e = .returned (.tuple #[]) ∧
  ∃ r : List Ev, r.Perm l ∧ (r.Pairwise fun x y => ¬ svC y.1 x.1 < 0) ∧ CellsAt w' (some ⟨g, 0, none⟩) (elsV r) ∧ w.grownBy w' (some g) := by
 subst hn
 have hH := holds_own hown
 have hblk : g < w.heap.size := (hown.lt _ rfl).2
 refine (AnyQ.slices_SortFunc layF0 6 Tryd.isAgg33 Tryd.sizeOf33 elV (fun _ => rfl) (fun x v hv => elsV_one [x] v (by simpa [elsV] using hv)) evC evSWO 67 #[] g 0 c l.toArray w (enters_of Tryd.func67 (by kernel_rfl) rfl) ?_ hH hblk (by simp; omega)).mono ?_
 · intro m os dk _ x y
   refine (kn_Three1 x y _).mono ?_
   rintro e w' ⟨h1, q, os', h2⟩
   exact ⟨h1, q, os', h2⟩
 · rintro e w' ⟨rfl, d', m, os, hp, hs, rfl⟩
   have hsz : d'.size = l.toArray.size := hp.1
   refine ⟨rfl, d'.toList, ?_, ?_, ?_, sortWorld_grown w g m d' os⟩
   · have h := hp.2.2
     rw [Array.extract_eq_self_of_le (Nat.le_refl _)] at h
     rwa [Array.extract_eq_self_of_le (by rw [hsz]; exact Nat.le_refl _)] at h
   · rw [List.pairwise_iff_getElem]
     intro i j hi hj hij
     have hj2 : j < d'.size := by simpa using hj
     have h := hs i j (Nat.zero_le _) hij (by rw [← hsz]; exact hj2)
     rw [getElem!_pos d' j hj2, getElem!_pos d' i (by omega)] at h
     exact of_decide_eq_false h
   · exact cells_holds (SWK.holds ⟨m, os, rfl⟩ hblk hH hsz)
end Go.Proofs.YtjlliohjeiclaaaDoor
namespace Go.Proofs.YtjlliohjeiclaaaDoor
open Go.RowKit Go.Sort St Pm Kn
theorem sl_SortNil (a : Option Addr) (c : Nat) (fv : Value) (w : World) : Calls Tryd.prog 66 #[.slice a 0 c, fv] w fun e w' => e = .returned (.tuple #[]) ∧ w' = w := AnyF.slices_SortFunc_none layF0 a c fv w
end Go.Proofs.YtjlliohjeiclaaaDoor
namespace Go.Proofs.YtjlliohjeiclaaaDoor
open Go.RowKit St Pm Ku Kn
namespace Kn
def threeO (kb mb : Int) (lb : List Ev) (ka ma : Int) (la : List Ev) (k2 m2 : Int) (l2 : List Ev) : Int × Int × List Ev × Int :=
 if valG kb mb lb = false ∨ valG ka ma la = false ∨ valG k2 m2 l2 = false ∨ kb ≠ ka ∨ ka ≠ k2 then (0, 0, [], 2)
 else (ka, IntKind.i64.wrap (IntKind.i64.wrap (ma + m2) - mb), threeG lb la l2, 0)
def keepA (lb l2 : List Ev) (x : Ev) : Bool := hasG l2 x.1 || !hasG lb x.1
def keepB (lb la : List Ev) (x : Ev) : Bool := !hasG la x.1 && !hasG lb x.1
theorem val_right {k m : Int} {l : List Ev} (h : valG k m l = true) : Right l := by
 unfold valG at h
 rw [Bool.and_eq_true] at h
 have h2 := h.2
 split at h2
 · have : l = [] := List.length_eq_zero_iff.1 (of_decide_eq_true h2)
   subst this
   exact ⟨fun x hx => (by cases hx), List.Pairwise.nil⟩
 · rw [Bool.and_eq_true] at h2
   exact right_iff.1 h2.2
theorem filter_snoc {α : Type} (p : α → Bool) (l : List α) (q : Nat) (h : q < l.length) : (l.take (q + 1)).filter p = (l.take q).filter p ++ (if p l[q] = true then [l[q]] else []) := by
 rw [← List.take_append_getElem h, List.filter_append]
 by_cases hp : p l[q] = true
 · rw [if_pos hp]; simp [hp]
 · rw [if_neg hp]; simp [hp]
def ThI (y : Nat) (ka mm : Int) (w7 : World) (acc : List Ev) (W : World) : Prop :=
 ∃ (av : Option Addr) (n c : Nat), W.heap[y]? = some (.cells #[.int .i64 ka, .int .i64 mm, .slice av n c] 49 (0, 0)) ∧ n = acc.length ∧ W.ownsRow w7.heap.size 33 6 (.slice av n c) n (elsV acc) ∧ w7.grownBy W (some y)
theorem grown_bel {A B C : World} {r : Option Nat} (h : A.grownBy B r) (hb : Below A.heap.size B C) : A.grownBy C r :=
 ⟨hb.os.trans h.os, hb.tape.trans h.tape, hb.output.trans h.output, Nat.le_trans h.size hb.size, fun k hk he => (hb.block k hk).trans (h.block k hk he)⟩
theorem keep_len {α : Type} (A0 : List α) (p : α → Bool) (l : List α) (q N : Nat) (h0 : A0.length ≤ N) (hq : q ≤ N) : (A0 ++ (l.take q).filter p).length ≤ N + N := by
 rw [List.length_append]
 have h1 := List.length_filter_le p (l.take q)
 have h2 : (l.take q).length ≤ q := by rw [List.length_take]; exact Nat.min_le_left _ _
 omega
end Kn
open Kn
theorem StMap.grown {W W' : World} {B y : Nat} {ps : List (Sv × Int)} (h : StMap W B ps) (hg : W.grownBy W' (some y)) (hne : B ≠ y) : StMap W' B ps := by
 obtain ⟨es, c, h1, h2⟩ := h
 exact ⟨es, c, (hg.block B (Array.getElem?_eq_some_iff.1 h1).1 (fun e => hne (Option.some.inj e))).trans h1, h2⟩
set_option maxRecDepth 100000 in
set_option maxHeartbeats 8000000 in
theorem kn_Three (kb mb : Int) (lb : List Ev) (ab : Option Addr) (nb cb : Nat) (ka ma : Int) (la : List Ev) (aa : Option Addr) (na ca : Nat) (k2 m2 : Int) (l2 : List Ev) (a2 : Option Addr) (n2 c2 : Nat) (w : World)
 (hb1 : CellsAt w ab (elsV lb)) (ha1 : CellsAt w aa (elsV la)) (h21 : CellsAt w a2 (elsV l2)) (hnb : nb = lb.length) (hna : na = la.length) (hn2 : n2 = l2.length) (bb : nb ≤ 100000) (ba : na ≤ 100000) (b2 : n2 ≤ 100000)
 (zb : ∀ e ∈ lb, e.1.l.size ≤ 9223372036854775807) (za : ∀ e ∈ la, e.1.l.size ≤ 9223372036854775807) (z2 : ∀ e ∈ l2, e.1.l.size ≤ 9223372036854775807) :
 Calls Tryd.prog 32 #[.agg #[.int .i64 kb, .int .i64 mb, .slice ab nb cb], .agg #[.int .i64 ka, .int .i64 ma, .slice aa na ca], .agg #[.int .i64 k2, .int .i64 m2, .slice a2 n2 c2]] w fun e w' => ValOut w w' (threeO kb mb lb ka ma la k2 m2 l2) e := by
 have HLB := Lib.hid hb1
 have HLA := Lib.hid ha1
 have HL2 := Lib.hid h21
 have NB := Lib.hid hnb
 have NA := Lib.hid hna
 have N2 := Lib.hid hn2
 have ZB := Lib.hid zb
 have ZA := Lib.hid za
 have Z2 := Lib.hid z2
 obtain ⟨re, hre⟩ : ∃ r, threeO kb mb lb ka ma la k2 m2 l2 = r := ⟨_, rfl⟩
 rw [hre]
 have RE := Lib.hid hre
 clear hb1 ha1 h21 hnb hna hn2 zb za z2 hre
 have HC : Hid (Chain [w] w) := Lib.hid (Chain.one w)
 go_enter Tryd.func32, Tryd.ntmps32
 go_upto_region 1 with (fail)
 obtain ⟨z, hz⟩ : ∃ c, w.heap.size = c := ⟨_, rfl⟩
 try rw [hz]
 obtain ⟨w1, hw1⟩ : ∃ X, allocs w [.cells #[.int .i64 kb, .int .i64 mb, .slice ab nb cb] 49, .cells #[.int .i64 ka, .int .i64 ma, .slice aa na ca] 49, .cells #[.int .i64 k2, .int .i64 m2, .slice a2 n2 c2] 49, .cells #[.int .i64 0, .int .i64 0, .slice none 0 0] 49] = X := ⟨_, rfl⟩
 rw [show (((w.alloc (.cells #[.int .i64 kb, .int .i64 mb, .slice ab nb cb] 49)).alloc (.cells #[.int .i64 ka, .int .i64 ma, .slice aa na ca] 49)).alloc (.cells #[.int .i64 k2, .int .i64 m2, .slice a2 n2 c2] 49)).alloc (.cells #[.int .i64 0, .int .i64 0, .slice none 0 0] 49) = w1 from hw1]
 have hb : Below w.heap.size w w1 := by rw [← hw1]; exact allocs_below _ _
 have HB : Hid (w1.heap[z]? = some (.cells #[.int .i64 kb, .int .i64 mb, .slice ab nb cb] 49 (0, 0))) := Lib.hid (by have := allocs_get [.cells #[.int .i64 kb, .int .i64 mb, .slice ab nb cb] 49, .cells #[.int .i64 ka, .int .i64 ma, .slice aa na ca] 49, .cells #[.int .i64 k2, .int .i64 m2, .slice a2 n2 c2] 49, .cells #[.int .i64 0, .int .i64 0, .slice none 0 0] 49] w 0 _ rfl; rw [hw1, hz] at this; exact this)
 have HA : Hid (w1.heap[z + 1]? = some (.cells #[.int .i64 ka, .int .i64 ma, .slice aa na ca] 49 (0, 0))) := Lib.hid (by have := allocs_get [.cells #[.int .i64 kb, .int .i64 mb, .slice ab nb cb] 49, .cells #[.int .i64 ka, .int .i64 ma, .slice aa na ca] 49, .cells #[.int .i64 k2, .int .i64 m2, .slice a2 n2 c2] 49, .cells #[.int .i64 0, .int .i64 0, .slice none 0 0] 49] w 1 _ rfl; rw [hw1, hz] at this; exact this)
 have HD : Hid (w1.heap[z + 1 + 1]? = some (.cells #[.int .i64 k2, .int .i64 m2, .slice a2 n2 c2] 49 (0, 0))) := Lib.hid (by have := allocs_get [.cells #[.int .i64 kb, .int .i64 mb, .slice ab nb cb] 49, .cells #[.int .i64 ka, .int .i64 ma, .slice aa na ca] 49, .cells #[.int .i64 k2, .int .i64 m2, .slice a2 n2 c2] 49, .cells #[.int .i64 0, .int .i64 0, .slice none 0 0] 49] w 2 _ rfl; rw [hw1, hz] at this; exact this)
 have HR : Hid (w1.heap[z + 1 + 1 + 1]? = some (.cells #[.int .i64 0, .int .i64 0, .slice none 0 0] 49 (0, 0))) := Lib.hid (by have := allocs_get [.cells #[.int .i64 kb, .int .i64 mb, .slice ab nb cb] 49, .cells #[.int .i64 ka, .int .i64 ma, .slice aa na ca] 49, .cells #[.int .i64 k2, .int .i64 m2, .slice a2 n2 c2] 49, .cells #[.int .i64 0, .int .i64 0, .slice none 0 0] 49] w 3 _ rfl; rw [hw1, hz] at this; exact this)
 have Sz : Hid (w.heap.size = z) := Lib.hid hz
 replace HC := Lib.hid (HC.out.push hb)
 clear hb hw1 hz
 have VZ := Lib.hid vz_one
 have WZ : Hid (w.heap.size ≤ z + 1 + 1 + 1) := Lib.hid (by have := Sz.out; omega)
 have kB0 := cell_of_row _ _ 0 _ _ _ HB.out
 have kB1 := cell_of_row _ _ 1 _ _ _ HB.out
 have kB2 := cell_of_row _ _ 2 _ _ _ HB.out
 go_wp2_with fail
 refine (kn_Value kb mb lb ab nb cb _ (HLB.out.below (HC.out.to w (by simp)) rfl) NB.out (by omega) ZB.out).mono ?_
 rintro e w2 ⟨rfl, hb⟩
 clear kB0 kB1 kB2
 replace HC := Lib.hid (HC.out.push hb)
 clear hb
 obtain ⟨v1, h1⟩ : ∃ b, valG kb mb lb = b := ⟨_, rfl⟩
 rw [h1]
 have H1 := Lib.hid h1
 clear h1
 cases v1
 case false =>
  have hres : re = (0, 0, [], 2) := by rw [← RE.out]; unfold threeO; rw [if_pos (.inl H1.out)]
  have HRX := Lib.hid (boxStays HR.out (HC.out.to w1 (by simp)))
  have kB0 := cell_of_row _ _ 0 _ _ _ (boxStays HB.out (HC.out.to w1 (by simp)))
  have kB1 := cell_of_row _ _ 1 _ _ _ (boxStays HB.out (HC.out.to w1 (by simp)))
  have kB2 := cell_of_row _ _ 2 _ _ _ (boxStays HB.out (HC.out.to w1 (by simp)))
  have kA0 := cell_of_row _ _ 0 _ _ _ (boxStays HA.out (HC.out.to w1 (by simp)))
  have kA1 := cell_of_row _ _ 1 _ _ _ (boxStays HA.out (HC.out.to w1 (by simp)))
  have kA2 := cell_of_row _ _ 2 _ _ _ (boxStays HA.out (HC.out.to w1 (by simp)))
  have kD0 := cell_of_row _ _ 0 _ _ _ (boxStays HD.out (HC.out.to w1 (by simp)))
  have kD1 := cell_of_row _ _ 1 _ _ _ (boxStays HD.out (HC.out.to w1 (by simp)))
  have kD2 := cell_of_row _ _ 2 _ _ _ (boxStays HD.out (HC.out.to w1 (by simp)))
  go_wp2_with (refine wpList_store_row rfl 49 (.tmp 6) (.tmp 43) rfl (z + 1 + 1 + 1) #[.int .i64 0, .int .i64 0, .slice none 0 0] rfl rfl 49 _ HRX.out (by kernel_rfl) rfl VZ.out ?_)
  clear kB0 kB1 kB2 kA0 kA1 kA2 kD0 kD1 kD2
  have hx := setRow_heap _ _ _ #[.int .i64 0, .int .i64 0, .slice none 0 0] _ _ HRX.out
  have r0 := cell_of_row _ _ 0 _ _ _ hx
  have r1 := cell_of_row _ _ 1 _ _ _ hx
  have r2 := cell_of_row _ _ 2 _ _ _ hx
  refine bodyPost_ret (v := .tuple #[.agg #[.int .i64 0, .int .i64 0, .slice none 0 0], .int .i64 2]) (by simp [results, Tryd.results32, go_sem, r0, r1, r2]) rfl ?_
  rw [hres]
  exact ⟨none, 0, 0, rfl, CellsAt.nil _ _, rfl, Nat.le_refl _, fun ad had => (by cases had), below_setRow (HC.out.to w (by simp)) WZ.out _⟩
 have kA0 := cell_of_row _ _ 0 _ _ _ (boxStays HA.out (HC.out.to w1 (by simp)))
 have kA1 := cell_of_row _ _ 1 _ _ _ (boxStays HA.out (HC.out.to w1 (by simp)))
 have kA2 := cell_of_row _ _ 2 _ _ _ (boxStays HA.out (HC.out.to w1 (by simp)))
 go_wp2_with fail
 refine (kn_Value ka ma la aa na ca _ (HLA.out.below (HC.out.to w (by simp)) rfl) NA.out (by omega) ZA.out).mono ?_
 rintro e w3 ⟨rfl, hb⟩
 clear kA0 kA1 kA2
 replace HC := Lib.hid (HC.out.push hb)
 clear hb
 obtain ⟨v2, h2⟩ : ∃ b, valG ka ma la = b := ⟨_, rfl⟩
 rw [h2]
 have H2 := Lib.hid h2
 clear h2
 cases v2
 case false =>
  have hres : re = (0, 0, [], 2) := by rw [← RE.out]; unfold threeO; rw [if_pos (.inr (.inl H2.out))]
  have HRX := Lib.hid (boxStays HR.out (HC.out.to w1 (by simp)))
  have kB0 := cell_of_row _ _ 0 _ _ _ (boxStays HB.out (HC.out.to w1 (by simp)))
  have kB1 := cell_of_row _ _ 1 _ _ _ (boxStays HB.out (HC.out.to w1 (by simp)))
  have kB2 := cell_of_row _ _ 2 _ _ _ (boxStays HB.out (HC.out.to w1 (by simp)))
  have kA0 := cell_of_row _ _ 0 _ _ _ (boxStays HA.out (HC.out.to w1 (by simp)))
  have kA1 := cell_of_row _ _ 1 _ _ _ (boxStays HA.out (HC.out.to w1 (by simp)))
  have kA2 := cell_of_row _ _ 2 _ _ _ (boxStays HA.out (HC.out.to w1 (by simp)))
  have kD0 := cell_of_row _ _ 0 _ _ _ (boxStays HD.out (HC.out.to w1 (by simp)))
  have kD1 := cell_of_row _ _ 1 _ _ _ (boxStays HD.out (HC.out.to w1 (by simp)))
  have kD2 := cell_of_row _ _ 2 _ _ _ (boxStays HD.out (HC.out.to w1 (by simp)))
  go_wp2_with (refine wpList_store_row rfl 49 (.tmp 6) (.tmp 43) rfl (z + 1 + 1 + 1) #[.int .i64 0, .int .i64 0, .slice none 0 0] rfl rfl 49 _ HRX.out (by kernel_rfl) rfl VZ.out ?_)
  clear kB0 kB1 kB2 kA0 kA1 kA2 kD0 kD1 kD2
  have hx := setRow_heap _ _ _ #[.int .i64 0, .int .i64 0, .slice none 0 0] _ _ HRX.out
  have r0 := cell_of_row _ _ 0 _ _ _ hx
  have r1 := cell_of_row _ _ 1 _ _ _ hx
  have r2 := cell_of_row _ _ 2 _ _ _ hx
  refine bodyPost_ret (v := .tuple #[.agg #[.int .i64 0, .int .i64 0, .slice none 0 0], .int .i64 2]) (by simp [results, Tryd.results32, go_sem, r0, r1, r2]) rfl ?_
  rw [hres]
  exact ⟨none, 0, 0, rfl, CellsAt.nil _ _, rfl, Nat.le_refl _, fun ad had => (by cases had), below_setRow (HC.out.to w (by simp)) WZ.out _⟩
 have kD0 := cell_of_row _ _ 0 _ _ _ (boxStays HD.out (HC.out.to w1 (by simp)))
 have kD1 := cell_of_row _ _ 1 _ _ _ (boxStays HD.out (HC.out.to w1 (by simp)))
 have kD2 := cell_of_row _ _ 2 _ _ _ (boxStays HD.out (HC.out.to w1 (by simp)))
 go_wp2_with fail
 refine (kn_Value k2 m2 l2 a2 n2 c2 _ (HL2.out.below (HC.out.to w (by simp)) rfl) N2.out (by omega) Z2.out).mono ?_
 rintro e w4 ⟨rfl, hb⟩
 clear kD0 kD1 kD2
 replace HC := Lib.hid (HC.out.push hb)
 clear hb
 obtain ⟨v3, h3⟩ : ∃ b, valG k2 m2 l2 = b := ⟨_, rfl⟩
 rw [h3]
 have H3 := Lib.hid h3
 clear h3
 cases v3
 case false =>
  have hres : re = (0, 0, [], 2) := by rw [← RE.out]; unfold threeO; rw [if_pos (.inr (.inr (.inl H3.out)))]
  have HRX := Lib.hid (boxStays HR.out (HC.out.to w1 (by simp)))
  have kB0 := cell_of_row _ _ 0 _ _ _ (boxStays HB.out (HC.out.to w1 (by simp)))
  have kB1 := cell_of_row _ _ 1 _ _ _ (boxStays HB.out (HC.out.to w1 (by simp)))
  have kB2 := cell_of_row _ _ 2 _ _ _ (boxStays HB.out (HC.out.to w1 (by simp)))
  have kA0 := cell_of_row _ _ 0 _ _ _ (boxStays HA.out (HC.out.to w1 (by simp)))
  have kA1 := cell_of_row _ _ 1 _ _ _ (boxStays HA.out (HC.out.to w1 (by simp)))
  have kA2 := cell_of_row _ _ 2 _ _ _ (boxStays HA.out (HC.out.to w1 (by simp)))
  have kD0 := cell_of_row _ _ 0 _ _ _ (boxStays HD.out (HC.out.to w1 (by simp)))
  have kD1 := cell_of_row _ _ 1 _ _ _ (boxStays HD.out (HC.out.to w1 (by simp)))
  have kD2 := cell_of_row _ _ 2 _ _ _ (boxStays HD.out (HC.out.to w1 (by simp)))
  go_wp2_with (refine wpList_store_row rfl 49 (.tmp 6) (.tmp 43) rfl (z + 1 + 1 + 1) #[.int .i64 0, .int .i64 0, .slice none 0 0] rfl rfl 49 _ HRX.out (by kernel_rfl) rfl VZ.out ?_)
  clear kB0 kB1 kB2 kA0 kA1 kA2 kD0 kD1 kD2
  have hx := setRow_heap _ _ _ #[.int .i64 0, .int .i64 0, .slice none 0 0] _ _ HRX.out
  have r0 := cell_of_row _ _ 0 _ _ _ hx
  have r1 := cell_of_row _ _ 1 _ _ _ hx
  have r2 := cell_of_row _ _ 2 _ _ _ hx
  refine bodyPost_ret (v := .tuple #[.agg #[.int .i64 0, .int .i64 0, .slice none 0 0], .int .i64 2]) (by simp [results, Tryd.results32, go_sem, r0, r1, r2]) rfl ?_
  rw [hres]
  exact ⟨none, 0, 0, rfl, CellsAt.nil _ _, rfl, Nat.le_refl _, fun ad had => (by cases had), below_setRow (HC.out.to w (by simp)) WZ.out _⟩
 by_cases h4 : kb = ka
 case neg =>
  have hres : re = (0, 0, [], 2) := by rw [← RE.out]; unfold threeO; rw [if_pos (.inr (.inr (.inr (.inl h4))))]
  have h4b : (kb != ka) = true := by simp [h4]
  have HRX := Lib.hid (boxStays HR.out (HC.out.to w1 (by simp)))
  have kB0 := cell_of_row _ _ 0 _ _ _ (boxStays HB.out (HC.out.to w1 (by simp)))
  have kB1 := cell_of_row _ _ 1 _ _ _ (boxStays HB.out (HC.out.to w1 (by simp)))
  have kB2 := cell_of_row _ _ 2 _ _ _ (boxStays HB.out (HC.out.to w1 (by simp)))
  have kA0 := cell_of_row _ _ 0 _ _ _ (boxStays HA.out (HC.out.to w1 (by simp)))
  have kA1 := cell_of_row _ _ 1 _ _ _ (boxStays HA.out (HC.out.to w1 (by simp)))
  have kA2 := cell_of_row _ _ 2 _ _ _ (boxStays HA.out (HC.out.to w1 (by simp)))
  have kD0 := cell_of_row _ _ 0 _ _ _ (boxStays HD.out (HC.out.to w1 (by simp)))
  have kD1 := cell_of_row _ _ 1 _ _ _ (boxStays HD.out (HC.out.to w1 (by simp)))
  have kD2 := cell_of_row _ _ 2 _ _ _ (boxStays HD.out (HC.out.to w1 (by simp)))
  go_wp2_with (refine wpList_store_row rfl 49 (.tmp 6) (.tmp 43) rfl (z + 1 + 1 + 1) #[.int .i64 0, .int .i64 0, .slice none 0 0] rfl rfl 49 _ HRX.out (by kernel_rfl) rfl VZ.out ?_)
  clear kB0 kB1 kB2 kA0 kA1 kA2 kD0 kD1 kD2
  have hx := setRow_heap _ _ _ #[.int .i64 0, .int .i64 0, .slice none 0 0] _ _ HRX.out
  have r0 := cell_of_row _ _ 0 _ _ _ hx
  have r1 := cell_of_row _ _ 1 _ _ _ hx
  have r2 := cell_of_row _ _ 2 _ _ _ hx
  refine bodyPost_ret (v := .tuple #[.agg #[.int .i64 0, .int .i64 0, .slice none 0 0], .int .i64 2]) (by simp [results, Tryd.results32, go_sem, r0, r1, r2]) rfl ?_
  rw [hres]
  exact ⟨none, 0, 0, rfl, CellsAt.nil _ _, rfl, Nat.le_refl _, fun ad had => (by cases had), below_setRow (HC.out.to w (by simp)) WZ.out _⟩
 subst h4
 by_cases h5 : kb = k2
 case neg =>
  have hres : re = (0, 0, [], 2) := by rw [← RE.out]; unfold threeO; rw [if_pos (.inr (.inr (.inr (.inr h5))))]
  have h5b : (kb != k2) = true := by simp [h5]
  have HRX := Lib.hid (boxStays HR.out (HC.out.to w1 (by simp)))
  have kB0 := cell_of_row _ _ 0 _ _ _ (boxStays HB.out (HC.out.to w1 (by simp)))
  have kB1 := cell_of_row _ _ 1 _ _ _ (boxStays HB.out (HC.out.to w1 (by simp)))
  have kB2 := cell_of_row _ _ 2 _ _ _ (boxStays HB.out (HC.out.to w1 (by simp)))
  have kA0 := cell_of_row _ _ 0 _ _ _ (boxStays HA.out (HC.out.to w1 (by simp)))
  have kA1 := cell_of_row _ _ 1 _ _ _ (boxStays HA.out (HC.out.to w1 (by simp)))
  have kA2 := cell_of_row _ _ 2 _ _ _ (boxStays HA.out (HC.out.to w1 (by simp)))
  have kD0 := cell_of_row _ _ 0 _ _ _ (boxStays HD.out (HC.out.to w1 (by simp)))
  have kD1 := cell_of_row _ _ 1 _ _ _ (boxStays HD.out (HC.out.to w1 (by simp)))
  have kD2 := cell_of_row _ _ 2 _ _ _ (boxStays HD.out (HC.out.to w1 (by simp)))
  go_wp2_with (refine wpList_store_row rfl 49 (.tmp 6) (.tmp 43) rfl (z + 1 + 1 + 1) #[.int .i64 0, .int .i64 0, .slice none 0 0] rfl rfl 49 _ HRX.out (by kernel_rfl) rfl VZ.out ?_)
  clear kB0 kB1 kB2 kA0 kA1 kA2 kD0 kD1 kD2
  have hx := setRow_heap _ _ _ #[.int .i64 0, .int .i64 0, .slice none 0 0] _ _ HRX.out
  have r0 := cell_of_row _ _ 0 _ _ _ hx
  have r1 := cell_of_row _ _ 1 _ _ _ hx
  have r2 := cell_of_row _ _ 2 _ _ _ hx
  refine bodyPost_ret (v := .tuple #[.agg #[.int .i64 0, .int .i64 0, .slice none 0 0], .int .i64 2]) (by simp [results, Tryd.results32, go_sem, r0, r1, r2]) rfl ?_
  rw [hres]
  exact ⟨none, 0, 0, rfl, CellsAt.nil _ _, rfl, Nat.le_refl _, fun ad had => (by cases had), below_setRow (HC.out.to w (by simp)) WZ.out _⟩
 subst h5
 have HRE : Hid (re = (kb, IntKind.i64.wrap (IntKind.i64.wrap (ma + m2) - mb), threeG lb la l2, 0)) := Lib.hid (by rw [← RE.out]; unfold threeO; rw [if_neg (by rw [H1.out, H2.out, H3.out]; simp)])
 have RB := Lib.hid (val_right H1.out)
 have RA := Lib.hid (val_right H2.out)
 have R2 := Lib.hid (val_right H3.out)
 obtain ⟨m1, hm1⟩ : ∃ q, IntKind.i64.wrap (ma + m2) = q := ⟨_, rfl⟩
 rw [hm1] at HRE
 obtain ⟨mm, hmm⟩ : ∃ q, IntKind.i64.wrap (m1 - mb) = q := ⟨_, rfl⟩
 rw [hmm] at HRE
 clear RE H1 H2 H3
 have kB0 := cell_of_row _ _ 0 _ _ _ (boxStays HB.out (HC.out.to w1 (by simp)))
 have kB1 := cell_of_row _ _ 1 _ _ _ (boxStays HB.out (HC.out.to w1 (by simp)))
 have kB2 := cell_of_row _ _ 2 _ _ _ (boxStays HB.out (HC.out.to w1 (by simp)))
 have kA0 := cell_of_row _ _ 0 _ _ _ (boxStays HA.out (HC.out.to w1 (by simp)))
 have kA1 := cell_of_row _ _ 1 _ _ _ (boxStays HA.out (HC.out.to w1 (by simp)))
 have kA2 := cell_of_row _ _ 2 _ _ _ (boxStays HA.out (HC.out.to w1 (by simp)))
 have kD0 := cell_of_row _ _ 0 _ _ _ (boxStays HD.out (HC.out.to w1 (by simp)))
 have kD1 := cell_of_row _ _ 1 _ _ _ (boxStays HD.out (HC.out.to w1 (by simp)))
 have kD2 := cell_of_row _ _ 2 _ _ _ (boxStays HD.out (HC.out.to w1 (by simp)))
 go_upto_region 4 with (fail)
 clear kB0 kB1 kB2 kA0 kA1 kA2 kD0 kD1 kD2
 clear hmm hm1
 have LZ4 : Hid (z + 1 + 1 + 1 < w4.heap.size ∧ w.heap.size ≤ w4.heap.size) := Lib.hid ⟨(Array.getElem?_eq_some_iff.1 (boxStays HR.out (HC.out.to w1 (by simp)))).1, (HC.out.to w (by simp)).size⟩
 obtain ⟨y, hy⟩ : ∃ c, w4.heap.size = c := ⟨_, rfl⟩
 try rw [hy]
 obtain ⟨w6, hw6⟩ : ∃ X, allocs w4 [.cells #[.int .i64 kb, .int .i64 mm, .slice none 0 0] 49] = X := ⟨_, rfl⟩
 rw [show w4.alloc (.cells #[.int .i64 kb, .int .i64 mm, .slice none 0 0] 49) = w6 from hw6]
 have hb : Below w4.heap.size w4 w6 := by rw [← hw6]; exact allocs_below _ _
 have HT : Hid (w6.heap[y]? = some (.cells #[.int .i64 kb, .int .i64 mm, .slice none 0 0] 49 (0, 0))) := Lib.hid (by have := allocs_get [.cells #[.int .i64 kb, .int .i64 mm, .slice none 0 0] 49] w4 0 _ rfl; rw [hw6, hy] at this; exact this)
 have Sy : Hid (w4.heap.size = y) := Lib.hid hy
 replace HC := Lib.hid (HC.out.push hb)
 clear hb hw6 hy
 have WY : Hid (z + 1 + 1 + 1 < y ∧ y < w6.heap.size ∧ w.heap.size ≤ y) := Lib.hid (by have h1 := (Array.getElem?_eq_some_iff.1 HT.out).1; have h2 := Sy.out; have h3 := LZ4.out; omega)
 have HB6 := Lib.hid (boxStays HB.out (HC.out.to w1 (by simp)))
 have HA6 := Lib.hid (boxStays HA.out (HC.out.to w1 (by simp)))
 have HD6 := Lib.hid (boxStays HD.out (HC.out.to w1 (by simp)))
 have HLB6 := Lib.hid (HLB.out.below (HC.out.to w (by simp)) rfl)
 have HLA6 := Lib.hid (HLA.out.below (HC.out.to w (by simp)) rfl)
 have HL26 := Lib.hid (HL2.out.below (HC.out.to w (by simp)) rfl)
 refine relG_start (slots := [55, 56, 57, 58, 59, 60, 61, 62, 63, 9, 10, 11]) (so := []) (by kernel_rfl) (by kernel_rfl) (by rfl) ?_
 refine relG_pure (i := 0) (o := ⟨some 55, _, _, _, _, _⟩) (v := ?v1) [] [3] rfl rfl (by kernel_rfl) (by kernel_rfl) (fun t w1 hB hf hbf => ?y1) ?n1
 case y1 =>
  simp only [BasF] at hbf
  clear hf
  obtain ⟨⟨b3, k3⟩, _⟩ := hbf
  have xb := boxStays HB6.out hB
  have xa := boxStays HA6.out hB
  have xd := boxStays HD6.out hB
  have qb := cell_of_row _ z 2 _ _ _ xb
  have qa := cell_of_row _ (z + 1) 2 _ _ _ xa
  have qd := cell_of_row _ (z + 1 + 1) 2 _ _ _ xd
  clear xb xa xd
  refine Or.inl ⟨wanted_none rfl, ?_⟩
  rintro _ rfl
  go_simp <;> with_reducible rfl
 refine relG_pure (i := 1) (o := ⟨some 56, _, _, _, _, _⟩) (v := ?v2) [(0, 55, 0)] [] rfl rfl (by kernel_rfl) (by kernel_rfl) (fun t w1 hB hf hbf => ?y2) ?n2
 case y2 =>
  simp only [DepF, List.getD_cons_zero] at hf
  obtain ⟨⟨_, ⟨e55, i55⟩, rfl⟩, _⟩ := hf
  clear hbf
  have xb := boxStays HB6.out hB
  have xa := boxStays HA6.out hB
  have xd := boxStays HD6.out hB
  have qb := cell_of_row _ z 2 _ _ _ xb
  have qa := cell_of_row _ (z + 1) 2 _ _ _ xa
  have qd := cell_of_row _ (z + 1 + 1) 2 _ _ _ xd
  clear xb xa xd
  refine Or.inl ⟨wanted_none rfl, ?_⟩
  rintro _ rfl
  go_simp <;> with_reducible rfl
 refine relG_call (i := 2) (o := ⟨some 57, _, _, _, _, _⟩) ((fun v w' => ∃ B, v = .map (some B) ∧ w6.heap.size ≤ B ∧ StMap w' B (stampsG lb))) [(1, 56, 0)] [] rfl rfl (by kernel_rfl) (by kernel_rfl) ((fun v w' w'' h hb => by obtain ⟨B, e1, e2, e3⟩ := h; exact ⟨B, e1, e2, e3.below hb⟩)) ?_ ?_
 · intro t w1 hB hf hbf K hK
   simp only [DepF, List.getD_cons_zero] at hf
   obtain ⟨⟨_, ⟨e56, i56⟩, rfl⟩, _⟩ := hf
   clear hbf
   have xb := boxStays HB6.out hB
   have xa := boxStays HA6.out hB
   have xd := boxStays HD6.out hB
   have qb := cell_of_row _ z 2 _ _ _ xb
   have qa := cell_of_row _ (z + 1) 2 _ _ _ xa
   have qd := cell_of_row _ (z + 1 + 1) 2 _ _ _ xd
   clear xb xa xd
   refine ⟨wanted_none rfl, ?_⟩
   go_simp
   refine (kn_stamps lb ab nb cb w1 (HLB6.out.below hB rfl) NB.out (by omega) RB.out.2.nodup).mono ?_
   rintro e w2 ⟨B, rfl, e2, e3, hb⟩
   exact hK.out _ w2 (⟨B, rfl, Nat.le_trans hB.size e2, e3⟩) hb
 refine relG_pure (i := 3) (o := ⟨some 58, _, _, _, _, _⟩) (v := ?v3) [] [4] rfl rfl (by kernel_rfl) (by kernel_rfl) (fun t w1 hB hf hbf => ?y3) ?n3
 case y3 =>
  simp only [BasF] at hbf
  clear hf
  obtain ⟨⟨b4, k4⟩, _⟩ := hbf
  have xb := boxStays HB6.out hB
  have xa := boxStays HA6.out hB
  have xd := boxStays HD6.out hB
  have qb := cell_of_row _ z 2 _ _ _ xb
  have qa := cell_of_row _ (z + 1) 2 _ _ _ xa
  have qd := cell_of_row _ (z + 1 + 1) 2 _ _ _ xd
  clear xb xa xd
  refine Or.inl ⟨wanted_none rfl, ?_⟩
  rintro _ rfl
  go_simp <;> with_reducible rfl
 refine relG_pure (i := 4) (o := ⟨some 59, _, _, _, _, _⟩) (v := ?v4) [(3, 58, 0)] [] rfl rfl (by kernel_rfl) (by kernel_rfl) (fun t w1 hB hf hbf => ?y4) ?n4
 case y4 =>
  simp only [DepF, List.getD_cons_zero] at hf
  obtain ⟨⟨_, ⟨e58, i58⟩, rfl⟩, _⟩ := hf
  clear hbf
  have xb := boxStays HB6.out hB
  have xa := boxStays HA6.out hB
  have xd := boxStays HD6.out hB
  have qb := cell_of_row _ z 2 _ _ _ xb
  have qa := cell_of_row _ (z + 1) 2 _ _ _ xa
  have qd := cell_of_row _ (z + 1 + 1) 2 _ _ _ xd
  clear xb xa xd
  refine Or.inl ⟨wanted_none rfl, ?_⟩
  rintro _ rfl
  go_simp <;> with_reducible rfl
 refine relG_call (i := 5) (o := ⟨some 60, _, _, _, _, _⟩) ((fun v w' => ∃ B, v = .map (some B) ∧ w6.heap.size ≤ B ∧ StMap w' B (stampsG la))) [(4, 59, 0)] [] rfl rfl (by kernel_rfl) (by kernel_rfl) ((fun v w' w'' h hb => by obtain ⟨B, e1, e2, e3⟩ := h; exact ⟨B, e1, e2, e3.below hb⟩)) ?_ ?_
 · intro t w1 hB hf hbf K hK
   simp only [DepF, List.getD_cons_zero] at hf
   obtain ⟨⟨_, ⟨e59, i59⟩, rfl⟩, _⟩ := hf
   clear hbf
   have xb := boxStays HB6.out hB
   have xa := boxStays HA6.out hB
   have xd := boxStays HD6.out hB
   have qb := cell_of_row _ z 2 _ _ _ xb
   have qa := cell_of_row _ (z + 1) 2 _ _ _ xa
   have qd := cell_of_row _ (z + 1 + 1) 2 _ _ _ xd
   clear xb xa xd
   refine ⟨wanted_none rfl, ?_⟩
   go_simp
   refine (kn_stamps la aa na ca w1 (HLA6.out.below hB rfl) NA.out (by omega) RA.out.2.nodup).mono ?_
   rintro e w2 ⟨B, rfl, e2, e3, hb⟩
   exact hK.out _ w2 (⟨B, rfl, Nat.le_trans hB.size e2, e3⟩) hb
 refine relG_pure (i := 6) (o := ⟨some 61, _, _, _, _, _⟩) (v := ?v5) [] [5] rfl rfl (by kernel_rfl) (by kernel_rfl) (fun t w1 hB hf hbf => ?y5) ?n5
 case y5 =>
  simp only [BasF] at hbf
  clear hf
  obtain ⟨⟨b5, k5⟩, _⟩ := hbf
  have xb := boxStays HB6.out hB
  have xa := boxStays HA6.out hB
  have xd := boxStays HD6.out hB
  have qb := cell_of_row _ z 2 _ _ _ xb
  have qa := cell_of_row _ (z + 1) 2 _ _ _ xa
  have qd := cell_of_row _ (z + 1 + 1) 2 _ _ _ xd
  clear xb xa xd
  refine Or.inl ⟨wanted_none rfl, ?_⟩
  rintro _ rfl
  go_simp <;> with_reducible rfl
 refine relG_pure (i := 7) (o := ⟨some 62, _, _, _, _, _⟩) (v := ?v6) [(6, 61, 0)] [] rfl rfl (by kernel_rfl) (by kernel_rfl) (fun t w1 hB hf hbf => ?y6) ?n6
 case y6 =>
  simp only [DepF, List.getD_cons_zero] at hf
  obtain ⟨⟨_, ⟨e61, i61⟩, rfl⟩, _⟩ := hf
  clear hbf
  have xb := boxStays HB6.out hB
  have xa := boxStays HA6.out hB
  have xd := boxStays HD6.out hB
  have qb := cell_of_row _ z 2 _ _ _ xb
  have qa := cell_of_row _ (z + 1) 2 _ _ _ xa
  have qd := cell_of_row _ (z + 1 + 1) 2 _ _ _ xd
  clear xb xa xd
  refine Or.inl ⟨wanted_none rfl, ?_⟩
  rintro _ rfl
  go_simp <;> with_reducible rfl
 refine relG_call (i := 8) (o := ⟨some 63, _, _, _, _, _⟩) ((fun v w' => ∃ B, v = .map (some B) ∧ w6.heap.size ≤ B ∧ StMap w' B (stampsG l2))) [(7, 62, 0)] [] rfl rfl (by kernel_rfl) (by kernel_rfl) ((fun v w' w'' h hb => by obtain ⟨B, e1, e2, e3⟩ := h; exact ⟨B, e1, e2, e3.below hb⟩)) ?_ ?_
 · intro t w1 hB hf hbf K hK
   simp only [DepF, List.getD_cons_zero] at hf
   obtain ⟨⟨_, ⟨e62, i62⟩, rfl⟩, _⟩ := hf
   clear hbf
   have xb := boxStays HB6.out hB
   have xa := boxStays HA6.out hB
   have xd := boxStays HD6.out hB
   have qb := cell_of_row _ z 2 _ _ _ xb
   have qa := cell_of_row _ (z + 1) 2 _ _ _ xa
   have qd := cell_of_row _ (z + 1 + 1) 2 _ _ _ xd
   clear xb xa xd
   refine ⟨wanted_none rfl, ?_⟩
   go_simp
   refine (kn_stamps l2 a2 n2 c2 w1 (HL26.out.below hB rfl) N2.out (by omega) R2.out.2.nodup).mono ?_
   rintro e w2 ⟨B, rfl, e2, e3, hb⟩
   exact hK.out _ w2 (⟨B, rfl, Nat.le_trans hB.size e2, e3⟩) hb
 refine relG_call (i := 9) (o := ⟨some 9, _, _, _, _, _⟩) ((fun v w' => ∃ B, v = .map (some B) ∧ w6.heap.size ≤ B ∧ StMap w' B (stampsG lb))) [(2, 57, 6)] [] rfl rfl (by kernel_rfl) (by kernel_rfl) ((fun v w' w'' h hb => by obtain ⟨B, e1, e2, e3⟩ := h; exact ⟨B, e1, e2, e3.below hb⟩)) ?_ ?_
 · intro t w1 hB hf hbf K hK
   simp only [DepF, List.getD_cons_zero, List.getD_cons_succ] at hf
   obtain ⟨⟨_, ⟨e57, i57⟩, ⟨P5, rfl, e2, e3⟩⟩, _⟩ := hf
   clear hbf
   have xb := boxStays HB6.out hB
   have xa := boxStays HA6.out hB
   have xd := boxStays HD6.out hB
   have qb := cell_of_row _ z 2 _ _ _ xb
   have qa := cell_of_row _ (z + 1) 2 _ _ _ xa
   have qd := cell_of_row _ (z + 1 + 1) 2 _ _ _ xd
   clear xb xa xd
   refine ⟨wanted_none rfl, ?_⟩
   go_simp
   exact hK.out _ _ (⟨_, rfl, e2, e3⟩) (Below.refl _ _)
 refine relG_call (i := 10) (o := ⟨some 10, _, _, _, _, _⟩) ((fun v w' => ∃ B, v = .map (some B) ∧ w6.heap.size ≤ B ∧ StMap w' B (stampsG la))) [(5, 60, 4)] [] rfl rfl (by kernel_rfl) (by kernel_rfl) ((fun v w' w'' h hb => by obtain ⟨B, e1, e2, e3⟩ := h; exact ⟨B, e1, e2, e3.below hb⟩)) ?_ ?_
 · intro t w1 hB hf hbf K hK
   simp only [DepF, List.getD_cons_zero, List.getD_cons_succ] at hf
   obtain ⟨⟨_, ⟨e60, i60⟩, ⟨P6, rfl, e2, e3⟩⟩, _⟩ := hf
   clear hbf
   have xb := boxStays HB6.out hB
   have xa := boxStays HA6.out hB
   have xd := boxStays HD6.out hB
   have qb := cell_of_row _ z 2 _ _ _ xb
   have qa := cell_of_row _ (z + 1) 2 _ _ _ xa
   have qd := cell_of_row _ (z + 1 + 1) 2 _ _ _ xd
   clear xb xa xd
   refine ⟨wanted_none rfl, ?_⟩
   go_simp
   exact hK.out _ _ (⟨_, rfl, e2, e3⟩) (Below.refl _ _)
 refine relG_call (i := 11) (o := ⟨some 11, _, _, _, _, _⟩) ((fun v w' => ∃ B, v = .map (some B) ∧ w6.heap.size ≤ B ∧ StMap w' B (stampsG l2))) [(8, 63, 2)] [] rfl rfl (by kernel_rfl) (by kernel_rfl) ((fun v w' w'' h hb => by obtain ⟨B, e1, e2, e3⟩ := h; exact ⟨B, e1, e2, e3.below hb⟩)) ?_ ?_
 · intro t w1 hB hf hbf K hK
   simp only [DepF, List.getD_cons_zero, List.getD_cons_succ] at hf
   obtain ⟨⟨_, ⟨e63, i63⟩, ⟨P7, rfl, e2, e3⟩⟩, _⟩ := hf
   clear hbf
   have xb := boxStays HB6.out hB
   have xa := boxStays HA6.out hB
   have xd := boxStays HD6.out hB
   have qb := cell_of_row _ z 2 _ _ _ xb
   have qa := cell_of_row _ (z + 1) 2 _ _ _ xa
   have qd := cell_of_row _ (z + 1 + 1) 2 _ _ _ xd
   clear xb xa xd
   refine ⟨wanted_none rfl, ?_⟩
   go_simp
   exact hK.out _ _ (⟨_, rfl, e2, e3⟩) (Below.refl _ _)
 refine relG_done [(0, 55, 11), (1, 56, 10), (2, 57, 9), (3, 58, 8), (4, 59, 7), (5, 60, 6), (6, 61, 5), (7, 62, 4), (8, 63, 3), (9, 9, 2), (10, 10, 1), (11, 11, 0)] (by kernel_rfl) rfl (by kernel_rfl) (fun f wE hB hf => ?_)
 simp only [FinF, List.getD_cons_zero, List.getD_cons_succ] at hf
 obtain ⟨⟨_, e55, rfl⟩, ⟨_, e56, rfl⟩, ⟨_, e57, ⟨P5, rfl, e2, e3⟩⟩, ⟨_, e58, rfl⟩, ⟨_, e59, rfl⟩, ⟨_, e60, ⟨P6, rfl, e2, e3⟩⟩, ⟨_, e61, rfl⟩, ⟨_, e62, rfl⟩, ⟨_, e63, ⟨P7, rfl, e2, e3⟩⟩, ⟨_, e9, ⟨P1, rfl, le1, sm1⟩⟩, ⟨_, e10, ⟨P2, rfl, le2, sm2⟩⟩, ⟨_, e11, ⟨P3, rfl, le3, sm3⟩⟩, _⟩ := hf
 simp only [regT, List.foldl_cons, List.foldl_nil, List.setIfInBounds_toArray, List.set_cons_zero, List.set_cons_succ, e55, e56, e57, e58, e59, e60, e61, e62, e63, e9, e10, e11]
 clear e55 e56 e57 e58 e59 e60 e61 e62 e63 e9 e10 e11
 have hb := hB
 clear hB
 replace HC := Lib.hid (HC.out.push hb)
 clear hb
 have M1 := Lib.hid sm1
 have M2 := Lib.hid sm2
 have M3 := Lib.hid sm3
 have WE : Hid (w6.heap.size ≤ wE.heap.size ∧ y < P1 ∧ y < P2 ∧ y < P3) := Lib.hid (by have h1 := WY.out; have h2 := (HC.out.to w6 (by simp)).size; omega)
 clear sm1 sm2 sm3 le1 le2 le3
 have TE := Lib.hid (boxStays HT.out (HC.out.to w6 (by simp)))
 have DE := Lib.hid (boxStays HD.out (HC.out.to w1 (by simp)))
 have RR := Lib.hid (boxStays HR.out (HC.out.to w1 (by simp)))
 have BE := Lib.hid (HC.out.to w (by simp))
 have ET := Lib.hid elT
 have kA0 := cell_of_row _ _ 0 _ _ _ (boxStays HA.out (HC.out.to w1 (by simp)))
 have kA1 := cell_of_row _ _ 1 _ _ _ (boxStays HA.out (HC.out.to w1 (by simp)))
 have kA2 := cell_of_row _ _ 2 _ _ _ (boxStays HA.out (HC.out.to w1 (by simp)))
 go_wp2_with fail
 clear kA0 kA1 kA2
 clear HC HB HA HD HR HT HB6 HA6 HD6 HLB6 HLA6 HL26
 go_loopw [13, 67] (fun _ j wr => ∃ q : Nat, j = .int .i64 (q : Int) ∧ q ≤ na ∧ Hid (ThI y kb mm wE (([] : List Ev) ++ (la.take q).filter (keepA lb l2)) wr)) (fun _ j _ => na - (intOf j).toNat)
 case atStart => exact ⟨0, rfl, Nat.zero_le _, Lib.hid (⟨none, 0, 0, TE.out, rfl, ⟨rfl, Or.inl ⟨rfl, rfl⟩⟩, ⟨rfl, rfl, rfl, Nat.le_refl _, fun _ _ _ => rfl⟩⟩)⟩
 case round =>
  obtain ⟨q, rfl, hq, HI⟩ := hrel
  obtain ⟨av, an, ac, hTr, hanl, hown, hgr⟩ := HI.out
  have GR1 := Lib.hid hgr
  have TR1 := Lib.hid hTr
  have BR1 : Hid (Below w.heap.size w wr) := Lib.hid (BE.out.grown hgr BE.out.size (fun k hk => by cases hk; exact WY.out.2.2))
  by_cases hlt : q < na
  · have hqi : (q : Int) < (na : Int) := by omega
    have hql : q < la.length := by have := NA.out; omega
    obtain ⟨ba', oa', rfl, cx⟩ := els_get (HLA.out.below BR1.out rfl) q hql
    have SN := Lib.hid (filter_snoc (keepA lb l2) la q hql)
    have OW := Lib.hid hown
    have AN := Lib.hid hanl
    have HAN : an ≤ 200000 := by rw [hanl]; exact keep_len ([] : List Ev) (keepA lb l2) la q 100000 (Nat.zero_le _) (by omega)
    obtain ⟨acc, hacc⟩ : ∃ z, ([] : List Ev) ++ (la.take q).filter (keepA lb l2) = z := ⟨_, rfl⟩
    rw [hacc] at OW AN
    have ACC := Lib.hid hacc
    obtain ⟨x, hx⟩ : ∃ x, la[q] = x := ⟨_, rfl⟩
    rw [hx] at cx SN
    obtain ⟨p0, p1, p2, p3, p4, p5⟩ := cx
    clear hx hTr hanl hown hgr hacc HI
    go_upto_region 8 with (fail)
    clear p0 p1 p2 p3 p4 p5
    obtain ⟨w3, hw3⟩ : ∃ W, wr.alloc (.cells #[.int .i64 x.1.g, .int .i64 x.1.r, .string x.1.l, .int .i64 x.1.n, .int .i64 x.1.i, .string x.2] 33) = W := ⟨_, rfl⟩
    have B3 : Hid (Below wr.heap.size wr w3) := Lib.hid (by rw [← hw3]; exact below_new _ _)
    have hx3 : w3.heap[wr.heap.size]? = some (.cells #[.int .i64 x.1.g, .int .i64 x.1.r, .string x.1.l, .int .i64 x.1.n, .int .i64 x.1.i, .string x.2] 33 (0, 0)) := by rw [← hw3]; exact heap_alloc_new _ _
    rw [hw3]
    obtain ⟨u, hu⟩ : ∃ u, wr.heap.size = u := ⟨_, rfl⟩
    rw [hu] at hx3
    try rw [hu]
    have SU := Lib.hid hu
    have X3 := Lib.hid hx3
    clear hw3 hx3 hu
    have LA := Lib.hid (stMap_look ((M3.out.grown GR1.out (by have := WE.out; omega)).below B3.out) x.1)
    have LB := Lib.hid (stMap_look ((M1.out.grown GR1.out (by have := WE.out; omega)).below B3.out) x.1)
    have VA := Lib.hid (look_pos l2 x.1)
    have VA0 := Lib.hid (look_eq l2 x.1)
    have VB := Lib.hid (look_eq lb x.1)
    obtain ⟨va, hva⟩ : ∃ v, lookG (stampsG l2) x.1 = v := ⟨_, rfl⟩
    obtain ⟨vb, hvb⟩ : ∃ v, lookG (stampsG lb) x.1 = v := ⟨_, rfl⟩
    rw [hva] at LA VA VA0
    rw [hvb] at LB VB
    clear hva hvb
    obtain ⟨bk, hbk⟩ : ∃ b, keepA lb l2 x = b := ⟨_, rfl⟩
    rw [hbk] at SN
    have BK := Lib.hid hbk
    clear hbk
    go_cut [82] (fun uc wx => uc = .bool bk ∧ Hid (Below w3.heap.size w3 wx))
    case first =>
     have la1 := LA.out
     have lb1 := LB.out
     unfold smK at la1 lb1
     have q0 := cell_of_row _ _ 0 _ _ _ X3.out
     have q1 := cell_of_row _ _ 1 _ _ _ X3.out
     have q2 := cell_of_row _ _ 2 _ _ _ X3.out
     have q3 := cell_of_row _ _ 3 _ _ _ X3.out
     have q4 := cell_of_row _ _ 4 _ _ _ X3.out
     by_cases ha : hasG l2 x.1 = true
     · have k1 : 0 < va := of_decide_eq_true (VA.out.trans ha)
       obtain rfl : true = bk := by rw [← BK.out]; unfold keepA; rw [ha]; rfl
       clear ha
       go_wp2_with fail
       go_meet
       exact ⟨rfl, Lib.hid (by first | exact Below.refl _ _ | exact below_drews (Below.refl _ _) _)⟩
     · have ha0 : hasG l2 x.1 = false := by simpa using ha
       have k1 : ¬ 0 < va := of_decide_eq_false (VA.out.trans ha0)
       have k2 : (vb == 0) = bk := by rw [VB.out, ← BK.out]; unfold keepA; rw [ha0]; rfl
       clear ha ha0
       go_wp2_with fail
       go_meet
       exact ⟨rfl, Lib.hid (by first | exact Below.refl _ _ | exact below_drews (Below.refl _ _) _)⟩
    case rest =>
     obtain ⟨rfl, HBD⟩ := hcut
     obtain ⟨w4, rfl⟩ : ∃ X : World, X = wc := ⟨_, rfl⟩
     have B4 : Hid (Below wr.heap.size wr w4) := Lib.hid (B3.out.trans (HBD.out.mono B3.out.size))
     have B5 : Hid (Below wE.heap.size wr w4) := Lib.hid (B4.out.mono GR1.out.size)
     have T4 : Hid (w4.heap[y]? = some (.cells #[.int .i64 kb, .int .i64 mm, .slice av an ac] 49 (0, 0))) := Lib.hid (boxStays TR1.out B4.out)
     have OW4 := Lib.hid (own_later OW.out B4.out (Nat.le_refl _))
     cases bk
     case false =>
      go_wp2_with fail
      go_roundw
      case rel => exact ⟨q + 1, by go_num, by omega, Lib.hid ⟨av, an, ac, T4.out, by rw [SN.out, if_neg (by simp), List.append_nil, ACC.out]; exact AN.out, by rw [SN.out, if_neg (by simp), List.append_nil, ACC.out]; exact OW4.out, grown_bel GR1.out B5.out⟩⟩
      case measure => simp [intOf]; omega
     case true =>
      have X4 := Lib.hid (boxStays X3.out HBD.out)
      have q0 := cell_of_row _ _ 0 _ _ _ X4.out
      have q1 := cell_of_row _ _ 1 _ _ _ X4.out
      have q2 := cell_of_row _ _ 2 _ _ _ X4.out
      have q3 := cell_of_row _ _ 3 _ _ _ X4.out
      have q4 := cell_of_row _ _ 4 _ _ _ X4.out
      have q5 := cell_of_row _ _ 5 _ _ _ X4.out
      have t2 := cell_of_row _ y 2 _ _ _ T4.out
      have SB : Hid (wE.heap.size ≤ w4.heap.size ∧ y < wE.heap.size) := Lib.hid ⟨Nat.le_trans GR1.out.size B4.out.size, by have h1 := WY.out; have h2 := WE.out; omega⟩
      have NY : Hid ((Value.slice av an ac).ownBlock ≠ some y) := Lib.hid (fun e => by have h1 := (OW4.out.lt _ e).1; have h2 := SB.out; omega)
      go_wp2_with (at_builtin; go_must (refine wpList_app rfl _ _ 47 47 rfl wE.heap.size 33 _ 6 64 ET.out (.slice av an ac) an (elsV acc) rfl (OW4.out.alloc _) _ 1 (elV x) rfl ((CellsAt.new w4 33 (0, 0) (elV x)).srcN rfl (fun u hu => elsV_one [x] u (by simpa [elsV] using hu)) Tryd.underlying47 1 (by decide)) (by omega) (by omega) (by have := SB.out; simp; omega) ?_); go_must (intro v10 w10 hown hgr10 hbel hor); go_must (obtain ⟨a10, c10, rfl, _⟩ := own_slice hown); have OW10 := Lib.hid hown; have B10 : Hid (Below wE.heap.size w4 w10) := Lib.hid (((below_new w4 (.cells #[.int .i64 x.1.g, .int .i64 x.1.r, .string x.1.l, .int .i64 x.1.n, .int .i64 x.1.i, .string x.2] 33)).mono SB.out.1).trans hbel); have T10 : Hid (w10.heap[y]? = some (.cells #[.int .i64 kb, .int .i64 mm, .slice av an ac] 49 (0, 0))) := Lib.hid ((B10.out.block y SB.out.2).trans T4.out); have t10 := cell_of_row _ y 2 _ _ _ T10.out; have f10 := frozen_of_row _ y 2 _ _ T10.out; clear hown hgr10 hbel hor q0 q1 q2 q3 q4 q5 t2)
      go_roundw
      case rel =>
       refine ⟨q + 1, by go_num, by omega, Lib.hid ⟨a10, an + 1, c10, ?_, ?_, ?_, ?_⟩⟩
       · have := heap_setCell_same w10 y 2 _ _ (.slice a10 (an + 1) c10) T10.out; simpa using this
       · rw [SN.out, if_pos rfl, ← List.append_assoc, ACC.out, List.length_append, ← AN.out]; rfl
       · rw [SN.out, if_pos rfl, ← List.append_assoc, ACC.out, elsV_append, show elsV [x] = elV x by simp [elsV]]
         exact own_grown OW10.out (grown_set w10 y 2 _) (fun k hk e => by have h1 := (OW10.out.lt k hk).1; have h2 := SB.out; cases e; omega)
       · exact grown_tr (grown_bel (grown_bel GR1.out B5.out) B10.out) (grown_set w10 y 2 _)
      case measure => simp [intOf]; omega
  · obtain rfl : q = na := by omega
    have hqi : ¬ (q : Int) < (q : Int) := by omega
    have TK : Hid ((la.take q) = la) := Lib.hid (List.take_of_length_le (by rw [NA.out]; exact Nat.le_refl _))
    rw [TK.out] at hanl hown
    have OWF := Lib.hid hown
    have ANF := Lib.hid hanl
    have ND : Hid (z + 1 + 1 ≠ y ∧ z + 1 + 1 < wE.heap.size) := Lib.hid (by have h1 := WY.out; have h2 := WE.out; omega)
    have DF := Lib.hid (grow_keep hgr DE.out (fun e => ND.out.1 (Option.some.inj e).symm))
    have d2 := cell_of_row _ (z + 1 + 1) 2 _ _ _ DF.out
    have A1L : Hid ((la.filter (keepA lb l2)).length ≤ 100000) := Lib.hid (by have h1 := List.length_filter_le (keepA lb l2) la; have := NA.out; omega)
    clear hanl hown hgr HI hTr
    obtain ⟨wF, rfl⟩ : ∃ X : World, X = wr := ⟨_, rfl⟩
    go_wp2_with fail
    clear d2
    go_loopw [15, 93] (fun _ j wr => ∃ q : Nat, j = .int .i64 (q : Int) ∧ q ≤ n2 ∧ Hid (ThI y kb mm wE (la.filter (keepA lb l2) ++ (l2.take q).filter (keepB lb la)) wr)) (fun _ j _ => n2 - (intOf j).toNat)
    case atStart => exact ⟨0, rfl, Nat.zero_le _, Lib.hid (⟨av, an, ac, TR1.out, (by simpa using ANF.out), (by simpa using OWF.out), GR1.out⟩)⟩
    case round =>
     obtain ⟨q, rfl, hq, HI⟩ := hrel
     obtain ⟨av, an, ac, hTr, hanl, hown, hgr⟩ := HI.out
     have GR2 := Lib.hid hgr
     have TR2 := Lib.hid hTr
     have BR2 : Hid (Below w.heap.size w wr) := Lib.hid (BE.out.grown hgr BE.out.size (fun k hk => by cases hk; exact WY.out.2.2))
     by_cases hlt : q < n2
     · have hqi : (q : Int) < (n2 : Int) := by omega
       have hql : q < l2.length := by have := N2.out; omega
       obtain ⟨ba', oa', rfl, cx⟩ := els_get (HL2.out.below BR2.out rfl) q hql
       have SN := Lib.hid (filter_snoc (keepB lb la) l2 q hql)
       have OW := Lib.hid hown
       have AN := Lib.hid hanl
       have HAN : an ≤ 200000 := by rw [hanl]; exact keep_len (la.filter (keepA lb l2)) (keepB lb la) l2 q 100000 A1L.out (by omega)
       obtain ⟨acc, hacc⟩ : ∃ z, la.filter (keepA lb l2) ++ (l2.take q).filter (keepB lb la) = z := ⟨_, rfl⟩
       rw [hacc] at OW AN
       have ACC := Lib.hid hacc
       obtain ⟨x, hx⟩ : ∃ x, l2[q] = x := ⟨_, rfl⟩
       rw [hx] at cx SN
       obtain ⟨p0, p1, p2, p3, p4, p5⟩ := cx
       clear hx hTr hanl hown hgr hacc HI
       go_upto_region 14 with (fail)
       clear p0 p1 p2 p3 p4 p5
       obtain ⟨w3, hw3⟩ : ∃ W, wr.alloc (.cells #[.int .i64 x.1.g, .int .i64 x.1.r, .string x.1.l, .int .i64 x.1.n, .int .i64 x.1.i, .string x.2] 33) = W := ⟨_, rfl⟩
       have B3 : Hid (Below wr.heap.size wr w3) := Lib.hid (by rw [← hw3]; exact below_new _ _)
       have hx3 : w3.heap[wr.heap.size]? = some (.cells #[.int .i64 x.1.g, .int .i64 x.1.r, .string x.1.l, .int .i64 x.1.n, .int .i64 x.1.i, .string x.2] 33 (0, 0)) := by rw [← hw3]; exact heap_alloc_new _ _
       rw [hw3]
       obtain ⟨u, hu⟩ : ∃ u, wr.heap.size = u := ⟨_, rfl⟩
       rw [hu] at hx3
       try rw [hu]
       have SU := Lib.hid hu
       have X3 := Lib.hid hx3
       clear hw3 hx3 hu
       have LA := Lib.hid (stMap_look ((M2.out.grown GR2.out (by have := WE.out; omega)).below B3.out) x.1)
       have LB := Lib.hid (stMap_look ((M1.out.grown GR2.out (by have := WE.out; omega)).below B3.out) x.1)
       have VA := Lib.hid (look_pos la x.1)
       have VA0 := Lib.hid (look_eq la x.1)
       have VB := Lib.hid (look_eq lb x.1)
       obtain ⟨va, hva⟩ : ∃ v, lookG (stampsG la) x.1 = v := ⟨_, rfl⟩
       obtain ⟨vb, hvb⟩ : ∃ v, lookG (stampsG lb) x.1 = v := ⟨_, rfl⟩
       rw [hva] at LA VA VA0
       rw [hvb] at LB VB
       clear hva hvb
       obtain ⟨bk, hbk⟩ : ∃ b, keepB lb la x = b := ⟨_, rfl⟩
       rw [hbk] at SN
       have BK := Lib.hid hbk
       clear hbk
       go_cut [108] (fun uc wx => uc = .bool bk ∧ Hid (Below w3.heap.size w3 wx))
       case first =>
        have la1 := LA.out
        have lb1 := LB.out
        unfold smK at la1 lb1
        have q0 := cell_of_row _ _ 0 _ _ _ X3.out
        have q1 := cell_of_row _ _ 1 _ _ _ X3.out
        have q2 := cell_of_row _ _ 2 _ _ _ X3.out
        have q3 := cell_of_row _ _ 3 _ _ _ X3.out
        have q4 := cell_of_row _ _ 4 _ _ _ X3.out
        by_cases ha : hasG la x.1 = true
        · have k1 : (va == 0) = false := by rw [VA0.out, ha]; rfl
          obtain rfl : false = bk := by rw [← BK.out]; unfold keepB; rw [ha]; rfl
          clear ha
          go_wp2_with fail
          go_meet
          exact ⟨rfl, Lib.hid (by first | exact Below.refl _ _ | exact below_drews (Below.refl _ _) _)⟩
        · have ha0 : hasG la x.1 = false := by simpa using ha
          have k1 : (va == 0) = true := by rw [VA0.out, ha0]; rfl
          have k2 : (vb == 0) = bk := by rw [VB.out, ← BK.out]; unfold keepB; rw [ha0]; rfl
          clear ha ha0
          go_wp2_with fail
          go_meet
          exact ⟨rfl, Lib.hid (by first | exact Below.refl _ _ | exact below_drews (Below.refl _ _) _)⟩
       case rest =>
        obtain ⟨rfl, HBD⟩ := hcut
        obtain ⟨w4, rfl⟩ : ∃ X : World, X = wc := ⟨_, rfl⟩
        have B4 : Hid (Below wr.heap.size wr w4) := Lib.hid (B3.out.trans (HBD.out.mono B3.out.size))
        have B5 : Hid (Below wE.heap.size wr w4) := Lib.hid (B4.out.mono GR2.out.size)
        have T4 : Hid (w4.heap[y]? = some (.cells #[.int .i64 kb, .int .i64 mm, .slice av an ac] 49 (0, 0))) := Lib.hid (boxStays TR2.out B4.out)
        have OW4 := Lib.hid (own_later OW.out B4.out (Nat.le_refl _))
        cases bk
        case false =>
         go_wp2_with fail
         go_roundw
         case rel => exact ⟨q + 1, by go_num, by omega, Lib.hid ⟨av, an, ac, T4.out, by rw [SN.out, if_neg (by simp), List.append_nil, ACC.out]; exact AN.out, by rw [SN.out, if_neg (by simp), List.append_nil, ACC.out]; exact OW4.out, grown_bel GR2.out B5.out⟩⟩
         case measure => simp [intOf]; omega
        case true =>
         have X4 := Lib.hid (boxStays X3.out HBD.out)
         have q0 := cell_of_row _ _ 0 _ _ _ X4.out
         have q1 := cell_of_row _ _ 1 _ _ _ X4.out
         have q2 := cell_of_row _ _ 2 _ _ _ X4.out
         have q3 := cell_of_row _ _ 3 _ _ _ X4.out
         have q4 := cell_of_row _ _ 4 _ _ _ X4.out
         have q5 := cell_of_row _ _ 5 _ _ _ X4.out
         have t2 := cell_of_row _ y 2 _ _ _ T4.out
         have SB : Hid (wE.heap.size ≤ w4.heap.size ∧ y < wE.heap.size) := Lib.hid ⟨Nat.le_trans GR2.out.size B4.out.size, by have h1 := WY.out; have h2 := WE.out; omega⟩
         have NY : Hid ((Value.slice av an ac).ownBlock ≠ some y) := Lib.hid (fun e => by have h1 := (OW4.out.lt _ e).1; have h2 := SB.out; omega)
         go_wp2_with (at_builtin; go_must (refine wpList_app rfl _ _ 47 47 rfl wE.heap.size 33 _ 6 64 ET.out (.slice av an ac) an (elsV acc) rfl (OW4.out.alloc _) _ 1 (elV x) rfl ((CellsAt.new w4 33 (0, 0) (elV x)).srcN rfl (fun u hu => elsV_one [x] u (by simpa [elsV] using hu)) Tryd.underlying47 1 (by decide)) (by omega) (by omega) (by have := SB.out; simp; omega) ?_); go_must (intro v10 w10 hown hgr10 hbel hor); go_must (obtain ⟨a10, c10, rfl, _⟩ := own_slice hown); have OW10 := Lib.hid hown; have B10 : Hid (Below wE.heap.size w4 w10) := Lib.hid (((below_new w4 (.cells #[.int .i64 x.1.g, .int .i64 x.1.r, .string x.1.l, .int .i64 x.1.n, .int .i64 x.1.i, .string x.2] 33)).mono SB.out.1).trans hbel); have T10 : Hid (w10.heap[y]? = some (.cells #[.int .i64 kb, .int .i64 mm, .slice av an ac] 49 (0, 0))) := Lib.hid ((B10.out.block y SB.out.2).trans T4.out); have t10 := cell_of_row _ y 2 _ _ _ T10.out; have f10 := frozen_of_row _ y 2 _ _ T10.out; clear hown hgr10 hbel hor q0 q1 q2 q3 q4 q5 t2)
         go_roundw
         case rel =>
          refine ⟨q + 1, by go_num, by omega, Lib.hid ⟨a10, an + 1, c10, ?_, ?_, ?_, ?_⟩⟩
          · have := heap_setCell_same w10 y 2 _ _ (.slice a10 (an + 1) c10) T10.out; simpa using this
          · rw [SN.out, if_pos rfl, ← List.append_assoc, ACC.out, List.length_append, ← AN.out]; rfl
          · rw [SN.out, if_pos rfl, ← List.append_assoc, ACC.out, elsV_append, show elsV [x] = elV x by simp [elsV]]
            exact own_grown OW10.out (grown_set w10 y 2 _) (fun k hk e => by have h1 := (OW10.out.lt k hk).1; have h2 := SB.out; cases e; omega)
          · exact grown_tr (grown_bel (grown_bel GR2.out B5.out) B10.out) (grown_set w10 y 2 _)
         case measure => simp [intOf]; omega
     · obtain rfl : q = n2 := by omega
       have hqi : ¬ (q : Int) < (q : Int) := by omega
       have TK : Hid ((l2.take q) = l2) := Lib.hid (List.take_of_length_le (by rw [N2.out]; exact Nat.le_refl _))
       rw [TK.out] at hanl hown
       have PG : Hid (la.filter (keepA lb l2) ++ l2.filter (keepB lb la) = pickG lb la l2) := Lib.hid rfl
       rw [PG.out] at hanl hown
       have OWG := Lib.hid hown
       have ANG := Lib.hid hanl
       have BG := Lib.hid (Nat.le_trans (by rw [← PG.out, List.length_append]; exact Nat.add_le_add (List.length_filter_le _ _) (List.length_filter_le _ _) : (pickG lb la l2).length ≤ la.length + l2.length) (Nat.le_refl _))
       have RF := Lib.hid (grow_keep hgr RR.out (fun e => by have h1 := WY.out; have := Option.some.inj e; omega))
       clear hanl hown hgr HI hTr
       obtain ⟨wG, rfl⟩ : ∃ X : World, X = wr := ⟨_, rfl⟩
       have t2 := cell_of_row _ y 2 _ _ _ TR2.out
       have SBG : Hid (y < wE.heap.size ∧ w.heap.size ≤ wE.heap.size ∧ z + 1 + 1 + 1 < y) := Lib.hid ⟨by have h1 := WY.out; have h2 := WE.out; omega, BE.out.size, WY.out.1⟩
       go_wp2_with fail
       clear t2
       by_cases h0 : an = 0
       · subst h0
         have hnil : pickG lb la l2 = [] := List.length_eq_zero_iff.1 ANG.out.symm
         have H3 : Hid (threeG lb la l2 = []) := Lib.hid (three_uniq RB.out RA.out R2.out (r := []) (by rw [hnil]) List.Pairwise.nil).symm
         refine (sl_SortNil av ac _ wG).mono ?_
         rintro e w9 ⟨rfl, rfl⟩
         have TY := Lib.hid TR2.out
         have RY := Lib.hid RF.out
         clear hnil
         have t5 := cell_of_row _ y 0 _ _ _ TY.out
         have t6 := cell_of_row _ y 1 _ _ _ TY.out
         have t7 := cell_of_row _ y 2 _ _ _ TY.out
         go_wp2_with (refine wpList_store_row rfl 49 (.tmp 6) (.tmp 119) rfl (z + 1 + 1 + 1) #[.int .i64 kb, .int .i64 mm, (.slice av 0 ac)] rfl rfl 49 _ RY.out (by kernel_rfl) rfl (by simp [Value.oneCell']) ?_)
         have hx := setRow_heap _ _ _ #[.int .i64 kb, .int .i64 mm, (.slice av 0 ac)] _ _ RY.out
         have r0 := cell_of_row _ _ 0 _ _ _ hx
         have r1 := cell_of_row _ _ 1 _ _ _ hx
         have r2 := cell_of_row _ _ 2 _ _ _ hx
         refine bodyPost_ret (v := .tuple #[.agg #[.int .i64 kb, .int .i64 mm, (.slice av 0 ac)], .int .i64 0]) (by simp [results, Tryd.results32, go_sem, r0, r1, r2]) rfl ?_
         rw [HRE.out]
         rw [H3.out]
         obtain ⟨_, _, e9, hk, _⟩ := own_slice OWG.out
         cases e9
         exact ⟨av, 0, ac, rfl, CellsAt.nil _ _, rfl, hk, fun ad had => (by subst had; rcases OWG.out.2 with ⟨h, _⟩ | ⟨g, cap, cur, h, h1, _⟩; cases h; cases h; have := SBG.out; show w.heap.size ≤ g; omega), below_setRow BR2.out WZ.out _⟩
       · obtain ⟨g, c', hv, hg1, hg2, hnk, _⟩ := own_form OWG.out (by omega)
         cases hv
         have hbn : an ≤ 1000000 := by have h1 := BG.out; have h2 := ANG.out; have h3 := NA.out; have h4 := N2.out; omega
         refine (sl_SortEl (pickG lb la l2) g an ac _ _ wG ANG.out hbn OWG.out).mono ?_
         rintro e w9 ⟨rfl, r, hp, hs, hc, hgr9⟩
         have H3 : Hid (r = threeG lb la l2) := Lib.hid (three_uniq RB.out RA.out R2.out hp hs)
         have HL3 : Hid (an = r.length) := Lib.hid (ANG.out.trans hp.length_eq.symm)
         have C9 := Lib.hid hc
         have NG : Hid (g ≠ y ∧ g ≠ z + 1 + 1 + 1 ∧ w.heap.size ≤ g ∧ an ≤ ac) := Lib.hid (by have := SBG.out; omega)
         have TY := Lib.hid (grow_keep hgr9 TR2.out (fun e => NG.out.1 (Option.some.inj e)))
         have RY := Lib.hid (grow_keep hgr9 RF.out (fun e => NG.out.2.1 (Option.some.inj e)))
         have B9 : Hid (Below w.heap.size w w9) := Lib.hid (BR2.out.grown hgr9 BR2.out.size (fun k hk => by cases hk; exact NG.out.2.2.1))
         clear hp hs hc hgr9 hbn hg1 hg2 hnk
         have t5 := cell_of_row _ y 0 _ _ _ TY.out
         have t6 := cell_of_row _ y 1 _ _ _ TY.out
         have t7 := cell_of_row _ y 2 _ _ _ TY.out
         go_wp2_with (refine wpList_store_row rfl 49 (.tmp 6) (.tmp 119) rfl (z + 1 + 1 + 1) #[.int .i64 kb, .int .i64 mm, (.slice (some ⟨g, 0, none⟩) an ac)] rfl rfl 49 _ RY.out (by kernel_rfl) rfl (by simp [Value.oneCell']) ?_)
         have hx := setRow_heap _ _ _ #[.int .i64 kb, .int .i64 mm, (.slice (some ⟨g, 0, none⟩) an ac)] _ _ RY.out
         have r0 := cell_of_row _ _ 0 _ _ _ hx
         have r1 := cell_of_row _ _ 1 _ _ _ hx
         have r2 := cell_of_row _ _ 2 _ _ _ hx
         refine bodyPost_ret (v := .tuple #[.agg #[.int .i64 kb, .int .i64 mm, (.slice (some ⟨g, 0, none⟩) an ac)], .int .i64 0]) (by simp [results, Tryd.results32, go_sem, r0, r1, r2]) rfl ?_
         rw [HRE.out]
         rw [← H3.out]
         exact ⟨some ⟨g, 0, none⟩, an, ac, rfl, cellsAt_setRow C9.out NG.out.2.1, HL3.out, NG.out.2.2.2, fun ad had => (by cases had; exact NG.out.2.2.1), below_setRow B9.out WZ.out _⟩
end Go.Proofs.YtjlliohjeiclaaaDoor
namespace Go.Proofs.YtjlliohjeiclaaaDoor
namespace Kn
open St Pm
def insU (t : ByteArray) : List ByteArray → List ByteArray
 | [] => [t]
 | x :: r => if klt x t = true then x :: insU t r else if x = t then x :: r else t :: x :: r
def setT (l : List ByteArray) : List ByteArray := l.foldl (fun acc t => insU t acc) []
def SrtT (l : List ByteArray) : Prop := l.Pairwise fun a b => klt a b = true
theorem mem_insU (t : ByteArray) : ∀ (l : List ByteArray) (x : ByteArray), x ∈ insU t l ↔ x = t ∨ x ∈ l
 | [], x => by simp [insU]
 | y :: r, x => by
  unfold insU
  split
  · rw [List.mem_cons, mem_insU t r x, List.mem_cons]
    constructor
    · rintro (h | h | h)
      · exact .inr (.inl h)
      · exact .inl h
      · exact .inr (.inr h)
    · rintro (h | h | h)
      · exact .inr (.inl h)
      · exact .inl h
      · exact .inr (.inr h)
  · split
    · rename_i h
      subst h
      rw [List.mem_cons]
      constructor
      · rintro (h | h)
        · exact .inl h
        · exact .inr (.inr h)
      · rintro (h | h | h)
        · exact .inl h
        · exact .inl h
        · exact .inr h
    · simp only [List.mem_cons]
theorem srt_insU (t : ByteArray) : ∀ (l : List ByteArray), SrtT l → SrtT (insU t l)
 | [], _ => by unfold insU; exact List.pairwise_singleton _ _
 | y :: r, h => by
  obtain ⟨h1, h2⟩ := List.pairwise_cons.1 h
  unfold insU
  split
  · rename_i hy
    refine List.pairwise_cons.2 ⟨fun x hx => ?_, srt_insU t r h2⟩
    rcases (mem_insU t r x).1 hx with rfl | hx
    · exact hy
    · exact h1 x hx
  · split
    · exact h
    · rename_i hn he
      have hk : klt t y = true := by
       cases hty : klt t y with
       | true => rfl
       | false => exact absurd (klt_tri (by simpa using hn) hty) he
      refine List.pairwise_cons.2 ⟨fun x hx => ?_, h⟩
      rcases List.mem_cons.1 hx with rfl | hx
      · exact hk
      · exact klt_trans hk (h1 x hx)
theorem setT_go : ∀ (l acc : List ByteArray), SrtT acc → SrtT (l.foldl (fun acc t => insU t acc) acc) ∧ ∀ x, x ∈ l.foldl (fun acc t => insU t acc) acc ↔ x ∈ acc ∨ x ∈ l
 | [], acc, h => ⟨h, fun x => by simp⟩
 | t :: l, acc, h => by
  obtain ⟨h1, h2⟩ := setT_go l (insU t acc) (srt_insU t acc h)
  refine ⟨h1, fun x => (h2 x).trans ?_⟩
  rw [mem_insU, List.mem_cons]
  constructor
  · rintro ((h | h) | h)
    · exact .inr (.inl h)
    · exact .inl h
    · exact .inr (.inr h)
  · rintro (h | h | h)
    · exact .inl (.inr h)
    · exact .inl (.inl h)
    · exact .inr h
theorem setT_srt (l : List ByteArray) : SrtT (setT l) := (setT_go l [] List.Pairwise.nil).1
theorem setT_mem (l : List ByteArray) (x : ByteArray) : x ∈ setT l ↔ x ∈ l := by
 have := (setT_go l [] List.Pairwise.nil).2 x
 unfold setT
 rw [this]
 simp
theorem srtT_ext : ∀ (l m : List ByteArray), SrtT l → SrtT m → (∀ x, x ∈ l ↔ x ∈ m) → l = m
 | [], [], _, _, _ => rfl
 | [], y :: m, _, _, h => by have := (h y).2 List.mem_cons_self; cases this
 | x :: l, [], _, _, h => by have := (h x).1 List.mem_cons_self; cases this
 | x :: l, y :: m, hl, hm, h => by
  obtain ⟨l1, l2⟩ := List.pairwise_cons.1 hl
  obtain ⟨m1, m2⟩ := List.pairwise_cons.1 hm
  have ir : ∀ z, ¬ klt z z = true := fun z hz => by rw [klt_irrefl] at hz; cases hz
  have e : x = y := by
   rcases List.mem_cons.1 ((h x).1 List.mem_cons_self) with e | hx
   · exact e
   · rcases List.mem_cons.1 ((h y).2 List.mem_cons_self) with e | hy
     · exact e.symm
     · exact absurd (klt_trans (l1 _ hy) (m1 _ hx)) (ir _)
  subst e
  congr 1
  refine srtT_ext l m l2 m2 fun z => ⟨fun hz => ?_, fun hz => ?_⟩
  · rcases List.mem_cons.1 ((h z).1 (List.mem_cons_of_mem _ hz)) with rfl | h2
    · exact absurd (l1 _ hz) (ir _)
    · exact h2
  · rcases List.mem_cons.1 ((h z).2 (List.mem_cons_of_mem _ hz)) with rfl | h2
    · exact absurd (m1 _ hz) (ir _)
    · exact h2
def lstB (l : List ByteArray) : List (List UInt8) := l.map fun t => t.data.toList
def byB (l : List (List UInt8)) : List ByteArray := l.map fun t => ⟨t.toArray⟩
theorem compact_mem {α : Type} [Inhabited α] [DecidableEq α] (l : List α) (x : α) : x ∈ Lib.compact l ↔ x ∈ l := by
 unfold Lib.compact Lib.compactUpTo
 rw [List.mem_map]
 constructor
 · rintro ⟨i, hi, rfl⟩
   have h1 := List.mem_range.1 (List.mem_filter.1 hi).1
   rw [getElem!_pos l.toArray i (by simpa using h1)]
   exact List.getElem_mem (l := l) h1
 · intro hx
   obtain ⟨i, hi, rfl⟩ := List.getElem_of_mem hx
   clear hx
   induction i with
   | zero => exact ⟨0, List.mem_filter.2 ⟨List.mem_range.2 hi, by simp [Lib.keeps]⟩, by rw [getElem!_pos l.toArray 0 (by simpa using hi)]; rfl⟩
   | succ i ih =>
    have hi0 : i < l.length := by omega
    by_cases h : l[i + 1] = l[i]
    · obtain ⟨j, h1, h2⟩ := ih hi0
      exact ⟨j, h1, h2.trans h.symm⟩
    · refine ⟨i + 1, List.mem_filter.2 ⟨List.mem_range.2 hi, ?_⟩, by rw [getElem!_pos l.toArray (i + 1) (by simpa using hi)]; rfl⟩
      unfold Lib.keeps
      rw [decide_eq_true_eq]
      refine .inr ?_
      rw [getElem!_pos l.toArray (i + 1) (by simpa using hi), Nat.add_sub_cancel, getElem!_pos l.toArray i (by simpa using hi0)]
      exact h
theorem compact_srt (l : List (List UInt8)) (hl : l.Pairwise fun x y => x ≤ y) : (Lib.compact l).Pairwise fun x y => x < y := by
 unfold Lib.compact Lib.compactUpTo
 rw [List.pairwise_map]
 have hr : (List.range l.length).Pairwise (fun i j => i < j) := List.pairwise_lt_range
 refine List.Pairwise.imp_of_mem ?_ (hr.filter _)
 intro i j hi hj hij
 have h1 := List.mem_range.1 (List.mem_filter.1 hj).1
 have h2 := (List.mem_filter.1 hj).2
 unfold Lib.keeps at h2
 rw [decide_eq_true_eq] at h2
 have hj1 : j - 1 < l.length := by omega
 rw [getElem!_pos l.toArray j (by simpa using h1), getElem!_pos l.toArray (j - 1) (by simpa using hj1)] at h2
 rw [getElem!_pos l.toArray j (by simpa using h1), getElem!_pos l.toArray i (by simp; omega)]
 simp only [List.getElem_toArray] at h2 ⊢
 have h3 : l[j] ≠ l[j - 1] := h2.resolve_left (by omega)
 have hp := List.pairwise_iff_getElem.1 hl
 have h4 : l[j - 1] ≤ l[j] := hp (j - 1) j hj1 h1 (by omega)
 have h5 : l[j - 1] < l[j] := by
  refine Classical.byContradiction fun hn => h3 (List.le_antisymm (List.not_lt.1 hn) h4)
 by_cases hc : i = j - 1
 · simp only [hc]; exact h5
 · have h6 : l[i]'(by omega) ≤ l[j - 1] := hp i (j - 1) (by omega) hj1 (by omega)
   exact List.lt_of_le_of_lt h6 h5
end Kn
open Kn St Pm
theorem show_set (l : List ByteArray) : byB (Lib.compact ((lstB l).mergeSort fun x y => decide (x ≤ y))) = setT l := by
 refine srtT_ext _ _ ?_ (setT_srt l) fun x => ?_
 · unfold SrtT byB
   rw [List.pairwise_map]
   refine (compact_srt _ ?_).imp fun {a b} h => (klt_iff _ _).2 (by simpa using h)
   have h := List.pairwise_mergeSort (le := fun x y : List UInt8 => decide (x ≤ y)) (fun a b c h1 h2 => by simp only [decide_eq_true_eq] at *; exact List.le_trans h1 h2) (fun a b => by simp only [Bool.or_eq_true, decide_eq_true_eq]; exact List.le_total a b) (lstB l)
   exact h.imp fun {a b} hab => by simpa using hab
 · rw [setT_mem]
   unfold byB
   rw [List.mem_map]
   constructor
   · rintro ⟨y, hy, rfl⟩
     rw [compact_mem, List.mem_mergeSort] at hy
     obtain ⟨t, ht, rfl⟩ := List.mem_map.1 hy
     simpa using ht
   · intro hx
     exact ⟨x.data.toList, by rw [compact_mem, List.mem_mergeSort]; exact List.mem_map.2 ⟨x, hx, rfl⟩, by simp⟩
end Go.Proofs.YtjlliohjeiclaaaDoor
namespace Go.Proofs.YtjlliohjeiclaaaDoor
open Go.RowKit Go.Shelf Go.Sort St Pm Kn
def lay190_ren : Go.Shelf.Ren := ⟨fun | 125 => 93 | 128 => 119 | 129 => 120 | 190 => 87 | 258 => 109 | 302 => 138 | 303 => 139 | 304 => 140 | 305 => 141 | 306 => 142 | 307 => 143 | 308 => 144 | 309 => 145 | 310 => 146 | 329 => 148 | 330 => 149 | 333 => 162 | 334 => 163 | 335 => 164 | 336 => 165 | 344 => 174 | n => n, fun | 0 => 0 | 3 => 3 | 4 => 4 | 5 => 5 | 9 => 9 | 31 => 45 | 46 => 147 | 51 => 181 | 53 => 183 | 131 => 178 | 182 => 173 | 183 => 174 | 218 => 210 | 222 => 214 | 228 => 222 | 229 => 223 | n => n, fun n => n⟩
theorem lay190 : Go.Proofs.Lays.n190 Tryd.prog lay190_ren := {
 mixed := by kernel_rfl
 f125 := Tryd.func93.trans (congrArg some (by kernel_rfl))
 f128 := Tryd.func119.trans (congrArg some (by kernel_rfl))
 f129 := Tryd.func120.trans (congrArg some (by kernel_rfl))
 f190 := Tryd.func87.trans (congrArg some (by kernel_rfl))
 f258 := Tryd.func109.trans (congrArg some (by kernel_rfl))
 f302 := Tryd.func138.trans (congrArg some (by kernel_rfl))
 f303 := Tryd.func139.trans (congrArg some (by kernel_rfl))
 f304 := Tryd.func140.trans (congrArg some (by kernel_rfl))
 f305 := Tryd.func141.trans (congrArg some (by kernel_rfl))
 f306 := Tryd.func142.trans (congrArg some (by kernel_rfl))
 f307 := Tryd.func143.trans (congrArg some (by kernel_rfl))
 f308 := Tryd.func144.trans (congrArg some (by kernel_rfl))
 f309 := Tryd.func145.trans (congrArg some (by kernel_rfl))
 f310 := Tryd.func146.trans (congrArg some (by kernel_rfl))
 f329 := Tryd.func148.trans (congrArg some (by kernel_rfl))
 f330 := Tryd.func149.trans (congrArg some (by kernel_rfl))
 f333 := Tryd.func162.trans (congrArg some (by kernel_rfl))
 f334 := Tryd.func163.trans (congrArg some (by kernel_rfl))
 f335 := Tryd.func164.trans (congrArg some (by kernel_rfl))
 f336 := Tryd.func165.trans (congrArg some (by kernel_rfl))
 f344 := Tryd.func174.trans (congrArg some (by kernel_rfl))
 t0 := Tryd.underlying0
 a0 := Tryd.isAgg0
 z0 := Tryd.sizeOf0
 v0 := Tryd.zeroValue0
 t3 := Tryd.underlying3
 a3 := Tryd.isAgg3
 z3 := Tryd.sizeOf3
 v3 := Tryd.zeroValue3
 t4 := Tryd.underlying4
 a4 := Tryd.isAgg4
 z4 := Tryd.sizeOf4
 v4 := Tryd.zeroValue4
 t5 := Tryd.underlying5
 a5 := Tryd.isAgg5
 z5 := Tryd.sizeOf5
 v5 := Tryd.zeroValue5
 t9 := Tryd.underlying9
 a9 := Tryd.isAgg9
 z9 := Tryd.sizeOf9
 v9 := Tryd.zeroValue9
 t31 := Tryd.underlying45
 a31 := Tryd.isAgg45
 z31 := Tryd.sizeOf45
 v31 := Tryd.zeroValue45
 t46 := Tryd.underlying147
 a46 := Tryd.isAgg147
 z46 := Tryd.sizeOf147
 v46 := Tryd.zeroValue147
 t51 := Tryd.underlying181
 a51 := Tryd.isAgg181
 z51 := Tryd.sizeOf181
 v51 := Tryd.zeroValue181
 t53 := Tryd.underlying183
 a53 := Tryd.isAgg183
 z53 := Tryd.sizeOf183
 v53 := Tryd.zeroValue183
 t131 := Tryd.underlying178
 a131 := Tryd.isAgg178
 z131 := Tryd.sizeOf178
 v131 := Tryd.zeroValue178
 t182 := Tryd.underlying173
 a182 := Tryd.isAgg173
 z182 := Tryd.sizeOf173
 v182 := Tryd.zeroValue173
 t183 := Tryd.underlying174
 a183 := Tryd.isAgg174
 z183 := Tryd.sizeOf174
 v183 := Tryd.zeroValue174
 t218 := Tryd.underlying210
 a218 := Tryd.isAgg210
 z218 := Tryd.sizeOf210
 v218 := Tryd.zeroValue210
 t222 := Tryd.underlying214
 a222 := Tryd.isAgg214
 z222 := Tryd.sizeOf214
 v222 := Tryd.zeroValue214
 t228 := Tryd.underlying222
 a228 := Tryd.isAgg222
 z228 := Tryd.sizeOf222
 v228 := Tryd.zeroValue222
 t229 := Tryd.underlying223
 a229 := Tryd.isAgg223
 z229 := Tryd.sizeOf223
 v229 := Tryd.zeroValue223
}
def lay194_ren : Go.Shelf.Ren := ⟨fun | 194 => 88 | n => n, fun | 0 => 0 | 3 => 3 | 4 => 4 | 9 => 9 | 31 => 45 | n => n, fun n => n⟩
theorem lay194 : Go.Proofs.Lays.n194 Tryd.prog lay194_ren := {
 mixed := by kernel_rfl
 f194 := Tryd.func88.trans (congrArg some (by kernel_rfl))
 t0 := Tryd.underlying0
 a0 := Tryd.isAgg0
 z0 := Tryd.sizeOf0
 v0 := Tryd.zeroValue0
 t3 := Tryd.underlying3
 a3 := Tryd.isAgg3
 z3 := Tryd.sizeOf3
 v3 := Tryd.zeroValue3
 t4 := Tryd.underlying4
 a4 := Tryd.isAgg4
 z4 := Tryd.sizeOf4
 v4 := Tryd.zeroValue4
 t9 := Tryd.underlying9
 a9 := Tryd.isAgg9
 z9 := Tryd.sizeOf9
 v9 := Tryd.zeroValue9
 t31 := Tryd.underlying45
 a31 := Tryd.isAgg45
 z31 := Tryd.sizeOf45
 v31 := Tryd.zeroValue45
}
theorem lstB_toArray (l : List ByteArray) (j : Nat) (h : j < l.length) : encStr ((lstB l).toArray[j]!) = .string l[j] := by
 have hl : j < (lstB l).length := by simpa [lstB] using h
 rw [getElem!_pos _ j (by simpa using hl)]
 simp [lstB]
theorem holds_ownT {w : World} {base n g c : Nat} {e : TypeId} {l : List ByteArray} (h : w.ownsRow base e 1 (.slice (some ⟨g, 0, none⟩) n c) n (txV l)) : Holds encStr w g 0 (lstB l).toArray := by
 intro j hj
 have hj2 : j < l.length := by simpa [lstB] using hj
 have hl : j < (txV l).length := by simpa [txV] using hj2
 obtain ⟨h1, h2⟩ := own_cellM h j hl
 rw [Nat.zero_add]
 refine ⟨?_, h2⟩
 rw [h1, lstB_toArray l j hj2]
 simp [txV]
theorem cells_holdsT {w : World} {g : Nat} {zs more : List (List UInt8)} (h : Holds encStr w g 0 (zs ++ more).toArray) : CellsAt w (some ⟨g, 0, none⟩) (txV (byB zs)) := by
 intro j hj
 have hj2 : j < zs.length := by simpa [txV, byB] using hj
 have h1 := (h j (by simp; omega)).1
 refine ⟨g, 0, rfl, ?_⟩
 rw [h1, getElem!_pos _ j (by simp; omega)]
 simp [txV, byB, List.getElem_append_left hj2]
theorem putRow_grown (w : World) (g n : Nat) (d : Array (List UInt8)) (os : Array Obj) : w.grownBy (grow (putRow encStr (Sort.ahead w n) g 0 d) os) (some g) := by
 refine ⟨rfl, rfl, rfl, ?_, fun k hk hne => ?_⟩
 · simp [Sort.grow, putRow, mapBlock]
 · have hne' : g ≠ k := fun e => hne (by rw [e])
   show (((Sort.ahead w n).heap.modify g _) ++ os)[k]? = _
   rw [Array.getElem?_append_left (by simpa using hk), Array.getElem?_modify, if_neg hne']
   rfl
theorem sl_SortTx (l : List ByteArray) (g n c base : Nat) (e0 : TypeId) (w : World) (hn : n = l.length) (hb : n ≤ 1000000) (hown : w.ownsRow base e0 1 (.slice (some ⟨g, 0, none⟩) n c) n (txV l)) :
 Calls Tryd.prog 87 #[.slice (some ⟨g, 0, none⟩) n c] w fun e w' => e = .returned (.tuple #[]) ∧
  Holds encStr w' g 0 ((lstB l).mergeSort fun x y => decide (x ≤ y)).toArray ∧ w.grownBy w' (some g) := by
 have hlen : (lstB l).length = n := by rw [hn]; simp [lstB]
 have hH := holds_ownT hown
 have hblk : g < w.heap.size := (hown.lt _ rfl).2
 have h := Any.slices_Sort_string lay190 g 0 c (lstB l) w hH hblk (by omega)
 rw [hlen] at h
 refine h.mono ?_
 rintro e w' ⟨rfl, m, os, rfl⟩
 refine ⟨rfl, ?_, putRow_grown w g m _ os⟩
 exact holds_grow encStr _ os g 0 _ (by simpa using hblk) (holds_putRow encStr _ g 0 _ _ (holds_ahead encStr w m g 0 _ hH) (by simp))
theorem sl_CompactTx (zs : List (List UInt8)) (g n c : Nat) (w : World) (hn : zs.length = n) (hb : n ≤ 1000000) (hc : n ≤ c) (hH : Holds encStr w g 0 zs.toArray) :
 Calls Tryd.prog 88 #[.slice (some ⟨g, 0, none⟩) n c] w fun e w' => e = .returned (.slice (some ⟨g, 0, none⟩) (byB (Lib.compact zs)).length c) ∧
  CellsAt w' (some ⟨g, 0, none⟩) (txV (byB (Lib.compact zs))) ∧ w.grownBy w' (some g) := by
 subst hn
 have hle : (Lib.compact zs).length ≤ zs.length := by
  unfold Lib.compact Lib.compactUpTo
  rw [List.length_map]
  exact Nat.le_trans (List.length_filter_le _ _) (by simp)
 refine (Any.slices_Compact_string lay194 g 0 c zs w hH (by omega) hc).mono ?_
 rintro e w' ⟨rfl, q, rfl⟩
 refine ⟨by simp [byB], cells_holdsT (holds_putRow encStr _ g 0 _ _ (holds_ahead encStr w q g 0 _ hH) (by simp; omega)), ?_⟩
 have h := putRow_grown w g q (Lib.compact zs ++ List.replicate (zs.length - (Lib.compact zs).length) []).toArray #[]
 rwa [grow_empty] at h
end Go.Proofs.YtjlliohjeiclaaaDoor
namespace Go.Proofs.YtjlliohjeiclaaaDoor
open Go.RowKit St Pm Ku Kn
namespace Kn
def showG (k : Int) (l : List Ev) : List ByteArray := if k = 2 then setT (l.map (·.2)) else l.map (·.2)
def ShowOut (w w' : World) (k m : Int) (l : List Ev) (e : Ending) : Prop :=
 ((valG k m l = false ∧ e = .returned (.tuple #[.int .i64 0, .slice none 0 0, .int .i64 2])) ∨
  (valG k m l = true ∧ ∃ (a : Option Addr) (n c : Nat), e = .returned (.tuple #[.int .i64 m, .slice a n c, .int .i64 0]) ∧ n = (showG k l).length ∧ CellsAt w' a (txV (showG k l)) ∧ ∀ ad, a = some ad → w.heap.size ≤ ad.block)) ∧ Below w.heap.size w w'
end Kn
open Kn
theorem sl_SortTxNil (a : Option Addr) (c : Nat) (w : World) : Calls Tryd.prog 87 #[.slice a 0 c] w fun e w' => e = .returned (.tuple #[]) ∧ w' = w := Any.slices_Sort_string_none lay190 a c w
theorem sl_CompactTxNil (a : Option Addr) (c : Nat) (w : World) : Calls Tryd.prog 88 #[.slice a 0 c] w fun e w' => e = .returned (.slice a 0 c) ∧ w' = w := Any.slices_Compact_string_empty lay194 a c w
theorem own_from {w w0 : World} {base size n : Nat} {e : TypeId} {a : Option Addr} {k c : Nat} {xs : List Value} (h : w.ownsRow base e size (.slice a k c) n xs) (hb : w0.heap.size ≤ base) : ∀ ad, a = some ad → w0.heap.size ≤ ad.block := fun ad had => by
 subst had
 rcases h.2 with ⟨h0, _⟩ | ⟨g, cap, cur, h0, h1, _⟩
 · cases h0
 · cases h0; exact Nat.le_trans hb h1
theorem sxN : ElemT Tryd.prog 45 9 (.string ⟨#[]⟩) 1 16 := ElemT.mk Tryd.underlying45 (by kernel_rfl) (by simp [Value.cells])
set_option maxRecDepth 100000 in
set_option maxHeartbeats 8000000 in
theorem kn_Show (k m : Int) (l : List Ev) (a : Option Addr) (n c : Nat) (w : World) (hl : CellsAt w a (elsV l)) (hn : n = l.length) (hb : n ≤ 100000) (hz : ∀ e ∈ l, e.1.l.size ≤ 9223372036854775807) :
 Calls Tryd.prog 56 #[.agg #[.int .i64 k, .int .i64 m, .slice a n c]] w fun e w' => ShowOut w w' k m l e := by
 have HL := Lib.hid hl
 have HN := Lib.hid hn
 have HZ := Lib.hid hz
 have ST := Lib.hid sxN
 clear hl hn hz
 have HC : Hid (Chain [w] w) := Lib.hid (Chain.one w)
 go_enter Tryd.func56, Tryd.ntmps56
 go_upto_region 1 with (fail)
 obtain ⟨z, hz⟩ : ∃ c, w.heap.size = c := ⟨_, rfl⟩
 try rw [hz]
 obtain ⟨w1, hw1⟩ : ∃ X, allocs w [.cells #[.int .i64 k, .int .i64 m, .slice a n c] 49] = X := ⟨_, rfl⟩
 rw [show w.alloc (.cells #[.int .i64 k, .int .i64 m, .slice a n c] 49) = w1 from hw1]
 have hb : Below w.heap.size w w1 := by rw [← hw1]; exact allocs_below _ _
 have HV : Hid (w1.heap[z]? = some (.cells #[.int .i64 k, .int .i64 m, .slice a n c] 49 (0, 0))) := Lib.hid (by have := allocs_get [.cells #[.int .i64 k, .int .i64 m, .slice a n c] 49] w 0 _ rfl; rw [hw1, hz] at this; exact this)
 have Sz : Hid (w.heap.size = z) := Lib.hid hz
 replace HC := Lib.hid (HC.out.push hb)
 clear hb hw1 hz
 have kV0 := cell_of_row _ _ 0 _ _ _ HV.out
 have kV1 := cell_of_row _ _ 1 _ _ _ HV.out
 have kV2 := cell_of_row _ _ 2 _ _ _ HV.out
 go_wp2_with fail
 refine (kn_Value k m l a n c _ (HL.out.below (HC.out.to w (by simp)) rfl) HN.out (by omega) HZ.out).mono ?_
 rintro e w2 ⟨rfl, hb⟩
 clear kV0 kV1 kV2
 replace HC := Lib.hid (HC.out.push hb)
 clear hb
 obtain ⟨v1, h1⟩ : ∃ b, valG k m l = b := ⟨_, rfl⟩
 rw [h1]
 have H1 := Lib.hid h1
 clear h1
 cases v1
 case false =>
  have kV0 := cell_of_row _ _ 0 _ _ _ (boxStays HV.out (HC.out.to w1 (by simp)))
  have kV1 := cell_of_row _ _ 1 _ _ _ (boxStays HV.out (HC.out.to w1 (by simp)))
  have kV2 := cell_of_row _ _ 2 _ _ _ (boxStays HV.out (HC.out.to w1 (by simp)))
  go_wp2_with fail
  refine bodyPost_ret (v := .tuple #[.int .i64 0, .slice none 0 0, .int .i64 2]) (by simp [results, Tryd.results56, go_sem]) rfl ?_
  exact ⟨.inl ⟨H1.out, rfl⟩, (HC.out.to w (by simp))⟩
 have HV2 := Lib.hid (boxStays HV.out (HC.out.to w1 (by simp)))
 have BW2 := Lib.hid (HC.out.to w (by simp))
 have WZ : Hid (w.heap.size ≤ z ∧ z < w2.heap.size) := Lib.hid ⟨Nat.le_of_eq Sz.out, (Array.getElem?_eq_some_iff.1 HV2.out).1⟩
 have kV0 := cell_of_row _ _ 0 _ _ _ (boxStays HV.out (HC.out.to w1 (by simp)))
 have kV1 := cell_of_row _ _ 1 _ _ _ (boxStays HV.out (HC.out.to w1 (by simp)))
 have kV2 := cell_of_row _ _ 2 _ _ _ (boxStays HV.out (HC.out.to w1 (by simp)))
 go_wp2_with fail
 clear kV0 kV1 kV2
 clear HC HV Sz
 go_loopw [5, 7, 14] (fun v _ j wr => ∃ (q : Nat) (av : Option Addr) (ac : Nat), v = .slice av q ac ∧ j = .int .i64 (q : Int) ∧ q ≤ n ∧ Hid (wr.ownsRow w2.heap.size 9 1 (.slice av q ac) q (txV ((l.take q).map (·.2)))) ∧ Hid (Below w2.heap.size w2 wr)) (fun _ _ j _ => n - (intOf j).toNat)
 case atStart => exact ⟨0, none, 0, rfl, rfl, Nat.zero_le _, Lib.hid ⟨rfl, Or.inl ⟨rfl, rfl⟩⟩, Lib.hid (Below.refl _ _)⟩
 case round =>
  obtain ⟨q, av, ac, rfl, rfl, hq, OW, HB⟩ := hrel
  have BWr : Hid (Below w.heap.size w wr) := Lib.hid (BW2.out.trans (HB.out.mono BW2.out.size))
  by_cases hlt : q < n
  · have hqi : (q : Int) < (n : Int) := by omega
    have hql : q < l.length := by have := HN.out; omega
    obtain ⟨ba', oa', rfl, cx⟩ := els_get (HL.out.below BWr.out rfl) q hql
    have SN : Hid ((l.take (q + 1)).map (·.2) = (l.take q).map (·.2) ++ [(l[q]).2]) := Lib.hid (by rw [← List.take_append_getElem hql, List.map_append]; rfl)
    obtain ⟨x, hx⟩ : ∃ x, l[q] = x := ⟨_, rfl⟩
    rw [hx] at cx SN
    obtain ⟨p0, p1, p2, p3, p4, p5⟩ := cx
    clear hx
    go_upto_region 7 with (fail)
    clear p0 p1 p2 p3 p4 p5
    obtain ⟨w3, hw3⟩ : ∃ W, wr.alloc (.cells #[.int .i64 x.1.g, .int .i64 x.1.r, .string x.1.l, .int .i64 x.1.n, .int .i64 x.1.i, .string x.2] 33) = W := ⟨_, rfl⟩
    have B3 : Hid (Below wr.heap.size wr w3) := Lib.hid (by rw [← hw3]; exact below_new _ _)
    have hx3 : w3.heap[wr.heap.size]? = some (.cells #[.int .i64 x.1.g, .int .i64 x.1.r, .string x.1.l, .int .i64 x.1.n, .int .i64 x.1.i, .string x.2] 33 (0, 0)) := by rw [← hw3]; exact heap_alloc_new _ _
    rw [hw3]
    obtain ⟨u, hu⟩ : ∃ u, wr.heap.size = u := ⟨_, rfl⟩
    rw [hu] at hx3
    try rw [hu]
    have OW3 := Lib.hid (own_later OW.out B3.out (Nat.le_refl _))
    have BB3 := Lib.hid (HB.out.trans (B3.out.mono HB.out.size))
    have q5 := cell_of_row _ u 5 _ _ _ hx3
    clear hw3 hx3 hu
    go_wp2_with (at_builtin; go_must (refine wpList_app rfl _ _ 45 45 rfl w2.heap.size 9 _ 1 16 ST.out (.slice av q ac) q (txV ((l.take q).map (·.2))) rfl (OW3.out.alloc _) _ 1 [.string x.2] rfl ((CellsAt.new w3 9 (0, 0) [.string x.2]).srcN rfl (fun u hu => by simp at hu; subst hu; rfl) Tryd.underlying45 1 (by decide)) (by omega) (by omega) (by have := BB3.out.size; simp; omega) ?_); go_must (intro v10 w10 hown hgr10 hbel hor); go_must (obtain ⟨a10, c10, rfl, _⟩ := own_slice hown); have OW10 := Lib.hid hown; have B10 : Hid (Below w2.heap.size w2 w10) := Lib.hid (BB3.out.trans (((below_new w3 (.cells #[.string x.2] 9)).mono BB3.out.size).trans hbel)); clear hown hgr10 hbel hor q5)
    go_roundw
    case rel => exact ⟨q + 1, a10, c10, rfl, by go_num, by omega, Lib.hid (by rw [SN.out, show txV ((l.take q).map (·.2) ++ [x.2]) = txV ((l.take q).map (·.2)) ++ [.string x.2] by simp [txV]]; exact OW10.out), B10⟩
    case measure => simp [intOf]; omega
  · obtain rfl : q = n := by omega
    have hqi : ¬ (q : Int) < (q : Int) := by omega
    have OWF : Hid (wr.ownsRow w2.heap.size 9 1 (.slice av q ac) q (txV (l.map (·.2)))) := Lib.hid (by have h := OW.out; rwa [List.take_of_length_le (by rw [HN.out]; exact Nat.le_refl _)] at h)
    have HVR := Lib.hid (boxStays HV2.out HB.out)
    have v0 := cell_of_row _ z 0 _ _ _ HVR.out
    have v1 := cell_of_row _ z 1 _ _ _ HVR.out
    by_cases hk : k = 2
    · subst hk
      have SH : Hid (showG 2 l = setT (l.map (·.2))) := Lib.hid (by unfold showG; rw [if_pos rfl])
      go_wp2_with fail
      clear v0 v1
      by_cases h0 : q = 0
      · subst h0
        obtain rfl : l = [] := List.length_eq_zero_iff.1 HN.out.symm
        refine (sl_SortTxNil av ac _).mono ?_
        rintro e w5 ⟨rfl, rfl⟩
        go_wp2_with fail
        refine (sl_CompactTxNil av ac _).mono ?_
        rintro e w6 ⟨rfl, rfl⟩
        have v1 := cell_of_row _ z 1 _ _ _ HVR.out
        go_wp2_with fail
        refine bodyPost_ret (v := .tuple #[.int .i64 m, .slice av 0 ac, .int .i64 0]) (by simp [results, Tryd.results56, go_sem]) rfl ?_
        exact ⟨.inr ⟨H1.out, av, 0, ac, rfl, by rw [SH.out]; rfl, by rw [SH.out]; exact CellsAt.nil _ _, own_from OWF.out BW2.out.size⟩, BWr.out⟩
      · obtain ⟨g, c', hv, hg1, hg2, hnk, _⟩ := own_form OWF.out (by omega)
        cases hv
        have NK : Hid (q ≤ ac ∧ w2.heap.size ≤ g) := Lib.hid ⟨hnk, hg1⟩
        refine (sl_SortTx (l.map (·.2)) g q ac _ _ wr (by rw [List.length_map]; exact HN.out) (by omega) OWF.out).mono ?_
        rintro e w5 ⟨rfl, hH5, hgr5⟩
        have HH5 := Lib.hid hH5
        have GR5 := Lib.hid hgr5
        clear hH5 hgr5 hg1 hg2 hnk
        go_wp2_with fail
        refine (sl_CompactTx _ g q ac w5 (by rw [List.length_mergeSort]; simp [lstB, HN.out]) (by omega) NK.out.1 HH5.out).mono ?_
        rintro e w6 ⟨rfl, hc6, hgr6⟩
        rw [show_set] at hc6 ⊢
        have C6 := Lib.hid hc6
        have GR6 := Lib.hid (grown_tr GR5.out hgr6)
        have NZ : Hid (g ≠ z) := Lib.hid (by have := NK.out; have := WZ.out; omega)
        have HV6 := Lib.hid (grow_keep GR6.out HVR.out (fun e => NZ.out (Option.some.inj e)))
        have B6 : Hid (Below w.heap.size w w6) := Lib.hid (BWr.out.grown GR6.out BWr.out.size (fun k' hk' => by cases hk'; have := NK.out; have := WZ.out; omega))
        clear hc6 hgr6
        have v1 := cell_of_row _ z 1 _ _ _ HV6.out
        go_wp2_with fail
        refine bodyPost_ret (v := .tuple #[.int .i64 m, .slice (some ⟨g, 0, none⟩) (setT (l.map (·.2))).length ac, .int .i64 0]) (by simp [results, Tryd.results56, go_sem]) rfl ?_
        exact ⟨.inr ⟨H1.out, some ⟨g, 0, none⟩, _, ac, rfl, by rw [SH.out], by rw [SH.out]; exact C6.out, own_from OWF.out BW2.out.size⟩, B6.out⟩
    · have hkb : (k == 2) = false := by simp [hk]
      have SH : Hid (showG k l = l.map (·.2)) := Lib.hid (by unfold showG; rw [if_neg hk])
      go_wp2_with fail
      refine bodyPost_ret (v := .tuple #[.int .i64 m, .slice av q ac, .int .i64 0]) (by simp [results, Tryd.results56, go_sem]) rfl ?_
      exact ⟨.inr ⟨H1.out, av, q, ac, rfl, by rw [SH.out, List.length_map]; exact HN.out, by rw [SH.out]; exact CellsAt.ownN OWF.out, own_from OWF.out BW2.out.size⟩, BWr.out⟩
end Go.Proofs.YtjlliohjeiclaaaDoor
