/- Words, contracts and walks that the proof stands on (KnL KnQ KnM RelR RelO RelP). -/
import Derived.Shelf.SlSortCmp.NoneTotal
import Derived.Shelf.SlSortCmp.WholeK
import Derived.Test.YtjlliohjeiclaaaGreatDoorKB2
import Derived.Test.YtjlliohjeiclaaaGreatDoorKB3
import Derived.Test.YtjlliohjeiclaaaGreatDoorKB7
import Derived.Test.YtjlliohjeiclaaaGreatDoorKB8
import Derived.Test.YtjlliohjeiclaaaGreatDoorKB9
namespace Go.Proofs.YtjlliohjeiclaaaGreatDoor
open Go.RowKit Go.Sort St Pm Kn
def layF0_ren : Go.Shelf.Ren := ⟨fun | 6 => 91 | 14 => 129 | 15 => 125 | 20 => 138 | 21 => 169 | 22 => 170 | 23 => 171 | 24 => 172 | 25 => 173 | 26 => 174 | 27 => 175 | 28 => 166 | 29 => 167 | 46 => 195 | 47 => 190 | 48 => 191 | 49 => 196 | 50 => 197 | 57 => 212 | n => n, fun | 0 => 0 | 3 => 3 | 4 => 4 | 5 => 5 | 9 => 9 | 22 => 22 | 24 => 53 | 25 => 120 | 39 => 186 | 45 => 214 | 46 => 215 | 50 => 219 | 53 => 222 | 55 => 224 | 66 => 244 | 70 => 248 | 76 => 266 | 77 => 267 | n => n, fun n => n⟩
theorem layF0 : Go.Proofs.SlLaysF0.n6 Tryz.prog layF0_ren := {
 mixed := by kernel_rfl
 f6 := ⟨"slices.SortFunc[[]estuary/api.Element,estuary/api.Element]", by decide, Tryz.func91.trans (congrArg some (by kernel_rfl))⟩
 f14 := ⟨"slices.pdqsortCmpFunc[estuary/api.Element]", by decide, Tryz.func129.trans (congrArg some (by kernel_rfl))⟩
 f15 := Tryz.func125.trans (congrArg some (by kernel_rfl))
 f20 := ⟨"slices.insertionSortCmpFunc[estuary/api.Element]", by decide, Tryz.func138.trans (congrArg some (by kernel_rfl))⟩
 f21 := ⟨"slices.heapSortCmpFunc[estuary/api.Element]", by decide, Tryz.func169.trans (congrArg some (by kernel_rfl))⟩
 f22 := ⟨"slices.breakPatternsCmpFunc[estuary/api.Element]", by decide, Tryz.func170.trans (congrArg some (by kernel_rfl))⟩
 f23 := ⟨"slices.choosePivotCmpFunc[estuary/api.Element]", by decide, Tryz.func171.trans (congrArg some (by kernel_rfl))⟩
 f24 := ⟨"slices.reverseRangeCmpFunc[estuary/api.Element]", by decide, Tryz.func172.trans (congrArg some (by kernel_rfl))⟩
 f25 := ⟨"slices.partialInsertionSortCmpFunc[estuary/api.Element]", by decide, Tryz.func173.trans (congrArg some (by kernel_rfl))⟩
 f26 := ⟨"slices.partitionEqualCmpFunc[estuary/api.Element]", by decide, Tryz.func174.trans (congrArg some (by kernel_rfl))⟩
 f27 := ⟨"slices.partitionCmpFunc[estuary/api.Element]", by decide, Tryz.func175.trans (congrArg some (by kernel_rfl))⟩
 f28 := Tryz.func166.trans (congrArg some (by kernel_rfl))
 f29 := Tryz.func167.trans (congrArg some (by kernel_rfl))
 f46 := ⟨"slices.siftDownCmpFunc[estuary/api.Element]", by decide, Tryz.func195.trans (congrArg some (by kernel_rfl))⟩
 f47 := Tryz.func190.trans (congrArg some (by kernel_rfl))
 f48 := Tryz.func191.trans (congrArg some (by kernel_rfl))
 f49 := ⟨"slices.medianAdjacentCmpFunc[estuary/api.Element]", by decide, Tryz.func196.trans (congrArg some (by kernel_rfl))⟩
 f50 := ⟨"slices.medianCmpFunc[estuary/api.Element]", by decide, Tryz.func197.trans (congrArg some (by kernel_rfl))⟩
 f57 := ⟨"slices.order2CmpFunc[estuary/api.Element]", by decide, Tryz.func212.trans (congrArg some (by kernel_rfl))⟩
 t0 := Tryz.underlying0
 a0 := Tryz.isAgg0
 z0 := Tryz.sizeOf0
 v0 := Tryz.zeroValue0
 t3 := Tryz.underlying3
 a3 := Tryz.isAgg3
 z3 := Tryz.sizeOf3
 v3 := Tryz.zeroValue3
 t4 := Tryz.underlying4
 a4 := Tryz.isAgg4
 z4 := Tryz.sizeOf4
 v4 := Tryz.zeroValue4
 t5 := Tryz.underlying5
 a5 := Tryz.isAgg5
 z5 := Tryz.sizeOf5
 v5 := Tryz.zeroValue5
 t9 := Tryz.underlying9
 a9 := Tryz.isAgg9
 z9 := Tryz.sizeOf9
 v9 := Tryz.zeroValue9
 t22 := Tryz.underlying22
 a22 := Tryz.isAgg22
 z22 := Tryz.sizeOf22
 v22 := Tryz.zeroValue22
 t25 := Tryz.underlying120
 a25 := Tryz.isAgg120
 z25 := Tryz.sizeOf120
 v25 := Tryz.zeroValue120
 t39 := Tryz.underlying186
 a39 := Tryz.isAgg186
 z39 := Tryz.sizeOf186
 v39 := Tryz.zeroValue186
 t45 := Tryz.underlying214
 a45 := Tryz.isAgg214
 z45 := Tryz.sizeOf214
 v45 := Tryz.zeroValue214
 t46 := Tryz.underlying215
 a46 := Tryz.isAgg215
 z46 := Tryz.sizeOf215
 v46 := Tryz.zeroValue215
 t50 := Tryz.underlying219
 a50 := Tryz.isAgg219
 z50 := Tryz.sizeOf219
 v50 := Tryz.zeroValue219
 t53 := Tryz.underlying222
 a53 := Tryz.isAgg222
 z53 := Tryz.sizeOf222
 v53 := Tryz.zeroValue222
 t55 := Tryz.underlying224
 a55 := Tryz.isAgg224
 z55 := Tryz.sizeOf224
 v55 := Tryz.zeroValue224
 t66 := Tryz.underlying244
 a66 := Tryz.isAgg244
 z66 := Tryz.sizeOf244
 v66 := Tryz.zeroValue244
 t70 := Tryz.underlying248
 a70 := Tryz.isAgg248
 z70 := Tryz.sizeOf248
 v70 := Tryz.zeroValue248
 t76 := Tryz.underlying266
 a76 := Tryz.isAgg266
 z76 := Tryz.sizeOf266
 v76 := Tryz.zeroValue266
 t77 := Tryz.underlying267
 a77 := Tryz.isAgg267
 z77 := Tryz.sizeOf267
 v77 := Tryz.zeroValue267
}
instance : Inhabited Ev := ⟨(⟨0, 0, ⟨#[]⟩, 0, 0⟩, ⟨#[]⟩)⟩
theorem flat_els (d : Array Ev) : flatK elV 6 d = (elsV d.toList).toArray := by
 have hs : (flatK elV 6 d).size = (elsV d.toList).toArray.size := by simp [elsV_length]
 refine ext_get! hs fun t ht => ?_
 rw [size_flatK] at ht
 rw [get_flatK _ _ _ _ ht]
 have h1 : t / 6 < d.toList.length := by rw [Array.length_toList]; omega
 have h2 := elsV_get d.toList (t / 6) (t % 6) h1 (by omega)
 have e : t / 6 * 6 + t % 6 = t := by omega
 rw [e] at h2
 have h3 : d[t / 6]! = d.toList[t / 6] := by rw [getElem!_pos d (t / 6) (by simpa using h1)]; rfl
 have hl : t < (elsV d.toList).length := by rw [elsV_length, Array.length_toList]; exact ht
 have h5 : (elV d.toList[t / 6]).length = 6 := rfl
 rw [h3, getElem!_pos _ (t % 6) (by rw [h5]; omega), getElem!_pos _ t (by simpa using hl)]
 rw [List.getElem?_eq_getElem hl, List.getElem?_eq_getElem (by rw [h5]; omega)] at h2
 exact (Option.some.inj h2).symm
theorem holds_own {w : World} {base n g c : Nat} {e : TypeId} {l : List Ev} (h : w.ownsRow base e 6 (.slice (some ⟨g, 0, none⟩) n c) n (elsV l)) : HoldsK elV 6 w g 0 l.toArray := by
 intro j hj
 rw [flat_els] at hj ⊢
 have hl : j < (elsV l).length := by simpa using hj
 obtain ⟨h1, h2⟩ := own_cellM h j hl
 rw [Nat.zero_add]
 refine ⟨?_, h2⟩
 rw [h1, getElem!_pos _ j (by simpa using hl)]
 rfl
theorem cells_holds {w : World} {g : Nat} {d : Array Ev} (h : HoldsK elV 6 w g 0 d) : CellsAt w (some ⟨g, 0, none⟩) (elsV d.toList) := by
 intro j hj
 have h1 := (h j (by rw [flat_els]; simpa using hj)).1
 refine ⟨g, 0, rfl, ?_⟩
 rw [h1, flat_els, getElem!_pos _ j (by simpa using hj)]
 rfl
theorem sortWorld_grown (w : World) (g n : Nat) (d : Array Ev) (os : Array Obj) : w.grownBy (sortWorldK elV 6 w g 0 n d os) (some g) := by
 refine ⟨rfl, rfl, rfl, ?_, fun k hk hne => ?_⟩
 · simp [sortWorldK, Sort.grow, putRowK, putRow, mapBlock]
 · have hne' : g ≠ k := fun e => hne (by rw [e])
   show (((Sort.ahead w n).heap.modify g _) ++ os)[k]? = _
   rw [Array.getElem?_append_left (by simpa using hk), Array.getElem?_modify, if_neg hne']
   rfl
theorem sl_SortEl (l : List Ev) (g n c base : Nat) (e0 : TypeId) (w : World) (hn : n = l.length) (hb : n ≤ 1000000) (hown : w.ownsRow base e0 6 (.slice (some ⟨g, 0, none⟩) n c) n (elsV l)) :
 Calls Tryz.prog 91 #[.slice (some ⟨g, 0, none⟩) n c, .func (.func 92) #[] #[]] w fun e w' => e = .returned (.tuple #[]) ∧
  ∃ r : List Ev, r.Perm l ∧ (r.Pairwise fun x y => ¬ svC y.1 x.1 < 0) ∧ CellsAt w' (some ⟨g, 0, none⟩) (elsV r) ∧ w.grownBy w' (some g) := by
 subst hn
 have hH := holds_own hown
 have hblk : g < w.heap.size := (hown.lt _ rfl).2
 refine (AnyQ.slices_SortFunc layF0 6 Tryz.isAgg53 Tryz.sizeOf53 elV (fun _ => rfl) (fun x v hv => elsV_one [x] v (by simpa [elsV] using hv)) evC evSWO 92 #[] g 0 c l.toArray w (enters_of Tryz.func92 (by kernel_rfl) rfl) ?_ hH hblk (by simp; omega)).mono ?_
 · intro m os dk _ x y
   refine (kn_Three1 x y _).mono ?_
   rintro e w' ⟨h1, q, os', h2⟩
   exact ⟨h1, q, os', h2⟩
 · rintro e w' ⟨rfl, d', m, os, hp, hs, rfl⟩
   have hsz : d'.size = l.toArray.size := hp.1
   refine ⟨rfl, d'.toList, ?_, ?_, ?_, sortWorld_grown w g m d' os⟩
   · have h := hp.2.2
     rw [Array.extract_eq_self_of_le (Nat.le_refl _)] at h
     rwa [Array.extract_eq_self_of_le (by rw [hsz]; exact Nat.le_refl _)] at h
   · rw [List.pairwise_iff_getElem]
     intro i j hi hj hij
     have hj2 : j < d'.size := by simpa using hj
     have h := hs i j (Nat.zero_le _) hij (by rw [← hsz]; exact hj2)
     rw [getElem!_pos d' j hj2, getElem!_pos d' i (by omega)] at h
     exact of_decide_eq_false h
   · exact cells_holds (SWK.holds ⟨m, os, rfl⟩ hblk hH hsz)
end Go.Proofs.YtjlliohjeiclaaaGreatDoor
namespace Go.Proofs.YtjlliohjeiclaaaGreatDoor
open Go.RowKit Go.Sort St Pm Kn
theorem sl_SortNil (a : Option Addr) (c : Nat) (fv : Value) (w : World) : Calls Tryz.prog 91 #[.slice a 0 c, fv] w fun e w' => e = .returned (.tuple #[]) ∧ w' = w := AnyF.slices_SortFunc_none layF0 a c fv w
end Go.Proofs.YtjlliohjeiclaaaGreatDoor
namespace Go.Proofs.YtjlliohjeiclaaaGreatDoor
open Go.RowKit St Pm Ku Kn
namespace Kn
def threeO (kb mb : Int) (lb : List Ev) (ka ma : Int) (la : List Ev) (k2 m2 : Int) (l2 : List Ev) : Int × Int × List Ev × Int :=
 if valG kb mb lb = false ∨ valG ka ma la = false ∨ valG k2 m2 l2 = false ∨ kb ≠ ka ∨ ka ≠ k2 then (0, 0, [], 2)
 else (ka, IntKind.i64.wrap (IntKind.i64.wrap (ma + m2) - mb), threeG lb la l2, 0)
def keepA (lb l2 : List Ev) (x : Ev) : Bool := hasG l2 x.1 || !hasG lb x.1
def keepB (lb la : List Ev) (x : Ev) : Bool := !hasG la x.1 && !hasG lb x.1
theorem val_right {k m : Int} {l : List Ev} (h : valG k m l = true) : Right l := by
 unfold valG at h
 rw [Bool.and_eq_true] at h
 have h2 := h.2
 split at h2
 · have : l = [] := List.length_eq_zero_iff.1 (of_decide_eq_true h2)
   subst this
   exact ⟨fun x hx => (by cases hx), List.Pairwise.nil⟩
 · rw [Bool.and_eq_true] at h2
   exact right_iff.1 h2.2
theorem filter_snoc {α : Type} (p : α → Bool) (l : List α) (q : Nat) (h : q < l.length) : (l.take (q + 1)).filter p = (l.take q).filter p ++ (if p l[q] = true then [l[q]] else []) := by
 rw [← List.take_append_getElem h, List.filter_append]
 by_cases hp : p l[q] = true
 · rw [if_pos hp]; simp [hp]
 · rw [if_neg hp]; simp [hp]
def ThI (y : Nat) (ka mm : Int) (w7 : World) (acc : List Ev) (W : World) : Prop :=
 ∃ (av : Option Addr) (n c : Nat), W.heap[y]? = some (.cells #[.int .i64 ka, .int .i64 mm, .slice av n c] 79 (0, 0)) ∧ n = acc.length ∧ W.ownsRow w7.heap.size 53 6 (.slice av n c) n (elsV acc) ∧ w7.grownBy W (some y)
theorem grown_bel {A B C : World} {r : Option Nat} (h : A.grownBy B r) (hb : Below A.heap.size B C) : A.grownBy C r :=
 ⟨hb.os.trans h.os, hb.tape.trans h.tape, hb.output.trans h.output, Nat.le_trans h.size hb.size, fun k hk he => (hb.block k hk).trans (h.block k hk he)⟩
theorem keep_len {α : Type} (A0 : List α) (p : α → Bool) (l : List α) (q N : Nat) (h0 : A0.length ≤ N) (hq : q ≤ N) : (A0 ++ (l.take q).filter p).length ≤ N + N := by
 rw [List.length_append]
 have h1 := List.length_filter_le p (l.take q)
 have h2 : (l.take q).length ≤ q := by rw [List.length_take]; exact Nat.min_le_left _ _
 omega
end Kn
open Kn
theorem StMap.grown {W W' : World} {B y : Nat} {ps : List (Sv × Int)} (h : StMap W B ps) (hg : W.grownBy W' (some y)) (hne : B ≠ y) : StMap W' B ps := by
 obtain ⟨es, c, h1, h2⟩ := h
 exact ⟨es, c, (hg.block B (Array.getElem?_eq_some_iff.1 h1).1 (fun e => hne (Option.some.inj e))).trans h1, h2⟩
set_option maxRecDepth 100000 in
set_option maxHeartbeats 8000000 in
theorem kn_Three (kb mb : Int) (lb : List Ev) (ab : Option Addr) (nb cb : Nat) (ka ma : Int) (la : List Ev) (aa : Option Addr) (na ca : Nat) (k2 m2 : Int) (l2 : List Ev) (a2 : Option Addr) (n2 c2 : Nat) (w : World)
 (hb1 : CellsAt w ab (elsV lb)) (ha1 : CellsAt w aa (elsV la)) (h21 : CellsAt w a2 (elsV l2)) (hnb : nb = lb.length) (hna : na = la.length) (hn2 : n2 = l2.length) (bb : nb ≤ 100000) (ba : na ≤ 100000) (b2 : n2 ≤ 100000)
 (zb : ∀ e ∈ lb, e.1.l.size ≤ 9223372036854775807) (za : ∀ e ∈ la, e.1.l.size ≤ 9223372036854775807) (z2 : ∀ e ∈ l2, e.1.l.size ≤ 9223372036854775807) :
 Calls Tryz.prog 45 #[.agg #[.int .i64 kb, .int .i64 mb, .slice ab nb cb], .agg #[.int .i64 ka, .int .i64 ma, .slice aa na ca], .agg #[.int .i64 k2, .int .i64 m2, .slice a2 n2 c2]] w fun e w' => ValOut w w' (threeO kb mb lb ka ma la k2 m2 l2) e := by
 have HLB := Lib.hid hb1
 have HLA := Lib.hid ha1
 have HL2 := Lib.hid h21
 have NB := Lib.hid hnb
 have NA := Lib.hid hna
 have N2 := Lib.hid hn2
 have ZB := Lib.hid zb
 have ZA := Lib.hid za
 have Z2 := Lib.hid z2
 obtain ⟨re, hre⟩ : ∃ r, threeO kb mb lb ka ma la k2 m2 l2 = r := ⟨_, rfl⟩
 rw [hre]
 have RE := Lib.hid hre
 clear hb1 ha1 h21 hnb hna hn2 zb za z2 hre
 have HC : Hid (Chain [w] w) := Lib.hid (Chain.one w)
 go_enter Tryz.func45, Tryz.ntmps45
 go_upto_region 1 with (fail)
 obtain ⟨z, hz⟩ : ∃ c, w.heap.size = c := ⟨_, rfl⟩
 try rw [hz]
 obtain ⟨w1, hw1⟩ : ∃ X, allocs w [.cells #[.int .i64 kb, .int .i64 mb, .slice ab nb cb] 79, .cells #[.int .i64 ka, .int .i64 ma, .slice aa na ca] 79, .cells #[.int .i64 k2, .int .i64 m2, .slice a2 n2 c2] 79, .cells #[.int .i64 0, .int .i64 0, .slice none 0 0] 79] = X := ⟨_, rfl⟩
 rw [show (((w.alloc (.cells #[.int .i64 kb, .int .i64 mb, .slice ab nb cb] 79)).alloc (.cells #[.int .i64 ka, .int .i64 ma, .slice aa na ca] 79)).alloc (.cells #[.int .i64 k2, .int .i64 m2, .slice a2 n2 c2] 79)).alloc (.cells #[.int .i64 0, .int .i64 0, .slice none 0 0] 79) = w1 from hw1]
 have hb : Below w.heap.size w w1 := by rw [← hw1]; exact allocs_below _ _
 have HB : Hid (w1.heap[z]? = some (.cells #[.int .i64 kb, .int .i64 mb, .slice ab nb cb] 79 (0, 0))) := Lib.hid (by have := allocs_get [.cells #[.int .i64 kb, .int .i64 mb, .slice ab nb cb] 79, .cells #[.int .i64 ka, .int .i64 ma, .slice aa na ca] 79, .cells #[.int .i64 k2, .int .i64 m2, .slice a2 n2 c2] 79, .cells #[.int .i64 0, .int .i64 0, .slice none 0 0] 79] w 0 _ rfl; rw [hw1, hz] at this; exact this)
 have HA : Hid (w1.heap[z + 1]? = some (.cells #[.int .i64 ka, .int .i64 ma, .slice aa na ca] 79 (0, 0))) := Lib.hid (by have := allocs_get [.cells #[.int .i64 kb, .int .i64 mb, .slice ab nb cb] 79, .cells #[.int .i64 ka, .int .i64 ma, .slice aa na ca] 79, .cells #[.int .i64 k2, .int .i64 m2, .slice a2 n2 c2] 79, .cells #[.int .i64 0, .int .i64 0, .slice none 0 0] 79] w 1 _ rfl; rw [hw1, hz] at this; exact this)
 have HD : Hid (w1.heap[z + 1 + 1]? = some (.cells #[.int .i64 k2, .int .i64 m2, .slice a2 n2 c2] 79 (0, 0))) := Lib.hid (by have := allocs_get [.cells #[.int .i64 kb, .int .i64 mb, .slice ab nb cb] 79, .cells #[.int .i64 ka, .int .i64 ma, .slice aa na ca] 79, .cells #[.int .i64 k2, .int .i64 m2, .slice a2 n2 c2] 79, .cells #[.int .i64 0, .int .i64 0, .slice none 0 0] 79] w 2 _ rfl; rw [hw1, hz] at this; exact this)
 have HR : Hid (w1.heap[z + 1 + 1 + 1]? = some (.cells #[.int .i64 0, .int .i64 0, .slice none 0 0] 79 (0, 0))) := Lib.hid (by have := allocs_get [.cells #[.int .i64 kb, .int .i64 mb, .slice ab nb cb] 79, .cells #[.int .i64 ka, .int .i64 ma, .slice aa na ca] 79, .cells #[.int .i64 k2, .int .i64 m2, .slice a2 n2 c2] 79, .cells #[.int .i64 0, .int .i64 0, .slice none 0 0] 79] w 3 _ rfl; rw [hw1, hz] at this; exact this)
 have Sz : Hid (w.heap.size = z) := Lib.hid hz
 replace HC := Lib.hid (HC.out.push hb)
 clear hb hw1 hz
 have VZ := Lib.hid vz_one
 have WZ : Hid (w.heap.size ≤ z + 1 + 1 + 1) := Lib.hid (by have := Sz.out; omega)
 have kB0 := cell_of_row _ _ 0 _ _ _ HB.out
 have kB1 := cell_of_row _ _ 1 _ _ _ HB.out
 have kB2 := cell_of_row _ _ 2 _ _ _ HB.out
 go_wp2_with fail
 refine (kn_Value kb mb lb ab nb cb _ (HLB.out.below (HC.out.to w (by simp)) rfl) NB.out (by omega) ZB.out).mono ?_
 rintro e w2 ⟨rfl, hb⟩
 clear kB0 kB1 kB2
 replace HC := Lib.hid (HC.out.push hb)
 clear hb
 obtain ⟨v1, h1⟩ : ∃ b, valG kb mb lb = b := ⟨_, rfl⟩
 rw [h1]
 have H1 := Lib.hid h1
 clear h1
 cases v1
 case false =>
  have hres : re = (0, 0, [], 2) := by rw [← RE.out]; unfold threeO; rw [if_pos (.inl H1.out)]
  have HRX := Lib.hid (boxStays HR.out (HC.out.to w1 (by simp)))
  have kB0 := cell_of_row _ _ 0 _ _ _ (boxStays HB.out (HC.out.to w1 (by simp)))
  have kB1 := cell_of_row _ _ 1 _ _ _ (boxStays HB.out (HC.out.to w1 (by simp)))
  have kB2 := cell_of_row _ _ 2 _ _ _ (boxStays HB.out (HC.out.to w1 (by simp)))
  have kA0 := cell_of_row _ _ 0 _ _ _ (boxStays HA.out (HC.out.to w1 (by simp)))
  have kA1 := cell_of_row _ _ 1 _ _ _ (boxStays HA.out (HC.out.to w1 (by simp)))
  have kA2 := cell_of_row _ _ 2 _ _ _ (boxStays HA.out (HC.out.to w1 (by simp)))
  have kD0 := cell_of_row _ _ 0 _ _ _ (boxStays HD.out (HC.out.to w1 (by simp)))
  have kD1 := cell_of_row _ _ 1 _ _ _ (boxStays HD.out (HC.out.to w1 (by simp)))
  have kD2 := cell_of_row _ _ 2 _ _ _ (boxStays HD.out (HC.out.to w1 (by simp)))
  go_wp2_with (refine wpList_store_row rfl 79 (.tmp 6) (.tmp 43) rfl (z + 1 + 1 + 1) #[.int .i64 0, .int .i64 0, .slice none 0 0] rfl rfl 79 _ HRX.out (by kernel_rfl) rfl VZ.out ?_)
  clear kB0 kB1 kB2 kA0 kA1 kA2 kD0 kD1 kD2
  have hx := setRow_heap _ _ _ #[.int .i64 0, .int .i64 0, .slice none 0 0] _ _ HRX.out
  have r0 := cell_of_row _ _ 0 _ _ _ hx
  have r1 := cell_of_row _ _ 1 _ _ _ hx
  have r2 := cell_of_row _ _ 2 _ _ _ hx
  refine bodyPost_ret (v := .tuple #[.agg #[.int .i64 0, .int .i64 0, .slice none 0 0], .int .i64 2]) (by simp [results, Tryz.results45, go_sem, r0, r1, r2]) rfl ?_
  rw [hres]
  exact ⟨none, 0, 0, rfl, CellsAt.nil _ _, rfl, Nat.le_refl _, fun ad had => (by cases had), below_setRow (HC.out.to w (by simp)) WZ.out _⟩
 have kA0 := cell_of_row _ _ 0 _ _ _ (boxStays HA.out (HC.out.to w1 (by simp)))
 have kA1 := cell_of_row _ _ 1 _ _ _ (boxStays HA.out (HC.out.to w1 (by simp)))
 have kA2 := cell_of_row _ _ 2 _ _ _ (boxStays HA.out (HC.out.to w1 (by simp)))
 go_wp2_with fail
 refine (kn_Value ka ma la aa na ca _ (HLA.out.below (HC.out.to w (by simp)) rfl) NA.out (by omega) ZA.out).mono ?_
 rintro e w3 ⟨rfl, hb⟩
 clear kA0 kA1 kA2
 replace HC := Lib.hid (HC.out.push hb)
 clear hb
 obtain ⟨v2, h2⟩ : ∃ b, valG ka ma la = b := ⟨_, rfl⟩
 rw [h2]
 have H2 := Lib.hid h2
 clear h2
 cases v2
 case false =>
  have hres : re = (0, 0, [], 2) := by rw [← RE.out]; unfold threeO; rw [if_pos (.inr (.inl H2.out))]
  have HRX := Lib.hid (boxStays HR.out (HC.out.to w1 (by simp)))
  have kB0 := cell_of_row _ _ 0 _ _ _ (boxStays HB.out (HC.out.to w1 (by simp)))
  have kB1 := cell_of_row _ _ 1 _ _ _ (boxStays HB.out (HC.out.to w1 (by simp)))
  have kB2 := cell_of_row _ _ 2 _ _ _ (boxStays HB.out (HC.out.to w1 (by simp)))
  have kA0 := cell_of_row _ _ 0 _ _ _ (boxStays HA.out (HC.out.to w1 (by simp)))
  have kA1 := cell_of_row _ _ 1 _ _ _ (boxStays HA.out (HC.out.to w1 (by simp)))
  have kA2 := cell_of_row _ _ 2 _ _ _ (boxStays HA.out (HC.out.to w1 (by simp)))
  have kD0 := cell_of_row _ _ 0 _ _ _ (boxStays HD.out (HC.out.to w1 (by simp)))
  have kD1 := cell_of_row _ _ 1 _ _ _ (boxStays HD.out (HC.out.to w1 (by simp)))
  have kD2 := cell_of_row _ _ 2 _ _ _ (boxStays HD.out (HC.out.to w1 (by simp)))
  go_wp2_with (refine wpList_store_row rfl 79 (.tmp 6) (.tmp 43) rfl (z + 1 + 1 + 1) #[.int .i64 0, .int .i64 0, .slice none 0 0] rfl rfl 79 _ HRX.out (by kernel_rfl) rfl VZ.out ?_)
  clear kB0 kB1 kB2 kA0 kA1 kA2 kD0 kD1 kD2
  have hx := setRow_heap _ _ _ #[.int .i64 0, .int .i64 0, .slice none 0 0] _ _ HRX.out
  have r0 := cell_of_row _ _ 0 _ _ _ hx
  have r1 := cell_of_row _ _ 1 _ _ _ hx
  have r2 := cell_of_row _ _ 2 _ _ _ hx
  refine bodyPost_ret (v := .tuple #[.agg #[.int .i64 0, .int .i64 0, .slice none 0 0], .int .i64 2]) (by simp [results, Tryz.results45, go_sem, r0, r1, r2]) rfl ?_
  rw [hres]
  exact ⟨none, 0, 0, rfl, CellsAt.nil _ _, rfl, Nat.le_refl _, fun ad had => (by cases had), below_setRow (HC.out.to w (by simp)) WZ.out _⟩
 have kD0 := cell_of_row _ _ 0 _ _ _ (boxStays HD.out (HC.out.to w1 (by simp)))
 have kD1 := cell_of_row _ _ 1 _ _ _ (boxStays HD.out (HC.out.to w1 (by simp)))
 have kD2 := cell_of_row _ _ 2 _ _ _ (boxStays HD.out (HC.out.to w1 (by simp)))
 go_wp2_with fail
 refine (kn_Value k2 m2 l2 a2 n2 c2 _ (HL2.out.below (HC.out.to w (by simp)) rfl) N2.out (by omega) Z2.out).mono ?_
 rintro e w4 ⟨rfl, hb⟩
 clear kD0 kD1 kD2
 replace HC := Lib.hid (HC.out.push hb)
 clear hb
 obtain ⟨v3, h3⟩ : ∃ b, valG k2 m2 l2 = b := ⟨_, rfl⟩
 rw [h3]
 have H3 := Lib.hid h3
 clear h3
 cases v3
 case false =>
  have hres : re = (0, 0, [], 2) := by rw [← RE.out]; unfold threeO; rw [if_pos (.inr (.inr (.inl H3.out)))]
  have HRX := Lib.hid (boxStays HR.out (HC.out.to w1 (by simp)))
  have kB0 := cell_of_row _ _ 0 _ _ _ (boxStays HB.out (HC.out.to w1 (by simp)))
  have kB1 := cell_of_row _ _ 1 _ _ _ (boxStays HB.out (HC.out.to w1 (by simp)))
  have kB2 := cell_of_row _ _ 2 _ _ _ (boxStays HB.out (HC.out.to w1 (by simp)))
  have kA0 := cell_of_row _ _ 0 _ _ _ (boxStays HA.out (HC.out.to w1 (by simp)))
  have kA1 := cell_of_row _ _ 1 _ _ _ (boxStays HA.out (HC.out.to w1 (by simp)))
  have kA2 := cell_of_row _ _ 2 _ _ _ (boxStays HA.out (HC.out.to w1 (by simp)))
  have kD0 := cell_of_row _ _ 0 _ _ _ (boxStays HD.out (HC.out.to w1 (by simp)))
  have kD1 := cell_of_row _ _ 1 _ _ _ (boxStays HD.out (HC.out.to w1 (by simp)))
  have kD2 := cell_of_row _ _ 2 _ _ _ (boxStays HD.out (HC.out.to w1 (by simp)))
  go_wp2_with (refine wpList_store_row rfl 79 (.tmp 6) (.tmp 43) rfl (z + 1 + 1 + 1) #[.int .i64 0, .int .i64 0, .slice none 0 0] rfl rfl 79 _ HRX.out (by kernel_rfl) rfl VZ.out ?_)
  clear kB0 kB1 kB2 kA0 kA1 kA2 kD0 kD1 kD2
  have hx := setRow_heap _ _ _ #[.int .i64 0, .int .i64 0, .slice none 0 0] _ _ HRX.out
  have r0 := cell_of_row _ _ 0 _ _ _ hx
  have r1 := cell_of_row _ _ 1 _ _ _ hx
  have r2 := cell_of_row _ _ 2 _ _ _ hx
  refine bodyPost_ret (v := .tuple #[.agg #[.int .i64 0, .int .i64 0, .slice none 0 0], .int .i64 2]) (by simp [results, Tryz.results45, go_sem, r0, r1, r2]) rfl ?_
  rw [hres]
  exact ⟨none, 0, 0, rfl, CellsAt.nil _ _, rfl, Nat.le_refl _, fun ad had => (by cases had), below_setRow (HC.out.to w (by simp)) WZ.out _⟩
 by_cases h4 : kb = ka
 case neg =>
  have hres : re = (0, 0, [], 2) := by rw [← RE.out]; unfold threeO; rw [if_pos (.inr (.inr (.inr (.inl h4))))]
  have h4b : (kb != ka) = true := by simp [h4]
  have HRX := Lib.hid (boxStays HR.out (HC.out.to w1 (by simp)))
  have kB0 := cell_of_row _ _ 0 _ _ _ (boxStays HB.out (HC.out.to w1 (by simp)))
  have kB1 := cell_of_row _ _ 1 _ _ _ (boxStays HB.out (HC.out.to w1 (by simp)))
  have kB2 := cell_of_row _ _ 2 _ _ _ (boxStays HB.out (HC.out.to w1 (by simp)))
  have kA0 := cell_of_row _ _ 0 _ _ _ (boxStays HA.out (HC.out.to w1 (by simp)))
  have kA1 := cell_of_row _ _ 1 _ _ _ (boxStays HA.out (HC.out.to w1 (by simp)))
  have kA2 := cell_of_row _ _ 2 _ _ _ (boxStays HA.out (HC.out.to w1 (by simp)))
  have kD0 := cell_of_row _ _ 0 _ _ _ (boxStays HD.out (HC.out.to w1 (by simp)))
  have kD1 := cell_of_row _ _ 1 _ _ _ (boxStays HD.out (HC.out.to w1 (by simp)))
  have kD2 := cell_of_row _ _ 2 _ _ _ (boxStays HD.out (HC.out.to w1 (by simp)))
  go_wp2_with (refine wpList_store_row rfl 79 (.tmp 6) (.tmp 43) rfl (z + 1 + 1 + 1) #[.int .i64 0, .int .i64 0, .slice none 0 0] rfl rfl 79 _ HRX.out (by kernel_rfl) rfl VZ.out ?_)
  clear kB0 kB1 kB2 kA0 kA1 kA2 kD0 kD1 kD2
  have hx := setRow_heap _ _ _ #[.int .i64 0, .int .i64 0, .slice none 0 0] _ _ HRX.out
  have r0 := cell_of_row _ _ 0 _ _ _ hx
  have r1 := cell_of_row _ _ 1 _ _ _ hx
  have r2 := cell_of_row _ _ 2 _ _ _ hx
  refine bodyPost_ret (v := .tuple #[.agg #[.int .i64 0, .int .i64 0, .slice none 0 0], .int .i64 2]) (by simp [results, Tryz.results45, go_sem, r0, r1, r2]) rfl ?_
  rw [hres]
  exact ⟨none, 0, 0, rfl, CellsAt.nil _ _, rfl, Nat.le_refl _, fun ad had => (by cases had), below_setRow (HC.out.to w (by simp)) WZ.out _⟩
 subst h4
 by_cases h5 : kb = k2
 case neg =>
  have hres : re = (0, 0, [], 2) := by rw [← RE.out]; unfold threeO; rw [if_pos (.inr (.inr (.inr (.inr h5))))]
  have h5b : (kb != k2) = true := by simp [h5]
  have HRX := Lib.hid (boxStays HR.out (HC.out.to w1 (by simp)))
  have kB0 := cell_of_row _ _ 0 _ _ _ (boxStays HB.out (HC.out.to w1 (by simp)))
  have kB1 := cell_of_row _ _ 1 _ _ _ (boxStays HB.out (HC.out.to w1 (by simp)))
  have kB2 := cell_of_row _ _ 2 _ _ _ (boxStays HB.out (HC.out.to w1 (by simp)))
  have kA0 := cell_of_row _ _ 0 _ _ _ (boxStays HA.out (HC.out.to w1 (by simp)))
  have kA1 := cell_of_row _ _ 1 _ _ _ (boxStays HA.out (HC.out.to w1 (by simp)))
  have kA2 := cell_of_row _ _ 2 _ _ _ (boxStays HA.out (HC.out.to w1 (by simp)))
  have kD0 := cell_of_row _ _ 0 _ _ _ (boxStays HD.out (HC.out.to w1 (by simp)))
  have kD1 := cell_of_row _ _ 1 _ _ _ (boxStays HD.out (HC.out.to w1 (by simp)))
  have kD2 := cell_of_row _ _ 2 _ _ _ (boxStays HD.out (HC.out.to w1 (by simp)))
  go_wp2_with (refine wpList_store_row rfl 79 (.tmp 6) (.tmp 43) rfl (z + 1 + 1 + 1) #[.int .i64 0, .int .i64 0, .slice none 0 0] rfl rfl 79 _ HRX.out (by kernel_rfl) rfl VZ.out ?_)
  clear kB0 kB1 kB2 kA0 kA1 kA2 kD0 kD1 kD2
  have hx := setRow_heap _ _ _ #[.int .i64 0, .int .i64 0, .slice none 0 0] _ _ HRX.out
  have r0 := cell_of_row _ _ 0 _ _ _ hx
  have r1 := cell_of_row _ _ 1 _ _ _ hx
  have r2 := cell_of_row _ _ 2 _ _ _ hx
  refine bodyPost_ret (v := .tuple #[.agg #[.int .i64 0, .int .i64 0, .slice none 0 0], .int .i64 2]) (by simp [results, Tryz.results45, go_sem, r0, r1, r2]) rfl ?_
  rw [hres]
  exact ⟨none, 0, 0, rfl, CellsAt.nil _ _, rfl, Nat.le_refl _, fun ad had => (by cases had), below_setRow (HC.out.to w (by simp)) WZ.out _⟩
 subst h5
 have HRE : Hid (re = (kb, IntKind.i64.wrap (IntKind.i64.wrap (ma + m2) - mb), threeG lb la l2, 0)) := Lib.hid (by rw [← RE.out]; unfold threeO; rw [if_neg (by rw [H1.out, H2.out, H3.out]; simp)])
 have RB := Lib.hid (val_right H1.out)
 have RA := Lib.hid (val_right H2.out)
 have R2 := Lib.hid (val_right H3.out)
 obtain ⟨m1, hm1⟩ : ∃ q, IntKind.i64.wrap (ma + m2) = q := ⟨_, rfl⟩
 rw [hm1] at HRE
 obtain ⟨mm, hmm⟩ : ∃ q, IntKind.i64.wrap (m1 - mb) = q := ⟨_, rfl⟩
 rw [hmm] at HRE
 clear RE H1 H2 H3
 have kB0 := cell_of_row _ _ 0 _ _ _ (boxStays HB.out (HC.out.to w1 (by simp)))
 have kB1 := cell_of_row _ _ 1 _ _ _ (boxStays HB.out (HC.out.to w1 (by simp)))
 have kB2 := cell_of_row _ _ 2 _ _ _ (boxStays HB.out (HC.out.to w1 (by simp)))
 have kA0 := cell_of_row _ _ 0 _ _ _ (boxStays HA.out (HC.out.to w1 (by simp)))
 have kA1 := cell_of_row _ _ 1 _ _ _ (boxStays HA.out (HC.out.to w1 (by simp)))
 have kA2 := cell_of_row _ _ 2 _ _ _ (boxStays HA.out (HC.out.to w1 (by simp)))
 have kD0 := cell_of_row _ _ 0 _ _ _ (boxStays HD.out (HC.out.to w1 (by simp)))
 have kD1 := cell_of_row _ _ 1 _ _ _ (boxStays HD.out (HC.out.to w1 (by simp)))
 have kD2 := cell_of_row _ _ 2 _ _ _ (boxStays HD.out (HC.out.to w1 (by simp)))
 go_upto_region 4 with (fail)
 clear kB0 kB1 kB2 kA0 kA1 kA2 kD0 kD1 kD2
 clear hmm hm1
 have LZ4 : Hid (z + 1 + 1 + 1 < w4.heap.size ∧ w.heap.size ≤ w4.heap.size) := Lib.hid ⟨(Array.getElem?_eq_some_iff.1 (boxStays HR.out (HC.out.to w1 (by simp)))).1, (HC.out.to w (by simp)).size⟩
 obtain ⟨y, hy⟩ : ∃ c, w4.heap.size = c := ⟨_, rfl⟩
 try rw [hy]
 obtain ⟨w6, hw6⟩ : ∃ X, allocs w4 [.cells #[.int .i64 kb, .int .i64 mm, .slice none 0 0] 79] = X := ⟨_, rfl⟩
 rw [show w4.alloc (.cells #[.int .i64 kb, .int .i64 mm, .slice none 0 0] 79) = w6 from hw6]
 have hb : Below w4.heap.size w4 w6 := by rw [← hw6]; exact allocs_below _ _
 have HT : Hid (w6.heap[y]? = some (.cells #[.int .i64 kb, .int .i64 mm, .slice none 0 0] 79 (0, 0))) := Lib.hid (by have := allocs_get [.cells #[.int .i64 kb, .int .i64 mm, .slice none 0 0] 79] w4 0 _ rfl; rw [hw6, hy] at this; exact this)
 have Sy : Hid (w4.heap.size = y) := Lib.hid hy
 replace HC := Lib.hid (HC.out.push hb)
 clear hb hw6 hy
 have WY : Hid (z + 1 + 1 + 1 < y ∧ y < w6.heap.size ∧ w.heap.size ≤ y) := Lib.hid (by have h1 := (Array.getElem?_eq_some_iff.1 HT.out).1; have h2 := Sy.out; have h3 := LZ4.out; omega)
 have HB6 := Lib.hid (boxStays HB.out (HC.out.to w1 (by simp)))
 have HA6 := Lib.hid (boxStays HA.out (HC.out.to w1 (by simp)))
 have HD6 := Lib.hid (boxStays HD.out (HC.out.to w1 (by simp)))
 have HLB6 := Lib.hid (HLB.out.below (HC.out.to w (by simp)) rfl)
 have HLA6 := Lib.hid (HLA.out.below (HC.out.to w (by simp)) rfl)
 have HL26 := Lib.hid (HL2.out.below (HC.out.to w (by simp)) rfl)
 refine relG_start (slots := [55, 56, 57, 58, 59, 60, 61, 62, 63, 9, 10, 11]) (so := []) (by kernel_rfl) (by kernel_rfl) (by rfl) ?_
 refine relG_pure (i := 0) (o := ⟨some 55, _, _, _, _, _⟩) (v := ?v1) [] [3] rfl rfl (by kernel_rfl) (by kernel_rfl) (fun t w1 hB hf hbf => ?y1) ?n1
 case y1 =>
  simp only [BasF] at hbf
  clear hf
  obtain ⟨⟨b3, k3⟩, _⟩ := hbf
  have xb := boxStays HB6.out hB
  have xa := boxStays HA6.out hB
  have xd := boxStays HD6.out hB
  have qb := cell_of_row _ z 2 _ _ _ xb
  have qa := cell_of_row _ (z + 1) 2 _ _ _ xa
  have qd := cell_of_row _ (z + 1 + 1) 2 _ _ _ xd
  clear xb xa xd
  refine Or.inl ⟨wanted_none rfl, ?_⟩
  rintro _ rfl
  go_simp <;> with_reducible rfl
 refine relG_pure (i := 1) (o := ⟨some 56, _, _, _, _, _⟩) (v := ?v2) [(0, 55, 0)] [] rfl rfl (by kernel_rfl) (by kernel_rfl) (fun t w1 hB hf hbf => ?y2) ?n2
 case y2 =>
  simp only [DepF, List.getD_cons_zero] at hf
  obtain ⟨⟨_, ⟨e55, i55⟩, rfl⟩, _⟩ := hf
  clear hbf
  have xb := boxStays HB6.out hB
  have xa := boxStays HA6.out hB
  have xd := boxStays HD6.out hB
  have qb := cell_of_row _ z 2 _ _ _ xb
  have qa := cell_of_row _ (z + 1) 2 _ _ _ xa
  have qd := cell_of_row _ (z + 1 + 1) 2 _ _ _ xd
  clear xb xa xd
  refine Or.inl ⟨wanted_none rfl, ?_⟩
  rintro _ rfl
  go_simp <;> with_reducible rfl
 refine relG_call (i := 2) (o := ⟨some 57, _, _, _, _, _⟩) ((fun v w' => ∃ B, v = .map (some B) ∧ w6.heap.size ≤ B ∧ StMap w' B (stampsG lb))) [(1, 56, 0)] [] rfl rfl (by kernel_rfl) (by kernel_rfl) ((fun v w' w'' h hb => by obtain ⟨B, e1, e2, e3⟩ := h; exact ⟨B, e1, e2, e3.below hb⟩)) ?_ ?_
 · intro t w1 hB hf hbf K hK
   simp only [DepF, List.getD_cons_zero] at hf
   obtain ⟨⟨_, ⟨e56, i56⟩, rfl⟩, _⟩ := hf
   clear hbf
   have xb := boxStays HB6.out hB
   have xa := boxStays HA6.out hB
   have xd := boxStays HD6.out hB
   have qb := cell_of_row _ z 2 _ _ _ xb
   have qa := cell_of_row _ (z + 1) 2 _ _ _ xa
   have qd := cell_of_row _ (z + 1 + 1) 2 _ _ _ xd
   clear xb xa xd
   refine ⟨wanted_none rfl, ?_⟩
   go_simp
   refine (kn_stamps lb ab nb cb w1 (HLB6.out.below hB rfl) NB.out (by omega) RB.out.2.nodup).mono ?_
   rintro e w2 ⟨B, rfl, e2, e3, hb⟩
   exact hK.out _ w2 (⟨B, rfl, Nat.le_trans hB.size e2, e3⟩) hb
 refine relG_pure (i := 3) (o := ⟨some 58, _, _, _, _, _⟩) (v := ?v3) [] [4] rfl rfl (by kernel_rfl) (by kernel_rfl) (fun t w1 hB hf hbf => ?y3) ?n3
 case y3 =>
  simp only [BasF] at hbf
  clear hf
  obtain ⟨⟨b4, k4⟩, _⟩ := hbf
  have xb := boxStays HB6.out hB
  have xa := boxStays HA6.out hB
  have xd := boxStays HD6.out hB
  have qb := cell_of_row _ z 2 _ _ _ xb
  have qa := cell_of_row _ (z + 1) 2 _ _ _ xa
  have qd := cell_of_row _ (z + 1 + 1) 2 _ _ _ xd
  clear xb xa xd
  refine Or.inl ⟨wanted_none rfl, ?_⟩
  rintro _ rfl
  go_simp <;> with_reducible rfl
 refine relG_pure (i := 4) (o := ⟨some 59, _, _, _, _, _⟩) (v := ?v4) [(3, 58, 0)] [] rfl rfl (by kernel_rfl) (by kernel_rfl) (fun t w1 hB hf hbf => ?y4) ?n4
 case y4 =>
  simp only [DepF, List.getD_cons_zero] at hf
  obtain ⟨⟨_, ⟨e58, i58⟩, rfl⟩, _⟩ := hf
  clear hbf
  have xb := boxStays HB6.out hB
  have xa := boxStays HA6.out hB
  have xd := boxStays HD6.out hB
  have qb := cell_of_row _ z 2 _ _ _ xb
  have qa := cell_of_row _ (z + 1) 2 _ _ _ xa
  have qd := cell_of_row _ (z + 1 + 1) 2 _ _ _ xd
  clear xb xa xd
  refine Or.inl ⟨wanted_none rfl, ?_⟩
  rintro _ rfl
  go_simp <;> with_reducible rfl
 refine relG_call (i := 5) (o := ⟨some 60, _, _, _, _, _⟩) ((fun v w' => ∃ B, v = .map (some B) ∧ w6.heap.size ≤ B ∧ StMap w' B (stampsG la))) [(4, 59, 0)] [] rfl rfl (by kernel_rfl) (by kernel_rfl) ((fun v w' w'' h hb => by obtain ⟨B, e1, e2, e3⟩ := h; exact ⟨B, e1, e2, e3.below hb⟩)) ?_ ?_
 · intro t w1 hB hf hbf K hK
   simp only [DepF, List.getD_cons_zero] at hf
   obtain ⟨⟨_, ⟨e59, i59⟩, rfl⟩, _⟩ := hf
   clear hbf
   have xb := boxStays HB6.out hB
   have xa := boxStays HA6.out hB
   have xd := boxStays HD6.out hB
   have qb := cell_of_row _ z 2 _ _ _ xb
   have qa := cell_of_row _ (z + 1) 2 _ _ _ xa
   have qd := cell_of_row _ (z + 1 + 1) 2 _ _ _ xd
   clear xb xa xd
   refine ⟨wanted_none rfl, ?_⟩
   go_simp
   refine (kn_stamps la aa na ca w1 (HLA6.out.below hB rfl) NA.out (by omega) RA.out.2.nodup).mono ?_
   rintro e w2 ⟨B, rfl, e2, e3, hb⟩
   exact hK.out _ w2 (⟨B, rfl, Nat.le_trans hB.size e2, e3⟩) hb
 refine relG_pure (i := 6) (o := ⟨some 61, _, _, _, _, _⟩) (v := ?v5) [] [5] rfl rfl (by kernel_rfl) (by kernel_rfl) (fun t w1 hB hf hbf => ?y5) ?n5
 case y5 =>
  simp only [BasF] at hbf
  clear hf
  obtain ⟨⟨b5, k5⟩, _⟩ := hbf
  have xb := boxStays HB6.out hB
  have xa := boxStays HA6.out hB
  have xd := boxStays HD6.out hB
  have qb := cell_of_row _ z 2 _ _ _ xb
  have qa := cell_of_row _ (z + 1) 2 _ _ _ xa
  have qd := cell_of_row _ (z + 1 + 1) 2 _ _ _ xd
  clear xb xa xd
  refine Or.inl ⟨wanted_none rfl, ?_⟩
  rintro _ rfl
  go_simp <;> with_reducible rfl
 refine relG_pure (i := 7) (o := ⟨some 62, _, _, _, _, _⟩) (v := ?v6) [(6, 61, 0)] [] rfl rfl (by kernel_rfl) (by kernel_rfl) (fun t w1 hB hf hbf => ?y6) ?n6
 case y6 =>
  simp only [DepF, List.getD_cons_zero] at hf
  obtain ⟨⟨_, ⟨e61, i61⟩, rfl⟩, _⟩ := hf
  clear hbf
  have xb := boxStays HB6.out hB
  have xa := boxStays HA6.out hB
  have xd := boxStays HD6.out hB
  have qb := cell_of_row _ z 2 _ _ _ xb
  have qa := cell_of_row _ (z + 1) 2 _ _ _ xa
  have qd := cell_of_row _ (z + 1 + 1) 2 _ _ _ xd
  clear xb xa xd
  refine Or.inl ⟨wanted_none rfl, ?_⟩
  rintro _ rfl
  go_simp <;> with_reducible rfl
 refine relG_call (i := 8) (o := ⟨some 63, _, _, _, _, _⟩) ((fun v w' => ∃ B, v = .map (some B) ∧ w6.heap.size ≤ B ∧ StMap w' B (stampsG l2))) [(7, 62, 0)] [] rfl rfl (by kernel_rfl) (by kernel_rfl) ((fun v w' w'' h hb => by obtain ⟨B, e1, e2, e3⟩ := h; exact ⟨B, e1, e2, e3.below hb⟩)) ?_ ?_
 · intro t w1 hB hf hbf K hK
   simp only [DepF, List.getD_cons_zero] at hf
   obtain ⟨⟨_, ⟨e62, i62⟩, rfl⟩, _⟩ := hf
   clear hbf
   have xb := boxStays HB6.out hB
   have xa := boxStays HA6.out hB
   have xd := boxStays HD6.out hB
   have qb := cell_of_row _ z 2 _ _ _ xb
   have qa := cell_of_row _ (z + 1) 2 _ _ _ xa
   have qd := cell_of_row _ (z + 1 + 1) 2 _ _ _ xd
   clear xb xa xd
   refine ⟨wanted_none rfl, ?_⟩
   go_simp
   refine (kn_stamps l2 a2 n2 c2 w1 (HL26.out.below hB rfl) N2.out (by omega) R2.out.2.nodup).mono ?_
   rintro e w2 ⟨B, rfl, e2, e3, hb⟩
   exact hK.out _ w2 (⟨B, rfl, Nat.le_trans hB.size e2, e3⟩) hb
 refine relG_call (i := 9) (o := ⟨some 9, _, _, _, _, _⟩) ((fun v w' => ∃ B, v = .map (some B) ∧ w6.heap.size ≤ B ∧ StMap w' B (stampsG lb))) [(2, 57, 6)] [] rfl rfl (by kernel_rfl) (by kernel_rfl) ((fun v w' w'' h hb => by obtain ⟨B, e1, e2, e3⟩ := h; exact ⟨B, e1, e2, e3.below hb⟩)) ?_ ?_
 · intro t w1 hB hf hbf K hK
   simp only [DepF, List.getD_cons_zero, List.getD_cons_succ] at hf
   obtain ⟨⟨_, ⟨e57, i57⟩, ⟨P5, rfl, e2, e3⟩⟩, _⟩ := hf
   clear hbf
   have xb := boxStays HB6.out hB
   have xa := boxStays HA6.out hB
   have xd := boxStays HD6.out hB
   have qb := cell_of_row _ z 2 _ _ _ xb
   have qa := cell_of_row _ (z + 1) 2 _ _ _ xa
   have qd := cell_of_row _ (z + 1 + 1) 2 _ _ _ xd
   clear xb xa xd
   refine ⟨wanted_none rfl, ?_⟩
   go_simp
   exact hK.out _ _ (⟨_, rfl, e2, e3⟩) (Below.refl _ _)
 refine relG_call (i := 10) (o := ⟨some 10, _, _, _, _, _⟩) ((fun v w' => ∃ B, v = .map (some B) ∧ w6.heap.size ≤ B ∧ StMap w' B (stampsG la))) [(5, 60, 4)] [] rfl rfl (by kernel_rfl) (by kernel_rfl) ((fun v w' w'' h hb => by obtain ⟨B, e1, e2, e3⟩ := h; exact ⟨B, e1, e2, e3.below hb⟩)) ?_ ?_
 · intro t w1 hB hf hbf K hK
   simp only [DepF, List.getD_cons_zero, List.getD_cons_succ] at hf
   obtain ⟨⟨_, ⟨e60, i60⟩, ⟨P6, rfl, e2, e3⟩⟩, _⟩ := hf
   clear hbf
   have xb := boxStays HB6.out hB
   have xa := boxStays HA6.out hB
   have xd := boxStays HD6.out hB
   have qb := cell_of_row _ z 2 _ _ _ xb
   have qa := cell_of_row _ (z + 1) 2 _ _ _ xa
   have qd := cell_of_row _ (z + 1 + 1) 2 _ _ _ xd
   clear xb xa xd
   refine ⟨wanted_none rfl, ?_⟩
   go_simp
   exact hK.out _ _ (⟨_, rfl, e2, e3⟩) (Below.refl _ _)
 refine relG_call (i := 11) (o := ⟨some 11, _, _, _, _, _⟩) ((fun v w' => ∃ B, v = .map (some B) ∧ w6.heap.size ≤ B ∧ StMap w' B (stampsG l2))) [(8, 63, 2)] [] rfl rfl (by kernel_rfl) (by kernel_rfl) ((fun v w' w'' h hb => by obtain ⟨B, e1, e2, e3⟩ := h; exact ⟨B, e1, e2, e3.below hb⟩)) ?_ ?_
 · intro t w1 hB hf hbf K hK
   simp only [DepF, List.getD_cons_zero, List.getD_cons_succ] at hf
   obtain ⟨⟨_, ⟨e63, i63⟩, ⟨P7, rfl, e2, e3⟩⟩, _⟩ := hf
   clear hbf
   have xb := boxStays HB6.out hB
   have xa := boxStays HA6.out hB
   have xd := boxStays HD6.out hB
   have qb := cell_of_row _ z 2 _ _ _ xb
   have qa := cell_of_row _ (z + 1) 2 _ _ _ xa
   have qd := cell_of_row _ (z + 1 + 1) 2 _ _ _ xd
   clear xb xa xd
   refine ⟨wanted_none rfl, ?_⟩
   go_simp
   exact hK.out _ _ (⟨_, rfl, e2, e3⟩) (Below.refl _ _)
 refine relG_done [(0, 55, 11), (1, 56, 10), (2, 57, 9), (3, 58, 8), (4, 59, 7), (5, 60, 6), (6, 61, 5), (7, 62, 4), (8, 63, 3), (9, 9, 2), (10, 10, 1), (11, 11, 0)] (by kernel_rfl) rfl (by kernel_rfl) (fun f wE hB hf => ?_)
 simp only [FinF, List.getD_cons_zero, List.getD_cons_succ] at hf
 obtain ⟨⟨_, e55, rfl⟩, ⟨_, e56, rfl⟩, ⟨_, e57, ⟨P5, rfl, e2, e3⟩⟩, ⟨_, e58, rfl⟩, ⟨_, e59, rfl⟩, ⟨_, e60, ⟨P6, rfl, e2, e3⟩⟩, ⟨_, e61, rfl⟩, ⟨_, e62, rfl⟩, ⟨_, e63, ⟨P7, rfl, e2, e3⟩⟩, ⟨_, e9, ⟨P1, rfl, le1, sm1⟩⟩, ⟨_, e10, ⟨P2, rfl, le2, sm2⟩⟩, ⟨_, e11, ⟨P3, rfl, le3, sm3⟩⟩, _⟩ := hf
 simp only [regT, List.foldl_cons, List.foldl_nil, List.setIfInBounds_toArray, List.set_cons_zero, List.set_cons_succ, e55, e56, e57, e58, e59, e60, e61, e62, e63, e9, e10, e11]
 clear e55 e56 e57 e58 e59 e60 e61 e62 e63 e9 e10 e11
 have hb := hB
 clear hB
 replace HC := Lib.hid (HC.out.push hb)
 clear hb
 have M1 := Lib.hid sm1
 have M2 := Lib.hid sm2
 have M3 := Lib.hid sm3
 have WE : Hid (w6.heap.size ≤ wE.heap.size ∧ y < P1 ∧ y < P2 ∧ y < P3) := Lib.hid (by have h1 := WY.out; have h2 := (HC.out.to w6 (by simp)).size; omega)
 clear sm1 sm2 sm3 le1 le2 le3
 have TE := Lib.hid (boxStays HT.out (HC.out.to w6 (by simp)))
 have DE := Lib.hid (boxStays HD.out (HC.out.to w1 (by simp)))
 have RR := Lib.hid (boxStays HR.out (HC.out.to w1 (by simp)))
 have BE := Lib.hid (HC.out.to w (by simp))
 have ET := Lib.hid elT
 have kA0 := cell_of_row _ _ 0 _ _ _ (boxStays HA.out (HC.out.to w1 (by simp)))
 have kA1 := cell_of_row _ _ 1 _ _ _ (boxStays HA.out (HC.out.to w1 (by simp)))
 have kA2 := cell_of_row _ _ 2 _ _ _ (boxStays HA.out (HC.out.to w1 (by simp)))
 go_wp2_with fail
 clear kA0 kA1 kA2
 clear HC HB HA HD HR HT HB6 HA6 HD6 HLB6 HLA6 HL26
 go_loopw [13, 67] (fun _ j wr => ∃ q : Nat, j = .int .i64 (q : Int) ∧ q ≤ na ∧ Hid (ThI y kb mm wE (([] : List Ev) ++ (la.take q).filter (keepA lb l2)) wr)) (fun _ j _ => na - (intOf j).toNat)
 case atStart => exact ⟨0, rfl, Nat.zero_le _, Lib.hid (⟨none, 0, 0, TE.out, rfl, ⟨rfl, Or.inl ⟨rfl, rfl⟩⟩, ⟨rfl, rfl, rfl, Nat.le_refl _, fun _ _ _ => rfl⟩⟩)⟩
 case round =>
  obtain ⟨q, rfl, hq, HI⟩ := hrel
  obtain ⟨av, an, ac, hTr, hanl, hown, hgr⟩ := HI.out
  have GR1 := Lib.hid hgr
  have TR1 := Lib.hid hTr
  have BR1 : Hid (Below w.heap.size w wr) := Lib.hid (BE.out.grown hgr BE.out.size (fun k hk => by cases hk; exact WY.out.2.2))
  by_cases hlt : q < na
  · have hqi : (q : Int) < (na : Int) := by omega
    have hql : q < la.length := by have := NA.out; omega
    obtain ⟨ba', oa', rfl, cx⟩ := els_get (HLA.out.below BR1.out rfl) q hql
    have SN := Lib.hid (filter_snoc (keepA lb l2) la q hql)
    have OW := Lib.hid hown
    have AN := Lib.hid hanl
    have HAN : an ≤ 200000 := by rw [hanl]; exact keep_len ([] : List Ev) (keepA lb l2) la q 100000 (Nat.zero_le _) (by omega)
    obtain ⟨acc, hacc⟩ : ∃ z, ([] : List Ev) ++ (la.take q).filter (keepA lb l2) = z := ⟨_, rfl⟩
    rw [hacc] at OW AN
    have ACC := Lib.hid hacc
    obtain ⟨x, hx⟩ : ∃ x, la[q] = x := ⟨_, rfl⟩
    rw [hx] at cx SN
    obtain ⟨p0, p1, p2, p3, p4, p5⟩ := cx
    clear hx hTr hanl hown hgr hacc HI
    go_upto_region 8 with (fail)
    clear p0 p1 p2 p3 p4 p5
    obtain ⟨w3, hw3⟩ : ∃ W, wr.alloc (.cells #[.int .i64 x.1.g, .int .i64 x.1.r, .string x.1.l, .int .i64 x.1.n, .int .i64 x.1.i, .string x.2] 53) = W := ⟨_, rfl⟩
    have B3 : Hid (Below wr.heap.size wr w3) := Lib.hid (by rw [← hw3]; exact below_new _ _)
    have hx3 : w3.heap[wr.heap.size]? = some (.cells #[.int .i64 x.1.g, .int .i64 x.1.r, .string x.1.l, .int .i64 x.1.n, .int .i64 x.1.i, .string x.2] 53 (0, 0)) := by rw [← hw3]; exact heap_alloc_new _ _
    rw [hw3]
    obtain ⟨u, hu⟩ : ∃ u, wr.heap.size = u := ⟨_, rfl⟩
    rw [hu] at hx3
    try rw [hu]
    have SU := Lib.hid hu
    have X3 := Lib.hid hx3
    clear hw3 hx3 hu
    have LA := Lib.hid (stMap_look ((M3.out.grown GR1.out (by have := WE.out; omega)).below B3.out) x.1)
    have LB := Lib.hid (stMap_look ((M1.out.grown GR1.out (by have := WE.out; omega)).below B3.out) x.1)
    have VA := Lib.hid (look_pos l2 x.1)
    have VA0 := Lib.hid (look_eq l2 x.1)
    have VB := Lib.hid (look_eq lb x.1)
    obtain ⟨va, hva⟩ : ∃ v, lookG (stampsG l2) x.1 = v := ⟨_, rfl⟩
    obtain ⟨vb, hvb⟩ : ∃ v, lookG (stampsG lb) x.1 = v := ⟨_, rfl⟩
    rw [hva] at LA VA VA0
    rw [hvb] at LB VB
    clear hva hvb
    obtain ⟨bk, hbk⟩ : ∃ b, keepA lb l2 x = b := ⟨_, rfl⟩
    rw [hbk] at SN
    have BK := Lib.hid hbk
    clear hbk
    go_cut [82] (fun uc wx => uc = .bool bk ∧ Hid (Below w3.heap.size w3 wx))
    case first =>
     have la1 := LA.out
     have lb1 := LB.out
     unfold smK at la1 lb1
     have q0 := cell_of_row _ _ 0 _ _ _ X3.out
     have q1 := cell_of_row _ _ 1 _ _ _ X3.out
     have q2 := cell_of_row _ _ 2 _ _ _ X3.out
     have q3 := cell_of_row _ _ 3 _ _ _ X3.out
     have q4 := cell_of_row _ _ 4 _ _ _ X3.out
     by_cases ha : hasG l2 x.1 = true
     · have k1 : 0 < va := of_decide_eq_true (VA.out.trans ha)
       obtain rfl : true = bk := by rw [← BK.out]; unfold keepA; rw [ha]; rfl
       clear ha
       go_wp2_with fail
       go_meet
       exact ⟨rfl, Lib.hid (by first | exact Below.refl _ _ | exact below_drews (Below.refl _ _) _)⟩
     · have ha0 : hasG l2 x.1 = false := by simpa using ha
       have k1 : ¬ 0 < va := of_decide_eq_false (VA.out.trans ha0)
       have k2 : (vb == 0) = bk := by rw [VB.out, ← BK.out]; unfold keepA; rw [ha0]; rfl
       clear ha ha0
       go_wp2_with fail
       go_meet
       exact ⟨rfl, Lib.hid (by first | exact Below.refl _ _ | exact below_drews (Below.refl _ _) _)⟩
    case rest =>
     obtain ⟨rfl, HBD⟩ := hcut
     obtain ⟨w4, rfl⟩ : ∃ X : World, X = wc := ⟨_, rfl⟩
     have B4 : Hid (Below wr.heap.size wr w4) := Lib.hid (B3.out.trans (HBD.out.mono B3.out.size))
     have B5 : Hid (Below wE.heap.size wr w4) := Lib.hid (B4.out.mono GR1.out.size)
     have T4 : Hid (w4.heap[y]? = some (.cells #[.int .i64 kb, .int .i64 mm, .slice av an ac] 79 (0, 0))) := Lib.hid (boxStays TR1.out B4.out)
     have OW4 := Lib.hid (own_later OW.out B4.out (Nat.le_refl _))
     cases bk
     case false =>
      go_wp2_with fail
      go_roundw
      case rel => exact ⟨q + 1, by go_num, by omega, Lib.hid ⟨av, an, ac, T4.out, by rw [SN.out, if_neg (by simp), List.append_nil, ACC.out]; exact AN.out, by rw [SN.out, if_neg (by simp), List.append_nil, ACC.out]; exact OW4.out, grown_bel GR1.out B5.out⟩⟩
      case measure => simp [intOf]; omega
     case true =>
      have X4 := Lib.hid (boxStays X3.out HBD.out)
      have q0 := cell_of_row _ _ 0 _ _ _ X4.out
      have q1 := cell_of_row _ _ 1 _ _ _ X4.out
      have q2 := cell_of_row _ _ 2 _ _ _ X4.out
      have q3 := cell_of_row _ _ 3 _ _ _ X4.out
      have q4 := cell_of_row _ _ 4 _ _ _ X4.out
      have q5 := cell_of_row _ _ 5 _ _ _ X4.out
      have t2 := cell_of_row _ y 2 _ _ _ T4.out
      have SB : Hid (wE.heap.size ≤ w4.heap.size ∧ y < wE.heap.size) := Lib.hid ⟨Nat.le_trans GR1.out.size B4.out.size, by have h1 := WY.out; have h2 := WE.out; omega⟩
      have NY : Hid ((Value.slice av an ac).ownBlock ≠ some y) := Lib.hid (fun e => by have h1 := (OW4.out.lt _ e).1; have h2 := SB.out; omega)
      go_wp2_with (at_builtin; go_must (refine wpList_app rfl _ _ 22 22 rfl wE.heap.size 53 _ 6 64 ET.out (.slice av an ac) an (elsV acc) rfl (OW4.out.alloc _) _ 1 (elV x) rfl ((CellsAt.new w4 53 (0, 0) (elV x)).srcN rfl (fun u hu => elsV_one [x] u (by simpa [elsV] using hu)) Tryz.underlying22 1 (by decide)) (by omega) (by omega) (by have := SB.out; simp; omega) ?_); go_must (intro v10 w10 hown hgr10 hbel hor); go_must (obtain ⟨a10, c10, rfl, _⟩ := own_slice hown); have OW10 := Lib.hid hown; have B10 : Hid (Below wE.heap.size w4 w10) := Lib.hid (((below_new w4 (.cells #[.int .i64 x.1.g, .int .i64 x.1.r, .string x.1.l, .int .i64 x.1.n, .int .i64 x.1.i, .string x.2] 53)).mono SB.out.1).trans hbel); have T10 : Hid (w10.heap[y]? = some (.cells #[.int .i64 kb, .int .i64 mm, .slice av an ac] 79 (0, 0))) := Lib.hid ((B10.out.block y SB.out.2).trans T4.out); have t10 := cell_of_row _ y 2 _ _ _ T10.out; have f10 := frozen_of_row _ y 2 _ _ T10.out; clear hown hgr10 hbel hor q0 q1 q2 q3 q4 q5 t2)
      go_roundw
      case rel =>
       refine ⟨q + 1, by go_num, by omega, Lib.hid ⟨a10, an + 1, c10, ?_, ?_, ?_, ?_⟩⟩
       · have := heap_setCell_same w10 y 2 _ _ (.slice a10 (an + 1) c10) T10.out; simpa using this
       · rw [SN.out, if_pos rfl, ← List.append_assoc, ACC.out, List.length_append, ← AN.out]; rfl
       · rw [SN.out, if_pos rfl, ← List.append_assoc, ACC.out, elsV_append, show elsV [x] = elV x by simp [elsV]]
         exact own_grown OW10.out (grown_set w10 y 2 _) (fun k hk e => by have h1 := (OW10.out.lt k hk).1; have h2 := SB.out; cases e; omega)
       · exact grown_tr (grown_bel (grown_bel GR1.out B5.out) B10.out) (grown_set w10 y 2 _)
      case measure => simp [intOf]; omega
  · obtain rfl : q = na := by omega
    have hqi : ¬ (q : Int) < (q : Int) := by omega
    have TK : Hid ((la.take q) = la) := Lib.hid (List.take_of_length_le (by rw [NA.out]; exact Nat.le_refl _))
    rw [TK.out] at hanl hown
    have OWF := Lib.hid hown
    have ANF := Lib.hid hanl
    have ND : Hid (z + 1 + 1 ≠ y ∧ z + 1 + 1 < wE.heap.size) := Lib.hid (by have h1 := WY.out; have h2 := WE.out; omega)
    have DF := Lib.hid (grow_keep hgr DE.out (fun e => ND.out.1 (Option.some.inj e).symm))
    have d2 := cell_of_row _ (z + 1 + 1) 2 _ _ _ DF.out
    have A1L : Hid ((la.filter (keepA lb l2)).length ≤ 100000) := Lib.hid (by have h1 := List.length_filter_le (keepA lb l2) la; have := NA.out; omega)
    clear hanl hown hgr HI hTr
    obtain ⟨wF, rfl⟩ : ∃ X : World, X = wr := ⟨_, rfl⟩
    go_wp2_with fail
    clear d2
    go_loopw [15, 93] (fun _ j wr => ∃ q : Nat, j = .int .i64 (q : Int) ∧ q ≤ n2 ∧ Hid (ThI y kb mm wE (la.filter (keepA lb l2) ++ (l2.take q).filter (keepB lb la)) wr)) (fun _ j _ => n2 - (intOf j).toNat)
    case atStart => exact ⟨0, rfl, Nat.zero_le _, Lib.hid (⟨av, an, ac, TR1.out, (by simpa using ANF.out), (by simpa using OWF.out), GR1.out⟩)⟩
    case round =>
     obtain ⟨q, rfl, hq, HI⟩ := hrel
     obtain ⟨av, an, ac, hTr, hanl, hown, hgr⟩ := HI.out
     have GR2 := Lib.hid hgr
     have TR2 := Lib.hid hTr
     have BR2 : Hid (Below w.heap.size w wr) := Lib.hid (BE.out.grown hgr BE.out.size (fun k hk => by cases hk; exact WY.out.2.2))
     by_cases hlt : q < n2
     · have hqi : (q : Int) < (n2 : Int) := by omega
       have hql : q < l2.length := by have := N2.out; omega
       obtain ⟨ba', oa', rfl, cx⟩ := els_get (HL2.out.below BR2.out rfl) q hql
       have SN := Lib.hid (filter_snoc (keepB lb la) l2 q hql)
       have OW := Lib.hid hown
       have AN := Lib.hid hanl
       have HAN : an ≤ 200000 := by rw [hanl]; exact keep_len (la.filter (keepA lb l2)) (keepB lb la) l2 q 100000 A1L.out (by omega)
       obtain ⟨acc, hacc⟩ : ∃ z, la.filter (keepA lb l2) ++ (l2.take q).filter (keepB lb la) = z := ⟨_, rfl⟩
       rw [hacc] at OW AN
       have ACC := Lib.hid hacc
       obtain ⟨x, hx⟩ : ∃ x, l2[q] = x := ⟨_, rfl⟩
       rw [hx] at cx SN
       obtain ⟨p0, p1, p2, p3, p4, p5⟩ := cx
       clear hx hTr hanl hown hgr hacc HI
       go_upto_region 14 with (fail)
       clear p0 p1 p2 p3 p4 p5
       obtain ⟨w3, hw3⟩ : ∃ W, wr.alloc (.cells #[.int .i64 x.1.g, .int .i64 x.1.r, .string x.1.l, .int .i64 x.1.n, .int .i64 x.1.i, .string x.2] 53) = W := ⟨_, rfl⟩
       have B3 : Hid (Below wr.heap.size wr w3) := Lib.hid (by rw [← hw3]; exact below_new _ _)
       have hx3 : w3.heap[wr.heap.size]? = some (.cells #[.int .i64 x.1.g, .int .i64 x.1.r, .string x.1.l, .int .i64 x.1.n, .int .i64 x.1.i, .string x.2] 53 (0, 0)) := by rw [← hw3]; exact heap_alloc_new _ _
       rw [hw3]
       obtain ⟨u, hu⟩ : ∃ u, wr.heap.size = u := ⟨_, rfl⟩
       rw [hu] at hx3
       try rw [hu]
       have SU := Lib.hid hu
       have X3 := Lib.hid hx3
       clear hw3 hx3 hu
       have LA := Lib.hid (stMap_look ((M2.out.grown GR2.out (by have := WE.out; omega)).below B3.out) x.1)
       have LB := Lib.hid (stMap_look ((M1.out.grown GR2.out (by have := WE.out; omega)).below B3.out) x.1)
       have VA := Lib.hid (look_pos la x.1)
       have VA0 := Lib.hid (look_eq la x.1)
       have VB := Lib.hid (look_eq lb x.1)
       obtain ⟨va, hva⟩ : ∃ v, lookG (stampsG la) x.1 = v := ⟨_, rfl⟩
       obtain ⟨vb, hvb⟩ : ∃ v, lookG (stampsG lb) x.1 = v := ⟨_, rfl⟩
       rw [hva] at LA VA VA0
       rw [hvb] at LB VB
       clear hva hvb
       obtain ⟨bk, hbk⟩ : ∃ b, keepB lb la x = b := ⟨_, rfl⟩
       rw [hbk] at SN
       have BK := Lib.hid hbk
       clear hbk
       go_cut [108] (fun uc wx => uc = .bool bk ∧ Hid (Below w3.heap.size w3 wx))
       case first =>
        have la1 := LA.out
        have lb1 := LB.out
        unfold smK at la1 lb1
        have q0 := cell_of_row _ _ 0 _ _ _ X3.out
        have q1 := cell_of_row _ _ 1 _ _ _ X3.out
        have q2 := cell_of_row _ _ 2 _ _ _ X3.out
        have q3 := cell_of_row _ _ 3 _ _ _ X3.out
        have q4 := cell_of_row _ _ 4 _ _ _ X3.out
        by_cases ha : hasG la x.1 = true
        · have k1 : (va == 0) = false := by rw [VA0.out, ha]; rfl
          obtain rfl : false = bk := by rw [← BK.out]; unfold keepB; rw [ha]; rfl
          clear ha
          go_wp2_with fail
          go_meet
          exact ⟨rfl, Lib.hid (by first | exact Below.refl _ _ | exact below_drews (Below.refl _ _) _)⟩
        · have ha0 : hasG la x.1 = false := by simpa using ha
          have k1 : (va == 0) = true := by rw [VA0.out, ha0]; rfl
          have k2 : (vb == 0) = bk := by rw [VB.out, ← BK.out]; unfold keepB; rw [ha0]; rfl
          clear ha ha0
          go_wp2_with fail
          go_meet
          exact ⟨rfl, Lib.hid (by first | exact Below.refl _ _ | exact below_drews (Below.refl _ _) _)⟩
       case rest =>
        obtain ⟨rfl, HBD⟩ := hcut
        obtain ⟨w4, rfl⟩ : ∃ X : World, X = wc := ⟨_, rfl⟩
        have B4 : Hid (Below wr.heap.size wr w4) := Lib.hid (B3.out.trans (HBD.out.mono B3.out.size))
        have B5 : Hid (Below wE.heap.size wr w4) := Lib.hid (B4.out.mono GR2.out.size)
        have T4 : Hid (w4.heap[y]? = some (.cells #[.int .i64 kb, .int .i64 mm, .slice av an ac] 79 (0, 0))) := Lib.hid (boxStays TR2.out B4.out)
        have OW4 := Lib.hid (own_later OW.out B4.out (Nat.le_refl _))
        cases bk
        case false =>
         go_wp2_with fail
         go_roundw
         case rel => exact ⟨q + 1, by go_num, by omega, Lib.hid ⟨av, an, ac, T4.out, by rw [SN.out, if_neg (by simp), List.append_nil, ACC.out]; exact AN.out, by rw [SN.out, if_neg (by simp), List.append_nil, ACC.out]; exact OW4.out, grown_bel GR2.out B5.out⟩⟩
         case measure => simp [intOf]; omega
        case true =>
         have X4 := Lib.hid (boxStays X3.out HBD.out)
         have q0 := cell_of_row _ _ 0 _ _ _ X4.out
         have q1 := cell_of_row _ _ 1 _ _ _ X4.out
         have q2 := cell_of_row _ _ 2 _ _ _ X4.out
         have q3 := cell_of_row _ _ 3 _ _ _ X4.out
         have q4 := cell_of_row _ _ 4 _ _ _ X4.out
         have q5 := cell_of_row _ _ 5 _ _ _ X4.out
         have t2 := cell_of_row _ y 2 _ _ _ T4.out
         have SB : Hid (wE.heap.size ≤ w4.heap.size ∧ y < wE.heap.size) := Lib.hid ⟨Nat.le_trans GR2.out.size B4.out.size, by have h1 := WY.out; have h2 := WE.out; omega⟩
         have NY : Hid ((Value.slice av an ac).ownBlock ≠ some y) := Lib.hid (fun e => by have h1 := (OW4.out.lt _ e).1; have h2 := SB.out; omega)
         go_wp2_with (at_builtin; go_must (refine wpList_app rfl _ _ 22 22 rfl wE.heap.size 53 _ 6 64 ET.out (.slice av an ac) an (elsV acc) rfl (OW4.out.alloc _) _ 1 (elV x) rfl ((CellsAt.new w4 53 (0, 0) (elV x)).srcN rfl (fun u hu => elsV_one [x] u (by simpa [elsV] using hu)) Tryz.underlying22 1 (by decide)) (by omega) (by omega) (by have := SB.out; simp; omega) ?_); go_must (intro v10 w10 hown hgr10 hbel hor); go_must (obtain ⟨a10, c10, rfl, _⟩ := own_slice hown); have OW10 := Lib.hid hown; have B10 : Hid (Below wE.heap.size w4 w10) := Lib.hid (((below_new w4 (.cells #[.int .i64 x.1.g, .int .i64 x.1.r, .string x.1.l, .int .i64 x.1.n, .int .i64 x.1.i, .string x.2] 53)).mono SB.out.1).trans hbel); have T10 : Hid (w10.heap[y]? = some (.cells #[.int .i64 kb, .int .i64 mm, .slice av an ac] 79 (0, 0))) := Lib.hid ((B10.out.block y SB.out.2).trans T4.out); have t10 := cell_of_row _ y 2 _ _ _ T10.out; have f10 := frozen_of_row _ y 2 _ _ T10.out; clear hown hgr10 hbel hor q0 q1 q2 q3 q4 q5 t2)
         go_roundw
         case rel =>
          refine ⟨q + 1, by go_num, by omega, Lib.hid ⟨a10, an + 1, c10, ?_, ?_, ?_, ?_⟩⟩
          · have := heap_setCell_same w10 y 2 _ _ (.slice a10 (an + 1) c10) T10.out; simpa using this
          · rw [SN.out, if_pos rfl, ← List.append_assoc, ACC.out, List.length_append, ← AN.out]; rfl
          · rw [SN.out, if_pos rfl, ← List.append_assoc, ACC.out, elsV_append, show elsV [x] = elV x by simp [elsV]]
            exact own_grown OW10.out (grown_set w10 y 2 _) (fun k hk e => by have h1 := (OW10.out.lt k hk).1; have h2 := SB.out; cases e; omega)
          · exact grown_tr (grown_bel (grown_bel GR2.out B5.out) B10.out) (grown_set w10 y 2 _)
         case measure => simp [intOf]; omega
     · obtain rfl : q = n2 := by omega
       have hqi : ¬ (q : Int) < (q : Int) := by omega
       have TK : Hid ((l2.take q) = l2) := Lib.hid (List.take_of_length_le (by rw [N2.out]; exact Nat.le_refl _))
       rw [TK.out] at hanl hown
       have PG : Hid (la.filter (keepA lb l2) ++ l2.filter (keepB lb la) = pickG lb la l2) := Lib.hid rfl
       rw [PG.out] at hanl hown
       have OWG := Lib.hid hown
       have ANG := Lib.hid hanl
       have BG := Lib.hid (Nat.le_trans (by rw [← PG.out, List.length_append]; exact Nat.add_le_add (List.length_filter_le _ _) (List.length_filter_le _ _) : (pickG lb la l2).length ≤ la.length + l2.length) (Nat.le_refl _))
       have RF := Lib.hid (grow_keep hgr RR.out (fun e => by have h1 := WY.out; have := Option.some.inj e; omega))
       clear hanl hown hgr HI hTr
       obtain ⟨wG, rfl⟩ : ∃ X : World, X = wr := ⟨_, rfl⟩
       have t2 := cell_of_row _ y 2 _ _ _ TR2.out
       have SBG : Hid (y < wE.heap.size ∧ w.heap.size ≤ wE.heap.size ∧ z + 1 + 1 + 1 < y) := Lib.hid ⟨by have h1 := WY.out; have h2 := WE.out; omega, BE.out.size, WY.out.1⟩
       go_wp2_with fail
       clear t2
       by_cases h0 : an = 0
       · subst h0
         have hnil : pickG lb la l2 = [] := List.length_eq_zero_iff.1 ANG.out.symm
         have H3 : Hid (threeG lb la l2 = []) := Lib.hid (three_uniq RB.out RA.out R2.out (r := []) (by rw [hnil]) List.Pairwise.nil).symm
         refine (sl_SortNil av ac _ wG).mono ?_
         rintro e w9 ⟨rfl, rfl⟩
         have TY := Lib.hid TR2.out
         have RY := Lib.hid RF.out
         clear hnil
         have t5 := cell_of_row _ y 0 _ _ _ TY.out
         have t6 := cell_of_row _ y 1 _ _ _ TY.out
         have t7 := cell_of_row _ y 2 _ _ _ TY.out
         go_wp2_with (refine wpList_store_row rfl 79 (.tmp 6) (.tmp 119) rfl (z + 1 + 1 + 1) #[.int .i64 kb, .int .i64 mm, (.slice av 0 ac)] rfl rfl 79 _ RY.out (by kernel_rfl) rfl (by simp [Value.oneCell']) ?_)
         have hx := setRow_heap _ _ _ #[.int .i64 kb, .int .i64 mm, (.slice av 0 ac)] _ _ RY.out
         have r0 := cell_of_row _ _ 0 _ _ _ hx
         have r1 := cell_of_row _ _ 1 _ _ _ hx
         have r2 := cell_of_row _ _ 2 _ _ _ hx
         refine bodyPost_ret (v := .tuple #[.agg #[.int .i64 kb, .int .i64 mm, (.slice av 0 ac)], .int .i64 0]) (by simp [results, Tryz.results45, go_sem, r0, r1, r2]) rfl ?_
         rw [HRE.out]
         rw [H3.out]
         obtain ⟨_, _, e9, hk, _⟩ := own_slice OWG.out
         cases e9
         exact ⟨av, 0, ac, rfl, CellsAt.nil _ _, rfl, hk, fun ad had => (by subst had; rcases OWG.out.2 with ⟨h, _⟩ | ⟨g, cap, cur, h, h1, _⟩; cases h; cases h; have := SBG.out; show w.heap.size ≤ g; omega), below_setRow BR2.out WZ.out _⟩
       · obtain ⟨g, c', hv, hg1, hg2, hnk, _⟩ := own_form OWG.out (by omega)
         cases hv
         have hbn : an ≤ 1000000 := by have h1 := BG.out; have h2 := ANG.out; have h3 := NA.out; have h4 := N2.out; omega
         refine (sl_SortEl (pickG lb la l2) g an ac _ _ wG ANG.out hbn OWG.out).mono ?_
         rintro e w9 ⟨rfl, r, hp, hs, hc, hgr9⟩
         have H3 : Hid (r = threeG lb la l2) := Lib.hid (three_uniq RB.out RA.out R2.out hp hs)
         have HL3 : Hid (an = r.length) := Lib.hid (ANG.out.trans hp.length_eq.symm)
         have C9 := Lib.hid hc
         have NG : Hid (g ≠ y ∧ g ≠ z + 1 + 1 + 1 ∧ w.heap.size ≤ g ∧ an ≤ ac) := Lib.hid (by have := SBG.out; omega)
         have TY := Lib.hid (grow_keep hgr9 TR2.out (fun e => NG.out.1 (Option.some.inj e)))
         have RY := Lib.hid (grow_keep hgr9 RF.out (fun e => NG.out.2.1 (Option.some.inj e)))
         have B9 : Hid (Below w.heap.size w w9) := Lib.hid (BR2.out.grown hgr9 BR2.out.size (fun k hk => by cases hk; exact NG.out.2.2.1))
         clear hp hs hc hgr9 hbn hg1 hg2 hnk
         have t5 := cell_of_row _ y 0 _ _ _ TY.out
         have t6 := cell_of_row _ y 1 _ _ _ TY.out
         have t7 := cell_of_row _ y 2 _ _ _ TY.out
         go_wp2_with (refine wpList_store_row rfl 79 (.tmp 6) (.tmp 119) rfl (z + 1 + 1 + 1) #[.int .i64 kb, .int .i64 mm, (.slice (some ⟨g, 0, none⟩) an ac)] rfl rfl 79 _ RY.out (by kernel_rfl) rfl (by simp [Value.oneCell']) ?_)
         have hx := setRow_heap _ _ _ #[.int .i64 kb, .int .i64 mm, (.slice (some ⟨g, 0, none⟩) an ac)] _ _ RY.out
         have r0 := cell_of_row _ _ 0 _ _ _ hx
         have r1 := cell_of_row _ _ 1 _ _ _ hx
         have r2 := cell_of_row _ _ 2 _ _ _ hx
         refine bodyPost_ret (v := .tuple #[.agg #[.int .i64 kb, .int .i64 mm, (.slice (some ⟨g, 0, none⟩) an ac)], .int .i64 0]) (by simp [results, Tryz.results45, go_sem, r0, r1, r2]) rfl ?_
         rw [HRE.out]
         rw [← H3.out]
         exact ⟨some ⟨g, 0, none⟩, an, ac, rfl, cellsAt_setRow C9.out NG.out.2.1, HL3.out, NG.out.2.2.2, fun ad had => (by cases had; exact NG.out.2.2.1), below_setRow B9.out WZ.out _⟩
end Go.Proofs.YtjlliohjeiclaaaGreatDoor
namespace Go.Proofs.YtjlliohjeiclaaaGreatDoor
open Go.RowKit
theorem skip_undef {ops : Array Oper} {o : Oper} {t : Array Value} {j d : Nat} {want : Bool} (hg : o.guard = some (j, want)) (hd : (ops[j]?).bind (·.dst) = some d) (h : t[d]?.getD undef = undef) : Region.wanted o (yielded ops t) = false := by
 unfold Region.wanted yielded
 rw [hg]
 simp only [hd, Option.bind_some]
 cases e : t[d]? with
 | none => rfl
 | some x =>
  rw [e] at h
  have h : x = undef := h
  subst h
  rfl
theorem regT_run (base : Array Value) (slots : List Nat) (f : Nat → Value) (s n : Nat) (h : slots = List.range' s n) (hb : s + n ≤ base.size) :
 regT base slots f = (base.toList.take s ++ (slots.map f ++ base.toList.drop (s + n))).toArray := by
 subst h
 apply Array.ext_getElem?
 intro k
 rw [regT_get]
 simp only [List.getElem?_toArray, List.mem_range'_1]
 by_cases h1 : k < s
 · rw [if_neg (by omega), List.getElem?_append_left (by simp; omega), List.getElem?_take_of_lt h1]
   simp
 · rw [List.getElem?_append_right (by simp; omega)]
   have e : (List.take s base.toList).length = s := by simp; omega
   rw [e]
   by_cases h2 : k < s + n
   · rw [if_pos (by omega), List.getElem?_append_left (by simp; omega)]
     simp [List.getElem?_range', show k - s < n by omega]
     congr 1
     omega
   · rw [if_neg (by omega), List.getElem?_append_right (by simp; omega), List.getElem?_drop]
     simp
     congr 1
     omega
end Go.Proofs.YtjlliohjeiclaaaGreatDoor
namespace Go.Proofs.YtjlliohjeiclaaaGreatDoor
open Go.RowKit
section
variable {P : Program} {ops : Array Oper} {Q : Exit → Act → World → Prop} {id : Nat} {base : Array Value} {df : List Deferred} {slots : List Nat} {W0 : World}
theorem getD_some {t : Array Value} {k : Nat} {b : Bool} (h : t[k]?.getD undef = .bool b) : t[k]? = some (.bool b) := by
 cases e : t[k]? with
 | none => rw [e] at h; cases h
 | some x => rw [e] at h; exact congrArg some h
theorem ext_val (x : Value) (ix : Nat) : (∃ v, Instr.extract x ix = pure v) ∨ (∃ s, Instr.extract x ix = stuck s) := by
 unfold Instr.extract
 split
 · split
   · exact .inl ⟨_, rfl⟩
   · exact .inr ⟨_, rfl⟩
 · exact .inr ⟨_, rfl⟩
theorem wpOp_ext {i : Nat} {o : Oper} {t : Operand} {ix : Nat} (ho : ops[i]? = some o) (hg : o.guard = none) (hop : o.op = .extract t ix) {K : Act → World → Prop} {a : Act} {w : World} (h : wpOp P ops Q i K a w) :
 ∃ v, K (a.put (dstN ops i) v) w ∧ ∀ (K' : Act → World → Prop) (w2 : World), K' (a.put (dstN ops i) v) w2 → wpOp P ops Q i K' a w2 := by
 have hd : dstN ops i = o.dst := by unfold dstN; rw [ho]; rfl
 rw [hd]
 unfold wpOp at h ⊢
 rw [ho] at h ⊢
 simp only [wanted_none hg, if_true] at h ⊢
 rcases ext_val (a.eval t) ix with ⟨v, hv⟩ | ⟨s, hs⟩
 · have he : execOp a.eval o = pure (.value v) := by
    unfold execOp
    simp [hop, hv]
   refine ⟨v, ?_, fun K' w2 hK' => .inl ?_⟩
   · rcases h with h | ⟨h1, _⟩
     · unfold Oper.wp at h; rw [he] at h; exact h
     · unfold Oper.asks at h1
       rw [he] at h1
       have h2 : noRoomEvent ∈ (#[] : Array _) := h1.1
       cases (Array.not_mem_empty _ h2)
   · unfold Oper.wp; rw [he]; exact hK'
 · exfalso
   have he : execOp a.eval o = (stuck s : Sem Next) := by
    unfold execOp
    simp [hop, hs]
    rfl
   rcases h with h | ⟨h1, _⟩
   · unfold Oper.wp at h; rw [he] at h; exact h
   · unfold Oper.asks at h1
     rw [he] at h1
     have h2 : noRoomEvent ∈ (#[] : Array _) := h1.1
     cases (Array.not_mem_empty _ h2)
def freeB (ops : Array Oper) (i : Nat) : Bool := copyB ops i || match ops[i]? with
 | some o => o.guard.isNone && (match o.op with
  | .extract _ _ => true
  | _ => false)
 | none => false
theorem wpOp_free {i : Nat} (hf : freeB ops i = true) {K : Act → World → Prop} {a : Act} {w : World} (h : wpOp P ops Q i K a w) :
 ∃ v, K (a.put (dstN ops i) v) w ∧ ∀ (K' : Act → World → Prop) (w2 : World), K' (a.put (dstN ops i) v) w2 → wpOp P ops Q i K' a w2 := by
 unfold freeB at hf
 rw [Bool.or_eq_true] at hf
 rcases hf with hf | hf
 · obtain ⟨x, hx⟩ := wpOp_copy (P := P) (Q := Q) hf
   exact ⟨a.eval x, (hx _ _ _).1 h, fun K' w2 hK' => (hx _ _ _).2 hK'⟩
 · cases ho : ops[i]? with
   | none => rw [ho] at hf; cases hf
   | some o =>
    rw [ho] at hf
    simp only [Bool.and_eq_true] at hf
    have hg : o.guard = none := by simpa using hf.1
    have h2 := hf.2
    split at h2
    · rename_i t ix hop
      exact wpOp_ext ho hg hop h
    · cases h2
def blkOf : Value → Nat
 | .pointer (some a) => a.block
 | _ => 0
def ownOK (ops : Array Oper) (s x ix y iy : Nat) : Bool := decide (s < ops.size) && (dstN ops s == none) && (dstN ops ix == some x) && (dstN ops iy == some y) && needsN ops 6 s ix && needsN ops 6 s iy
def freeOK1 (ops : Array Oper) (s : Nat) : Bool := (List.range ops.size).all fun i => i == s || (freeB ops i || needsN ops 6 s i)
theorem relG_own {gs : List Pr} (s x ix y iy : Nat) (ps psS : List (Nat × Nat × Nat)) (hm : P.follows .mixedOrders = true) (hl : gs.length = ops.size) (hps : finOK ops ps = true) (hpsS : stoDeps ops [s] psS = true)
 (hS : ownOK ops s x ix y iy = true) (hfr : freeOK1 ops s = true)
 (hst : ∀ f w, Below W0.heap.size W0 w → FinF gs f w psS → ∀ K : Act → World → Prop, K { tmps := regT base slots f, defers := df } (w.setRow (blkOf (f x)) (f y).cells) → wpOp P ops Q s K { tmps := regT base slots f, defers := df } w)
 (h : ∀ f w, Below W0.heap.size W0 w → FinF gs f w ps → Q .normal { tmps := regT base slots f, defers := df } (w.setRow (blkOf (f x)) (f y).cells)) : RelG P ops Q id base df slots W0 [s] gs := by
 intro hup hsl hinj hsz hall
 have hpS : s < ops.size ∧ dstN ops s = none ∧ dstN ops ix = some x ∧ dstN ops iy = some y ∧ needsN ops 6 s ix = true ∧ needsN ops 6 s iy = true := by
  simp only [ownOK, Bool.and_eq_true, decide_eq_true_eq, beq_iff_eq] at hS
  exact ⟨hS.1.1.1.1.1, hS.1.1.1.1.2, hS.1.1.1.2, hS.1.1.2, hS.1.2, hS.2⟩
 obtain ⟨p1, p2, p3, p4, p5, p6⟩ := hpS
 have hfinS : ∀ (L : Nat → Bool) f w, ClosedL ops L → (∀ i d, dstN ops i = some d → L i = true → lkG gs i (f d) w) → (∀ k ∈ preOf ops s, L k = true) → FinF gs f w psS := by
  intro L f w hc hL hpre
  clear h hst
  induction psS with
  | nil => trivial
  | cons q psS ih =>
   simp only [stoDeps, List.all_cons, Bool.and_eq_true] at hpsS
   obtain ⟨⟨⟨h1, h2⟩, h4⟩, h3⟩ := hpsS
   have hj' : q.1 + q.2.2 + 1 = ops.size := by simpa using h1
   have h5 := hL q.1 q.2.1 (by simpa using h2) (needsN_out hc _ _ _ h4.1 hpre)
   unfold lkG at h5
   rw [if_pos (by omega), show gs.length - 1 - q.1 = q.2.2 by omega] at h5
   exact ⟨⟨f q.2.1, rfl, h5⟩, ih h3⟩
 refine region_inv (fun L a w => ClosedL ops L ∧ ∃ f w', a = { tmps := regT base slots f, defers := df } ∧ Below W0.heap.size W0 w' ∧ (∀ i d, dstN ops i = some d → L i = true → lkG gs i (f d) w') ∧ w = if L s = true then w'.setRow (blkOf (f x)) (f y).cells else w') hm hup
  ⟨(fun _ h => by cases h), fun k => base.getD k undef, W0.drew, by rw [regT_id], (Below.refl _ _).drew, fun _ _ _ h => (by cases h), by rw [if_neg (by simp)]⟩ ?_ ?_
 · rintro i hi L a w ⟨hc, f, w', rfl, hW, hL, rfl⟩ hLi hpre
   have hc' := closedL_next hc hpre
   by_cases his : i = s
   · subst his
     rw [if_neg (by rw [hLi]; simp)]
     refine hst f w' hW (hfinS L f w' hc hL hpre) _ ⟨hc', f, w', rfl, hW, fun j d e hj => ?_, by rw [if_pos (by simp)]⟩
     have hne : j ≠ i := fun e' => by rw [e', p2] at e; cases e
     exact hL j d e (by simpa [hne] using hj)
   · have hso : [s].contains i = false := by simpa using his
     obtain ⟨h1, h2⟩ := hall i (by omega) hso
     have hLs : (s == i || L s) = L s := by
      have : (s == i) = false := by simpa using fun e => his (Eq.symm e)
      rw [this]; rfl
     have hkeep : ∀ v w'', lkG gs i v w'' → Below w'.heap.size w' w'' → ∃ f1, ({ tmps := regT base slots f, defers := df : Act }.put (dstN ops i) v) = { tmps := regT base slots f1, defers := df } ∧ Below W0.heap.size W0 w'' ∧ (∀ j d, dstN ops j = some d → (j == i || L j) = true → lkG gs j (f1 d) w'') ∧ (L s = true → f1 x = f x ∧ f1 y = f y) := by
      intro v w'' hg hb
      have hW' := hW.trans (hb.mono hW.size)
      cases hdi : dstN ops i with
      | none =>
       refine ⟨f, rfl, hW', fun j d e hj => ?_, fun _ => ⟨rfl, rfl⟩⟩
       have hne : j ≠ i := fun e' => by rw [e', hdi] at e; cases e
       have hLj : L j = true := by simpa [hne] using hj
       have hjs : [s].contains j = false := by
        have : j ≠ s := fun e' => by rw [e', p2] at e; cases e
        simpa using this
       exact (hall j (by have := dstN_lt e; omega) hjs).1 _ _ _ (hL j d e hLj) hb
      | some di =>
       refine ⟨updF f di v, ?_, hW', fun j d e hj => ?_, fun hls => ?_⟩
       · show ({ tmps := (regT base slots f).setIfInBounds di v, defers := df } : Act) = _
         rw [regT_put _ _ _ _ _ (hsl i di hdi)]
       · unfold updF
         by_cases hne : j = i
         · subst hne
           rw [hdi] at e
           cases e
           rw [if_pos rfl]
           exact hg
         · have h3 : d ≠ di := fun e' => hne (hinj j i d e (e' ▸ hdi))
           rw [if_neg h3]
           have hLj : L j = true := by simpa [hne] using hj
           have hjs : [s].contains j = false := by
            have : j ≠ s := fun e' => by rw [e', p2] at e; cases e
            simpa using this
           exact (hall j (by have := dstN_lt e; omega) hjs).1 _ _ _ (hL j d e hLj) hb
       · have hix : L ix = true := needsN_out hc _ _ _ p5 (hc s hls)
         have hiy : L iy = true := needsN_out hc _ _ _ p6 (hc s hls)
         unfold updF
         constructor
         · rw [if_neg]
           intro e
           have := hinj ix i x p3 (e ▸ hdi)
           rw [this, hLi] at hix
           cases hix
         · rw [if_neg]
           intro e
           have := hinj iy i y p4 (e ▸ hdi)
           rw [this, hLi] at hiy
           cases hiy
     cases hls : L s with
     | false =>
      rw [if_neg (by simp)]
      refine h2 f w' hW (fun j hj d e => hL j d e (hpre j hj)) _ fun v w'' hg hb => ?_
      obtain ⟨f1, k2, k3, k4, _⟩ := hkeep v w'' hg hb
      exact ⟨hc', f1, w'', k2, k3, k4, by show w'' = if (s == i || L s) = true then w''.setRow (blkOf (f1 x)) (f1 y).cells else w''; rw [hLs, hls, if_neg (by simp)]⟩
     | true =>
      rw [if_pos rfl]
      have hf := List.all_eq_true.1 hfr i (List.mem_range.2 hi)
      simp only [Bool.or_eq_true] at hf
      have hcp : freeB ops i = true := by
       rcases hf with hf | hf | hf
       · exact absurd (by simpa using hf) his
       · exact hf
       · have := needsN_out hc _ _ _ hf (hc s hls)
         rw [hLi] at this
         cases this
      have h3 := h2 f w' hW (fun j hj d e => hL j d e (hpre j hj)) (fun a1 w1 => ∃ v, a1 = { tmps := regT base slots f, defers := df : Act }.put (dstN ops i) v ∧ lkG gs i v w1 ∧ Below w'.heap.size w' w1) (fun v w'' hg hb => ⟨v, rfl, hg, hb⟩)
      obtain ⟨v0, ⟨v, e1, e2, e3⟩, hgo⟩ := wpOp_free hcp h3
      refine hgo _ _ ?_
      rw [e1]
      obtain ⟨f1, k2, k3, k4, k5⟩ := hkeep v w' e2 e3
      obtain ⟨q1, q2⟩ := k5 hls
      exact ⟨hc', f1, w', k2, k3, k4, by show w'.setRow (blkOf (f x)) (f y).cells = if (s == i || L s) = true then w'.setRow (blkOf (f1 x)) (f1 y).cells else w'; rw [hLs, hls, if_pos rfl, q1, q2]⟩
 · rintro L a w ⟨hc, f, w', rfl, hW, hL, rfl⟩ hLall
   rw [if_pos (hLall _ p1)]
   exact h f w' hW (finF_of hl (fun j hj d e => hL j d e (hLall j hj)) hps)
theorem sto_own {i : Nat} {o : Oper} {f : Nat → Value} {w2 : World} {K : Act → World → Prop} (ty : TypeId) (x y : Nat) (b : Nat) (cells : Array Value) (t : TypeId) (old : Array Value) (ho : ops[i]? = some o) (hg : o.guard = none) (hd : o.dst = none) (hop : o.op = .store ty (.tmp x) (.tmp y))
 (hxs : slots.contains x = true) (hxz : decide (x < base.size) = true) (hx : f x = .pointer (some ⟨b, 0, none⟩)) (hys : slots.contains y = true) (hyz : decide (y < base.size) = true) (hy : f y = .agg cells) (hgr : w2.heap[b]? = some (.cells old t (0, 0))) (hi : (P.info? ty).map (·.size) = some cells.size) (hold : old.size = cells.size) (h1 : cells.all (·.oneCell') = true)
 (hK : K { tmps := regT base slots f, defers := df } (w2.setRow (blkOf (f x)) (f y).cells)) : wpOp P ops Q i K { tmps := regT base slots f, defers := df } w2 := by
 unfold wpOp
 rw [ho]
 simp only [wanted_none hg, if_true]
 have hx' : (regT base slots f).getD x undef = .pointer (some ⟨b, 0, none⟩) := (regT_in (by simpa using hxs) (of_decide_eq_true hxz)).trans hx
 have hy' : (regT base slots f).getD y undef = .agg cells := (regT_in (by simpa using hys) (of_decide_eq_true hyz)).trans hy
 refine .inl (wp_store_row ty (.tmp x) (.tmp y) hop b cells hx' hy' t old hgr hi hold h1 ?_)
 rw [hd]
 rw [hx, hy] at hK
 exact hK
end
end Go.Proofs.YtjlliohjeiclaaaGreatDoor
namespace Go.Proofs.YtjlliohjeiclaaaGreatDoor
open Go.RowKit
section
variable {P : Program} {ops : Array Oper} {Q : Exit → Act → World → Prop} {id : Nat} {base : Array Value} {df : List Deferred} {slots : List Nat} {W0 : World}
def oneOK (ops : Array Oper) (s y iy : Nat) : Bool := decide (s < ops.size) && (dstN ops s == none) && (dstN ops iy == some y) && needsN ops 6 s iy
theorem relG_one {gs : List Pr} (s b y iy : Nat) (ps psS : List (Nat × Nat × Nat)) (hm : P.follows .mixedOrders = true) (hl : gs.length = ops.size) (hps : finOK ops ps = true) (hpsS : stoDeps ops [s] psS = true)
 (hS : oneOK ops s y iy = true) (hfr : freeOK1 ops s = true)
 (hst : ∀ f w, Below W0.heap.size W0 w → FinF gs f w psS → ∀ K : Act → World → Prop, K { tmps := regT base slots f, defers := df } (w.setRow b (f y).cells) → wpOp P ops Q s K { tmps := regT base slots f, defers := df } w)
 (h : ∀ f w, Below W0.heap.size W0 w → FinF gs f w ps → Q .normal { tmps := regT base slots f, defers := df } (w.setRow b (f y).cells)) : RelG P ops Q id base df slots W0 [s] gs := by
 intro hup hsl hinj hsz hall
 have hpS : s < ops.size ∧ dstN ops s = none ∧ dstN ops iy = some y ∧ needsN ops 6 s iy = true := by
  simp only [oneOK, Bool.and_eq_true, decide_eq_true_eq, beq_iff_eq] at hS
  exact ⟨hS.1.1.1, hS.1.1.2, hS.1.2, hS.2⟩
 obtain ⟨p1, p2, p4, p6⟩ := hpS
 have hfinS : ∀ (L : Nat → Bool) f w, ClosedL ops L → (∀ i d, dstN ops i = some d → L i = true → lkG gs i (f d) w) → (∀ k ∈ preOf ops s, L k = true) → FinF gs f w psS := by
  intro L f w hc hL hpre
  clear h hst
  induction psS with
  | nil => trivial
  | cons q psS ih =>
   simp only [stoDeps, List.all_cons, Bool.and_eq_true] at hpsS
   obtain ⟨⟨⟨h1, h2⟩, h4⟩, h3⟩ := hpsS
   have hj' : q.1 + q.2.2 + 1 = ops.size := by simpa using h1
   have h5 := hL q.1 q.2.1 (by simpa using h2) (needsN_out hc _ _ _ h4.1 hpre)
   unfold lkG at h5
   rw [if_pos (by omega), show gs.length - 1 - q.1 = q.2.2 by omega] at h5
   exact ⟨⟨f q.2.1, rfl, h5⟩, ih h3⟩
 refine region_inv (fun L a w => ClosedL ops L ∧ ∃ f w', a = { tmps := regT base slots f, defers := df } ∧ Below W0.heap.size W0 w' ∧ (∀ i d, dstN ops i = some d → L i = true → lkG gs i (f d) w') ∧ w = if L s = true then w'.setRow b (f y).cells else w') hm hup
  ⟨(fun _ h => by cases h), fun k => base.getD k undef, W0.drew, by rw [regT_id], (Below.refl _ _).drew, fun _ _ _ h => (by cases h), by rw [if_neg (by simp)]⟩ ?_ ?_
 · rintro i hi L a w ⟨hc, f, w', rfl, hW, hL, rfl⟩ hLi hpre
   have hc' := closedL_next hc hpre
   by_cases his : i = s
   · subst his
     rw [if_neg (by rw [hLi]; simp)]
     refine hst f w' hW (hfinS L f w' hc hL hpre) _ ⟨hc', f, w', rfl, hW, fun j d e hj => ?_, by rw [if_pos (by simp)]⟩
     have hne : j ≠ i := fun e' => by rw [e', p2] at e; cases e
     exact hL j d e (by simpa [hne] using hj)
   · have hso : [s].contains i = false := by simpa using his
     obtain ⟨h1, h2⟩ := hall i (by omega) hso
     have hLs : (s == i || L s) = L s := by
      have : (s == i) = false := by simpa using fun e => his (Eq.symm e)
      rw [this]; rfl
     have hkeep : ∀ v w'', lkG gs i v w'' → Below w'.heap.size w' w'' → ∃ f1, ({ tmps := regT base slots f, defers := df : Act }.put (dstN ops i) v) = { tmps := regT base slots f1, defers := df } ∧ Below W0.heap.size W0 w'' ∧ (∀ j d, dstN ops j = some d → (j == i || L j) = true → lkG gs j (f1 d) w'') ∧ (L s = true → f1 y = f y) := by
      intro v w'' hg hb
      have hW' := hW.trans (hb.mono hW.size)
      cases hdi : dstN ops i with
      | none =>
       refine ⟨f, rfl, hW', fun j d e hj => ?_, fun _ => rfl⟩
       have hne : j ≠ i := fun e' => by rw [e', hdi] at e; cases e
       have hLj : L j = true := by simpa [hne] using hj
       have hjs : [s].contains j = false := by
        have : j ≠ s := fun e' => by rw [e', p2] at e; cases e
        simpa using this
       exact (hall j (by have := dstN_lt e; omega) hjs).1 _ _ _ (hL j d e hLj) hb
      | some di =>
       refine ⟨updF f di v, ?_, hW', fun j d e hj => ?_, fun hls => ?_⟩
       · show ({ tmps := (regT base slots f).setIfInBounds di v, defers := df } : Act) = _
         rw [regT_put _ _ _ _ _ (hsl i di hdi)]
       · unfold updF
         by_cases hne : j = i
         · subst hne
           rw [hdi] at e
           cases e
           rw [if_pos rfl]
           exact hg
         · have h3 : d ≠ di := fun e' => hne (hinj j i d e (e' ▸ hdi))
           rw [if_neg h3]
           have hLj : L j = true := by simpa [hne] using hj
           have hjs : [s].contains j = false := by
            have : j ≠ s := fun e' => by rw [e', p2] at e; cases e
            simpa using this
           exact (hall j (by have := dstN_lt e; omega) hjs).1 _ _ _ (hL j d e hLj) hb
       · have hiy : L iy = true := needsN_out hc _ _ _ p6 (hc s hls)
         unfold updF
         rw [if_neg]
         intro e
         have := hinj iy i y p4 (e ▸ hdi)
         rw [this, hLi] at hiy
         cases hiy
     cases hls : L s with
     | false =>
      rw [if_neg (by simp)]
      refine h2 f w' hW (fun j hj d e => hL j d e (hpre j hj)) _ fun v w'' hg hb => ?_
      obtain ⟨f1, k2, k3, k4, _⟩ := hkeep v w'' hg hb
      exact ⟨hc', f1, w'', k2, k3, k4, by show w'' = if (s == i || L s) = true then w''.setRow b (f1 y).cells else w''; rw [hLs, hls, if_neg (by simp)]⟩
     | true =>
      rw [if_pos rfl]
      have hf := List.all_eq_true.1 hfr i (List.mem_range.2 hi)
      simp only [Bool.or_eq_true] at hf
      have hcp : freeB ops i = true := by
       rcases hf with hf | hf | hf
       · exact absurd (by simpa using hf) his
       · exact hf
       · have := needsN_out hc _ _ _ hf (hc s hls)
         rw [hLi] at this
         cases this
      have h3 := h2 f w' hW (fun j hj d e => hL j d e (hpre j hj)) (fun a1 w1 => ∃ v, a1 = { tmps := regT base slots f, defers := df : Act }.put (dstN ops i) v ∧ lkG gs i v w1 ∧ Below w'.heap.size w' w1) (fun v w'' hg hb => ⟨v, rfl, hg, hb⟩)
      obtain ⟨v0, ⟨v, e1, e2, e3⟩, hgo⟩ := wpOp_free hcp h3
      refine hgo _ _ ?_
      rw [e1]
      obtain ⟨f1, k2, k3, k4, k5⟩ := hkeep v w' e2 e3
      have q2 := k5 hls
      exact ⟨hc', f1, w', k2, k3, k4, by show w'.setRow b (f y).cells = if (s == i || L s) = true then w'.setRow b (f1 y).cells else w'; rw [hLs, hls, if_pos rfl, q2]⟩
 · rintro L a w ⟨hc, f, w', rfl, hW, hL, rfl⟩ hLall
   rw [if_pos (hLall _ p1)]
   exact h f w' hW (finF_of hl (fun j hj d e => hL j d e (hLall j hj)) hps)
end
end Go.Proofs.YtjlliohjeiclaaaGreatDoor
