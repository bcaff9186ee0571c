/- Words, contracts and walks that the proof stands on (KnG KnH GrowM KnI). -/
import Derived.Deep.MidRow
import Derived.Lib.SliceRun
import Derived.Shelf.Abstract
import Derived.Shelf.RegionOpen
import Derived.Test.YtjlliohjeiclaaaGreatDoorKB2
import Derived.Test.YtjlliohjeiclaaaGreatDoorKB3
import Derived.Test.YtjlliohjeiclaaaGreatDoorKB7
namespace Go.Proofs.YtjlliohjeiclaaaGreatDoor
open Go.RowKit St Pm Ku Kn
attribute [local go_sem] Oper.semAt_some
namespace Kn
theorem findW_at {l : List ByteArray} {q : Nat} (h : q < l.length) (s : ByteArray) : findW (l.drop q) (q : Int) s = if l.getD q ⟨#[]⟩ = s then (q : Int) else findW (l.drop (q + 1)) ((q + 1 : Nat) : Int) s := by
 rw [List.drop_eq_getElem_cons h]
 show (if l[q] = s then ((q : Nat) : Int) else findW (l.drop (q + 1)) ((q : Int) + 1) s) = _
 rw [show l.getD q ⟨#[]⟩ = l[q] by rw [List.getD_eq_getElem?_getD, List.getElem?_eq_getElem h]; rfl]
 rfl
structure KdI (s : ByteArray) (re : Int) (w1 : World) (pre : List KW) (W : World) : Prop where
 len : pre.length ≤ 6
 res : findW (wordL.drop (pre.length + 1)) ((pre.length + 1 : Nat) : Int) s = re
 bel : Below w1.heap.size w1 W
structure KdX (re : Int) (w : World) (z : Nat) (W : World) : Prop where
 ne : re ≠ 0
 r1 : W.heap[z + 1]? = some (.cells #[.int .i64 re] 77 (0, 0))
 r2 : W.heap[z + 1 + 1]? = some (.cells #[.bool true] 4 (0, 0))
 bel : Below w.heap.size w W
theorem kdI_own {s : ByteArray} {re : Int} {w1 : World} (B : Nat) (hB : w1.heap.size ≤ B) : OwnFrom B (KdI s re w1) := by
 rintro pre A A' row ⟨h1, h2, h3⟩ hg hr
 exact ⟨h1, h2, ownFrom_below (β := Unit) (Nat.le_refl _) hB () A A' row h3 hg hr⟩
theorem kdX_own {re : Int} {w : World} {z : Nat} (B : Nat) (hw : w.heap.size ≤ B) (hz : z + 1 + 1 < B) : OwnFrom B (fun (_ : List KW) W => KdX re w z W) := by
 rintro pre A A' row ⟨h0, h1, h2, h3⟩ hg hr
 exact ⟨h0, own_block (β := Unit) (by omega) () A A' row h1 hg hr, own_block (β := Unit) hz () A A' row h2 hg hr, ownFrom_below (β := Unit) (Nat.le_refl _) hw () A A' row h3 hg hr⟩
end Kn
open Kn
set_option maxRecDepth 100000 in
set_option maxHeartbeats 4000000 in
theorem kn_Kind (s : ByteArray) (w : World) : Calls Tryz.prog 73 #[.string s] w fun e w' => e = .returned (.tuple #[.int .i64 (kindG s), .bool (decide (kindG s ≠ 0))]) ∧ Below w.heap.size w w' := by
 obtain ⟨re, hre⟩ : ∃ r, kindG s = r := ⟨_, rfl⟩
 have RE : Hid (findW (wordL.drop 1) 1 s = re) := Lib.hid hre
 rw [hre]
 clear hre
 refine (callsIn_wide (n := 6)).1 ?_
 refine callsIn_of_wp_marks Tryz.func73 rfl trivial ?_ rfl
 simp only [Tryz.ntmps73, List.size_toArray, List.length_cons, List.length_nil, Nat.reduceAdd, Nat.reduceSub, Array.replicate_succ, Array.replicate_zero, List.push_toArray, List.append_toArray, List.nil_append, List.cons_append]
 refine wpIn_wide.2 ?_
 have HC : Hid (Chain [w] w) := Lib.hid (Chain.one w)
 go_upto_region 1 with (fail)
 obtain ⟨z, hz⟩ : ∃ c, w.heap.size = c := ⟨_, rfl⟩
 try rw [hz]
 obtain ⟨w1, hw1⟩ : ∃ X, allocs w [.cells #[.string s] 9, .cells #[.int .i64 0] 77, .cells #[.bool false] 4] = X := ⟨_, rfl⟩
 rw [show ((w.alloc (.cells #[.string s] 9)).alloc (.cells #[.int .i64 0] 77)).alloc (.cells #[.bool false] 4) = w1 from hw1]
 have hb : Below w.heap.size w w1 := by rw [← hw1]; exact allocs_below _ _
 have HW : Hid (w1.heap[z]? = some (.cells #[.string s] 9 (0, 0))) := Lib.hid (by have := allocs_get [.cells #[.string s] 9, .cells #[.int .i64 0] 77, .cells #[.bool false] 4] w 0 _ rfl; rw [hw1, hz] at this; exact this)
 have HK : Hid (w1.heap[z + 1]? = some (.cells #[.int .i64 0] 77 (0, 0))) := Lib.hid (by have := allocs_get [.cells #[.string s] 9, .cells #[.int .i64 0] 77, .cells #[.bool false] 4] w 1 _ rfl; rw [hw1, hz] at this; exact this)
 have HB : Hid (w1.heap[z + 1 + 1]? = some (.cells #[.bool false] 4 (0, 0))) := Lib.hid (by have := allocs_get [.cells #[.string s] 9, .cells #[.int .i64 0] 77, .cells #[.bool false] 4] w 2 _ rfl; rw [hw1, hz] at this; exact this)
 have Sz : Hid (w.heap.size = z) := Lib.hid hz
 replace HC := Lib.hid (HC.out.push hb)
 clear hb hw1 hz
 go_wp2_with fail
 refine (kn_Kinds _).mono ?_
 rintro e w2 ⟨rfl, hb⟩
 replace HC := Lib.hid (HC.out.push hb)
 clear hb
 have HW2 := Lib.hid (boxStays HW.out (HC.out.to w1 (by simp)))
 have HK2 := Lib.hid (boxStays HK.out (HC.out.to w1 (by simp)))
 have HB2 := Lib.hid (boxStays HB.out (HC.out.to w1 (by simp)))
 have BW := Lib.hid (HC.out.to w (by simp))
 have ZW : Hid (w.heap.size = z ∧ z + 1 + 1 < w2.heap.size ∧ w.heap.size ≤ w2.heap.size) := Lib.hid ⟨Sz.out, (Array.getElem?_eq_some_iff.1 HB2.out).1, BW.out.size⟩
 clear HC HW HK HB
 go_wp2_with fail
 refine (wpIn_wide (n := 6)).1 ?_
 have HIter := kinds1_iter 5 (by omega) w2
 refine range_law2 (n := 6) rfl (enters_of Tryz.func154 (by kernel_rfl) rfl) HIter (by omega) (fun _ _ => trivial) (fun W o o' _ _ => trivial) (fun x => rfl) (fun pre => (by rintro _ _ _ _ h _ _; exact h)) ?_ (KdI s re w2) (fun c pre W => c = .ret ∧ KdX re w z W) (fun xs W => xs.length = 6 ∧ KdI s re w2 xs W) (kdI_own _ (Nat.le_refl _)) ?_ ?_ ?_ ⟨by simp, RE.out, Below.refl _ _⟩
  (fun pre x a' W => KdI s re w2 pre W ∧ kwX pre x W ∧ a' = { tmps := #[.string s, .pointer (some ⟨z, 0, none⟩), .pointer (some ⟨z + 1, 0, none⟩), .pointer (some ⟨z + 1 + 1, 0, none⟩), .int .i64 x.1, .string x.2, .func (.func 154) #[] #[], .int .i64 x.1, .string x.2, undef, undef, undef, undef], defers := [] }) ?_ ?assign ?body ?done ?stop
 · rintro W1 _ xs A B ⟨_, rfl⟩ k o _ ho _; exact ho
 · rintro c xs A A' row ⟨h1, h2⟩ hg hr
   exact ⟨h1, kdX_own _ ZW.out.2.2 ZW.out.2.1 xs A A' row h2 hg hr⟩
 · rintro xs A A' row ⟨h1, h2⟩ hg hr
   exact ⟨h1, kdI_own _ (Nat.le_refl _) xs A A' row h2 hg hr⟩
 · rintro W1 _ xs A B h ⟨h1, rfl⟩; exact ⟨h1, h⟩
 · rintro q a' pre A A' row ⟨h1, h2, h3⟩ hg hr
   exact ⟨kdI_own _ (Nat.le_refl _) pre A A' row h1 hg hr, h2, h3⟩
 case assign =>
  intro l pre q W K hi hx hsz hK
  have HI := Lib.hid hi
  clear hi HIter
  simp only [encKW, List.zip_toArray, List.zip_cons_cons, List.zip_nil_right, List.foldl_toArray, List.foldl_cons, List.foldl_nil]
  gi_wp2
  exact hK _ _ ⟨Nat.le_refl _, fun _ _ _ h _ => h⟩ trivial hsz ⟨HI.out, hx, rfl⟩
 case body =>
  rintro l pre x a' W ⟨hI, ⟨hp6, hx⟩, rfl⟩ hsz
  obtain ⟨k, v⟩ := x
  obtain ⟨rfl, rfl⟩ := Prod.mk.inj hx
  have HI := Lib.hid hI
  have HS := Lib.hid (findW_at (l := wordL) (q := pre.length + 1) (by show pre.length + 1 < 7; omega) s)
  have x0 := cell_of_one (boxStays HW2.out hI.bel)
  clear hI hx HIter
  generalize wordL.getD (pre.length + 1) ⟨#[]⟩ = v at HS ⊢
  by_cases hv : v = s
  · subst hv
    have hre : re = ((pre.length + 1 : Nat) : Int) := by rw [← HI.out.res, HS.out, if_pos rfl]
    have e1 := cell_of_one (t := 77) (boxStays HK2.out HI.out.bel)
    have f1 := frozen_of_row _ (z + 1) 0 _ _ (boxStays HK2.out HI.out.bel)
    have e2 := cell_of_one (t := 4) (boxStays HB2.out HI.out.bel)
    have f2 := frozen_of_row _ (z + 1 + 1) 0 _ _ (boxStays HB2.out HI.out.bel)
    have FIN : Hid (KeepsFrom w2.heap.size W ((W.setCell ⟨z + 1, 0, none⟩ (.int .i64 re)).setCell ⟨z + 1 + 1, 0, none⟩ (.bool true)) ∧ KdX re w z ((W.setCell ⟨z + 1, 0, none⟩ (.int .i64 re)).setCell ⟨z + 1 + 1, 0, none⟩ (.bool true))) := Lib.hid ⟨((KeepsOthers.setCell _ _ _).from _).trans ((KeepsOthers.setCell _ _ _).from _), by omega,
     (Below.heap_setCell _ _ _ _ (by simp)).trans (Boxed.set (t := 77) _ (boxStays HK2.out HI.out.bel)),
     Boxed.set (t := 4) _ ((Below.heap_setCell _ _ _ _ (by simp)).trans (boxStays HB2.out HI.out.bel)),
     ((BW.out.trans (HI.out.bel.mono ZW.out.2.2)).setCell (p := ⟨z + 1, 0, none⟩) (by have := ZW.out.1; show w.heap.size ≤ z + 1; omega) _).setCell (p := ⟨z + 1 + 1, 0, none⟩) (by have := ZW.out.1; show w.heap.size ≤ z + 1 + 1; omega) _⟩
    rw [hre] at FIN
    rw [show ((pre.length + 1 : Nat) : Int) = (pre.length : Int) + 1 from rfl] at FIN ⊢
    have HRE : Hid (re = (pre.length : Int) + 1) := Lib.hid hre
    clear hre
    gi_wp2
    exact ⟨FIN.out.1, trivial, rfl, by
     have h := FIN.out.2
     rw [HRE.out]; exact h⟩
  · have hvb : (v.toList == s.toList) = false := by rw [Pm.eq_iff]; simpa using hv
    have FIN : Hid (KdI s re w2 (pre ++ [(((pre.length + 1 : Nat) : Int), v)]) W) := Lib.hid ⟨by simp; omega, by rw [List.length_append]; rw [← HI.out.res, HS.out, if_neg hv]; rfl, HI.out.bel⟩
    rw [show ((pre.length + 1 : Nat) : Int) = (pre.length : Int) + 1 from rfl] at FIN ⊢
    gi_wp2
    exact ⟨⟨Nat.le_refl _, fun _ _ _ h _ => h⟩, trivial, FIN.out⟩
 case done =>
  rintro D xs W1 hD ⟨h6, hI⟩ hK
  have HKD := Lib.hid hK
  have HI := Lib.hid hI
  obtain rfl : (0 : Int) = re := by rw [← hI.res, h6]; rfl
  have e1 := cell_of_one (t := 77) (boxStays HK2.out hI.bel)
  have f1 := frozen_of_row _ (z + 1) 0 _ _ (boxStays HK2.out hI.bel)
  have e2 := cell_of_one (t := 4) (boxStays HB2.out hI.bel)
  have f2 := frozen_of_row _ (z + 1 + 1) 0 _ _ (boxStays HB2.out hI.bel)
  clear HIter hI hK
  simp only [Exit.inBlock]
  go_wp2_with fail
  try rw [Exit.noGoto_ret]
  show LeavesInM _ _ _ _ _ _ (marks [D]) _ _
  refine leaves_marks [D] _ (by simp) (fun p hp => ?_) ?_
  · obtain rfl : p = (D, .deferred (some [])) := by simpa [markF] using hp
    refine (Below.heap_setCell _ _ _ _ (by have := ZW.out; simp; omega)).trans ((Below.heap_setCell _ _ _ _ (by have := ZW.out; simp; omega)).trans HKD.out)
  · intro W' q1 q2 q3 q4 q5
    have X1 : ((W1.setCell ⟨z + 1, 0, none⟩ (.int .i64 0)).setCell ⟨z + 1 + 1, 0, none⟩ (.bool false)).heap[z + 1]? = some (.cells #[.int .i64 0] 77 (0, 0)) := (Below.heap_setCell _ _ _ _ (by simp)).trans (Boxed.set (t := 77) _ (boxStays HK2.out HI.out.bel))
    have X2 : ((W1.setCell ⟨z + 1, 0, none⟩ (.int .i64 0)).setCell ⟨z + 1 + 1, 0, none⟩ (.bool false)).heap[z + 1 + 1]? = some (.cells #[.bool false] 4 (0, 0)) := Boxed.set (t := 4) _ ((Below.heap_setCell _ _ _ _ (by simp)).trans (boxStays HB2.out HI.out.bel))
    have k1 := cell_of_one ((q5 (z + 1) (by have := ZW.out; simp; omega)).trans X1)
    have k2 := cell_of_one ((q5 (z + 1 + 1) (by have := ZW.out; simp; omega)).trans X2)
    have B9 := ((BW.out.trans (HI.out.bel.mono ZW.out.2.2)).setCell (p := ⟨z + 1, 0, none⟩) (by have := ZW.out.1; show w.heap.size ≤ z + 1; omega) (.int .i64 0)).setCell (p := ⟨z + 1 + 1, 0, none⟩) (by have := ZW.out.1; show w.heap.size ≤ z + 1 + 1; omega) (.bool false)
    have bW : Below w.heap.size w W' := ⟨q1.trans B9.os, q2.trans B9.tape, q3.trans B9.output, by rw [q4]; exact B9.size, fun k hk => (q5 k (by have := ZW.out; simp; omega)).trans (B9.block k hk)⟩
    exact ⟨.tuple #[.int .i64 0, .bool false], by simp [results, Tryz.results73, go_sem, k1, k2], rfl, bW⟩
 case stop =>
  rintro D c pre W1 hD hSp ⟨rfl, hX⟩ hK
  have HKD := Lib.hid hK
  have HX := Lib.hid hX
  clear HIter hX hK
  gi_wp2
  go_wp2_with fail
  try rw [Exit.noGoto_ret]
  show LeavesInM _ _ _ _ _ _ (marks [D]) _ _
  refine leaves_marks [D] _ (by simp) (fun p hp => ?_) ?_
  · obtain rfl : p = (D, .deferred (some [])) := by simpa [markF] using hp
    exact HKD.out
  · intro W' q1 q2 q3 q4 q5
    have k1 := cell_of_one ((q5 (z + 1) (by have := ZW.out; simp; omega)).trans HX.out.r1)
    have k2 := cell_of_one ((q5 (z + 1 + 1) (by have := ZW.out; simp; omega)).trans HX.out.r2)
    have B9 := HX.out.bel
    have bW : Below w.heap.size w W' := ⟨q1.trans B9.os, q2.trans B9.tape, q3.trans B9.output, by rw [q4]; exact B9.size, fun k hk => (q5 k (by have := ZW.out; simp; omega)).trans (B9.block k hk)⟩
    have hne : decide (re ≠ 0) = true := decide_eq_true HX.out.ne
    exact ⟨.tuple #[.int .i64 re, .bool true], by simp [results, Tryz.results73, go_sem, k1, k2], by rw [hne], bW⟩
end Go.Proofs.YtjlliohjeiclaaaGreatDoor
namespace Go.Proofs.YtjlliohjeiclaaaGreatDoor
open Go.RowKit St Pm Ku Kn
namespace Kn
def delG (t : ByteArray) (l : List Ev) : List Ev := l.filter fun e => !decide (e.2 = t)
end Kn
open Kn
theorem own_zero (w : World) (base : Nat) (e : TypeId) (size : Nat) (hb : base ≤ w.heap.size) : (w.alloc (.cells #[] e)).ownsRow base e size (.slice (some ⟨w.heap.size, 0, none⟩) 0 0) 0 [] :=
 ⟨by simp, .inr ⟨w.heap.size, 0, #[], rfl, hb, heap_alloc_new w _, Nat.le_refl _, Nat.zero_le _, by simp, by simp⟩⟩
set_option maxRecDepth 100000 in
set_option maxHeartbeats 2000000 in
theorem sl_Clone (l : List Ev) (a : Option Addr) (n c : Nat) (w : World) (hl : CellsAt w a (elsV l)) (hn : n = l.length) (hb : n ≤ 1000000) :
 Calls Tryz.prog 78 #[.slice a n c] w fun e w' => ∃ a' k, e = .returned (.slice a' n k) ∧ w'.ownsRow w.heap.size 53 6 (.slice a' n k) n (elsV l) ∧ Below w.heap.size w w' := by
 have ET := Lib.hid elT
 have SRC : Hid (∀ W, Below w.heap.size w W → Src Tryz.prog 6 22 (.slice a n c) n (elsV l) W) := Lib.hid (fun W hW => (hl.below hW rfl).srcN (by rw [elsV_length, hn]) (elsV_one l) Tryz.underlying22 c (by decide))
 have HN := Lib.hid hn
 have hNIL := fun W => Lib.run_eql_slice_nil (P := Tryz.prog) W 22 53 a n c 0 0 Tryz.underlying22
 cases a with
 | none =>
  have e0 : n = 0 := by
   rcases Nat.eq_zero_or_pos n with h | h
   · exact h
   · obtain ⟨_, _, e, _⟩ := els_get hl 0 (by rw [← hn]; exact h)
     cases e
  subst e0
  obtain rfl : l = [] := List.length_eq_zero_iff.1 hn.symm
  clear hl hn
  simp only [Option.isNone_none] at hNIL
  go_enter Tryz.func78, Tryz.ntmps78
  go_wp2_with fail
  go_ret
  exact ⟨none, 0, rfl, ⟨rfl, Or.inl ⟨rfl, rfl⟩⟩, Below.refl _ _⟩
 | some ad =>
  clear hl hn
  simp only [Option.isNone_some] at hNIL
  go_enter Tryz.func78, Tryz.ntmps78
  go_wp2_with (at_builtin; go_must (refine wpList_app rfl _ _ 22 22 rfl w.heap.size 53 _ 6 64 ET.out (.slice (some ⟨w.heap.size, 0, none⟩) 0 0) 0 [] rfl (own_zero w w.heap.size 53 6 (Nat.le_refl _)) _ n (elsV l) rfl (SRC.out _ (below_new w _)) (by omega) (by omega) (by simp) ?_); go_must (intro v6 w6 hown _ hbel _); go_must (rw [Nat.zero_add, List.nil_append] at hown); go_must (obtain ⟨ar, cr, rfl, hnc, _⟩ := own_slice hown); have HO := Lib.hid hown; have HB := Lib.hid ((below_new w (.cells #[] 53)).trans hbel); clear hown hnc hbel)
  go_ret
  exact ⟨ar, cr, rfl, HO.out, HB.out⟩
set_option maxRecDepth 100000 in
theorem kn_Apply1 (x : Ev) (l : List Value) (t : ByteArray) (zo : Nat) (a0 k0 x0 d0 m0 : Value) (w : World) (ho : w.heap[zo]? = some (.cells #[a0, k0, x0, d0, m0, .string t] 82 (0, 0))) :
 Calls Tryz.prog 80 #[.agg #[.int .i64 x.1.g, .int .i64 x.1.r, .string x.1.l, .int .i64 x.1.n, .int .i64 x.1.i, .string x.2], .pointer (some ⟨zo, 0, none⟩)] w fun e w' => e = .returned (.bool (decide (x.2 = t))) ∧ Below w.heap.size w w' := by
 obtain ⟨s, y⟩ := x
 obtain ⟨g1, r1, l1, n1, i1⟩ := s
 have hbo := boxStays ho (below_new w (.cells #[.int .i64 g1, .int .i64 r1, .string l1, .int .i64 n1, .int .i64 i1, .string y] 53))
 have q5 := cell_of_row _ zo 5 _ _ _ hbo
 have q5' := cell_of_row _ zo 5 _ _ _ ho
 have HV : Hid (decide (y = t) = (y.toList == t.toList)) := Lib.hid (by rw [Pm.eq_iff])
 clear ho hbo
 go_enter Tryz.func80, Tryz.ntmps80
 go_wp2_with fail
 go_ret
 exact ⟨by rw [HV.out]; rfl, below_new _ _⟩
end Go.Proofs.YtjlliohjeiclaaaGreatDoor
namespace Go.Proofs.YtjlliohjeiclaaaGreatDoor
open Go.RowKit
theorem own_setM {w : World} {base size n g cap : Nat} {e : TypeId} {xs : List Value} (h : w.ownsRow base e size (.slice (some ⟨g, 0, none⟩) n cap) n xs) (i : Nat) (u : Value) :
 (w.setCell ⟨g, i, none⟩ u).ownsRow base e size (.slice (some ⟨g, 0, none⟩) n cap) n (xs.set i u) := by
 refine ⟨by simpa using h.1, ?_⟩
 rcases h.2 with ⟨hv, _⟩ | ⟨g', cap', cur, hv, h1, h2, h3, h4, h5, h6⟩
 · cases hv
 · simp only [Value.slice.injEq, Option.some.injEq, Addr.mk.injEq] at hv
   obtain ⟨⟨rfl, _⟩, _, rfl⟩ := hv
   refine .inr ⟨g, cap, cur.setIfInBounds i u, rfl, h1, heap_setCell_same w g i cur e u h2, h3, h4, by simpa using h5, ?_⟩
   rw [Array.toList_setIfInBounds, List.take_set, h6]
theorem own_mid {base size n g cap : Nat} {e : TypeId} : ∀ (vs : List Value) (o : Nat) (w : World) (xs : List Value), w.ownsRow base e size (.slice (some ⟨g, 0, none⟩) n cap) n xs → o + vs.length ≤ xs.length →
 (w.setCells g o vs).ownsRow base e size (.slice (some ⟨g, 0, none⟩) n cap) n (xs.take o ++ vs ++ xs.drop (o + vs.length))
 | [], o, w, xs, h, _ => by simpa [World.setCells] using h
 | v :: r, o, w, xs, h, ho => by
  have h1 := own_mid r (o + 1) _ _ (own_setM h o v) (by simp at ho ⊢; omega)
  rw [World.setCells]
  have e1 : (xs.set o v).take (o + 1) ++ r ++ (xs.set o v).drop (o + 1 + r.length) = xs.take o ++ v :: r ++ xs.drop (o + (v :: r).length) := by
   have hlt : o < xs.length := by simp at ho; omega
   rw [List.take_succ_eq_append_getElem (by simpa using hlt), List.take_set_of_le (Nat.le_refl _), List.drop_set_of_lt (by omega)]
   simp
   congr 1
   omega
  rw [e1] at h1
  exact h1
theorem grown_setCells (g : Nat) : ∀ (vs : List Value) (o : Nat) (w : World), w.grownBy (w.setCells g o vs) (some g)
 | [], _, _ => ⟨rfl, rfl, rfl, Nat.le_refl _, fun _ _ _ => rfl⟩
 | v :: r, o, w => grown_tr (grown_set w g o v) (grown_setCells g r (o + 1) _)
theorem own_cellM {w : World} {base size n g cap : Nat} {e : TypeId} {xs : List Value} (h : w.ownsRow base e size (.slice (some ⟨g, 0, none⟩) n cap) n xs) (i : Nat) (hi : i < xs.length) :
 w.cell? ⟨g, i, none⟩ = some xs[i] ∧ w.frozen? ⟨g, i, none⟩ = false := by
 rcases h.2 with ⟨hv, _⟩ | ⟨g', cap', cur, hv, hb, hg, hnc, _, hcs, ht⟩
 · cases hv
 · simp only [Value.slice.injEq, Option.some.injEq, Addr.mk.injEq] at hv
   obtain ⟨⟨rfl, _⟩, _, rfl⟩ := hv
   refine ⟨?_, frozen_of_row w g i cur e hg⟩
   rw [cell_of_row w g i cur e _ hg]
   have h2 : cur.toList.take xs.length = xs := by have := h.1; first | exact ht | (rw [this]; exact ht)
   have h3 : (cur.toList.take xs.length)[i]? = some xs[i] := by rw [h2]; simp [hi]
   rw [List.getElem?_take_of_lt hi] at h3
   simpa using h3
theorem own_there {w : World} {base size n g cap : Nat} {e : TypeId} {xs : List Value} (h : w.ownsRow base e size (.slice (some ⟨g, 0, none⟩) n cap) n xs) (o m : Nat) (hm : o + m ≤ xs.length) : w.there g o m := fun j hj => by
 obtain ⟨h1, h2⟩ := own_cellM h (o + j) (by omega)
 exact ⟨by rw [h1]; rfl, h2⟩
theorem own_range {w : World} {base size n g cap : Nat} {e : TypeId} {xs : List Value} (h : w.ownsRow base e size (.slice (some ⟨g, 0, none⟩) n cap) n xs) (o : Nat) (vs r : List Value) (hd : xs.drop o = vs ++ r) : w.rangeAt g o vs := fun j v hv => by
 have h0 : xs[o + j]? = some v := by
  rw [← List.getElem?_drop, hd, List.getElem?_append_left (List.getElem?_eq_some_iff.1 hv).1]
  exact hv
 obtain ⟨hlt, he⟩ := List.getElem?_eq_some_iff.1 h0
 rw [(own_cellM h (o + j) hlt).1, he]
theorem own_takeM {w : World} {base size n g cap : Nat} {e : TypeId} {xs : List Value} (h : w.ownsRow base e size (.slice (some ⟨g, 0, none⟩) n cap) n xs) (k : Nat) (hk : k ≤ n) :
 w.ownsRow base e size (.slice (some ⟨g, 0, none⟩) k cap) k (xs.take (k * size)) := by
 have hm := Nat.mul_le_mul_right size hk
 refine ⟨by rw [List.length_take, h.1]; omega, ?_⟩
 rcases h.2 with ⟨hv, _⟩ | ⟨g', cap', cur, hv, h1, h2, h3, h4, h5, h6⟩
 · cases hv
 · simp only [Value.slice.injEq, Option.some.injEq, Addr.mk.injEq] at hv
   obtain ⟨⟨rfl, _⟩, _, rfl⟩ := hv
   refine .inr ⟨g, cap, cur, rfl, h1, h2, by omega, h4, h5, ?_⟩
   rw [← h6, List.take_take]
   congr 1
   omega
theorem cellsFromM {w : World} {a : Option Addr} {vs : List Value} {size len : Nat} (h : CellsAt w a vs) (hv : vs.length = len * size) (cap l : Nat) (hl : l ≤ len) (hc : len ≤ cap) : CellsAt w (subN a cap l size) (vs.drop (l * size)) := by
 unfold subN
 by_cases e : cap = l
 · rw [if_pos e]
   have : vs.drop (l * size) = [] := by
    apply List.drop_of_length_le
    rw [hv, show l = len by omega]
    exact Nat.le_refl _
   rw [this]; exact CellsAt.nil _ _
 · rw [if_neg e]; exact h.drop _
theorem run_clearM {P : Program} (w : World) (t e ty : TypeId) (z : Value) (ht : P.underlying t = some (.slice e)) (hv : ∀ w, (zeroValue e).run P w = .ok z w) (h1 : ∀ v ∈ z.cells, v.oneCell' = true) (b o n c : Nat) (hn : 0 < n)
 (hth : w.there b o (n * z.cells.size)) :
 (Builtin.clear_ #[t] ty #[.slice (some ⟨b, o, none⟩) n c]).run P w = .ok (.tuple #[]) (w.setCells b o (Builtin.zeroCells z.cells n).toList) := by
 have hlen : (Builtin.zeroCells z.cells n).toList.length = n * z.cells.size := by simp [Builtin.zeroCells]
 have hst := run_storeCells_cells (P := P) b o (Builtin.zeroCells z.cells n).toList 0 w (fun j hj => by simpa using (hth j (by rw [← hlen]; exact hj)).1) (fun j hj => by simpa using (hth j (by rw [← hlen]; exact hj)).2) (by
  intro v hv'
  simp only [Builtin.zeroCells, Array.toList_map, List.mem_map, Array.toList_range, List.mem_range] at hv'
  obtain ⟨i, hi, rfl⟩ := hv'
  have hz : 0 < z.cells.size := by
   rcases Nat.eq_zero_or_pos z.cells.size with h | h
   · rw [h] at hi; omega
   · exact h
  have hlt := Nat.mod_lt i hz
  rw [getElem!_pos z.cells (i % z.cells.size) hlt]
  exact h1 _ (Array.getElem_mem hlt))
 simp only [Nat.add_zero] at hst
 obtain ⟨m, rfl⟩ : ∃ m, n = m + 1 := ⟨n - 1, by omega⟩
 simp [Builtin.clear_, run_underlying ht, hv, hst]
end Go.Proofs.YtjlliohjeiclaaaGreatDoor
namespace Go.Proofs.YtjlliohjeiclaaaGreatDoor
open Go.RowKit St Pm Ku Kn
namespace Kn
theorem del_all {t : ByteArray} {l : List Ev} (h : ∀ e ∈ l, e.2 ≠ t) : delG t l = l := List.filter_eq_self.2 fun e he => by simp [h e he]
theorem del_snoc (t : ByteArray) (l : List Ev) (x : Ev) : delG t (l ++ [x]) = if x.2 = t then delG t l else delG t l ++ [x] := by
 unfold delG
 rw [List.filter_append]
 by_cases h : x.2 = t <;> simp [h]
theorem del_len (t : ByteArray) (l : List Ev) : (delG t l).length ≤ l.length := List.length_filter_le _ _
end Kn
open Kn
def OpBox (zo : Nat) (t : ByteArray) (W : World) : Prop := ∃ a0 k0 x0 d0 m0 : Value, W.heap[zo]? = some (.cells #[a0, k0, x0, d0, m0, .string t] 82 (0, 0))
theorem OpBox.below {zo : Nat} {t : ByteArray} {W W' : World} (h : OpBox zo t W) (hb : Below W.heap.size W W') : OpBox zo t W' := by
 obtain ⟨a, b, c, d, e, h⟩ := h
 exact ⟨a, b, c, d, e, boxStays h hb⟩
theorem kn_Apply1B (x : Ev) (t : ByteArray) (zo : Nat) (w : World) (ho : OpBox zo t w) :
 Calls Tryz.prog 80 #[.agg #[.int .i64 x.1.g, .int .i64 x.1.r, .string x.1.l, .int .i64 x.1.n, .int .i64 x.1.i, .string x.2], .pointer (some ⟨zo, 0, none⟩)] w fun e w' => e = .returned (.bool (decide (x.2 = t))) ∧ Below w.heap.size w w' := by
 obtain ⟨a, b, c, d, e, h⟩ := ho
 exact kn_Apply1 x [] t zo a b c d e w h
set_option maxRecDepth 100000 in
set_option maxHeartbeats 2000000 in
theorem sl_IndexFunc (l : List Ev) (t : ByteArray) (zo : Nat) (a : Option Addr) (n c : Nat) (w : World) (hl : CellsAt w a (elsV l)) (hn : n = l.length) (hb : n ≤ 1000000) (ho : OpBox zo t w) :
 Calls Tryz.prog 123 #[.slice a n c, .func (.func 80) #[] #[.pointer (some ⟨zo, 0, none⟩)]] w fun e w' => ∃ r : Int, e = .returned (.int .i64 r) ∧ ((r = -1 ∧ ∀ e ∈ l, e.2 ≠ t) ∨ ∃ i : Nat, r = (i : Int) ∧ i < l.length ∧ delG t (l.take (i + 1)) = l.take i) ∧ Below w.heap.size w w' := by
 have HL := Lib.hid hl
 have HN := Lib.hid hn
 have HO := Lib.hid ho
 clear hl hn ho
 go_enter Tryz.func123, Tryz.ntmps123
 go_wp2_with fail
 go_loopw [5, 8] (fun _ i wr => ∃ q : Nat, i = .int .i64 (q : Int) ∧ q ≤ n ∧ Hid (∀ e ∈ l.take q, e.2 ≠ t) ∧ Hid (Below w.heap.size w wr)) (fun _ i _ => n - (intOf i).toNat)
 case atStart => exact ⟨0, rfl, Nat.zero_le _, Lib.hid (fun e he => by simp at he), Lib.hid (Below.refl _ _)⟩
 case round =>
  obtain ⟨q, rfl, hq, HQ, HB⟩ := hrel
  by_cases hlt : q < n
  · have hqi : (q : Int) < (n : Int) := by omega
    have hql : q < l.length := by have := HN.out; omega
    obtain ⟨ba, oa, rfl, ca⟩ := els_get (HL.out.below HB.out rfl) q hql
    obtain ⟨x, hx⟩ : ∃ x, l[q] = x := ⟨_, rfl⟩
    have HX : Hid (l.take (q + 1) = l.take q ++ [x]) := Lib.hid (by rw [List.take_succ_eq_append_getElem hql, hx])
    rw [hx] at ca
    obtain ⟨p0, p1, p2, p3, p4, p5⟩ := ca
    clear hx
    go_wp2_with fail
    refine (kn_Apply1B x t zo _ (HO.out.below HB.out)).mono ?_
    rintro e w2 ⟨rfl, hb2⟩
    have HB2 := Lib.hid (HB.out.trans (hb2.mono HB.out.size))
    clear hb2 p0 p1 p2 p3 p4 p5
    by_cases hxt : x.2 = t
    · rw [show decide (x.2 = t) = true from decide_eq_true hxt]
      have FIN : Hid (delG t (l.take (q + 1)) = l.take q) := Lib.hid (by rw [HX.out, del_snoc, if_pos hxt, del_all HQ.out])
      clear hxt
      go_wp2_with fail
      go_ret
      exact ⟨_, rfl, .inr ⟨q, rfl, by have := HN.out; omega, FIN.out⟩, HB2.out⟩
    · rw [show decide (x.2 = t) = false from decide_eq_false hxt]
      have HQ2 : Hid (∀ e ∈ l.take (q + 1), e.2 ≠ t) := Lib.hid (fun e he => by
       rw [HX.out] at he
       rcases List.mem_append.1 he with h | h
       · exact HQ.out e h
       · rw [List.mem_singleton.1 h]; exact hxt)
      clear hxt
      go_wp2_with fail
      go_roundw
      case rel => exact ⟨q + 1, by go_num, by omega, HQ2, HB2⟩
      case measure => simp [intOf]; omega
  · obtain rfl : q = n := by omega
    have hqi : ¬ (q : Int) < (q : Int) := by omega
    have FIN : Hid (∀ e ∈ l, e.2 ≠ t) := Lib.hid (by have := HQ.out; rw [List.take_of_length_le (by rw [← HN.out]; exact Nat.le_refl _)] at this; exact this)
    clear HQ
    go_wp2_with fail
    go_ret
    exact ⟨_, rfl, .inl ⟨rfl, by first | exact FIN.out | exact fun a b h => FIN.out (a, b) h⟩, HB.out⟩
structure DelI (t : ByteArray) (l : List Ev) (xs : List Value) (p q : Nat) : Prop where
 len : xs.length = l.length * 6
 pq : p ≤ q
 qn : q ≤ l.length
 cnt : p = (delG t (l.take q)).length
 fst : xs.take (p * 6) = elsV (delG t (l.take q))
 rest : xs.drop (q * 6) = elsV (l.drop q)
theorem DelI.keep {t : ByteArray} {l : List Ev} {xs : List Value} {p q : Nat} (h : DelI t l xs p q) (hq : q < l.length) (ht : l[q].2 = t) : DelI t l xs p (q + 1) := by
 have e : l.take (q + 1) = l.take q ++ [l[q]] := List.take_succ_eq_append_getElem hq
 refine ⟨h.len, Nat.le_succ_of_le h.pq, hq, ?_, ?_, ?_⟩
 · rw [e, del_snoc, if_pos ht]; exact h.cnt
 · rw [e, del_snoc, if_pos ht]; exact h.fst
 · have h1 := h.rest
   rw [List.drop_eq_getElem_cons hq, elsV_cons] at h1
   have h2 : xs.drop ((q + 1) * 6) = (xs.drop (q * 6)).drop 6 := by rw [List.drop_drop]; congr 1; omega
   rw [h2, h1]
   rfl
theorem DelI.put {t : ByteArray} {l : List Ev} {xs : List Value} {p q : Nat} (h : DelI t l xs p q) (hq : q < l.length) (ht : l[q].2 ≠ t) : DelI t l (xs.take (p * 6) ++ elV l[q] ++ xs.drop (p * 6 + (elV l[q]).length)) (p + 1) (q + 1) := by
 have e : l.take (q + 1) = l.take q ++ [l[q]] := List.take_succ_eq_append_getElem hq
 have e6 : (elV l[q]).length = 6 := rfl
 have hp := h.pq
 have hl := h.len
 have ht1 : (xs.take (p * 6)).length = p * 6 := by rw [List.length_take]; omega
 refine ⟨?_, Nat.succ_le_succ h.pq, hq, ?_, ?_, ?_⟩
 · simp only [List.length_append, ht1, e6, List.length_drop]; omega
 · rw [e, del_snoc, if_neg ht, List.length_append, ← h.cnt]; rfl
 · rw [e, del_snoc, if_neg ht, elsV_append, ← h.fst]
   rw [List.take_append_of_le_length (by simp only [List.length_append, ht1, e6]; omega), List.take_of_length_le (by simp only [List.length_append, ht1, e6]; omega)]
   rfl
 · have h1 := h.rest
   rw [List.drop_eq_getElem_cons hq, elsV_cons] at h1
   have h2 : xs.drop ((q + 1) * 6) = (xs.drop (q * 6)).drop 6 := by rw [List.drop_drop]; congr 1; omega
   have h3 : (xs.take (p * 6) ++ elV l[q] ++ xs.drop (p * 6 + 6)).drop ((q + 1) * 6) = xs.drop ((q + 1) * 6) := by
    rw [List.drop_append, List.drop_of_length_le (by simp only [List.length_append, ht1, e6]; omega), List.nil_append, List.drop_drop]
    congr 1
    simp only [List.length_append, ht1, e6]; omega
   rw [e6, h3, h2, h1]
   rfl
theorem run_uptoM {P : Program} (w : World) (t e : TypeId) (ht : P.underlying t = some (.slice e)) (size : Nat) (hz : ∀ w, (Go.sizeOf e).run P w = .ok size w) (g len cap k : Nat) (hk : k ≤ cap) :
 (Instr.slice t (.slice (some ⟨g, 0, none⟩) len cap) none (some (.int .i64 (k : Int))) none).run P w = .ok (.slice (some ⟨g, 0, none⟩) k cap) w := by
 have ht' : P.underlying t = some (.slice (P.elem t)) := by simp [Program.elem, ht]
 have he : P.elem t = e := by simp [Program.elem, ht]
 rw [run_slice_h w t _ _ _ ht' .i64 _ (by omega) (by omega), he, hz]
 simp [Result.andThen, sliced, Addr_add]
theorem range_el {w : World} {b o : Nat} {e : Ev} (h : w.rangeAt b o (elV e)) : ElCell w b o e := ⟨by simpa using h 0 _ rfl, h 1 _ rfl, h 2 _ rfl, h 3 _ rfl, h 4 _ rfl, h 5 _ rfl⟩
set_option maxRecDepth 100000 in
set_option maxHeartbeats 4000000 in
theorem sl_DeleteFunc (l : List Ev) (t : ByteArray) (zo B : Nat) (a : Option Addr) (n k : Nat) (w : World) (hown : w.ownsRow B 53 6 (.slice a n k) n (elsV l)) (hn : n = l.length) (hb : n ≤ 1000000) (hnk : n ≤ k) (ho : OpBox zo t w) (hz : zo < B) :
 Calls Tryz.prog 79 #[.slice a n k, .func (.func 80) #[] #[.pointer (some ⟨zo, 0, none⟩)]] w fun e w' => e = .returned (.slice a (delG t l).length k) ∧ w'.ownsRow B 53 6 (.slice a (delG t l).length k) (delG t l).length (elsV (delG t l)) ∧ w.grownBy w' (Value.slice a n k).ownBlock := by
 have OW := Lib.hid hown
 have HN := Lib.hid hn
 have HO := Lib.hid ho
 have HZ := Lib.hid hz
 clear hown hn ho hz
 go_enter Tryz.func79, Tryz.ntmps79
 go_wp2_with fail
 refine (sl_IndexFunc l t zo a n k w (CellsAt.ownN OW.out) HN.out hb HO.out).mono ?_
 rintro e w1 ⟨r, rfl, hr, hb1⟩
 have HB1 := Lib.hid hb1
 have OW1 := Lib.hid (own_below OW.out hb1 (fun k' hk => (OW.out.lt k' hk).2))
 have GR1 : Hid (w.grownBy w1 (Value.slice a n k).ownBlock) := Lib.hid (grown_below hb1 (Nat.le_refl _))
 clear hb1
 rcases hr with ⟨rfl, hall⟩ | ⟨i, rfl, hi, htk⟩
 · have FIN : Hid (delG t l = l) := Lib.hid (del_all hall)
   clear hall
   go_wp2_with fail
   go_ret
   rw [FIN.out, ← HN.out]
   exact ⟨rfl, OW1.out, GR1.out⟩
 · obtain ⟨g, k', e1, _, _, _, _⟩ := own_form OW.out (by have := HN.out; omega)
   obtain ⟨rfl, rfl⟩ : a = some ⟨g, 0, none⟩ ∧ k = k' := by simpa using e1
   clear e1
   have hin : i < n := by rw [HN.out]; exact hi
   have DI : Hid (DelI t l (elsV l) i (i + 1)) := Lib.hid ⟨elsV_length l, Nat.le_succ _, hi, by rw [htk, List.length_take]; omega, by rw [htk, elsV_take], by rw [elsV_drop]⟩
   have hiw : IntKind.i64.wrap ((i : Int) + 1) = (i : Int) + 1 := by rw [IntKind.wrap_i64]; omega
   have hineg : ((i : Int) == -1) = false := by simp <;> omega
   clear hi htk
   have GR1' : Hid (w.grownBy w1 (some g)) := GR1
   have OB1 : Hid (OpBox zo t w1) := Lib.hid (HO.out.below HB1.out)
   have HEL : Hid (∀ (q : Nat) (hq : q < l.length) (xs : List Value) (W : World), DelI t l xs (0 : Nat) q → True) := Lib.hid (fun _ _ _ _ _ => trivial)
   clear HEL
   go_wp2_with fail
   go_loopw [5, 6, 7] (fun ii jj _ wr => ∃ (p q : Nat) (xs : List Value), ii = .int .i64 (p : Int) ∧ jj = .int .i64 (q : Int) ∧ p < q ∧ q ≤ n ∧ Hid (DelI t l xs p q) ∧ Hid (wr.ownsRow B 53 6 (.slice (some ⟨g, 0, none⟩) n k) n xs) ∧ Hid (w.grownBy wr (some g)) ∧ Hid (OpBox zo t wr)) (fun _ jj _ _ => n - (intOf jj).toNat)
   case atStart => exact ⟨i, i + 1, _, rfl, by go_num, by omega, by omega, DI, OW1, GR1', OB1⟩
   case round =>
    obtain ⟨p, q, xs, rfl, rfl, hpq, hqn, HD, HOW, HGR, HOB⟩ := hrel
    by_cases hlt : q < n
    · have hqi : (q : Int) < (n : Int) := by omega
      have hpi : (p : Int) < (n : Int) := by omega
      have hql : q < l.length := by have := HN.out; omega
      obtain ⟨x, hx⟩ : ∃ x, l[q] = x := ⟨_, rfl⟩
      have HX := Lib.hid hx
      have HRG : Hid (ElCell wr g (q * 6) x) := Lib.hid (range_el (own_range HOW.out (q * 6) (elV x) (elsV (l.drop (q + 1))) (by rw [HD.out.rest, List.drop_eq_getElem_cons hql, hx, elsV_cons])))
      obtain ⟨p0, p1, p2, p3, p4, p5⟩ := HRG.out
      have hpw : IntKind.i64.wrap ((p : Int) + 1) = (p : Int) + 1 := by rw [IntKind.wrap_i64]; omega
      have hqw : IntKind.i64.wrap ((q : Int) + 1) = (q : Int) + 1 := by rw [IntKind.wrap_i64]; omega
      clear hx
      go_wp2_with fail
      have BA := Lib.hid (below_new wr (.cells #[.int .i64 x.1.g, .int .i64 x.1.r, .string x.1.l, .int .i64 x.1.n, .int .i64 x.1.i, .string x.2] 53))
      have HY := Lib.hid (heap_alloc_new wr (.cells #[.int .i64 x.1.g, .int .i64 x.1.r, .string x.1.l, .int .i64 x.1.n, .int .i64 x.1.i, .string x.2] 53))
      refine (kn_Apply1B x t zo _ (HOB.out.below BA.out)).mono ?_
      rintro e w2 ⟨rfl, hb2⟩
      have B2 := Lib.hid (BA.out.trans (hb2.mono BA.out.size))
      have HY2 := Lib.hid (boxStays HY.out hb2)
      have OW2 := Lib.hid (own_below HOW.out B2.out (fun k' hk => (HOW.out.lt k' hk).2))
      have GR2 : Hid (w.grownBy w2 (some g)) := Lib.hid (grown_tr HGR.out (grown_below B2.out (Nat.le_refl _)))
      have OB2 := Lib.hid (HOB.out.below B2.out)
      clear hb2 p0 p1 p2 p3 p4 p5 HY HRG BA
      by_cases hxt : x.2 = t
      · rw [show decide (x.2 = t) = true from decide_eq_true hxt]
        have HD2 := Lib.hid (HD.out.keep hql (by rw [HX.out]; exact hxt))
        clear hxt
        go_wp2_with fail
        go_roundw
        case rel => exact ⟨p, q + 1, xs, rfl, by go_num, by omega, by omega, HD2, OW2, GR2, OB2⟩
        case measure => simp [intOf]; omega
      · rw [show decide (x.2 = t) = false from decide_eq_false hxt]
        have HD2 := Lib.hid (HD.out.put hql (by rw [HX.out]; exact hxt))
        rw [HX.out] at HD2
        have hlen : p * 6 + 6 ≤ xs.length := by rw [HD.out.len]; have := HN.out; omega
        have HT : Hid (w2.there g (p * 6) (#[.int .i64 x.1.g, .int .i64 x.1.r, .string x.1.l, .int .i64 x.1.n, .int .i64 x.1.i, .string x.2] : Array Value).size) := Lib.hid (own_there OW2.out (p * 6) 6 hlen)
        have H1 : Hid ((#[.int .i64 x.1.g, .int .i64 x.1.r, .string x.1.l, .int .i64 x.1.n, .int .i64 x.1.i, .string x.2] : Array Value).all (·.oneCell') = true) := Lib.hid (by simp [Value.oneCell'])
        have HI6 : Hid ((Tryz.prog.info? 53).map (·.size) = some (#[.int .i64 x.1.g, .int .i64 x.1.r, .string x.1.l, .int .i64 x.1.n, .int .i64 x.1.i, .string x.2] : Array Value).size) := Lib.hid (by kernel_rfl)
        have OW3 := Lib.hid (own_mid (elV x) (p * 6) _ _ OW2.out hlen)
        have GR3 : Hid (w.grownBy (w2.setCells g (p * 6) (elV x)) (some g)) := Lib.hid (grown_tr GR2.out (grown_setCells g (elV x) (p * 6) w2))
        have OB3 : Hid (OpBox zo t (w2.setCells g (p * 6) (elV x))) := Lib.hid (by
         obtain ⟨c1, c2, c3, c4, c5, h⟩ := OB2.out
         exact ⟨c1, c2, c3, c4, c5, grow_keep (grown_setCells g (elV x) (p * 6) w2) h (fun e => by have h1 := HZ.out; have h2 := (OW2.out.lt g rfl).1; have h3 := Option.some.inj e; omega)⟩)
        have q0 := cell_of_row _ _ 0 _ _ _ HY2.out
        have q1 := cell_of_row _ _ 1 _ _ _ HY2.out
        have q2 := cell_of_row _ _ 2 _ _ _ HY2.out
        have q3 := cell_of_row _ _ 3 _ _ _ HY2.out
        have q4 := cell_of_row _ _ 4 _ _ _ HY2.out
        have q5 := cell_of_row _ _ 5 _ _ _ HY2.out
        clear hxt
        go_upto_region 9 with (fail)
        go_upto_region 10 with (refine wpList_store_mid rfl 53 (.tmp 33) (.tmp 32) rfl g (p * 6) #[.int .i64 x.1.g, .int .i64 x.1.r, .string x.1.l, .int .i64 x.1.n, .int .i64 x.1.i, .string x.2] rfl rfl HT.out HI6.out H1.out ?_)
        simp only [Act.put]
        have OW3' : Hid ((w2.setCells g (p * 6) [.int .i64 x.1.g, .int .i64 x.1.r, .string x.1.l, .int .i64 x.1.n, .int .i64 x.1.i, .string x.2]).ownsRow B 53 6 (.slice (some ⟨g, 0, none⟩) n k) n (xs.take (p * 6) ++ elV x ++ xs.drop (p * 6 + (elV x).length))) := OW3
        have GR3' : Hid (w.grownBy (w2.setCells g (p * 6) [.int .i64 x.1.g, .int .i64 x.1.r, .string x.1.l, .int .i64 x.1.n, .int .i64 x.1.i, .string x.2]) (some g)) := GR3
        have OB3' : Hid (OpBox zo t (w2.setCells g (p * 6) [.int .i64 x.1.g, .int .i64 x.1.r, .string x.1.l, .int .i64 x.1.n, .int .i64 x.1.i, .string x.2])) := OB3
        clear OW3 GR3 OB3 HT H1 HI6 q0 q1 q2 q3 q4 q5 HY2
        generalize w2.setCells g (p * 6) [.int .i64 x.1.g, .int .i64 x.1.r, .string x.1.l, .int .i64 x.1.n, .int .i64 x.1.i, .string x.2] = w3 at *
        go_wp2_with fail
        go_roundw
        case rel => exact ⟨p + 1, q + 1, _, by go_num, by go_num, by omega, by omega, HD2, OW3', GR3', OB3'⟩
        case measure => simp [intOf]; omega
    · obtain rfl : q = n := by omega
      have hqi : ¬ (q : Int) < (q : Int) := by omega
      have hpn : p < q := hpq
      have hsl1 : ∀ W, (Instr.slice 22 (.slice (some ⟨g, 0, none⟩) q k) (some (.int .i64 (p : Int))) none none).run Tryz.prog W = .ok (.slice (some ⟨g, p * 6, none⟩) (q - p) (k - p)) W := fun W => by
       have h := run_from W 22 53 Tryz.underlying22 6 (fun w => by kernel_rfl) (some ⟨g, 0, none⟩) q k p _ rfl (by omega)
       rw [h]
       unfold subN
       rw [if_neg (by omega)]
       simp [Addr_add]
      have hsl2 : ∀ W, (Instr.slice 22 (.slice (some ⟨g, 0, none⟩) q k) none (some (.int .i64 (p : Int))) none).run Tryz.prog W = .ok (.slice (some ⟨g, 0, none⟩) p k) W := fun W => run_uptoM W 22 53 Tryz.underlying22 6 (fun w => by kernel_rfl) g q k p (by omega)
      have hxl : xs.length = q * 6 := by rw [HD.out.len, ← HN.out]
      have hzc : (Builtin.zeroCells (Value.agg #[.int .i64 0, .int .i64 0, .string ⟨#[]⟩, .int .i64 0, .int .i64 0, .string ⟨#[]⟩]).cells (q - p)).toList.length = (q - p) * 6 := by simp [Builtin.zeroCells, Value.cells]
      obtain ⟨w9, hw9⟩ : ∃ w9, wr.setCells g (p * 6) (Builtin.zeroCells (Value.agg #[.int .i64 0, .int .i64 0, .string ⟨#[]⟩, .int .i64 0, .int .i64 0, .string ⟨#[]⟩]).cells (q - p)).toList = w9 := ⟨_, rfl⟩
      have OW9 := own_mid (Builtin.zeroCells (Value.agg #[.int .i64 0, .int .i64 0, .string ⟨#[]⟩, .int .i64 0, .int .i64 0, .string ⟨#[]⟩]).cells (q - p)).toList (p * 6) _ _ HOW.out (by rw [hzc, hxl]; omega)
      rw [hw9] at OW9
      have GR9 : Hid (w.grownBy w9 (some g)) := Lib.hid (by rw [← hw9]; exact grown_tr HGR.out (grown_setCells g _ (p * 6) wr))
      have hclr : ∀ ty, (Builtin.clear_ #[22] ty #[.slice (some ⟨g, p * 6, none⟩) (q - p) (k - p)]).run Tryz.prog wr = .ok (.tuple #[]) w9 := fun ty => by
       rw [← hw9]
       exact run_clearM wr 22 53 ty _ Tryz.underlying22 Tryz.zeroValue53 (by simp [Value.cells, Value.oneCell']) g (p * 6) (q - p) (k - p) (by omega) (own_there HOW.out _ _ (by rw [hxl]; simp [Value.cells]; omega))
      have OWP := own_takeM OW9 p (by omega)
      have htk : (xs.take (p * 6) ++ (Builtin.zeroCells (Value.agg #[.int .i64 0, .int .i64 0, .string ⟨#[]⟩, .int .i64 0, .int .i64 0, .string ⟨#[]⟩]).cells (q - p)).toList ++ xs.drop (p * 6 + (Builtin.zeroCells (Value.agg #[.int .i64 0, .int .i64 0, .string ⟨#[]⟩, .int .i64 0, .int .i64 0, .string ⟨#[]⟩]).cells (q - p)).toList.length)).take (p * 6) = elsV (delG t l) := by
       rw [List.append_assoc, List.take_append_of_le_length (by rw [List.length_take, hxl]; omega), List.take_take, Nat.min_self, HD.out.fst]
       rw [List.take_of_length_le (by rw [← HN.out]; exact Nat.le_refl _)]
      rw [htk] at OWP
      have hpl : p = (delG t l).length := by rw [HD.out.cnt, List.take_of_length_le (by rw [← HN.out]; exact Nat.le_refl _)]
      have FIN : Hid (p = (delG t l).length) := Lib.hid hpl
      have OWF := Lib.hid OWP
      clear OW9 OWP htk hpl hw9 hzc hxl
      go_wp2_with fail
      go_ret
      rw [← FIN.out]
      exact ⟨rfl, OWF.out, GR9.out⟩
end Go.Proofs.YtjlliohjeiclaaaGreatDoor
