/- Words, contracts and walks that the proof stands on (KnH GrowM KnI KnJ). -/
import Derived.Deep.MidRow
import Derived.Lib.SliceRun
import Derived.Test.YtjlliohjeiclaaaDoorKA2
import Derived.Test.YtjlliohjeiclaaaDoorKA5
namespace Go.Proofs.YtjlliohjeiclaaaDoor
open Go.RowKit St Pm Ku Kn
namespace Kn
def delG (t : ByteArray) (l : List Ev) : List Ev := l.filter fun e => !decide (e.2 = t)
end Kn
open Kn
theorem own_zero (w : World) (base : Nat) (e : TypeId) (size : Nat) (hb : base ≤ w.heap.size) : (w.alloc (.cells #[] e)).ownsRow base e size (.slice (some ⟨w.heap.size, 0, none⟩) 0 0) 0 [] :=
 ⟨by simp, .inr ⟨w.heap.size, 0, #[], rfl, hb, heap_alloc_new w _, Nat.le_refl _, Nat.zero_le _, by simp, by simp⟩⟩
set_option maxRecDepth 100000 in
set_option maxHeartbeats 2000000 in
theorem sl_Clone (l : List Ev) (a : Option Addr) (n c : Nat) (w : World) (hl : CellsAt w a (elsV l)) (hn : n = l.length) (hb : n ≤ 1000000) :
 Calls Tryd.prog 84 #[.slice a n c] w fun e w' => ∃ a' k, e = .returned (.slice a' n k) ∧ w'.ownsRow w.heap.size 33 6 (.slice a' n k) n (elsV l) ∧ Below w.heap.size w w' := by
 have ET := Lib.hid elT
 have SRC : Hid (∀ W, Below w.heap.size w W → Src Tryd.prog 6 47 (.slice a n c) n (elsV l) W) := Lib.hid (fun W hW => (hl.below hW rfl).srcN (by rw [elsV_length, hn]) (elsV_one l) Tryd.underlying47 c (by decide))
 have HN := Lib.hid hn
 have hNIL := fun W => Lib.run_eql_slice_nil (P := Tryd.prog) W 47 33 a n c 0 0 Tryd.underlying47
 cases a with
 | none =>
  have e0 : n = 0 := by
   rcases Nat.eq_zero_or_pos n with h | h
   · exact h
   · obtain ⟨_, _, e, _⟩ := els_get hl 0 (by rw [← hn]; exact h)
     cases e
  subst e0
  obtain rfl : l = [] := List.length_eq_zero_iff.1 hn.symm
  clear hl hn
  simp only [Option.isNone_none] at hNIL
  go_enter Tryd.func84, Tryd.ntmps84
  go_wp2_with fail
  go_ret
  exact ⟨none, 0, rfl, ⟨rfl, Or.inl ⟨rfl, rfl⟩⟩, Below.refl _ _⟩
 | some ad =>
  clear hl hn
  simp only [Option.isNone_some] at hNIL
  go_enter Tryd.func84, Tryd.ntmps84
  go_wp2_with (at_builtin; go_must (refine wpList_app rfl _ _ 47 47 rfl w.heap.size 33 _ 6 64 ET.out (.slice (some ⟨w.heap.size, 0, none⟩) 0 0) 0 [] rfl (own_zero w w.heap.size 33 6 (Nat.le_refl _)) _ n (elsV l) rfl (SRC.out _ (below_new w _)) (by omega) (by omega) (by simp) ?_); go_must (intro v6 w6 hown _ hbel _); go_must (rw [Nat.zero_add, List.nil_append] at hown); go_must (obtain ⟨ar, cr, rfl, hnc, _⟩ := own_slice hown); have HO := Lib.hid hown; have HB := Lib.hid ((below_new w (.cells #[] 33)).trans hbel); clear hown hnc hbel)
  go_ret
  exact ⟨ar, cr, rfl, HO.out, HB.out⟩
set_option maxRecDepth 100000 in
theorem kn_Apply1 (x : Ev) (l : List Value) (t : ByteArray) (zo : Nat) (a0 k0 x0 d0 m0 : Value) (w : World) (ho : w.heap[zo]? = some (.cells #[a0, k0, x0, d0, m0, .string t] 54 (0, 0))) :
 Calls Tryd.prog 86 #[.agg #[.int .i64 x.1.g, .int .i64 x.1.r, .string x.1.l, .int .i64 x.1.n, .int .i64 x.1.i, .string x.2], .pointer (some ⟨zo, 0, none⟩)] w fun e w' => e = .returned (.bool (decide (x.2 = t))) ∧ Below w.heap.size w w' := by
 obtain ⟨s, y⟩ := x
 obtain ⟨g1, r1, l1, n1, i1⟩ := s
 have hbo := boxStays ho (below_new w (.cells #[.int .i64 g1, .int .i64 r1, .string l1, .int .i64 n1, .int .i64 i1, .string y] 33))
 have q5 := cell_of_row _ zo 5 _ _ _ hbo
 have q5' := cell_of_row _ zo 5 _ _ _ ho
 have HV : Hid (decide (y = t) = (y.toList == t.toList)) := Lib.hid (by rw [Pm.eq_iff])
 clear ho hbo
 go_enter Tryd.func86, Tryd.ntmps86
 go_wp2_with fail
 go_ret
 exact ⟨by rw [HV.out]; rfl, below_new _ _⟩
end Go.Proofs.YtjlliohjeiclaaaDoor
namespace Go.Proofs.YtjlliohjeiclaaaDoor
open Go.RowKit
theorem own_setM {w : World} {base size n g cap : Nat} {e : TypeId} {xs : List Value} (h : w.ownsRow base e size (.slice (some ⟨g, 0, none⟩) n cap) n xs) (i : Nat) (u : Value) :
 (w.setCell ⟨g, i, none⟩ u).ownsRow base e size (.slice (some ⟨g, 0, none⟩) n cap) n (xs.set i u) := by
 refine ⟨by simpa using h.1, ?_⟩
 rcases h.2 with ⟨hv, _⟩ | ⟨g', cap', cur, hv, h1, h2, h3, h4, h5, h6⟩
 · cases hv
 · simp only [Value.slice.injEq, Option.some.injEq, Addr.mk.injEq] at hv
   obtain ⟨⟨rfl, _⟩, _, rfl⟩ := hv
   refine .inr ⟨g, cap, cur.setIfInBounds i u, rfl, h1, heap_setCell_same w g i cur e u h2, h3, h4, by simpa using h5, ?_⟩
   rw [Array.toList_setIfInBounds, List.take_set, h6]
theorem own_mid {base size n g cap : Nat} {e : TypeId} : ∀ (vs : List Value) (o : Nat) (w : World) (xs : List Value), w.ownsRow base e size (.slice (some ⟨g, 0, none⟩) n cap) n xs → o + vs.length ≤ xs.length →
 (w.setCells g o vs).ownsRow base e size (.slice (some ⟨g, 0, none⟩) n cap) n (xs.take o ++ vs ++ xs.drop (o + vs.length))
 | [], o, w, xs, h, _ => by simpa [World.setCells] using h
 | v :: r, o, w, xs, h, ho => by
  have h1 := own_mid r (o + 1) _ _ (own_setM h o v) (by simp at ho ⊢; omega)
  rw [World.setCells]
  have e1 : (xs.set o v).take (o + 1) ++ r ++ (xs.set o v).drop (o + 1 + r.length) = xs.take o ++ v :: r ++ xs.drop (o + (v :: r).length) := by
   have hlt : o < xs.length := by simp at ho; omega
   rw [List.take_succ_eq_append_getElem (by simpa using hlt), List.take_set_of_le (Nat.le_refl _), List.drop_set_of_lt (by omega)]
   simp
   congr 1
   omega
  rw [e1] at h1
  exact h1
theorem grown_setCells (g : Nat) : ∀ (vs : List Value) (o : Nat) (w : World), w.grownBy (w.setCells g o vs) (some g)
 | [], _, _ => ⟨rfl, rfl, rfl, Nat.le_refl _, fun _ _ _ => rfl⟩
 | v :: r, o, w => grown_tr (grown_set w g o v) (grown_setCells g r (o + 1) _)
theorem own_cellM {w : World} {base size n g cap : Nat} {e : TypeId} {xs : List Value} (h : w.ownsRow base e size (.slice (some ⟨g, 0, none⟩) n cap) n xs) (i : Nat) (hi : i < xs.length) :
 w.cell? ⟨g, i, none⟩ = some xs[i] ∧ w.frozen? ⟨g, i, none⟩ = false := by
 rcases h.2 with ⟨hv, _⟩ | ⟨g', cap', cur, hv, hb, hg, hnc, _, hcs, ht⟩
 · cases hv
 · simp only [Value.slice.injEq, Option.some.injEq, Addr.mk.injEq] at hv
   obtain ⟨⟨rfl, _⟩, _, rfl⟩ := hv
   refine ⟨?_, frozen_of_row w g i cur e hg⟩
   rw [cell_of_row w g i cur e _ hg]
   have h2 : cur.toList.take xs.length = xs := by have := h.1; first | exact ht | (rw [this]; exact ht)
   have h3 : (cur.toList.take xs.length)[i]? = some xs[i] := by rw [h2]; simp [hi]
   rw [List.getElem?_take_of_lt hi] at h3
   simpa using h3
theorem own_there {w : World} {base size n g cap : Nat} {e : TypeId} {xs : List Value} (h : w.ownsRow base e size (.slice (some ⟨g, 0, none⟩) n cap) n xs) (o m : Nat) (hm : o + m ≤ xs.length) : w.there g o m := fun j hj => by
 obtain ⟨h1, h2⟩ := own_cellM h (o + j) (by omega)
 exact ⟨by rw [h1]; rfl, h2⟩
theorem own_range {w : World} {base size n g cap : Nat} {e : TypeId} {xs : List Value} (h : w.ownsRow base e size (.slice (some ⟨g, 0, none⟩) n cap) n xs) (o : Nat) (vs r : List Value) (hd : xs.drop o = vs ++ r) : w.rangeAt g o vs := fun j v hv => by
 have h0 : xs[o + j]? = some v := by
  rw [← List.getElem?_drop, hd, List.getElem?_append_left (List.getElem?_eq_some_iff.1 hv).1]
  exact hv
 obtain ⟨hlt, he⟩ := List.getElem?_eq_some_iff.1 h0
 rw [(own_cellM h (o + j) hlt).1, he]
theorem own_takeM {w : World} {base size n g cap : Nat} {e : TypeId} {xs : List Value} (h : w.ownsRow base e size (.slice (some ⟨g, 0, none⟩) n cap) n xs) (k : Nat) (hk : k ≤ n) :
 w.ownsRow base e size (.slice (some ⟨g, 0, none⟩) k cap) k (xs.take (k * size)) := by
 have hm := Nat.mul_le_mul_right size hk
 refine ⟨by rw [List.length_take, h.1]; omega, ?_⟩
 rcases h.2 with ⟨hv, _⟩ | ⟨g', cap', cur, hv, h1, h2, h3, h4, h5, h6⟩
 · cases hv
 · simp only [Value.slice.injEq, Option.some.injEq, Addr.mk.injEq] at hv
   obtain ⟨⟨rfl, _⟩, _, rfl⟩ := hv
   refine .inr ⟨g, cap, cur, rfl, h1, h2, by omega, h4, h5, ?_⟩
   rw [← h6, List.take_take]
   congr 1
   omega
theorem cellsFromM {w : World} {a : Option Addr} {vs : List Value} {size len : Nat} (h : CellsAt w a vs) (hv : vs.length = len * size) (cap l : Nat) (hl : l ≤ len) (hc : len ≤ cap) : CellsAt w (subN a cap l size) (vs.drop (l * size)) := by
 unfold subN
 by_cases e : cap = l
 · rw [if_pos e]
   have : vs.drop (l * size) = [] := by
    apply List.drop_of_length_le
    rw [hv, show l = len by omega]
    exact Nat.le_refl _
   rw [this]; exact CellsAt.nil _ _
 · rw [if_neg e]; exact h.drop _
theorem run_clearM {P : Program} (w : World) (t e ty : TypeId) (z : Value) (ht : P.underlying t = some (.slice e)) (hv : ∀ w, (zeroValue e).run P w = .ok z w) (h1 : ∀ v ∈ z.cells, v.oneCell' = true) (b o n c : Nat) (hn : 0 < n)
 (hth : w.there b o (n * z.cells.size)) :
 (Builtin.clear_ #[t] ty #[.slice (some ⟨b, o, none⟩) n c]).run P w = .ok (.tuple #[]) (w.setCells b o (Builtin.zeroCells z.cells n).toList) := by
 have hlen : (Builtin.zeroCells z.cells n).toList.length = n * z.cells.size := by simp [Builtin.zeroCells]
 have hst := run_storeCells_cells (P := P) b o (Builtin.zeroCells z.cells n).toList 0 w (fun j hj => by simpa using (hth j (by rw [← hlen]; exact hj)).1) (fun j hj => by simpa using (hth j (by rw [← hlen]; exact hj)).2) (by
  intro v hv'
  simp only [Builtin.zeroCells, Array.toList_map, List.mem_map, Array.toList_range, List.mem_range] at hv'
  obtain ⟨i, hi, rfl⟩ := hv'
  have hz : 0 < z.cells.size := by
   rcases Nat.eq_zero_or_pos z.cells.size with h | h
   · rw [h] at hi; omega
   · exact h
  have hlt := Nat.mod_lt i hz
  rw [getElem!_pos z.cells (i % z.cells.size) hlt]
  exact h1 _ (Array.getElem_mem hlt))
 simp only [Nat.add_zero] at hst
 obtain ⟨m, rfl⟩ : ∃ m, n = m + 1 := ⟨n - 1, by omega⟩
 simp [Builtin.clear_, run_underlying ht, hv, hst]
end Go.Proofs.YtjlliohjeiclaaaDoor
namespace Go.Proofs.YtjlliohjeiclaaaDoor
open Go.RowKit St Pm Ku Kn
namespace Kn
theorem del_all {t : ByteArray} {l : List Ev} (h : ∀ e ∈ l, e.2 ≠ t) : delG t l = l := List.filter_eq_self.2 fun e he => by simp [h e he]
theorem del_snoc (t : ByteArray) (l : List Ev) (x : Ev) : delG t (l ++ [x]) = if x.2 = t then delG t l else delG t l ++ [x] := by
 unfold delG
 rw [List.filter_append]
 by_cases h : x.2 = t <;> simp [h]
theorem del_len (t : ByteArray) (l : List Ev) : (delG t l).length ≤ l.length := List.length_filter_le _ _
end Kn
open Kn
def OpBox (zo : Nat) (t : ByteArray) (W : World) : Prop := ∃ a0 k0 x0 d0 m0 : Value, W.heap[zo]? = some (.cells #[a0, k0, x0, d0, m0, .string t] 54 (0, 0))
theorem OpBox.below {zo : Nat} {t : ByteArray} {W W' : World} (h : OpBox zo t W) (hb : Below W.heap.size W W') : OpBox zo t W' := by
 obtain ⟨a, b, c, d, e, h⟩ := h
 exact ⟨a, b, c, d, e, boxStays h hb⟩
theorem kn_Apply1B (x : Ev) (t : ByteArray) (zo : Nat) (w : World) (ho : OpBox zo t w) :
 Calls Tryd.prog 86 #[.agg #[.int .i64 x.1.g, .int .i64 x.1.r, .string x.1.l, .int .i64 x.1.n, .int .i64 x.1.i, .string x.2], .pointer (some ⟨zo, 0, none⟩)] w fun e w' => e = .returned (.bool (decide (x.2 = t))) ∧ Below w.heap.size w w' := by
 obtain ⟨a, b, c, d, e, h⟩ := ho
 exact kn_Apply1 x [] t zo a b c d e w h
set_option maxRecDepth 100000 in
set_option maxHeartbeats 2000000 in
theorem sl_IndexFunc (l : List Ev) (t : ByteArray) (zo : Nat) (a : Option Addr) (n c : Nat) (w : World) (hl : CellsAt w a (elsV l)) (hn : n = l.length) (hb : n ≤ 1000000) (ho : OpBox zo t w) :
 Calls Tryd.prog 108 #[.slice a n c, .func (.func 86) #[] #[.pointer (some ⟨zo, 0, none⟩)]] w fun e w' => ∃ r : Int, e = .returned (.int .i64 r) ∧ ((r = -1 ∧ ∀ e ∈ l, e.2 ≠ t) ∨ ∃ i : Nat, r = (i : Int) ∧ i < l.length ∧ delG t (l.take (i + 1)) = l.take i) ∧ Below w.heap.size w w' := by
 have HL := Lib.hid hl
 have HN := Lib.hid hn
 have HO := Lib.hid ho
 clear hl hn ho
 go_enter Tryd.func108, Tryd.ntmps108
 go_wp2_with fail
 go_loopw [5, 8] (fun _ i wr => ∃ q : Nat, i = .int .i64 (q : Int) ∧ q ≤ n ∧ Hid (∀ e ∈ l.take q, e.2 ≠ t) ∧ Hid (Below w.heap.size w wr)) (fun _ i _ => n - (intOf i).toNat)
 case atStart => exact ⟨0, rfl, Nat.zero_le _, Lib.hid (fun e he => by simp at he), Lib.hid (Below.refl _ _)⟩
 case round =>
  obtain ⟨q, rfl, hq, HQ, HB⟩ := hrel
  by_cases hlt : q < n
  · have hqi : (q : Int) < (n : Int) := by omega
    have hql : q < l.length := by have := HN.out; omega
    obtain ⟨ba, oa, rfl, ca⟩ := els_get (HL.out.below HB.out rfl) q hql
    obtain ⟨x, hx⟩ : ∃ x, l[q] = x := ⟨_, rfl⟩
    have HX : Hid (l.take (q + 1) = l.take q ++ [x]) := Lib.hid (by rw [List.take_succ_eq_append_getElem hql, hx])
    rw [hx] at ca
    obtain ⟨p0, p1, p2, p3, p4, p5⟩ := ca
    clear hx
    go_wp2_with fail
    refine (kn_Apply1B x t zo _ (HO.out.below HB.out)).mono ?_
    rintro e w2 ⟨rfl, hb2⟩
    have HB2 := Lib.hid (HB.out.trans (hb2.mono HB.out.size))
    clear hb2 p0 p1 p2 p3 p4 p5
    by_cases hxt : x.2 = t
    · rw [show decide (x.2 = t) = true from decide_eq_true hxt]
      have FIN : Hid (delG t (l.take (q + 1)) = l.take q) := Lib.hid (by rw [HX.out, del_snoc, if_pos hxt, del_all HQ.out])
      clear hxt
      go_wp2_with fail
      go_ret
      exact ⟨_, rfl, .inr ⟨q, rfl, by have := HN.out; omega, FIN.out⟩, HB2.out⟩
    · rw [show decide (x.2 = t) = false from decide_eq_false hxt]
      have HQ2 : Hid (∀ e ∈ l.take (q + 1), e.2 ≠ t) := Lib.hid (fun e he => by
       rw [HX.out] at he
       rcases List.mem_append.1 he with h | h
       · exact HQ.out e h
       · rw [List.mem_singleton.1 h]; exact hxt)
      clear hxt
      go_wp2_with fail
      go_roundw
      case rel => exact ⟨q + 1, by go_num, by omega, HQ2, HB2⟩
      case measure => simp [intOf]; omega
  · obtain rfl : q = n := by omega
    have hqi : ¬ (q : Int) < (q : Int) := by omega
    have FIN : Hid (∀ e ∈ l, e.2 ≠ t) := Lib.hid (by have := HQ.out; rw [List.take_of_length_le (by rw [← HN.out]; exact Nat.le_refl _)] at this; exact this)
    clear HQ
    go_wp2_with fail
    go_ret
    exact ⟨_, rfl, .inl ⟨rfl, by first | exact FIN.out | exact fun a b h => FIN.out (a, b) h⟩, HB.out⟩
structure DelI (t : ByteArray) (l : List Ev) (xs : List Value) (p q : Nat) : Prop where
 len : xs.length = l.length * 6
 pq : p ≤ q
 qn : q ≤ l.length
 cnt : p = (delG t (l.take q)).length
 fst : xs.take (p * 6) = elsV (delG t (l.take q))
 rest : xs.drop (q * 6) = elsV (l.drop q)
theorem DelI.keep {t : ByteArray} {l : List Ev} {xs : List Value} {p q : Nat} (h : DelI t l xs p q) (hq : q < l.length) (ht : l[q].2 = t) : DelI t l xs p (q + 1) := by
 have e : l.take (q + 1) = l.take q ++ [l[q]] := List.take_succ_eq_append_getElem hq
 refine ⟨h.len, Nat.le_succ_of_le h.pq, hq, ?_, ?_, ?_⟩
 · rw [e, del_snoc, if_pos ht]; exact h.cnt
 · rw [e, del_snoc, if_pos ht]; exact h.fst
 · have h1 := h.rest
   rw [List.drop_eq_getElem_cons hq, elsV_cons] at h1
   have h2 : xs.drop ((q + 1) * 6) = (xs.drop (q * 6)).drop 6 := by rw [List.drop_drop]; congr 1; omega
   rw [h2, h1]
   rfl
theorem DelI.put {t : ByteArray} {l : List Ev} {xs : List Value} {p q : Nat} (h : DelI t l xs p q) (hq : q < l.length) (ht : l[q].2 ≠ t) : DelI t l (xs.take (p * 6) ++ elV l[q] ++ xs.drop (p * 6 + (elV l[q]).length)) (p + 1) (q + 1) := by
 have e : l.take (q + 1) = l.take q ++ [l[q]] := List.take_succ_eq_append_getElem hq
 have e6 : (elV l[q]).length = 6 := rfl
 have hp := h.pq
 have hl := h.len
 have ht1 : (xs.take (p * 6)).length = p * 6 := by rw [List.length_take]; omega
 refine ⟨?_, Nat.succ_le_succ h.pq, hq, ?_, ?_, ?_⟩
 · simp only [List.length_append, ht1, e6, List.length_drop]; omega
 · rw [e, del_snoc, if_neg ht, List.length_append, ← h.cnt]; rfl
 · rw [e, del_snoc, if_neg ht, elsV_append, ← h.fst]
   rw [List.take_append_of_le_length (by simp only [List.length_append, ht1, e6]; omega), List.take_of_length_le (by simp only [List.length_append, ht1, e6]; omega)]
   rfl
 · have h1 := h.rest
   rw [List.drop_eq_getElem_cons hq, elsV_cons] at h1
   have h2 : xs.drop ((q + 1) * 6) = (xs.drop (q * 6)).drop 6 := by rw [List.drop_drop]; congr 1; omega
   have h3 : (xs.take (p * 6) ++ elV l[q] ++ xs.drop (p * 6 + 6)).drop ((q + 1) * 6) = xs.drop ((q + 1) * 6) := by
    rw [List.drop_append, List.drop_of_length_le (by simp only [List.length_append, ht1, e6]; omega), List.nil_append, List.drop_drop]
    congr 1
    simp only [List.length_append, ht1, e6]; omega
   rw [e6, h3, h2, h1]
   rfl
theorem run_uptoM {P : Program} (w : World) (t e : TypeId) (ht : P.underlying t = some (.slice e)) (size : Nat) (hz : ∀ w, (Go.sizeOf e).run P w = .ok size w) (g len cap k : Nat) (hk : k ≤ cap) :
 (Instr.slice t (.slice (some ⟨g, 0, none⟩) len cap) none (some (.int .i64 (k : Int))) none).run P w = .ok (.slice (some ⟨g, 0, none⟩) k cap) w := by
 have ht' : P.underlying t = some (.slice (P.elem t)) := by simp [Program.elem, ht]
 have he : P.elem t = e := by simp [Program.elem, ht]
 rw [run_slice_h w t _ _ _ ht' .i64 _ (by omega) (by omega), he, hz]
 simp [Result.andThen, sliced, Addr_add]
theorem range_el {w : World} {b o : Nat} {e : Ev} (h : w.rangeAt b o (elV e)) : ElCell w b o e := ⟨by simpa using h 0 _ rfl, h 1 _ rfl, h 2 _ rfl, h 3 _ rfl, h 4 _ rfl, h 5 _ rfl⟩
set_option maxRecDepth 100000 in
set_option maxHeartbeats 4000000 in
theorem sl_DeleteFunc (l : List Ev) (t : ByteArray) (zo B : Nat) (a : Option Addr) (n k : Nat) (w : World) (hown : w.ownsRow B 33 6 (.slice a n k) n (elsV l)) (hn : n = l.length) (hb : n ≤ 1000000) (hnk : n ≤ k) (ho : OpBox zo t w) (hz : zo < B) :
 Calls Tryd.prog 85 #[.slice a n k, .func (.func 86) #[] #[.pointer (some ⟨zo, 0, none⟩)]] w fun e w' => e = .returned (.slice a (delG t l).length k) ∧ w'.ownsRow B 33 6 (.slice a (delG t l).length k) (delG t l).length (elsV (delG t l)) ∧ w.grownBy w' (Value.slice a n k).ownBlock := by
 have OW := Lib.hid hown
 have HN := Lib.hid hn
 have HO := Lib.hid ho
 have HZ := Lib.hid hz
 clear hown hn ho hz
 go_enter Tryd.func85, Tryd.ntmps85
 go_wp2_with fail
 refine (sl_IndexFunc l t zo a n k w (CellsAt.ownN OW.out) HN.out hb HO.out).mono ?_
 rintro e w1 ⟨r, rfl, hr, hb1⟩
 have HB1 := Lib.hid hb1
 have OW1 := Lib.hid (own_below OW.out hb1 (fun k' hk => (OW.out.lt k' hk).2))
 have GR1 : Hid (w.grownBy w1 (Value.slice a n k).ownBlock) := Lib.hid (grown_below hb1 (Nat.le_refl _))
 clear hb1
 rcases hr with ⟨rfl, hall⟩ | ⟨i, rfl, hi, htk⟩
 · have FIN : Hid (delG t l = l) := Lib.hid (del_all hall)
   clear hall
   go_wp2_with fail
   go_ret
   rw [FIN.out, ← HN.out]
   exact ⟨rfl, OW1.out, GR1.out⟩
 · obtain ⟨g, k', e1, _, _, _, _⟩ := own_form OW.out (by have := HN.out; omega)
   obtain ⟨rfl, rfl⟩ : a = some ⟨g, 0, none⟩ ∧ k = k' := by simpa using e1
   clear e1
   have hin : i < n := by rw [HN.out]; exact hi
   have DI : Hid (DelI t l (elsV l) i (i + 1)) := Lib.hid ⟨elsV_length l, Nat.le_succ _, hi, by rw [htk, List.length_take]; omega, by rw [htk, elsV_take], by rw [elsV_drop]⟩
   have hiw : IntKind.i64.wrap ((i : Int) + 1) = (i : Int) + 1 := by rw [IntKind.wrap_i64]; omega
   have hineg : ((i : Int) == -1) = false := by simp <;> omega
   clear hi htk
   have GR1' : Hid (w.grownBy w1 (some g)) := GR1
   have OB1 : Hid (OpBox zo t w1) := Lib.hid (HO.out.below HB1.out)
   have HEL : Hid (∀ (q : Nat) (hq : q < l.length) (xs : List Value) (W : World), DelI t l xs (0 : Nat) q → True) := Lib.hid (fun _ _ _ _ _ => trivial)
   clear HEL
   go_wp2_with fail
   go_loopw [5, 6, 7] (fun ii jj _ wr => ∃ (p q : Nat) (xs : List Value), ii = .int .i64 (p : Int) ∧ jj = .int .i64 (q : Int) ∧ p < q ∧ q ≤ n ∧ Hid (DelI t l xs p q) ∧ Hid (wr.ownsRow B 33 6 (.slice (some ⟨g, 0, none⟩) n k) n xs) ∧ Hid (w.grownBy wr (some g)) ∧ Hid (OpBox zo t wr)) (fun _ jj _ _ => n - (intOf jj).toNat)
   case atStart => exact ⟨i, i + 1, _, rfl, by go_num, by omega, by omega, DI, OW1, GR1', OB1⟩
   case round =>
    obtain ⟨p, q, xs, rfl, rfl, hpq, hqn, HD, HOW, HGR, HOB⟩ := hrel
    by_cases hlt : q < n
    · have hqi : (q : Int) < (n : Int) := by omega
      have hpi : (p : Int) < (n : Int) := by omega
      have hql : q < l.length := by have := HN.out; omega
      obtain ⟨x, hx⟩ : ∃ x, l[q] = x := ⟨_, rfl⟩
      have HX := Lib.hid hx
      have HRG : Hid (ElCell wr g (q * 6) x) := Lib.hid (range_el (own_range HOW.out (q * 6) (elV x) (elsV (l.drop (q + 1))) (by rw [HD.out.rest, List.drop_eq_getElem_cons hql, hx, elsV_cons])))
      obtain ⟨p0, p1, p2, p3, p4, p5⟩ := HRG.out
      have hpw : IntKind.i64.wrap ((p : Int) + 1) = (p : Int) + 1 := by rw [IntKind.wrap_i64]; omega
      have hqw : IntKind.i64.wrap ((q : Int) + 1) = (q : Int) + 1 := by rw [IntKind.wrap_i64]; omega
      clear hx
      go_wp2_with fail
      have BA := Lib.hid (below_new wr (.cells #[.int .i64 x.1.g, .int .i64 x.1.r, .string x.1.l, .int .i64 x.1.n, .int .i64 x.1.i, .string x.2] 33))
      have HY := Lib.hid (heap_alloc_new wr (.cells #[.int .i64 x.1.g, .int .i64 x.1.r, .string x.1.l, .int .i64 x.1.n, .int .i64 x.1.i, .string x.2] 33))
      refine (kn_Apply1B x t zo _ (HOB.out.below BA.out)).mono ?_
      rintro e w2 ⟨rfl, hb2⟩
      have B2 := Lib.hid (BA.out.trans (hb2.mono BA.out.size))
      have HY2 := Lib.hid (boxStays HY.out hb2)
      have OW2 := Lib.hid (own_below HOW.out B2.out (fun k' hk => (HOW.out.lt k' hk).2))
      have GR2 : Hid (w.grownBy w2 (some g)) := Lib.hid (grown_tr HGR.out (grown_below B2.out (Nat.le_refl _)))
      have OB2 := Lib.hid (HOB.out.below B2.out)
      clear hb2 p0 p1 p2 p3 p4 p5 HY HRG BA
      by_cases hxt : x.2 = t
      · rw [show decide (x.2 = t) = true from decide_eq_true hxt]
        have HD2 := Lib.hid (HD.out.keep hql (by rw [HX.out]; exact hxt))
        clear hxt
        go_wp2_with fail
        go_roundw
        case rel => exact ⟨p, q + 1, xs, rfl, by go_num, by omega, by omega, HD2, OW2, GR2, OB2⟩
        case measure => simp [intOf]; omega
      · rw [show decide (x.2 = t) = false from decide_eq_false hxt]
        have HD2 := Lib.hid (HD.out.put hql (by rw [HX.out]; exact hxt))
        rw [HX.out] at HD2
        have hlen : p * 6 + 6 ≤ xs.length := by rw [HD.out.len]; have := HN.out; omega
        have HT : Hid (w2.there g (p * 6) (#[.int .i64 x.1.g, .int .i64 x.1.r, .string x.1.l, .int .i64 x.1.n, .int .i64 x.1.i, .string x.2] : Array Value).size) := Lib.hid (own_there OW2.out (p * 6) 6 hlen)
        have H1 : Hid ((#[.int .i64 x.1.g, .int .i64 x.1.r, .string x.1.l, .int .i64 x.1.n, .int .i64 x.1.i, .string x.2] : Array Value).all (·.oneCell') = true) := Lib.hid (by simp [Value.oneCell'])
        have HI6 : Hid ((Tryd.prog.info? 33).map (·.size) = some (#[.int .i64 x.1.g, .int .i64 x.1.r, .string x.1.l, .int .i64 x.1.n, .int .i64 x.1.i, .string x.2] : Array Value).size) := Lib.hid (by kernel_rfl)
        have OW3 := Lib.hid (own_mid (elV x) (p * 6) _ _ OW2.out hlen)
        have GR3 : Hid (w.grownBy (w2.setCells g (p * 6) (elV x)) (some g)) := Lib.hid (grown_tr GR2.out (grown_setCells g (elV x) (p * 6) w2))
        have OB3 : Hid (OpBox zo t (w2.setCells g (p * 6) (elV x))) := Lib.hid (by
         obtain ⟨c1, c2, c3, c4, c5, h⟩ := OB2.out
         exact ⟨c1, c2, c3, c4, c5, grow_keep (grown_setCells g (elV x) (p * 6) w2) h (fun e => by have h1 := HZ.out; have h2 := (OW2.out.lt g rfl).1; have h3 := Option.some.inj e; omega)⟩)
        have q0 := cell_of_row _ _ 0 _ _ _ HY2.out
        have q1 := cell_of_row _ _ 1 _ _ _ HY2.out
        have q2 := cell_of_row _ _ 2 _ _ _ HY2.out
        have q3 := cell_of_row _ _ 3 _ _ _ HY2.out
        have q4 := cell_of_row _ _ 4 _ _ _ HY2.out
        have q5 := cell_of_row _ _ 5 _ _ _ HY2.out
        clear hxt
        go_upto_region 9 with (fail)
        go_upto_region 10 with (refine wpList_store_mid rfl 33 (.tmp 33) (.tmp 32) rfl g (p * 6) #[.int .i64 x.1.g, .int .i64 x.1.r, .string x.1.l, .int .i64 x.1.n, .int .i64 x.1.i, .string x.2] rfl rfl HT.out HI6.out H1.out ?_)
        simp only [Act.put]
        have OW3' : Hid ((w2.setCells g (p * 6) [.int .i64 x.1.g, .int .i64 x.1.r, .string x.1.l, .int .i64 x.1.n, .int .i64 x.1.i, .string x.2]).ownsRow B 33 6 (.slice (some ⟨g, 0, none⟩) n k) n (xs.take (p * 6) ++ elV x ++ xs.drop (p * 6 + (elV x).length))) := OW3
        have GR3' : Hid (w.grownBy (w2.setCells g (p * 6) [.int .i64 x.1.g, .int .i64 x.1.r, .string x.1.l, .int .i64 x.1.n, .int .i64 x.1.i, .string x.2]) (some g)) := GR3
        have OB3' : Hid (OpBox zo t (w2.setCells g (p * 6) [.int .i64 x.1.g, .int .i64 x.1.r, .string x.1.l, .int .i64 x.1.n, .int .i64 x.1.i, .string x.2])) := OB3
        clear OW3 GR3 OB3 HT H1 HI6 q0 q1 q2 q3 q4 q5 HY2
        generalize w2.setCells g (p * 6) [.int .i64 x.1.g, .int .i64 x.1.r, .string x.1.l, .int .i64 x.1.n, .int .i64 x.1.i, .string x.2] = w3 at *
        go_wp2_with fail
        go_roundw
        case rel => exact ⟨p + 1, q + 1, _, by go_num, by go_num, by omega, by omega, HD2, OW3', GR3', OB3'⟩
        case measure => simp [intOf]; omega
    · obtain rfl : q = n := by omega
      have hqi : ¬ (q : Int) < (q : Int) := by omega
      have hpn : p < q := hpq
      have hsl1 : ∀ W, (Instr.slice 47 (.slice (some ⟨g, 0, none⟩) q k) (some (.int .i64 (p : Int))) none none).run Tryd.prog W = .ok (.slice (some ⟨g, p * 6, none⟩) (q - p) (k - p)) W := fun W => by
       have h := run_from W 47 33 Tryd.underlying47 6 (fun w => by kernel_rfl) (some ⟨g, 0, none⟩) q k p _ rfl (by omega)
       rw [h]
       unfold subN
       rw [if_neg (by omega)]
       simp [Addr_add]
      have hsl2 : ∀ W, (Instr.slice 47 (.slice (some ⟨g, 0, none⟩) q k) none (some (.int .i64 (p : Int))) none).run Tryd.prog W = .ok (.slice (some ⟨g, 0, none⟩) p k) W := fun W => run_uptoM W 47 33 Tryd.underlying47 6 (fun w => by kernel_rfl) g q k p (by omega)
      have hxl : xs.length = q * 6 := by rw [HD.out.len, ← HN.out]
      have hzc : (Builtin.zeroCells (Value.agg #[.int .i64 0, .int .i64 0, .string ⟨#[]⟩, .int .i64 0, .int .i64 0, .string ⟨#[]⟩]).cells (q - p)).toList.length = (q - p) * 6 := by simp [Builtin.zeroCells, Value.cells]
      obtain ⟨w9, hw9⟩ : ∃ w9, wr.setCells g (p * 6) (Builtin.zeroCells (Value.agg #[.int .i64 0, .int .i64 0, .string ⟨#[]⟩, .int .i64 0, .int .i64 0, .string ⟨#[]⟩]).cells (q - p)).toList = w9 := ⟨_, rfl⟩
      have OW9 := own_mid (Builtin.zeroCells (Value.agg #[.int .i64 0, .int .i64 0, .string ⟨#[]⟩, .int .i64 0, .int .i64 0, .string ⟨#[]⟩]).cells (q - p)).toList (p * 6) _ _ HOW.out (by rw [hzc, hxl]; omega)
      rw [hw9] at OW9
      have GR9 : Hid (w.grownBy w9 (some g)) := Lib.hid (by rw [← hw9]; exact grown_tr HGR.out (grown_setCells g _ (p * 6) wr))
      have hclr : ∀ ty, (Builtin.clear_ #[47] ty #[.slice (some ⟨g, p * 6, none⟩) (q - p) (k - p)]).run Tryd.prog wr = .ok (.tuple #[]) w9 := fun ty => by
       rw [← hw9]
       exact run_clearM wr 47 33 ty _ Tryd.underlying47 Tryd.zeroValue33 (by simp [Value.cells, Value.oneCell']) g (p * 6) (q - p) (k - p) (by omega) (own_there HOW.out _ _ (by rw [hxl]; simp [Value.cells]; omega))
      have OWP := own_takeM OW9 p (by omega)
      have htk : (xs.take (p * 6) ++ (Builtin.zeroCells (Value.agg #[.int .i64 0, .int .i64 0, .string ⟨#[]⟩, .int .i64 0, .int .i64 0, .string ⟨#[]⟩]).cells (q - p)).toList ++ xs.drop (p * 6 + (Builtin.zeroCells (Value.agg #[.int .i64 0, .int .i64 0, .string ⟨#[]⟩, .int .i64 0, .int .i64 0, .string ⟨#[]⟩]).cells (q - p)).toList.length)).take (p * 6) = elsV (delG t l) := by
       rw [List.append_assoc, List.take_append_of_le_length (by rw [List.length_take, hxl]; omega), List.take_take, Nat.min_self, HD.out.fst]
       rw [List.take_of_length_le (by rw [← HN.out]; exact Nat.le_refl _)]
      rw [htk] at OWP
      have hpl : p = (delG t l).length := by rw [HD.out.cnt, List.take_of_length_le (by rw [← HN.out]; exact Nat.le_refl _)]
      have FIN : Hid (p = (delG t l).length) := Lib.hid hpl
      have OWF := Lib.hid OWP
      clear OW9 OWP htk hpl hw9 hzc hxl
      go_wp2_with fail
      go_ret
      rw [← FIN.out]
      exact ⟨rfl, OWF.out, GR9.out⟩
end Go.Proofs.YtjlliohjeiclaaaDoor
namespace Go.Proofs.YtjlliohjeiclaaaDoor
open Go.RowKit St Pm Ku Kn
namespace Kn
def lastGe (l : List Ev) (s : Sv) : Bool := match l.getLast? with
 | none => false
 | some x => decide (0 ≤ svC x.1 s)
def baseG (d : Int) (t : ByteArray) (l : List Ev) : List Ev := if d = 3 then delG t l else if d = 4 then [] else if d = 6 then l.drop 1 else l
def newG (d : Int) (t : ByteArray) (s : Sv) (l : List Ev) : List Ev := baseG d t l ++ (if bringsG d = true then [(s, t)] else [])
def applyG (k m : Int) (l : List Ev) (s : Sv) (ce pk pd pm : Int) (pt : ByteArray) : Int × Int × List Ev × Int :=
 if ce = 2 ∨ valG k m l = false ∨ s.ok = false ∨ lastGe l s = true then (0, 0, [], 2)
 else if ce ≠ 0 ∨ pk ≠ k then (0, 0, [], 7)
 else (k, IntKind.i64.wrap (m + pm), newG pd pt s l, 0)
def ValOut (w w' : World) (r : Int × Int × List Ev × Int) (e : Ending) : Prop :=
 ∃ (a : Option Addr) (n c : Nat), e = .returned (.tuple #[.agg #[.int .i64 r.1, .int .i64 r.2.1, .slice a n c], .int .i64 r.2.2.2]) ∧ CellsAt w' a (elsV r.2.2.1) ∧ n = r.2.2.1.length ∧ n ≤ c ∧ (∀ ad, a = some ad → w.heap.size ≤ ad.block) ∧ Below w.heap.size w w'
def ValOwn (b : Bool) (w w' : World) (r : Int × Int × List Ev × Int) (e : Ending) : Prop :=
 ∃ (a : Option Addr) (n c : Nat), e = .returned (.tuple #[.agg #[.int .i64 r.1, .int .i64 r.2.1, .slice a n c], .int .i64 r.2.2.2]) ∧ CellsAt w' a (elsV r.2.2.1) ∧ n = r.2.2.1.length ∧ n ≤ c ∧ (∀ ad, a = some ad → w.heap.size ≤ ad.block) ∧ Below w.heap.size w w' ∧ (b = true → w'.ownsRow w.heap.size 33 6 (.slice a n c) n (elsV r.2.2.1))
theorem ValOwn.out {b : Bool} {w w' : World} {r : Int × Int × List Ev × Int} {e : Ending} (h : ValOwn b w w' r e) : ValOut w w' r e := by
 obtain ⟨a, n, c, h1, h2, h3, h4, h5, h6, _⟩ := h
 exact ⟨a, n, c, h1, h2, h3, h4, h5, h6⟩
theorem lastGe_at {l : List Ev} {s : Sv} {r : Nat} (h : l.length = r + 1) : lastGe l s = decide (0 ≤ svC (l[r]'(by omega)).1 s) := by
 have e : l.getLast? = some (l[r]'(by omega)) := by
  rw [List.getLast?_eq_getElem?, show l.length - 1 = r by omega]
  exact List.getElem?_eq_getElem _
 unfold lastGe
 rw [e]
end Kn
open Kn
theorem subN_from {a : Option Addr} {k l size B : Nat} (h : ∀ ad, a = some ad → B ≤ ad.block) : ∀ ad, subN a k l size = some ad → B ≤ ad.block := fun ad had => by
 unfold subN at had
 split at had
 · exact h ad had
 · cases a with
   | none => cases had
   | some x =>
    have e : x.add (l * size) = ad := by simpa using had
    have h1 := h x rfl
    have h2 : (x.add (l * size)).block = x.block := by unfold Addr.add; split <;> rfl
    rw [← e, h2]
    exact h1
theorem vz_one : (#[.int .i64 0, .int .i64 0, .slice none 0 0] : Array Value).all (·.oneCell') = true := by simp [Value.oneCell']
theorem cellsAt_two {w w' : World} {a : Option Addr} {vs : List Value} (h : CellsAt w a vs) (hb : Below w.heap.size w w') {y z : Nat} (hf : ∀ ad, a = some ad → ad.block ≠ y ∧ ad.block ≠ z) (i : Nat) (v : Value) (cs : Array Value) : CellsAt ((w'.setCell ⟨y, i, none⟩ v).setRow z cs) a vs := by
 intro j hj
 obtain ⟨b, off, rfl, hc⟩ := h.below hb rfl j hj
 obtain ⟨h1, h2⟩ := hf _ rfl
 refine ⟨b, off, rfl, ?_⟩
 unfold World.cell? at hc ⊢
 rw [setRow_other _ _ _ _ h2, Below.heap_setCell _ _ _ _ (by simpa using h1)]
 exact hc
theorem grown_setRow (w : World) (g : Nat) (cs : Array Value) : w.grownBy (w.setRow g cs) (some g) :=
 ⟨rfl, rfl, rfl, by simp [World.setRow], fun k hk hne => setRow_other _ _ _ _ (fun e => hne (by rw [e]))⟩
theorem kn_bringsB (d : Int) (w : World) : Calls Tryd.prog 64 #[.int .i64 d] w fun e w' => e = .returned (.bool (bringsG d)) ∧ Below w.heap.size w w' := (kn_brings d w).mono fun _ _ ⟨h1, h2⟩ => ⟨h1, by rw [← h2]; exact Below.refl _ _⟩
set_option maxRecDepth 100000 in
set_option maxHeartbeats 8000000 in
theorem kn_ApplyO (k m : Int) (l : List Ev) (a : Option Addr) (n c : Nat) (s : Sv) (pl : List ByteArray) (pk : Int) (px : ByteArray) (pd pm : Int) (pt : ByteArray) (pa : Option Addr) (pn pc : Nat) (w : World)
 (hl : CellsAt w a (elsV l)) (hn : n = l.length) (hnc : n ≤ c) (hb : n ≤ 100000) (hz : ∀ e ∈ l, e.1.l.size ≤ 9223372036854775807) (hs : s.l.size ≤ 9223372036854775807)
 (hp : CellsAt w pa (txV pl)) (hpn : pn = pl.length) (hpz : ∀ x ∈ pl, x.size ≤ 9223372036854775807) (hpx : px.size ≤ 9223372036854775807) (hG : Glob w) :
 Calls Tryd.prog 54 #[.agg #[.int .i64 k, .int .i64 m, .slice a n c], .agg #[.int .i64 s.g, .int .i64 s.r, .string s.l, .int .i64 s.n, .int .i64 s.i], .agg #[.slice pa pn pc, .int .i64 pk, .string px, .int .i64 pd, .int .i64 pm, .string pt]] w fun e w' => ValOwn (bringsG pd) w w' (applyG k m l s (checkK pl pk px pd pm pt) pk pd pm pt) e := by
 have HL := Lib.hid hl
 have HN := Lib.hid hn
 have HNC := Lib.hid hnc
 have HZ := Lib.hid hz
 have HSZ := Lib.hid hs
 have HP := Lib.hid hp
 have HPN := Lib.hid hpn
 have HPZ := Lib.hid hpz
 have HPX := Lib.hid hpx
 have G := Lib.hid hG
 obtain ⟨ce, hce⟩ : ∃ r, checkK pl pk px pd pm pt = r := ⟨_, rfl⟩
 rw [hce]
 have CE := Lib.hid hce
 obtain ⟨re, hre⟩ : ∃ r, applyG k m l s ce pk pd pm pt = r := ⟨_, rfl⟩
 rw [hre]
 have RE := Lib.hid hre
 clear hl hn hnc hz hs hp hpn hpz hpx hG hce hre
 have HC : Hid (Chain [w] w) := Lib.hid (Chain.one w)
 go_enter Tryd.func54, Tryd.ntmps54
 go_upto_region 1 with (fail)
 obtain ⟨z, hz⟩ : ∃ c, w.heap.size = c := ⟨_, rfl⟩
 try rw [hz]
 obtain ⟨w1, hw1⟩ : ∃ X, allocs w [.cells #[.int .i64 k, .int .i64 m, .slice a n c] 49, .cells #[.int .i64 s.g, .int .i64 s.r, .string s.l, .int .i64 s.n, .int .i64 s.i] 27, .cells #[.slice pa pn pc, .int .i64 pk, .string px, .int .i64 pd, .int .i64 pm, .string pt] 54, .cells #[.int .i64 0, .int .i64 0, .slice none 0 0] 49] = X := ⟨_, rfl⟩
 rw [show (((w.alloc (.cells #[.int .i64 k, .int .i64 m, .slice a n c] 49)).alloc (.cells #[.int .i64 s.g, .int .i64 s.r, .string s.l, .int .i64 s.n, .int .i64 s.i] 27)).alloc (.cells #[.slice pa pn pc, .int .i64 pk, .string px, .int .i64 pd, .int .i64 pm, .string pt] 54)).alloc (.cells #[.int .i64 0, .int .i64 0, .slice none 0 0] 49) = w1 from hw1]
 have hb : Below w.heap.size w w1 := by rw [← hw1]; exact allocs_below _ _
 have HV : Hid (w1.heap[z]? = some (.cells #[.int .i64 k, .int .i64 m, .slice a n c] 49 (0, 0))) := Lib.hid (by have := allocs_get [.cells #[.int .i64 k, .int .i64 m, .slice a n c] 49, .cells #[.int .i64 s.g, .int .i64 s.r, .string s.l, .int .i64 s.n, .int .i64 s.i] 27, .cells #[.slice pa pn pc, .int .i64 pk, .string px, .int .i64 pd, .int .i64 pm, .string pt] 54, .cells #[.int .i64 0, .int .i64 0, .slice none 0 0] 49] w 0 _ rfl; rw [hw1, hz] at this; exact this)
 have HS : Hid (w1.heap[z + 1]? = some (.cells #[.int .i64 s.g, .int .i64 s.r, .string s.l, .int .i64 s.n, .int .i64 s.i] 27 (0, 0))) := Lib.hid (by have := allocs_get [.cells #[.int .i64 k, .int .i64 m, .slice a n c] 49, .cells #[.int .i64 s.g, .int .i64 s.r, .string s.l, .int .i64 s.n, .int .i64 s.i] 27, .cells #[.slice pa pn pc, .int .i64 pk, .string px, .int .i64 pd, .int .i64 pm, .string pt] 54, .cells #[.int .i64 0, .int .i64 0, .slice none 0 0] 49] w 1 _ rfl; rw [hw1, hz] at this; exact this)
 have HO : Hid (w1.heap[z + 1 + 1]? = some (.cells #[.slice pa pn pc, .int .i64 pk, .string px, .int .i64 pd, .int .i64 pm, .string pt] 54 (0, 0))) := Lib.hid (by have := allocs_get [.cells #[.int .i64 k, .int .i64 m, .slice a n c] 49, .cells #[.int .i64 s.g, .int .i64 s.r, .string s.l, .int .i64 s.n, .int .i64 s.i] 27, .cells #[.slice pa pn pc, .int .i64 pk, .string px, .int .i64 pd, .int .i64 pm, .string pt] 54, .cells #[.int .i64 0, .int .i64 0, .slice none 0 0] 49] w 2 _ rfl; rw [hw1, hz] at this; exact this)
 have HR : Hid (w1.heap[z + 1 + 1 + 1]? = some (.cells #[.int .i64 0, .int .i64 0, .slice none 0 0] 49 (0, 0))) := Lib.hid (by have := allocs_get [.cells #[.int .i64 k, .int .i64 m, .slice a n c] 49, .cells #[.int .i64 s.g, .int .i64 s.r, .string s.l, .int .i64 s.n, .int .i64 s.i] 27, .cells #[.slice pa pn pc, .int .i64 pk, .string px, .int .i64 pd, .int .i64 pm, .string pt] 54, .cells #[.int .i64 0, .int .i64 0, .slice none 0 0] 49] w 3 _ rfl; rw [hw1, hz] at this; exact this)
 have Sz : Hid (w.heap.size = z) := Lib.hid hz
 replace HC := Lib.hid (HC.out.push hb)
 clear hb hw1 hz
 have VZ := Lib.hid vz_one
 have WZ : Hid (w.heap.size ≤ z + 1 + 1 + 1) := Lib.hid (by have := Sz.out; omega)
 have kO0 := cell_of_row _ _ 0 _ _ _ HO.out
 have kO1 := cell_of_row _ _ 1 _ _ _ HO.out
 have kO2 := cell_of_row _ _ 2 _ _ _ HO.out
 have kO3 := cell_of_row _ _ 3 _ _ _ HO.out
 have kO4 := cell_of_row _ _ 4 _ _ _ HO.out
 have kO5 := cell_of_row _ _ 5 _ _ _ HO.out
 go_wp2_with fail
 refine (kn_Check pl pk px pd pm pt pa pn pc _ (HP.out.below (HC.out.to w (by simp)) rfl) HPN.out HPZ.out HPX.out (G.out.below (HC.out.to w (by simp)))).mono ?_
 rintro e w2 ⟨rfl, hb⟩
 clear kO0 kO1 kO2 kO3 kO4 kO5
 replace HC := Lib.hid (HC.out.push hb)
 clear hb
 rw [CE.out]
 by_cases h2 : ce = 2
 · have hres : re = (0, 0, [], 2) := by rw [← RE.out]; unfold applyG; rw [if_pos (.inl h2)]
   subst h2
   have HRX := Lib.hid (boxStays HR.out (HC.out.to w1 (by simp)))
   have kV0 := cell_of_row _ _ 0 _ _ _ (boxStays HV.out (HC.out.to w1 (by simp)))
   have kV1 := cell_of_row _ _ 1 _ _ _ (boxStays HV.out (HC.out.to w1 (by simp)))
   have kV2 := cell_of_row _ _ 2 _ _ _ (boxStays HV.out (HC.out.to w1 (by simp)))
   have kS0 := cell_of_row _ _ 0 _ _ _ (boxStays HS.out (HC.out.to w1 (by simp)))
   have kS1 := cell_of_row _ _ 1 _ _ _ (boxStays HS.out (HC.out.to w1 (by simp)))
   have kS2 := cell_of_row _ _ 2 _ _ _ (boxStays HS.out (HC.out.to w1 (by simp)))
   have kS3 := cell_of_row _ _ 3 _ _ _ (boxStays HS.out (HC.out.to w1 (by simp)))
   have kS4 := cell_of_row _ _ 4 _ _ _ (boxStays HS.out (HC.out.to w1 (by simp)))
   have kO0 := cell_of_row _ _ 0 _ _ _ (boxStays HO.out (HC.out.to w1 (by simp)))
   have kO1 := cell_of_row _ _ 1 _ _ _ (boxStays HO.out (HC.out.to w1 (by simp)))
   have kO2 := cell_of_row _ _ 2 _ _ _ (boxStays HO.out (HC.out.to w1 (by simp)))
   have kO3 := cell_of_row _ _ 3 _ _ _ (boxStays HO.out (HC.out.to w1 (by simp)))
   have kO4 := cell_of_row _ _ 4 _ _ _ (boxStays HO.out (HC.out.to w1 (by simp)))
   have kO5 := cell_of_row _ _ 5 _ _ _ (boxStays HO.out (HC.out.to w1 (by simp)))
   go_wp2_with (refine wpList_store_row rfl 49 (.tmp 6) (.tmp 26) rfl (z + 1 + 1 + 1) #[.int .i64 0, .int .i64 0, .slice none 0 0] rfl rfl 49 _ HRX.out (by kernel_rfl) rfl VZ.out ?_)
   clear kV0 kV1 kV2 kS0 kS1 kS2 kS3 kS4 kO0 kO1 kO2 kO3 kO4 kO5
   have hx := setRow_heap _ _ _ #[.int .i64 0, .int .i64 0, .slice none 0 0] _ _ HRX.out
   have r0 := cell_of_row _ _ 0 _ _ _ hx
   have r1 := cell_of_row _ _ 1 _ _ _ hx
   have r2 := cell_of_row _ _ 2 _ _ _ hx
   refine bodyPost_ret (v := .tuple #[.agg #[.int .i64 0, .int .i64 0, .slice none 0 0], .int .i64 2]) (by simp [results, Tryd.results54, go_sem, r0, r1, r2]) rfl ?_
   rw [hres]
   exact ⟨none, 0, 0, rfl, CellsAt.nil _ _, rfl, Nat.le_refl _, fun ad had => (by cases had), below_setRow (HC.out.to w (by simp)) WZ.out _, fun _ => ⟨rfl, Or.inl ⟨rfl, rfl⟩⟩⟩
 have h2b : (ce == 2) = false := by simp [h2]
 have kV0 := cell_of_row _ _ 0 _ _ _ (boxStays HV.out (HC.out.to w1 (by simp)))
 have kV1 := cell_of_row _ _ 1 _ _ _ (boxStays HV.out (HC.out.to w1 (by simp)))
 have kV2 := cell_of_row _ _ 2 _ _ _ (boxStays HV.out (HC.out.to w1 (by simp)))
 go_wp2_with fail
 refine (kn_Value k m l a n c _ (HL.out.below (HC.out.to w (by simp)) rfl) HN.out (by omega) HZ.out).mono ?_
 rintro e w3 ⟨rfl, hb⟩
 clear kV0 kV1 kV2
 replace HC := Lib.hid (HC.out.push hb)
 clear hb
 obtain ⟨b3, h3⟩ : ∃ b, valG k m l = b := ⟨_, rfl⟩
 rw [h3]
 have H3 := Lib.hid h3
 clear h3
 cases b3
 case false =>
  have hres : re = (0, 0, [], 2) := by rw [← RE.out]; unfold applyG; rw [if_pos (.inr (.inl H3.out))]
  have HRX := Lib.hid (boxStays HR.out (HC.out.to w1 (by simp)))
  have kV0 := cell_of_row _ _ 0 _ _ _ (boxStays HV.out (HC.out.to w1 (by simp)))
  have kV1 := cell_of_row _ _ 1 _ _ _ (boxStays HV.out (HC.out.to w1 (by simp)))
  have kV2 := cell_of_row _ _ 2 _ _ _ (boxStays HV.out (HC.out.to w1 (by simp)))
  have kS0 := cell_of_row _ _ 0 _ _ _ (boxStays HS.out (HC.out.to w1 (by simp)))
  have kS1 := cell_of_row _ _ 1 _ _ _ (boxStays HS.out (HC.out.to w1 (by simp)))
  have kS2 := cell_of_row _ _ 2 _ _ _ (boxStays HS.out (HC.out.to w1 (by simp)))
  have kS3 := cell_of_row _ _ 3 _ _ _ (boxStays HS.out (HC.out.to w1 (by simp)))
  have kS4 := cell_of_row _ _ 4 _ _ _ (boxStays HS.out (HC.out.to w1 (by simp)))
  have kO0 := cell_of_row _ _ 0 _ _ _ (boxStays HO.out (HC.out.to w1 (by simp)))
  have kO1 := cell_of_row _ _ 1 _ _ _ (boxStays HO.out (HC.out.to w1 (by simp)))
  have kO2 := cell_of_row _ _ 2 _ _ _ (boxStays HO.out (HC.out.to w1 (by simp)))
  have kO3 := cell_of_row _ _ 3 _ _ _ (boxStays HO.out (HC.out.to w1 (by simp)))
  have kO4 := cell_of_row _ _ 4 _ _ _ (boxStays HO.out (HC.out.to w1 (by simp)))
  have kO5 := cell_of_row _ _ 5 _ _ _ (boxStays HO.out (HC.out.to w1 (by simp)))
  go_wp2_with (refine wpList_store_row rfl 49 (.tmp 6) (.tmp 26) rfl (z + 1 + 1 + 1) #[.int .i64 0, .int .i64 0, .slice none 0 0] rfl rfl 49 _ HRX.out (by kernel_rfl) rfl VZ.out ?_)
  clear kV0 kV1 kV2 kS0 kS1 kS2 kS3 kS4 kO0 kO1 kO2 kO3 kO4 kO5
  have hx := setRow_heap _ _ _ #[.int .i64 0, .int .i64 0, .slice none 0 0] _ _ HRX.out
  have r0 := cell_of_row _ _ 0 _ _ _ hx
  have r1 := cell_of_row _ _ 1 _ _ _ hx
  have r2 := cell_of_row _ _ 2 _ _ _ hx
  refine bodyPost_ret (v := .tuple #[.agg #[.int .i64 0, .int .i64 0, .slice none 0 0], .int .i64 2]) (by simp [results, Tryd.results54, go_sem, r0, r1, r2]) rfl ?_
  rw [hres]
  exact ⟨none, 0, 0, rfl, CellsAt.nil _ _, rfl, Nat.le_refl _, fun ad had => (by cases had), below_setRow (HC.out.to w (by simp)) WZ.out _, fun _ => ⟨rfl, Or.inl ⟨rfl, rfl⟩⟩⟩
 have kS0 := cell_of_row _ _ 0 _ _ _ (boxStays HS.out (HC.out.to w1 (by simp)))
 have kS1 := cell_of_row _ _ 1 _ _ _ (boxStays HS.out (HC.out.to w1 (by simp)))
 have kS2 := cell_of_row _ _ 2 _ _ _ (boxStays HS.out (HC.out.to w1 (by simp)))
 have kS3 := cell_of_row _ _ 3 _ _ _ (boxStays HS.out (HC.out.to w1 (by simp)))
 have kS4 := cell_of_row _ _ 4 _ _ _ (boxStays HS.out (HC.out.to w1 (by simp)))
 go_wp2_with fail
 refine (stp_Stamp s _ HSZ.out).mono ?_
 rintro e w4 ⟨rfl, hb⟩
 clear kS0 kS1 kS2 kS3 kS4
 replace HC := Lib.hid (HC.out.push hb)
 clear hb
 obtain ⟨b4, h4⟩ : ∃ b, s.ok = b := ⟨_, rfl⟩
 rw [h4]
 have H4 := Lib.hid h4
 clear h4
 cases b4
 case false =>
  have hres : re = (0, 0, [], 2) := by rw [← RE.out]; unfold applyG; rw [if_pos (.inr (.inr (.inl H4.out)))]
  have HRX := Lib.hid (boxStays HR.out (HC.out.to w1 (by simp)))
  have kV0 := cell_of_row _ _ 0 _ _ _ (boxStays HV.out (HC.out.to w1 (by simp)))
  have kV1 := cell_of_row _ _ 1 _ _ _ (boxStays HV.out (HC.out.to w1 (by simp)))
  have kV2 := cell_of_row _ _ 2 _ _ _ (boxStays HV.out (HC.out.to w1 (by simp)))
  have kS0 := cell_of_row _ _ 0 _ _ _ (boxStays HS.out (HC.out.to w1 (by simp)))
  have kS1 := cell_of_row _ _ 1 _ _ _ (boxStays HS.out (HC.out.to w1 (by simp)))
  have kS2 := cell_of_row _ _ 2 _ _ _ (boxStays HS.out (HC.out.to w1 (by simp)))
  have kS3 := cell_of_row _ _ 3 _ _ _ (boxStays HS.out (HC.out.to w1 (by simp)))
  have kS4 := cell_of_row _ _ 4 _ _ _ (boxStays HS.out (HC.out.to w1 (by simp)))
  have kO0 := cell_of_row _ _ 0 _ _ _ (boxStays HO.out (HC.out.to w1 (by simp)))
  have kO1 := cell_of_row _ _ 1 _ _ _ (boxStays HO.out (HC.out.to w1 (by simp)))
  have kO2 := cell_of_row _ _ 2 _ _ _ (boxStays HO.out (HC.out.to w1 (by simp)))
  have kO3 := cell_of_row _ _ 3 _ _ _ (boxStays HO.out (HC.out.to w1 (by simp)))
  have kO4 := cell_of_row _ _ 4 _ _ _ (boxStays HO.out (HC.out.to w1 (by simp)))
  have kO5 := cell_of_row _ _ 5 _ _ _ (boxStays HO.out (HC.out.to w1 (by simp)))
  go_wp2_with (refine wpList_store_row rfl 49 (.tmp 6) (.tmp 26) rfl (z + 1 + 1 + 1) #[.int .i64 0, .int .i64 0, .slice none 0 0] rfl rfl 49 _ HRX.out (by kernel_rfl) rfl VZ.out ?_)
  clear kV0 kV1 kV2 kS0 kS1 kS2 kS3 kS4 kO0 kO1 kO2 kO3 kO4 kO5
  have hx := setRow_heap _ _ _ #[.int .i64 0, .int .i64 0, .slice none 0 0] _ _ HRX.out
  have r0 := cell_of_row _ _ 0 _ _ _ hx
  have r1 := cell_of_row _ _ 1 _ _ _ hx
  have r2 := cell_of_row _ _ 2 _ _ _ hx
  refine bodyPost_ret (v := .tuple #[.agg #[.int .i64 0, .int .i64 0, .slice none 0 0], .int .i64 2]) (by simp [results, Tryd.results54, go_sem, r0, r1, r2]) rfl ?_
  rw [hres]
  exact ⟨none, 0, 0, rfl, CellsAt.nil _ _, rfl, Nat.le_refl _, fun ad had => (by cases had), below_setRow (HC.out.to w (by simp)) WZ.out _, fun _ => ⟨rfl, Or.inl ⟨rfl, rfl⟩⟩⟩
 have kV0 := cell_of_row _ _ 0 _ _ _ (boxStays HV.out (HC.out.to w1 (by simp)))
 have kV1 := cell_of_row _ _ 1 _ _ _ (boxStays HV.out (HC.out.to w1 (by simp)))
 have kV2 := cell_of_row _ _ 2 _ _ _ (boxStays HV.out (HC.out.to w1 (by simp)))
 go_upto_region 5 with (fail)
 clear kV0 kV1 kV2
 have HV4 := Lib.hid (boxStays HV.out (HC.out.to w1 (by simp)))
 have HS4 := Lib.hid (boxStays HS.out (HC.out.to w1 (by simp)))
 have HL4 := Lib.hid (HL.out.below (HC.out.to w (by simp)) rfl)
 go_cut [43] (fun u43 wx => u43 = .bool (lastGe l s) ∧ Hid (Below w4.heap.size w4 wx))
 case first =>
  by_cases hn0 : n = 0
  · subst hn0
    obtain rfl : l = [] := List.length_eq_zero_iff.1 HN.out.symm
    refine wp_region_noPanic ?_
    refine wp_region_held_drew (S := fun w' => Below w4.heap.size w4 w') (by kernel_rfl) (Below.refl _ _).drew (fun hS => ?_)
    refine wpAnyH_take (i := 0) (oi := ⟨some 30, _, _, _, _, _⟩) (v := ?_) rfl (by kernel_rfl) (by kernel_rfl) (by kernel_rfl) (fun _ _ _ h => h) (Or.inl ⟨by rfl, ?_⟩) hS ?_
    rotate_left 1
    · intro w' hB; skip; (go_simp <;> with_reducible rfl)
    try simp only [Act.put, List.setIfInBounds_toArray, List.set_cons_zero, List.set_cons_succ]
    refine wpAnyH_take (i := 1) (oi := ⟨some 31, _, _, _, _, _⟩) (v := ?_) rfl (by kernel_rfl) (by kernel_rfl) (by kernel_rfl) (fun _ _ _ h => h) (Or.inl ⟨by rfl, ?_⟩) hS ?_
    rotate_left 1
    · intro w' hB; skip; (go_simp <;> with_reducible rfl)
    try simp only [Act.put, List.setIfInBounds_toArray, List.set_cons_zero, List.set_cons_succ]
    refine wpAnyH_take (i := 2) (oi := ⟨some 32, _, _, _, _, _⟩) (v := ?_) rfl (by kernel_rfl) (by kernel_rfl) (by kernel_rfl) (fun _ _ _ h => h) (Or.inl ⟨by rfl, ?_⟩) hS ?_
    rotate_left 1
    · intro w' hB; skip; (go_simp <;> with_reducible rfl)
    try simp only [Act.put, List.setIfInBounds_toArray, List.set_cons_zero, List.set_cons_succ]
    refine wpAnyH_take (i := 3) (oi := ⟨some 33, _, _, _, _, _⟩) rfl (by kernel_rfl) (by kernel_rfl) (by kernel_rfl) (fun _ _ _ h => h) (Or.inr ⟨by rfl, rfl⟩) hS ?_
    try simp only [Act.put, List.setIfInBounds_toArray, List.set_cons_zero, List.set_cons_succ]
    refine wpAnyH_take (i := 4) (oi := ⟨some 34, _, _, _, _, _⟩) rfl (by kernel_rfl) (by kernel_rfl) (by kernel_rfl) (fun _ _ _ h => h) (Or.inr ⟨by rfl, rfl⟩) hS ?_
    try simp only [Act.put, List.setIfInBounds_toArray, List.set_cons_zero, List.set_cons_succ]
    refine wpAnyH_take (i := 5) (oi := ⟨some 35, _, _, _, _, _⟩) rfl (by kernel_rfl) (by kernel_rfl) (by kernel_rfl) (fun _ _ _ h => h) (Or.inr ⟨by rfl, rfl⟩) hS ?_
    try simp only [Act.put, List.setIfInBounds_toArray, List.set_cons_zero, List.set_cons_succ]
    refine wpAnyH_take (i := 6) (oi := ⟨some 36, _, _, _, _, _⟩) rfl (by kernel_rfl) (by kernel_rfl) (by kernel_rfl) (fun _ _ _ h => h) (Or.inr ⟨by rfl, rfl⟩) hS ?_
    try simp only [Act.put, List.setIfInBounds_toArray, List.set_cons_zero, List.set_cons_succ]
    refine wpAnyH_take (i := 7) (oi := ⟨some 37, _, _, _, _, _⟩) rfl (by kernel_rfl) (by kernel_rfl) (by kernel_rfl) (fun _ _ _ h => h) (Or.inr ⟨by rfl, rfl⟩) hS ?_
    try simp only [Act.put, List.setIfInBounds_toArray, List.set_cons_zero, List.set_cons_succ]
    refine wpAnyH_take (i := 8) (oi := ⟨some 38, _, _, _, _, _⟩) rfl (by kernel_rfl) (by kernel_rfl) (by kernel_rfl) (fun _ _ _ h => h) (Or.inr ⟨by rfl, rfl⟩) hS ?_
    try simp only [Act.put, List.setIfInBounds_toArray, List.set_cons_zero, List.set_cons_succ]
    refine wpAnyH_take (i := 9) (oi := ⟨some 39, _, _, _, _, _⟩) rfl (by kernel_rfl) (by kernel_rfl) (by kernel_rfl) (fun _ _ _ h => h) (Or.inr ⟨by rfl, rfl⟩) hS ?_
    try simp only [Act.put, List.setIfInBounds_toArray, List.set_cons_zero, List.set_cons_succ]
    refine wpAnyH_take (i := 10) (oi := ⟨some 40, _, _, _, _, _⟩) rfl (by kernel_rfl) (by kernel_rfl) (by kernel_rfl) (fun _ _ _ h => h) (Or.inr ⟨by rfl, rfl⟩) hS ?_
    try simp only [Act.put, List.setIfInBounds_toArray, List.set_cons_zero, List.set_cons_succ]
    refine wpAnyH_take (i := 11) (oi := ⟨some 41, _, _, _, _, _⟩) rfl (by kernel_rfl) (by kernel_rfl) (by kernel_rfl) (fun _ _ _ h => h) (Or.inr ⟨by rfl, rfl⟩) hS ?_
    try simp only [Act.put, List.setIfInBounds_toArray, List.set_cons_zero, List.set_cons_succ]
    refine wpAnyH_take (i := 12) (oi := ⟨some 42, _, _, _, _, _⟩) rfl (by kernel_rfl) (by kernel_rfl) (by kernel_rfl) (fun _ _ _ h => h) (Or.inr ⟨by rfl, rfl⟩) hS ?_
    try simp only [Act.put, List.setIfInBounds_toArray, List.set_cons_zero, List.set_cons_succ]
    refine wpAnyH_take (i := 13) (oi := ⟨some 43, _, _, _, _, _⟩) (v := ?_) rfl (by kernel_rfl) (by kernel_rfl) (by kernel_rfl) (fun _ _ _ h => h) (Or.inl ⟨by rfl, ?_⟩) hS ?_
    rotate_left 1
    · intro w' hB; skip; (go_simp <;> with_reducible rfl)
    try simp only [Act.put, List.setIfInBounds_toArray, List.set_cons_zero, List.set_cons_succ]
    refine wpAnyH_done (by kernel_rfl) (NoPanic.normal ?_) _
    have HBD := Lib.hid hS
    go_wp2_with fail
    go_meet
    exact ⟨rfl, HBD⟩
  · obtain ⟨r, rfl⟩ : ∃ r, n = r + 1 := ⟨n - 1, by omega⟩
    have hlen : l.length = r + 1 := HN.out.symm
    have hr0 : 0 < (r : Int) + 1 := by omega
    have hrw : IntKind.i64.wrap (r : Int) = r := by rw [IntKind.wrap_i64]; omega
    have hrn : (r : Int) < (r : Int) + 1 := by omega
    have LG := Lib.hid (lastGe_at (s := s) hlen)
    obtain ⟨ba, oa, rfl, cy⟩ := els_get HL4.out r (by omega)
    obtain ⟨v, hv⟩ : ∃ v, l[r]'(by omega) = v := ⟨_, rfl⟩
    rw [hv] at cy LG
    have CY := Lib.hid cy
    clear cy hv hlen
    refine wp_region_noPanic ?_
    refine wp_region_held_drew (S := fun w' => Below w4.heap.size w4 w') (by kernel_rfl) (Below.refl _ _).drew (fun hS => ?_)
    refine wpAnyH_take (i := 0) (oi := ⟨some 30, _, _, _, _, _⟩) (v := ?_) rfl (by kernel_rfl) (by kernel_rfl) (by kernel_rfl) (fun _ _ _ h => h) (Or.inl ⟨by rfl, ?_⟩) hS ?_
    rotate_left 1
    · intro w' hB; have hv := boxStays HV4.out hB; have hs := boxStays HS4.out hB; have y2 := cell_of_row _ z 2 _ _ _ hv; have s0 := cell_of_row _ (z + 1) 0 _ _ _ hs; have s1 := cell_of_row _ (z + 1) 1 _ _ _ hs; have s2 := cell_of_row _ (z + 1) 2 _ _ _ hs; have s3 := cell_of_row _ (z + 1) 3 _ _ _ hs; have s4 := cell_of_row _ (z + 1) 4 _ _ _ hs; obtain ⟨v0, v1, v2, v3, v4, v5⟩ := CY.out.below hB; clear hv hs; (go_simp <;> with_reducible rfl)
    try simp only [Act.put, List.setIfInBounds_toArray, List.set_cons_zero, List.set_cons_succ]
    refine wpAnyH_take (i := 1) (oi := ⟨some 31, _, _, _, _, _⟩) (v := ?_) rfl (by kernel_rfl) (by kernel_rfl) (by kernel_rfl) (fun _ _ _ h => h) (Or.inl ⟨by rfl, ?_⟩) hS ?_
    rotate_left 1
    · intro w' hB; have hv := boxStays HV4.out hB; have hs := boxStays HS4.out hB; have y2 := cell_of_row _ z 2 _ _ _ hv; have s0 := cell_of_row _ (z + 1) 0 _ _ _ hs; have s1 := cell_of_row _ (z + 1) 1 _ _ _ hs; have s2 := cell_of_row _ (z + 1) 2 _ _ _ hs; have s3 := cell_of_row _ (z + 1) 3 _ _ _ hs; have s4 := cell_of_row _ (z + 1) 4 _ _ _ hs; obtain ⟨v0, v1, v2, v3, v4, v5⟩ := CY.out.below hB; clear hv hs; (go_simp <;> with_reducible rfl)
    try simp only [Act.put, List.setIfInBounds_toArray, List.set_cons_zero, List.set_cons_succ]
    refine wpAnyH_take (i := 2) (oi := ⟨some 32, _, _, _, _, _⟩) (v := ?_) rfl (by kernel_rfl) (by kernel_rfl) (by kernel_rfl) (fun _ _ _ h => h) (Or.inl ⟨by rfl, ?_⟩) hS ?_
    rotate_left 1
    · intro w' hB; have hv := boxStays HV4.out hB; have hs := boxStays HS4.out hB; have y2 := cell_of_row _ z 2 _ _ _ hv; have s0 := cell_of_row _ (z + 1) 0 _ _ _ hs; have s1 := cell_of_row _ (z + 1) 1 _ _ _ hs; have s2 := cell_of_row _ (z + 1) 2 _ _ _ hs; have s3 := cell_of_row _ (z + 1) 3 _ _ _ hs; have s4 := cell_of_row _ (z + 1) 4 _ _ _ hs; obtain ⟨v0, v1, v2, v3, v4, v5⟩ := CY.out.below hB; clear hv hs; (go_simp <;> with_reducible rfl)
    try simp only [Act.put, List.setIfInBounds_toArray, List.set_cons_zero, List.set_cons_succ]
    refine wpAnyH_take (i := 3) (oi := ⟨some 33, _, _, _, _, _⟩) (v := ?_) rfl (by kernel_rfl) (by kernel_rfl) (by kernel_rfl) (fun _ _ _ h => h) (Or.inl ⟨by rfl, ?_⟩) hS ?_
    rotate_left 1
    · intro w' hB; have hv := boxStays HV4.out hB; have hs := boxStays HS4.out hB; have y2 := cell_of_row _ z 2 _ _ _ hv; have s0 := cell_of_row _ (z + 1) 0 _ _ _ hs; have s1 := cell_of_row _ (z + 1) 1 _ _ _ hs; have s2 := cell_of_row _ (z + 1) 2 _ _ _ hs; have s3 := cell_of_row _ (z + 1) 3 _ _ _ hs; have s4 := cell_of_row _ (z + 1) 4 _ _ _ hs; obtain ⟨v0, v1, v2, v3, v4, v5⟩ := CY.out.below hB; clear hv hs; (go_simp <;> with_reducible rfl)
    try simp only [Act.put, List.setIfInBounds_toArray, List.set_cons_zero, List.set_cons_succ]
    refine wpAnyH_take (i := 4) (oi := ⟨some 34, _, _, _, _, _⟩) (v := ?_) rfl (by kernel_rfl) (by kernel_rfl) (by kernel_rfl) (fun _ _ _ h => h) (Or.inl ⟨by rfl, ?_⟩) hS ?_
    rotate_left 1
    · intro w' hB; have hv := boxStays HV4.out hB; have hs := boxStays HS4.out hB; have y2 := cell_of_row _ z 2 _ _ _ hv; have s0 := cell_of_row _ (z + 1) 0 _ _ _ hs; have s1 := cell_of_row _ (z + 1) 1 _ _ _ hs; have s2 := cell_of_row _ (z + 1) 2 _ _ _ hs; have s3 := cell_of_row _ (z + 1) 3 _ _ _ hs; have s4 := cell_of_row _ (z + 1) 4 _ _ _ hs; obtain ⟨v0, v1, v2, v3, v4, v5⟩ := CY.out.below hB; clear hv hs; (go_simp <;> with_reducible rfl)
    try simp only [Act.put, List.setIfInBounds_toArray, List.set_cons_zero, List.set_cons_succ]
    refine wpAnyH_take (i := 5) (oi := ⟨some 35, _, _, _, _, _⟩) (v := ?_) rfl (by kernel_rfl) (by kernel_rfl) (by kernel_rfl) (fun _ _ _ h => h) (Or.inl ⟨by rfl, ?_⟩) hS ?_
    rotate_left 1
    · intro w' hB; have hv := boxStays HV4.out hB; have hs := boxStays HS4.out hB; have y2 := cell_of_row _ z 2 _ _ _ hv; have s0 := cell_of_row _ (z + 1) 0 _ _ _ hs; have s1 := cell_of_row _ (z + 1) 1 _ _ _ hs; have s2 := cell_of_row _ (z + 1) 2 _ _ _ hs; have s3 := cell_of_row _ (z + 1) 3 _ _ _ hs; have s4 := cell_of_row _ (z + 1) 4 _ _ _ hs; obtain ⟨v0, v1, v2, v3, v4, v5⟩ := CY.out.below hB; clear hv hs; (go_simp <;> with_reducible rfl)
    try simp only [Act.put, List.setIfInBounds_toArray, List.set_cons_zero, List.set_cons_succ]
    refine wpAnyH_take (i := 6) (oi := ⟨some 36, _, _, _, _, _⟩) (v := ?_) rfl (by kernel_rfl) (by kernel_rfl) (by kernel_rfl) (fun _ _ _ h => h) (Or.inl ⟨by rfl, ?_⟩) hS ?_
    rotate_left 1
    · intro w' hB; have hv := boxStays HV4.out hB; have hs := boxStays HS4.out hB; have y2 := cell_of_row _ z 2 _ _ _ hv; have s0 := cell_of_row _ (z + 1) 0 _ _ _ hs; have s1 := cell_of_row _ (z + 1) 1 _ _ _ hs; have s2 := cell_of_row _ (z + 1) 2 _ _ _ hs; have s3 := cell_of_row _ (z + 1) 3 _ _ _ hs; have s4 := cell_of_row _ (z + 1) 4 _ _ _ hs; obtain ⟨v0, v1, v2, v3, v4, v5⟩ := CY.out.below hB; clear hv hs; (go_simp <;> with_reducible rfl)
    try simp only [Act.put, List.setIfInBounds_toArray, List.set_cons_zero, List.set_cons_succ]
    refine wpAnyH_take (i := 7) (oi := ⟨some 37, _, _, _, _, _⟩) (v := ?_) rfl (by kernel_rfl) (by kernel_rfl) (by kernel_rfl) (fun _ _ _ h => h) (Or.inl ⟨by rfl, ?_⟩) hS ?_
    rotate_left 1
    · intro w' hB; have hv := boxStays HV4.out hB; have hs := boxStays HS4.out hB; have y2 := cell_of_row _ z 2 _ _ _ hv; have s0 := cell_of_row _ (z + 1) 0 _ _ _ hs; have s1 := cell_of_row _ (z + 1) 1 _ _ _ hs; have s2 := cell_of_row _ (z + 1) 2 _ _ _ hs; have s3 := cell_of_row _ (z + 1) 3 _ _ _ hs; have s4 := cell_of_row _ (z + 1) 4 _ _ _ hs; obtain ⟨v0, v1, v2, v3, v4, v5⟩ := CY.out.below hB; clear hv hs; (go_simp <;> with_reducible rfl)
    try simp only [Act.put, List.setIfInBounds_toArray, List.set_cons_zero, List.set_cons_succ]
    refine wpAnyH_take (i := 8) (oi := ⟨some 38, _, _, _, _, _⟩) (v := ?_) rfl (by kernel_rfl) (by kernel_rfl) (by kernel_rfl) (fun _ _ _ h => h) (Or.inl ⟨by rfl, ?_⟩) hS ?_
    rotate_left 1
    · intro w' hB; have hv := boxStays HV4.out hB; have hs := boxStays HS4.out hB; have y2 := cell_of_row _ z 2 _ _ _ hv; have s0 := cell_of_row _ (z + 1) 0 _ _ _ hs; have s1 := cell_of_row _ (z + 1) 1 _ _ _ hs; have s2 := cell_of_row _ (z + 1) 2 _ _ _ hs; have s3 := cell_of_row _ (z + 1) 3 _ _ _ hs; have s4 := cell_of_row _ (z + 1) 4 _ _ _ hs; obtain ⟨v0, v1, v2, v3, v4, v5⟩ := CY.out.below hB; clear hv hs; (go_simp <;> with_reducible rfl)
    try simp only [Act.put, List.setIfInBounds_toArray, List.set_cons_zero, List.set_cons_succ]
    refine wpAnyH_take (i := 9) (oi := ⟨some 39, _, _, _, _, _⟩) (v := ?_) rfl (by kernel_rfl) (by kernel_rfl) (by kernel_rfl) (fun _ _ _ h => h) (Or.inl ⟨by rfl, ?_⟩) hS ?_
    rotate_left 1
    · intro w' hB; have hv := boxStays HV4.out hB; have hs := boxStays HS4.out hB; have y2 := cell_of_row _ z 2 _ _ _ hv; have s0 := cell_of_row _ (z + 1) 0 _ _ _ hs; have s1 := cell_of_row _ (z + 1) 1 _ _ _ hs; have s2 := cell_of_row _ (z + 1) 2 _ _ _ hs; have s3 := cell_of_row _ (z + 1) 3 _ _ _ hs; have s4 := cell_of_row _ (z + 1) 4 _ _ _ hs; obtain ⟨v0, v1, v2, v3, v4, v5⟩ := CY.out.below hB; clear hv hs; (go_simp <;> with_reducible rfl)
    try simp only [Act.put, List.setIfInBounds_toArray, List.set_cons_zero, List.set_cons_succ]
    refine wpAnyH_take (i := 10) (oi := ⟨some 40, _, _, _, _, _⟩) (v := ?_) rfl (by kernel_rfl) (by kernel_rfl) (by kernel_rfl) (fun _ _ _ h => h) (Or.inl ⟨by rfl, ?_⟩) hS ?_
    rotate_left 1
    · intro w' hB; have hv := boxStays HV4.out hB; have hs := boxStays HS4.out hB; have y2 := cell_of_row _ z 2 _ _ _ hv; have s0 := cell_of_row _ (z + 1) 0 _ _ _ hs; have s1 := cell_of_row _ (z + 1) 1 _ _ _ hs; have s2 := cell_of_row _ (z + 1) 2 _ _ _ hs; have s3 := cell_of_row _ (z + 1) 3 _ _ _ hs; have s4 := cell_of_row _ (z + 1) 4 _ _ _ hs; obtain ⟨v0, v1, v2, v3, v4, v5⟩ := CY.out.below hB; clear hv hs; (go_simp <;> with_reducible rfl)
    try simp only [Act.put, List.setIfInBounds_toArray, List.set_cons_zero, List.set_cons_succ]
    refine wpAnyH_ready (rs := [11]) (by kernel_rfl) (by simp) (AllReadyH.cons (o := ⟨some 41, _, _, _, _, _⟩) rfl (fun K hK => ?_) AllReadyH.nil)
    go_simp
    refine (stp_Cmp v.1 s _).mono ?_
    rintro e w6 ⟨rfl, hb⟩
    refine hK.out _ _ (hS.trans (hb.mono hS.size)) (fun _ => ?_)
    clear hK K
    replace hS := hS.trans (hb.mono hS.size)
    clear hb
    try simp only [Act.put, List.setIfInBounds_toArray, List.set_cons_zero, List.set_cons_succ]
    refine wpAnyH_take (i := 12) (oi := ⟨some 42, _, _, _, _, _⟩) (v := ?_) rfl (by kernel_rfl) (by kernel_rfl) (by kernel_rfl) (fun _ _ _ h => h) (Or.inl ⟨by rfl, ?_⟩) hS ?_
    rotate_left 1
    · intro w' hB; have hv := boxStays HV4.out hB; have hs := boxStays HS4.out hB; have y2 := cell_of_row _ z 2 _ _ _ hv; have s0 := cell_of_row _ (z + 1) 0 _ _ _ hs; have s1 := cell_of_row _ (z + 1) 1 _ _ _ hs; have s2 := cell_of_row _ (z + 1) 2 _ _ _ hs; have s3 := cell_of_row _ (z + 1) 3 _ _ _ hs; have s4 := cell_of_row _ (z + 1) 4 _ _ _ hs; obtain ⟨v0, v1, v2, v3, v4, v5⟩ := CY.out.below hB; clear hv hs; (go_simp <;> with_reducible rfl)
    try simp only [Act.put, List.setIfInBounds_toArray, List.set_cons_zero, List.set_cons_succ]
    refine wpAnyH_take (i := 13) (oi := ⟨some 43, _, _, _, _, _⟩) (v := ?_) rfl (by kernel_rfl) (by kernel_rfl) (by kernel_rfl) (fun _ _ _ h => h) (Or.inl ⟨by rfl, ?_⟩) hS ?_
    rotate_left 1
    · intro w' hB; have hv := boxStays HV4.out hB; have hs := boxStays HS4.out hB; have y2 := cell_of_row _ z 2 _ _ _ hv; have s0 := cell_of_row _ (z + 1) 0 _ _ _ hs; have s1 := cell_of_row _ (z + 1) 1 _ _ _ hs; have s2 := cell_of_row _ (z + 1) 2 _ _ _ hs; have s3 := cell_of_row _ (z + 1) 3 _ _ _ hs; have s4 := cell_of_row _ (z + 1) 4 _ _ _ hs; obtain ⟨v0, v1, v2, v3, v4, v5⟩ := CY.out.below hB; clear hv hs; (go_simp <;> with_reducible rfl)
    try simp only [Act.put, List.setIfInBounds_toArray, List.set_cons_zero, List.set_cons_succ]
    refine wpAnyH_done (by kernel_rfl) (NoPanic.normal ?_) _
    have HBD := Lib.hid hS
    go_wp2_with fail
    go_meet
    exact ⟨by rw [LG.out], HBD⟩
 case rest =>
  obtain ⟨rfl, HBD⟩ := hcut
  obtain ⟨w5, rfl⟩ : ∃ X : World, X = wc := ⟨_, rfl⟩
  have hb := HBD.out
  replace HC := Lib.hid (HC.out.push hb)
  clear hb
  obtain ⟨b5, h5⟩ : ∃ b, lastGe l s = b := ⟨_, rfl⟩
  rw [h5]
  have H5 := Lib.hid h5
  clear h5 HBD
  cases b5
  case true =>
   have hres : re = (0, 0, [], 2) := by rw [← RE.out]; unfold applyG; rw [if_pos (.inr (.inr (.inr H5.out)))]
   have HRX := Lib.hid (boxStays HR.out (HC.out.to w1 (by simp)))
   have kV0 := cell_of_row _ _ 0 _ _ _ (boxStays HV.out (HC.out.to w1 (by simp)))
   have kV1 := cell_of_row _ _ 1 _ _ _ (boxStays HV.out (HC.out.to w1 (by simp)))
   have kV2 := cell_of_row _ _ 2 _ _ _ (boxStays HV.out (HC.out.to w1 (by simp)))
   have kS0 := cell_of_row _ _ 0 _ _ _ (boxStays HS.out (HC.out.to w1 (by simp)))
   have kS1 := cell_of_row _ _ 1 _ _ _ (boxStays HS.out (HC.out.to w1 (by simp)))
   have kS2 := cell_of_row _ _ 2 _ _ _ (boxStays HS.out (HC.out.to w1 (by simp)))
   have kS3 := cell_of_row _ _ 3 _ _ _ (boxStays HS.out (HC.out.to w1 (by simp)))
   have kS4 := cell_of_row _ _ 4 _ _ _ (boxStays HS.out (HC.out.to w1 (by simp)))
   have kO0 := cell_of_row _ _ 0 _ _ _ (boxStays HO.out (HC.out.to w1 (by simp)))
   have kO1 := cell_of_row _ _ 1 _ _ _ (boxStays HO.out (HC.out.to w1 (by simp)))
   have kO2 := cell_of_row _ _ 2 _ _ _ (boxStays HO.out (HC.out.to w1 (by simp)))
   have kO3 := cell_of_row _ _ 3 _ _ _ (boxStays HO.out (HC.out.to w1 (by simp)))
   have kO4 := cell_of_row _ _ 4 _ _ _ (boxStays HO.out (HC.out.to w1 (by simp)))
   have kO5 := cell_of_row _ _ 5 _ _ _ (boxStays HO.out (HC.out.to w1 (by simp)))
   go_wp2_with (refine wpList_store_row rfl 49 (.tmp 6) (.tmp 44) rfl (z + 1 + 1 + 1) #[.int .i64 0, .int .i64 0, .slice none 0 0] rfl rfl 49 _ HRX.out (by kernel_rfl) rfl VZ.out ?_)
   clear kV0 kV1 kV2 kS0 kS1 kS2 kS3 kS4 kO0 kO1 kO2 kO3 kO4 kO5
   have hx := setRow_heap _ _ _ #[.int .i64 0, .int .i64 0, .slice none 0 0] _ _ HRX.out
   have r0 := cell_of_row _ _ 0 _ _ _ hx
   have r1 := cell_of_row _ _ 1 _ _ _ hx
   have r2 := cell_of_row _ _ 2 _ _ _ hx
   refine bodyPost_ret (v := .tuple #[.agg #[.int .i64 0, .int .i64 0, .slice none 0 0], .int .i64 2]) (by simp [results, Tryd.results54, go_sem, r0, r1, r2]) rfl ?_
   rw [hres]
   exact ⟨none, 0, 0, rfl, CellsAt.nil _ _, rfl, Nat.le_refl _, fun ad had => (by cases had), below_setRow (HC.out.to w (by simp)) WZ.out _, fun _ => ⟨rfl, Or.inl ⟨rfl, rfl⟩⟩⟩
  have HA0 : Hid (¬ (ce = 2 ∨ valG k m l = false ∨ s.ok = false ∨ lastGe l s = true)) := Lib.hid (by rw [H3.out, H4.out, H5.out]; simp [h2])
  by_cases h7 : ce ≠ 0 ∨ pk ≠ k
  · have hres : re = (0, 0, [], 7) := by rw [← RE.out]; unfold applyG; rw [if_neg HA0.out, if_pos h7]
    by_cases h70 : ce = 0
    · subst h70
      have h71 : (pk == k) = false := by simp at h7; simp [h7]
      have HRX := Lib.hid (boxStays HR.out (HC.out.to w1 (by simp)))
      have kV0 := cell_of_row _ _ 0 _ _ _ (boxStays HV.out (HC.out.to w1 (by simp)))
      have kV1 := cell_of_row _ _ 1 _ _ _ (boxStays HV.out (HC.out.to w1 (by simp)))
      have kV2 := cell_of_row _ _ 2 _ _ _ (boxStays HV.out (HC.out.to w1 (by simp)))
      have kS0 := cell_of_row _ _ 0 _ _ _ (boxStays HS.out (HC.out.to w1 (by simp)))
      have kS1 := cell_of_row _ _ 1 _ _ _ (boxStays HS.out (HC.out.to w1 (by simp)))
      have kS2 := cell_of_row _ _ 2 _ _ _ (boxStays HS.out (HC.out.to w1 (by simp)))
      have kS3 := cell_of_row _ _ 3 _ _ _ (boxStays HS.out (HC.out.to w1 (by simp)))
      have kS4 := cell_of_row _ _ 4 _ _ _ (boxStays HS.out (HC.out.to w1 (by simp)))
      have kO0 := cell_of_row _ _ 0 _ _ _ (boxStays HO.out (HC.out.to w1 (by simp)))
      have kO1 := cell_of_row _ _ 1 _ _ _ (boxStays HO.out (HC.out.to w1 (by simp)))
      have kO2 := cell_of_row _ _ 2 _ _ _ (boxStays HO.out (HC.out.to w1 (by simp)))
      have kO3 := cell_of_row _ _ 3 _ _ _ (boxStays HO.out (HC.out.to w1 (by simp)))
      have kO4 := cell_of_row _ _ 4 _ _ _ (boxStays HO.out (HC.out.to w1 (by simp)))
      have kO5 := cell_of_row _ _ 5 _ _ _ (boxStays HO.out (HC.out.to w1 (by simp)))
      go_wp2_with (refine wpList_store_row rfl 49 (.tmp 6) (.tmp 54) rfl (z + 1 + 1 + 1) #[.int .i64 0, .int .i64 0, .slice none 0 0] rfl rfl 49 _ HRX.out (by kernel_rfl) rfl VZ.out ?_)
      clear kV0 kV1 kV2 kS0 kS1 kS2 kS3 kS4 kO0 kO1 kO2 kO3 kO4 kO5
      have hx := setRow_heap _ _ _ #[.int .i64 0, .int .i64 0, .slice none 0 0] _ _ HRX.out
      have r0 := cell_of_row _ _ 0 _ _ _ hx
      have r1 := cell_of_row _ _ 1 _ _ _ hx
      have r2 := cell_of_row _ _ 2 _ _ _ hx
      refine bodyPost_ret (v := .tuple #[.agg #[.int .i64 0, .int .i64 0, .slice none 0 0], .int .i64 7]) (by simp [results, Tryd.results54, go_sem, r0, r1, r2]) rfl ?_
      rw [hres]
      exact ⟨none, 0, 0, rfl, CellsAt.nil _ _, rfl, Nat.le_refl _, fun ad had => (by cases had), below_setRow (HC.out.to w (by simp)) WZ.out _, fun _ => ⟨rfl, Or.inl ⟨rfl, rfl⟩⟩⟩
    · have h71 : (ce == 0) = false := by simp [h70]
      have HRX := Lib.hid (boxStays HR.out (HC.out.to w1 (by simp)))
      have kV0 := cell_of_row _ _ 0 _ _ _ (boxStays HV.out (HC.out.to w1 (by simp)))
      have kV1 := cell_of_row _ _ 1 _ _ _ (boxStays HV.out (HC.out.to w1 (by simp)))
      have kV2 := cell_of_row _ _ 2 _ _ _ (boxStays HV.out (HC.out.to w1 (by simp)))
      have kS0 := cell_of_row _ _ 0 _ _ _ (boxStays HS.out (HC.out.to w1 (by simp)))
      have kS1 := cell_of_row _ _ 1 _ _ _ (boxStays HS.out (HC.out.to w1 (by simp)))
      have kS2 := cell_of_row _ _ 2 _ _ _ (boxStays HS.out (HC.out.to w1 (by simp)))
      have kS3 := cell_of_row _ _ 3 _ _ _ (boxStays HS.out (HC.out.to w1 (by simp)))
      have kS4 := cell_of_row _ _ 4 _ _ _ (boxStays HS.out (HC.out.to w1 (by simp)))
      have kO0 := cell_of_row _ _ 0 _ _ _ (boxStays HO.out (HC.out.to w1 (by simp)))
      have kO1 := cell_of_row _ _ 1 _ _ _ (boxStays HO.out (HC.out.to w1 (by simp)))
      have kO2 := cell_of_row _ _ 2 _ _ _ (boxStays HO.out (HC.out.to w1 (by simp)))
      have kO3 := cell_of_row _ _ 3 _ _ _ (boxStays HO.out (HC.out.to w1 (by simp)))
      have kO4 := cell_of_row _ _ 4 _ _ _ (boxStays HO.out (HC.out.to w1 (by simp)))
      have kO5 := cell_of_row _ _ 5 _ _ _ (boxStays HO.out (HC.out.to w1 (by simp)))
      go_wp2_with (refine wpList_store_row rfl 49 (.tmp 6) (.tmp 54) rfl (z + 1 + 1 + 1) #[.int .i64 0, .int .i64 0, .slice none 0 0] rfl rfl 49 _ HRX.out (by kernel_rfl) rfl VZ.out ?_)
      clear kV0 kV1 kV2 kS0 kS1 kS2 kS3 kS4 kO0 kO1 kO2 kO3 kO4 kO5
      have hx := setRow_heap _ _ _ #[.int .i64 0, .int .i64 0, .slice none 0 0] _ _ HRX.out
      have r0 := cell_of_row _ _ 0 _ _ _ hx
      have r1 := cell_of_row _ _ 1 _ _ _ hx
      have r2 := cell_of_row _ _ 2 _ _ _ hx
      refine bodyPost_ret (v := .tuple #[.agg #[.int .i64 0, .int .i64 0, .slice none 0 0], .int .i64 7]) (by simp [results, Tryd.results54, go_sem, r0, r1, r2]) rfl ?_
      rw [hres]
      exact ⟨none, 0, 0, rfl, CellsAt.nil _ _, rfl, Nat.le_refl _, fun ad had => (by cases had), below_setRow (HC.out.to w (by simp)) WZ.out _, fun _ => ⟨rfl, Or.inl ⟨rfl, rfl⟩⟩⟩
  obtain ⟨rfl, rfl⟩ : ce = 0 ∧ pk = k := by
   constructor
   · exact Classical.byContradiction fun h => h7 (.inl h)
   · exact Classical.byContradiction fun h => h7 (.inr h)
  have HRE : Hid (re = (pk, IntKind.i64.wrap (m + pm), newG pd pt s l, 0)) := Lib.hid (by rw [← RE.out]; unfold applyG; rw [if_neg HA0.out, if_neg (by simp)])
  clear RE HA0 h7 h2 h2b
  obtain ⟨mm, hmm⟩ : ∃ q, IntKind.i64.wrap (m + pm) = q := ⟨_, rfl⟩
  rw [hmm] at HRE
  have kV0 := cell_of_row _ _ 0 _ _ _ (boxStays HV.out (HC.out.to w1 (by simp)))
  have kV1 := cell_of_row _ _ 1 _ _ _ (boxStays HV.out (HC.out.to w1 (by simp)))
  have kV2 := cell_of_row _ _ 2 _ _ _ (boxStays HV.out (HC.out.to w1 (by simp)))
  have kO0 := cell_of_row _ _ 0 _ _ _ (boxStays HO.out (HC.out.to w1 (by simp)))
  have kO1 := cell_of_row _ _ 1 _ _ _ (boxStays HO.out (HC.out.to w1 (by simp)))
  have kO2 := cell_of_row _ _ 2 _ _ _ (boxStays HO.out (HC.out.to w1 (by simp)))
  have kO3 := cell_of_row _ _ 3 _ _ _ (boxStays HO.out (HC.out.to w1 (by simp)))
  have kO4 := cell_of_row _ _ 4 _ _ _ (boxStays HO.out (HC.out.to w1 (by simp)))
  have kO5 := cell_of_row _ _ 5 _ _ _ (boxStays HO.out (HC.out.to w1 (by simp)))
  go_upto_region 10 with (fail)
  clear hmm
  have LZ5 : Hid (z + 1 + 1 + 1 < w5.heap.size ∧ w.heap.size ≤ w5.heap.size) := Lib.hid ⟨(Array.getElem?_eq_some_iff.1 (boxStays HR.out (HC.out.to w1 (by simp)))).1, (HC.out.to w (by simp)).size⟩
  clear kV0 kV1 kV2 kO0 kO1 kO2 kO3 kO4 kO5
  obtain ⟨y, hy⟩ : ∃ c, w5.heap.size = c := ⟨_, rfl⟩
  try rw [hy]
  obtain ⟨w6, hw6⟩ : ∃ X, allocs w5 [.cells #[.int .i64 pk, .int .i64 mm, .slice none 0 0] 49] = X := ⟨_, rfl⟩
  rw [show w5.alloc (.cells #[.int .i64 pk, .int .i64 mm, .slice none 0 0] 49) = w6 from hw6]
  have hb : Below w5.heap.size w5 w6 := by rw [← hw6]; exact allocs_below _ _
  have HT : Hid (w6.heap[y]? = some (.cells #[.int .i64 pk, .int .i64 mm, .slice none 0 0] 49 (0, 0))) := Lib.hid (by have := allocs_get [.cells #[.int .i64 pk, .int .i64 mm, .slice none 0 0] 49] w5 0 _ rfl; rw [hw6, hy] at this; exact this)
  have Sy : Hid (w5.heap.size = y) := Lib.hid hy
  replace HC := Lib.hid (HC.out.push hb)
  clear hb hw6 hy
  have WY : Hid (z + 1 + 1 + 1 < y ∧ y < w6.heap.size ∧ w.heap.size ≤ y) := Lib.hid (by have h1 := (Array.getElem?_eq_some_iff.1 HT.out).1; have h2 := Sy.out; have h3 := LZ5.out; omega)
  have kV0 := cell_of_row _ _ 0 _ _ _ (boxStays HV.out (HC.out.to w1 (by simp)))
  have kV1 := cell_of_row _ _ 1 _ _ _ (boxStays HV.out (HC.out.to w1 (by simp)))
  have kV2 := cell_of_row _ _ 2 _ _ _ (boxStays HV.out (HC.out.to w1 (by simp)))
  go_wp2_with fail
  clear kV0 kV1 kV2
  have HC6 := HC
  have LB6 := Lib.hid (HC.out.to w (by simp))
  have HR6 := Lib.hid (boxStays HR.out (HC.out.to w1 (by simp)))
  refine (sl_Clone l a n c _ (HL.out.below (HC.out.to w (by simp)) rfl) HN.out (by omega)).mono ?_
  rintro e w7 ⟨a7, k7, rfl, hown, hb⟩
  replace HC := Lib.hid (HC.out.push hb)
  clear hb
  have OW7 := Lib.hid hown
  have NK7 : Hid (n ≤ k7) := Lib.hid (by obtain ⟨_, _, e, h, _⟩ := own_slice hown; cases e; exact h)
  have B67 := Lib.hid (HC.out.to w6 (by simp))
  clear hown
  have HO7 := Lib.hid (boxStays HO.out (HC.out.to w1 (by simp)))
  have OPB : Hid (OpBox (z + 1 + 1) pt w7) := Lib.hid ⟨_, _, _, _, _, HO7.out⟩
  have C7 := Lib.hid (CellsAt.ownN OW7.out)
  have F7 : Hid (∀ ad, a7 = some ad → w6.heap.size ≤ ad.block) := Lib.hid (fun ad had => by
   subst had
   rcases OW7.out.2 with ⟨h0, _⟩ | ⟨g, cap, cur, h0, h1, _⟩
   · cases h0
   · cases h0; exact h1)
  have o3 := cell_of_row _ (z + 1 + 1) 3 _ _ _ HO7.out
  go_upto_block 0 with (fail)
  clear o3
  go_cut [11] (fun u11 wx => ∃ (a9 : Option Addr) (n9 k9 : Nat), u11 = .slice a9 n9 k9 ∧ Hid (CellsAt wx a9 (elsV (baseG pd pt l))) ∧ n9 = (baseG pd pt l).length ∧ n9 ≤ k9 ∧ n9 ≤ n ∧ Hid (bringsG pd = true → wx.ownsRow w6.heap.size 33 6 (.slice a9 n9 k9) n9 (elsV (baseG pd pt l))) ∧ Hid (∀ ad, a9 = some ad → w6.heap.size ≤ ad.block) ∧ Hid (Below w6.heap.size w6 wx))
  case first =>
   rcases (by omega : pd = 3 ∨ pd = 4 ∨ pd = 6 ∨ (pd ≠ 3 ∧ pd ≠ 4 ∧ pd ≠ 6)) with rfl | rfl | rfl | ⟨h3, h4, h6⟩
   · go_wp2_with fail
     refine (sl_DeleteFunc l pt (z + 1 + 1) w6.heap.size a7 n k7 w7 OW7.out HN.out (by omega) NK7.out OPB.out (by have := WY.out; omega)).mono ?_
     rintro e w8 ⟨rfl, hown8, hgr⟩
     have OW8 := Lib.hid hown8
     have B8 : Hid (Below w6.heap.size w6 w8) := Lib.hid (B67.out.grown hgr B67.out.size (fun k' hk => (OW7.out.lt k' hk).1))
     clear hown8 hgr
     go_wp2_with fail
     go_meet
     have hle := del_len pt l
     exact ⟨a7, _, k7, rfl, Lib.hid (CellsAt.ownN OW8.out), rfl, by have := NK7.out; have := HN.out; omega, by have := HN.out; omega, Lib.hid (fun _ => OW8.out), F7, B8⟩
   · go_wp2_with fail
     go_meet
     exact ⟨none, 0, 0, rfl, Lib.hid (CellsAt.nil _ _), rfl, Nat.le_refl _, Nat.zero_le _, Lib.hid (fun _ => ⟨rfl, Or.inl ⟨rfl, rfl⟩⟩), Lib.hid (fun ad had => by cases had), B67⟩
   · by_cases hn0 : n = 0
     · subst hn0
       obtain rfl : l = [] := List.length_eq_zero_iff.1 HN.out.symm
       have hsl := fun W => run_from (P := Tryd.prog) W 47 33 Tryd.underlying47 6 (fun w => by kernel_rfl) a7 0 k7 0 0 rfl (Nat.le_refl _)
       have hmin : min (1 : Int) 0 = 0 := by decide
       go_wp2_with fail
       go_meet
       exact ⟨_, 0, k7, rfl, Lib.hid (CellsAt.nil _ _), rfl, Nat.zero_le _, Nat.le_refl _, Lib.hid (fun h => by simp [bringsG] at h), Lib.hid (subN_from F7.out), B67⟩
     · obtain ⟨r, rfl⟩ : ∃ r, n = r + 1 := ⟨n - 1, by omega⟩
       have hsl := fun W => run_from (P := Tryd.prog) W 47 33 Tryd.underlying47 6 (fun w => by kernel_rfl) a7 (r + 1) k7 1 1 rfl (by omega)
       have hmin : min (1 : Int) ((r : Int) + 1) = 1 := by omega
       go_wp2_with fail
       go_meet
       have hle := NK7.out
       exact ⟨_, r, k7 - 1, rfl, Lib.hid (by have h := cellsFromM C7.out (len := r + 1) (size := 6) (by rw [elsV_length, ← HN.out]) k7 1 (by omega) hle; rw [← elsV_drop] at h; exact h), by show r = (l.drop 1).length; rw [List.length_drop, ← HN.out]; rfl, by omega, by omega, Lib.hid (fun h => by simp [bringsG] at h), Lib.hid (subN_from F7.out), B67⟩
   · go_wp2_with fail
     go_meet
     have hbs : baseG pd pt l = l := by unfold baseG; rw [if_neg h3, if_neg h4, if_neg h6]
     rw [hbs]
     exact ⟨a7, n, k7, rfl, C7, HN.out, NK7.out, Nat.le_refl _, Lib.hid (fun _ => OW7.out), F7, B67⟩
  case rest =>
   obtain ⟨a9, n9, k9, rfl, C9, hn9, hk9, hnn, OW9, F9, HBD⟩ := hcut
   have HN9 := Lib.hid hn9
   clear hn9
   obtain ⟨w8, rfl⟩ : ∃ X : World, X = wc := ⟨_, rfl⟩
   clear HC OW7 OPB C7 F7 HO7 B67 NK7
   have HC := HC6
   have hb := HBD.out
   replace HC := Lib.hid (HC.out.push hb)
   clear hb
   have HB8 := Lib.hid (HC.out.to w (by simp))
   clear HC6 HBD
   have kO0 := cell_of_row _ _ 0 _ _ _ (boxStays HO.out (HC.out.to w1 (by simp)))
   have kO1 := cell_of_row _ _ 1 _ _ _ (boxStays HO.out (HC.out.to w1 (by simp)))
   have kO2 := cell_of_row _ _ 2 _ _ _ (boxStays HO.out (HC.out.to w1 (by simp)))
   have kO3 := cell_of_row _ _ 3 _ _ _ (boxStays HO.out (HC.out.to w1 (by simp)))
   have kO4 := cell_of_row _ _ 4 _ _ _ (boxStays HO.out (HC.out.to w1 (by simp)))
   have kO5 := cell_of_row _ _ 5 _ _ _ (boxStays HO.out (HC.out.to w1 (by simp)))
   go_upto_region 18 with (fail)
   go_wp2_with fail
   refine (kn_bringsB pd _).mono ?_
   rintro e w9 ⟨rfl, hb⟩
   clear kO0 kO1 kO2 kO3 kO4 kO5
   replace HC := Lib.hid (HC.out.push hb)
   clear hb
   have ET := Lib.hid elT
   have HRE2 : Hid (re = (pk, mm, baseG pd pt l ++ (if bringsG pd = true then [(s, pt)] else []), 0)) := Lib.hid (by rw [HRE.out]; unfold newG; rfl)
   have BB9 := Lib.hid (HC.out.to w6 (by simp))
   obtain ⟨bg, hbg⟩ : ∃ b, bringsG pd = b := ⟨_, rfl⟩
   rw [hbg] at OW9 HRE2
   rw [hbg]
   have BG := Lib.hid hbg
   clear hbg HRE
   have HT9 := Lib.hid (boxStays HT.out (HC.out.to w6 (by simp)))
   have HR9 := Lib.hid (boxStays HR.out (HC.out.to w1 (by simp)))
   have BW9 := Lib.hid (HC.out.to w (by simp))
   have NZT : Hid (y ≠ z + 1 + 1 + 1) := Lib.hid (by have := WY.out; omega)
   cases bg
   case false =>
    have hres : re = (pk, mm, baseG pd pt l, 0) := by rw [HRE2.out]; simp
    have t1 := cell_of_row _ _ 2 _ _ _ HT9.out
    have t2 := frozen_of_row _ y 2 _ _ HT9.out
    have t3 := cell_of_row _ _ 0 _ _ _ HT9.out
    have t4 := cell_of_row _ _ 1 _ _ _ HT9.out
    have HTN : Hid ((w9.setCell ⟨y, 2, none⟩ (.slice a9 n9 k9)).heap[y]? = some (.cells #[.int .i64 pk, .int .i64 mm, (.slice a9 n9 k9)] 49 (0, 0))) := Lib.hid (by have := heap_setCell_same w9 y 2 _ _ (.slice a9 n9 k9) HT9.out; simpa using this)
    have HRN : Hid ((w9.setCell ⟨y, 2, none⟩ (.slice a9 n9 k9)).heap[z + 1 + 1 + 1]? = some (.cells #[.int .i64 0, .int .i64 0, .slice none 0 0] 49 (0, 0))) := Lib.hid ((Below.heap_setCell _ _ _ _ (by simpa using NZT.out.symm)).trans HR9.out)
    go_upto_region 21 with (fail)
    clear t1 t2 t3 t4
    have t5 := cell_of_row _ _ 0 _ _ _ HTN.out
    have t6 := cell_of_row _ _ 1 _ _ _ HTN.out
    have t7 := cell_of_row _ _ 2 _ _ _ HTN.out
    go_wp2_with (refine wpList_store_row rfl 49 (.tmp 6) (.tmp 94) rfl (z + 1 + 1 + 1) #[.int .i64 pk, .int .i64 mm, (.slice a9 n9 k9)] rfl rfl 49 _ HRN.out (by kernel_rfl) rfl (by simp [Value.oneCell']) ?_)
    have hx := setRow_heap _ _ _ #[.int .i64 pk, .int .i64 mm, (.slice a9 n9 k9)] _ _ HRN.out
    have r0 := cell_of_row _ _ 0 _ _ _ hx
    have r1 := cell_of_row _ _ 1 _ _ _ hx
    have r2 := cell_of_row _ _ 2 _ _ _ hx
    refine bodyPost_ret (v := .tuple #[.agg #[.int .i64 pk, .int .i64 mm, (.slice a9 n9 k9)], .int .i64 0]) (by simp [results, Tryd.results54, go_sem, r0, r1, r2]) rfl ?_
    rw [hres]
    refine ⟨a9, n9, k9, rfl, ?_, HN9.out, hk9, fun ad had => by have h1 := F9.out ad had; have h2 := LB6.out.size; omega, below_setRow (BW9.out.setCell (p := ⟨y, 2, none⟩) WY.out.2.2 _) WZ.out _, fun h => by rw [BG.out] at h; cases h⟩
    exact cellsAt_two C9.out (HC.out.to w8 (by simp)) (fun ad had => by have h1 := F9.out ad had; have h2 := WY.out; omega) _ _ _
   case true =>
    have OW99 := Lib.hid (own_below (OW9.out rfl) (HC.out.to w8 (by simp)) (fun k' hk => (OW9.out rfl).lt k' hk |>.2))
    have HS9 := Lib.hid (boxStays HS.out (HC.out.to w1 (by simp)))
    have HO9 := Lib.hid (boxStays HO.out (HC.out.to w1 (by simp)))
    have s0 := cell_of_row _ _ 0 _ _ _ HS9.out
    have s1 := cell_of_row _ _ 1 _ _ _ HS9.out
    have s2 := cell_of_row _ _ 2 _ _ _ HS9.out
    have s3 := cell_of_row _ _ 3 _ _ _ HS9.out
    have s4 := cell_of_row _ _ 4 _ _ _ HS9.out
    have o5 := cell_of_row _ _ 5 _ _ _ HO9.out
    go_upto_region 20 with (at_builtin; go_must (refine wpList_app rfl _ _ 47 47 rfl w6.heap.size 33 _ 6 64 ET.out (.slice a9 n9 k9) n9 (elsV (baseG pd pt l)) rfl (OW99.out.alloc _) _ 1 (elV (s, pt)) rfl ((CellsAt.new w9 33 (0, 0) (elV (s, pt))).srcN rfl (fun u hu => elsV_one [(s, pt)] u (by simpa [elsV] using hu)) Tryd.underlying47 1 (by decide)) (by omega) (by omega) (by have := BB9.out.size; simp; omega) ?_); go_must (intro v10 w10 hown hgr10 hbel _); go_must (obtain ⟨g11, k11, rfl, hg11, hl11, hnk11, _⟩ := own_form hown (by omega)); have OW10 := Lib.hid hown; have B10 := Lib.hid ((BB9.out.alloc BB9.out.size _).trans hbel); have HG11 := Lib.hid (And.intro hg11 hnk11); clear hown hgr10 hbel hg11 hl11 hnk11)
    clear s0 s1 s2 s3 s4 o5
    have HT10 := Lib.hid (boxStays HT.out B10.out)
    have HR10 := Lib.hid (boxStays HR6.out B10.out)
    have BW10 := Lib.hid (LB6.out.trans (B10.out.mono LB6.out.size))
    have hres : re = (pk, mm, baseG pd pt l ++ [(s, pt)], 0) := by rw [HRE2.out]; simp
    have t1 := cell_of_row _ _ 2 _ _ _ HT10.out
    have t2 := frozen_of_row _ y 2 _ _ HT10.out
    have t3 := cell_of_row _ _ 0 _ _ _ HT10.out
    have t4 := cell_of_row _ _ 1 _ _ _ HT10.out
    have HTN : Hid ((w10.setCell ⟨y, 2, none⟩ (.slice (some ⟨g11, 0, none⟩) (n9 + 1) k11)).heap[y]? = some (.cells #[.int .i64 pk, .int .i64 mm, (.slice (some ⟨g11, 0, none⟩) (n9 + 1) k11)] 49 (0, 0))) := Lib.hid (by have := heap_setCell_same w10 y 2 _ _ (.slice (some ⟨g11, 0, none⟩) (n9 + 1) k11) HT10.out; simpa using this)
    have HRN : Hid ((w10.setCell ⟨y, 2, none⟩ (.slice (some ⟨g11, 0, none⟩) (n9 + 1) k11)).heap[z + 1 + 1 + 1]? = some (.cells #[.int .i64 0, .int .i64 0, .slice none 0 0] 49 (0, 0))) := Lib.hid ((Below.heap_setCell _ _ _ _ (by simpa using NZT.out.symm)).trans HR10.out)
    go_upto_region 21 with (fail)
    clear t1 t2 t3 t4
    have t5 := cell_of_row _ _ 0 _ _ _ HTN.out
    have t6 := cell_of_row _ _ 1 _ _ _ HTN.out
    have t7 := cell_of_row _ _ 2 _ _ _ HTN.out
    go_wp2_with (refine wpList_store_row rfl 49 (.tmp 6) (.tmp 94) rfl (z + 1 + 1 + 1) #[.int .i64 pk, .int .i64 mm, (.slice (some ⟨g11, 0, none⟩) (n9 + 1) k11)] rfl rfl 49 _ HRN.out (by kernel_rfl) rfl (by simp [Value.oneCell']) ?_)
    have hx := setRow_heap _ _ _ #[.int .i64 pk, .int .i64 mm, (.slice (some ⟨g11, 0, none⟩) (n9 + 1) k11)] _ _ HRN.out
    have r0 := cell_of_row _ _ 0 _ _ _ hx
    have r1 := cell_of_row _ _ 1 _ _ _ hx
    have r2 := cell_of_row _ _ 2 _ _ _ hx
    refine bodyPost_ret (v := .tuple #[.agg #[.int .i64 pk, .int .i64 mm, (.slice (some ⟨g11, 0, none⟩) (n9 + 1) k11)], .int .i64 0]) (by simp [results, Tryd.results54, go_sem, r0, r1, r2]) rfl ?_
    rw [hres]
    refine ⟨some ⟨g11, 0, none⟩, n9 + 1, k11, rfl, ?_, by show n9 + 1 = (baseG pd pt l ++ [(s, pt)]).length; rw [List.length_append, ← HN9.out]; rfl, HG11.out.2, fun ad had => by cases had; have h1 := HG11.out.1; have h2 := LB6.out.size; show w.heap.size ≤ g11; omega, below_setRow (BW10.out.setCell (p := ⟨y, 2, none⟩) WY.out.2.2 _) WZ.out _, fun _ => ?_⟩
    case refine_2 =>
     have ho := own_mono OW10.out LB6.out.size
     rw [show elsV (baseG pd pt l) ++ elV (s, pt) = elsV (baseG pd pt l ++ [(s, pt)]) from by rw [elsV_append]; simp [elsV]] at ho
     have h1 := HG11.out.1
     have h2 := WY.out
     exact own_grown (own_grown ho (grown_set _ y 2 _) (fun k' hk' e => by have h3 := Option.some.inj (show some g11 = some k' from hk'); have h4 := Option.some.inj e; omega)) (grown_setRow _ _ _) (fun k' hk' e => by have h3 := Option.some.inj (show some g11 = some k' from hk'); have h4 := Option.some.inj e; omega)
    have hc := CellsAt.ownN OW10.out
    rw [show elsV (baseG pd pt l) ++ elV (s, pt) = elsV (baseG pd pt l ++ [(s, pt)]) from by rw [elsV_append]; simp [elsV]] at hc
    exact cellsAt_two hc (Below.refl _ _) (fun ad had => by cases had; have h1 := HG11.out.1; have h2 := WY.out; show g11 ≠ y ∧ g11 ≠ z + 1 + 1 + 1; omega) _ _ _
end Go.Proofs.YtjlliohjeiclaaaDoor
