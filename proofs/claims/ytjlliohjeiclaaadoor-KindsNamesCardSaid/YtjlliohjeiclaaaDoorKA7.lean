/- Words, contracts and walks that the proof stands on (SmP KnK KnP KnL KnQ KnM). -/
import Derived.Carry
import Derived.MapKept
import Derived.Maps.Own
import Derived.RangeFuncRecord
import Derived.Shelf.SlSortCmp.NoneTotal
import Derived.Shelf.SlSortCmp.WholeK
import Derived.Test.YtjlliohjeiclaaaDoorKA1
import Derived.Test.YtjlliohjeiclaaaDoorKA2
import Derived.Test.YtjlliohjeiclaaaDoorKA5
import Derived.Test.YtjlliohjeiclaaaDoorKA6
namespace Go.Proofs.YtjlliohjeiclaaaDoor
open Go.RowKit St
def smK (s : Sv) : Value := .agg #[.int .i64 s.g, .int .i64 s.r, .string s.l, .int .i64 s.n, .int .i64 s.i]
def StMap (W : World) (B : Nat) (ps : List (Sv × Int)) : Prop :=
 ∃ (es : Array MapEntry) (clock : Nat), W.heap[B]? = some (.map es clock) ∧ es.toList.map (fun e => (e.key, e.val)) = ps.map fun p => (smK p.1, Value.int .i64 p.2)
theorem StMap.below {W W' : World} {B : Nat} {ps : List (Sv × Int)} (h : StMap W B ps) (hb : Below W.heap.size W W') : StMap W' B ps := by
 obtain ⟨es, c, h1, h2⟩ := h
 exact ⟨es, c, (hb.block B (Array.getElem?_eq_some_iff.1 h1).1).trans h1, h2⟩
theorem StMap.new (w : World) : StMap (w.alloc (.map #[] 0)) w.heap.size [] := ⟨#[], 0, heap_alloc_new w _, rfl⟩
def lookG (ps : List (Sv × Int)) (s : Sv) : Int := match ps.find? (fun p => decide (p.1 = s)) with
 | none => 0
 | some p => p.2
theorem smK_equal (s t : Sv) (w : World) : (Op.equal 27 (smK s) (smK t)).run Tryd.prog w = .ok (decide (s = t)) w := by
 have h := sv_eql s t w
 rw [run_eql_struct] at h
 have e : Op.equal 27 (smK s) (smK t) = Op.equalIn 10000 27 (smK s) (smK t) := rfl
 rw [e]
 unfold smK
 cases hr : (Op.equalIn 10000 27 (.agg #[.int .i64 s.g, .int .i64 s.r, .string s.l, .int .i64 s.n, .int .i64 s.i]) (.agg #[.int .i64 t.g, .int .i64 t.r, .string t.l, .int .i64 t.n, .int .i64 t.i])).run Tryd.prog w with
 | ok b w' =>
  rw [hr] at h
  simp [Result.andThen] at h
  obtain ⟨h1, h2⟩ := h
  rw [h2]
  congr 1
 | halt x w' =>
  rw [hr] at h
  cases h
theorem stFindAsking (w : World) (s : Sv) : ∀ (es : List MapEntry) (ps : List (Sv × Int)) (i : Nat), es.map (fun e => (e.key, e.val)) = ps.map (fun p => (smK p.1, Value.int .i64 p.2)) →
 ((∀ p ∈ ps, p.1 ≠ s) ∧ (Instr.findAsking 27 (smK s) es i).run Tryd.prog w = .ok none w) ∨ ((∃ p ∈ ps, p.1 = s) ∧ ∃ j, (Instr.findAsking 27 (smK s) es i).run Tryd.prog w = .ok (some (j, .int .i64 (lookG ps s))) w)
 | [], ps, i, h => by
  have : ps = [] := by simpa using h.symm
  subst this
  exact .inl ⟨by simp, by simp [Instr.findAsking]⟩
 | e :: es, [], i, h => by simp at h
 | e :: es, p :: ps, i, h => by
  simp only [List.map_cons, List.cons.injEq, Prod.mk.injEq] at h
  obtain ⟨⟨hk, hv⟩, hr⟩ := h
  have he := smK_equal s p.1 w
  by_cases e1 : s = p.1
  · refine .inr ⟨⟨p, by simp, e1.symm⟩, i, ?_⟩
    rw [decide_eq_true e1] at he
    have hl : lookG (p :: ps) s = p.2 := by unfold lookG; rw [List.find?_cons_of_pos (by simp [e1])]
    simp [Instr.findAsking, hk, hv, he, hl]
  · rw [decide_eq_false e1] at he
    have hl : lookG (p :: ps) s = lookG ps s := by unfold lookG; rw [List.find?_cons_of_neg (by simp; exact fun h => e1 h.symm)]
    rcases stFindAsking w s es ps (i + 1) hr with ⟨h1, h2⟩ | ⟨⟨q, h1, h3⟩, j, h2⟩
    · refine .inl ⟨fun q hq => ?_, by simp [Instr.findAsking, hk, he, h2]⟩
      rcases List.mem_cons.1 hq with rfl | hq
      · exact fun h => e1 h.symm
      · exact h1 q hq
    · exact .inr ⟨⟨q, by simp [h1], h3⟩, j, by rw [hl]; simp [Instr.findAsking, hk, he, h2]⟩
theorem stFindKey (w : World) (s : Sv) (es : List MapEntry) (ps : List (Sv × Int)) (h : es.map (fun e => (e.key, e.val)) = ps.map (fun p => (smK p.1, Value.int .i64 p.2))) :
 ((∀ p ∈ ps, p.1 ≠ s) ∧ (Instr.findKey 27 (smK s) es).run Tryd.prog w = .ok none w) ∨ ((∃ p ∈ ps, p.1 = s) ∧ ∃ j, (Instr.findKey 27 (smK s) es).run Tryd.prog w = .ok (some (j, .int .i64 (lookG ps s))) w) := by
 have hp := Tryd.underlying27
 cases es with
 | nil =>
  have : ps = [] := by simpa using h.symm
  subst this
  exact .inl ⟨by simp, by simp [Instr.findKey, run_underlying hp, Instr.findNow]⟩
 | cons e es =>
  have := stFindAsking w s (e :: es) ps 0 h
  unfold Instr.findKey
  simp only [Sem.run_bind, run_underlying hp, Result.andThen_ok]
  have hf : ∀ fs, Instr.findNow (.struct fs) (smK s) (e :: es) 0 = none := fun fs => by simp [Instr.findNow, Instr.sameNow]
  rw [hf]
  exact this
theorem stCheck (s : Sv) (em : Bool) (w : World) : (Instr.checkKey em 10000 27 (smK s)).run Tryd.prog w = .ok () w := by
 cases em <;> kernel_rfl
theorem stMap_look {w : World} {B : Nat} {ps : List (Sv × Int)} (h : StMap w B ps) (s : Sv) :
 (Instr.lookup 116 (.map (some B)) (smK s) false).run Tryd.prog w = .ok (.int .i64 (lookG ps s)) w := by
 obtain ⟨es, clock, hB, he⟩ := h
 have hm := Tryd.underlying116
 have hz : (zeroValue 3).run Tryd.prog w = .ok (.int .i64 0) w := by kernel_rfl
 have hc := stCheck s es.isEmpty w
 rcases stFindKey w s es.toList ps he with ⟨h1, h2⟩ | ⟨h1, j, h2⟩
 · have hl : lookG ps s = 0 := by
    unfold lookG
    rw [List.find?_eq_none.2 (fun p hp => by simpa using h1 p hp)]
   unfold Instr.lookup
   simp [run_underlying hm, Go.MapKept.run_getObj_map hB, hc, h2, hz, hl]
 · unfold Instr.lookup
   simp [run_underlying hm, Go.MapKept.run_getObj_map hB, hc, h2]
theorem stMap_put {w : World} {B : Nat} {ps : List (Sv × Int)} (h : StMap w B ps) (s : Sv) (v : Int) (hs : ∀ p ∈ ps, p.1 ≠ s) :
 ∃ o, (Instr.mapUpdate 116 (.map (some B)) (smK s) (.int .i64 v)).run Tryd.prog w = .ok () (w.putObj B o) ∧ StMap (w.putObj B o) B (ps ++ [(s, v)]) := by
 obtain ⟨es, clock, hB, he⟩ := h
 have hm := Tryd.underlying116
 have hc := stCheck s false w
 rcases stFindKey w s es.toList ps he with ⟨h1, h2⟩ | ⟨⟨p, h1, h3⟩, j, h2⟩
 · refine ⟨.map (es.push { key := smK s, val := .int .i64 v, born := clock }) (clock + 1), ?_, ?_⟩
   · unfold Instr.mapUpdate
     simp [run_underlying hm, Go.MapKept.run_getObj_map hB, Go.MapKept.run_setObj_map _ hB, hc, h2]
     rfl
   · exact ⟨_, _, World.putObj_heap_same (Array.getElem?_eq_some_iff.1 hB).1, by simp [he]⟩
 · exact absurd h3 (hs p h1)
end Go.Proofs.YtjlliohjeiclaaaDoor
namespace Go.Proofs.YtjlliohjeiclaaaDoor
open Go.RowKit St Pm Ku Kn
namespace Kn
def stampsG (l : List Ev) : List (Sv × Int) := l.mapIdx fun i e => (e.1, (i : Int) + 1)
theorem stampsG_length (l : List Ev) : (stampsG l).length = l.length := by simp [stampsG]
theorem stampsG_get (l : List Ev) (q : Nat) (h : q < l.length) : (stampsG l)[q]'(by rw [stampsG_length]; exact h) = (l[q].1, (q : Int) + 1) := by simp [stampsG]
theorem stampsG_take (l : List Ev) (q : Nat) (h : q < l.length) : (stampsG l).take (q + 1) = (stampsG l).take q ++ [(l[q].1, (q : Int) + 1)] := by
 rw [← stampsG_get l q h, List.take_append_getElem]
theorem stampsG_new (l : List Ev) (q : Nat) (h : q < l.length) (hd : (l.map (·.1)).Nodup) : ∀ p ∈ (stampsG l).take q, p.1 ≠ l[q].1 := by
 intro p hp
 obtain ⟨i, hi, rfl⟩ := List.mem_take_iff_getElem.1 hp
 have hil : i < l.length := by rw [stampsG_length] at hi; omega
 rw [stampsG_get l i hil]
 have := List.pairwise_iff_getElem.1 hd i q (by simpa using hil) (by simpa using h) (by omega)
 simpa using this
theorem lookG_zero {ps : List (Sv × Int)} {s : Sv} (h : ∀ p ∈ ps, p.1 ≠ s) : lookG ps s = 0 := by
 unfold lookG
 rw [List.find?_eq_none.2 (fun p hp => by simpa using h p hp)]
theorem look_none (l : List Ev) (s : Sv) (h : ∀ e ∈ l, e.1 ≠ s) : lookG (stampsG l) s = 0 := lookG_zero fun p hp => by
 obtain ⟨i, hi, rfl⟩ := List.getElem_of_mem hp
 have hil : i < l.length := by rw [stampsG_length] at hi; omega
 rw [stampsG_get l i hil]
 exact h _ (List.getElem_mem hil)
theorem look_some (l : List Ev) (s : Sv) (h : ∃ e ∈ l, e.1 = s) : 0 < lookG (stampsG l) s := by
 obtain ⟨e, he, rfl⟩ := h
 unfold lookG
 obtain ⟨i, hi, rfl⟩ := List.getElem_of_mem he
 cases hf : (stampsG l).find? (fun p => decide (p.1 = l[i].1)) with
 | none =>
  have := List.find?_eq_none.1 hf _ (List.getElem_mem (by rw [stampsG_length]; exact hi) : (stampsG l)[i]'(by rw [stampsG_length]; exact hi) ∈ stampsG l)
  rw [stampsG_get l i hi] at this
  simp at this
 | some p =>
  have hm := List.mem_of_find?_eq_some hf
  obtain ⟨j, hj, rfl⟩ := List.getElem_of_mem hm
  have hjl : j < l.length := by rw [stampsG_length] at hj; omega
  rw [stampsG_get l j hjl]
  simp only
  omega
def hasG (l : List Ev) (s : Sv) : Bool := l.any fun e => decide (e.1 = s)
theorem look_pos (l : List Ev) (s : Sv) : decide (0 < lookG (stampsG l) s) = hasG l s := by
 by_cases h : ∃ e ∈ l, e.1 = s
 · have h2 : hasG l s = true := by unfold hasG; rw [List.any_eq_true]; obtain ⟨e, h1, h3⟩ := h; exact ⟨e, h1, by simp [h3]⟩
   rw [h2, decide_eq_true (look_some l s h)]
 · have h3 : ∀ e ∈ l, e.1 ≠ s := fun e he hs => h ⟨e, he, hs⟩
   have h2 : hasG l s = false := by unfold hasG; rw [List.any_eq_false]; exact fun e he => by simpa using h3 e he
   rw [h2, look_none l s h3]
   rfl
theorem look_eq (l : List Ev) (s : Sv) : (lookG (stampsG l) s == 0) = !(hasG l s) := by
 rw [← look_pos]
 by_cases h : ∃ e ∈ l, e.1 = s
 · have := look_some l s h
   rw [decide_eq_true this]
   simp only [Bool.not_true, beq_eq_false_iff_ne]
   omega
 · rw [look_none l s (fun e he hs => h ⟨e, he, hs⟩)]
   rfl
end Kn
open Kn
set_option maxRecDepth 100000 in
set_option maxHeartbeats 2000000 in
theorem kn_stamps (l : List Ev) (a : Option Addr) (n c : Nat) (w : World) (hl : CellsAt w a (elsV l)) (hn : n = l.length) (hb : n ≤ 1000000) (hd : (l.map (·.1)).Nodup) :
 Calls Tryd.prog 65 #[.slice a n c] w fun e w' => ∃ B, e = .returned (.map (some B)) ∧ w.heap.size ≤ B ∧ StMap w' B (stampsG l) ∧ Below w.heap.size w w' := by
 have HL := Lib.hid hl
 have HN := Lib.hid hn
 have HD := Lib.hid hd
 clear hl hn hd
 have hmk := @run_makeMap Tryd.prog
 go_enter Tryd.func65, Tryd.ntmps65
 go_wp2_with fail
 have M0 := Lib.hid (StMap.new w)
 have B0 := Lib.hid (below_new w (.map #[] 0))
 obtain ⟨w1, hw1⟩ : ∃ W, w.alloc (.map #[] 0) = W := ⟨_, rfl⟩
 rw [hw1] at M0 B0 ⊢
 obtain ⟨B, hB⟩ : ∃ b, w.heap.size = b := ⟨_, rfl⟩
 rw [hB] at M0 ⊢
 have SB := Lib.hid hB
 clear hw1 hB
 go_loopw [4, 5, 9] (fun _ _ j wr => ∃ q : Nat, j = .int .i64 (q : Int) ∧ q ≤ n ∧ Hid (StMap wr B ((stampsG l).take q)) ∧ Hid (Below w.heap.size w wr)) (fun _ _ j _ => n - (intOf j).toNat)
 case atStart => exact ⟨0, rfl, Nat.zero_le _, M0, B0⟩
 case round =>
  obtain ⟨q, rfl, hq, HM, HB⟩ := hrel
  by_cases hlt : q < n
  · have hqi : (q : Int) < (n : Int) := by omega
    have hql : q < l.length := by have := HN.out; omega
    obtain ⟨ba, oa, rfl, ca⟩ := els_get (HL.out.below HB.out rfl) q hql
    have TK := Lib.hid (stampsG_take l q hql)
    have NW := Lib.hid (stampsG_new l q hql HD.out)
    obtain ⟨x, hx⟩ : ∃ x, l[q] = x := ⟨_, rfl⟩
    rw [hx] at ca TK NW
    have CA := Lib.hid ca
    obtain ⟨p0, p1, p2, p3, p4, p5⟩ := ca
    clear hx
    go_upto_region 5 with (fail)
    clear p0 p1 p2 p3 p4 p5
    obtain ⟨w3, hw3⟩ : ∃ W, wr.alloc (.cells #[.int .i64 x.1.g, .int .i64 x.1.r, .string x.1.l, .int .i64 x.1.n, .int .i64 x.1.i, .string x.2] 33) = W := ⟨_, rfl⟩
    have B3 : Hid (Below wr.heap.size wr w3) := Lib.hid (by rw [← hw3]; exact below_new _ _)
    have hx3 : w3.heap[wr.heap.size]? = some (.cells #[.int .i64 x.1.g, .int .i64 x.1.r, .string x.1.l, .int .i64 x.1.n, .int .i64 x.1.i, .string x.2] 33 (0, 0)) := by rw [← hw3]; exact heap_alloc_new _ _
    rw [hw3]
    obtain ⟨y, hy⟩ : ∃ y, wr.heap.size = y := ⟨_, rfl⟩
    have BY : Hid (B < y) := Lib.hid (by rw [← hy]; obtain ⟨_, _, h1, _⟩ := HM.out; exact (Array.getElem?_eq_some_iff.1 h1).1)
    rw [hy] at hx3 ⊢
    have SY := Lib.hid hy
    have BW : Hid (Below w.heap.size w w3) := Lib.hid (HB.out.trans (B3.out.mono HB.out.size))
    have M3 : Hid (StMap w3 B ((stampsG l).take q)) := Lib.hid (HM.out.below B3.out)
    obtain ⟨o, hmu, hnm⟩ := stMap_put M3.out x.1 ((q : Int) + 1) NW.out
    unfold smK at hmu
    have NM := Lib.hid hnm
    have q0 := cell_of_row _ y 0 _ _ _ hx3
    have q1 := cell_of_row _ y 1 _ _ _ hx3
    have q2 := cell_of_row _ y 2 _ _ _ hx3
    have q3 := cell_of_row _ y 3 _ _ _ hx3
    have q4 := cell_of_row _ y 4 _ _ _ hx3
    have hwr : IntKind.i64.wrap ((q : Int) + 1) = (q : Int) + 1 := by rw [IntKind.wrap_i64]; omega
    clear hw3 hx3 hy hnm
    go_wp2_with fail
    go_roundw
    case rel => exact ⟨q + 1, by go_num, by omega, Lib.hid (by rw [TK.out]; exact NM.out), Lib.hid (BW.out.trans ⟨rfl, rfl, rfl, by simp, fun k hk => World.putObj_heap_other (by have := SB.out; omega)⟩)⟩
    case measure => simp [intOf]; omega
  · obtain rfl : q = n := by omega
    have hqi : ¬ (q : Int) < (q : Int) := by omega
    have MF : Hid (StMap wr B (stampsG l)) := Lib.hid (by have := HM.out; rwa [List.take_of_length_le (by rw [stampsG_length, HN.out]; exact Nat.le_refl _)] at this)
    go_wp2_with fail
    go_ret
    exact ⟨B, rfl, by rw [SB.out]; exact Nat.le_refl _, MF.out, HB.out⟩
end Go.Proofs.YtjlliohjeiclaaaDoor
namespace Go.Proofs.YtjlliohjeiclaaaDoor
namespace Kn
open St Pm
structure Ord3 {α : Type} (c : α → α → Int) : Prop where
 neg : ∀ x y, c y x = - c x y
 rng : ∀ x y, c x y = -1 ∨ c x y = 0 ∨ c x y = 1
 trans : ∀ x y z, c x y ≤ 0 → c y z ≤ 0 → c x z ≤ 0
theorem Ord3.self {α : Type} {c : α → α → Int} (h : Ord3 c) (x : α) : c x x = 0 := by have := h.neg x x; omega
theorem Ord3.zero {α : Type} {c : α → α → Int} (h : Ord3 c) {x y z : α} (hxy : c x y ≤ 0) (hyz : c y z ≤ 0) (h0 : c x z = 0) : c x y = 0 ∧ c y z = 0 := by
 have a := h.neg x z
 have h1 := h.trans y z x hyz (by omega)
 have h2 := h.trans z x y (by omega) hxy
 have b := h.neg x y
 have d := h.neg y z
 constructor <;> omega
theorem first_le {a b : Int} (h : firstC a b ≤ 0) : a ≤ 0 := by
 unfold firstC at h
 split at h <;> omega
theorem first_z {a b : Int} (h : a = 0) : firstC a b = b := by unfold firstC; rw [if_pos h]
theorem lexO {α β γ : Type} {c : α → α → Int} {d : β → β → Int} (f : γ → α) (g : γ → β) (hc : Ord3 c) (hd : Ord3 d) : Ord3 (fun x y : γ => firstC (c (f x) (f y)) (d (g x) (g y))) where
 neg x y := by
  show firstC (c (f y) (f x)) (d (g y) (g x)) = _
  rw [hc.neg, hd.neg (g x), firstC_neg]
 rng x y := by
  show firstC _ _ = _ ∨ firstC _ _ = _ ∨ firstC _ _ = _
  unfold firstC
  split
  · exact hd.rng _ _
  · exact hc.rng _ _
 trans x y z hxy hyz := by
  have h1 := first_le hxy
  have h2 := first_le hyz
  have h3 := hc.trans _ _ _ h1 h2
  show firstC (c (f x) (f z)) (d (g x) (g z)) ≤ 0
  by_cases h0 : c (f x) (f z) = 0
  · obtain ⟨e1, e2⟩ := hc.zero h1 h2 h0
    rw [first_z e1] at hxy
    rw [first_z e2] at hyz
    rw [first_z h0]
    exact hd.trans _ _ _ hxy hyz
  · unfold firstC
    rw [if_neg h0]
    exact h3
theorem numO : Ord3 numC where
 neg := numC_neg
 rng x y := by unfold numC; split; exact .inl rfl; split; exact .inr (.inr rfl); exact .inr (.inl rfl)
 trans x y z h k := by
  unfold numC at *
  split at h <;> split at k <;> split <;> (try split) <;> (try split at h) <;> (try split at k) <;> omega
theorem txt_le {a b : ByteArray} : txtC a b ≤ 0 ↔ klt b a = false := by
 unfold txtC
 cases h : klt a b with
 | true => rw [klt_asymm h]; simp
 | false => cases h' : klt b a <;> simp
theorem txtO : Ord3 txtC where
 neg := txtC_neg
 rng x y := by unfold txtC; split; exact .inl rfl; split; exact .inr (.inr rfl); exact .inr (.inl rfl)
 trans x y z h k := by
  rw [txt_le] at *
  cases hz : klt z x with
  | false => rfl
  | true =>
   cases hy : klt y z with
   | true => rw [klt_trans hy hz] at h; cases h
   | false =>
    have := klt_tri hy k
    subst this
    rw [hz] at h
    cases h
theorem txt_zero {a b : ByteArray} (h : txtC a b = 0) : a = b := by
 have h1 := txt_le.1 (Int.le_of_eq h)
 have h2 := txtO.neg a b
 have h3 := txt_le.1 (show txtC b a ≤ 0 by omega)
 exact klt_tri h3 h1
theorem num_zero {a b : Int} (h : numC a b = 0) : a = b := by
 unfold numC at h
 split at h
 · omega
 · split at h <;> omega
theorem brO : Ord3 (fun s t : Sv => brC s.r s.l t.r t.l) := lexO (γ := Sv) (·.r) (·.l) numO txtO
theorem nmO : Ord3 (fun s t : Sv => nmC s.r s.l s.n t.r t.l t.n) := lexO (γ := Sv) (c := fun s t : Sv => brC s.r s.l t.r t.l) id (·.n) brO numO
theorem gnO : Ord3 (fun s t : Sv => firstC (numC s.g t.g) (nmC s.r s.l s.n t.r t.l t.n)) := lexO (γ := Sv) (d := fun s t : Sv => nmC s.r s.l s.n t.r t.l t.n) (·.g) id numO nmO
theorem svO : Ord3 svC := lexO (γ := Sv) (c := fun s t : Sv => firstC (numC s.g t.g) (nmC s.r s.l s.n t.r t.l t.n)) id (·.i) gnO numO
theorem first_zero {a b : Int} (h : firstC a b = 0) : a = 0 ∧ b = 0 := by
 unfold firstC at h
 split at h
 · exact ⟨by assumption, h⟩
 · exact absurd h (by assumption)
theorem sv_zero {s t : Sv} (h : svC s t = 0) : s = t := by
 unfold svC nmC brC at h
 obtain ⟨h1, h2⟩ := first_zero h
 obtain ⟨h3, h4⟩ := first_zero h1
 obtain ⟨h5, h6⟩ := first_zero h4
 obtain ⟨h7, h8⟩ := first_zero h5
 have e1 := num_zero h3
 have e2 := num_zero h7
 have e3 := txt_zero h8
 have e4 := num_zero h6
 have e5 := num_zero h2
 cases s; cases t
 simp only at *
 subst e1 e2 e3 e4 e5
 rfl
theorem sv_lt_trans {a b c : Sv} (h : svC a b < 0) (k : svC b c < 0) : svC a c < 0 := by
 have h1 := svO.trans a b c (by omega) (by omega)
 by_cases h0 : svC a c = 0
 · have := (svO.zero (x := a) (y := b) (z := c) (by omega) (by omega) h0).1
   omega
 · omega
theorem sv_irrefl (a : Sv) : ¬ svC a a < 0 := by rw [svO.self]; omega
def Rise (l : List Ev) : Prop := l.Pairwise fun x y => svC x.1 y.1 < 0
theorem Rise.nodup {l : List Ev} (h : Rise l) : (l.map (·.1)).Nodup := by
 rw [List.nodup_iff_pairwise_ne, List.pairwise_map]
 exact h.imp fun {a b} hab e => by rw [e] at hab; exact sv_irrefl _ hab
theorem rise_ext : ∀ (l m : List Ev), Rise l → Rise m → (∀ x, x ∈ l ↔ x ∈ m) → l = m
 | [], [], _, _, _ => rfl
 | [], y :: m, _, _, h => by have := (h y).2 List.mem_cons_self; cases this
 | x :: l, [], _, _, h => by have := (h x).1 List.mem_cons_self; cases this
 | x :: l, y :: m, hl, hm, h => by
  obtain ⟨l1, l2⟩ := List.pairwise_cons.1 hl
  obtain ⟨m1, m2⟩ := List.pairwise_cons.1 hm
  have e : x = y := by
   rcases List.mem_cons.1 ((h x).1 List.mem_cons_self) with e | hx
   · exact e
   · rcases List.mem_cons.1 ((h y).2 List.mem_cons_self) with e | hy
     · exact e.symm
     · exact absurd (sv_lt_trans (l1 _ hy) (m1 _ hx)) (sv_irrefl _)
  subst e
  congr 1
  refine rise_ext l m l2 m2 fun z => ⟨fun hz => ?_, fun hz => ?_⟩
  · rcases List.mem_cons.1 ((h z).1 (List.mem_cons_of_mem _ hz)) with rfl | h2
    · exact absurd (l1 _ hz) (sv_irrefl _)
    · exact h2
  · rcases List.mem_cons.1 ((h z).2 (List.mem_cons_of_mem _ hz)) with rfl | h2
    · exact absurd (m1 _ hz) (sv_irrefl _)
    · exact h2
theorem ris_iff : ∀ (l : List Ev) (p : Option Sv), risG p l = true ↔ (∀ x ∈ l, okV x = true) ∧ Rise l ∧ ∀ q, p = some q → ∀ x ∈ l, svC q x.1 < 0
 | [], p => by simp [risG, Rise]
 | e :: l, p => by
  unfold risG
  rw [Bool.and_eq_true, Bool.and_eq_true, ris_iff l (some e.1)]
  constructor
  · rintro ⟨h1, h2, h3, h4, h5⟩
    have h6 := h5 e.1 rfl
    refine ⟨fun x hx => ?_, List.pairwise_cons.2 ⟨h6, h4⟩, fun q hq x hx => ?_⟩
    · rcases List.mem_cons.1 hx with rfl | hx
      · exact h1
      · exact h3 x hx
    · subst hq
      have h7 : svC q e.1 < 0 := by simpa using h2
      rcases List.mem_cons.1 hx with rfl | hx
      · exact h7
      · exact sv_lt_trans h7 (h6 x hx)
  · rintro ⟨h1, h2, h3⟩
    obtain ⟨h4, h5⟩ := List.pairwise_cons.1 h2
    refine ⟨h1 e List.mem_cons_self, ?_, fun x hx => h1 x (List.mem_cons_of_mem _ hx), h5, fun q hq x hx => ?_⟩
    · cases p with
      | none => rfl
      | some q => simpa using h3 q rfl e List.mem_cons_self
    · cases hq
      exact h4 x hx
def Right (l : List Ev) : Prop := (∀ x ∈ l, okV x = true) ∧ Rise l
theorem right_iff {l : List Ev} : risG none l = true ↔ Right l := by
 rw [ris_iff]
 exact ⟨fun ⟨h1, h2, _⟩ => ⟨h1, h2⟩, fun ⟨h1, h2⟩ => ⟨h1, h2, fun q hq => by cases hq⟩⟩
theorem Right.ok {l : List Ev} (h : Right l) {x : Ev} (hx : x ∈ l) : x.1.ok = true := (okV_iff.1 (h.1 x hx)).1
theorem Right.srt {l : List Ev} (h : Right l) : SrtE (l.map toE) := by
 unfold SrtE
 rw [List.pairwise_map]
 have h2 := h.2
 refine List.Pairwise.imp_of_mem ?_ h2
 intro a b ha hb hab
 have := svC_lt (h.ok ha) (h.ok hb)
 rw [decide_eq_true hab] at this
 exact this.symm
theorem has_st {l : List Ev} (h : ∀ x ∈ l, x.1.ok = true) {s : Sv} (hs : s.ok = true) : hasS (l.map toE) s.st = hasG l s := by
 by_cases hh : hasG l s = true
 · rw [hh]
   unfold hasG at hh
   rw [List.any_eq_true] at hh
   obtain ⟨e, h1, h2⟩ := hh
   exact hasS_iff.2 ⟨toE e, List.mem_map.2 ⟨e, h1, rfl⟩, by show e.1.st = _; rw [of_decide_eq_true h2]⟩
 · have h0 : hasG l s = false := by simpa using hh
   rw [h0]
   cases h1 : hasS (l.map toE) s.st with
   | false => rfl
   | true =>
    obtain ⟨y, hy, e⟩ := hasS_iff.1 h1
    obtain ⟨x, hx, rfl⟩ := List.mem_map.1 hy
    have := st_inj (h x hx) hs e
    exact absurd (show hasG l s = true from List.any_eq_true.2 ⟨x, hx, by simp [this]⟩) hh
def threeG (base A B : List Ev) : List Ev := (elsF (base.map toE) (A.map toE) (B.map toE) (A.map toE) (B.map toE)).map toV
def pickG (base A B : List Ev) : List Ev := A.filter (fun x => hasG B x.1 || !hasG base x.1) ++ B.filter (fun x => !hasG A x.1 && !hasG base x.1)
theorem has_mem {l : List Ev} {x : Ev} (h : x ∈ l) : hasG l x.1 = true := List.any_eq_true.2 ⟨x, h, by simp⟩
theorem three_mem {base A B : List Ev} (hb : Right base) (hA : Right A) (hB : Right B) : Rise (threeG base A B) ∧ ∀ x, x ∈ threeG base A B ↔ x ∈ pickG base A B := by
 have okA : ∀ x ∈ A, x.1.ok = true := fun x hx => hA.ok hx
 have okB : ∀ x ∈ B, x.1.ok = true := fun x hx => hB.ok hx
 have okb : ∀ x ∈ base, x.1.ok = true := fun x hx => hb.ok hx
 obtain ⟨h1, h2⟩ := els_mem (base.map toE) (A.map toE) (B.map toE) (fun x hx => by
  rcases List.mem_append.1 hx with h | h
  · obtain ⟨y, hy, rfl⟩ := List.mem_map.1 h; exact (Sv.ok_st (okA y hy)).1
  · obtain ⟨y, hy, rfl⟩ := List.mem_map.1 h; exact (Sv.ok_st (okB y hy)).1) _ _ _ (Nat.le_refl _) hA.srt hB.srt (left_start _ _)
 have key : ∀ z, z ∈ elsF (base.map toE) (A.map toE) (B.map toE) (A.map toE) (B.map toE) ↔ ∃ x ∈ pickG base A B, toE x = z := by
  intro z
  rw [h2 z]
  unfold pickG
  constructor
  · rintro (⟨hz, hc⟩ | ⟨hz, c1, c2⟩)
    · obtain ⟨y, hy, rfl⟩ := List.mem_map.1 hz
      refine ⟨y, List.mem_append_left _ (List.mem_filter.2 ⟨hy, ?_⟩), rfl⟩
      rw [Bool.or_eq_true, Bool.not_eq_true', ← has_st okB (okA y hy), ← has_st okb (okA y hy)]
      exact hc
    · obtain ⟨y, hy, rfl⟩ := List.mem_map.1 hz
      refine ⟨y, List.mem_append_right _ (List.mem_filter.2 ⟨hy, ?_⟩), rfl⟩
      rw [Bool.and_eq_true, Bool.not_eq_true', Bool.not_eq_true', ← has_st okA (okB y hy), ← has_st okb (okB y hy)]
      exact ⟨c1, c2⟩
  · rintro ⟨x, hx, rfl⟩
    rcases List.mem_append.1 hx with h | h
    · obtain ⟨m1, m2⟩ := List.mem_filter.1 h
      refine .inl ⟨List.mem_map.2 ⟨x, m1, rfl⟩, ?_⟩
      rw [Bool.or_eq_true, Bool.not_eq_true', ← has_st okB (okA x m1), ← has_st okb (okA x m1)] at m2
      exact m2
    · obtain ⟨m1, m2⟩ := List.mem_filter.1 h
      refine .inr ⟨List.mem_map.2 ⟨x, m1, rfl⟩, ?_⟩
      rw [Bool.and_eq_true, Bool.not_eq_true', Bool.not_eq_true', ← has_st okA (okB x m1), ← has_st okb (okB x m1)] at m2
      exact m2
 have okP : ∀ x ∈ pickG base A B, okV x = true := fun x hx => by
  rcases List.mem_append.1 hx with h | h
  · exact hA.1 x (List.mem_filter.1 h).1
  · exact hB.1 x (List.mem_filter.1 h).1
 refine ⟨?_, fun x => ?_⟩
 · unfold Rise threeG
   rw [List.pairwise_map]
   refine List.Pairwise.imp_of_mem ?_ h1
   intro a b ha hb' hab
   obtain ⟨x, hx, rfl⟩ := (key a).1 ha
   obtain ⟨y, hy, rfl⟩ := (key b).1 hb'
   rw [(okV_toE (okP x hx)).2, (okV_toE (okP y hy)).2]
   have := svC_lt (okV_iff.1 (okP x hx)).1 (okV_iff.1 (okP y hy)).1
   have h3 : x.1.st.lt y.1.st = true := hab
   rw [h3] at this
   exact of_decide_eq_true this
 · unfold threeG
   rw [List.mem_map]
   constructor
   · rintro ⟨z, hz, rfl⟩
     obtain ⟨y, hy, rfl⟩ := (key z).1 hz
     rw [(okV_toE (okP y hy)).2]
     exact hy
   · exact fun hx => ⟨toE x, (key _).2 ⟨x, hx, rfl⟩, (okV_toE (okP x hx)).2⟩
theorem pick_nodup {base A B : List Ev} (hA : Right A) (hB : Right B) : ((pickG base A B).map (·.1)).Nodup := by
 unfold pickG
 rw [List.map_append, List.nodup_append]
 refine ⟨Rise.nodup (List.Pairwise.filter _ hA.2), Rise.nodup (List.Pairwise.filter _ hB.2), fun s hs t ht e => ?_⟩
 subst e
 obtain ⟨x, hx, rfl⟩ := List.mem_map.1 hs
 obtain ⟨y, hy, e⟩ := List.mem_map.1 ht
 have h1 := has_mem (List.mem_filter.1 hx).1
 have h2 := (List.mem_filter.1 hy).2
 rw [e, h1] at h2
 simp at h2
theorem three_uniq {base A B r : List Ev} (hb : Right base) (hA : Right A) (hB : Right B) (hp : r.Perm (pickG base A B)) (hs : r.Pairwise fun x y => ¬ svC y.1 x.1 < 0) : r = threeG base A B := by
 obtain ⟨h1, h2⟩ := three_mem hb hA hB
 refine rise_ext _ _ ?_ h1 fun x => ?_
 · have hn : (r.map (·.1)).Nodup := (hp.map _).nodup_iff.2 (pick_nodup hA hB)
   rw [List.nodup_iff_pairwise_ne, List.pairwise_map] at hn
   refine (hs.and hn).imp ?_
   rintro a b ⟨h3, h4⟩
   have h5 := svC_neg a.1 b.1
   by_cases h0 : svC a.1 b.1 = 0
   · exact absurd (sv_zero h0) h4
   · omega
 · rw [h2, hp.mem_iff]
def evC (x y : Ev) : Int := svC x.1 y.1
theorem evSWO : Sort.SWO (fun x y : Ev => decide (evC x y < 0)) where
 irrefl x := decide_eq_false (sv_irrefl x.1)
 trans x y z h k := decide_eq_true (show svC x.1 z.1 < 0 from sv_lt_trans (of_decide_eq_true h) (of_decide_eq_true k))
 ntrans x y z h k := by
  have h1 : ¬ svC x.1 y.1 < 0 := of_decide_eq_false h
  have h2 : ¬ svC y.1 z.1 < 0 := of_decide_eq_false k
  have a := svC_neg x.1 y.1
  have b := svC_neg y.1 z.1
  have c := svC_neg x.1 z.1
  have d := svO.trans z.1 y.1 x.1 (by omega) (by omega)
  exact decide_eq_false (show ¬ svC x.1 z.1 < 0 by omega)
end Kn
end Go.Proofs.YtjlliohjeiclaaaDoor
namespace Go.Proofs.YtjlliohjeiclaaaDoor
open Go.RowKit Go.Sort St Pm Kn
def layF0_ren : Go.Shelf.Ren := ⟨fun | 6 => 66 | 14 => 92 | 15 => 93 | 20 => 111 | 21 => 112 | 22 => 113 | 23 => 114 | 24 => 115 | 25 => 116 | 26 => 117 | 27 => 118 | 28 => 119 | 29 => 120 | 46 => 147 | 47 => 148 | 48 => 149 | 49 => 150 | 50 => 151 | 57 => 166 | n => n, fun | 0 => 0 | 3 => 3 | 4 => 4 | 5 => 5 | 9 => 9 | 22 => 47 | 24 => 33 | 25 => 120 | 39 => 147 | 45 => 173 | 46 => 174 | 50 => 178 | 53 => 181 | 55 => 183 | 66 => 210 | 70 => 214 | 76 => 222 | 77 => 223 | n => n, fun n => n⟩
theorem layF0 : Go.Proofs.SlLaysF0.n6 Tryd.prog layF0_ren := {
 mixed := by kernel_rfl
 f6 := ⟨"slices.SortFunc[[]estuary/api.Element,estuary/api.Element]", by decide, Tryd.func66.trans (congrArg some (by kernel_rfl))⟩
 f14 := ⟨"slices.pdqsortCmpFunc[estuary/api.Element]", by decide, Tryd.func92.trans (congrArg some (by kernel_rfl))⟩
 f15 := Tryd.func93.trans (congrArg some (by kernel_rfl))
 f20 := ⟨"slices.insertionSortCmpFunc[estuary/api.Element]", by decide, Tryd.func111.trans (congrArg some (by kernel_rfl))⟩
 f21 := ⟨"slices.heapSortCmpFunc[estuary/api.Element]", by decide, Tryd.func112.trans (congrArg some (by kernel_rfl))⟩
 f22 := ⟨"slices.breakPatternsCmpFunc[estuary/api.Element]", by decide, Tryd.func113.trans (congrArg some (by kernel_rfl))⟩
 f23 := ⟨"slices.choosePivotCmpFunc[estuary/api.Element]", by decide, Tryd.func114.trans (congrArg some (by kernel_rfl))⟩
 f24 := ⟨"slices.reverseRangeCmpFunc[estuary/api.Element]", by decide, Tryd.func115.trans (congrArg some (by kernel_rfl))⟩
 f25 := ⟨"slices.partialInsertionSortCmpFunc[estuary/api.Element]", by decide, Tryd.func116.trans (congrArg some (by kernel_rfl))⟩
 f26 := ⟨"slices.partitionEqualCmpFunc[estuary/api.Element]", by decide, Tryd.func117.trans (congrArg some (by kernel_rfl))⟩
 f27 := ⟨"slices.partitionCmpFunc[estuary/api.Element]", by decide, Tryd.func118.trans (congrArg some (by kernel_rfl))⟩
 f28 := Tryd.func119.trans (congrArg some (by kernel_rfl))
 f29 := Tryd.func120.trans (congrArg some (by kernel_rfl))
 f46 := ⟨"slices.siftDownCmpFunc[estuary/api.Element]", by decide, Tryd.func147.trans (congrArg some (by kernel_rfl))⟩
 f47 := Tryd.func148.trans (congrArg some (by kernel_rfl))
 f48 := Tryd.func149.trans (congrArg some (by kernel_rfl))
 f49 := ⟨"slices.medianAdjacentCmpFunc[estuary/api.Element]", by decide, Tryd.func150.trans (congrArg some (by kernel_rfl))⟩
 f50 := ⟨"slices.medianCmpFunc[estuary/api.Element]", by decide, Tryd.func151.trans (congrArg some (by kernel_rfl))⟩
 f57 := ⟨"slices.order2CmpFunc[estuary/api.Element]", by decide, Tryd.func166.trans (congrArg some (by kernel_rfl))⟩
 t0 := Tryd.underlying0
 a0 := Tryd.isAgg0
 z0 := Tryd.sizeOf0
 v0 := Tryd.zeroValue0
 t3 := Tryd.underlying3
 a3 := Tryd.isAgg3
 z3 := Tryd.sizeOf3
 v3 := Tryd.zeroValue3
 t4 := Tryd.underlying4
 a4 := Tryd.isAgg4
 z4 := Tryd.sizeOf4
 v4 := Tryd.zeroValue4
 t5 := Tryd.underlying5
 a5 := Tryd.isAgg5
 z5 := Tryd.sizeOf5
 v5 := Tryd.zeroValue5
 t9 := Tryd.underlying9
 a9 := Tryd.isAgg9
 z9 := Tryd.sizeOf9
 v9 := Tryd.zeroValue9
 t22 := Tryd.underlying47
 a22 := Tryd.isAgg47
 z22 := Tryd.sizeOf47
 v22 := Tryd.zeroValue47
 t25 := Tryd.underlying120
 a25 := Tryd.isAgg120
 z25 := Tryd.sizeOf120
 v25 := Tryd.zeroValue120
 t39 := Tryd.underlying147
 a39 := Tryd.isAgg147
 z39 := Tryd.sizeOf147
 v39 := Tryd.zeroValue147
 t45 := Tryd.underlying173
 a45 := Tryd.isAgg173
 z45 := Tryd.sizeOf173
 v45 := Tryd.zeroValue173
 t46 := Tryd.underlying174
 a46 := Tryd.isAgg174
 z46 := Tryd.sizeOf174
 v46 := Tryd.zeroValue174
 t50 := Tryd.underlying178
 a50 := Tryd.isAgg178
 z50 := Tryd.sizeOf178
 v50 := Tryd.zeroValue178
 t53 := Tryd.underlying181
 a53 := Tryd.isAgg181
 z53 := Tryd.sizeOf181
 v53 := Tryd.zeroValue181
 t55 := Tryd.underlying183
 a55 := Tryd.isAgg183
 z55 := Tryd.sizeOf183
 v55 := Tryd.zeroValue183
 t66 := Tryd.underlying210
 a66 := Tryd.isAgg210
 z66 := Tryd.sizeOf210
 v66 := Tryd.zeroValue210
 t70 := Tryd.underlying214
 a70 := Tryd.isAgg214
 z70 := Tryd.sizeOf214
 v70 := Tryd.zeroValue214
 t76 := Tryd.underlying222
 a76 := Tryd.isAgg222
 z76 := Tryd.sizeOf222
 v76 := Tryd.zeroValue222
 t77 := Tryd.underlying223
 a77 := Tryd.isAgg223
 z77 := Tryd.sizeOf223
 v77 := Tryd.zeroValue223
}
instance : Inhabited Ev := ⟨(⟨0, 0, ⟨#[]⟩, 0, 0⟩, ⟨#[]⟩)⟩
theorem flat_els (d : Array Ev) : flatK elV 6 d = (elsV d.toList).toArray := by
 have hs : (flatK elV 6 d).size = (elsV d.toList).toArray.size := by simp [elsV_length]
 refine ext_get! hs fun t ht => ?_
 rw [size_flatK] at ht
 rw [get_flatK _ _ _ _ ht]
 have h1 : t / 6 < d.toList.length := by rw [Array.length_toList]; omega
 have h2 := elsV_get d.toList (t / 6) (t % 6) h1 (by omega)
 have e : t / 6 * 6 + t % 6 = t := by omega
 rw [e] at h2
 have h3 : d[t / 6]! = d.toList[t / 6] := by rw [getElem!_pos d (t / 6) (by simpa using h1)]; rfl
 have hl : t < (elsV d.toList).length := by rw [elsV_length, Array.length_toList]; exact ht
 have h5 : (elV d.toList[t / 6]).length = 6 := rfl
 rw [h3, getElem!_pos _ (t % 6) (by rw [h5]; omega), getElem!_pos _ t (by simpa using hl)]
 rw [List.getElem?_eq_getElem hl, List.getElem?_eq_getElem (by rw [h5]; omega)] at h2
 exact (Option.some.inj h2).symm
theorem holds_own {w : World} {base n g c : Nat} {e : TypeId} {l : List Ev} (h : w.ownsRow base e 6 (.slice (some ⟨g, 0, none⟩) n c) n (elsV l)) : HoldsK elV 6 w g 0 l.toArray := by
 intro j hj
 rw [flat_els] at hj ⊢
 have hl : j < (elsV l).length := by simpa using hj
 obtain ⟨h1, h2⟩ := own_cellM h j hl
 rw [Nat.zero_add]
 refine ⟨?_, h2⟩
 rw [h1, getElem!_pos _ j (by simpa using hl)]
 rfl
theorem cells_holds {w : World} {g : Nat} {d : Array Ev} (h : HoldsK elV 6 w g 0 d) : CellsAt w (some ⟨g, 0, none⟩) (elsV d.toList) := by
 intro j hj
 have h1 := (h j (by rw [flat_els]; simpa using hj)).1
 refine ⟨g, 0, rfl, ?_⟩
 rw [h1, flat_els, getElem!_pos _ j (by simpa using hj)]
 rfl
theorem sortWorld_grown (w : World) (g n : Nat) (d : Array Ev) (os : Array Obj) : w.grownBy (sortWorldK elV 6 w g 0 n d os) (some g) := by
 refine ⟨rfl, rfl, rfl, ?_, fun k hk hne => ?_⟩
 · simp [sortWorldK, Sort.grow, putRowK, putRow, mapBlock]
 · have hne' : g ≠ k := fun e => hne (by rw [e])
   show (((Sort.ahead w n).heap.modify g _) ++ os)[k]? = _
   rw [Array.getElem?_append_left (by simpa using hk), Array.getElem?_modify, if_neg hne']
   rfl
theorem sl_SortEl (l : List Ev) (g n c base : Nat) (e0 : TypeId) (w : World) (hn : n = l.length) (hb : n ≤ 1000000) (hown : w.ownsRow base e0 6 (.slice (some ⟨g, 0, none⟩) n c) n (elsV l)) :
 Calls Tryd.prog 66 #[.slice (some ⟨g, 0, none⟩) n c, .func (.func 67) #[] #[]] w fun e w' => e = .returned (.tuple #[]) ∧
  ∃ r : List Ev, r.Perm l ∧ (r.Pairwise fun x y => ¬ svC y.1 x.1 < 0) ∧ CellsAt w' (some ⟨g, 0, none⟩) (elsV r) ∧ w.grownBy w' (some g) := by
 subst hn
 have hH := holds_own hown
 have hblk : g < w.heap.size := (hown.lt _ rfl).2
 refine (AnyQ.slices_SortFunc layF0 6 Tryd.isAgg33 Tryd.sizeOf33 elV (fun _ => rfl) (fun x v hv => elsV_one [x] v (by simpa [elsV] using hv)) evC evSWO 67 #[] g 0 c l.toArray w (enters_of Tryd.func67 (by kernel_rfl) rfl) ?_ hH hblk (by simp; omega)).mono ?_
 · intro m os dk _ x y
   refine (kn_Three1 x y _).mono ?_
   rintro e w' ⟨h1, q, os', h2⟩
   exact ⟨h1, q, os', h2⟩
 · rintro e w' ⟨rfl, d', m, os, hp, hs, rfl⟩
   have hsz : d'.size = l.toArray.size := hp.1
   refine ⟨rfl, d'.toList, ?_, ?_, ?_, sortWorld_grown w g m d' os⟩
   · have h := hp.2.2
     rw [Array.extract_eq_self_of_le (Nat.le_refl _)] at h
     rwa [Array.extract_eq_self_of_le (by rw [hsz]; exact Nat.le_refl _)] at h
   · rw [List.pairwise_iff_getElem]
     intro i j hi hj hij
     have hj2 : j < d'.size := by simpa using hj
     have h := hs i j (Nat.zero_le _) hij (by rw [← hsz]; exact hj2)
     rw [getElem!_pos d' j hj2, getElem!_pos d' i (by omega)] at h
     exact of_decide_eq_false h
   · exact cells_holds (SWK.holds ⟨m, os, rfl⟩ hblk hH hsz)
end Go.Proofs.YtjlliohjeiclaaaDoor
namespace Go.Proofs.YtjlliohjeiclaaaDoor
open Go.RowKit Go.Sort St Pm Kn
theorem sl_SortNil (a : Option Addr) (c : Nat) (fv : Value) (w : World) : Calls Tryd.prog 66 #[.slice a 0 c, fv] w fun e w' => e = .returned (.tuple #[]) ∧ w' = w := AnyF.slices_SortFunc_none layF0 a c fv w
end Go.Proofs.YtjlliohjeiclaaaDoor
namespace Go.Proofs.YtjlliohjeiclaaaDoor
open Go.RowKit St Pm Ku Kn
namespace Kn
def threeO (kb mb : Int) (lb : List Ev) (ka ma : Int) (la : List Ev) (k2 m2 : Int) (l2 : List Ev) : Int × Int × List Ev × Int :=
 if valG kb mb lb = false ∨ valG ka ma la = false ∨ valG k2 m2 l2 = false ∨ kb ≠ ka ∨ ka ≠ k2 then (0, 0, [], 2)
 else (ka, IntKind.i64.wrap (IntKind.i64.wrap (ma + m2) - mb), threeG lb la l2, 0)
def keepA (lb l2 : List Ev) (x : Ev) : Bool := hasG l2 x.1 || !hasG lb x.1
def keepB (lb la : List Ev) (x : Ev) : Bool := !hasG la x.1 && !hasG lb x.1
theorem val_right {k m : Int} {l : List Ev} (h : valG k m l = true) : Right l := by
 unfold valG at h
 rw [Bool.and_eq_true] at h
 have h2 := h.2
 split at h2
 · have : l = [] := List.length_eq_zero_iff.1 (of_decide_eq_true h2)
   subst this
   exact ⟨fun x hx => (by cases hx), List.Pairwise.nil⟩
 · rw [Bool.and_eq_true] at h2
   exact right_iff.1 h2.2
theorem filter_snoc {α : Type} (p : α → Bool) (l : List α) (q : Nat) (h : q < l.length) : (l.take (q + 1)).filter p = (l.take q).filter p ++ (if p l[q] = true then [l[q]] else []) := by
 rw [← List.take_append_getElem h, List.filter_append]
 by_cases hp : p l[q] = true
 · rw [if_pos hp]; simp [hp]
 · rw [if_neg hp]; simp [hp]
def ThI (y : Nat) (ka mm : Int) (w7 : World) (acc : List Ev) (W : World) : Prop :=
 ∃ (av : Option Addr) (n c : Nat), W.heap[y]? = some (.cells #[.int .i64 ka, .int .i64 mm, .slice av n c] 49 (0, 0)) ∧ n = acc.length ∧ W.ownsRow w7.heap.size 33 6 (.slice av n c) n (elsV acc) ∧ w7.grownBy W (some y)
theorem grown_bel {A B C : World} {r : Option Nat} (h : A.grownBy B r) (hb : Below A.heap.size B C) : A.grownBy C r :=
 ⟨hb.os.trans h.os, hb.tape.trans h.tape, hb.output.trans h.output, Nat.le_trans h.size hb.size, fun k hk he => (hb.block k hk).trans (h.block k hk he)⟩
theorem keep_len {α : Type} (A0 : List α) (p : α → Bool) (l : List α) (q N : Nat) (h0 : A0.length ≤ N) (hq : q ≤ N) : (A0 ++ (l.take q).filter p).length ≤ N + N := by
 rw [List.length_append]
 have h1 := List.length_filter_le p (l.take q)
 have h2 : (l.take q).length ≤ q := by rw [List.length_take]; exact Nat.min_le_left _ _
 omega
end Kn
open Kn
theorem StMap.grown {W W' : World} {B y : Nat} {ps : List (Sv × Int)} (h : StMap W B ps) (hg : W.grownBy W' (some y)) (hne : B ≠ y) : StMap W' B ps := by
 obtain ⟨es, c, h1, h2⟩ := h
 exact ⟨es, c, (hg.block B (Array.getElem?_eq_some_iff.1 h1).1 (fun e => hne (Option.some.inj e))).trans h1, h2⟩
set_option maxRecDepth 100000 in
set_option maxHeartbeats 8000000 in
theorem kn_Three (kb mb : Int) (lb : List Ev) (ab : Option Addr) (nb cb : Nat) (ka ma : Int) (la : List Ev) (aa : Option Addr) (na ca : Nat) (k2 m2 : Int) (l2 : List Ev) (a2 : Option Addr) (n2 c2 : Nat) (w : World)
 (hb1 : CellsAt w ab (elsV lb)) (ha1 : CellsAt w aa (elsV la)) (h21 : CellsAt w a2 (elsV l2)) (hnb : nb = lb.length) (hna : na = la.length) (hn2 : n2 = l2.length) (bb : nb ≤ 100000) (ba : na ≤ 100000) (b2 : n2 ≤ 100000)
 (zb : ∀ e ∈ lb, e.1.l.size ≤ 9223372036854775807) (za : ∀ e ∈ la, e.1.l.size ≤ 9223372036854775807) (z2 : ∀ e ∈ l2, e.1.l.size ≤ 9223372036854775807) :
 Calls Tryd.prog 32 #[.agg #[.int .i64 kb, .int .i64 mb, .slice ab nb cb], .agg #[.int .i64 ka, .int .i64 ma, .slice aa na ca], .agg #[.int .i64 k2, .int .i64 m2, .slice a2 n2 c2]] w fun e w' => ValOut w w' (threeO kb mb lb ka ma la k2 m2 l2) e := by
 have HLB := Lib.hid hb1
 have HLA := Lib.hid ha1
 have HL2 := Lib.hid h21
 have NB := Lib.hid hnb
 have NA := Lib.hid hna
 have N2 := Lib.hid hn2
 have ZB := Lib.hid zb
 have ZA := Lib.hid za
 have Z2 := Lib.hid z2
 obtain ⟨re, hre⟩ : ∃ r, threeO kb mb lb ka ma la k2 m2 l2 = r := ⟨_, rfl⟩
 rw [hre]
 have RE := Lib.hid hre
 clear hb1 ha1 h21 hnb hna hn2 zb za z2 hre
 have HC : Hid (Chain [w] w) := Lib.hid (Chain.one w)
 go_enter Tryd.func32, Tryd.ntmps32
 go_upto_region 1 with (fail)
 obtain ⟨z, hz⟩ : ∃ c, w.heap.size = c := ⟨_, rfl⟩
 try rw [hz]
 obtain ⟨w1, hw1⟩ : ∃ X, allocs w [.cells #[.int .i64 kb, .int .i64 mb, .slice ab nb cb] 49, .cells #[.int .i64 ka, .int .i64 ma, .slice aa na ca] 49, .cells #[.int .i64 k2, .int .i64 m2, .slice a2 n2 c2] 49, .cells #[.int .i64 0, .int .i64 0, .slice none 0 0] 49] = X := ⟨_, rfl⟩
 rw [show (((w.alloc (.cells #[.int .i64 kb, .int .i64 mb, .slice ab nb cb] 49)).alloc (.cells #[.int .i64 ka, .int .i64 ma, .slice aa na ca] 49)).alloc (.cells #[.int .i64 k2, .int .i64 m2, .slice a2 n2 c2] 49)).alloc (.cells #[.int .i64 0, .int .i64 0, .slice none 0 0] 49) = w1 from hw1]
 have hb : Below w.heap.size w w1 := by rw [← hw1]; exact allocs_below _ _
 have HB : Hid (w1.heap[z]? = some (.cells #[.int .i64 kb, .int .i64 mb, .slice ab nb cb] 49 (0, 0))) := Lib.hid (by have := allocs_get [.cells #[.int .i64 kb, .int .i64 mb, .slice ab nb cb] 49, .cells #[.int .i64 ka, .int .i64 ma, .slice aa na ca] 49, .cells #[.int .i64 k2, .int .i64 m2, .slice a2 n2 c2] 49, .cells #[.int .i64 0, .int .i64 0, .slice none 0 0] 49] w 0 _ rfl; rw [hw1, hz] at this; exact this)
 have HA : Hid (w1.heap[z + 1]? = some (.cells #[.int .i64 ka, .int .i64 ma, .slice aa na ca] 49 (0, 0))) := Lib.hid (by have := allocs_get [.cells #[.int .i64 kb, .int .i64 mb, .slice ab nb cb] 49, .cells #[.int .i64 ka, .int .i64 ma, .slice aa na ca] 49, .cells #[.int .i64 k2, .int .i64 m2, .slice a2 n2 c2] 49, .cells #[.int .i64 0, .int .i64 0, .slice none 0 0] 49] w 1 _ rfl; rw [hw1, hz] at this; exact this)
 have HD : Hid (w1.heap[z + 1 + 1]? = some (.cells #[.int .i64 k2, .int .i64 m2, .slice a2 n2 c2] 49 (0, 0))) := Lib.hid (by have := allocs_get [.cells #[.int .i64 kb, .int .i64 mb, .slice ab nb cb] 49, .cells #[.int .i64 ka, .int .i64 ma, .slice aa na ca] 49, .cells #[.int .i64 k2, .int .i64 m2, .slice a2 n2 c2] 49, .cells #[.int .i64 0, .int .i64 0, .slice none 0 0] 49] w 2 _ rfl; rw [hw1, hz] at this; exact this)
 have HR : Hid (w1.heap[z + 1 + 1 + 1]? = some (.cells #[.int .i64 0, .int .i64 0, .slice none 0 0] 49 (0, 0))) := Lib.hid (by have := allocs_get [.cells #[.int .i64 kb, .int .i64 mb, .slice ab nb cb] 49, .cells #[.int .i64 ka, .int .i64 ma, .slice aa na ca] 49, .cells #[.int .i64 k2, .int .i64 m2, .slice a2 n2 c2] 49, .cells #[.int .i64 0, .int .i64 0, .slice none 0 0] 49] w 3 _ rfl; rw [hw1, hz] at this; exact this)
 have Sz : Hid (w.heap.size = z) := Lib.hid hz
 replace HC := Lib.hid (HC.out.push hb)
 clear hb hw1 hz
 have VZ := Lib.hid vz_one
 have WZ : Hid (w.heap.size ≤ z + 1 + 1 + 1) := Lib.hid (by have := Sz.out; omega)
 have kB0 := cell_of_row _ _ 0 _ _ _ HB.out
 have kB1 := cell_of_row _ _ 1 _ _ _ HB.out
 have kB2 := cell_of_row _ _ 2 _ _ _ HB.out
 go_wp2_with fail
 refine (kn_Value kb mb lb ab nb cb _ (HLB.out.below (HC.out.to w (by simp)) rfl) NB.out (by omega) ZB.out).mono ?_
 rintro e w2 ⟨rfl, hb⟩
 clear kB0 kB1 kB2
 replace HC := Lib.hid (HC.out.push hb)
 clear hb
 obtain ⟨v1, h1⟩ : ∃ b, valG kb mb lb = b := ⟨_, rfl⟩
 rw [h1]
 have H1 := Lib.hid h1
 clear h1
 cases v1
 case false =>
  have hres : re = (0, 0, [], 2) := by rw [← RE.out]; unfold threeO; rw [if_pos (.inl H1.out)]
  have HRX := Lib.hid (boxStays HR.out (HC.out.to w1 (by simp)))
  have kB0 := cell_of_row _ _ 0 _ _ _ (boxStays HB.out (HC.out.to w1 (by simp)))
  have kB1 := cell_of_row _ _ 1 _ _ _ (boxStays HB.out (HC.out.to w1 (by simp)))
  have kB2 := cell_of_row _ _ 2 _ _ _ (boxStays HB.out (HC.out.to w1 (by simp)))
  have kA0 := cell_of_row _ _ 0 _ _ _ (boxStays HA.out (HC.out.to w1 (by simp)))
  have kA1 := cell_of_row _ _ 1 _ _ _ (boxStays HA.out (HC.out.to w1 (by simp)))
  have kA2 := cell_of_row _ _ 2 _ _ _ (boxStays HA.out (HC.out.to w1 (by simp)))
  have kD0 := cell_of_row _ _ 0 _ _ _ (boxStays HD.out (HC.out.to w1 (by simp)))
  have kD1 := cell_of_row _ _ 1 _ _ _ (boxStays HD.out (HC.out.to w1 (by simp)))
  have kD2 := cell_of_row _ _ 2 _ _ _ (boxStays HD.out (HC.out.to w1 (by simp)))
  go_wp2_with (refine wpList_store_row rfl 49 (.tmp 6) (.tmp 43) rfl (z + 1 + 1 + 1) #[.int .i64 0, .int .i64 0, .slice none 0 0] rfl rfl 49 _ HRX.out (by kernel_rfl) rfl VZ.out ?_)
  clear kB0 kB1 kB2 kA0 kA1 kA2 kD0 kD1 kD2
  have hx := setRow_heap _ _ _ #[.int .i64 0, .int .i64 0, .slice none 0 0] _ _ HRX.out
  have r0 := cell_of_row _ _ 0 _ _ _ hx
  have r1 := cell_of_row _ _ 1 _ _ _ hx
  have r2 := cell_of_row _ _ 2 _ _ _ hx
  refine bodyPost_ret (v := .tuple #[.agg #[.int .i64 0, .int .i64 0, .slice none 0 0], .int .i64 2]) (by simp [results, Tryd.results32, go_sem, r0, r1, r2]) rfl ?_
  rw [hres]
  exact ⟨none, 0, 0, rfl, CellsAt.nil _ _, rfl, Nat.le_refl _, fun ad had => (by cases had), below_setRow (HC.out.to w (by simp)) WZ.out _⟩
 have kA0 := cell_of_row _ _ 0 _ _ _ (boxStays HA.out (HC.out.to w1 (by simp)))
 have kA1 := cell_of_row _ _ 1 _ _ _ (boxStays HA.out (HC.out.to w1 (by simp)))
 have kA2 := cell_of_row _ _ 2 _ _ _ (boxStays HA.out (HC.out.to w1 (by simp)))
 go_wp2_with fail
 refine (kn_Value ka ma la aa na ca _ (HLA.out.below (HC.out.to w (by simp)) rfl) NA.out (by omega) ZA.out).mono ?_
 rintro e w3 ⟨rfl, hb⟩
 clear kA0 kA1 kA2
 replace HC := Lib.hid (HC.out.push hb)
 clear hb
 obtain ⟨v2, h2⟩ : ∃ b, valG ka ma la = b := ⟨_, rfl⟩
 rw [h2]
 have H2 := Lib.hid h2
 clear h2
 cases v2
 case false =>
  have hres : re = (0, 0, [], 2) := by rw [← RE.out]; unfold threeO; rw [if_pos (.inr (.inl H2.out))]
  have HRX := Lib.hid (boxStays HR.out (HC.out.to w1 (by simp)))
  have kB0 := cell_of_row _ _ 0 _ _ _ (boxStays HB.out (HC.out.to w1 (by simp)))
  have kB1 := cell_of_row _ _ 1 _ _ _ (boxStays HB.out (HC.out.to w1 (by simp)))
  have kB2 := cell_of_row _ _ 2 _ _ _ (boxStays HB.out (HC.out.to w1 (by simp)))
  have kA0 := cell_of_row _ _ 0 _ _ _ (boxStays HA.out (HC.out.to w1 (by simp)))
  have kA1 := cell_of_row _ _ 1 _ _ _ (boxStays HA.out (HC.out.to w1 (by simp)))
  have kA2 := cell_of_row _ _ 2 _ _ _ (boxStays HA.out (HC.out.to w1 (by simp)))
  have kD0 := cell_of_row _ _ 0 _ _ _ (boxStays HD.out (HC.out.to w1 (by simp)))
  have kD1 := cell_of_row _ _ 1 _ _ _ (boxStays HD.out (HC.out.to w1 (by simp)))
  have kD2 := cell_of_row _ _ 2 _ _ _ (boxStays HD.out (HC.out.to w1 (by simp)))
  go_wp2_with (refine wpList_store_row rfl 49 (.tmp 6) (.tmp 43) rfl (z + 1 + 1 + 1) #[.int .i64 0, .int .i64 0, .slice none 0 0] rfl rfl 49 _ HRX.out (by kernel_rfl) rfl VZ.out ?_)
  clear kB0 kB1 kB2 kA0 kA1 kA2 kD0 kD1 kD2
  have hx := setRow_heap _ _ _ #[.int .i64 0, .int .i64 0, .slice none 0 0] _ _ HRX.out
  have r0 := cell_of_row _ _ 0 _ _ _ hx
  have r1 := cell_of_row _ _ 1 _ _ _ hx
  have r2 := cell_of_row _ _ 2 _ _ _ hx
  refine bodyPost_ret (v := .tuple #[.agg #[.int .i64 0, .int .i64 0, .slice none 0 0], .int .i64 2]) (by simp [results, Tryd.results32, go_sem, r0, r1, r2]) rfl ?_
  rw [hres]
  exact ⟨none, 0, 0, rfl, CellsAt.nil _ _, rfl, Nat.le_refl _, fun ad had => (by cases had), below_setRow (HC.out.to w (by simp)) WZ.out _⟩
 have kD0 := cell_of_row _ _ 0 _ _ _ (boxStays HD.out (HC.out.to w1 (by simp)))
 have kD1 := cell_of_row _ _ 1 _ _ _ (boxStays HD.out (HC.out.to w1 (by simp)))
 have kD2 := cell_of_row _ _ 2 _ _ _ (boxStays HD.out (HC.out.to w1 (by simp)))
 go_wp2_with fail
 refine (kn_Value k2 m2 l2 a2 n2 c2 _ (HL2.out.below (HC.out.to w (by simp)) rfl) N2.out (by omega) Z2.out).mono ?_
 rintro e w4 ⟨rfl, hb⟩
 clear kD0 kD1 kD2
 replace HC := Lib.hid (HC.out.push hb)
 clear hb
 obtain ⟨v3, h3⟩ : ∃ b, valG k2 m2 l2 = b := ⟨_, rfl⟩
 rw [h3]
 have H3 := Lib.hid h3
 clear h3
 cases v3
 case false =>
  have hres : re = (0, 0, [], 2) := by rw [← RE.out]; unfold threeO; rw [if_pos (.inr (.inr (.inl H3.out)))]
  have HRX := Lib.hid (boxStays HR.out (HC.out.to w1 (by simp)))
  have kB0 := cell_of_row _ _ 0 _ _ _ (boxStays HB.out (HC.out.to w1 (by simp)))
  have kB1 := cell_of_row _ _ 1 _ _ _ (boxStays HB.out (HC.out.to w1 (by simp)))
  have kB2 := cell_of_row _ _ 2 _ _ _ (boxStays HB.out (HC.out.to w1 (by simp)))
  have kA0 := cell_of_row _ _ 0 _ _ _ (boxStays HA.out (HC.out.to w1 (by simp)))
  have kA1 := cell_of_row _ _ 1 _ _ _ (boxStays HA.out (HC.out.to w1 (by simp)))
  have kA2 := cell_of_row _ _ 2 _ _ _ (boxStays HA.out (HC.out.to w1 (by simp)))
  have kD0 := cell_of_row _ _ 0 _ _ _ (boxStays HD.out (HC.out.to w1 (by simp)))
  have kD1 := cell_of_row _ _ 1 _ _ _ (boxStays HD.out (HC.out.to w1 (by simp)))
  have kD2 := cell_of_row _ _ 2 _ _ _ (boxStays HD.out (HC.out.to w1 (by simp)))
  go_wp2_with (refine wpList_store_row rfl 49 (.tmp 6) (.tmp 43) rfl (z + 1 + 1 + 1) #[.int .i64 0, .int .i64 0, .slice none 0 0] rfl rfl 49 _ HRX.out (by kernel_rfl) rfl VZ.out ?_)
  clear kB0 kB1 kB2 kA0 kA1 kA2 kD0 kD1 kD2
  have hx := setRow_heap _ _ _ #[.int .i64 0, .int .i64 0, .slice none 0 0] _ _ HRX.out
  have r0 := cell_of_row _ _ 0 _ _ _ hx
  have r1 := cell_of_row _ _ 1 _ _ _ hx
  have r2 := cell_of_row _ _ 2 _ _ _ hx
  refine bodyPost_ret (v := .tuple #[.agg #[.int .i64 0, .int .i64 0, .slice none 0 0], .int .i64 2]) (by simp [results, Tryd.results32, go_sem, r0, r1, r2]) rfl ?_
  rw [hres]
  exact ⟨none, 0, 0, rfl, CellsAt.nil _ _, rfl, Nat.le_refl _, fun ad had => (by cases had), below_setRow (HC.out.to w (by simp)) WZ.out _⟩
 by_cases h4 : kb = ka
 case neg =>
  have hres : re = (0, 0, [], 2) := by rw [← RE.out]; unfold threeO; rw [if_pos (.inr (.inr (.inr (.inl h4))))]
  have h4b : (kb != ka) = true := by simp [h4]
  have HRX := Lib.hid (boxStays HR.out (HC.out.to w1 (by simp)))
  have kB0 := cell_of_row _ _ 0 _ _ _ (boxStays HB.out (HC.out.to w1 (by simp)))
  have kB1 := cell_of_row _ _ 1 _ _ _ (boxStays HB.out (HC.out.to w1 (by simp)))
  have kB2 := cell_of_row _ _ 2 _ _ _ (boxStays HB.out (HC.out.to w1 (by simp)))
  have kA0 := cell_of_row _ _ 0 _ _ _ (boxStays HA.out (HC.out.to w1 (by simp)))
  have kA1 := cell_of_row _ _ 1 _ _ _ (boxStays HA.out (HC.out.to w1 (by simp)))
  have kA2 := cell_of_row _ _ 2 _ _ _ (boxStays HA.out (HC.out.to w1 (by simp)))
  have kD0 := cell_of_row _ _ 0 _ _ _ (boxStays HD.out (HC.out.to w1 (by simp)))
  have kD1 := cell_of_row _ _ 1 _ _ _ (boxStays HD.out (HC.out.to w1 (by simp)))
  have kD2 := cell_of_row _ _ 2 _ _ _ (boxStays HD.out (HC.out.to w1 (by simp)))
  go_wp2_with (refine wpList_store_row rfl 49 (.tmp 6) (.tmp 43) rfl (z + 1 + 1 + 1) #[.int .i64 0, .int .i64 0, .slice none 0 0] rfl rfl 49 _ HRX.out (by kernel_rfl) rfl VZ.out ?_)
  clear kB0 kB1 kB2 kA0 kA1 kA2 kD0 kD1 kD2
  have hx := setRow_heap _ _ _ #[.int .i64 0, .int .i64 0, .slice none 0 0] _ _ HRX.out
  have r0 := cell_of_row _ _ 0 _ _ _ hx
  have r1 := cell_of_row _ _ 1 _ _ _ hx
  have r2 := cell_of_row _ _ 2 _ _ _ hx
  refine bodyPost_ret (v := .tuple #[.agg #[.int .i64 0, .int .i64 0, .slice none 0 0], .int .i64 2]) (by simp [results, Tryd.results32, go_sem, r0, r1, r2]) rfl ?_
  rw [hres]
  exact ⟨none, 0, 0, rfl, CellsAt.nil _ _, rfl, Nat.le_refl _, fun ad had => (by cases had), below_setRow (HC.out.to w (by simp)) WZ.out _⟩
 subst h4
 by_cases h5 : kb = k2
 case neg =>
  have hres : re = (0, 0, [], 2) := by rw [← RE.out]; unfold threeO; rw [if_pos (.inr (.inr (.inr (.inr h5))))]
  have h5b : (kb != k2) = true := by simp [h5]
  have HRX := Lib.hid (boxStays HR.out (HC.out.to w1 (by simp)))
  have kB0 := cell_of_row _ _ 0 _ _ _ (boxStays HB.out (HC.out.to w1 (by simp)))
  have kB1 := cell_of_row _ _ 1 _ _ _ (boxStays HB.out (HC.out.to w1 (by simp)))
  have kB2 := cell_of_row _ _ 2 _ _ _ (boxStays HB.out (HC.out.to w1 (by simp)))
  have kA0 := cell_of_row _ _ 0 _ _ _ (boxStays HA.out (HC.out.to w1 (by simp)))
  have kA1 := cell_of_row _ _ 1 _ _ _ (boxStays HA.out (HC.out.to w1 (by simp)))
  have kA2 := cell_of_row _ _ 2 _ _ _ (boxStays HA.out (HC.out.to w1 (by simp)))
  have kD0 := cell_of_row _ _ 0 _ _ _ (boxStays HD.out (HC.out.to w1 (by simp)))
  have kD1 := cell_of_row _ _ 1 _ _ _ (boxStays HD.out (HC.out.to w1 (by simp)))
  have kD2 := cell_of_row _ _ 2 _ _ _ (boxStays HD.out (HC.out.to w1 (by simp)))
  go_wp2_with (refine wpList_store_row rfl 49 (.tmp 6) (.tmp 43) rfl (z + 1 + 1 + 1) #[.int .i64 0, .int .i64 0, .slice none 0 0] rfl rfl 49 _ HRX.out (by kernel_rfl) rfl VZ.out ?_)
  clear kB0 kB1 kB2 kA0 kA1 kA2 kD0 kD1 kD2
  have hx := setRow_heap _ _ _ #[.int .i64 0, .int .i64 0, .slice none 0 0] _ _ HRX.out
  have r0 := cell_of_row _ _ 0 _ _ _ hx
  have r1 := cell_of_row _ _ 1 _ _ _ hx
  have r2 := cell_of_row _ _ 2 _ _ _ hx
  refine bodyPost_ret (v := .tuple #[.agg #[.int .i64 0, .int .i64 0, .slice none 0 0], .int .i64 2]) (by simp [results, Tryd.results32, go_sem, r0, r1, r2]) rfl ?_
  rw [hres]
  exact ⟨none, 0, 0, rfl, CellsAt.nil _ _, rfl, Nat.le_refl _, fun ad had => (by cases had), below_setRow (HC.out.to w (by simp)) WZ.out _⟩
 subst h5
 have HRE : Hid (re = (kb, IntKind.i64.wrap (IntKind.i64.wrap (ma + m2) - mb), threeG lb la l2, 0)) := Lib.hid (by rw [← RE.out]; unfold threeO; rw [if_neg (by rw [H1.out, H2.out, H3.out]; simp)])
 have RB := Lib.hid (val_right H1.out)
 have RA := Lib.hid (val_right H2.out)
 have R2 := Lib.hid (val_right H3.out)
 obtain ⟨m1, hm1⟩ : ∃ q, IntKind.i64.wrap (ma + m2) = q := ⟨_, rfl⟩
 rw [hm1] at HRE
 obtain ⟨mm, hmm⟩ : ∃ q, IntKind.i64.wrap (m1 - mb) = q := ⟨_, rfl⟩
 rw [hmm] at HRE
 clear RE H1 H2 H3
 have kB0 := cell_of_row _ _ 0 _ _ _ (boxStays HB.out (HC.out.to w1 (by simp)))
 have kB1 := cell_of_row _ _ 1 _ _ _ (boxStays HB.out (HC.out.to w1 (by simp)))
 have kB2 := cell_of_row _ _ 2 _ _ _ (boxStays HB.out (HC.out.to w1 (by simp)))
 have kA0 := cell_of_row _ _ 0 _ _ _ (boxStays HA.out (HC.out.to w1 (by simp)))
 have kA1 := cell_of_row _ _ 1 _ _ _ (boxStays HA.out (HC.out.to w1 (by simp)))
 have kA2 := cell_of_row _ _ 2 _ _ _ (boxStays HA.out (HC.out.to w1 (by simp)))
 have kD0 := cell_of_row _ _ 0 _ _ _ (boxStays HD.out (HC.out.to w1 (by simp)))
 have kD1 := cell_of_row _ _ 1 _ _ _ (boxStays HD.out (HC.out.to w1 (by simp)))
 have kD2 := cell_of_row _ _ 2 _ _ _ (boxStays HD.out (HC.out.to w1 (by simp)))
 go_upto_region 4 with (fail)
 clear kB0 kB1 kB2 kA0 kA1 kA2 kD0 kD1 kD2
 clear hmm hm1
 have LZ4 : Hid (z + 1 + 1 + 1 < w4.heap.size ∧ w.heap.size ≤ w4.heap.size) := Lib.hid ⟨(Array.getElem?_eq_some_iff.1 (boxStays HR.out (HC.out.to w1 (by simp)))).1, (HC.out.to w (by simp)).size⟩
 obtain ⟨y, hy⟩ : ∃ c, w4.heap.size = c := ⟨_, rfl⟩
 try rw [hy]
 obtain ⟨w6, hw6⟩ : ∃ X, allocs w4 [.cells #[.int .i64 kb, .int .i64 mm, .slice none 0 0] 49] = X := ⟨_, rfl⟩
 rw [show w4.alloc (.cells #[.int .i64 kb, .int .i64 mm, .slice none 0 0] 49) = w6 from hw6]
 have hb : Below w4.heap.size w4 w6 := by rw [← hw6]; exact allocs_below _ _
 have HT : Hid (w6.heap[y]? = some (.cells #[.int .i64 kb, .int .i64 mm, .slice none 0 0] 49 (0, 0))) := Lib.hid (by have := allocs_get [.cells #[.int .i64 kb, .int .i64 mm, .slice none 0 0] 49] w4 0 _ rfl; rw [hw6, hy] at this; exact this)
 have Sy : Hid (w4.heap.size = y) := Lib.hid hy
 replace HC := Lib.hid (HC.out.push hb)
 clear hb hw6 hy
 have WY : Hid (z + 1 + 1 + 1 < y ∧ y < w6.heap.size ∧ w.heap.size ≤ y) := Lib.hid (by have h1 := (Array.getElem?_eq_some_iff.1 HT.out).1; have h2 := Sy.out; have h3 := LZ4.out; omega)
 have HB6 := Lib.hid (boxStays HB.out (HC.out.to w1 (by simp)))
 have HA6 := Lib.hid (boxStays HA.out (HC.out.to w1 (by simp)))
 have HD6 := Lib.hid (boxStays HD.out (HC.out.to w1 (by simp)))
 have HLB6 := Lib.hid (HLB.out.below (HC.out.to w (by simp)) rfl)
 have HLA6 := Lib.hid (HLA.out.below (HC.out.to w (by simp)) rfl)
 have HL26 := Lib.hid (HL2.out.below (HC.out.to w (by simp)) rfl)
 refine relG_start (slots := [55, 56, 57, 58, 59, 60, 61, 62, 63, 9, 10, 11]) (so := []) (by kernel_rfl) (by kernel_rfl) (by rfl) ?_
 refine relG_pure (i := 0) (o := ⟨some 55, _, _, _, _, _⟩) (v := ?v1) [] [3] rfl rfl (by kernel_rfl) (by kernel_rfl) (fun t w1 hB hf hbf => ?y1) ?n1
 case y1 =>
  simp only [BasF] at hbf
  clear hf
  obtain ⟨⟨b3, k3⟩, _⟩ := hbf
  have xb := boxStays HB6.out hB
  have xa := boxStays HA6.out hB
  have xd := boxStays HD6.out hB
  have qb := cell_of_row _ z 2 _ _ _ xb
  have qa := cell_of_row _ (z + 1) 2 _ _ _ xa
  have qd := cell_of_row _ (z + 1 + 1) 2 _ _ _ xd
  clear xb xa xd
  refine Or.inl ⟨wanted_none rfl, ?_⟩
  rintro _ rfl
  go_simp <;> with_reducible rfl
 refine relG_pure (i := 1) (o := ⟨some 56, _, _, _, _, _⟩) (v := ?v2) [(0, 55, 0)] [] rfl rfl (by kernel_rfl) (by kernel_rfl) (fun t w1 hB hf hbf => ?y2) ?n2
 case y2 =>
  simp only [DepF, List.getD_cons_zero] at hf
  obtain ⟨⟨_, ⟨e55, i55⟩, rfl⟩, _⟩ := hf
  clear hbf
  have xb := boxStays HB6.out hB
  have xa := boxStays HA6.out hB
  have xd := boxStays HD6.out hB
  have qb := cell_of_row _ z 2 _ _ _ xb
  have qa := cell_of_row _ (z + 1) 2 _ _ _ xa
  have qd := cell_of_row _ (z + 1 + 1) 2 _ _ _ xd
  clear xb xa xd
  refine Or.inl ⟨wanted_none rfl, ?_⟩
  rintro _ rfl
  go_simp <;> with_reducible rfl
 refine relG_call (i := 2) (o := ⟨some 57, _, _, _, _, _⟩) ((fun v w' => ∃ B, v = .map (some B) ∧ w6.heap.size ≤ B ∧ StMap w' B (stampsG lb))) [(1, 56, 0)] [] rfl rfl (by kernel_rfl) (by kernel_rfl) ((fun v w' w'' h hb => by obtain ⟨B, e1, e2, e3⟩ := h; exact ⟨B, e1, e2, e3.below hb⟩)) ?_ ?_
 · intro t w1 hB hf hbf K hK
   simp only [DepF, List.getD_cons_zero] at hf
   obtain ⟨⟨_, ⟨e56, i56⟩, rfl⟩, _⟩ := hf
   clear hbf
   have xb := boxStays HB6.out hB
   have xa := boxStays HA6.out hB
   have xd := boxStays HD6.out hB
   have qb := cell_of_row _ z 2 _ _ _ xb
   have qa := cell_of_row _ (z + 1) 2 _ _ _ xa
   have qd := cell_of_row _ (z + 1 + 1) 2 _ _ _ xd
   clear xb xa xd
   refine ⟨wanted_none rfl, ?_⟩
   go_simp
   refine (kn_stamps lb ab nb cb w1 (HLB6.out.below hB rfl) NB.out (by omega) RB.out.2.nodup).mono ?_
   rintro e w2 ⟨B, rfl, e2, e3, hb⟩
   exact hK.out _ w2 (⟨B, rfl, Nat.le_trans hB.size e2, e3⟩) hb
 refine relG_pure (i := 3) (o := ⟨some 58, _, _, _, _, _⟩) (v := ?v3) [] [4] rfl rfl (by kernel_rfl) (by kernel_rfl) (fun t w1 hB hf hbf => ?y3) ?n3
 case y3 =>
  simp only [BasF] at hbf
  clear hf
  obtain ⟨⟨b4, k4⟩, _⟩ := hbf
  have xb := boxStays HB6.out hB
  have xa := boxStays HA6.out hB
  have xd := boxStays HD6.out hB
  have qb := cell_of_row _ z 2 _ _ _ xb
  have qa := cell_of_row _ (z + 1) 2 _ _ _ xa
  have qd := cell_of_row _ (z + 1 + 1) 2 _ _ _ xd
  clear xb xa xd
  refine Or.inl ⟨wanted_none rfl, ?_⟩
  rintro _ rfl
  go_simp <;> with_reducible rfl
 refine relG_pure (i := 4) (o := ⟨some 59, _, _, _, _, _⟩) (v := ?v4) [(3, 58, 0)] [] rfl rfl (by kernel_rfl) (by kernel_rfl) (fun t w1 hB hf hbf => ?y4) ?n4
 case y4 =>
  simp only [DepF, List.getD_cons_zero] at hf
  obtain ⟨⟨_, ⟨e58, i58⟩, rfl⟩, _⟩ := hf
  clear hbf
  have xb := boxStays HB6.out hB
  have xa := boxStays HA6.out hB
  have xd := boxStays HD6.out hB
  have qb := cell_of_row _ z 2 _ _ _ xb
  have qa := cell_of_row _ (z + 1) 2 _ _ _ xa
  have qd := cell_of_row _ (z + 1 + 1) 2 _ _ _ xd
  clear xb xa xd
  refine Or.inl ⟨wanted_none rfl, ?_⟩
  rintro _ rfl
  go_simp <;> with_reducible rfl
 refine relG_call (i := 5) (o := ⟨some 60, _, _, _, _, _⟩) ((fun v w' => ∃ B, v = .map (some B) ∧ w6.heap.size ≤ B ∧ StMap w' B (stampsG la))) [(4, 59, 0)] [] rfl rfl (by kernel_rfl) (by kernel_rfl) ((fun v w' w'' h hb => by obtain ⟨B, e1, e2, e3⟩ := h; exact ⟨B, e1, e2, e3.below hb⟩)) ?_ ?_
 · intro t w1 hB hf hbf K hK
   simp only [DepF, List.getD_cons_zero] at hf
   obtain ⟨⟨_, ⟨e59, i59⟩, rfl⟩, _⟩ := hf
   clear hbf
   have xb := boxStays HB6.out hB
   have xa := boxStays HA6.out hB
   have xd := boxStays HD6.out hB
   have qb := cell_of_row _ z 2 _ _ _ xb
   have qa := cell_of_row _ (z + 1) 2 _ _ _ xa
   have qd := cell_of_row _ (z + 1 + 1) 2 _ _ _ xd
   clear xb xa xd
   refine ⟨wanted_none rfl, ?_⟩
   go_simp
   refine (kn_stamps la aa na ca w1 (HLA6.out.below hB rfl) NA.out (by omega) RA.out.2.nodup).mono ?_
   rintro e w2 ⟨B, rfl, e2, e3, hb⟩
   exact hK.out _ w2 (⟨B, rfl, Nat.le_trans hB.size e2, e3⟩) hb
 refine relG_pure (i := 6) (o := ⟨some 61, _, _, _, _, _⟩) (v := ?v5) [] [5] rfl rfl (by kernel_rfl) (by kernel_rfl) (fun t w1 hB hf hbf => ?y5) ?n5
 case y5 =>
  simp only [BasF] at hbf
  clear hf
  obtain ⟨⟨b5, k5⟩, _⟩ := hbf
  have xb := boxStays HB6.out hB
  have xa := boxStays HA6.out hB
  have xd := boxStays HD6.out hB
  have qb := cell_of_row _ z 2 _ _ _ xb
  have qa := cell_of_row _ (z + 1) 2 _ _ _ xa
  have qd := cell_of_row _ (z + 1 + 1) 2 _ _ _ xd
  clear xb xa xd
  refine Or.inl ⟨wanted_none rfl, ?_⟩
  rintro _ rfl
  go_simp <;> with_reducible rfl
 refine relG_pure (i := 7) (o := ⟨some 62, _, _, _, _, _⟩) (v := ?v6) [(6, 61, 0)] [] rfl rfl (by kernel_rfl) (by kernel_rfl) (fun t w1 hB hf hbf => ?y6) ?n6
 case y6 =>
  simp only [DepF, List.getD_cons_zero] at hf
  obtain ⟨⟨_, ⟨e61, i61⟩, rfl⟩, _⟩ := hf
  clear hbf
  have xb := boxStays HB6.out hB
  have xa := boxStays HA6.out hB
  have xd := boxStays HD6.out hB
  have qb := cell_of_row _ z 2 _ _ _ xb
  have qa := cell_of_row _ (z + 1) 2 _ _ _ xa
  have qd := cell_of_row _ (z + 1 + 1) 2 _ _ _ xd
  clear xb xa xd
  refine Or.inl ⟨wanted_none rfl, ?_⟩
  rintro _ rfl
  go_simp <;> with_reducible rfl
 refine relG_call (i := 8) (o := ⟨some 63, _, _, _, _, _⟩) ((fun v w' => ∃ B, v = .map (some B) ∧ w6.heap.size ≤ B ∧ StMap w' B (stampsG l2))) [(7, 62, 0)] [] rfl rfl (by kernel_rfl) (by kernel_rfl) ((fun v w' w'' h hb => by obtain ⟨B, e1, e2, e3⟩ := h; exact ⟨B, e1, e2, e3.below hb⟩)) ?_ ?_
 · intro t w1 hB hf hbf K hK
   simp only [DepF, List.getD_cons_zero] at hf
   obtain ⟨⟨_, ⟨e62, i62⟩, rfl⟩, _⟩ := hf
   clear hbf
   have xb := boxStays HB6.out hB
   have xa := boxStays HA6.out hB
   have xd := boxStays HD6.out hB
   have qb := cell_of_row _ z 2 _ _ _ xb
   have qa := cell_of_row _ (z + 1) 2 _ _ _ xa
   have qd := cell_of_row _ (z + 1 + 1) 2 _ _ _ xd
   clear xb xa xd
   refine ⟨wanted_none rfl, ?_⟩
   go_simp
   refine (kn_stamps l2 a2 n2 c2 w1 (HL26.out.below hB rfl) N2.out (by omega) R2.out.2.nodup).mono ?_
   rintro e w2 ⟨B, rfl, e2, e3, hb⟩
   exact hK.out _ w2 (⟨B, rfl, Nat.le_trans hB.size e2, e3⟩) hb
 refine relG_call (i := 9) (o := ⟨some 9, _, _, _, _, _⟩) ((fun v w' => ∃ B, v = .map (some B) ∧ w6.heap.size ≤ B ∧ StMap w' B (stampsG lb))) [(2, 57, 6)] [] rfl rfl (by kernel_rfl) (by kernel_rfl) ((fun v w' w'' h hb => by obtain ⟨B, e1, e2, e3⟩ := h; exact ⟨B, e1, e2, e3.below hb⟩)) ?_ ?_
 · intro t w1 hB hf hbf K hK
   simp only [DepF, List.getD_cons_zero, List.getD_cons_succ] at hf
   obtain ⟨⟨_, ⟨e57, i57⟩, ⟨P5, rfl, e2, e3⟩⟩, _⟩ := hf
   clear hbf
   have xb := boxStays HB6.out hB
   have xa := boxStays HA6.out hB
   have xd := boxStays HD6.out hB
   have qb := cell_of_row _ z 2 _ _ _ xb
   have qa := cell_of_row _ (z + 1) 2 _ _ _ xa
   have qd := cell_of_row _ (z + 1 + 1) 2 _ _ _ xd
   clear xb xa xd
   refine ⟨wanted_none rfl, ?_⟩
   go_simp
   exact hK.out _ _ (⟨_, rfl, e2, e3⟩) (Below.refl _ _)
 refine relG_call (i := 10) (o := ⟨some 10, _, _, _, _, _⟩) ((fun v w' => ∃ B, v = .map (some B) ∧ w6.heap.size ≤ B ∧ StMap w' B (stampsG la))) [(5, 60, 4)] [] rfl rfl (by kernel_rfl) (by kernel_rfl) ((fun v w' w'' h hb => by obtain ⟨B, e1, e2, e3⟩ := h; exact ⟨B, e1, e2, e3.below hb⟩)) ?_ ?_
 · intro t w1 hB hf hbf K hK
   simp only [DepF, List.getD_cons_zero, List.getD_cons_succ] at hf
   obtain ⟨⟨_, ⟨e60, i60⟩, ⟨P6, rfl, e2, e3⟩⟩, _⟩ := hf
   clear hbf
   have xb := boxStays HB6.out hB
   have xa := boxStays HA6.out hB
   have xd := boxStays HD6.out hB
   have qb := cell_of_row _ z 2 _ _ _ xb
   have qa := cell_of_row _ (z + 1) 2 _ _ _ xa
   have qd := cell_of_row _ (z + 1 + 1) 2 _ _ _ xd
   clear xb xa xd
   refine ⟨wanted_none rfl, ?_⟩
   go_simp
   exact hK.out _ _ (⟨_, rfl, e2, e3⟩) (Below.refl _ _)
 refine relG_call (i := 11) (o := ⟨some 11, _, _, _, _, _⟩) ((fun v w' => ∃ B, v = .map (some B) ∧ w6.heap.size ≤ B ∧ StMap w' B (stampsG l2))) [(8, 63, 2)] [] rfl rfl (by kernel_rfl) (by kernel_rfl) ((fun v w' w'' h hb => by obtain ⟨B, e1, e2, e3⟩ := h; exact ⟨B, e1, e2, e3.below hb⟩)) ?_ ?_
 · intro t w1 hB hf hbf K hK
   simp only [DepF, List.getD_cons_zero, List.getD_cons_succ] at hf
   obtain ⟨⟨_, ⟨e63, i63⟩, ⟨P7, rfl, e2, e3⟩⟩, _⟩ := hf
   clear hbf
   have xb := boxStays HB6.out hB
   have xa := boxStays HA6.out hB
   have xd := boxStays HD6.out hB
   have qb := cell_of_row _ z 2 _ _ _ xb
   have qa := cell_of_row _ (z + 1) 2 _ _ _ xa
   have qd := cell_of_row _ (z + 1 + 1) 2 _ _ _ xd
   clear xb xa xd
   refine ⟨wanted_none rfl, ?_⟩
   go_simp
   exact hK.out _ _ (⟨_, rfl, e2, e3⟩) (Below.refl _ _)
 refine relG_done [(0, 55, 11), (1, 56, 10), (2, 57, 9), (3, 58, 8), (4, 59, 7), (5, 60, 6), (6, 61, 5), (7, 62, 4), (8, 63, 3), (9, 9, 2), (10, 10, 1), (11, 11, 0)] (by kernel_rfl) rfl (by kernel_rfl) (fun f wE hB hf => ?_)
 simp only [FinF, List.getD_cons_zero, List.getD_cons_succ] at hf
 obtain ⟨⟨_, e55, rfl⟩, ⟨_, e56, rfl⟩, ⟨_, e57, ⟨P5, rfl, e2, e3⟩⟩, ⟨_, e58, rfl⟩, ⟨_, e59, rfl⟩, ⟨_, e60, ⟨P6, rfl, e2, e3⟩⟩, ⟨_, e61, rfl⟩, ⟨_, e62, rfl⟩, ⟨_, e63, ⟨P7, rfl, e2, e3⟩⟩, ⟨_, e9, ⟨P1, rfl, le1, sm1⟩⟩, ⟨_, e10, ⟨P2, rfl, le2, sm2⟩⟩, ⟨_, e11, ⟨P3, rfl, le3, sm3⟩⟩, _⟩ := hf
 simp only [regT, List.foldl_cons, List.foldl_nil, List.setIfInBounds_toArray, List.set_cons_zero, List.set_cons_succ, e55, e56, e57, e58, e59, e60, e61, e62, e63, e9, e10, e11]
 clear e55 e56 e57 e58 e59 e60 e61 e62 e63 e9 e10 e11
 have hb := hB
 clear hB
 replace HC := Lib.hid (HC.out.push hb)
 clear hb
 have M1 := Lib.hid sm1
 have M2 := Lib.hid sm2
 have M3 := Lib.hid sm3
 have WE : Hid (w6.heap.size ≤ wE.heap.size ∧ y < P1 ∧ y < P2 ∧ y < P3) := Lib.hid (by have h1 := WY.out; have h2 := (HC.out.to w6 (by simp)).size; omega)
 clear sm1 sm2 sm3 le1 le2 le3
 have TE := Lib.hid (boxStays HT.out (HC.out.to w6 (by simp)))
 have DE := Lib.hid (boxStays HD.out (HC.out.to w1 (by simp)))
 have RR := Lib.hid (boxStays HR.out (HC.out.to w1 (by simp)))
 have BE := Lib.hid (HC.out.to w (by simp))
 have ET := Lib.hid elT
 have kA0 := cell_of_row _ _ 0 _ _ _ (boxStays HA.out (HC.out.to w1 (by simp)))
 have kA1 := cell_of_row _ _ 1 _ _ _ (boxStays HA.out (HC.out.to w1 (by simp)))
 have kA2 := cell_of_row _ _ 2 _ _ _ (boxStays HA.out (HC.out.to w1 (by simp)))
 go_wp2_with fail
 clear kA0 kA1 kA2
 clear HC HB HA HD HR HT HB6 HA6 HD6 HLB6 HLA6 HL26
 go_loopw [13, 67] (fun _ j wr => ∃ q : Nat, j = .int .i64 (q : Int) ∧ q ≤ na ∧ Hid (ThI y kb mm wE (([] : List Ev) ++ (la.take q).filter (keepA lb l2)) wr)) (fun _ j _ => na - (intOf j).toNat)
 case atStart => exact ⟨0, rfl, Nat.zero_le _, Lib.hid (⟨none, 0, 0, TE.out, rfl, ⟨rfl, Or.inl ⟨rfl, rfl⟩⟩, ⟨rfl, rfl, rfl, Nat.le_refl _, fun _ _ _ => rfl⟩⟩)⟩
 case round =>
  obtain ⟨q, rfl, hq, HI⟩ := hrel
  obtain ⟨av, an, ac, hTr, hanl, hown, hgr⟩ := HI.out
  have GR1 := Lib.hid hgr
  have TR1 := Lib.hid hTr
  have BR1 : Hid (Below w.heap.size w wr) := Lib.hid (BE.out.grown hgr BE.out.size (fun k hk => by cases hk; exact WY.out.2.2))
  by_cases hlt : q < na
  · have hqi : (q : Int) < (na : Int) := by omega
    have hql : q < la.length := by have := NA.out; omega
    obtain ⟨ba', oa', rfl, cx⟩ := els_get (HLA.out.below BR1.out rfl) q hql
    have SN := Lib.hid (filter_snoc (keepA lb l2) la q hql)
    have OW := Lib.hid hown
    have AN := Lib.hid hanl
    have HAN : an ≤ 200000 := by rw [hanl]; exact keep_len ([] : List Ev) (keepA lb l2) la q 100000 (Nat.zero_le _) (by omega)
    obtain ⟨acc, hacc⟩ : ∃ z, ([] : List Ev) ++ (la.take q).filter (keepA lb l2) = z := ⟨_, rfl⟩
    rw [hacc] at OW AN
    have ACC := Lib.hid hacc
    obtain ⟨x, hx⟩ : ∃ x, la[q] = x := ⟨_, rfl⟩
    rw [hx] at cx SN
    obtain ⟨p0, p1, p2, p3, p4, p5⟩ := cx
    clear hx hTr hanl hown hgr hacc HI
    go_upto_region 8 with (fail)
    clear p0 p1 p2 p3 p4 p5
    obtain ⟨w3, hw3⟩ : ∃ W, wr.alloc (.cells #[.int .i64 x.1.g, .int .i64 x.1.r, .string x.1.l, .int .i64 x.1.n, .int .i64 x.1.i, .string x.2] 33) = W := ⟨_, rfl⟩
    have B3 : Hid (Below wr.heap.size wr w3) := Lib.hid (by rw [← hw3]; exact below_new _ _)
    have hx3 : w3.heap[wr.heap.size]? = some (.cells #[.int .i64 x.1.g, .int .i64 x.1.r, .string x.1.l, .int .i64 x.1.n, .int .i64 x.1.i, .string x.2] 33 (0, 0)) := by rw [← hw3]; exact heap_alloc_new _ _
    rw [hw3]
    obtain ⟨u, hu⟩ : ∃ u, wr.heap.size = u := ⟨_, rfl⟩
    rw [hu] at hx3
    try rw [hu]
    have SU := Lib.hid hu
    have X3 := Lib.hid hx3
    clear hw3 hx3 hu
    have LA := Lib.hid (stMap_look ((M3.out.grown GR1.out (by have := WE.out; omega)).below B3.out) x.1)
    have LB := Lib.hid (stMap_look ((M1.out.grown GR1.out (by have := WE.out; omega)).below B3.out) x.1)
    have VA := Lib.hid (look_pos l2 x.1)
    have VA0 := Lib.hid (look_eq l2 x.1)
    have VB := Lib.hid (look_eq lb x.1)
    obtain ⟨va, hva⟩ : ∃ v, lookG (stampsG l2) x.1 = v := ⟨_, rfl⟩
    obtain ⟨vb, hvb⟩ : ∃ v, lookG (stampsG lb) x.1 = v := ⟨_, rfl⟩
    rw [hva] at LA VA VA0
    rw [hvb] at LB VB
    clear hva hvb
    obtain ⟨bk, hbk⟩ : ∃ b, keepA lb l2 x = b := ⟨_, rfl⟩
    rw [hbk] at SN
    have BK := Lib.hid hbk
    clear hbk
    go_cut [82] (fun uc wx => uc = .bool bk ∧ Hid (Below w3.heap.size w3 wx))
    case first =>
     have la1 := LA.out
     have lb1 := LB.out
     unfold smK at la1 lb1
     have q0 := cell_of_row _ _ 0 _ _ _ X3.out
     have q1 := cell_of_row _ _ 1 _ _ _ X3.out
     have q2 := cell_of_row _ _ 2 _ _ _ X3.out
     have q3 := cell_of_row _ _ 3 _ _ _ X3.out
     have q4 := cell_of_row _ _ 4 _ _ _ X3.out
     by_cases ha : hasG l2 x.1 = true
     · have k1 : 0 < va := of_decide_eq_true (VA.out.trans ha)
       obtain rfl : true = bk := by rw [← BK.out]; unfold keepA; rw [ha]; rfl
       clear ha
       go_wp2_with fail
       go_meet
       exact ⟨rfl, Lib.hid (by first | exact Below.refl _ _ | exact below_drews (Below.refl _ _) _)⟩
     · have ha0 : hasG l2 x.1 = false := by simpa using ha
       have k1 : ¬ 0 < va := of_decide_eq_false (VA.out.trans ha0)
       have k2 : (vb == 0) = bk := by rw [VB.out, ← BK.out]; unfold keepA; rw [ha0]; rfl
       clear ha ha0
       go_wp2_with fail
       go_meet
       exact ⟨rfl, Lib.hid (by first | exact Below.refl _ _ | exact below_drews (Below.refl _ _) _)⟩
    case rest =>
     obtain ⟨rfl, HBD⟩ := hcut
     obtain ⟨w4, rfl⟩ : ∃ X : World, X = wc := ⟨_, rfl⟩
     have B4 : Hid (Below wr.heap.size wr w4) := Lib.hid (B3.out.trans (HBD.out.mono B3.out.size))
     have B5 : Hid (Below wE.heap.size wr w4) := Lib.hid (B4.out.mono GR1.out.size)
     have T4 : Hid (w4.heap[y]? = some (.cells #[.int .i64 kb, .int .i64 mm, .slice av an ac] 49 (0, 0))) := Lib.hid (boxStays TR1.out B4.out)
     have OW4 := Lib.hid (own_later OW.out B4.out (Nat.le_refl _))
     cases bk
     case false =>
      go_wp2_with fail
      go_roundw
      case rel => exact ⟨q + 1, by go_num, by omega, Lib.hid ⟨av, an, ac, T4.out, by rw [SN.out, if_neg (by simp), List.append_nil, ACC.out]; exact AN.out, by rw [SN.out, if_neg (by simp), List.append_nil, ACC.out]; exact OW4.out, grown_bel GR1.out B5.out⟩⟩
      case measure => simp [intOf]; omega
     case true =>
      have X4 := Lib.hid (boxStays X3.out HBD.out)
      have q0 := cell_of_row _ _ 0 _ _ _ X4.out
      have q1 := cell_of_row _ _ 1 _ _ _ X4.out
      have q2 := cell_of_row _ _ 2 _ _ _ X4.out
      have q3 := cell_of_row _ _ 3 _ _ _ X4.out
      have q4 := cell_of_row _ _ 4 _ _ _ X4.out
      have q5 := cell_of_row _ _ 5 _ _ _ X4.out
      have t2 := cell_of_row _ y 2 _ _ _ T4.out
      have SB : Hid (wE.heap.size ≤ w4.heap.size ∧ y < wE.heap.size) := Lib.hid ⟨Nat.le_trans GR1.out.size B4.out.size, by have h1 := WY.out; have h2 := WE.out; omega⟩
      have NY : Hid ((Value.slice av an ac).ownBlock ≠ some y) := Lib.hid (fun e => by have h1 := (OW4.out.lt _ e).1; have h2 := SB.out; omega)
      go_wp2_with (at_builtin; go_must (refine wpList_app rfl _ _ 47 47 rfl wE.heap.size 33 _ 6 64 ET.out (.slice av an ac) an (elsV acc) rfl (OW4.out.alloc _) _ 1 (elV x) rfl ((CellsAt.new w4 33 (0, 0) (elV x)).srcN rfl (fun u hu => elsV_one [x] u (by simpa [elsV] using hu)) Tryd.underlying47 1 (by decide)) (by omega) (by omega) (by have := SB.out; simp; omega) ?_); go_must (intro v10 w10 hown hgr10 hbel hor); go_must (obtain ⟨a10, c10, rfl, _⟩ := own_slice hown); have OW10 := Lib.hid hown; have B10 : Hid (Below wE.heap.size w4 w10) := Lib.hid (((below_new w4 (.cells #[.int .i64 x.1.g, .int .i64 x.1.r, .string x.1.l, .int .i64 x.1.n, .int .i64 x.1.i, .string x.2] 33)).mono SB.out.1).trans hbel); have T10 : Hid (w10.heap[y]? = some (.cells #[.int .i64 kb, .int .i64 mm, .slice av an ac] 49 (0, 0))) := Lib.hid ((B10.out.block y SB.out.2).trans T4.out); have t10 := cell_of_row _ y 2 _ _ _ T10.out; have f10 := frozen_of_row _ y 2 _ _ T10.out; clear hown hgr10 hbel hor q0 q1 q2 q3 q4 q5 t2)
      go_roundw
      case rel =>
       refine ⟨q + 1, by go_num, by omega, Lib.hid ⟨a10, an + 1, c10, ?_, ?_, ?_, ?_⟩⟩
       · have := heap_setCell_same w10 y 2 _ _ (.slice a10 (an + 1) c10) T10.out; simpa using this
       · rw [SN.out, if_pos rfl, ← List.append_assoc, ACC.out, List.length_append, ← AN.out]; rfl
       · rw [SN.out, if_pos rfl, ← List.append_assoc, ACC.out, elsV_append, show elsV [x] = elV x by simp [elsV]]
         exact own_grown OW10.out (grown_set w10 y 2 _) (fun k hk e => by have h1 := (OW10.out.lt k hk).1; have h2 := SB.out; cases e; omega)
       · exact grown_tr (grown_bel (grown_bel GR1.out B5.out) B10.out) (grown_set w10 y 2 _)
      case measure => simp [intOf]; omega
  · obtain rfl : q = na := by omega
    have hqi : ¬ (q : Int) < (q : Int) := by omega
    have TK : Hid ((la.take q) = la) := Lib.hid (List.take_of_length_le (by rw [NA.out]; exact Nat.le_refl _))
    rw [TK.out] at hanl hown
    have OWF := Lib.hid hown
    have ANF := Lib.hid hanl
    have ND : Hid (z + 1 + 1 ≠ y ∧ z + 1 + 1 < wE.heap.size) := Lib.hid (by have h1 := WY.out; have h2 := WE.out; omega)
    have DF := Lib.hid (grow_keep hgr DE.out (fun e => ND.out.1 (Option.some.inj e).symm))
    have d2 := cell_of_row _ (z + 1 + 1) 2 _ _ _ DF.out
    have A1L : Hid ((la.filter (keepA lb l2)).length ≤ 100000) := Lib.hid (by have h1 := List.length_filter_le (keepA lb l2) la; have := NA.out; omega)
    clear hanl hown hgr HI hTr
    obtain ⟨wF, rfl⟩ : ∃ X : World, X = wr := ⟨_, rfl⟩
    go_wp2_with fail
    clear d2
    go_loopw [15, 93] (fun _ j wr => ∃ q : Nat, j = .int .i64 (q : Int) ∧ q ≤ n2 ∧ Hid (ThI y kb mm wE (la.filter (keepA lb l2) ++ (l2.take q).filter (keepB lb la)) wr)) (fun _ j _ => n2 - (intOf j).toNat)
    case atStart => exact ⟨0, rfl, Nat.zero_le _, Lib.hid (⟨av, an, ac, TR1.out, (by simpa using ANF.out), (by simpa using OWF.out), GR1.out⟩)⟩
    case round =>
     obtain ⟨q, rfl, hq, HI⟩ := hrel
     obtain ⟨av, an, ac, hTr, hanl, hown, hgr⟩ := HI.out
     have GR2 := Lib.hid hgr
     have TR2 := Lib.hid hTr
     have BR2 : Hid (Below w.heap.size w wr) := Lib.hid (BE.out.grown hgr BE.out.size (fun k hk => by cases hk; exact WY.out.2.2))
     by_cases hlt : q < n2
     · have hqi : (q : Int) < (n2 : Int) := by omega
       have hql : q < l2.length := by have := N2.out; omega
       obtain ⟨ba', oa', rfl, cx⟩ := els_get (HL2.out.below BR2.out rfl) q hql
       have SN := Lib.hid (filter_snoc (keepB lb la) l2 q hql)
       have OW := Lib.hid hown
       have AN := Lib.hid hanl
       have HAN : an ≤ 200000 := by rw [hanl]; exact keep_len (la.filter (keepA lb l2)) (keepB lb la) l2 q 100000 A1L.out (by omega)
       obtain ⟨acc, hacc⟩ : ∃ z, la.filter (keepA lb l2) ++ (l2.take q).filter (keepB lb la) = z := ⟨_, rfl⟩
       rw [hacc] at OW AN
       have ACC := Lib.hid hacc
       obtain ⟨x, hx⟩ : ∃ x, l2[q] = x := ⟨_, rfl⟩
       rw [hx] at cx SN
       obtain ⟨p0, p1, p2, p3, p4, p5⟩ := cx
       clear hx hTr hanl hown hgr hacc HI
       go_upto_region 14 with (fail)
       clear p0 p1 p2 p3 p4 p5
       obtain ⟨w3, hw3⟩ : ∃ W, wr.alloc (.cells #[.int .i64 x.1.g, .int .i64 x.1.r, .string x.1.l, .int .i64 x.1.n, .int .i64 x.1.i, .string x.2] 33) = W := ⟨_, rfl⟩
       have B3 : Hid (Below wr.heap.size wr w3) := Lib.hid (by rw [← hw3]; exact below_new _ _)
       have hx3 : w3.heap[wr.heap.size]? = some (.cells #[.int .i64 x.1.g, .int .i64 x.1.r, .string x.1.l, .int .i64 x.1.n, .int .i64 x.1.i, .string x.2] 33 (0, 0)) := by rw [← hw3]; exact heap_alloc_new _ _
       rw [hw3]
       obtain ⟨u, hu⟩ : ∃ u, wr.heap.size = u := ⟨_, rfl⟩
       rw [hu] at hx3
       try rw [hu]
       have SU := Lib.hid hu
       have X3 := Lib.hid hx3
       clear hw3 hx3 hu
       have LA := Lib.hid (stMap_look ((M2.out.grown GR2.out (by have := WE.out; omega)).below B3.out) x.1)
       have LB := Lib.hid (stMap_look ((M1.out.grown GR2.out (by have := WE.out; omega)).below B3.out) x.1)
       have VA := Lib.hid (look_pos la x.1)
       have VA0 := Lib.hid (look_eq la x.1)
       have VB := Lib.hid (look_eq lb x.1)
       obtain ⟨va, hva⟩ : ∃ v, lookG (stampsG la) x.1 = v := ⟨_, rfl⟩
       obtain ⟨vb, hvb⟩ : ∃ v, lookG (stampsG lb) x.1 = v := ⟨_, rfl⟩
       rw [hva] at LA VA VA0
       rw [hvb] at LB VB
       clear hva hvb
       obtain ⟨bk, hbk⟩ : ∃ b, keepB lb la x = b := ⟨_, rfl⟩
       rw [hbk] at SN
       have BK := Lib.hid hbk
       clear hbk
       go_cut [108] (fun uc wx => uc = .bool bk ∧ Hid (Below w3.heap.size w3 wx))
       case first =>
        have la1 := LA.out
        have lb1 := LB.out
        unfold smK at la1 lb1
        have q0 := cell_of_row _ _ 0 _ _ _ X3.out
        have q1 := cell_of_row _ _ 1 _ _ _ X3.out
        have q2 := cell_of_row _ _ 2 _ _ _ X3.out
        have q3 := cell_of_row _ _ 3 _ _ _ X3.out
        have q4 := cell_of_row _ _ 4 _ _ _ X3.out
        by_cases ha : hasG la x.1 = true
        · have k1 : (va == 0) = false := by rw [VA0.out, ha]; rfl
          obtain rfl : false = bk := by rw [← BK.out]; unfold keepB; rw [ha]; rfl
          clear ha
          go_wp2_with fail
          go_meet
          exact ⟨rfl, Lib.hid (by first | exact Below.refl _ _ | exact below_drews (Below.refl _ _) _)⟩
        · have ha0 : hasG la x.1 = false := by simpa using ha
          have k1 : (va == 0) = true := by rw [VA0.out, ha0]; rfl
          have k2 : (vb == 0) = bk := by rw [VB.out, ← BK.out]; unfold keepB; rw [ha0]; rfl
          clear ha ha0
          go_wp2_with fail
          go_meet
          exact ⟨rfl, Lib.hid (by first | exact Below.refl _ _ | exact below_drews (Below.refl _ _) _)⟩
       case rest =>
        obtain ⟨rfl, HBD⟩ := hcut
        obtain ⟨w4, rfl⟩ : ∃ X : World, X = wc := ⟨_, rfl⟩
        have B4 : Hid (Below wr.heap.size wr w4) := Lib.hid (B3.out.trans (HBD.out.mono B3.out.size))
        have B5 : Hid (Below wE.heap.size wr w4) := Lib.hid (B4.out.mono GR2.out.size)
        have T4 : Hid (w4.heap[y]? = some (.cells #[.int .i64 kb, .int .i64 mm, .slice av an ac] 49 (0, 0))) := Lib.hid (boxStays TR2.out B4.out)
        have OW4 := Lib.hid (own_later OW.out B4.out (Nat.le_refl _))
        cases bk
        case false =>
         go_wp2_with fail
         go_roundw
         case rel => exact ⟨q + 1, by go_num, by omega, Lib.hid ⟨av, an, ac, T4.out, by rw [SN.out, if_neg (by simp), List.append_nil, ACC.out]; exact AN.out, by rw [SN.out, if_neg (by simp), List.append_nil, ACC.out]; exact OW4.out, grown_bel GR2.out B5.out⟩⟩
         case measure => simp [intOf]; omega
        case true =>
         have X4 := Lib.hid (boxStays X3.out HBD.out)
         have q0 := cell_of_row _ _ 0 _ _ _ X4.out
         have q1 := cell_of_row _ _ 1 _ _ _ X4.out
         have q2 := cell_of_row _ _ 2 _ _ _ X4.out
         have q3 := cell_of_row _ _ 3 _ _ _ X4.out
         have q4 := cell_of_row _ _ 4 _ _ _ X4.out
         have q5 := cell_of_row _ _ 5 _ _ _ X4.out
         have t2 := cell_of_row _ y 2 _ _ _ T4.out
         have SB : Hid (wE.heap.size ≤ w4.heap.size ∧ y < wE.heap.size) := Lib.hid ⟨Nat.le_trans GR2.out.size B4.out.size, by have h1 := WY.out; have h2 := WE.out; omega⟩
         have NY : Hid ((Value.slice av an ac).ownBlock ≠ some y) := Lib.hid (fun e => by have h1 := (OW4.out.lt _ e).1; have h2 := SB.out; omega)
         go_wp2_with (at_builtin; go_must (refine wpList_app rfl _ _ 47 47 rfl wE.heap.size 33 _ 6 64 ET.out (.slice av an ac) an (elsV acc) rfl (OW4.out.alloc _) _ 1 (elV x) rfl ((CellsAt.new w4 33 (0, 0) (elV x)).srcN rfl (fun u hu => elsV_one [x] u (by simpa [elsV] using hu)) Tryd.underlying47 1 (by decide)) (by omega) (by omega) (by have := SB.out; simp; omega) ?_); go_must (intro v10 w10 hown hgr10 hbel hor); go_must (obtain ⟨a10, c10, rfl, _⟩ := own_slice hown); have OW10 := Lib.hid hown; have B10 : Hid (Below wE.heap.size w4 w10) := Lib.hid (((below_new w4 (.cells #[.int .i64 x.1.g, .int .i64 x.1.r, .string x.1.l, .int .i64 x.1.n, .int .i64 x.1.i, .string x.2] 33)).mono SB.out.1).trans hbel); have T10 : Hid (w10.heap[y]? = some (.cells #[.int .i64 kb, .int .i64 mm, .slice av an ac] 49 (0, 0))) := Lib.hid ((B10.out.block y SB.out.2).trans T4.out); have t10 := cell_of_row _ y 2 _ _ _ T10.out; have f10 := frozen_of_row _ y 2 _ _ T10.out; clear hown hgr10 hbel hor q0 q1 q2 q3 q4 q5 t2)
         go_roundw
         case rel =>
          refine ⟨q + 1, by go_num, by omega, Lib.hid ⟨a10, an + 1, c10, ?_, ?_, ?_, ?_⟩⟩
          · have := heap_setCell_same w10 y 2 _ _ (.slice a10 (an + 1) c10) T10.out; simpa using this
          · rw [SN.out, if_pos rfl, ← List.append_assoc, ACC.out, List.length_append, ← AN.out]; rfl
          · rw [SN.out, if_pos rfl, ← List.append_assoc, ACC.out, elsV_append, show elsV [x] = elV x by simp [elsV]]
            exact own_grown OW10.out (grown_set w10 y 2 _) (fun k hk e => by have h1 := (OW10.out.lt k hk).1; have h2 := SB.out; cases e; omega)
          · exact grown_tr (grown_bel (grown_bel GR2.out B5.out) B10.out) (grown_set w10 y 2 _)
         case measure => simp [intOf]; omega
     · obtain rfl : q = n2 := by omega
       have hqi : ¬ (q : Int) < (q : Int) := by omega
       have TK : Hid ((l2.take q) = l2) := Lib.hid (List.take_of_length_le (by rw [N2.out]; exact Nat.le_refl _))
       rw [TK.out] at hanl hown
       have PG : Hid (la.filter (keepA lb l2) ++ l2.filter (keepB lb la) = pickG lb la l2) := Lib.hid rfl
       rw [PG.out] at hanl hown
       have OWG := Lib.hid hown
       have ANG := Lib.hid hanl
       have BG := Lib.hid (Nat.le_trans (by rw [← PG.out, List.length_append]; exact Nat.add_le_add (List.length_filter_le _ _) (List.length_filter_le _ _) : (pickG lb la l2).length ≤ la.length + l2.length) (Nat.le_refl _))
       have RF := Lib.hid (grow_keep hgr RR.out (fun e => by have h1 := WY.out; have := Option.some.inj e; omega))
       clear hanl hown hgr HI hTr
       obtain ⟨wG, rfl⟩ : ∃ X : World, X = wr := ⟨_, rfl⟩
       have t2 := cell_of_row _ y 2 _ _ _ TR2.out
       have SBG : Hid (y < wE.heap.size ∧ w.heap.size ≤ wE.heap.size ∧ z + 1 + 1 + 1 < y) := Lib.hid ⟨by have h1 := WY.out; have h2 := WE.out; omega, BE.out.size, WY.out.1⟩
       go_wp2_with fail
       clear t2
       by_cases h0 : an = 0
       · subst h0
         have hnil : pickG lb la l2 = [] := List.length_eq_zero_iff.1 ANG.out.symm
         have H3 : Hid (threeG lb la l2 = []) := Lib.hid (three_uniq RB.out RA.out R2.out (r := []) (by rw [hnil]) List.Pairwise.nil).symm
         refine (sl_SortNil av ac _ wG).mono ?_
         rintro e w9 ⟨rfl, rfl⟩
         have TY := Lib.hid TR2.out
         have RY := Lib.hid RF.out
         clear hnil
         have t5 := cell_of_row _ y 0 _ _ _ TY.out
         have t6 := cell_of_row _ y 1 _ _ _ TY.out
         have t7 := cell_of_row _ y 2 _ _ _ TY.out
         go_wp2_with (refine wpList_store_row rfl 49 (.tmp 6) (.tmp 119) rfl (z + 1 + 1 + 1) #[.int .i64 kb, .int .i64 mm, (.slice av 0 ac)] rfl rfl 49 _ RY.out (by kernel_rfl) rfl (by simp [Value.oneCell']) ?_)
         have hx := setRow_heap _ _ _ #[.int .i64 kb, .int .i64 mm, (.slice av 0 ac)] _ _ RY.out
         have r0 := cell_of_row _ _ 0 _ _ _ hx
         have r1 := cell_of_row _ _ 1 _ _ _ hx
         have r2 := cell_of_row _ _ 2 _ _ _ hx
         refine bodyPost_ret (v := .tuple #[.agg #[.int .i64 kb, .int .i64 mm, (.slice av 0 ac)], .int .i64 0]) (by simp [results, Tryd.results32, go_sem, r0, r1, r2]) rfl ?_
         rw [HRE.out]
         rw [H3.out]
         obtain ⟨_, _, e9, hk, _⟩ := own_slice OWG.out
         cases e9
         exact ⟨av, 0, ac, rfl, CellsAt.nil _ _, rfl, hk, fun ad had => (by subst had; rcases OWG.out.2 with ⟨h, _⟩ | ⟨g, cap, cur, h, h1, _⟩; cases h; cases h; have := SBG.out; show w.heap.size ≤ g; omega), below_setRow BR2.out WZ.out _⟩
       · obtain ⟨g, c', hv, hg1, hg2, hnk, _⟩ := own_form OWG.out (by omega)
         cases hv
         have hbn : an ≤ 1000000 := by have h1 := BG.out; have h2 := ANG.out; have h3 := NA.out; have h4 := N2.out; omega
         refine (sl_SortEl (pickG lb la l2) g an ac _ _ wG ANG.out hbn OWG.out).mono ?_
         rintro e w9 ⟨rfl, r, hp, hs, hc, hgr9⟩
         have H3 : Hid (r = threeG lb la l2) := Lib.hid (three_uniq RB.out RA.out R2.out hp hs)
         have HL3 : Hid (an = r.length) := Lib.hid (ANG.out.trans hp.length_eq.symm)
         have C9 := Lib.hid hc
         have NG : Hid (g ≠ y ∧ g ≠ z + 1 + 1 + 1 ∧ w.heap.size ≤ g ∧ an ≤ ac) := Lib.hid (by have := SBG.out; omega)
         have TY := Lib.hid (grow_keep hgr9 TR2.out (fun e => NG.out.1 (Option.some.inj e)))
         have RY := Lib.hid (grow_keep hgr9 RF.out (fun e => NG.out.2.1 (Option.some.inj e)))
         have B9 : Hid (Below w.heap.size w w9) := Lib.hid (BR2.out.grown hgr9 BR2.out.size (fun k hk => by cases hk; exact NG.out.2.2.1))
         clear hp hs hc hgr9 hbn hg1 hg2 hnk
         have t5 := cell_of_row _ y 0 _ _ _ TY.out
         have t6 := cell_of_row _ y 1 _ _ _ TY.out
         have t7 := cell_of_row _ y 2 _ _ _ TY.out
         go_wp2_with (refine wpList_store_row rfl 49 (.tmp 6) (.tmp 119) rfl (z + 1 + 1 + 1) #[.int .i64 kb, .int .i64 mm, (.slice (some ⟨g, 0, none⟩) an ac)] rfl rfl 49 _ RY.out (by kernel_rfl) rfl (by simp [Value.oneCell']) ?_)
         have hx := setRow_heap _ _ _ #[.int .i64 kb, .int .i64 mm, (.slice (some ⟨g, 0, none⟩) an ac)] _ _ RY.out
         have r0 := cell_of_row _ _ 0 _ _ _ hx
         have r1 := cell_of_row _ _ 1 _ _ _ hx
         have r2 := cell_of_row _ _ 2 _ _ _ hx
         refine bodyPost_ret (v := .tuple #[.agg #[.int .i64 kb, .int .i64 mm, (.slice (some ⟨g, 0, none⟩) an ac)], .int .i64 0]) (by simp [results, Tryd.results32, go_sem, r0, r1, r2]) rfl ?_
         rw [HRE.out]
         rw [← H3.out]
         exact ⟨some ⟨g, 0, none⟩, an, ac, rfl, cellsAt_setRow C9.out NG.out.2.1, HL3.out, NG.out.2.2.2, fun ad had => (by cases had; exact NG.out.2.2.1), below_setRow B9.out WZ.out _⟩
end Go.Proofs.YtjlliohjeiclaaaDoor
