/- Words, contracts and walks that the proof stands on (TgM TgB OpenC OpenG OpenT). -/
import Derived.Deep.DeepHandedRow
import Derived.Deep.DeepWitnessRowRef
import Derived.Deep.Grids
import Derived.Deep.Slices
import Derived.Lib.LaidIn
import Derived.Lib.LaidU8T
import Derived.OpenShut
import Derived.ProofKit
import Derived.Shelf.Vars
import Derived.SliceStrings
import Derived.Test.YtjlliohjeiclaaaGreatDoorCards
import Derived.Test.YtjlliohjeiclaaaGreatDoorKC1
import Derived.Test.YtjlliohjeiclaaaGreatDoorKC11
import Derived.Test.YtjlliohjeiclaaaGreatDoorKC4
import Derived.Test.YtjlliohjeiclaaaGreatDoorTie
namespace Go.Proofs.YtjlliohjeiclaaaGreatDoor
open Go.RowKit St Pm
attribute [local go_sem] Oper.semAt_some
theorem ins_keysT {k v q : ByteArray} : ∀ {l : List (ByteArray × ByteArray)}, (∃ p ∈ ins k v l, p.1 = q) ↔ q = k ∨ ∃ p ∈ l, p.1 = q
 | [] => by simp [ins, eq_comm]
 | (k0, v0) :: l => by
  have ih := ins_keysT (k := k) (v := v) (q := q) (l := l)
  unfold ins
  by_cases h1 : klt k k0 = true
  · rw [if_pos h1]
    simp only [List.mem_cons, exists_eq_or_imp]
    exact ⟨fun h => h.elim (fun e => .inl e.symm) .inr, fun h => h.elim (fun e => .inl e.symm) .inr⟩
  · rw [if_neg h1]
    by_cases h2 : klt k0 k = true
    · rw [if_pos h2]
      simp only [List.mem_cons, exists_eq_or_imp]
      rw [ih]
      exact ⟨fun h => h.elim (fun e => .inr (.inl e)) (fun h => h.elim .inl (fun h => .inr (.inr h))), fun h => h.elim (fun e => .inr (.inl e)) (fun h => h.elim .inl (fun h => .inr (.inr h)))⟩
    · rw [if_neg h2]
      have e : k = k0 := klt_tri (by simpa using h1) (by simpa using h2)
      subst e
      simp only [List.mem_cons, exists_eq_or_imp]
      exact ⟨fun h => h.elim (fun e => .inl e.symm) (fun h => .inr (.inr h)), fun h => h.elim (fun e => .inl e.symm) (fun h => h)⟩
def putT (l : List (ByteArray × ByteArray)) : List (ByteArray × ByteArray) := l.foldl (fun m p => ins p.1 p.2 m) []
theorem putT_snoc (l : List (ByteArray × ByteArray)) (p : ByteArray × ByteArray) : putT (l ++ [p]) = ins p.1 p.2 (putT l) := by unfold putT; rw [List.foldl_append]; rfl
theorem putT_srt (l : List (ByteArray × ByteArray)) : Srt (putT l) := by
 have : ∀ (l m : List (ByteArray × ByteArray)), Srt m → Srt (l.foldl (fun m p => ins p.1 p.2 m) m) := by
  intro l
  induction l with
  | nil => intro m h; exact h
  | cons p l ih => intro m h; exact ih _ (ins_srt h)
 exact this l [] List.Pairwise.nil
theorem putT_keys (l : List (ByteArray × ByteArray)) (q : ByteArray) : (∃ p ∈ putT l, p.1 = q) ↔ ∃ p ∈ l, p.1 = q := by
 have : ∀ (l m : List (ByteArray × ByteArray)), (∃ p ∈ l.foldl (fun m p => ins p.1 p.2 m) m, p.1 = q) ↔ (∃ p ∈ l, p.1 = q) ∨ ∃ p ∈ m, p.1 = q := by
  intro l
  induction l with
  | nil => intro m; simp
  | cons p l ih =>
   intro m
   rw [List.foldl_cons, ih, ins_keysT]
   simp only [List.mem_cons, exists_eq_or_imp]
   constructor
   · rintro (h | h | h)
     · exact .inl (.inr h)
     · exact .inl (.inl h.symm)
     · exact .inr h
   · rintro ((h | h) | h)
     · exact .inr (.inl h.symm)
     · exact .inl h
     · exact .inr (.inr h)
 have h := this l []
 unfold putT
 rw [h]
 simp
theorem putT_len (l : List (ByteArray × ByteArray)) : (putT l).length ≤ l.length := by
 have : ∀ (l m : List (ByteArray × ByteArray)), (l.foldl (fun m p => ins p.1 p.2 m) m).length ≤ m.length + l.length := by
  intro l
  induction l with
  | nil => intro m; simp
  | cons p l ih =>
   intro m
   have h1 := ih (ins p.1 p.2 m)
   have h2 := ins_length (k := p.1) (v := p.2) m
   rw [List.foldl_cons, List.length_cons]
   omega
 have h := this l []
 unfold putT
 simpa using h
theorem maps_tag {l : List (ByteArray × ByteArray)} {tr : Tr ByteArray} (hs : Srt (items tr)) (hk : ∀ q, (∃ p ∈ items tr, p.1 = q) ↔ ∃ p ∈ l, p.1 = q) :
 (l.all fun p => goodT (p.1, valOr (seek p.1 tr))) = (items tr).all goodT := by
 have hv : ∀ p ∈ items tr, valOr (seek p.1 tr) = p.2 := fun p hp => by
  obtain ⟨b, l', r, e⟩ := seek_val (k := p.1) (v := p.2) hs hp
  rw [e]; rfl
 rw [Bool.eq_iff_iff, List.all_eq_true, List.all_eq_true]
 constructor
 · intro h p hp
   obtain ⟨q, hq, e⟩ := (hk p.1).1 ⟨p, hp, rfl⟩
   have h1 := h q hq
   rw [e, hv p hp] at h1
   exact h1
 · intro h q hq
   obtain ⟨p, hp, e⟩ := (hk q.1).2 ⟨q, hq, rfl⟩
   rw [← e, hv p hp]
   exact h p hp
def pvT (l : List (ByteArray × ByteArray)) : List Value := l.flatMap fun p => [.string p.1, .string p.2]
theorem pvT_get {w : World} {a : Option Addr} : ∀ {l : List (ByteArray × ByteArray)}, CellsAt w a (pvT l) → ∀ (k : Nat) (hk : k < l.length), ∃ b off, a = some ⟨b, off, none⟩ ∧ w.cell? ⟨b, off + k * 2, none⟩ = some (.string l[k].1) ∧ w.cell? ⟨b, off + k * 2 + 1, none⟩ = some (.string l[k].2) := by
 intro l h k hk
 have hg : ∀ (l : List (ByteArray × ByteArray)) (k : Nat) (hk : k < l.length), (pvT l)[k * 2]? = some (.string l[k].1) ∧ (pvT l)[k * 2 + 1]? = some (.string l[k].2) := by
  intro l
  induction l with
  | nil => intro k hk; simp at hk
  | cons p l ih =>
   intro k hk
   cases k with
   | zero => exact ⟨rfl, rfl⟩
   | succ k =>
    have h1 := ih k (by simpa using hk)
    have e1 : (k + 1) * 2 = k * 2 + 1 + 1 := by omega
    rw [e1]
    exact h1
 obtain ⟨g1, g2⟩ := hg l k hk
 obtain ⟨b, off, rfl, c1⟩ := h.get _ _ g1
 obtain ⟨b', off', e, c2⟩ := h.get _ _ g2
 cases e
 exact ⟨b, off, rfl, c1, by rw [Nat.add_assoc]; exact c2⟩
theorem ts_Elements_bad (tr : Tr ByteArray) (w : World) (h : AtS w tr) (hz : sz tr ≤ 100000) (hk : ∀ p ∈ items tr, p.1.size ≤ 70368744177663) (hb : (items tr).all goodT = false) :
 Calls Tryz.prog 20 #[.agg #[.pointer (pa tr)]] w fun e w' => e = .returned (.tuple #[.slice none 0 0, .int .i64 2]) ∧ Below w.heap.size w w' := by
 have b1 := below_new w (.cells #[.pointer (pa tr)] 27)
 have C := Lib.hid (ts_ownB tr _ (h.below b1 rfl) hz hk)
 have B1 := Lib.hid b1
 rw [hb] at C
 clear h hk b1 hb
 go_enter Tryz.func20, Tryz.ntmps20
 go_wp2_with fail
 refine C.out.mono ?_
 rintro e w2 ⟨v, rfl, hb, _, h2⟩
 obtain rfl := h2 (by first | rfl | trivial)
 have HB := Lib.hid (B1.out.trans (hb.mono B1.out.size))
 clear h2 hb
 go_wp2_with fail
 go_ret2
 exact ⟨rfl, HB.out⟩
set_option maxRecDepth 100000 in
set_option maxHeartbeats 4000000 in
theorem ts_Three_bad (t1 t2 t3 : Tr ByteArray) (w : World) (h1 : AtS w t1) (h2 : AtS w t2) (h3 : AtS w t3) (hz1 : sz t1 ≤ 100000) (hz2 : sz t2 ≤ 100000) (hz3 : sz t3 ≤ 100000) (hk1 : ∀ p ∈ items t1, p.1.size ≤ 70368744177663) (hk2 : ∀ p ∈ items t2, p.1.size ≤ 70368744177663) (hk3 : ∀ p ∈ items t3, p.1.size ≤ 70368744177663)
 (hb : ((items t1).all goodT && (items t2).all goodT && (items t3).all goodT) = false) :
 Calls Tryz.prog 25 #[.agg #[.pointer (pa t1)], .agg #[.pointer (pa t2)], .agg #[.pointer (pa t3)]] w fun e w' => e = .returned (.tuple #[.agg #[.pointer none], .int .i64 2]) ∧ Below w.heap.size w w' := by
 have T1 := Lib.hid h1
 have T2 := Lib.hid h2
 have T3 := Lib.hid h3
 have K1 := Lib.hid hk1
 have K2 := Lib.hid hk2
 have K3 := Lib.hid hk3
 obtain ⟨g1, hg1⟩ : ∃ g, (items t1).all goodT = g := ⟨_, rfl⟩
 obtain ⟨g2, hg2⟩ : ∃ g, (items t2).all goodT = g := ⟨_, rfl⟩
 obtain ⟨g3, hg3⟩ : ∃ g, (items t3).all goodT = g := ⟨_, rfl⟩
 have G1 := Lib.hid hg1
 have G2 := Lib.hid hg2
 have G3 := Lib.hid hg3
 rw [hg1, hg2, hg3] at hb
 have HBD := Lib.hid hb
 clear h1 h2 h3 hk1 hk2 hk3 hg1 hg2 hg3 hb
 have HC : Hid (Chain [w] w) := Lib.hid (Chain.one w)
 go_enter Tryz.func25, Tryz.ntmps25
 go_upto_region 1 with (fail)
 obtain ⟨y, hy⟩ : ∃ c, w.heap.size = c := ⟨_, rfl⟩
 try rw [hy]
 obtain ⟨w1, hw1⟩ : ∃ X, allocs w [.cells #[.pointer (pa t1)] 27, .cells #[.pointer (pa t2)] 27, .cells #[.pointer (pa t3)] 27, .cells #[.pointer none] 27] = X := ⟨_, rfl⟩
 rw [show (((w.alloc (.cells #[.pointer (pa t1)] 27)).alloc (.cells #[.pointer (pa t2)] 27)).alloc (.cells #[.pointer (pa t3)] 27)).alloc (.cells #[.pointer none] 27) = w1 from hw1]
 have hb : Below w.heap.size w w1 := by rw [← hw1]; exact allocs_below _ _
 have HX : Hid (w1.heap[y]? = some (.cells #[.pointer (pa t1)] 27 (0, 0))) := Lib.hid (by have := allocs_get [.cells #[.pointer (pa t1)] 27, .cells #[.pointer (pa t2)] 27, .cells #[.pointer (pa t3)] 27, .cells #[.pointer none] 27] w 0 _ rfl; rw [hw1, hy] at this; exact this)
 have HY : Hid (w1.heap[y + 1]? = some (.cells #[.pointer (pa t2)] 27 (0, 0))) := Lib.hid (by have := allocs_get [.cells #[.pointer (pa t1)] 27, .cells #[.pointer (pa t2)] 27, .cells #[.pointer (pa t3)] 27, .cells #[.pointer none] 27] w 1 _ rfl; rw [hw1, hy] at this; exact this)
 have HZ : Hid (w1.heap[y + 1 + 1]? = some (.cells #[.pointer (pa t3)] 27 (0, 0))) := Lib.hid (by have := allocs_get [.cells #[.pointer (pa t1)] 27, .cells #[.pointer (pa t2)] 27, .cells #[.pointer (pa t3)] 27, .cells #[.pointer none] 27] w 2 _ rfl; rw [hw1, hy] at this; exact this)
 have HR : Hid (w1.heap[y + 1 + 1 + 1]? = some (.cells #[.pointer none] 27 (0, 0))) := Lib.hid (by have := allocs_get [.cells #[.pointer (pa t1)] 27, .cells #[.pointer (pa t2)] 27, .cells #[.pointer (pa t3)] 27, .cells #[.pointer none] 27] w 3 _ rfl; rw [hw1, hy] at this; exact this)
 have Sy : Hid (w.heap.size = y) := Lib.hid hy
 replace HC := Lib.hid (HC.out.push hb)
 clear hb hw1 hy
 have kX0 := cell_of_one HX.out
 have kY0 := cell_of_one HY.out
 have kZ0 := cell_of_one HZ.out
 go_wp2_with fail
 refine (ts_May t1 _ (T1.out.below (HC.out.to w (by simp)) rfl) hz1 K1.out).mono ?_
 rintro e w2 ⟨rfl, hb⟩
 clear kX0 kY0 kZ0
 replace HC := Lib.hid (HC.out.push hb)
 clear hb
 rw [G1.out]
 cases g1
 case false =>
  have RF := Lib.hid (boxStays HR.out (HC.out.to w1 (by simp)))
  have BF := Lib.hid (HC.out.to w (by simp))
  have c1 := cell_of_one RF.out
  have d1 := frozen_of_row _ (y + 1 + 1 + 1) 0 _ _ RF.out
  go_wp2_with fail
  have k1 := cell_of_one (heap_setCell_same w2 (y + 1 + 1 + 1) 0 _ _ (.pointer none) RF.out)
  refine bodyPost_ret (v := .tuple #[.agg #[.pointer none], .int .i64 2]) (by simp [results, Tryz.results25, go_sem, k1]) rfl ?_
  exact ⟨rfl, BF.out.setCell (p := ⟨y + 1 + 1 + 1, 0, none⟩) (by have := Sy.out; simp; omega) _⟩
 case true =>
 have kY0 := cell_of_one (boxStays HY.out (HC.out.to w1 (by simp)))
 have kZ0 := cell_of_one (boxStays HZ.out (HC.out.to w1 (by simp)))
 go_wp2_with fail
 refine (ts_May t2 _ (T2.out.below (HC.out.to w (by simp)) rfl) hz2 K2.out).mono ?_
 rintro e w3 ⟨rfl, hb⟩
 clear kY0 kZ0
 replace HC := Lib.hid (HC.out.push hb)
 clear hb
 rw [G2.out]
 cases g2
 case false =>
  have RF := Lib.hid (boxStays HR.out (HC.out.to w1 (by simp)))
  have BF := Lib.hid (HC.out.to w (by simp))
  have c1 := cell_of_one RF.out
  have d1 := frozen_of_row _ (y + 1 + 1 + 1) 0 _ _ RF.out
  go_wp2_with fail
  have k1 := cell_of_one (heap_setCell_same w3 (y + 1 + 1 + 1) 0 _ _ (.pointer none) RF.out)
  refine bodyPost_ret (v := .tuple #[.agg #[.pointer none], .int .i64 2]) (by simp [results, Tryz.results25, go_sem, k1]) rfl ?_
  exact ⟨rfl, BF.out.setCell (p := ⟨y + 1 + 1 + 1, 0, none⟩) (by have := Sy.out; simp; omega) _⟩
 case true =>
 have kZ0 := cell_of_one (boxStays HZ.out (HC.out.to w1 (by simp)))
 go_wp2_with fail
 refine (ts_May t3 _ (T3.out.below (HC.out.to w (by simp)) rfl) hz3 K3.out).mono ?_
 rintro e w4 ⟨rfl, hb⟩
 clear kZ0
 replace HC := Lib.hid (HC.out.push hb)
 clear hb
 rw [G3.out]
 cases g3
 case false =>
  have RF := Lib.hid (boxStays HR.out (HC.out.to w1 (by simp)))
  have BF := Lib.hid (HC.out.to w (by simp))
  have c1 := cell_of_one RF.out
  have d1 := frozen_of_row _ (y + 1 + 1 + 1) 0 _ _ RF.out
  go_wp2_with fail
  have k1 := cell_of_one (heap_setCell_same w4 (y + 1 + 1 + 1) 0 _ _ (.pointer none) RF.out)
  refine bodyPost_ret (v := .tuple #[.agg #[.pointer none], .int .i64 2]) (by simp [results, Tryz.results25, go_sem, k1]) rfl ?_
  exact ⟨rfl, BF.out.setCell (p := ⟨y + 1 + 1 + 1, 0, none⟩) (by have := Sy.out; simp; omega) _⟩
 case true =>
  have := HBD.out
  simp at this
theorem ts_Insert_bad (tr : Tr ByteArray) (s : Sv) (x : ByteArray) (w : World) (h : AtS w tr) (hz : sz tr ≤ 100000) (hk : ∀ p ∈ items tr, p.1.size ≤ 70368744177663) (hl : s.l.size ≤ 9223372036854775807) (hG : Glob w) (hb : (items tr).all goodT = false) :
 Calls Tryz.prog 21 #[.agg #[.pointer (pa tr)], .agg #[.int .i64 s.g, .int .i64 s.r, .string s.l, .int .i64 s.n, .int .i64 s.i], .string x] w fun e w' => e = .returned (.tuple #[.agg #[.pointer none], .int .i64 2]) ∧ Below w.heap.size w w' := by
 refine (ts_Insert tr s x w h hz hk hl hG).mono ?_
 intro e w' h
 unfold InsOut at h
 rw [if_neg (by rintro ⟨_, h⟩; rw [hb] at h; cases h)] at h
 exact h
theorem ts_Remove_bad (tr : Tr ByteArray) (x : ByteArray) (w : World) (h : AtS w tr) (hB : Bal tr) (hSr : Srt (items tr)) (hz : sz tr ≤ 100000) (hk : ∀ p ∈ items tr, p.1.size ≤ 70368744177663) (hG : Glob w) (hb : (items tr).all goodT = false) :
 Calls Tryz.prog 23 #[.agg #[.pointer (pa tr)], .string x] w fun e w' => e = .returned (.tuple #[.agg #[.pointer none], .int .i64 0, .int .i64 2]) ∧ Below w.heap.size w w' := by
 refine (ts_Remove tr x w h hB hSr hz hk hG).mono ?_
 intro e w' h
 unfold RemOut at h
 rw [if_neg (by rintro ⟨_, h⟩; rw [hb] at h; cases h)] at h
 exact h
theorem ts_Texts_bad (tr : Tr ByteArray) (w : World) (h : AtS w tr) (hz : sz tr ≤ 100000) (hk : ∀ p ∈ items tr, p.1.size ≤ 70368744177663) (hb : (items tr).all goodT = false) :
 Calls Tryz.prog 24 #[.agg #[.pointer (pa tr)]] w fun e w' => e = .returned (.tuple #[.slice none 0 0, .int .i64 2]) ∧ Below w.heap.size w w' := by
 refine (ts_Texts tr w h hz hk).mono ?_
 rintro e w' ⟨v, c, rfl, h1, _, h2⟩
 obtain ⟨rfl, rfl⟩ := h2 hb
 exact ⟨rfl, h1⟩
theorem ts_Tags_bad (tr : Tr ByteArray) (x : ByteArray) (w : World) (h : AtS w tr) (hSr : Srt (items tr)) (hz : sz tr ≤ 100000) (hk : ∀ p ∈ items tr, p.1.size ≤ 70368744177663) (hx : x.size ≤ 4294967280) (hG : Glob w) (hb : (items tr).all goodT = false) :
 Calls Tryz.prog 28 #[.agg #[.pointer (pa tr)], .string x] w fun e w' => e = .returned (.slice none 0 0) ∧ Below w.heap.size w w' := by
 refine (ts_Tags tr x w h hSr hz hk hx hG).mono ?_
 rintro e w' ⟨v, rfl, h1, _, h2⟩
 exact ⟨by rw [h2 hb], h1⟩
theorem ts_Has_bad (tr : Tr ByteArray) (x : ByteArray) (w : World) (h : AtS w tr) (hSr : Srt (items tr)) (hz : sz tr ≤ 100000) (hk : ∀ p ∈ items tr, p.1.size ≤ 70368744177663) (hx : x.size ≤ 4294967280) (hG : Glob w) (hb : (items tr).all goodT = false) :
 Calls Tryz.prog 27 #[.agg #[.pointer (pa tr)], .string x] w fun e w' => e = .returned (.bool false) ∧ Below w.heap.size w w' := by
 refine (ts_Has tr x w h hSr hz hk hx hG).mono ?_
 rintro e w' ⟨rfl, h1⟩
 exact ⟨by rw [hb]; rfl, h1⟩
end Go.Proofs.YtjlliohjeiclaaaGreatDoor
namespace Go.Proofs.YtjlliohjeiclaaaGreatDoor
open Go.RowKit St Pm
attribute [local go_sem] Oper.semAt_some
theorem elO_good (k : ByteArray) : ∃ (e : Ev) (b : Bool), elO (ofR k) = .tuple #[.agg #[.int .i64 e.1.g, .int .i64 e.1.r, .string e.1.l, .int .i64 e.1.n, .int .i64 e.1.i, .string e.2], .bool b] ∧ ∀ v, goodT (k, v) = (b && decide (e.2 = v)) := by
 rw [ofR_eq]
 cases h : ofT k with
 | none => exact ⟨(⟨0, 0, ⟨#[]⟩, 0, 0⟩, ⟨#[]⟩), false, rfl, fun v => by rw [goodT_none h]; rfl⟩
 | some e => exact ⟨e, true, rfl, fun v => by rw [(goodT_some h).1]; rfl⟩
theorem all_nilT (W : World) (f : Nat) (env : Array Value) : (binOp .eql 68 (.func (.func f) #[] env) .nilFunc).run Tryz.prog W = .ok (.bool false) W := by
 have hp := Tryz.underlying68
 have h : ∀ d : Nat, (Op.equalIn (d + 1) 68 (.func (.func f) #[] env) .nilFunc).run Tryz.prog W = .ok false W := fun d => by simp [Op.equalIn, run_underlying hp]
 simp only [binOp]
 simp [Op.equal, Op.maxDepth, h 9999]
set_option maxRecDepth 100000 in
set_option maxHeartbeats 8000000 in
theorem law_TMaps (l : List (ByteArray × ByteArray)) (a : Option Addr) (n c : Nat) (x : ByteArray) (w : World) (hl : CellsAt w a (pvT l)) (hn : n = l.length) (hb : n ≤ 9223372036854775807) (hs : ∀ p ∈ l, p.1.size ≤ 35184372088830) (hx : x.size ≤ 4294967280) (hG : Glob w) :
 Calls Tryz.prog 4 #[.slice a n c, .string x] w fun e w' => e = .returned (.bool true) ∧ Below w.heap.size w w' := by
 have HL := Lib.hid hl
 have HN := Lib.hid hn
 have HS := Lib.hid hs
 have HG := Lib.hid hG
 have OUT : Hid (∀ w', Below w.heap.size w w' → (fun e w' => e = Ending.returned (Value.bool true) ∧ Below w.heap.size w w') (Ending.returned (Value.bool true)) w') := Lib.hid (fun w' h => ⟨rfl, h⟩)
 clear hl hn hs hG
 refine (callsIn_wide (n := 6)).1 ?_
 refine callsIn_of_wp_marks Tryz.func4 rfl trivial ?_ rfl
 simp only [Tryz.ntmps4, List.size_toArray, List.length_cons, List.length_nil, Nat.reduceAdd, Nat.reduceSub, Array.replicate_succ, Array.replicate_zero, List.push_toArray, List.append_toArray, List.nil_append, List.cons_append]
 refine wpIn_wide.2 ?_
 have HC : Hid (Chain [w] w) := Lib.hid (Chain.one w)
 go_upto_region 1 with (fail)
 obtain ⟨y, hy⟩ : ∃ c, w.heap.size = c := ⟨_, rfl⟩
 try rw [hy]
 obtain ⟨w1, hw1⟩ : ∃ X, allocs w [.cells #[.bool false] 4] = X := ⟨_, rfl⟩
 rw [show w.alloc (.cells #[.bool false] 4) = w1 from hw1]
 have hb : Below w.heap.size w w1 := by rw [← hw1]; exact allocs_below _ _
 have HB : Hid (w1.heap[y]? = some (.cells #[.bool false] 4 (0, 0))) := Lib.hid (by have := allocs_get [.cells #[.bool false] 4] w 0 _ rfl; rw [hw1, hy] at this; exact this)
 have Sy : Hid (w.heap.size = y) := Lib.hid hy
 replace HC := Lib.hid (HC.out.push hb)
 clear hb hw1 hy
 by_cases q1 : 60 < n
 ·
  have q1i : (60 : Int) < (n : Int) := by omega
  go_wp2_with fail
  refine (known_11 _ (HG.out.below (HC.out.to w (by simp)))).mono ?_
  rintro e w2 ⟨rfl, hb⟩
  replace HC := Lib.hid (HC.out.push hb)
  clear hb
  have RF := Lib.hid (boxStays HB.out (HC.out.to w1 (by simp)))
  have BF := Lib.hid (HC.out.to w (by simp))
  have c1 := cell_of_one RF.out
  have d1 := frozen_of_row _ y 0 _ _ RF.out
  go_wp2_with fail
  have RS := Lib.hid (heap_setCell_same w2 y 0 _ _ (.bool true) RF.out)
  have BS : Hid (Below w.heap.size w (w2.setCell ⟨y, 0, none⟩ (.bool true))) := Lib.hid (BF.out.setCell (p := ⟨y, 0, none⟩) (by have := Sy.out; simp; omega) _)
  try rw [Exit.noGoto_ret]
  try show LeavesInM _ _ _ _ _ _ (marks []) _ _
  refine leaves_marks [] _ (by simp) (fun p hp => by cases hp) ?_
  intro W' e1 e2 e3 e4 e5
  have k1 := cell_of_one ((e5 y (by simp)).trans RS.out)
  have bW : Below w.heap.size w W' := ⟨e1.trans BS.out.os, e2.trans BS.out.tape, e3.trans BS.out.output, by rw [e4]; exact BS.out.size, fun k hk => (e5 k (by simp)).trans (BS.out.block k hk)⟩
  exact ⟨.bool true, by simp [results, Tryz.results4, go_sem, k1], rfl, bW⟩
 have q1i : ¬ (60 : Int) < (n : Int) := by omega
 have W1Z : Hid (w.heap.size ≤ w1.heap.size) := Lib.hid (HC.out.to w (by simp)).size
 go_upto_region 4 with (fail)
 obtain ⟨z, hz⟩ : ∃ c, w1.heap.size = c := ⟨_, rfl⟩
 try rw [hz]
 obtain ⟨w2, hw2⟩ : ∃ X, allocs w1 [.cells #[.pointer none] 27] = X := ⟨_, rfl⟩
 rw [show w1.alloc (.cells #[.pointer none] 27) = w2 from hw2]
 have hb : Below w1.heap.size w1 w2 := by rw [← hw2]; exact allocs_below _ _
 have HM : Hid (w2.heap[z]? = some (.cells #[.pointer none] 27 (0, 0))) := Lib.hid (by have := allocs_get [.cells #[.pointer none] 27] w1 0 _ rfl; rw [hw2, hz] at this; exact this)
 have Sz : Hid (w1.heap.size = z) := Lib.hid hz
 replace HC := Lib.hid (HC.out.push hb)
 clear hb hw2 hz
 have hyz : y < z := by rw [← Sz.out]; exact (Array.getElem?_eq_some_iff.1 HB.out).1
 have HB2 := Lib.hid (boxStays HB.out (HC.out.to w1 (by simp)))
 have HWW := Lib.hid (HC.out.to w (by simp))
 have hwz : w.heap.size ≤ z := by have := W1Z.out; have := Sz.out; omega
 go_wp2_with fail
 go_loopw [7] (fun i wr => ∃ (k : Nat) (tr : Tr ByteArray), k ≤ n ∧ i = .int .i64 (k : Int) ∧ Hid (items tr = putT (l.take k)) ∧ Hid (Bal tr) ∧ Hid (AtS wr tr) ∧ Hid (wr.heap[z]? = some (.cells #[.pointer (pa tr)] 27 (0, 0))) ∧ Hid (Below z w2 wr)) (fun i _ => n - (intOf i).toNat)
 case atStart => exact ⟨0, .nil, Nat.zero_le _, rfl, Lib.hid rfl, Lib.hid trivial, Lib.hid trivial, HM, Lib.hid (Below.refl _ _)⟩
 case round =>
  obtain ⟨k, tr, hk, rfl, HI, HBal, HAt, HX, HBW⟩ := hrel
  have HB9 : Hid (wr.heap[y]? = some (.cells #[.bool false] 4 (0, 0))) := Lib.hid ((HBW.out.block y hyz).trans HB2.out)
  have HW9 : Hid (Below w.heap.size w wr) := Lib.hid (HWW.out.trans (HBW.out.mono hwz))
  by_cases hlt : k < n
  · have hk1 : k < l.length := by have := HN.out; omega
    obtain ⟨ba, oa, rfl, p0, p1⟩ := pvT_get (HL.out.below HW9.out rfl) k hk1
    have GP : Hid (putT (l.take (k + 1)) = ins l[k].1 l[k].2 (putT (l.take k))) := Lib.hid (by rw [List.take_succ_eq_append_getElem hk1, putT_snoc])
    have HZ : Hid (sz tr ≤ 60) := Lib.hid (by rw [← sz_items, HI.out]; have := putT_len (l.take k); have := List.length_take_le k l; omega)
    have HSR : Hid (Srt (items tr)) := Lib.hid (by rw [HI.out]; exact putT_srt _)
    generalize l[k] = p at *
    obtain ⟨pk, pv⟩ := p
    have P0 := Lib.hid p0
    have P1 := Lib.hid p1
    have hki : (k : Int) < (n : Int) := by omega
    have hzw : Hid (z < wr.heap.size) := Lib.hid (Array.getElem?_eq_some_iff.1 HX.out).1
    clear p0 p1
    go_upto_region 8 with (fail)
    refine relG_start (slots := [38, 39, 40, 41, 42, 43, 44, 45, 46, 47, 48, 49]) (so := []) (by kernel_rfl) (by kernel_rfl) (by rfl) ?_
    refine relG_pure (i := 0) (o := ⟨some 38, _, _, _, _, _⟩) (v := ?v1) [] [5] rfl rfl (by kernel_rfl) (by kernel_rfl) (fun t w1 hB hf hbf => ?y1) ?n1
    case y1 =>
     simp only [BasF] at hbf
     clear hf
     obtain ⟨⟨b5, k5⟩, _⟩ := hbf
     have k0 := cell_of_one (boxStays HX.out hB)
     have q0 := (hB.cell (p := ⟨ba, oa + k * 2, none⟩) (block_lt_of_cell P0.out)).trans P0.out
     have q1 := (hB.cell (p := ⟨ba, oa + k * 2 + 1, none⟩) (block_lt_of_cell P1.out)).trans P1.out
     refine Or.inl ⟨wanted_none rfl, ?_⟩
     rintro _ rfl
     go_simp <;> with_reducible rfl
    refine relG_pure (i := 1) (o := ⟨some 39, _, _, _, _, _⟩) (v := ?v2) [] [0] rfl rfl (by kernel_rfl) (by kernel_rfl) (fun t w1 hB hf hbf => ?y2) ?n2
    case y2 =>
     simp only [BasF] at hbf
     clear hf
     obtain ⟨⟨b0, k0⟩, _⟩ := hbf
     have k0 := cell_of_one (boxStays HX.out hB)
     have q0 := (hB.cell (p := ⟨ba, oa + k * 2, none⟩) (block_lt_of_cell P0.out)).trans P0.out
     have q1 := (hB.cell (p := ⟨ba, oa + k * 2 + 1, none⟩) (block_lt_of_cell P1.out)).trans P1.out
     refine Or.inl ⟨wanted_none rfl, ?_⟩
     rintro _ rfl
     go_simp <;> with_reducible rfl
    refine relG_pure (i := 2) (o := ⟨some 40, _, _, _, _, _⟩) (v := ?v3) [] [7] rfl rfl (by kernel_rfl) (by kernel_rfl) (fun t w1 hB hf hbf => ?y3) ?n3
    case y3 =>
     simp only [BasF] at hbf
     clear hf
     obtain ⟨⟨b7, k7⟩, _⟩ := hbf
     have k0 := cell_of_one (boxStays HX.out hB)
     have q0 := (hB.cell (p := ⟨ba, oa + k * 2, none⟩) (block_lt_of_cell P0.out)).trans P0.out
     have q1 := (hB.cell (p := ⟨ba, oa + k * 2 + 1, none⟩) (block_lt_of_cell P1.out)).trans P1.out
     refine Or.inl ⟨wanted_none rfl, ?_⟩
     rintro _ rfl
     go_simp <;> with_reducible rfl
    refine relG_pure (i := 3) (o := ⟨some 41, _, _, _, _, _⟩) (v := ?v4) [(1, 39, 1), (2, 40, 0)] [] rfl rfl (by kernel_rfl) (by kernel_rfl) (fun t w1 hB hf hbf => ?y4) ?n4
    case y4 =>
     simp only [DepF, List.getD_cons_zero, List.getD_cons_succ] at hf
     obtain ⟨⟨_, ⟨e39, i39⟩, rfl⟩, ⟨_, ⟨e40, i40⟩, rfl⟩, _⟩ := hf
     clear hbf
     have k0 := cell_of_one (boxStays HX.out hB)
     have q0 := (hB.cell (p := ⟨ba, oa + k * 2, none⟩) (block_lt_of_cell P0.out)).trans P0.out
     have q1 := (hB.cell (p := ⟨ba, oa + k * 2 + 1, none⟩) (block_lt_of_cell P1.out)).trans P1.out
     refine Or.inl ⟨wanted_none rfl, ?_⟩
     rintro _ rfl
     go_simp <;> with_reducible rfl
    refine relG_pure (i := 4) (o := ⟨some 42, _, _, _, _, _⟩) (v := ?v5) [(3, 41, 0)] [] rfl rfl (by kernel_rfl) (by kernel_rfl) (fun t w1 hB hf hbf => ?y5) ?n5
    case y5 =>
     simp only [DepF, List.getD_cons_zero] at hf
     obtain ⟨⟨_, ⟨e41, i41⟩, rfl⟩, _⟩ := hf
     clear hbf
     have k0 := cell_of_one (boxStays HX.out hB)
     have q0 := (hB.cell (p := ⟨ba, oa + k * 2, none⟩) (block_lt_of_cell P0.out)).trans P0.out
     have q1 := (hB.cell (p := ⟨ba, oa + k * 2 + 1, none⟩) (block_lt_of_cell P1.out)).trans P1.out
     refine Or.inl ⟨wanted_none rfl, ?_⟩
     rintro _ rfl
     go_simp <;> with_reducible rfl
    refine relG_pure (i := 5) (o := ⟨some 43, _, _, _, _, _⟩) (v := ?v6) [(4, 42, 0)] [] rfl rfl (by kernel_rfl) (by kernel_rfl) (fun t w1 hB hf hbf => ?y6) ?n6
    case y6 =>
     simp only [DepF, List.getD_cons_zero] at hf
     obtain ⟨⟨_, ⟨e42, i42⟩, rfl⟩, _⟩ := hf
     clear hbf
     have k0 := cell_of_one (boxStays HX.out hB)
     have q0 := (hB.cell (p := ⟨ba, oa + k * 2, none⟩) (block_lt_of_cell P0.out)).trans P0.out
     have q1 := (hB.cell (p := ⟨ba, oa + k * 2 + 1, none⟩) (block_lt_of_cell P1.out)).trans P1.out
     refine Or.inl ⟨wanted_none rfl, ?_⟩
     rintro _ rfl
     go_simp <;> with_reducible rfl
    refine relG_pure (i := 6) (o := ⟨some 44, _, _, _, _, _⟩) (v := ?v7) [] [0] rfl rfl (by kernel_rfl) (by kernel_rfl) (fun t w1 hB hf hbf => ?y7) ?n7
    case y7 =>
     simp only [BasF] at hbf
     clear hf
     obtain ⟨⟨b0, k0⟩, _⟩ := hbf
     have k0 := cell_of_one (boxStays HX.out hB)
     have q0 := (hB.cell (p := ⟨ba, oa + k * 2, none⟩) (block_lt_of_cell P0.out)).trans P0.out
     have q1 := (hB.cell (p := ⟨ba, oa + k * 2 + 1, none⟩) (block_lt_of_cell P1.out)).trans P1.out
     refine Or.inl ⟨wanted_none rfl, ?_⟩
     rintro _ rfl
     go_simp <;> with_reducible rfl
    refine relG_pure (i := 7) (o := ⟨some 45, _, _, _, _, _⟩) (v := ?v8) [] [7] rfl rfl (by kernel_rfl) (by kernel_rfl) (fun t w1 hB hf hbf => ?y8) ?n8
    case y8 =>
     simp only [BasF] at hbf
     clear hf
     obtain ⟨⟨b7, k7⟩, _⟩ := hbf
     have k0 := cell_of_one (boxStays HX.out hB)
     have q0 := (hB.cell (p := ⟨ba, oa + k * 2, none⟩) (block_lt_of_cell P0.out)).trans P0.out
     have q1 := (hB.cell (p := ⟨ba, oa + k * 2 + 1, none⟩) (block_lt_of_cell P1.out)).trans P1.out
     refine Or.inl ⟨wanted_none rfl, ?_⟩
     rintro _ rfl
     go_simp <;> with_reducible rfl
    refine relG_pure (i := 8) (o := ⟨some 46, _, _, _, _, _⟩) (v := ?v9) [(6, 44, 1), (7, 45, 0)] [] rfl rfl (by kernel_rfl) (by kernel_rfl) (fun t w1 hB hf hbf => ?y9) ?n9
    case y9 =>
     simp only [DepF, List.getD_cons_zero, List.getD_cons_succ] at hf
     obtain ⟨⟨_, ⟨e44, i44⟩, rfl⟩, ⟨_, ⟨e45, i45⟩, rfl⟩, _⟩ := hf
     clear hbf
     have k0 := cell_of_one (boxStays HX.out hB)
     have q0 := (hB.cell (p := ⟨ba, oa + k * 2, none⟩) (block_lt_of_cell P0.out)).trans P0.out
     have q1 := (hB.cell (p := ⟨ba, oa + k * 2 + 1, none⟩) (block_lt_of_cell P1.out)).trans P1.out
     refine Or.inl ⟨wanted_none rfl, ?_⟩
     rintro _ rfl
     go_simp <;> with_reducible rfl
    refine relG_pure (i := 9) (o := ⟨some 47, _, _, _, _, _⟩) (v := ?v10) [(8, 46, 0)] [] rfl rfl (by kernel_rfl) (by kernel_rfl) (fun t w1 hB hf hbf => ?y10) ?n10
    case y10 =>
     simp only [DepF, List.getD_cons_zero] at hf
     obtain ⟨⟨_, ⟨e46, i46⟩, rfl⟩, _⟩ := hf
     clear hbf
     have k0 := cell_of_one (boxStays HX.out hB)
     have q0 := (hB.cell (p := ⟨ba, oa + k * 2, none⟩) (block_lt_of_cell P0.out)).trans P0.out
     have q1 := (hB.cell (p := ⟨ba, oa + k * 2 + 1, none⟩) (block_lt_of_cell P1.out)).trans P1.out
     refine Or.inl ⟨wanted_none rfl, ?_⟩
     rintro _ rfl
     go_simp <;> with_reducible rfl
    refine relG_pure (i := 10) (o := ⟨some 48, _, _, _, _, _⟩) (v := ?v11) [(9, 47, 0)] [] rfl rfl (by kernel_rfl) (by kernel_rfl) (fun t w1 hB hf hbf => ?y11) ?n11
    case y11 =>
     simp only [DepF, List.getD_cons_zero] at hf
     obtain ⟨⟨_, ⟨e47, i47⟩, rfl⟩, _⟩ := hf
     clear hbf
     have k0 := cell_of_one (boxStays HX.out hB)
     have q0 := (hB.cell (p := ⟨ba, oa + k * 2, none⟩) (block_lt_of_cell P0.out)).trans P0.out
     have q1 := (hB.cell (p := ⟨ba, oa + k * 2 + 1, none⟩) (block_lt_of_cell P1.out)).trans P1.out
     refine Or.inl ⟨wanted_none rfl, ?_⟩
     rintro _ rfl
     go_simp <;> with_reducible rfl
    refine relG_call (i := 11) (o := ⟨some 49, _, _, _, _, _⟩) ((fun v w' => ∃ tr' : Tr ByteArray, v = .agg #[.pointer (pa tr')] ∧ AtS w' tr' ∧ PutR 0 pk pv tr tr')) [(0, 38, 10), (5, 43, 5), (10, 48, 0)] [] rfl rfl (by kernel_rfl) (by kernel_rfl) ((fun v w' w'' h hb => by obtain ⟨m, e1, e2, e3⟩ := h; exact ⟨m, e1, e2.below hb rfl, e3⟩)) ?_ ?_
    · intro t w1 hB hf hbf K hK
      simp only [DepF, List.getD_cons_zero, List.getD_cons_succ] at hf
      obtain ⟨⟨_, ⟨e38, i38⟩, rfl⟩, ⟨_, ⟨e43, i43⟩, rfl⟩, ⟨_, ⟨e48, i48⟩, rfl⟩, _⟩ := hf
      clear hbf
      have k0 := cell_of_one (boxStays HX.out hB)
      have q0 := (hB.cell (p := ⟨ba, oa + k * 2, none⟩) (block_lt_of_cell P0.out)).trans P0.out
      have q1 := (hB.cell (p := ⟨ba, oa + k * 2 + 1, none⟩) (block_lt_of_cell P1.out)).trans P1.out
      refine ⟨wanted_none rfl, ?_⟩
      go_simp
      refine (pm_MPutS tr pk pv 0 w1 (Nat.zero_le _) (HAt.out.below hB rfl) (by have := HZ.out; omega)).mono ?_
      rintro e w2 ⟨tr', hP, rfl, hm, hb⟩
      exact hK.out _ w2 (⟨tr', rfl, hm, hP⟩) hb
    refine relG_tail 12 [(0, 38, 11), (1, 39, 10), (2, 40, 9), (3, 41, 8), (4, 42, 7), (5, 43, 6), (6, 44, 5), (7, 45, 4), (8, 46, 3), (9, 47, 2), (10, 48, 1), (11, 49, 0)] (by kernel_rfl) rfl (by kernel_rfl) (by kernel_rfl) (fun f wE hB hf => ?_) (by kernel_rfl)
    simp only [FinF, List.getD_cons_zero, List.getD_cons_succ] at hf
    obtain ⟨⟨_, e38, rfl⟩, ⟨_, e39, rfl⟩, ⟨_, e40, rfl⟩, ⟨_, e41, rfl⟩, ⟨_, e42, rfl⟩, ⟨_, e43, rfl⟩, ⟨_, e44, rfl⟩, ⟨_, e45, rfl⟩, ⟨_, e46, rfl⟩, ⟨_, e47, rfl⟩, ⟨_, e48, rfl⟩, ⟨_, e49, ⟨tr', rfl, hm, hP⟩⟩, _⟩ := hf
    simp only [regT, List.foldl_cons, List.foldl_nil, List.setIfInBounds_toArray, List.set_cons_zero, List.set_cons_succ, e38, e39, e40, e41, e42, e43, e44, e45, e46, e47, e48, e49]
    clear e38 e39 e40 e41 e42 e43 e44 e45 e46 e47 e48 e49
    change wpList _ _ _ [_] _ _
    have hx := boxStays HX.out hB
    have k0 := cell_of_one hx
    have f0 := frozen_of_row _ z 0 _ _ hx
    have HI2 : Hid (items tr' = putT (l.take (k + 1))) := Lib.hid (by rw [GP.out, ← HI.out]; exact hP.items HSR.out)
    have HBL2 := Lib.hid (hP.bal HBal.out).1
    have HA2 := Lib.hid (hm.setBox hx (by decide) 0 (.pointer (pa tr')))
    have HX2 := Lib.hid (Boxed.set (t := 27) (.pointer (pa tr')) hx)
    have HW2 := Lib.hid ((HBW.out.trans (hB.mono (by have := hzw.out; omega))).setCell (p := ⟨z, 0, none⟩) (Nat.le_refl _) (.pointer (pa tr')))
    clear hP hm hx hB
    go_wp2_with fail
    go_roundw
    case rel => exact ⟨k + 1, tr', by omega, by go_num, HI2, HBL2, HA2, HX2, HW2⟩
    case measure => simp [intOf]; omega
  · obtain rfl : n = k := by omega
    have HI3 : Hid (items tr = putT l) := Lib.hid (by have := HI.out; rw [HN.out, List.take_length] at this; exact this)
    have HSR : Hid (Srt (items tr)) := Lib.hid (by rw [HI3.out]; exact putT_srt _)
    have HZ : Hid (sz tr ≤ 60) := Lib.hid (by rw [← sz_items, HI3.out]; have := putT_len l; have := HN.out; omega)
    have HKS : Hid (∀ p ∈ items tr, p.1.size ≤ 70368744177663) := Lib.hid (fun p hp => by
     rw [HI3.out] at hp
     obtain ⟨q, hq, e⟩ := (putT_keys l p.1).1 ⟨p, hp, rfl⟩
     rw [← e]
     have := HS.out q hq
     omega)
    obtain ⟨g, hg⟩ : ∃ g, (items tr).all goodT = g := ⟨_, rfl⟩
    have HGD := Lib.hid hg
    have HMV : Hid ((l.all fun p => goodT (p.1, valOr (seek p.1 tr))) = g) := Lib.hid (by
     rw [← hg]
     exact maps_tag HSR.out fun q => by rw [HI3.out]; exact putT_keys l q)
    clear hg HI hlt hk HC
    obtain ⟨vA, rfl⟩ : ∃ X : World, X = wr := ⟨_, rfl⟩
    have hzA : Hid (z < vA.heap.size) := Lib.hid (Array.getElem?_eq_some_iff.1 HX.out).1
    go_wp2_with fail
    go_loopw [6, 8] (fun mv i wr => ∃ k : Nat, k ≤ n ∧ i = .int .i64 (k : Int) ∧ (∃ mb : Bool, mv = .bool mb ∧ Hid (((l.take k).all fun p => goodT (p.1, valOr (seek p.1 tr))) = mb)) ∧ Hid (Below vA.heap.size vA wr)) (fun _ i _ => n - (intOf i).toNat)
    case atStart => exact ⟨0, Nat.zero_le _, rfl, ⟨true, rfl, Lib.hid rfl⟩, Lib.hid (Below.refl _ _)⟩
    case round =>
     obtain ⟨k, hk, rfl, ⟨mb, rfl, HMB⟩, HW⟩ := hrel
     have HX3 := Lib.hid (boxStays HX.out HW.out)
     by_cases hlt : k < n
     · have hk1 : k < l.length := by have := HN.out; omega
       obtain ⟨ba, oa, rfl, p0, p1⟩ := pvT_get ((HL.out.below HW9.out rfl).below HW.out rfl) k hk1
       have HTK : Hid (((l.take (k + 1)).all fun p => goodT (p.1, valOr (seek p.1 tr))) = (mb && goodT (l[k].1, valOr (seek l[k].1 tr)))) := Lib.hid (by rw [List.take_succ_eq_append_getElem hk1, List.all_append, HMB.out]; simp)
       have HSK := Lib.hid (HS.out _ (List.getElem_mem hk1))
       generalize l[k] = p at *
       obtain ⟨pk, pv⟩ := p
       simp only at HTK HSK
       obtain ⟨gv, hgv⟩ : ∃ x, valOr (seek pk tr) = x := ⟨_, rfl⟩
       obtain ⟨gb, hgb⟩ : ∃ x, isNS (seek pk tr) = x := ⟨_, rfl⟩
       obtain ⟨e0, b0, he0, hgd0⟩ := elO_good pk
       have HE0 := Lib.hid he0
       rw [hgv, hgd0] at HTK
       have GET : Hid (∀ W, Below vA.heap.size vA W → Calls Tryz.prog 17 #[.agg #[.pointer (pa tr)], .string pk] W fun e w' => e = .returned (.tuple #[.string gv, .bool gb]) ∧ Below W.heap.size W w') := Lib.hid (fun W hW => by
        rw [← hgv, ← hgb]
        exact pm_MGetS tr pk W (HAt.out.below hW rfl))
       have P0 := Lib.hid p0
       have hki : (k : Int) < (n : Int) := by omega
       have hkn : k ≤ 60 := by omega
       have hzr : Hid (vA.heap.size ≤ wr.heap.size) := Lib.hid HW.out.size
       clear p0 p1 hgv hgb he0 hgd0
       go_upto_region 12 with (fail)
       refine relG_start (slots := [57, 58, 59, 60, 61, 62, 63, 56, 64, 65, 9, 10]) (so := []) (by kernel_rfl) (by kernel_rfl) (by rfl) ?_
       refine relG_pure (i := 0) (o := ⟨some 57, _, _, _, _, _⟩) (v := ?v12) [] [5] rfl rfl (by kernel_rfl) (by kernel_rfl) (fun t w1 hB hf hbf => ?y12) ?n12
       case y12 =>
        simp only [BasF] at hbf
        clear hf
        obtain ⟨⟨b5, k5⟩, _⟩ := hbf
        have m0 := cell_of_one (boxStays HX3.out hB)
        have q0 := (hB.cell (p := ⟨ba, oa + k * 2, none⟩) (block_lt_of_cell P0.out)).trans P0.out
        refine Or.inl ⟨wanted_none rfl, ?_⟩
        rintro _ rfl
        go_simp <;> with_reducible rfl
       refine relG_pure (i := 1) (o := ⟨some 58, _, _, _, _, _⟩) (v := ?v13) [] [0] rfl rfl (by kernel_rfl) (by kernel_rfl) (fun t w1 hB hf hbf => ?y13) ?n13
       case y13 =>
        simp only [BasF] at hbf
        clear hf
        obtain ⟨⟨b0, k0⟩, _⟩ := hbf
        have m0 := cell_of_one (boxStays HX3.out hB)
        have q0 := (hB.cell (p := ⟨ba, oa + k * 2, none⟩) (block_lt_of_cell P0.out)).trans P0.out
        refine Or.inl ⟨wanted_none rfl, ?_⟩
        rintro _ rfl
        go_simp <;> with_reducible rfl
       refine relG_pure (i := 2) (o := ⟨some 59, _, _, _, _, _⟩) (v := ?v14) [] [8] rfl rfl (by kernel_rfl) (by kernel_rfl) (fun t w1 hB hf hbf => ?y14) ?n14
       case y14 =>
        simp only [BasF] at hbf
        clear hf
        obtain ⟨⟨b8, k8⟩, _⟩ := hbf
        have m0 := cell_of_one (boxStays HX3.out hB)
        have q0 := (hB.cell (p := ⟨ba, oa + k * 2, none⟩) (block_lt_of_cell P0.out)).trans P0.out
        refine Or.inl ⟨wanted_none rfl, ?_⟩
        rintro _ rfl
        go_simp <;> with_reducible rfl
       refine relG_pure (i := 3) (o := ⟨some 60, _, _, _, _, _⟩) (v := ?v15) [(1, 58, 1), (2, 59, 0)] [] rfl rfl (by kernel_rfl) (by kernel_rfl) (fun t w1 hB hf hbf => ?y15) ?n15
       case y15 =>
        simp only [DepF, List.getD_cons_zero, List.getD_cons_succ] at hf
        obtain ⟨⟨_, ⟨e58, i58⟩, rfl⟩, ⟨_, ⟨e59, i59⟩, rfl⟩, _⟩ := hf
        clear hbf
        have m0 := cell_of_one (boxStays HX3.out hB)
        have q0 := (hB.cell (p := ⟨ba, oa + k * 2, none⟩) (block_lt_of_cell P0.out)).trans P0.out
        refine Or.inl ⟨wanted_none rfl, ?_⟩
        rintro _ rfl
        go_simp <;> with_reducible rfl
       refine relG_pure (i := 4) (o := ⟨some 61, _, _, _, _, _⟩) (v := ?v16) [(3, 60, 0)] [] rfl rfl (by kernel_rfl) (by kernel_rfl) (fun t w1 hB hf hbf => ?y16) ?n16
       case y16 =>
        simp only [DepF, List.getD_cons_zero] at hf
        obtain ⟨⟨_, ⟨e60, i60⟩, rfl⟩, _⟩ := hf
        clear hbf
        have m0 := cell_of_one (boxStays HX3.out hB)
        have q0 := (hB.cell (p := ⟨ba, oa + k * 2, none⟩) (block_lt_of_cell P0.out)).trans P0.out
        refine Or.inl ⟨wanted_none rfl, ?_⟩
        rintro _ rfl
        go_simp <;> with_reducible rfl
       refine relG_pure (i := 5) (o := ⟨some 62, _, _, _, _, _⟩) (v := ?v17) [(4, 61, 0)] [] rfl rfl (by kernel_rfl) (by kernel_rfl) (fun t w1 hB hf hbf => ?y17) ?n17
       case y17 =>
        simp only [DepF, List.getD_cons_zero] at hf
        obtain ⟨⟨_, ⟨e61, i61⟩, rfl⟩, _⟩ := hf
        clear hbf
        have m0 := cell_of_one (boxStays HX3.out hB)
        have q0 := (hB.cell (p := ⟨ba, oa + k * 2, none⟩) (block_lt_of_cell P0.out)).trans P0.out
        refine Or.inl ⟨wanted_none rfl, ?_⟩
        rintro _ rfl
        go_simp <;> with_reducible rfl
       refine relG_call (i := 6) (o := ⟨some 63, _, _, _, _, _⟩) ((fun v _ => v = .tuple #[.string gv, .bool gb])) [(0, 57, 5), (5, 62, 0)] [] rfl rfl (by kernel_rfl) (by kernel_rfl) ((fun _ _ _ h _ => h)) ?_ ?_
       · intro t w1 hB hf hbf K hK
         simp only [DepF, List.getD_cons_zero, List.getD_cons_succ] at hf
         obtain ⟨⟨_, ⟨e57, i57⟩, rfl⟩, ⟨_, ⟨e62, i62⟩, rfl⟩, _⟩ := hf
         clear hbf
         have m0 := cell_of_one (boxStays HX3.out hB)
         have q0 := (hB.cell (p := ⟨ba, oa + k * 2, none⟩) (block_lt_of_cell P0.out)).trans P0.out
         refine ⟨wanted_none rfl, ?_⟩
         go_simp
         refine (GET.out w1 (HW.out.trans (hB.mono hzr.out))).mono ?_
         rintro e w2 ⟨rfl, hb⟩
         exact hK.out _ w2 (rfl) hb
       refine relG_pure (i := 7) (o := ⟨some 56, _, _, _, _, _⟩) (v := ?v18) [(6, 63, 0)] [] rfl rfl (by kernel_rfl) (by kernel_rfl) (fun t w1 hB hf hbf => ?y18) ?n18
       case y18 =>
        simp only [DepF, List.getD_cons_zero] at hf
        obtain ⟨⟨_, ⟨e63, i63⟩, rfl⟩, _⟩ := hf
        clear hbf
        have m0 := cell_of_one (boxStays HX3.out hB)
        have q0 := (hB.cell (p := ⟨ba, oa + k * 2, none⟩) (block_lt_of_cell P0.out)).trans P0.out
        refine Or.inl ⟨wanted_none rfl, ?_⟩
        rintro _ rfl
        go_simp <;> with_reducible rfl
       refine relG_pure (i := 8) (o := ⟨some 64, _, _, _, _, _⟩) (v := ?v19) [(7, 56, 0)] [] rfl rfl (by kernel_rfl) (by kernel_rfl) (fun t w1 hB hf hbf => ?y19) ?n19
       case y19 =>
        simp only [DepF, List.getD_cons_zero] at hf
        obtain ⟨⟨_, ⟨e56, i56⟩, rfl⟩, _⟩ := hf
        clear hbf
        have m0 := cell_of_one (boxStays HX3.out hB)
        have q0 := (hB.cell (p := ⟨ba, oa + k * 2, none⟩) (block_lt_of_cell P0.out)).trans P0.out
        refine Or.inl ⟨wanted_none rfl, ?_⟩
        rintro _ rfl
        go_simp <;> with_reducible rfl
       refine relG_pure (i := 9) (o := ⟨some 65, _, _, _, _, _⟩) (v := ?v20) [(7, 56, 1)] [] rfl rfl (by kernel_rfl) (by kernel_rfl) (fun t w1 hB hf hbf => ?y20) ?n20
       case y20 =>
        simp only [DepF, List.getD_cons_zero, List.getD_cons_succ] at hf
        obtain ⟨⟨_, ⟨e56, i56⟩, rfl⟩, _⟩ := hf
        clear hbf
        have m0 := cell_of_one (boxStays HX3.out hB)
        have q0 := (hB.cell (p := ⟨ba, oa + k * 2, none⟩) (block_lt_of_cell P0.out)).trans P0.out
        refine Or.inl ⟨wanted_none rfl, ?_⟩
        rintro _ rfl
        go_simp <;> with_reducible rfl
       refine relG_pure (i := 10) (o := ⟨some 9, _, _, _, _, _⟩) (v := ?v21) [(8, 64, 1)] [] rfl rfl (by kernel_rfl) (by kernel_rfl) (fun t w1 hB hf hbf => ?y21) ?n21
       case y21 =>
        simp only [DepF, List.getD_cons_zero, List.getD_cons_succ] at hf
        obtain ⟨⟨_, ⟨e64, i64⟩, rfl⟩, _⟩ := hf
        clear hbf
        have m0 := cell_of_one (boxStays HX3.out hB)
        have q0 := (hB.cell (p := ⟨ba, oa + k * 2, none⟩) (block_lt_of_cell P0.out)).trans P0.out
        refine Or.inl ⟨wanted_none rfl, ?_⟩
        rintro _ rfl
        go_simp <;> with_reducible rfl
       refine relG_pure (i := 11) (o := ⟨some 10, _, _, _, _, _⟩) (v := ?v22) [(9, 65, 1)] [] rfl rfl (by kernel_rfl) (by kernel_rfl) (fun t w1 hB hf hbf => ?y22) ?n22
       case y22 =>
        simp only [DepF, List.getD_cons_zero, List.getD_cons_succ] at hf
        obtain ⟨⟨_, ⟨e65, i65⟩, rfl⟩, _⟩ := hf
        clear hbf
        have m0 := cell_of_one (boxStays HX3.out hB)
        have q0 := (hB.cell (p := ⟨ba, oa + k * 2, none⟩) (block_lt_of_cell P0.out)).trans P0.out
        refine Or.inl ⟨wanted_none rfl, ?_⟩
        rintro _ rfl
        go_simp <;> with_reducible rfl
       refine relG_done [(0, 57, 11), (1, 58, 10), (2, 59, 9), (3, 60, 8), (4, 61, 7), (5, 62, 6), (6, 63, 5), (7, 56, 4), (8, 64, 3), (9, 65, 2), (10, 9, 1), (11, 10, 0)] (by kernel_rfl) rfl (by kernel_rfl) (fun f wE hB hf => ?_)
       simp only [FinF, List.getD_cons_zero, List.getD_cons_succ] at hf
       obtain ⟨⟨_, e57, rfl⟩, ⟨_, e58, rfl⟩, ⟨_, e59, rfl⟩, ⟨_, e60, rfl⟩, ⟨_, e61, rfl⟩, ⟨_, e62, rfl⟩, ⟨_, e63, rfl⟩, ⟨_, e56, rfl⟩, ⟨_, e64, rfl⟩, ⟨_, e65, rfl⟩, ⟨_, e9, rfl⟩, ⟨_, e10, rfl⟩, _⟩ := hf
       simp only [regT, List.foldl_cons, List.foldl_nil, List.setIfInBounds_toArray, List.set_cons_zero, List.set_cons_succ, e57, e58, e59, e60, e61, e62, e63, e56, e64, e65, e9, e10]
       clear e57 e58 e59 e60 e61 e62 e63 e56 e64 e65 e9 e10
       have q0 := (hB.cell (p := ⟨ba, oa + k * 2, none⟩) (block_lt_of_cell P0.out)).trans P0.out
       have W1 := Lib.hid (HW.out.trans (hB.mono hzr.out))
       clear hB
       go_wp2_with fail
       refine (r11_OfKey pk _ HSK.out).mono ?_
       rintro e w3 ⟨he, hb⟩
       rw [HE0.out] at he
       subst he
       have W3 := Lib.hid ((W1.out.trans (hb.mono W1.out.size)).alloc (by have := W1.out.size; have := hb.size; omega) (.cells #[.int .i64 e0.1.g, .int .i64 e0.1.r, .string e0.1.l, .int .i64 e0.1.n, .int .i64 e0.1.i, .string e0.2] 53))
       clear hb q0
       go_upto_region 14 with (fail)
       have xE := heap_alloc_new w3 (.cells #[.int .i64 e0.1.g, .int .i64 e0.1.r, .string e0.1.l, .int .i64 e0.1.n, .int .i64 e0.1.i, .string e0.2] 53)
       generalize w3.alloc (.cells #[.int .i64 e0.1.g, .int .i64 e0.1.r, .string e0.1.l, .int .i64 e0.1.n, .int .i64 e0.1.i, .string e0.2] 53) = w4 at *
       have e5 := cell_of_row _ _ 5 _ _ _ xE
       clear xE
       obtain ⟨ee, hee⟩ : ∃ b, decide (e0.2 = gv) = b := ⟨_, rfl⟩
       have hqq : (e0.2.toList == gv.toList) = ee := by rw [Pm.eq_iff]; exact hee
       rw [hee] at HTK
       clear hee
       have HMB2 : Hid (((l.take (k + 1)).all fun p => goodT (p.1, valOr (seek p.1 tr))) = (mb && (b0 && ee))) := HTK
       clear HTK HMB
       cases mb <;> cases b0 <;> cases ee <;> (go_wp2_with fail; go_roundw; (case rel => exact ⟨k + 1, by omega, by go_num, ⟨_, rfl, HMB2⟩, W3⟩); (case measure => simp [intOf]; omega))
     · obtain rfl : n = k := by omega
       have HMBg : mb = g := by have := HMB.out; rw [HN.out, List.take_length, HMV.out] at this; exact this.symm
       subst HMBg
       have TB := Lib.hid (HAt.out.below HW.out rfl)
       have BWr := Lib.hid (HW9.out.trans (HW.out.mono HW9.out.size))
       have HBr := Lib.hid (boxStays HB9.out HW.out)
       have HGr := Lib.hid (HG.out.below BWr.out)
       have HZ2 : Hid (sz tr ≤ 100000) := Lib.hid (by have := HZ.out; omega)
       clear HMB HMV HW HAt HB HB9 HB2 HX HBW HW9
       have HC : Hid (Chain [wr] wr) := Lib.hid (Chain.one wr)
       have HX := HX3
       have HB := HBr
       have kX0 := cell_of_one HX.out
       go_wp2_with fail
       refine (ts_May tr _ TB.out HZ2.out HKS.out).mono ?_
       rintro e w1 ⟨rfl, hb⟩
       clear kX0
       replace HC := Lib.hid (HC.out.push hb)
       clear hb
       rw [HGD.out]
       cases mb
       case true =>
        go_wp2_with fail
        refine (known_11 _ (HGr.out.below (HC.out.to wr (by simp)))).mono ?_
        rintro e w2 ⟨rfl, hb⟩
        replace HC := Lib.hid (HC.out.push hb)
        clear hb
        have RF := Lib.hid (boxStays HB.out (HC.out.to wr (by simp)))
        have BF := Lib.hid (BWr.out.trans (((HC.out.to wr (by simp))).mono BWr.out.size))
        have c1 := cell_of_one RF.out
        have d1 := frozen_of_row _ y 0 _ _ RF.out
        go_wp2_with fail
        have RS := Lib.hid (heap_setCell_same w2 y 0 _ _ (.bool true) RF.out)
        have BS : Hid (Below w.heap.size w (w2.setCell ⟨y, 0, none⟩ (.bool true))) := Lib.hid (BF.out.setCell (p := ⟨y, 0, none⟩) (by have := Sy.out; simp; omega) _)
        try rw [Exit.noGoto_ret]
        try show LeavesInM _ _ _ _ _ _ (marks []) _ _
        refine leaves_marks [] _ (by simp) (fun p hp => by cases hp) ?_
        intro W' e1 e2 e3 e4 e5
        have k1 := cell_of_one ((e5 y (by simp)).trans RS.out)
        have bW : Below w.heap.size w W' := ⟨e1.trans BS.out.os, e2.trans BS.out.tape, e3.trans BS.out.output, by rw [e4]; exact BS.out.size, fun k hk => (e5 k (by simp)).trans (BS.out.block k hk)⟩
        exact ⟨.bool true, by simp [results, Tryz.results4, go_sem, k1], rfl, bW⟩
       case false =>
       go_upto_region 20 with (fail)
       obtain ⟨zN, hzN⟩ : ∃ c, w1.heap.size = c := ⟨_, rfl⟩
       try rw [hzN]
       obtain ⟨w2, hw2⟩ : ∃ X, allocs w1 [.cells #[.pointer none] 27] = X := ⟨_, rfl⟩
       rw [show w1.alloc (.cells #[.pointer none] 27) = w2 from hw2]
       have hb : Below w1.heap.size w1 w2 := by rw [← hw2]; exact allocs_below _ _
       have HN : Hid (w2.heap[zN]? = some (.cells #[.pointer none] 27 (0, 0))) := Lib.hid (by have := allocs_get [.cells #[.pointer none] 27] w1 0 _ rfl; rw [hw2, hzN] at this; exact this)
       have SzN : Hid (w1.heap.size = zN) := Lib.hid hzN
       replace HC := Lib.hid (HC.out.push hb)
       clear hb hw2 hzN
       have kX0 := cell_of_one (boxStays HX.out (HC.out.to wr (by simp)))
       go_wp2_with fail
       refine (ts_Elements_bad tr _ (TB.out.below (HC.out.to wr (by simp)) rfl) HZ2.out HKS.out HGD.out).mono ?_
       rintro e w3 ⟨rfl, hb⟩
       clear kX0
       replace HC := Lib.hid (HC.out.push hb)
       clear hb
       go_upto_region 21 with (fail)
       have M3 := Lib.hid (boxStays HX.out (HC.out.to wr (by simp)))
       have T3 := Lib.hid (TB.out.below (HC.out.to wr (by simp)) rfl)
       have G3 := Lib.hid (HGr.out.below (HC.out.to wr (by simp)))
       have INS : Hid (∀ w1, Below w3.heap.size w3 w1 → Calls Tryz.prog 21 #[.agg #[.pointer (pa tr)], .agg #[.int .i64 1, .int .i64 0, .string labA, .int .i64 1, .int .i64 0], .string x] w1 fun e w' => e = .returned (.tuple #[.agg #[.pointer none], .int .i64 2]) ∧ Below w1.heap.size w1 w') := Lib.hid (fun w1 hB => ts_Insert_bad tr (atV 1 x).1 x w1 (T3.out.below hB rfl) HZ2.out HKS.out (by show labA.size ≤ _; decide) (G3.out.below hB) HGD.out)
       clear T3 G3
       refine relG_start (slots := [97, 98, 99, 100, 101, 96, 102, 103, 16, 17]) (so := [9]) (by kernel_rfl) (by kernel_rfl) (by rfl) ?_
       refine relG_pure (i := 0) (o := ⟨some 97, _, _, _, _, _⟩) (v := ?v23) [] [5] rfl rfl (by kernel_rfl) (by kernel_rfl) (fun t w1 hB hf hbf => ?y23) ?n23
       case y23 =>
        simp only [BasF] at hbf
        clear hf
        obtain ⟨⟨b5, k5⟩, _⟩ := hbf
        have m0 := cell_of_one (boxStays M3.out hB)
        refine Or.inl ⟨wanted_none rfl, ?_⟩
        rintro _ rfl
        go_simp <;> with_reducible rfl
       refine relG_call (i := 1) (o := ⟨some 98, _, _, _, _, _⟩) ((fun v _ => v = .agg #[.int .i64 1, .int .i64 0, .string labA, .int .i64 1, .int .i64 0, .string ⟨#[]⟩])) [] [] rfl rfl (by kernel_rfl) (by kernel_rfl) ((fun _ _ _ h _ => h)) ?_ ?_
       · intro t w1 hB hf hbf K hK
         clear hf
         clear hbf
         have m0 := cell_of_one (boxStays M3.out hB)
         refine ⟨wanted_none rfl, ?_⟩
         go_simp
         refine (at_11 1 ⟨#[]⟩ w1).mono ?_
         rintro e w2 ⟨rfl, hb⟩
         exact hK.out _ w2 (rfl) hb
       refine relG_pure (i := 2) (o := ⟨some 99, _, _, _, _, _⟩) (v := ?v24) [(1, 98, 0)] [] rfl rfl (by kernel_rfl) (by kernel_rfl) (fun t w1 hB hf hbf => ?y24) ?n24
       case y24 =>
        simp only [DepF, List.getD_cons_zero] at hf
        obtain ⟨⟨_, ⟨e98, i98⟩, rfl⟩, _⟩ := hf
        clear hbf
        have m0 := cell_of_one (boxStays M3.out hB)
        have fd := fld_st11 1 0 1 0 labA ⟨#[]⟩
        refine Or.inl ⟨wanted_none rfl, ?_⟩
        rintro _ rfl
        go_simp <;> with_reducible rfl
       refine relG_pure (i := 3) (o := ⟨some 100, _, _, _, _, _⟩) (v := ?v25) [] [1] rfl rfl (by kernel_rfl) (by kernel_rfl) (fun t w1 hB hf hbf => ?y25) ?n25
       case y25 =>
        simp only [BasF] at hbf
        clear hf
        obtain ⟨⟨b1, k1⟩, _⟩ := hbf
        have m0 := cell_of_one (boxStays M3.out hB)
        refine Or.inl ⟨wanted_none rfl, ?_⟩
        rintro _ rfl
        go_simp <;> with_reducible rfl
       refine relG_call (i := 4) (o := ⟨some 101, _, _, _, _, _⟩) ((fun v _ => v = .tuple #[.agg #[.pointer none], .int .i64 2])) [(0, 97, 3), (2, 99, 1), (3, 100, 0)] [] rfl rfl (by kernel_rfl) (by kernel_rfl) ((fun _ _ _ h _ => h)) ?_ ?_
       · intro t w1 hB hf hbf K hK
         simp only [DepF, List.getD_cons_zero, List.getD_cons_succ] at hf
         obtain ⟨⟨_, ⟨e97, i97⟩, rfl⟩, ⟨_, ⟨e99, i99⟩, rfl⟩, ⟨_, ⟨e100, i100⟩, rfl⟩, _⟩ := hf
         clear hbf
         have m0 := cell_of_one (boxStays M3.out hB)
         refine ⟨wanted_none rfl, ?_⟩
         go_simp
         refine (INS.out w1 hB).mono ?_
         rintro e w2 ⟨rfl, hb⟩
         exact hK.out _ w2 (rfl) hb
       refine relG_pure (i := 5) (o := ⟨some 96, _, _, _, _, _⟩) (v := ?v26) [(4, 101, 0)] [] rfl rfl (by kernel_rfl) (by kernel_rfl) (fun t w1 hB hf hbf => ?y26) ?n26
       case y26 =>
        simp only [DepF, List.getD_cons_zero] at hf
        obtain ⟨⟨_, ⟨e101, i101⟩, rfl⟩, _⟩ := hf
        clear hbf
        have m0 := cell_of_one (boxStays M3.out hB)
        refine Or.inl ⟨wanted_none rfl, ?_⟩
        rintro _ rfl
        go_simp <;> with_reducible rfl
       refine relG_pure (i := 6) (o := ⟨some 102, _, _, _, _, _⟩) (v := ?v27) [(5, 96, 0)] [] rfl rfl (by kernel_rfl) (by kernel_rfl) (fun t w1 hB hf hbf => ?y27) ?n27
       case y27 =>
        simp only [DepF, List.getD_cons_zero] at hf
        obtain ⟨⟨_, ⟨e96, i96⟩, rfl⟩, _⟩ := hf
        clear hbf
        have m0 := cell_of_one (boxStays M3.out hB)
        refine Or.inl ⟨wanted_none rfl, ?_⟩
        rintro _ rfl
        go_simp <;> with_reducible rfl
       refine relG_pure (i := 7) (o := ⟨some 103, _, _, _, _, _⟩) (v := ?v28) [(5, 96, 1)] [] rfl rfl (by kernel_rfl) (by kernel_rfl) (fun t w1 hB hf hbf => ?y28) ?n28
       case y28 =>
        simp only [DepF, List.getD_cons_zero, List.getD_cons_succ] at hf
        obtain ⟨⟨_, ⟨e96, i96⟩, rfl⟩, _⟩ := hf
        clear hbf
        have m0 := cell_of_one (boxStays M3.out hB)
        refine Or.inl ⟨wanted_none rfl, ?_⟩
        rintro _ rfl
        go_simp <;> with_reducible rfl
       refine relG_call (i := 8) (o := ⟨some 16, _, _, _, _, _⟩) ((fun v w' => ∃ b, v = .pointer (some ⟨b, 0, none⟩) ∧ w3.heap.size ≤ b ∧ w'.heap[b]? = some (.cells #[.pointer none] 27 (0, 0)))) [] [] rfl rfl (by kernel_rfl) (by kernel_rfl) ((fun v w' w'' h hb => by obtain ⟨b, e1, e2, e3⟩ := h; exact ⟨b, e1, e2, boxStays e3 hb⟩)) ?_ ?_
       · intro t w1 hB hf hbf K hK
         clear hf
         clear hbf
         have m0 := cell_of_one (boxStays M3.out hB)
         refine ⟨wanted_none rfl, ?_⟩
         go_simp
         exact hK.out _ _ (⟨_, rfl, hB.size, heap_alloc_new _ _⟩) (below_new _ _)
       refine relG_skip 9 rfl (by rfl) ?_ (by kernel_rfl)
       refine relG_pure (i := 10) (o := ⟨some 17, _, _, _, _, _⟩) (v := ?v29) [(7, 103, 2)] [] rfl rfl (by kernel_rfl) (by kernel_rfl) (fun t w1 hB hf hbf => ?y29) ?n29
       case y29 =>
        simp only [DepF, List.getD_cons_zero, List.getD_cons_succ] at hf
        obtain ⟨⟨_, ⟨e103, i103⟩, rfl⟩, _⟩ := hf
        clear hbf
        have m0 := cell_of_one (boxStays M3.out hB)
        refine Or.inl ⟨wanted_none rfl, ?_⟩
        rintro _ rfl
        go_simp <;> with_reducible rfl
       refine relG_own 9 16 8 102 6 [(0, 97, 10), (1, 98, 9), (2, 99, 8), (3, 100, 7), (4, 101, 6), (5, 96, 5), (6, 102, 4), (7, 103, 3), (8, 16, 2), (10, 17, 0)] [(0, 97, 10), (1, 98, 9), (2, 99, 8), (3, 100, 7), (4, 101, 6), (5, 96, 5), (6, 102, 4), (8, 16, 2)] (by kernel_rfl) rfl (by kernel_rfl) (by kernel_rfl) (by kernel_rfl) (by kernel_rfl) ?_ (fun f wE hB hf => ?_)
       · intro f w1 hB hf K hK
         simp only [FinF, List.getD_cons_zero, List.getD_cons_succ] at hf
         obtain ⟨⟨_, e97, rfl⟩, ⟨_, e98, rfl⟩, ⟨_, e99, rfl⟩, ⟨_, e100, rfl⟩, ⟨_, e101, rfl⟩, ⟨_, e96, rfl⟩, ⟨_, e102, rfl⟩, ⟨_, e16, ⟨bb, rfl, hbb, hbr⟩⟩, _⟩ := hf
         have m0 := cell_of_one (boxStays M3.out hB)
         refine sto_own (i := 9) 27 16 102 bb (#[.pointer none]) _ _ rfl rfl rfl rfl (by rfl) (by rfl) e16 (by rfl) (by rfl) e102 (hbr) (by kernel_rfl) rfl (mp_oneT _) hK
       simp only [FinF, List.getD_cons_zero, List.getD_cons_succ] at hf
       obtain ⟨⟨_, e97, rfl⟩, ⟨_, e98, rfl⟩, ⟨_, e99, rfl⟩, ⟨_, e100, rfl⟩, ⟨_, e101, rfl⟩, ⟨_, e96, rfl⟩, ⟨_, e102, rfl⟩, ⟨_, e103, rfl⟩, ⟨_, e16, ⟨bb, rfl, hbb, hbr⟩⟩, ⟨_, e17, rfl⟩, _⟩ := hf
       simp only [blkOf, Value.cells, regT, List.foldl_cons, List.foldl_nil, List.setIfInBounds_toArray, List.set_cons_zero, List.set_cons_succ, e97, e98, e99, e100, e101, e96, e102, e103, e16, e17]
       clear e97 e98 e99 e100 e101 e96 e102 e103 e16 e17
       rw [setRow_one hbr]
       have hb8 := hB.setCell (p := ⟨bb, 0, none⟩) hbb (.pointer none)
       have QC := Lib.hid hb8
       clear hb8 hB hbb hbr
       go_upto_region 22 with (fail)
       generalize wE.setCell ⟨bb, 0, none⟩ (.pointer none) = w5 at *
       have hb := QC.out
       replace HC := Lib.hid (HC.out.push hb)
       clear hb
       have kX0 := cell_of_one (boxStays HX.out (HC.out.to wr (by simp)))
       go_wp2_with fail
       refine (ts_Remove_bad tr x _ (TB.out.below (HC.out.to wr (by simp)) rfl) HBal.out HSR.out HZ2.out HKS.out (HGr.out.below (HC.out.to wr (by simp))) HGD.out).mono ?_
       rintro e w6 ⟨rfl, hb⟩
       clear kX0
       replace HC := Lib.hid (HC.out.push hb)
       clear hb
       go_upto_region 23 with (fail)
       obtain ⟨c7, hc7⟩ : ∃ c, w6.heap.size = c := ⟨_, rfl⟩
       try rw [hc7]
       obtain ⟨w7, hw7⟩ : ∃ X, allocs w6 [.cells #[.pointer none] 27] = X := ⟨_, rfl⟩
       rw [show w6.alloc (.cells #[.pointer none] 27) = w7 from hw7]
       have hb : Below w6.heap.size w6 w7 := by rw [← hw7]; exact allocs_below _ _
       have Sc7 : Hid (w6.heap.size = c7) := Lib.hid hc7
       replace HC := Lib.hid (HC.out.push hb)
       clear hb hw7 hc7
       have kX0 := cell_of_one (boxStays HX.out (HC.out.to wr (by simp)))
       go_wp2_with fail
       refine (ts_Texts_bad tr _ (TB.out.below (HC.out.to wr (by simp)) rfl) HZ2.out HKS.out HGD.out).mono ?_
       rintro e w8 ⟨rfl, hb⟩
       clear kX0
       replace HC := Lib.hid (HC.out.push hb)
       clear hb
       go_upto_region 24 with (fail)
       have kX0 := cell_of_one (boxStays HX.out (HC.out.to wr (by simp)))
       have kN0 := cell_of_one (boxStays HN.out (HC.out.to w2 (by simp)))
       go_wp2_with fail
       refine (ts_Three_bad .nil .nil tr _ trivial trivial (TB.out.below (HC.out.to wr (by simp)) rfl) (Nat.zero_le _) (Nat.zero_le _) HZ2.out (fun p hp => by cases hp) (fun p hp => by cases hp) HKS.out (by rw [HGD.out]; rfl)).mono ?_
       rintro e w9 ⟨rfl, hb⟩
       clear kX0 kN0
       replace HC := Lib.hid (HC.out.push hb)
       clear hb
       go_upto_region 25 with (fail)
       obtain ⟨ca, hca⟩ : ∃ c, w9.heap.size = c := ⟨_, rfl⟩
       try rw [hca]
       obtain ⟨wa, hwa⟩ : ∃ X, allocs w9 [.cells #[.pointer none] 27] = X := ⟨_, rfl⟩
       rw [show w9.alloc (.cells #[.pointer none] 27) = wa from hwa]
       have hb : Below w9.heap.size w9 wa := by rw [← hwa]; exact allocs_below _ _
       have Sca : Hid (w9.heap.size = ca) := Lib.hid hca
       replace HC := Lib.hid (HC.out.push hb)
       clear hb hwa hca
       have kX0 := cell_of_one (boxStays HX.out (HC.out.to wr (by simp)))
       have kN0 := cell_of_one (boxStays HN.out (HC.out.to w2 (by simp)))
       go_wp2_with fail
       refine (ts_Three_bad tr .nil .nil _ (TB.out.below (HC.out.to wr (by simp)) rfl) trivial trivial HZ2.out (Nat.zero_le _) (Nat.zero_le _) HKS.out (fun p hp => by cases hp) (fun p hp => by cases hp) (by rw [HGD.out]; rfl)).mono ?_
       rintro e wb ⟨rfl, hb⟩
       clear kX0 kN0
       replace HC := Lib.hid (HC.out.push hb)
       clear hb
       go_upto_region 26 with (fail)
       obtain ⟨cc, hcc⟩ : ∃ c, wb.heap.size = c := ⟨_, rfl⟩
       try rw [hcc]
       obtain ⟨wc, hwc⟩ : ∃ X, allocs wb [.cells #[.pointer none] 27] = X := ⟨_, rfl⟩
       rw [show wb.alloc (.cells #[.pointer none] 27) = wc from hwc]
       have hb : Below wb.heap.size wb wc := by rw [← hwc]; exact allocs_below _ _
       have Scc : Hid (wb.heap.size = cc) := Lib.hid hcc
       replace HC := Lib.hid (HC.out.push hb)
       clear hb hwc hcc
       have kX0 := cell_of_one (boxStays HX.out (HC.out.to wr (by simp)))
       go_wp2_with fail
       refine (ts_All tr _).mono ?_
       rintro e wd ⟨m2, rfl, hm2, hbm, hb⟩
       clear kX0
       replace HC := Lib.hid (HC.out.push hb)
       clear hb
       have HNIL := all_nilT
       go_wp2_with fail
       clear HNIL
       have HX9 := Lib.hid (boxStays HX.out (HC.out.to wr (by simp)))
       have HIter := ts_All1 5 (by omega) tr m2 wd (fun _ => False) (fun t => t = 9) (fun t h => by rw [h]; decide) hbm (TB.out.below (HC.out.to wr (by simp)) rfl) HZ2.out HKS.out (fun k h => h.elim)
       unfold GoesGrp at HIter
       have hL : grpT (shownT tr) = [] := by
        unfold shownT
        rw [if_neg (by rw [HGD.out]; simp)]
        simp [grpT]
       rw [hL] at HIter
       have OWN : OwnFrom wd.heap.size (fun (_ : List GrX) V => Below wd.heap.size wd V) := ownFrom_below (Nat.le_refl _) (Nat.le_refl _)
       refine (wpIn_wide (n := 6)).1 ?_
       refine range_law2 (n := 6) rfl (enters_of Tryz.func68 (by kernel_rfl) rfl) HIter (by omega) KeepE.trans (fun W o o' _ _ => KeepE.put W _ o' (by omega) (fun k hk => hk.elim)) (fun x => rfl) (fun pre => ?hX) ?_ (fun _ V => Below wd.heap.size wd V) (fun _ _ _ => False) (fun _ V => Below wd.heap.size wd V) OWN ?_ ?_ ?_ (Below.refl _ _) (fun _ _ _ _ => False) ?_ ?assign ?body ?done ?stop
       case hX =>
        rintro x A A' row ⟨h1, h2⟩ hg hr
        exact ⟨h1, cells_kept h2 (fun k c t fr hk => heap_kept hg (fun r e => (hr r e).2) hk)⟩
       · rintro W1 _ xs A B ⟨_, rfl⟩ k o _ ho _; exact ho
       · rintro c xs A A' row h hg hr; exact h
       · exact OWN
       · rintro W1 _ xs A B h ⟨h1, rfl⟩; exact h
       · rintro q a' pre A A' row h hg hr; exact h
       case assign =>
        rintro l pre q W K _ ⟨hx, _⟩ _ _
        exact absurd hx (by simp)
       case body =>
        rintro l pre q a' V h
        exact h.elim
       case stop =>
        rintro D c pre V hD hSp h hK
        exact absurd h id
       case done =>
        rintro D xs V hD hb hK
        have HKD := Lib.hid hK
        have HVD := Lib.hid hD
        have HYD : Hid (y < D) := Lib.hid (by have h1 := (Array.getElem?_eq_some_iff.1 (boxStays HB.out (HC.out.to wr (by simp)))).1; omega)
        clear HIter OWN hL hK hD hm2 hbm
        replace HC := Lib.hid (HC.out.push hb)
        clear hb
        simp only [Exit.inBlock]
        have kX0 := cell_of_one (boxStays HX.out (HC.out.to wr (by simp)))
        go_wp2_with fail
        refine (num_11 2 _).mono ?_
        rintro e _ ⟨rfl, rfl⟩
        go_wp2_with fail
        refine (num_11 2 _).mono ?_
        rintro e _ ⟨rfl, rfl⟩
        go_wp2_with fail
        refine (num_11 2 _).mono ?_
        rintro e _ ⟨rfl, rfl⟩
        go_wp2_with fail
        refine (num_11 2 _).mono ?_
        rintro e _ ⟨rfl, rfl⟩
        go_wp2_with fail
        refine (num_11 2 _).mono ?_
        rintro e _ ⟨rfl, rfl⟩
        go_wp2_with fail
        refine (num_11 2 _).mono ?_
        rintro e _ ⟨rfl, rfl⟩
        go_wp2_with fail
        refine (ts_Has_bad tr x _ (TB.out.below (HC.out.to wr (by simp)) rfl) HSR.out HZ2.out HKS.out hx (HGr.out.below (HC.out.to wr (by simp))) HGD.out).mono ?_
        rintro e we ⟨rfl, hb⟩
        clear kX0
        replace HC := Lib.hid (HC.out.push hb)
        clear hb
        have kX0 := cell_of_one (boxStays HX.out (HC.out.to wr (by simp)))
        go_wp2_with fail
        refine (ts_Tags_bad tr x _ (TB.out.below (HC.out.to wr (by simp)) rfl) HSR.out HZ2.out HKS.out hx (HGr.out.below (HC.out.to wr (by simp))) HGD.out).mono ?_
        rintro e wf ⟨rfl, hb⟩
        clear kX0
        replace HC := Lib.hid (HC.out.push hb)
        clear hb
        go_wp2_with fail
        refine (known_11 _ (HGr.out.below (HC.out.to wr (by simp)))).mono ?_
        rintro e wg ⟨rfl, hb⟩
        replace HC := Lib.hid (HC.out.push hb)
        clear hb
        have RF := Lib.hid (boxStays HB.out (HC.out.to wr (by simp)))
        have BF := Lib.hid (BWr.out.trans (((HC.out.to wr (by simp))).mono BWr.out.size))
        have HDF := Lib.hid ((((HC.out.to V (by simp))).block D (Array.getElem?_eq_some_iff.1 HKD.out).1).trans HKD.out)
        have c1 := cell_of_one RF.out
        have d1 := frozen_of_row _ y 0 _ _ RF.out
        go_wp2_with fail
        have RS := Lib.hid (heap_setCell_same wg y 0 _ _ (.bool true) RF.out)
        have BS : Hid (Below w.heap.size w (wg.setCell ⟨y, 0, none⟩ (.bool true))) := Lib.hid (BF.out.setCell (p := ⟨y, 0, none⟩) (by have := Sy.out; simp; omega) _)
        have DS : Hid ((wg.setCell ⟨y, 0, none⟩ (.bool true)).heap[D]? = some (.deferred (some []))) := Lib.hid ((Below.heap_setCell _ _ _ _ (by have := HYD.out; simp; omega)).trans HDF.out)
        try rw [Exit.noGoto_ret]
        try show LeavesInM _ _ _ _ _ _ (marks [D]) _ _
        refine leaves_marks [D] _ (by simp) (fun p hp => ?_) ?_
        · obtain rfl : p = (D, .deferred (some [])) := by simpa [markF] using hp
          exact DS.out
        · intro W' e1 e2 e3 e4 e5
          have hyD := HYD.out
          have hSy := Sy.out
          have k1 := cell_of_one ((e5 y (by simp; omega)).trans RS.out)
          have bW : Below w.heap.size w W' := ⟨e1.trans BS.out.os, e2.trans BS.out.tape, e3.trans BS.out.output, by rw [e4]; exact BS.out.size, fun k hk => (e5 k (by simp; omega)).trans (BS.out.block k hk)⟩
          exact ⟨.bool true, by simp [results, Tryz.results4, go_sem, k1], rfl, bW⟩
end Go.Proofs.YtjlliohjeiclaaaGreatDoor
namespace Go.Proofs.YtjlliohjeiclaaaGreatDoor
open Go.ChangeShapes Go.WideShapes Go.ChangeAt Go.RowKit Go.Deep
section
variable {H : Type} {enc : TypeId × Value → H} {P : Program} {w : World} {base : Nat} {held : Bool}
theorem spot_none {a : Addr} {v : Value} (h : w.cell? (a.add 0) = some v) : ∃ b off, a = ⟨b, off, none⟩ := by
 obtain ⟨b, off, spot⟩ := a
 have hs : spot = none := by simpa [Addr.add] using World.cell?_spot h
 subst hs
 exact ⟨b, off, rfl⟩
end
end Go.Proofs.YtjlliohjeiclaaaGreatDoor
namespace Go.Proofs.YtjlliohjeiclaaaGreatDoor
open Go.ChangeShapes Go.WideShapes Go.ChangeAt Go.RowKit Go.Deep St
section
variable {H : Type} {enc : TypeId × Value → H} {w : World} {base : Nat} {held : Bool}
theorem maxLen_small {n : Nat} (h : n ≤ maxLen) : n ≤ 9223372036854775807 := by unfold maxLen at h; omega
set_option maxRecDepth 100000 in
set_option maxRecDepth 100000 in
end
theorem laid_eq1 : (Rows.laid_unicode_utf8_acceptRanges : DataW Unit) = Lib.acceptData := by kernel_rfl
theorem laid_eq2 : Rows.laid_unicode_utf8_first = Lib.firstData := by kernel_rfl
theorem glob_of {W : World} (hL : laidMetH Tryz.prog [("unicode/utf8.acceptRanges", Rows.laid_unicode_utf8_acceptRanges), ("unicode/utf8.first", Rows.laid_unicode_utf8_first)] W) (hS : W.ShapedOpen Tryz.prog) : Glob W := by
 refine ⟨utf8Tabs_of_readsT (U8Types.of196 lay196) ⟨by kernel_rfl, by kernel_rfl, by kernel_rfl, by kernel_rfl, by kernel_rfl, by kernel_rfl, by kernel_rfl⟩ ?_ ?_, ?_⟩
 · rw [← laid_eq2]; exact Lib.laidMet.reads hL (.tail _ (.head _))
 · rw [← laid_eq1]; exact Lib.laidMet.reads hL (.head _)
 · exact cell_of_shapedOpen_int (P := Tryz.prog) (g := 2) (t := 3) (zero := #[.int .i64 0]) hS (of_decide_eq_true (by kernel_rfl)) (by kernel_rfl) rfl (by kernel_rfl) (by kernel_rfl) Tryz.underlying3
noncomputable def laidWorld (os : Os) : World :=
 let w0 := World.holding Tryz.prog os ⟨#[], #[], []⟩
 let put (h : Array Obj) (g : Nat) (cs : Array Value) : Array Obj := h.modify g fun
  | .cells _ t frozen => .cells cs t frozen
  | o => o
 let h1 := put w0.heap 0 (Lib.firstTab.map fun z => Value.int .u8 z).toArray
 let h2 := put h1 1 ((List.range 16).flatMap fun i => [Value.int .u8 (Lib.accLo i), Value.int .u8 (Lib.accHi i)]).toArray
 { w0 with heap := h2 }
theorem laid_met (os : Os) (args : Array Value) : laidMet Tryz.prog [("unicode/utf8.acceptRanges", Rows.laid_unicode_utf8_acceptRanges), ("unicode/utf8.first", Rows.laid_unicode_utf8_first)] ((laidWorld os).forCall (fun _ _ => 0) ⟨#[], args, []⟩).memory :=
 (LaidIn.of_run (l := [("unicode/utf8.acceptRanges", Rows.laid_unicode_utf8_acceptRanges), ("unicode/utf8.first", Rows.laid_unicode_utf8_first)]) [1, 0] 8 (by kernel_rfl) (by kernel_rfl) (by kernel_rfl) (by kernel_rfl)).met
end Go.Proofs.YtjlliohjeiclaaaGreatDoor
namespace Go.Proofs.YtjlliohjeiclaaaGreatDoor
open Go.ChangeShapes Go.WideShapes Go.ChangeAt Go.RowKit Go.Deep St
section
variable {H : Type} {enc : TypeId × Value → H} {w : World} {base : Nat} {held : Bool}
theorem flat_getU {α : Type} (f : α → List Value) (m : Nat) (hf : ∀ x, (f x).length = m) (hm : 0 < m) : ∀ (l : List α) (i r : Nat) (hi : i < l.length), r < m → (l.flatMap f)[i * m + r]? = (f l[i])[r]?
 | [], i, r, hi, _ => by simp at hi
 | x :: l, 0, r, _, hr => by
  rw [List.flatMap_cons, Nat.zero_mul, Nat.zero_add, List.getElem?_append_left (by rw [hf]; exact hr)]
  rfl
 | x :: l, i + 1, r, hi, hr => by
  rw [List.flatMap_cons, List.getElem?_append_right (by rw [hf, Nat.succ_mul]; omega), hf, Nat.succ_mul]
  rw [show i * m + m + r - m = i * m + r by omega, flat_getU f m hf hm l i r (by simpa using hi) hr]
  rfl
theorem flat_lenU {α : Type} (f : α → List Value) (m : Nat) (hf : ∀ x, (f x).length = m) : ∀ (l : List α), (l.flatMap f).length = l.length * m
 | [] => by simp
 | x :: l => by rw [List.flatMap_cons, List.length_append, hf, flat_lenU f m hf l, List.length_cons, Nat.succ_mul]; omega
theorem bulk_partU {d : DataW H} {l : List (DataW H)} (h : d ∈ l) : Rows.uptoBulk d ≤ Rows.uptoBulkAll l := by
 induction l with
 | nil => cases h
 | cons x r ih =>
  simp only [Rows.uptoBulkAll]
  cases List.mem_cons.1 h with
  | inl e => subst e; omega
  | inr e => have := ih e; omega
theorem open_structsU {α : Type} [Inhabited α] (f : α → List Value) (m : Nat) (hf : ∀ x, (f x).length = m) (hm : 0 < m) (G : α → Nat → Prop) (hG : ∀ {y a b}, G y a → a ≤ b → G y b) {t e : TypeId} {fuel : Nat} {a0 : Option Addr} {len cap : Nat} {x : DataW H × List MemPlace} (ht : Tryz.prog.underlying t = some (.slice e)) (ce : Tryz.prog.cellsOf e = m)
 (each : ∀ {fuel : Nat} {cs : List Value} {x : DataW H × List MemPlace}, DataW.trod enc Tryz.prog w base (fun _ => true) held fuel e cs = some x → ∃ y : α, cs = f y ∧ G y (Rows.uptoBulk x.1))
 (h : DataW.trod enc Tryz.prog w base (fun _ => true) held fuel t (Value.slice a0 len cap).cells.toList = some x) :
 ∃ l : List α, len = l.length ∧ CellsAt w a0 (l.flatMap f) ∧ l.length ≤ maxLen ∧ ∀ y ∈ l, G y (Rows.uptoBulk x.1) := by
 rcases open_slice ht h with ⟨hcs, _⟩ | ⟨a, l, c, k, n, D, Pl, hcs, _, hl, hmx, hmm, hx, hi⟩
 · simp [Value.cells] at hcs
   obtain ⟨rfl, rfl, rfl⟩ := hcs
   exact ⟨[], rfl, CellsAt.nil _ _, Nat.zero_le _, fun y hy => by cases hy⟩
 · simp [Value.cells] at hcs
   obtain ⟨rfl, rfl, rfl⟩ := hcs
   simp only [if_true] at hmm
   subst hmm
   have each2 : ∀ i, i < k → ∃ y : α, (∀ r, r < m → w.cell? ((a.add (i * m)).add r) = (f y)[r]?) ∧ G y (Rows.uptoBulk (D i)) := by
    intro i hik
    obtain ⟨cs', hc, htr⟩ := hi i hik
    rw [ce] at hc
    obtain ⟨y, rfl, hg⟩ := each htr
    obtain ⟨_, hcl, hat⟩ := World.cells?_some hc
    refine ⟨y, fun r hr => ?_, hg⟩
    have := hat r hr
    rw [this]
    try rw [List.getElem?_eq_getElem]
    done
   obtain ⟨F, hF⟩ := choose_lt (α := α) (n := k) (p := fun i y => (∀ r, r < m → w.cell? ((a.add (i * m)).add r) = (f y)[r]?) ∧ G y (Rows.uptoBulk (D i))) each2
   refine ⟨(List.range len).map F, by simp, fun q hq => ?_, by simp; omega, fun y hy => ?_⟩
   · have hlenF : (((List.range len).map F).flatMap f).length = len * m := by rw [flat_lenU f m hf]; simp
     have hq2 : q < len * m := by rw [← hlenF]; exact hq
     have hqm : q / m < len := Nat.div_lt_of_lt_mul (by rw [Nat.mul_comm]; exact hq2)
     have hp : 0 < k := Nat.lt_of_le_of_lt (Nat.zero_le _) (Nat.lt_of_lt_of_le hqm hl)
     have z0 := (hF 0 hp).1 0 hm
     rw [List.getElem?_eq_getElem (by rw [hf]; exact hm), Nat.zero_mul] at z0
     obtain ⟨b, off, rfl⟩ := spot_none (a := a) z0
     refine ⟨b, off, rfl, ?_⟩
     have hr : q % m < m := Nat.mod_lt _ hm
     have hk := (hF (q / m) (Nat.lt_of_lt_of_le hqm hl)).1 (q % m) hr
     have hg := flat_getU f m hf hm ((List.range len).map F) (q / m) (q % m) (by simpa using hqm) hr
     simp only [List.getElem_map, List.getElem_range] at hg
     have hqe : q / m * m + q % m = q := by rw [Nat.mul_comm]; exact Nat.div_add_mod q m
     rw [hqe] at hg
     rw [Addr_add, Addr_add, Nat.add_assoc, hqe] at hk
     rw [hk, ← hg, List.getElem?_eq_getElem hq]
   · obtain ⟨i, hi', rfl⟩ := List.mem_map.1 hy
     have hlt := List.mem_range.1 hi'
     refine hG (hF i (by omega)).2 ?_
     have h1 : D i ∈ (List.range len).map D := List.mem_map.2 ⟨i, hi', rfl⟩
     have h2 := bulk_partU h1
     rw [hx]
     simp only [Rows.uptoBulk]
     omega
theorem bulk_str {fuel : Nat} {cs : List Value} {x : DataW H × List MemPlace} {t : TypeId} (ht : Tryz.prog.underlying t = some .string) (h : DataW.trod enc Tryz.prog w base (fun _ => true) held fuel t cs = some x) :
 ∃ s : ByteArray, cs = [.string s] ∧ s.size ≤ Rows.uptoBulk x.1 := by
 obtain ⟨s, k0, hx, _⟩ := DataW.trod_string ht h
 refine ⟨s, k0, ?_⟩
 rw [hx]
 simp [Rows.uptoBulk]
set_option maxRecDepth 100000 in
theorem open_twoU {fuel : Nat} {cs : List Value} {x : DataW H × List MemPlace} (h : DataW.trod enc Tryz.prog w base (fun _ => true) held fuel 49 cs = some x) :
 ∃ p : ByteArray × ByteArray, cs = [.string p.1, .string p.2] ∧ p.1.size ≤ Rows.uptoBulk x.1 ∧ p.2.size ≤ Rows.uptoBulk x.1 := by
 obtain ⟨xs, n, _, rfl, hlen, hz, hff⟩ := DataW.trod_array Tryz.underlying49 h
 rw [show Tryz.prog.cellsOf 49 = 2 by kernel_rfl] at hlen
 match cs, hlen with
 | [v0, v1], _ =>
  have q0 := hff 0 (by omega)
  have q1 := hff 1 (by omega)
  have z0 : 0 < xs.length := by rw [hz]; decide
  have z1 : 1 < xs.length := by rw [hz]; decide
  rw [show Tryz.prog.cellsOf 9 = 1 by kernel_rfl] at q0 q1
  rw [List.getElem?_eq_getElem z0] at q0
  rw [List.getElem?_eq_getElem z1] at q1
  obtain ⟨r, k0, b0⟩ := bulk_str Tryz.underlying9 q0
  obtain ⟨l, k1, b1⟩ := bulk_str Tryz.underlying9 q1
  simp only [Nat.zero_mul, Nat.one_mul, List.drop, List.take, List.cons.injEq, and_true] at k0 k1
  subst k0 k1
  have m0 := bulk_partU (List.mem_map.2 ⟨xs[0], List.getElem_mem z0, rfl⟩ : xs[0].1 ∈ xs.map (·.1))
  have m1 := bulk_partU (List.mem_map.2 ⟨xs[1], List.getElem_mem z1, rfl⟩ : xs[1].1 ∈ xs.map (·.1))
  refine ⟨(r, l), rfl, ?_, ?_⟩
  · simp only [Rows.uptoBulk]; omega
  · simp only [Rows.uptoBulk]; omega
theorem open_pvsU {fuel : Nat} {a0 : Option Addr} {len cap : Nat} {x : DataW H × List MemPlace} (h : DataW.trod enc Tryz.prog w base (fun _ => true) held fuel 47 (Value.slice a0 len cap).cells.toList = some x) :
 ∃ l : List (ByteArray × ByteArray), len = l.length ∧ CellsAt w a0 (pvT l) ∧ l.length ≤ maxLen ∧ ∀ p ∈ l, p.1.size ≤ Rows.uptoBulk x.1 ∧ p.2.size ≤ Rows.uptoBulk x.1 :=
 open_structsU (α := ByteArray × ByteArray) (fun p => [.string p.1, .string p.2]) 2 (fun _ => rfl) (by omega) (fun e n => e.1.size ≤ n ∧ e.2.size ≤ n) (fun h h2 => ⟨Nat.le_trans h.1 h2, Nat.le_trans h.2 h2⟩) Tryz.underlying47 (by kernel_rfl) open_twoU h
set_option maxRecDepth 100000 in
theorem open_strU {v : Value} {b : Nat} {r : Reach} {fuel : Nat} {x : DataW H × List MemPlace} (hok : Value.okWide Tryz.prog w r b 9 v)
 (h : DataW.trod enc Tryz.prog w base (fun _ => true) held fuel 9 v.cells.toList = some x) :
 ∃ s, v = .string s ∧ s.size ≤ Rows.uptoBulk x.1 := by
 obtain ⟨s, rfl⟩ : ∃ s, v = .string s := by
  cases v with
  | string s => exact ⟨s, rfl⟩
  | _ => simp [Value.okWide, Cell.okWide, Cell.ok, Tryz.underlying9] at hok
 obtain ⟨t, k5, kt⟩ := bulk_str Tryz.underlying9 h
 simp [Value.cells] at k5
 subst k5
 exact ⟨_, rfl, kt⟩
end
end Go.Proofs.YtjlliohjeiclaaaGreatDoor
