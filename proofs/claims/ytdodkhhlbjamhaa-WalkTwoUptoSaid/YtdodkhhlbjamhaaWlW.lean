
/- Walks of law 08: WalkTwo. -/
import Derived.Test.YtdodkhhlbjamhaaWlG
import Derived.Test.YtdodkhhlbjamhaaWkF
import Derived.Laws.StructEq
import Derived.Deep.CutRange
namespace Go.Proofs.Ytdodkhhlbjamhaa
open Go.RowKit Pm
/-- Has just one of them the key? -/
def dfB (a b : Tr Int) (k : ByteArray) : Bool := (lk 0 (items a) k).2 != (lk 0 (items b) k).2
def cntD (a b : Tr Int) (L : List ByteArray) (i : Nat) : Nat := ((L.take i).filter (dfB a b)).length
theorem cntD_succ {a b : Tr Int} {L : List ByteArray} {i : Nat} {q : ByteArray} (h : L[i]? = some q) : cntD a b L (i + 1) = cntD a b L i + if dfB a b q = true then 1 else 0 := by
  unfold cntD
  obtain ⟨h1, h2⟩ := List.getElem?_eq_some_iff.1 h
  rw [List.take_succ_eq_append_getElem h1, List.filter_append, List.length_append, h2, List.filter_cons]
  split <;> simp_all
theorem cntD_le (a b : Tr Int) (L : List ByteArray) (i : Nat) : cntD a b L i ≤ i := by
  unfold cntD
  refine Nat.le_trans (List.length_filter_le _ _) ?_
  simp; omega
theorem keys_nodup {α : Type} {l : List (ByteArray × α)} (h : Srt l) : (l.map (·.1)).Nodup := by
  unfold List.Nodup
  rw [List.pairwise_map]
  exact h.imp fun hxy => klt_ne hxy
theorem chg_count {a b : Tr Int} {LC : List (Chg1 Int)} (h : Chg 0 (items a) (items b) LC) (sa : Srt (items a)) (sb : Srt (items b)) : LC.length = cntD a b (keysL [a, b]) (keysL [a, b]).length := by
  have hk : keysL [a, b] = (items a).map (·.1) ++ (items b).map (·.1) := by simp [keysL]
  unfold cntD
  rw [List.take_length, hk]
  have n1 : (LC.map (·.1)).Nodup := by
    unfold List.Nodup
    rw [List.pairwise_map]
    exact h.srt.imp fun hxy => klt_ne hxy
  have n2 : (((items a).map (·.1) ++ (items b).map (·.1)).filter (dfB a b)).Nodup := by
    rw [List.filter_append, List.nodup_append]
    refine ⟨(keys_nodup sa).filter _, (keys_nodup sb).filter _, fun x hx y hy e => ?_⟩
    subst e
    obtain ⟨hx1, hx2⟩ := List.mem_filter.1 hx
    obtain ⟨hy1, _⟩ := List.mem_filter.1 hy
    have e1 : (lk 0 (items a) x).2 = true := (lk_has (z := (0 : Int))).2 (by obtain ⟨y, h1, h2⟩ := List.mem_map.1 hx1; exact ⟨y, h1, h2⟩)
    have e2 : (lk 0 (items b) x).2 = true := (lk_has (z := (0 : Int))).2 (by obtain ⟨y, h1, h2⟩ := List.mem_map.1 hy1; exact ⟨y, h1, h2⟩)
    unfold dfB at hx2
    rw [e1, e2] at hx2
    cases hx2
  have hm : ∀ k, k ∈ LC.map (·.1) ↔ k ∈ ((items a).map (·.1) ++ (items b).map (·.1)).filter (dfB a b) := fun k => by
    rw [List.mem_filter, List.mem_map]
    constructor
    · rintro ⟨x, hx, rfl⟩
      obtain ⟨e1, e2, e3⟩ := (h.mem x).1 hx
      refine ⟨?_, by unfold dfB; rw [← e1, ← e2]; simpa using e3⟩
      rw [List.mem_append, List.mem_map, List.mem_map]
      exact h.has hx
    · rintro ⟨_, hd⟩
      refine ⟨(k, lk 0 (items a) k, lk 0 (items b) k), (h.mem _).2 ⟨rfl, rfl, ?_⟩, rfl⟩
      unfold dfB at hd
      simpa using hd
  have h1 := nodup_le _ _ n1 fun x hx => (hm x).1 hx
  have h2 := nodup_le _ _ n2 fun x hx => (hm x).2 hx
  rw [List.length_map] at h1 h2
  omega
theorem chg_nil (W : World) (f : Nat) (env : Array Value) : (binOp .eql 54 (.func (.func f) #[] env) .nilFunc).run Try.prog W = .ok (.bool false) W := by
  have hp := Try.underlying54
  have h : ∀ d : Nat, (Op.equalIn (d + 1) 54 (.func (.func f) #[] env) .nilFunc).run Try.prog W = .ok false W := fun d => by simp [Op.equalIn, run_underlying hp]
  simp only [binOp]
  simp [Op.equal, Op.maxDepth, h 9999]
theorem heap_kept {A A' : World} {row : Option Nat} (hg : A.grownBy A' row) (hr : ∀ r, row = some r → ∃ o : Obj, A.heap[r]? = some o ∧ o.isCells = false) {g : Nat} {c : Array Value} {t : TypeId} {fr : Nat × Nat} (h : A.heap[g]? = some (.cells c t fr)) : A'.heap[g]? = some (.cells c t fr) := by
  refine (hg.block g (Array.getElem?_eq_some_iff.1 h).1 fun e => ?_).trans h
  obtain ⟨o, ho, hc⟩ := hr g e.symm
  rw [h] at ho; cases ho; cases hc
/-- The last key that was handed over. -/
def lastC (pre : List (Chg1 Int)) : ByteArray := match pre.getLast? with
  | some x => x.1
  | none => ⟨#[]⟩
theorem lastC_snoc (pre : List (Chg1 Int)) (x : Chg1 Int) : lastC (pre ++ [x]) = x.1 := by simp [lastC]
/-- Between two rounds of a turn. -/
def TwI (H : List (Nat × Obj)) (y c : Nat) (w9 : World) (pre : List (Chg1 Int)) (W : World) : Prop :=
  Facts H W ∧ Boxed W c 3 (.int .i64 (pre.length : Int)) ∧ Boxed W (c + 1) 9 (.string (lastC pre)) ∧ Below y w9 W
theorem twI_own {H : List (Nat × Obj)} {y c : Nat} {w9 : World} {B : Nat} (hH : ∀ p ∈ H, p.1 < B) (hc : c + 1 < B) (h1 : y ≤ w9.heap.size) (h2 : y ≤ B) : OwnFrom B (TwI H y c w9) := by
  rintro pre A A' row ⟨a1, a2, a3, a4⟩ hg hr
  exact ⟨facts_own (β := Unit) H B hH () A A' row a1 hg hr, own_block (β := Unit) (by omega) () A A' row a2 hg hr, own_block (β := Unit) hc () A A' row a3 hg hr, ownFrom_below (β := Unit) h1 h2 () A A' row a4 hg hr⟩
attribute [local go_sem] Oper.semAt_some
/-- The slots of a turn: those that are known, those that are not. -/
def twT (g : Nat → Value) (z c cn cf T : Nat) : Array Value := #[g 0, g 1, g 2, .pointer (some ⟨z + 1, 0, none⟩), .pointer (some ⟨z + 1 + 1, 0, none⟩), g 5, .pointer (some ⟨c + 1, 0, none⟩), .pointer (some ⟨c + 1 + 1, 0, none⟩), g 8, g 9, .int .i64 (cn : Int), g 11, g 12, g 13, g 14, .func (.func 38) #[] #[.pointer (some ⟨cf, 0, none⟩), .pointer (some ⟨cf + 1, 0, none⟩)], .pointer (some ⟨T, 0, none⟩), g 17, g 18, g 19, g 20, g 21, g 22, g 23, g 24, g 25, g 26, g 27, g 28, g 29, g 30, g 31, g 32, g 33, g 34, g 35, g 36, g 37, g 38, g 39, g 40, g 41, g 42, g 43, g 44, g 45, g 46, g 47, g 48, g 49, g 50, g 51, g 52, g 53, g 54, g 55, g 56, g 57, g 58, g 59, g 60, g 61, g 62, g 63, g 64, g 65, g 66, g 67, g 68, g 69, g 70, g 71, g 72, g 73, g 74, g 75, g 76, g 77, g 78, g 79, g 80, g 81, g 82, g 83, g 84, g 85, g 86, g 87, g 88, g 89, g 90, g 91, g 92, g 93, g 94, g 95, g 96, g 97, g 98, g 99, g 100, g 101, g 102, g 103, g 104, g 105, g 106, g 107, g 108, g 109, g 110, g 111, g 112, g 113, g 114, g 115, g 116, g 117, g 118, g 119, g 120, g 121, g 122, g 123, g 124, g 125, g 126, g 127, g 128, g 129, g 130, g 131, g 132, g 133, g 134, g 135, g 136, g 137, g 138, g 139, g 140, g 141, g 142, g 143]
set_option maxRecDepth 100000 in
set_option maxHeartbeats 8000000 in
theorem wl_Two (x : Thr) (leave : Int) (w : World) (hx : x.At w) : Calls Try.prog 6 #[.agg x.vs, .int .i64 leave] w fun e w' => e = .returned (.bool true) ∧ Below w.heap.size w w' := by
  obtain ⟨z, hz0⟩ : ∃ z, w.heap.size = z := ⟨_, rfl⟩
  obtain ⟨w1, hw1⟩ : ∃ W, allocs w [.cells x.vs 25, .cells #[.int .i64 leave] 3, .cells #[.bool false] 4] = W := ⟨_, rfl⟩
  have hb : Below w.heap.size w w1 := by rw [← hw1]; exact allocs_below _ _
  have hx1 : ∀ i ob, [Obj.cells x.vs 25, .cells #[.int .i64 leave] 3, .cells #[.bool false] 4][i]? = some ob → w1.heap[z + i]? = some ob := fun i ob h => by have := allocs_get _ w i ob h; rw [hw1, hz0] at this; exact this
  have r0 : w1.heap[z]? = some (.cells x.vs 25 (0, 0)) := hx1 0 _ rfl
  have G1 : Hid (Facts [(z + 1, .cells #[.int .i64 leave] 3 (0, 0)), (z + 1 + 1, .cells #[.bool false] 4 (0, 0))] w1) := Lib.hid (fun p hp => by
    simp only [List.mem_cons, List.not_mem_nil, or_false] at hp
    rcases hp with rfl | rfl
    · exact hx1 1 _ rfl
    · exact hx1 2 _ rfl)
  have hw1' : ((w.alloc (.cells x.vs 25)).alloc (.cells #[.int .i64 leave] 3)).alloc (.cells #[.bool false] 4) = w1 := hw1
  have HW := Lib.hid hw1'
  have HX := Lib.hid (hx.below hb)
  have B1 := Lib.hid hb
  have R0 := Lib.hid r0
  have cs := row8 r0
  clear hw1 hw1' hx hb r0 hx1
  refine (callsIn_wide (n := 6)).1 ?_
  refine callsIn_of_wp_marks Try.func6 rfl trivial ?_ rfl
  simp only [Try.ntmps6, List.size_toArray, List.length_cons, List.length_nil, Nat.reduceAdd, Nat.reduceSub, Array.replicate_succ, Array.replicate_zero, List.push_toArray, List.append_toArray, List.nil_append, List.cons_append]
  refine wpIn_wide.2 ?_
  go_upto_region 1 with (fail)
  rw [HW.out]
  obtain ⟨s0, s1, s2, s3, s4, s5, s6, s7⟩ := cs
  go_wp2_with fail
  refine (wl_few x w1).mono ?_
  rintro e w2 ⟨rfl, hb⟩
  have B2 : Hid (Below w.heap.size w w2) := Lib.hid (B1.out.trans (hb.mono B1.out.size))
  have R2 := Lib.hid (boxStays R0.out hb)
  have X2 := Lib.hid (HX.out.below hb)
  have G2 := Lib.hid (G1.out.below hb)
  clear hb R0 HX B1 HW G1 s0 s1 s2 s3 s4 s5 s6 s7
  cases hfew : x.few with
  | false =>
    go_wp2_with fail
    refine (wl_known w2).mono ?_
    rintro e w3 ⟨rfl, hb⟩
    have r3 : Boxed w3 (z + 1 + 1) 4 (.bool false) := (G2.out.below hb) _ (List.mem_cons_of_mem _ List.mem_cons_self)
    have R3 := Lib.hid r3
    have k3 := cell_of_one r3
    have f3 := frozen_of_row _ (z + 1 + 1) 0 _ _ r3
    have B3 : Hid (Below w.heap.size w w3) := Lib.hid (B2.out.trans (hb.mono B2.out.size))
    clear hb r3
    go_wp2_with fail
    show LeavesInM _ _ _ _ _ _ (marks []) _ _
    refine leaves_marks [] _ (by simp) (fun p hp => by simp [markF] at hp) ?_
    intro W' e1 e2 e3 e4 e5
    have c4 : W'.cell? ⟨z + 1 + 1, 0, none⟩ = some (.bool true) := cell_of_one ((e5 (z + 1 + 1) (by simp)).trans (Boxed.set (t := 4) (v := .bool false) (.bool true) R3.out))
    have b4 : Below w.heap.size w (w3.setCell ⟨z + 1 + 1, 0, none⟩ (.bool true)) := B3.out.setCell (p := ⟨z + 1 + 1, 0, none⟩) (by simp; omega) _
    refine ⟨.bool true, by simp [results, Try.results6, go_sem, c4], rfl, ?_⟩
    exact ⟨e1.trans b4.os, e2.trans b4.tape, e3.trans b4.output, by rw [e4]; exact b4.size, fun k hk => (e5 k (by simp)).trans (b4.block k hk)⟩
  | true =>
    obtain ⟨s0, s1, s2, s3, s4, s5, s6, s7⟩ := row8 R2.out
    go_wp2_with fail
    refine (wl_maps x w2 X2.out hfew).mono ?_
    rintro e w3 ⟨s, a, b, rfl, gs, ga, gb, zs, za, zb, hs, ha, hbt, hb⟩
    clear s0 s1 s2 s3 s4 s5 s6 s7 hfew
    go_upto_region 4 with (fail)
    obtain ⟨c, hc⟩ : ∃ c, w3.heap.size = c := ⟨_, rfl⟩
    rw [hc]
    obtain ⟨v3, hv3⟩ : ∃ W, allocs w3 [.cells #[.pointer (pa s)] 29, .cells #[.pointer (pa a)] 29, .cells #[.pointer (pa b)] 29] = W := ⟨_, rfl⟩
    rw [show ((w3.alloc (.cells #[.pointer (pa s)] 29)).alloc (.cells #[.pointer (pa a)] 29)).alloc (.cells #[.pointer (pa b)] 29) = v3 from hv3]
    have hb3 : Below w3.heap.size w3 v3 := by rw [← hv3]; exact allocs_below _ _
    have hx3 : ∀ i ob, [Obj.cells #[.pointer (pa s)] 29, .cells #[.pointer (pa a)] 29, .cells #[.pointer (pa b)] 29][i]? = some ob → v3.heap[c + i]? = some ob := fun i ob h => by have := allocs_get _ w3 i ob h; rw [hv3, hc] at this; exact this
    have hbb := hb.trans (hb3.mono hb.size)
    have F3 : Hid (Facts [(c + 1, .cells #[.pointer (pa a)] 29 (0, 0)), (c + 1 + 1, .cells #[.pointer (pa b)] 29 (0, 0)), (z + 1, .cells #[.int .i64 leave] 3 (0, 0)), (z + 1 + 1, .cells #[.bool false] 4 (0, 0))] v3) := Lib.hid (((G2.out.below hbb).cons (hx3 2 _ rfl)).cons (hx3 1 _ rfl))
    have B3 : Hid (Below w.heap.size w v3) := Lib.hid (B2.out.trans (hbb.mono B2.out.size))
    have T3 : Hid (AtI v3 a ∧ AtI v3 b) := Lib.hid ⟨ha.below hb3 rfl, hbt.below hb3 rfl⟩
    have GD : Hid (Gd a ∧ Gd b) := Lib.hid ⟨ga, gb⟩
    have hcw : w.heap.size ≤ c := by have := B2.out.size; have := hb.size; omega
    clear hs ha hbt hb hb3 hbb hx3 hv3 gs ga gb B2 R2 X2 G2
    have k1 : v3.cell? ⟨c + 1, 0, none⟩ = some (.pointer (pa a)) := F3.out.cell (t := 29) (by simp)
    have k2 : v3.cell? ⟨c + 1 + 1, 0, none⟩ = some (.pointer (pa b)) := F3.out.cell (t := 29) (by simp)
    go_wp2_with fail
    refine (wk_Union a b v3 T3.out.1 T3.out.2 GD.out.1.1 GD.out.1.2.1 GD.out.2.2.1 (by omega)).mono ?_
    rintro e w4 ⟨u, rfl, hu, hub, hus, huz, hul, hb⟩
    have UU := Lib.hid (And.intro hub (And.intro hus hul))
    clear hub hus huz hul k1 k2
    go_upto_region 5 with (fail)
    obtain ⟨d0, hd0⟩ : ∃ c, w4.heap.size = c := ⟨_, rfl⟩
    rw [hd0]
    obtain ⟨v4, hv4⟩ : ∃ W, w4.alloc (.cells #[.pointer (pa u)] 29) = W := ⟨_, rfl⟩
    rw [hv4]
    have hb4 : Below w4.heap.size w4 v4 := by rw [← hv4]; exact below_new _ _
    have hbb := hb.trans (hb4.mono hb.size)
    have F4 : Hid (Facts [(d0, .cells #[.pointer (pa u)] 29 (0, 0)), (c + 1, .cells #[.pointer (pa a)] 29 (0, 0)), (c + 1 + 1, .cells #[.pointer (pa b)] 29 (0, 0)), (z + 1, .cells #[.int .i64 leave] 3 (0, 0)), (z + 1 + 1, .cells #[.bool false] 4 (0, 0))] v4) := Lib.hid ((F3.out.below hbb).cons (by rw [← hv4, ← hd0]; exact heap_alloc_new _ _))
    have B4 : Hid (Below w.heap.size w v4) := Lib.hid (B3.out.trans (hbb.mono B3.out.size))
    have T4 : Hid (∀ t ∈ [a, b, u], AtI v4 t) := Lib.hid (by
      intro t ht
      simp only [List.mem_cons, List.not_mem_nil, or_false] at ht
      rcases ht with rfl | rfl | rfl
      · exact T3.out.1.below hbb rfl
      · exact T3.out.2.below hbb rfl
      · exact hu.below hb4 rfl)
    clear hb hb4 hbb hv4 hd0 hu F3 B3 T3
    have k1 : v4.cell? ⟨c + 1, 0, none⟩ = some (.pointer (pa a)) := F4.out.cell (t := 29) (by simp)
    have k2 : v4.cell? ⟨c + 1 + 1, 0, none⟩ = some (.pointer (pa b)) := F4.out.cell (t := 29) (by simp)
    have hb6 := below_new v4 (.cells #[.pointer (pa a), .pointer (pa b)] 29)
    have KEYS := Lib.hid (wl_keys [a, b] (some ⟨v4.heap.size, 0, none⟩) 2 _ (CellsAt.new v4 29 (0, 0) (ptrV [a, b])) (fun t ht => ⟨(T4.out t (by simp at ht ⊢; rcases ht with h | h <;> simp [h])).below hb6 rfl, by simp at ht; rcases ht with rfl | rfl <;> omega⟩) (by simp))
    have F6 := Lib.hid (F4.out.below hb6)
    have B6 : Hid (Below w.heap.size w (v4.alloc (.cells #[.pointer (pa a), .pointer (pa b)] 29))) := Lib.hid (B4.out.trans (hb6.mono B4.out.size))
    have T6 : Hid (∀ t ∈ [a, b, u], AtI (v4.alloc (.cells #[.pointer (pa a), .pointer (pa b)] 29)) t) := Lib.hid (fun t ht => (T4.out t ht).below hb6 rfl)
    clear hb6 F4 B4 T4
    go_wp2_with fail
    refine KEYS.out.mono ?_
    rintro e w7 ⟨lv, rfl, hown, hb⟩
    obtain ⟨L, hL⟩ : ∃ L, keysL [a, b] = L := ⟨_, rfl⟩
    rw [hL] at hown
    obtain ⟨N, hN⟩ : ∃ N, L.length = N := ⟨_, rfl⟩
    rw [hN] at hown
    obtain ⟨ka, kc, rfl⟩ := own_shape1 hown
    have hNl : N ≤ 160 := by
      rw [← hN, ← hL]
      have := keysL_len [a, b] 80 (by intro t ht; simp at ht; rcases ht with rfl | rfl <;> omega)
      simpa using this
    obtain ⟨H, hH⟩ : ∃ H : List (Nat × Obj), [(d0, .cells #[.pointer (pa u)] 29 (0, 0)), (c + 1, .cells #[.pointer (pa a)] 29 (0, 0)), (c + 1 + 1, .cells #[.pointer (pa b)] 29 (0, 0)), (z + 1, .cells #[.int .i64 leave] 3 (0, 0)), (z + 1 + 1, .cells #[.bool false] 4 (0, 0))] = H := ⟨_, rfl⟩
    have EE : Hid (ElE H [a, b, u] ka L w w7) := Lib.hid ⟨by rw [← hH]; exact F6.out.below hb, fun t ht => (T6.out t ht).below hb rfl, CellsAt.own hown, B6.out.trans (hb.mono B6.out.size)⟩
    have HM : Hid ((d0, Obj.cells #[.pointer (pa u)] 29 (0, 0)) ∈ H ∧ (c + 1, Obj.cells #[.pointer (pa a)] 29 (0, 0)) ∈ H ∧ (c + 1 + 1, Obj.cells #[.pointer (pa b)] 29 (0, 0)) ∈ H ∧ (z + 1, Obj.cells #[.int .i64 leave] 3 (0, 0)) ∈ H ∧ (z + 1 + 1, Obj.cells #[.bool false] 4 (0, 0)) ∈ H) := Lib.hid (by rw [← hH]; simp)
    have HL := Lib.hid hL
    have HN := Lib.hid hN
    have HHH := Lib.hid hH
    clear hown hb F6 B6 T6 KEYS hL hN k1 k2 hH
    go_wp2_with fail
    go_loopw [10, 11] (fun u10 u11 wr => ∃ i : Nat, u11 = .int .i64 (i : Int) ∧ u10 = .int .i64 ((cntD a b L i : Nat) : Int) ∧ i ≤ N ∧ Hid (ElE H [a, b, u] ka L w wr)) (fun _ u11 _ => N - (intOf u11).toNat)
    case atStart => exact ⟨0, rfl, rfl, Nat.zero_le _, EE⟩
    case round =>
      clear EE
      obtain ⟨i, rfl, rfl, hi, E⟩ := hrel
      by_cases hlt : i < N
      · have hli : (i : Int) < (N : Int) := by omega
        have hil : i < L.length := by rw [HN.out]; exact hlt
        obtain ⟨q, hq⟩ : ∃ q, L[i]'hil = q := ⟨_, rfl⟩
        have hqs : L[i]? = some q := by rw [List.getElem?_eq_getElem hil, hq]
        obtain ⟨bk, ok, hak, hck⟩ := E.out.k.get i (.string q) (by simp [strV, hqs])
        subst hak
        have HCK := Lib.hid hck
        have HQ := Lib.hid hqs
        obtain ⟨cn, hcn⟩ : ∃ cn, cntD a b L i = cn := ⟨_, rfl⟩
        have HCN := Lib.hid (And.intro (cntD_succ (a := a) (b := b) hqs) hcn)
        have hcnl : cn ≤ 160 := by have := cntD_le a b L i; omega
        rw [hcn]
        clear hqs hq hck hcn
        go_wp2_with fail
        go_cut [12, 13] from 44 to 55 (fun s12 s13 wx => ∃ c12 c13 : Nat, s12 = .pointer (some ⟨c12, 0, none⟩) ∧ s13 = .pointer (some ⟨c13, 0, none⟩) ∧ Hid (wx.heap[c12]? = some (.cells #[.int .i64 (prtTI a q).1, .bool (prtTI a q).2] 33 (0, 0)) ∧ wx.heap[c13]? = some (.cells #[.int .i64 (prtTI b q).1, .bool (prtTI b q).2] 33 (0, 0))) ∧ Hid (ElE H [a, b, u] (some ⟨bk, ok, none⟩) L w wx))
        case first =>
          refine wp_named fun base hbase => ?_
          have b6 : base.getD 6 undef = .pointer (some ⟨c + 1, 0, none⟩) := by rw [hbase]; rfl
          have b7 : base.getD 7 undef = .pointer (some ⟨c + 1 + 1, 0, none⟩) := by rw [hbase]; rfl
          have b9 : base.getD 9 undef = .slice (some ⟨bk, ok, none⟩) N kc := by rw [hbase]; rfl
          have b11 : base.getD 11 undef = .int .i64 (i : Int) := by rw [hbase]; rfl
          have bsz : 144 ≤ base.size := by rw [hbase]; simp
          have HBA := Lib.hid hbase
          clear hbase
          obtain ⟨slots, hsl⟩ : ∃ l : List Nat, [12, 13, 44, 45, 46, 47, 48, 49, 50, 51, 52, 53, 54, 55] = l := ⟨_, rfl⟩
          obtain ⟨val, hval⟩ : ∃ val : Nat → Value, (fun j => match j with | 0 => (.agg #[.pointer (pa a)] : Value) | 1 => (.slice (some ⟨bk, ok, none⟩) N kc : Value) | 2 => (.int .i64 (i : Int) : Value) | 3 => (.pointer (some ⟨bk, ok + i, none⟩) : Value) | 4 => (.string q : Value) | 5 => (prtVI (prtTI a q) : Value) | 6 => (.agg #[.pointer (pa b)] : Value) | 7 => (.slice (some ⟨bk, ok, none⟩) N kc : Value) | 8 => (.int .i64 (i : Int) : Value) | 9 => (.pointer (some ⟨bk, ok + i, none⟩) : Value) | 10 => (.string q : Value) | 11 => (prtVI (prtTI b q) : Value) | _ => undef) = val := ⟨_, rfl⟩
          have vl0 : val 0 = .agg #[.pointer (pa a)] := congrFun hval.symm 0
          have vl1 : val 1 = .slice (some ⟨bk, ok, none⟩) N kc := congrFun hval.symm 1
          have vl2 : val 2 = .int .i64 (i : Int) := congrFun hval.symm 2
          have vl3 : val 3 = .pointer (some ⟨bk, ok + i, none⟩) := congrFun hval.symm 3
          have vl4 : val 4 = .string q := congrFun hval.symm 4
          have vl5 : val 5 = prtVI (prtTI a q) := congrFun hval.symm 5
          have vl6 : val 6 = .agg #[.pointer (pa b)] := congrFun hval.symm 6
          have vl7 : val 7 = .slice (some ⟨bk, ok, none⟩) N kc := congrFun hval.symm 7
          have vl8 : val 8 = .int .i64 (i : Int) := congrFun hval.symm 8
          have vl9 : val 9 = .pointer (some ⟨bk, ok + i, none⟩) := congrFun hval.symm 9
          have vl10 : val 10 = .string q := congrFun hval.symm 10
          have vl11 : val 11 = prtVI (prtTI b q) := congrFun hval.symm 11
          obtain ⟨V, hV⟩ : ∃ V : List (Nat × Nat × Value), (List.range 12).map (fun j => (j, 44 + j, val j)) = V := ⟨_, rfl⟩
          have hVm : ∀ j, j < 12 → (j, 44 + j, val j) ∈ V := fun j hj => by rw [← hV]; exact List.mem_map.2 ⟨j, List.mem_range.2 hj, rfl⟩
          have hVi : ∀ j, j < 12 → ∀ p ∈ V, (p.1 = j ↔ p.2.1 = 44 + j) ∧ (p.1 = j → p.2.2 = val j) := fun j hj p hp => by
            rw [← hV] at hp
            obtain ⟨k, _, rfl⟩ := List.mem_map.1 hp
            dsimp only
            exact ⟨by omega, fun e => by rw [e]⟩
          have hs1 : ∀ k, 44 ≤ k → k < 56 → slots.contains k = true := fun k h1 h2 => by rw [← hsl]; simp; omega
          have hs2 : ∀ k, 44 ≤ k → k < 56 → k ∈ slots := fun k h1 h2 => by rw [← hsl]; simp; omega
          have hs3 : ∀ k, k < 12 → k ∉ slots := fun k h1 => by rw [← hsl]; simp; omega
          have hs4 : ∀ k, 12 ≤ k → k < 14 → k ∈ slots := fun k h1 h2 => by rw [← hsl]; simp; omega
          have bszz : 144 ≤ base.size := bsz
          obtain ⟨vv, hvv⟩ : ∃ vv : Nat → Array Value, (fun d => match d with | 12 => #[.int .i64 (prtTI a q).1, .bool (prtTI a q).2] | _ => #[.int .i64 (prtTI b q).1, .bool (prtTI b q).2]) = vv := ⟨_, rfl⟩
          have vv12 : vv 12 = #[.int .i64 (prtTI a q).1, .bool (prtTI a q).2] := congrFun hvv.symm 12
          have vv13 : vv 13 = #[.int .i64 (prtTI b q).1, .bool (prtTI b q).2] := congrFun hvv.symm 13
          obtain ⟨rows, hrw⟩ : ∃ l : List (Nat × Nat × Nat), [(12, 14, 12), (13, 15, 13)] = l := ⟨_, rfl⟩
          have hrk : rowsOK rows = true := by rw [← hrw]; decide
          have hr1 : (12, 14, 12) ∈ rows := by rw [← hrw]; decide
          have hr2 : (13, 15, 13) ∈ rows := by rw [← hrw]; decide
          have hrl : ∀ r ∈ rows, 12 ≤ r.1 ∧ 12 ≤ r.2.1 ∧ r.2.2 < 44 := by rw [← hrw]; decide
          obtain ⟨M, hMd⟩ : ∃ M : (Nat → Bool) → (Nat → Value) → World → Prop, (fun X f w1 => Hid (Below wr.heap.size wr w1) ∧ Als 33 wr.heap.size rows #[.int .i64 0, .bool false] vv X f w1) = M := ⟨_, rfl⟩
          have hM : ∀ i d v, i < 12 → 44 ≤ d → ∀ X f w1 w2, M X f w1 → Below w1.heap.size w1 w2 → M (fun j => j == i || X j) (updF f d v) w2 := by
            rw [← hMd]
            rintro i d v hi hd X f w1 w2 ⟨h1, h2⟩ hb
            have e : ∀ j, 12 ≤ j → (j == i || X j) = X j := fun j hj => by rw [show (j == i) = false from (by simp; omega)]; rfl
            have u : ∀ k, k < 44 → updF f d v k = f k := fun k hk => by unfold updF; rw [if_neg (by omega)]
            exact ⟨Lib.hid (h1.out.trans (hb.mono h1.out.size)), h2.keep hb fun r hr => ⟨e _ (hrl r hr).1, e _ (hrl r hr).2.1, u _ (hrl r hr).2.2⟩⟩
          have hME : ∀ X f w1, M X f w1 → ElE H [a, b, u] (some ⟨bk, ok, none⟩) L w w1 := by rw [← hMd]; rintro X f w1 ⟨h1, _⟩; exact E.out.below h1.out
          have HMD2 := Lib.hid hMd
          have hst : M (fun _ => false) (fun k => base.getD k undef) wr.drew := by
            rw [← hMd]
            exact ⟨Lib.hid (Below.refl _ wr).drew, Als.start fun _ => rfl⟩
          have hVr : ∀ p ∈ V, p.1 < 12 ∧ p.2.1 = 44 + p.1 := fun p hp => by
            rw [← hV] at hp
            obtain ⟨k, hk, rfl⟩ := List.mem_map.1 hp
            exact ⟨List.mem_range.1 hk, rfl⟩
          have hJ : ∀ (X : Nat → Bool) (f g : Nat → Value) (k : Nat) (w1 : World) (t : Array Value), 12 ≤ k → (∀ p ∈ V, X p.1 = true → f p.2.1 = p.2.2) → (∀ j, 44 ≤ j → g j = f j) → t = regT base slots g → M (fun j => j == k || X j) g w1 → RegJ base [] slots V M (fun j => j == k || X j) { tmps := t, defers := [] } w1 := by
            rintro X f g k w1 t hk hv hg rfl hm
            refine ⟨g, rfl, fun p hp hX => ?_, hm⟩
            obtain ⟨e1, e2⟩ := hVr p hp
            rw [hg _ (by omega)]
            refine hv p hp ?_
            have hX2 : (p.1 == k || X p.1) = true := hX
            rw [show (p.1 == k) = false from (by simp; omega)] at hX2
            exact hX2
          clear hMd hval hV
          refine region_inv (RegJ base [] slots V M) (by kernel_rfl) (by kernel_rfl) (regJ_start hst) ?_ ?_
          · intro k hk
            have hk24 : k < 16 := hk
            have hk' : k = 0 ∨ k = 1 ∨ k = 2 ∨ k = 3 ∨ k = 4 ∨ k = 5 ∨ k = 6 ∨ k = 7 ∨ k = 8 ∨ k = 9 ∨ k = 10 ∨ k = 11 ∨ k = 12 ∨ k = 13 ∨ k = 14 ∨ k = 15 := by omega
            rcases hk' with rfl | rfl | rfl | rfl | rfl | rfl | rfl | rfl | rfl | rfl | rfl | rfl | rfl | rfl | rfl | rfl
            · refine regJ_fixed (d := 44) (v := val 0) rfl rfl rfl (hs1 44 (by omega) (by omega)) (hVi 0 (by omega)) (fun w w' => Below w.heap.size w w') (hM 0 44 _ (by omega) (by omega)) ?_
              intro X f w1 hv hm hp K hK
              have EM := hME X f w1 hm
              rw [vl0] at hK
              have e6 : (regT base slots f).getD 6 undef = _ := (regT_out (hs3 6 (by omega))).trans b6
              have k1 : w1.cell? ⟨c + 1, 0, none⟩ = some (.pointer (pa a)) := EM.f.cell (t := 29) HM.out.2.1
              clear hv hm hp EM
              go_simp
              exact hK.out w1 (Below.refl _ _)
            · refine regJ_fixed (d := 45) (v := val 1) rfl rfl rfl (hs1 45 (by omega) (by omega)) (hVi 1 (by omega)) (fun w w' => Below w.heap.size w w') (hM 1 45 _ (by omega) (by omega)) ?_
              intro X f w1 hv hm hp K hK
              have EM := hME X f w1 hm
              rw [vl1] at hK
              have e9 : (regT base slots f).getD 9 undef = _ := (regT_out (hs3 9 (by omega))).trans b9
              clear hv hm hp EM
              go_simp
              exact hK.out w1 (Below.refl _ _)
            · refine regJ_fixed (d := 46) (v := val 2) rfl rfl rfl (hs1 46 (by omega) (by omega)) (hVi 2 (by omega)) (fun w w' => Below w.heap.size w w') (hM 2 46 _ (by omega) (by omega)) ?_
              intro X f w1 hv hm hp K hK
              have EM := hME X f w1 hm
              rw [vl2] at hK
              have e11 : (regT base slots f).getD 11 undef = _ := (regT_out (hs3 11 (by omega))).trans b11
              clear hv hm hp EM
              go_simp
              exact hK.out w1 (Below.refl _ _)
            · refine regJ_fixed (d := 47) (v := val 3) rfl rfl rfl (hs1 47 (by omega) (by omega)) (hVi 3 (by omega)) (fun w w' => Below w.heap.size w w') (hM 3 47 _ (by omega) (by omega)) ?_
              intro X f w1 hv hm hp K hK
              have EM := hME X f w1 hm
              rw [vl3] at hK
              have e45 : (regT base slots f).getD 45 undef = .slice (some ⟨bk, ok, none⟩) N kc := (regT_in (hs2 45 (by omega) (by omega)) (by omega)).trans ((hv _ (hVm 1 (by omega)) (hp 1 (of_decide_eq_true (by kernel_rfl)))).trans vl1)
              have e46 : (regT base slots f).getD 46 undef = .int .i64 (i : Int) := (regT_in (hs2 46 (by omega) (by omega)) (by omega)).trans ((hv _ (hVm 2 (by omega)) (hp 2 (of_decide_eq_true (by kernel_rfl)))).trans vl2)
              clear hv hm hp EM
              go_simp
              exact hK.out w1 (Below.refl _ _)
            · refine regJ_fixed (d := 48) (v := val 4) rfl rfl rfl (hs1 48 (by omega) (by omega)) (hVi 4 (by omega)) (fun w w' => Below w.heap.size w w') (hM 4 48 _ (by omega) (by omega)) ?_
              intro X f w1 hv hm hp K hK
              have EM := hME X f w1 hm
              rw [vl4] at hK
              have e47 : (regT base slots f).getD 47 undef = .pointer (some ⟨bk, ok + i, none⟩) := (regT_in (hs2 47 (by omega) (by omega)) (by omega)).trans ((hv _ (hVm 3 (by omega)) (hp 3 (of_decide_eq_true (by kernel_rfl)))).trans vl3)
              obtain ⟨b', o', h1, k1⟩ := EM.k.get i (.string q) (by simp [strV, HQ.out])
              cases h1
              clear hv hm hp EM
              go_simp
              exact hK.out w1 (Below.refl _ _)
            · refine regJ_fixed (d := 49) (v := val 5) rfl rfl rfl (hs1 49 (by omega) (by omega)) (hVi 5 (by omega)) (fun w w' => Below w.heap.size w w') (hM 5 49 _ (by omega) (by omega)) ?_
              intro X f w1 hv hm hp K hK
              have EM := hME X f w1 hm
              rw [vl5] at hK
              have e44 : (regT base slots f).getD 44 undef = .agg #[.pointer (pa a)] := (regT_in (hs2 44 (by omega) (by omega)) (by omega)).trans ((hv _ (hVm 0 (by omega)) (hp 0 (of_decide_eq_true (by kernel_rfl)))).trans vl0)
              have e48 : (regT base slots f).getD 48 undef = .string q := (regT_in (hs2 48 (by omega) (by omega)) (by omega)).trans ((hv _ (hVm 4 (by omega)) (hp 4 (of_decide_eq_true (by kernel_rfl)))).trans vl4)
              have AT := EM.t _ (List.mem_cons_self)
              clear hv hm hp EM
              go_simp
              refine (wk_part a q w1 AT).mono ?_
              rintro e w2 ⟨rfl, hb⟩
              exact hK.out w2 hb
            · refine regJ_fixed (d := 50) (v := val 6) rfl rfl rfl (hs1 50 (by omega) (by omega)) (hVi 6 (by omega)) (fun w w' => Below w.heap.size w w') (hM 6 50 _ (by omega) (by omega)) ?_
              intro X f w1 hv hm hp K hK
              have EM := hME X f w1 hm
              rw [vl6] at hK
              have e7 : (regT base slots f).getD 7 undef = _ := (regT_out (hs3 7 (by omega))).trans b7
              have k1 : w1.cell? ⟨c + 1 + 1, 0, none⟩ = some (.pointer (pa b)) := EM.f.cell (t := 29) HM.out.2.2.1
              clear hv hm hp EM
              go_simp
              exact hK.out w1 (Below.refl _ _)
            · refine regJ_fixed (d := 51) (v := val 7) rfl rfl rfl (hs1 51 (by omega) (by omega)) (hVi 7 (by omega)) (fun w w' => Below w.heap.size w w') (hM 7 51 _ (by omega) (by omega)) ?_
              intro X f w1 hv hm hp K hK
              have EM := hME X f w1 hm
              rw [vl7] at hK
              have e9 : (regT base slots f).getD 9 undef = _ := (regT_out (hs3 9 (by omega))).trans b9
              clear hv hm hp EM
              go_simp
              exact hK.out w1 (Below.refl _ _)
            · refine regJ_fixed (d := 52) (v := val 8) rfl rfl rfl (hs1 52 (by omega) (by omega)) (hVi 8 (by omega)) (fun w w' => Below w.heap.size w w') (hM 8 52 _ (by omega) (by omega)) ?_
              intro X f w1 hv hm hp K hK
              have EM := hME X f w1 hm
              rw [vl8] at hK
              have e11 : (regT base slots f).getD 11 undef = _ := (regT_out (hs3 11 (by omega))).trans b11
              clear hv hm hp EM
              go_simp
              exact hK.out w1 (Below.refl _ _)
            · refine regJ_fixed (d := 53) (v := val 9) rfl rfl rfl (hs1 53 (by omega) (by omega)) (hVi 9 (by omega)) (fun w w' => Below w.heap.size w w') (hM 9 53 _ (by omega) (by omega)) ?_
              intro X f w1 hv hm hp K hK
              have EM := hME X f w1 hm
              rw [vl9] at hK
              have e51 : (regT base slots f).getD 51 undef = .slice (some ⟨bk, ok, none⟩) N kc := (regT_in (hs2 51 (by omega) (by omega)) (by omega)).trans ((hv _ (hVm 7 (by omega)) (hp 7 (of_decide_eq_true (by kernel_rfl)))).trans vl7)
              have e52 : (regT base slots f).getD 52 undef = .int .i64 (i : Int) := (regT_in (hs2 52 (by omega) (by omega)) (by omega)).trans ((hv _ (hVm 8 (by omega)) (hp 8 (of_decide_eq_true (by kernel_rfl)))).trans vl8)
              clear hv hm hp EM
              go_simp
              exact hK.out w1 (Below.refl _ _)
            · refine regJ_fixed (d := 54) (v := val 10) rfl rfl rfl (hs1 54 (by omega) (by omega)) (hVi 10 (by omega)) (fun w w' => Below w.heap.size w w') (hM 10 54 _ (by omega) (by omega)) ?_
              intro X f w1 hv hm hp K hK
              have EM := hME X f w1 hm
              rw [vl10] at hK
              have e53 : (regT base slots f).getD 53 undef = .pointer (some ⟨bk, ok + i, none⟩) := (regT_in (hs2 53 (by omega) (by omega)) (by omega)).trans ((hv _ (hVm 9 (by omega)) (hp 9 (of_decide_eq_true (by kernel_rfl)))).trans vl9)
              obtain ⟨b', o', h1, k1⟩ := EM.k.get i (.string q) (by simp [strV, HQ.out])
              cases h1
              clear hv hm hp EM
              go_simp
              exact hK.out w1 (Below.refl _ _)
            · refine regJ_fixed (d := 55) (v := val 11) rfl rfl rfl (hs1 55 (by omega) (by omega)) (hVi 11 (by omega)) (fun w w' => Below w.heap.size w w') (hM 11 55 _ (by omega) (by omega)) ?_
              intro X f w1 hv hm hp K hK
              have EM := hME X f w1 hm
              rw [vl11] at hK
              have e50 : (regT base slots f).getD 50 undef = .agg #[.pointer (pa b)] := (regT_in (hs2 50 (by omega) (by omega)) (by omega)).trans ((hv _ (hVm 6 (by omega)) (hp 6 (of_decide_eq_true (by kernel_rfl)))).trans vl6)
              have e54 : (regT base slots f).getD 54 undef = .string q := (regT_in (hs2 54 (by omega) (by omega)) (by omega)).trans ((hv _ (hVm 10 (by omega)) (hp 10 (of_decide_eq_true (by kernel_rfl)))).trans vl10)
              have AT := EM.t _ (List.mem_cons_of_mem _ List.mem_cons_self)
              clear hv hm hp EM
              go_simp
              refine (wk_part b q w1 AT).mono ?_
              rintro e w2 ⟨rfl, hb⟩
              exact hK.out w2 hb
            · refine regJ_other rfl rfl ?_
              intro X f w1 hv hm hL hp K hK
              rw [← HMD2.out] at hm
              have hm2 : M (fun j => j == 12 || X j) (updF f 12 (.pointer (some ⟨w1.heap.size, 0, none⟩))) (w1.alloc (.cells #[.int .i64 0, .bool false] 33)) := by
                rw [← HMD2.out]
                exact ⟨Lib.hid (hm.1.out.trans ((below_new w1 _).mono hm.1.out.size)), hm.2.alloc hrk hm.1.out.size hr1 hL⟩
              have hgo := hJ X f _ 12 _ _ (by omega) hv (fun j hj => by unfold updF; rw [if_neg (by omega)]) (regT_put base slots f 12 (.pointer (some ⟨w1.heap.size, 0, none⟩)) (hs4 12 (by omega) (by omega))) hm2
              clear hm hm2 hv hp
              go_simp
              exact hK.out _ _ hgo
            · refine regJ_other rfl rfl ?_
              intro X f w1 hv hm hL hp K hK
              rw [← HMD2.out] at hm
              have hm2 : M (fun j => j == 13 || X j) (updF f 13 (.pointer (some ⟨w1.heap.size, 0, none⟩))) (w1.alloc (.cells #[.int .i64 0, .bool false] 33)) := by
                rw [← HMD2.out]
                exact ⟨Lib.hid (hm.1.out.trans ((below_new w1 _).mono hm.1.out.size)), hm.2.alloc hrk hm.1.out.size hr2 hL⟩
              have hgo := hJ X f _ 13 _ _ (by omega) hv (fun j hj => by unfold updF; rw [if_neg (by omega)]) (regT_put base slots f 13 (.pointer (some ⟨w1.heap.size, 0, none⟩)) (hs4 13 (by omega) (by omega))) hm2
              clear hm hm2 hv hp
              go_simp
              exact hK.out _ _ hgo
            · refine regJ_other rfl rfl ?_
              intro X f w1 hv hm hL hp K hK
              have e12 : (regT base slots f).getD 12 undef = f 12 := regT_in (hs4 12 (by omega) (by omega)) (by omega)
              have e49 : (regT base slots f).getD 49 undef = .agg #[.int .i64 (prtTI a q).1, .bool (prtTI a q).2] := (regT_in (hs2 49 (by omega) (by omega)) (by omega)).trans ((hv _ (hVm 5 (by omega)) (hp 5 (of_decide_eq_true (by kernel_rfl)))).trans vl5)
              have ha : X 12 = true := hp 12 (of_decide_eq_true (by kernel_rfl))
              rw [← HMD2.out] at hm
              obtain ⟨cc, hf, hcb, hc⟩ := hm.2.b _ hr1 ha
              rw [show X ((12, 14, 12) : Nat × Nat × Nat).2.1 = false from hL, if_neg (by decide)] at hc
              rw [hf] at e12
              have hm2 : M (fun j => j == 14 || X j) f (w1.setRow cc (vv 12)) := by
                rw [← HMD2.out]
                exact ⟨Lib.hid (below_setRow hm.1.out hcb _), hm.2.store hrk hr1 ha hf⟩
              obtain ⟨k1, k2, k3, k4, k5⟩ := store_two (v0 := .int .i64 (prtTI a q).1) (v1 := .bool (prtTI a q).2) hc
              have hgo := hJ X f f 14 _ _ (by omega) hv (fun _ _ => rfl) rfl hm2
              rw [vv12] at hgo
              clear hm hm2 hv hp
              go_simp
              exact hK.out _ _ hgo
            · refine regJ_other rfl rfl ?_
              intro X f w1 hv hm hL hp K hK
              have e13 : (regT base slots f).getD 13 undef = f 13 := regT_in (hs4 13 (by omega) (by omega)) (by omega)
              have e55 : (regT base slots f).getD 55 undef = .agg #[.int .i64 (prtTI b q).1, .bool (prtTI b q).2] := (regT_in (hs2 55 (by omega) (by omega)) (by omega)).trans ((hv _ (hVm 11 (by omega)) (hp 11 (of_decide_eq_true (by kernel_rfl)))).trans vl11)
              have ha : X 13 = true := hp 13 (of_decide_eq_true (by kernel_rfl))
              rw [← HMD2.out] at hm
              obtain ⟨cc, hf, hcb, hc⟩ := hm.2.b _ hr2 ha
              rw [show X ((13, 15, 13) : Nat × Nat × Nat).2.1 = false from hL, if_neg (by decide)] at hc
              rw [hf] at e13
              have hm2 : M (fun j => j == 15 || X j) f (w1.setRow cc (vv 13)) := by
                rw [← HMD2.out]
                exact ⟨Lib.hid (below_setRow hm.1.out hcb _), hm.2.store hrk hr2 ha hf⟩
              obtain ⟨k1, k2, k3, k4, k5⟩ := store_two (v0 := .int .i64 (prtTI b q).1) (v1 := .bool (prtTI b q).2) hc
              have hgo := hJ X f f 15 _ _ (by omega) hv (fun _ _ => rfl) rfl hm2
              rw [vv13] at hgo
              clear hm hm2 hv hp
              go_simp
              exact hK.out _ _ hgo
          · rintro X aa w1 ⟨f, rfl, h1, h2⟩ hall
            rw [← HMD2.out] at h2
            obtain ⟨hb, hA⟩ := h2
            obtain ⟨cc1, g1, _, hc1⟩ := hA.b _ hr1 (hall 12 (of_decide_eq_true (by kernel_rfl)))
            obtain ⟨cc2, g2, _, hc2⟩ := hA.b _ hr2 (hall 13 (of_decide_eq_true (by kernel_rfl)))
            rw [if_pos (hall 14 (of_decide_eq_true (by kernel_rfl)))] at hc1
            rw [if_pos (hall 15 (of_decide_eq_true (by kernel_rfl)))] at hc2
            rw [vv12] at hc1
            rw [vv13] at hc2
            have RR := Lib.hid (And.intro hc1 hc2)
            have E2 := Lib.hid (E.out.below hb.out)
            clear hc1 hc2 hb hA h1 hall hJ hVr hst HMD2 hME hM hrl hr1 hr2 hrk vv12 vv13
            rw [← hsl, HBA.out]
            simp only [regT, List.foldl_cons, List.foldl_nil]
            go_wp2_with fail
            go_meet
            exact ⟨cc1, cc2, rfl, rfl, RR, E2⟩
        case rest =>
          obtain ⟨c12, c13, rfl, rfl, RR, E1⟩ := hcut
          have ea := prtT_lkI (k := q) GD.out.1.2.1
          have eb := prtT_lkI (k := q) GD.out.2.2.1
          have eu := prtT_lkI (k := q) UU.out.2.1
          have hm := UU.out.2.2 q
          rw [← eu, ← ea, ← eb] at hm
          have va := lk_val (f := fun k => (k.size : Int)) GD.out.1.2.2 q
          have vb := lk_val (f := fun k => (k.size : Int)) GD.out.2.2.2 q
          have hdf : dfB a b q = ((prtTI a q).2 != (prtTI b q).2) := by unfold dfB; rw [ea, eb]
          rw [← ea] at va
          rw [← eb] at vb
          obtain ⟨v, hv⟩ : ∃ v : Int, (q.size : Int) = v := ⟨_, rfl⟩
          simp only [hv] at va vb
          have PART : Hid (∀ W, AtI W u → Calls Try.prog 15 #[.agg #[.pointer (pa u)], .string q] W fun e w' => e = .returned (prtVI (uniF (prtTI a q) (prtTI b q))) ∧ Below W.heap.size W w') := Lib.hid (fun W h => by
            have h2 := wk_part u q W h
            rw [hm] at h2
            exact h2)
          obtain ⟨pp, hpp⟩ : ∃ x, prtTI a q = x := ⟨_, rfl⟩
          obtain ⟨qq, hqq⟩ : ∃ x, prtTI b q = x := ⟨_, rfl⟩
          rw [hpp] at va
          rw [hqq] at vb
          rw [hpp, hqq] at RR PART hdf
          obtain ⟨p1, pb⟩ := pp
          obtain ⟨q1, qb⟩ := qq
          dsimp only at va vb RR hdf
          replace va := (Prod.mk.inj va).1.symm
          replace vb := (Prod.mk.inj vb).1.symm
          have CK : Hid (∀ W, ElE H [a, b, u] (some ⟨bk, ok, none⟩) L w W → W.cell? ⟨bk, ok + i, none⟩ = some (.string q)) := Lib.hid (fun W h => by
            obtain ⟨b', o', h1, h2⟩ := h.k.get i (.string q) (by simp [strV, HQ.out])
            cases h1
            exact h2)
          have VV := Lib.hid (And.intro va (And.intro vb hdf))
          clear va vb hdf ea eb eu hm hpp hqq hv HCK E
          have k12 := row2 RR.out.1
          go_upto_region 12 with (fail)
          obtain ⟨d1, hd1⟩ : ∃ d, wc.heap.size = d := ⟨_, rfl⟩
          rw [hd1]
          obtain ⟨w24, hw24⟩ : ∃ W, wc.alloc (.cells #[.int .i64 p1, .bool pb] 33) = W := ⟨_, rfl⟩
          rw [hw24]
          have hb24 : Below wc.heap.size wc w24 := by rw [← hw24]; exact below_new _ _
          have D24 : w24.heap[d1]? = some (.cells #[.int .i64 p1, .bool pb] 33 (0, 0)) := by rw [← hw24, ← hd1]; exact heap_alloc_new _ _
          clear hw24 k12
          obtain ⟨va, vb, hdf⟩ := VV.out
          clear VV
          cases pb <;> cases qb <;> simp only [reduceIte, Bool.false_eq_true] at va vb <;> subst va vb
          · have X24 : Hid (Below wc.heap.size wc w24 ∧ w24.heap[d1]? = some (.cells #[(.int .i64 0), (.bool false)] 33 (0, 0))) := Lib.hid ⟨hb24, D24⟩
            have HD : Hid (cntD a b L (i + 1) = cn + 0) := Lib.hid (by rw [HCN.out.1, HCN.out.2, hdf]; rfl)
            clear hdf
            have k13 := row2 (boxStays RR.out.1 hb24)
            have k14 := row2 (boxStays RR.out.2 hb24)
            have kd := row2 D24
            obtain ⟨s1, s2, s3, s4, s5⟩ := store_two (v0 := (.int .i64 0)) (v1 := (.bool false)) D24
            go_upto_region 14 with (fail)
            obtain ⟨w26, hw26⟩ : ∃ W, w24.setRow d1 #[(.int .i64 0), (.bool false)] = W := ⟨_, rfl⟩
            rw [hw26]
            have X26 : Hid (Below wc.heap.size wc w26 ∧ w26.heap[d1]? = some (.cells #[(.int .i64 0), (.bool false)] 33 (0, 0))) := Lib.hid ⟨by rw [← hw26]; exact below_setRow X24.out.1 (by omega) _, by rw [← hw26]; exact setRow_heap _ _ _ _ _ _ X24.out.2⟩
            clear hw26 s1 s2 s3 s4 s5
            clear k13 k14 kd hb24 D24
            have E2 := Lib.hid (E1.out.below X26.out.1)
            have HC : Hid (Chain [w26] w26) := Lib.hid (Chain.one w26)
            refine wp_region_noPanic ?_
            refine wp_region_held_drew (S := fun w' => Below w26.heap.size w26 w') (by kernel_rfl) (Below.refl _ _).drew (fun hS => ?_)
            refine wpAnyH_take (i := 0) (oi := ⟨some 61, _, _, _, _, _⟩) (v := ?_) rfl (by kernel_rfl) (by kernel_rfl) (by kernel_rfl) (fun _ _ _ h => h) (Or.inl ⟨by rfl, ?_⟩) hS ?_
            rotate_left 1
            · intro w' hB; have hd := (HC.out.to w26 (by simp)).trans (hB.mono (HC.out.to w26 (by simp)).size); have EM := E2.out.below hd; have k6 : _ = _ := EM.f.cell (t := 29) HM.out.1; have kk := CK.out _ EM; have kd := row2 (boxStays X26.out.2 hd); clear hd EM; (go_simp <;> with_reducible rfl)
            try simp only [Act.put, List.setIfInBounds_toArray, List.set_cons_zero, List.set_cons_succ]
            refine wpAnyH_take (i := 1) (oi := ⟨some 62, _, _, _, _, _⟩) (v := ?_) rfl (by kernel_rfl) (by kernel_rfl) (by kernel_rfl) (fun _ _ _ h => h) (Or.inl ⟨by rfl, ?_⟩) hS ?_
            rotate_left 1
            · intro w' hB; have hd := (HC.out.to w26 (by simp)).trans (hB.mono (HC.out.to w26 (by simp)).size); have EM := E2.out.below hd; have k6 : _ = _ := EM.f.cell (t := 29) HM.out.1; have kk := CK.out _ EM; have kd := row2 (boxStays X26.out.2 hd); clear hd EM; (go_simp <;> with_reducible rfl)
            try simp only [Act.put, List.setIfInBounds_toArray, List.set_cons_zero, List.set_cons_succ]
            refine wpAnyH_take (i := 2) (oi := ⟨some 63, _, _, _, _, _⟩) (v := ?_) rfl (by kernel_rfl) (by kernel_rfl) (by kernel_rfl) (fun _ _ _ h => h) (Or.inl ⟨by rfl, ?_⟩) hS ?_
            rotate_left 1
            · intro w' hB; have hd := (HC.out.to w26 (by simp)).trans (hB.mono (HC.out.to w26 (by simp)).size); have EM := E2.out.below hd; have k6 : _ = _ := EM.f.cell (t := 29) HM.out.1; have kk := CK.out _ EM; have kd := row2 (boxStays X26.out.2 hd); clear hd EM; (go_simp <;> with_reducible rfl)
            try simp only [Act.put, List.setIfInBounds_toArray, List.set_cons_zero, List.set_cons_succ]
            refine wpAnyH_take (i := 3) (oi := ⟨some 64, _, _, _, _, _⟩) (v := ?_) rfl (by kernel_rfl) (by kernel_rfl) (by kernel_rfl) (fun _ _ _ h => h) (Or.inl ⟨by rfl, ?_⟩) hS ?_
            rotate_left 1
            · intro w' hB; have hd := (HC.out.to w26 (by simp)).trans (hB.mono (HC.out.to w26 (by simp)).size); have EM := E2.out.below hd; have k6 : _ = _ := EM.f.cell (t := 29) HM.out.1; have kk := CK.out _ EM; have kd := row2 (boxStays X26.out.2 hd); clear hd EM; (go_simp <;> with_reducible rfl)
            try simp only [Act.put, List.setIfInBounds_toArray, List.set_cons_zero, List.set_cons_succ]
            refine wpAnyH_take (i := 4) (oi := ⟨some 65, _, _, _, _, _⟩) (v := ?_) rfl (by kernel_rfl) (by kernel_rfl) (by kernel_rfl) (fun _ _ _ h => h) (Or.inl ⟨by rfl, ?_⟩) hS ?_
            rotate_left 1
            · intro w' hB; have hd := (HC.out.to w26 (by simp)).trans (hB.mono (HC.out.to w26 (by simp)).size); have EM := E2.out.below hd; have k6 : _ = _ := EM.f.cell (t := 29) HM.out.1; have kk := CK.out _ EM; have kd := row2 (boxStays X26.out.2 hd); clear hd EM; (go_simp <;> with_reducible rfl)
            try simp only [Act.put, List.setIfInBounds_toArray, List.set_cons_zero, List.set_cons_succ]
            refine wpAnyH_take (i := 6) (oi := ⟨some 67, _, _, _, _, _⟩) (v := ?_) rfl (by kernel_rfl) (by kernel_rfl) (by kernel_rfl) (fun _ _ _ h => h) (Or.inl ⟨by rfl, ?_⟩) hS ?_
            rotate_left 1
            · intro w' hB; have hd := (HC.out.to w26 (by simp)).trans (hB.mono (HC.out.to w26 (by simp)).size); have EM := E2.out.below hd; have k6 : _ = _ := EM.f.cell (t := 29) HM.out.1; have kk := CK.out _ EM; have kd := row2 (boxStays X26.out.2 hd); clear hd EM; (go_simp <;> with_reducible rfl)
            try simp only [Act.put, List.setIfInBounds_toArray, List.set_cons_zero, List.set_cons_succ]
            refine wpAnyH_ready (rs := [5]) (by kernel_rfl) (by simp) (AllReadyH.cons (o := ⟨some 66, _, _, _, _, _⟩) rfl (fun K hK => ?_) AllReadyH.nil)
            go_simp
            refine (PART.out _ ((E2.out.t u (by simp)).chain HC.out hS (by simp))).mono ?_
            rintro e w31 ⟨rfl, hb⟩
            refine hK.out _ _ (hS.trans (hb.mono hS.size)) (fun _ => ?_)
            clear hK K
            have hB := hS.trans (hb.mono hS.size)
            refine wpAnyH_now hB ?_
            clear hS
            have hS := Below.refl w31.heap.size w31
            replace HC := Lib.hid (HC.out.push hB)
            unfold uniF prtVI
            simp only [Bool.false_eq_true, reduceIte]
            clear hB hb
            try simp only [Act.put, List.setIfInBounds_toArray, List.set_cons_zero, List.set_cons_succ]
            refine wpAnyH_take (i := 7) (oi := ⟨some 68, _, _, _, _, _⟩) (v := ?_) rfl (by kernel_rfl) (by kernel_rfl) (by kernel_rfl) (fun _ _ _ h => h) (Or.inl ⟨by rfl, ?_⟩) hS ?_
            rotate_left 1
            · intro w' hB; have hd := (HC.out.to w26 (by simp)).trans (hB.mono (HC.out.to w26 (by simp)).size); have EM := E2.out.below hd; have k6 : _ = _ := EM.f.cell (t := 29) HM.out.1; have kk := CK.out _ EM; have kd := row2 (boxStays X26.out.2 hd); clear hd EM; (go_simp <;> with_reducible rfl)
            try simp only [Act.put, List.setIfInBounds_toArray, List.set_cons_zero, List.set_cons_succ]
            refine wpAnyH_done (by kernel_rfl) (NoPanic.normal ?_) _
            have hd := HC.out.to w26 (by simp)
            have E3 := Lib.hid (E2.out.below hd)
            have hdd := X26.out.1.trans (hd.mono X26.out.1.size)
            have k13 := row2 (boxStays RR.out.1 hdd)
            have k14 := row2 (boxStays RR.out.2 hdd)
            clear hd hdd
            go_wp2_with fail
            refine ⟨⟨i + 1, by simp, ?_, by omega, E3⟩, ?_⟩
            · rw [HD.out]; rfl
            · have q1 : (intOf (Value.int .i64 ((i : Int) + 1))).toNat = i + 1 := by simp [intOf]
              have q2 : (intOf (Value.int .i64 (i : Int))).toNat = i := by simp [intOf]
              rw [q1, q2]; omega
          · have X24 : Hid (Below wc.heap.size wc w24 ∧ w24.heap[d1]? = some (.cells #[(.int .i64 0), (.bool false)] 33 (0, 0))) := Lib.hid ⟨hb24, D24⟩
            have HD : Hid (cntD a b L (i + 1) = cn + 1) := Lib.hid (by rw [HCN.out.1, HCN.out.2, hdf]; rfl)
            clear hdf
            have k13 := row2 (boxStays RR.out.1 hb24)
            have k14 := row2 (boxStays RR.out.2 hb24)
            have kd := row2 D24
            obtain ⟨s1, s2, s3, s4, s5⟩ := store_two (v0 := (.int .i64 v)) (v1 := (.bool true)) D24
            go_upto_region 14 with (fail)
            obtain ⟨w26, hw26⟩ : ∃ W, w24.setRow d1 #[(.int .i64 v), (.bool true)] = W := ⟨_, rfl⟩
            rw [hw26]
            have X26 : Hid (Below wc.heap.size wc w26 ∧ w26.heap[d1]? = some (.cells #[(.int .i64 v), (.bool true)] 33 (0, 0))) := Lib.hid ⟨by rw [← hw26]; exact below_setRow X24.out.1 (by omega) _, by rw [← hw26]; exact setRow_heap _ _ _ _ _ _ X24.out.2⟩
            clear hw26 s1 s2 s3 s4 s5
            clear k13 k14 kd hb24 D24
            have E2 := Lib.hid (E1.out.below X26.out.1)
            have HC : Hid (Chain [w26] w26) := Lib.hid (Chain.one w26)
            refine wp_region_noPanic ?_
            refine wp_region_held_drew (S := fun w' => Below w26.heap.size w26 w') (by kernel_rfl) (Below.refl _ _).drew (fun hS => ?_)
            refine wpAnyH_take (i := 0) (oi := ⟨some 61, _, _, _, _, _⟩) (v := ?_) rfl (by kernel_rfl) (by kernel_rfl) (by kernel_rfl) (fun _ _ _ h => h) (Or.inl ⟨by rfl, ?_⟩) hS ?_
            rotate_left 1
            · intro w' hB; have hd := (HC.out.to w26 (by simp)).trans (hB.mono (HC.out.to w26 (by simp)).size); have EM := E2.out.below hd; have k6 : _ = _ := EM.f.cell (t := 29) HM.out.1; have kk := CK.out _ EM; have kd := row2 (boxStays X26.out.2 hd); clear hd EM; (go_simp <;> with_reducible rfl)
            try simp only [Act.put, List.setIfInBounds_toArray, List.set_cons_zero, List.set_cons_succ]
            refine wpAnyH_take (i := 1) (oi := ⟨some 62, _, _, _, _, _⟩) (v := ?_) rfl (by kernel_rfl) (by kernel_rfl) (by kernel_rfl) (fun _ _ _ h => h) (Or.inl ⟨by rfl, ?_⟩) hS ?_
            rotate_left 1
            · intro w' hB; have hd := (HC.out.to w26 (by simp)).trans (hB.mono (HC.out.to w26 (by simp)).size); have EM := E2.out.below hd; have k6 : _ = _ := EM.f.cell (t := 29) HM.out.1; have kk := CK.out _ EM; have kd := row2 (boxStays X26.out.2 hd); clear hd EM; (go_simp <;> with_reducible rfl)
            try simp only [Act.put, List.setIfInBounds_toArray, List.set_cons_zero, List.set_cons_succ]
            refine wpAnyH_take (i := 2) (oi := ⟨some 63, _, _, _, _, _⟩) (v := ?_) rfl (by kernel_rfl) (by kernel_rfl) (by kernel_rfl) (fun _ _ _ h => h) (Or.inl ⟨by rfl, ?_⟩) hS ?_
            rotate_left 1
            · intro w' hB; have hd := (HC.out.to w26 (by simp)).trans (hB.mono (HC.out.to w26 (by simp)).size); have EM := E2.out.below hd; have k6 : _ = _ := EM.f.cell (t := 29) HM.out.1; have kk := CK.out _ EM; have kd := row2 (boxStays X26.out.2 hd); clear hd EM; (go_simp <;> with_reducible rfl)
            try simp only [Act.put, List.setIfInBounds_toArray, List.set_cons_zero, List.set_cons_succ]
            refine wpAnyH_take (i := 3) (oi := ⟨some 64, _, _, _, _, _⟩) (v := ?_) rfl (by kernel_rfl) (by kernel_rfl) (by kernel_rfl) (fun _ _ _ h => h) (Or.inl ⟨by rfl, ?_⟩) hS ?_
            rotate_left 1
            · intro w' hB; have hd := (HC.out.to w26 (by simp)).trans (hB.mono (HC.out.to w26 (by simp)).size); have EM := E2.out.below hd; have k6 : _ = _ := EM.f.cell (t := 29) HM.out.1; have kk := CK.out _ EM; have kd := row2 (boxStays X26.out.2 hd); clear hd EM; (go_simp <;> with_reducible rfl)
            try simp only [Act.put, List.setIfInBounds_toArray, List.set_cons_zero, List.set_cons_succ]
            refine wpAnyH_take (i := 4) (oi := ⟨some 65, _, _, _, _, _⟩) (v := ?_) rfl (by kernel_rfl) (by kernel_rfl) (by kernel_rfl) (fun _ _ _ h => h) (Or.inl ⟨by rfl, ?_⟩) hS ?_
            rotate_left 1
            · intro w' hB; have hd := (HC.out.to w26 (by simp)).trans (hB.mono (HC.out.to w26 (by simp)).size); have EM := E2.out.below hd; have k6 : _ = _ := EM.f.cell (t := 29) HM.out.1; have kk := CK.out _ EM; have kd := row2 (boxStays X26.out.2 hd); clear hd EM; (go_simp <;> with_reducible rfl)
            try simp only [Act.put, List.setIfInBounds_toArray, List.set_cons_zero, List.set_cons_succ]
            refine wpAnyH_take (i := 6) (oi := ⟨some 67, _, _, _, _, _⟩) (v := ?_) rfl (by kernel_rfl) (by kernel_rfl) (by kernel_rfl) (fun _ _ _ h => h) (Or.inl ⟨by rfl, ?_⟩) hS ?_
            rotate_left 1
            · intro w' hB; have hd := (HC.out.to w26 (by simp)).trans (hB.mono (HC.out.to w26 (by simp)).size); have EM := E2.out.below hd; have k6 : _ = _ := EM.f.cell (t := 29) HM.out.1; have kk := CK.out _ EM; have kd := row2 (boxStays X26.out.2 hd); clear hd EM; (go_simp <;> with_reducible rfl)
            try simp only [Act.put, List.setIfInBounds_toArray, List.set_cons_zero, List.set_cons_succ]
            refine wpAnyH_ready (rs := [5]) (by kernel_rfl) (by simp) (AllReadyH.cons (o := ⟨some 66, _, _, _, _, _⟩) rfl (fun K hK => ?_) AllReadyH.nil)
            go_simp
            refine (PART.out _ ((E2.out.t u (by simp)).chain HC.out hS (by simp))).mono ?_
            rintro e w31 ⟨rfl, hb⟩
            refine hK.out _ _ (hS.trans (hb.mono hS.size)) (fun _ => ?_)
            clear hK K
            have hB := hS.trans (hb.mono hS.size)
            refine wpAnyH_now hB ?_
            clear hS
            have hS := Below.refl w31.heap.size w31
            replace HC := Lib.hid (HC.out.push hB)
            unfold uniF prtVI
            simp only [Bool.false_eq_true, reduceIte]
            clear hB hb
            try simp only [Act.put, List.setIfInBounds_toArray, List.set_cons_zero, List.set_cons_succ]
            refine wpAnyH_take (i := 7) (oi := ⟨some 68, _, _, _, _, _⟩) (v := ?_) rfl (by kernel_rfl) (by kernel_rfl) (by kernel_rfl) (fun _ _ _ h => h) (Or.inl ⟨by rfl, ?_⟩) hS ?_
            rotate_left 1
            · intro w' hB; have hd := (HC.out.to w26 (by simp)).trans (hB.mono (HC.out.to w26 (by simp)).size); have EM := E2.out.below hd; have k6 : _ = _ := EM.f.cell (t := 29) HM.out.1; have kk := CK.out _ EM; have kd := row2 (boxStays X26.out.2 hd); clear hd EM; (go_simp <;> with_reducible rfl)
            try simp only [Act.put, List.setIfInBounds_toArray, List.set_cons_zero, List.set_cons_succ]
            refine wpAnyH_done (by kernel_rfl) (NoPanic.normal ?_) _
            have hd := HC.out.to w26 (by simp)
            have E3 := Lib.hid (E2.out.below hd)
            have hdd := X26.out.1.trans (hd.mono X26.out.1.size)
            have k13 := row2 (boxStays RR.out.1 hdd)
            have k14 := row2 (boxStays RR.out.2 hdd)
            clear hd hdd
            go_wp2_with fail
            refine ⟨⟨i + 1, by simp, ?_, by omega, E3⟩, ?_⟩
            · rw [HD.out]; simp
            · have q1 : (intOf (Value.int .i64 ((i : Int) + 1))).toNat = i + 1 := by simp [intOf]
              have q2 : (intOf (Value.int .i64 (i : Int))).toNat = i := by simp [intOf]
              rw [q1, q2]; omega
          · have X24 : Hid (Below wc.heap.size wc w24 ∧ w24.heap[d1]? = some (.cells #[(.int .i64 v), (.bool true)] 33 (0, 0))) := Lib.hid ⟨hb24, D24⟩
            have HD : Hid (cntD a b L (i + 1) = cn + 1) := Lib.hid (by rw [HCN.out.1, HCN.out.2, hdf]; rfl)
            clear hdf
            have k13 := row2 (boxStays RR.out.1 hb24)
            have k14 := row2 (boxStays RR.out.2 hb24)
            have kd := row2 D24
            go_upto_region 14 with (fail)
            clear k13 k14 kd hb24 D24
            have E2 := Lib.hid (E1.out.below X24.out.1)
            have HC : Hid (Chain [w24] w24) := Lib.hid (Chain.one w24)
            refine wp_region_noPanic ?_
            refine wp_region_held_drew (S := fun w' => Below w24.heap.size w24 w') (by kernel_rfl) (Below.refl _ _).drew (fun hS => ?_)
            refine wpAnyH_take (i := 0) (oi := ⟨some 61, _, _, _, _, _⟩) (v := ?_) rfl (by kernel_rfl) (by kernel_rfl) (by kernel_rfl) (fun _ _ _ h => h) (Or.inl ⟨by rfl, ?_⟩) hS ?_
            rotate_left 1
            · intro w' hB; have hd := (HC.out.to w24 (by simp)).trans (hB.mono (HC.out.to w24 (by simp)).size); have EM := E2.out.below hd; have k6 : _ = _ := EM.f.cell (t := 29) HM.out.1; have kk := CK.out _ EM; have kd := row2 (boxStays X24.out.2 hd); clear hd EM; (go_simp <;> with_reducible rfl)
            try simp only [Act.put, List.setIfInBounds_toArray, List.set_cons_zero, List.set_cons_succ]
            refine wpAnyH_take (i := 1) (oi := ⟨some 62, _, _, _, _, _⟩) (v := ?_) rfl (by kernel_rfl) (by kernel_rfl) (by kernel_rfl) (fun _ _ _ h => h) (Or.inl ⟨by rfl, ?_⟩) hS ?_
            rotate_left 1
            · intro w' hB; have hd := (HC.out.to w24 (by simp)).trans (hB.mono (HC.out.to w24 (by simp)).size); have EM := E2.out.below hd; have k6 : _ = _ := EM.f.cell (t := 29) HM.out.1; have kk := CK.out _ EM; have kd := row2 (boxStays X24.out.2 hd); clear hd EM; (go_simp <;> with_reducible rfl)
            try simp only [Act.put, List.setIfInBounds_toArray, List.set_cons_zero, List.set_cons_succ]
            refine wpAnyH_take (i := 2) (oi := ⟨some 63, _, _, _, _, _⟩) (v := ?_) rfl (by kernel_rfl) (by kernel_rfl) (by kernel_rfl) (fun _ _ _ h => h) (Or.inl ⟨by rfl, ?_⟩) hS ?_
            rotate_left 1
            · intro w' hB; have hd := (HC.out.to w24 (by simp)).trans (hB.mono (HC.out.to w24 (by simp)).size); have EM := E2.out.below hd; have k6 : _ = _ := EM.f.cell (t := 29) HM.out.1; have kk := CK.out _ EM; have kd := row2 (boxStays X24.out.2 hd); clear hd EM; (go_simp <;> with_reducible rfl)
            try simp only [Act.put, List.setIfInBounds_toArray, List.set_cons_zero, List.set_cons_succ]
            refine wpAnyH_take (i := 3) (oi := ⟨some 64, _, _, _, _, _⟩) (v := ?_) rfl (by kernel_rfl) (by kernel_rfl) (by kernel_rfl) (fun _ _ _ h => h) (Or.inl ⟨by rfl, ?_⟩) hS ?_
            rotate_left 1
            · intro w' hB; have hd := (HC.out.to w24 (by simp)).trans (hB.mono (HC.out.to w24 (by simp)).size); have EM := E2.out.below hd; have k6 : _ = _ := EM.f.cell (t := 29) HM.out.1; have kk := CK.out _ EM; have kd := row2 (boxStays X24.out.2 hd); clear hd EM; (go_simp <;> with_reducible rfl)
            try simp only [Act.put, List.setIfInBounds_toArray, List.set_cons_zero, List.set_cons_succ]
            refine wpAnyH_take (i := 4) (oi := ⟨some 65, _, _, _, _, _⟩) (v := ?_) rfl (by kernel_rfl) (by kernel_rfl) (by kernel_rfl) (fun _ _ _ h => h) (Or.inl ⟨by rfl, ?_⟩) hS ?_
            rotate_left 1
            · intro w' hB; have hd := (HC.out.to w24 (by simp)).trans (hB.mono (HC.out.to w24 (by simp)).size); have EM := E2.out.below hd; have k6 : _ = _ := EM.f.cell (t := 29) HM.out.1; have kk := CK.out _ EM; have kd := row2 (boxStays X24.out.2 hd); clear hd EM; (go_simp <;> with_reducible rfl)
            try simp only [Act.put, List.setIfInBounds_toArray, List.set_cons_zero, List.set_cons_succ]
            refine wpAnyH_take (i := 6) (oi := ⟨some 67, _, _, _, _, _⟩) (v := ?_) rfl (by kernel_rfl) (by kernel_rfl) (by kernel_rfl) (fun _ _ _ h => h) (Or.inl ⟨by rfl, ?_⟩) hS ?_
            rotate_left 1
            · intro w' hB; have hd := (HC.out.to w24 (by simp)).trans (hB.mono (HC.out.to w24 (by simp)).size); have EM := E2.out.below hd; have k6 : _ = _ := EM.f.cell (t := 29) HM.out.1; have kk := CK.out _ EM; have kd := row2 (boxStays X24.out.2 hd); clear hd EM; (go_simp <;> with_reducible rfl)
            try simp only [Act.put, List.setIfInBounds_toArray, List.set_cons_zero, List.set_cons_succ]
            refine wpAnyH_ready (rs := [5]) (by kernel_rfl) (by simp) (AllReadyH.cons (o := ⟨some 66, _, _, _, _, _⟩) rfl (fun K hK => ?_) AllReadyH.nil)
            go_simp
            refine (PART.out _ ((E2.out.t u (by simp)).chain HC.out hS (by simp))).mono ?_
            rintro e w31 ⟨rfl, hb⟩
            refine hK.out _ _ (hS.trans (hb.mono hS.size)) (fun _ => ?_)
            clear hK K
            have hB := hS.trans (hb.mono hS.size)
            refine wpAnyH_now hB ?_
            clear hS
            have hS := Below.refl w31.heap.size w31
            replace HC := Lib.hid (HC.out.push hB)
            unfold uniF prtVI
            simp only [Bool.false_eq_true, reduceIte]
            clear hB hb
            try simp only [Act.put, List.setIfInBounds_toArray, List.set_cons_zero, List.set_cons_succ]
            refine wpAnyH_take (i := 7) (oi := ⟨some 68, _, _, _, _, _⟩) (v := ?_) rfl (by kernel_rfl) (by kernel_rfl) (by kernel_rfl) (fun _ _ _ h => h) (Or.inl ⟨by rfl, ?_⟩) hS ?_
            rotate_left 1
            · intro w' hB; have hd := (HC.out.to w24 (by simp)).trans (hB.mono (HC.out.to w24 (by simp)).size); have EM := E2.out.below hd; have k6 : _ = _ := EM.f.cell (t := 29) HM.out.1; have kk := CK.out _ EM; have kd := row2 (boxStays X24.out.2 hd); clear hd EM; (go_simp <;> with_reducible rfl)
            try simp only [Act.put, List.setIfInBounds_toArray, List.set_cons_zero, List.set_cons_succ]
            refine wpAnyH_done (by kernel_rfl) (NoPanic.normal ?_) _
            have hd := HC.out.to w24 (by simp)
            have E3 := Lib.hid (E2.out.below hd)
            have hdd := X24.out.1.trans (hd.mono X24.out.1.size)
            have k13 := row2 (boxStays RR.out.1 hdd)
            have k14 := row2 (boxStays RR.out.2 hdd)
            clear hd hdd
            go_wp2_with fail
            refine ⟨⟨i + 1, by simp, ?_, by omega, E3⟩, ?_⟩
            · rw [HD.out]; simp
            · have q1 : (intOf (Value.int .i64 ((i : Int) + 1))).toNat = i + 1 := by simp [intOf]
              have q2 : (intOf (Value.int .i64 (i : Int))).toNat = i := by simp [intOf]
              rw [q1, q2]; omega
          · have X24 : Hid (Below wc.heap.size wc w24 ∧ w24.heap[d1]? = some (.cells #[(.int .i64 v), (.bool true)] 33 (0, 0))) := Lib.hid ⟨hb24, D24⟩
            have HD : Hid (cntD a b L (i + 1) = cn + 0) := Lib.hid (by rw [HCN.out.1, HCN.out.2, hdf]; rfl)
            clear hdf
            have k13 := row2 (boxStays RR.out.1 hb24)
            have k14 := row2 (boxStays RR.out.2 hb24)
            have kd := row2 D24
            go_upto_region 14 with (fail)
            clear k13 k14 kd hb24 D24
            have E2 := Lib.hid (E1.out.below X24.out.1)
            have HC : Hid (Chain [w24] w24) := Lib.hid (Chain.one w24)
            refine wp_region_noPanic ?_
            refine wp_region_held_drew (S := fun w' => Below w24.heap.size w24 w') (by kernel_rfl) (Below.refl _ _).drew (fun hS => ?_)
            refine wpAnyH_take (i := 0) (oi := ⟨some 61, _, _, _, _, _⟩) (v := ?_) rfl (by kernel_rfl) (by kernel_rfl) (by kernel_rfl) (fun _ _ _ h => h) (Or.inl ⟨by rfl, ?_⟩) hS ?_
            rotate_left 1
            · intro w' hB; have hd := (HC.out.to w24 (by simp)).trans (hB.mono (HC.out.to w24 (by simp)).size); have EM := E2.out.below hd; have k6 : _ = _ := EM.f.cell (t := 29) HM.out.1; have kk := CK.out _ EM; have kd := row2 (boxStays X24.out.2 hd); clear hd EM; (go_simp <;> with_reducible rfl)
            try simp only [Act.put, List.setIfInBounds_toArray, List.set_cons_zero, List.set_cons_succ]
            refine wpAnyH_take (i := 1) (oi := ⟨some 62, _, _, _, _, _⟩) (v := ?_) rfl (by kernel_rfl) (by kernel_rfl) (by kernel_rfl) (fun _ _ _ h => h) (Or.inl ⟨by rfl, ?_⟩) hS ?_
            rotate_left 1
            · intro w' hB; have hd := (HC.out.to w24 (by simp)).trans (hB.mono (HC.out.to w24 (by simp)).size); have EM := E2.out.below hd; have k6 : _ = _ := EM.f.cell (t := 29) HM.out.1; have kk := CK.out _ EM; have kd := row2 (boxStays X24.out.2 hd); clear hd EM; (go_simp <;> with_reducible rfl)
            try simp only [Act.put, List.setIfInBounds_toArray, List.set_cons_zero, List.set_cons_succ]
            refine wpAnyH_take (i := 2) (oi := ⟨some 63, _, _, _, _, _⟩) (v := ?_) rfl (by kernel_rfl) (by kernel_rfl) (by kernel_rfl) (fun _ _ _ h => h) (Or.inl ⟨by rfl, ?_⟩) hS ?_
            rotate_left 1
            · intro w' hB; have hd := (HC.out.to w24 (by simp)).trans (hB.mono (HC.out.to w24 (by simp)).size); have EM := E2.out.below hd; have k6 : _ = _ := EM.f.cell (t := 29) HM.out.1; have kk := CK.out _ EM; have kd := row2 (boxStays X24.out.2 hd); clear hd EM; (go_simp <;> with_reducible rfl)
            try simp only [Act.put, List.setIfInBounds_toArray, List.set_cons_zero, List.set_cons_succ]
            refine wpAnyH_take (i := 3) (oi := ⟨some 64, _, _, _, _, _⟩) (v := ?_) rfl (by kernel_rfl) (by kernel_rfl) (by kernel_rfl) (fun _ _ _ h => h) (Or.inl ⟨by rfl, ?_⟩) hS ?_
            rotate_left 1
            · intro w' hB; have hd := (HC.out.to w24 (by simp)).trans (hB.mono (HC.out.to w24 (by simp)).size); have EM := E2.out.below hd; have k6 : _ = _ := EM.f.cell (t := 29) HM.out.1; have kk := CK.out _ EM; have kd := row2 (boxStays X24.out.2 hd); clear hd EM; (go_simp <;> with_reducible rfl)
            try simp only [Act.put, List.setIfInBounds_toArray, List.set_cons_zero, List.set_cons_succ]
            refine wpAnyH_take (i := 4) (oi := ⟨some 65, _, _, _, _, _⟩) (v := ?_) rfl (by kernel_rfl) (by kernel_rfl) (by kernel_rfl) (fun _ _ _ h => h) (Or.inl ⟨by rfl, ?_⟩) hS ?_
            rotate_left 1
            · intro w' hB; have hd := (HC.out.to w24 (by simp)).trans (hB.mono (HC.out.to w24 (by simp)).size); have EM := E2.out.below hd; have k6 : _ = _ := EM.f.cell (t := 29) HM.out.1; have kk := CK.out _ EM; have kd := row2 (boxStays X24.out.2 hd); clear hd EM; (go_simp <;> with_reducible rfl)
            try simp only [Act.put, List.setIfInBounds_toArray, List.set_cons_zero, List.set_cons_succ]
            refine wpAnyH_take (i := 6) (oi := ⟨some 67, _, _, _, _, _⟩) (v := ?_) rfl (by kernel_rfl) (by kernel_rfl) (by kernel_rfl) (fun _ _ _ h => h) (Or.inl ⟨by rfl, ?_⟩) hS ?_
            rotate_left 1
            · intro w' hB; have hd := (HC.out.to w24 (by simp)).trans (hB.mono (HC.out.to w24 (by simp)).size); have EM := E2.out.below hd; have k6 : _ = _ := EM.f.cell (t := 29) HM.out.1; have kk := CK.out _ EM; have kd := row2 (boxStays X24.out.2 hd); clear hd EM; (go_simp <;> with_reducible rfl)
            try simp only [Act.put, List.setIfInBounds_toArray, List.set_cons_zero, List.set_cons_succ]
            refine wpAnyH_ready (rs := [5]) (by kernel_rfl) (by simp) (AllReadyH.cons (o := ⟨some 66, _, _, _, _, _⟩) rfl (fun K hK => ?_) AllReadyH.nil)
            go_simp
            refine (PART.out _ ((E2.out.t u (by simp)).chain HC.out hS (by simp))).mono ?_
            rintro e w31 ⟨rfl, hb⟩
            refine hK.out _ _ (hS.trans (hb.mono hS.size)) (fun _ => ?_)
            clear hK K
            have hB := hS.trans (hb.mono hS.size)
            refine wpAnyH_now hB ?_
            clear hS
            have hS := Below.refl w31.heap.size w31
            replace HC := Lib.hid (HC.out.push hB)
            unfold uniF prtVI
            simp only [Bool.false_eq_true, reduceIte]
            clear hB hb
            try simp only [Act.put, List.setIfInBounds_toArray, List.set_cons_zero, List.set_cons_succ]
            refine wpAnyH_take (i := 7) (oi := ⟨some 68, _, _, _, _, _⟩) (v := ?_) rfl (by kernel_rfl) (by kernel_rfl) (by kernel_rfl) (fun _ _ _ h => h) (Or.inl ⟨by rfl, ?_⟩) hS ?_
            rotate_left 1
            · intro w' hB; have hd := (HC.out.to w24 (by simp)).trans (hB.mono (HC.out.to w24 (by simp)).size); have EM := E2.out.below hd; have k6 : _ = _ := EM.f.cell (t := 29) HM.out.1; have kk := CK.out _ EM; have kd := row2 (boxStays X24.out.2 hd); clear hd EM; (go_simp <;> with_reducible rfl)
            try simp only [Act.put, List.setIfInBounds_toArray, List.set_cons_zero, List.set_cons_succ]
            refine wpAnyH_done (by kernel_rfl) (NoPanic.normal ?_) _
            have hd := HC.out.to w24 (by simp)
            have E3 := Lib.hid (E2.out.below hd)
            have hdd := X24.out.1.trans (hd.mono X24.out.1.size)
            have k13 := row2 (boxStays RR.out.1 hdd)
            have k14 := row2 (boxStays RR.out.2 hdd)
            clear hd hdd
            go_wp2_with fail
            refine ⟨⟨i + 1, by simp, ?_, by omega, E3⟩, ?_⟩
            · rw [HD.out]; rfl
            · have q1 : (intOf (Value.int .i64 ((i : Int) + 1))).toNat = i + 1 := by simp [intOf]
              have q2 : (intOf (Value.int .i64 (i : Int))).toNat = i := by simp [intOf]
              rw [q1, q2]; omega
      · have hnl : ¬ (i : Int) < (N : Int) := by omega
        have hiN : i = N := by omega
        obtain ⟨LC, hLC⟩ := chg_ex (z := (0 : Int)) (items a) (items b)
        have hcnt := chg_count hLC GD.out.1.2.1 GD.out.2.2.1
        rw [HL.out, HN.out, ← hiN] at hcnt
        obtain ⟨cn, hcn⟩ : ∃ cn, cntD a b L i = cn := ⟨_, rfl⟩
        have hcnl : cn ≤ 160 := by have := cntD_le a b L i; omega
        rw [hcn] at hcnt ⊢
        have LL := Lib.hid (And.intro hLC hcnt)
        have k1 : wr.cell? ⟨c + 1, 0, none⟩ = some (.pointer (pa a)) := E.out.f.cell (t := 29) HM.out.2.1
        have k2 : wr.cell? ⟨c + 1 + 1, 0, none⟩ = some (.pointer (pa b)) := E.out.f.cell (t := 29) HM.out.2.2.1
        have hnn := chg_nil
        clear hLC hcnt hcn
        go_wp2_with fail
        refine (wk_Changes a b wr).mono ?_
        rintro e w8 ⟨cf, rfl, hcf, x0, x1, hb⟩
        have E8 := Lib.hid (E.out.below hb)
        have X8 := Lib.hid (And.intro x0 x1)
        have hy1 : cf + 1 < w8.heap.size := x1.lt
        have hwc : w.heap.size ≤ cf := by rw [← hcf]; exact E.out.b.size
        clear x0 x1 hb k1 k2 E hcf
        go_upto_region 21 with (fail)
        obtain ⟨y, hy⟩ : ∃ y, w8.heap.size = y := ⟨_, rfl⟩
        rw [hy] at hy1
        have HY := Lib.hid hy
        clear hnn hy
        go_wp2_with fail
        refine (wpIn_wide (n := 6)).1 ?_
        have F9 : Hid (Facts ((y, .cells #[.int .i64 ((0 : Nat) : Int)] 3 (0, 0)) :: markF []) (w8.alloc (.cells #[.int .i64 0] 3))) := Lib.hid (fun p hp => by
          simp only [markF, List.map_nil, List.mem_cons, List.not_mem_nil, or_false] at hp
          subst hp
          rw [← HY.out]
          exact heap_alloc_new _ _)
        have B9 : Hid (Below y w8 (w8.alloc (.cells #[.int .i64 0] 3))) := Lib.hid (by rw [← HY.out]; exact below_new _ _)
        try rw [HY.out]
        refine wpIn_loop (fun a' w1 => ∃ (v T : Nat) (Ds : List Nat), a' = { tmps := twT (fun i => a'.tmps.getD i undef) z c cn cf T, defers := Ds.map fun D => { target := .collected D, args := #[] } } ∧ Ds.length = v ∧ v ≤ 2 ∧ y ≤ T ∧ Hid (Facts ((T, .cells #[.int .i64 (v : Int)] 3 (0, 0)) :: markF Ds) w1) ∧ Ds.Nodup ∧ (∀ D ∈ Ds, y ≤ D) ∧ Hid (Below y w8 w1)) (fun a' _ => 2 - a'.defers.length) ⟨0, y, [], rfl, rfl, by omega, Nat.le_refl _, F9, List.nodup_nil, by simp, B9⟩ ?_
        clear F9 B9
        rintro a' w1 ⟨v, T, Ds, he, hlen, hv, hT, HF, hnd, hD4, HB⟩
        generalize (fun i => a'.tmps.getD i undef) = g at he
        subst he
        simp only [twT]
        have eT : w1.cell? ⟨T, 0, none⟩ = some (.int .i64 (v : Int)) := cell_of_one (HF.out _ List.mem_cons_self)
        by_cases hv2 : v < 2
        · have hui : (v : Int) < 2 := by omega
          have hTl : T < w1.heap.size := block_lt_of_cell eT
          obtain ⟨nb, hnb⟩ : ∃ nb, w1.heap.size = nb := ⟨_, rfl⟩
          gi_wp2
          clear eT
          obtain ⟨W8, hW8⟩ : ∃ W8, (w1.alloc (.cells #[.int .i64 0] 3)).alloc (.cells #[.string ⟨#[]⟩] 9) = W8 := ⟨_, rfl⟩
          rw [hW8]
          have g8 : Boxed W8 nb 3 (.int .i64 ((([] : List (Chg1 Int)).length : Nat) : Int)) := by rw [← hW8, ← hnb]; exact (Boxed.new _ _ _).alloc _
          have g9 : Boxed W8 (nb + 1) 9 (.string (lastC [])) := by
            have h1 := Boxed.new (w1.alloc (.cells #[.int .i64 0] 3)) 9 (.string ⟨#[]⟩)
            rw [World.size_alloc, hnb, hW8] at h1
            exact h1
          have hb8 : Below w1.heap.size w1 W8 := by rw [← hW8]; exact (below_new _ _).trans ((below_new _ _).mono (by simp))
          have z8 : W8.heap.size = nb + 2 := by rw [← hW8, ← hnb]; simp
          have hyl : y ≤ nb := by have := HB.out.size; rw [HY.out] at this; omega
          have D8 : Below y w8 W8 := HB.out.trans (hb8.mono (by omega))
          obtain ⟨H2, hH2⟩ : ∃ H2, (T, Obj.cells #[.int .i64 (v : Int)] 3 (0, 0)) :: markF Ds = H2 := ⟨_, rfl⟩
          rw [hH2] at HF
          have F8 : Facts H2 W8 := HF.out.below hb8
          have hHl : ∀ p ∈ H2, p.1 < nb := fun p hp => by rw [← hnb]; exact HF.out.lt p hp
          have eTm : (T, Obj.cells #[.int .i64 (v : Int)] 3 (0, 0)) ∈ H2 := by rw [← hH2]; exact List.mem_cons_self
          have HHD := Lib.hid hH2
          have hywy : w8.heap.size = y := HY.out
          have E9 := E8.out.below (D8.mono (Nat.le_of_eq hywy))
          have hya : ∀ k, k ∈ blocks a → k < y := fun k hk => by rw [← hywy]; exact (E8.out.t a (by simp)).lt k hk
          have hyb : ∀ k, k ∈ blocks b → k < y := fun k hk => by rw [← hywy]; exact (E8.out.t b (by simp)).lt k hk
          have hst : ∀ k o, w8.heap[k]? = some o → W8.heap[k]? = some o := fun k o ho => (D8.block k (by rw [← hywy]; exact (Array.getElem?_eq_some_iff.1 ho).1)).trans ho
          have HIter := chg_iter 5 a b cf (cf + 1) W8 (fun k => k < y) (fun _ => False) LC (hst _ _ X8.out.1) (hst _ _ X8.out.2) (E9.t a (by simp)) (E9.t b (by simp)) hya hyb (fun k hk => by omega) ⟨id, id, id, id⟩ (by omega) GD.out.1.1 GD.out.2.1 GD.out.1.2.1 GD.out.2.2.1 LL.out.1
          have OWN := fun (B : Nat) (hB : W8.heap.size ≤ B) => twI_own (H := H2) (y := y) (c := nb) (w9 := w8) (B := B) (fun p hp => by have := hHl p hp; omega) (by omega) (Nat.le_of_eq hywy.symm) (by omega)
          have r8 : TwI H2 y nb w8 [] W8 := ⟨F8, g8, g9, D8⟩
          clear hW8 hb8 hH2 HF HB g8 g9 D8 F8 E9 hst
          refine range_law2 (n := 6) rfl (enters_of Try.func38 (by kernel_rfl) rfl) HIter (by omega) KeepE.trans (fun W o o' _ _ => KeepE.put W _ o' (by omega) (fun k hk => by omega)) (fun x => rfl) (fun pre => (by rintro _ _ _ _ h _ _; exact h)) ?_ (TwI H2 y nb w8) (fun code pre W => code = .exit 4 ∧ v = 0 ∧ (pre.length : Int) = leave ∧ TwI H2 y nb w8 pre W) (fun ys W => ys = LC ∧ TwI H2 y nb w8 ys W) (OWN _ (Nat.le_refl _)) ?_ ?_ ?_ r8
            (fun pre x a' W => TwI H2 y nb w8 pre W ∧ pre ++ [x] <+: LC ∧ ∃ bx, nb + 2 ≤ bx ∧ W.heap[bx]? = some (.cells #[.int .i64 x.2.1.1, .bool x.2.1.2, .int .i64 x.2.2.1, .bool x.2.2.2] 56 (0, 0)) ∧ a' = { tmps := #[g 0, g 1, g 2, .pointer (some ⟨z + 1, 0, none⟩), .pointer (some ⟨z + 1 + 1, 0, none⟩), g 5, .pointer (some ⟨c + 1, 0, none⟩), .pointer (some ⟨c + 1 + 1, 0, none⟩), g 8, g 9, .int .i64 (cn : Int), g 11, g 12, g 13, g 14, .func (.func 38) #[] #[.pointer (some ⟨cf, 0, none⟩), .pointer (some ⟨cf + 1, 0, none⟩)], .pointer (some ⟨T, 0, none⟩), .pointer (some ⟨nb, 0, none⟩), .pointer (some ⟨nb + 1, 0, none⟩), .string x.1, .pointer (some ⟨bx, 0, none⟩), g 21, g 22, g 23, g 24, g 25, g 26, g 27, g 28, g 29, g 30, g 31, g 32, g 33, g 34, g 35, g 36, g 37, g 38, g 39, g 40, g 41, g 42, g 43, g 44, g 45, g 46, g 47, g 48, g 49, g 50, g 51, g 52, g 53, g 54, g 55, g 56, g 57, g 58, g 59, g 60, g 61, g 62, g 63, g 64, g 65, g 66, g 67, g 68, g 69, g 70, g 71, g 72, g 73, g 74, g 75, g 76, g 77, g 78, g 79, g 80, .int .i64 (v : Int), .bool true, g 83, g 84, .func (.func 38) #[] #[.pointer (some ⟨cf, 0, none⟩), .pointer (some ⟨cf + 1, 0, none⟩)], .string x.1, .agg #[.int .i64 x.2.1.1, .bool x.2.1.2, .int .i64 x.2.2.1, .bool x.2.2.2], g 88, g 89, g 90, g 91, g 92, g 93, g 94, g 95, g 96, g 97, g 98, g 99, g 100, g 101, g 102, g 103, g 104, g 105, g 106, g 107, g 108, g 109, g 110, g 111, g 112, g 113, g 114, g 115, g 116, g 117, g 118, g 119, g 120, g 121, g 122, g 123, g 124, g 125, g 126, g 127, g 128, g 129, g 130, g 131, g 132, g 133, g 134, g 135, g 136, g 137, g 138, g 139, g 140, g 141, g 142, g 143], defers := [] }) ?_ ?assign ?body ?done ?stop
          · rintro W1 _ ys A B ⟨_, rfl⟩ k o _ ho _; exact ho
          · rintro code pre A A' row ⟨h1, h2, h3, h4⟩ hg hr; exact ⟨h1, h2, h3, OWN _ (Nat.le_refl _) pre A A' row h4 hg hr⟩
          · rintro ys A A' row ⟨h1, h2⟩ hg hr; exact ⟨h1, OWN _ (Nat.le_refl _) ys A A' row h2 hg hr⟩
          · rintro W1 _ ys A B h ⟨h1, rfl⟩; exact ⟨h1, h⟩
          · rintro x a' pre A A' row ⟨h1, h2, bx, h3, h4, h5⟩ hg hr
            exact ⟨OWN _ (Nat.le_refl _) pre A A' row h1 hg hr, h2, bx, h3, heap_kept hg (fun r e => (hr r e).2) h4, h5⟩
          case assign =>
            intro l pre x W K hi hx hsz hK
            have HI := Lib.hid hi
            clear hi HIter r8
            simp only [encCh, List.zip_toArray, List.zip_cons_cons, List.zip_nil_right, List.foldl_toArray, List.foldl_cons, List.foldl_nil]
            gi_wp2
            exact hK _ _ ((KeepsOthers.alloc _ _).from _) (KeepE.below (below_new _ _) (fun k hk => by omega)) (by simp; omega) ⟨(OWN _ (Nat.le_refl _)).alloc _ HI.out, hx, W.heap.size, by omega, World.alloc_heap_new W _, rfl⟩
          case body =>
            clear HIter r8
            rintro ll pre ⟨k, ⟨pv, ph⟩, ⟨qv, qh⟩⟩ a' W ⟨⟨hf, hbx, hby, hbl⟩, hp, bx, hbb, hbz, rfl⟩ hsz
            dsimp only at hbz
            dsimp only
            have hmem : (k, (pv, ph), (qv, qh)) ∈ LC := hp.subset (by simp)
            obtain ⟨ea, eb, hne⟩ := (LL.out.1.mem _).1 hmem
            dsimp only at ea eb hne
            have hpl : pre.length + 1 ≤ cn := by have := hp.length_le; rw [LL.out.2] at this; simpa using this
            have hkl : ∀ x ∈ pre, klt x.1 k = true := fun x hx => by
              obtain ⟨r, hr⟩ := hp
              have hs := LL.out.1.srt
              rw [← hr] at hs
              exact (List.pairwise_append.1 (List.pairwise_append.1 hs).1).2.2 x hx (k, (pv, ph), (qv, qh)) (by simp)
            have hlast : pre.length ≠ 0 → klt (lastC pre) k = true := fun h0 => by
              unfold lastC
              cases hg : pre.getLast? with
              | none => rw [List.getLast?_eq_none_iff] at hg; rw [hg] at h0; exact absurd rfl h0
              | some x => exact hkl x (List.mem_of_getLast? hg)
            obtain ⟨la, hla⟩ : ∃ la, lastC pre = la := ⟨_, rfl⟩
            obtain ⟨j, hj⟩ : ∃ j, pre.length = j := ⟨_, rfl⟩
            rw [hla] at hlast hby
            rw [hj] at hpl hlast hbx
            have HJ := Lib.hid (And.intro hj (lastC_snoc pre (k, (pv, ph), (qv, qh))))
            have PA : Hid (prtTI a k = (pv, ph) ∧ prtTI b k = (qv, qh)) := Lib.hid ⟨(prtT_lkI GD.out.1.2.1).trans ea.symm, (prtT_lkI GD.out.2.2.1).trans eb.symm⟩
            have EW := Lib.hid (E8.out.below (hbl.mono (Nat.le_of_eq hywy)))
            have HF := Lib.hid hf
            have HBX := Lib.hid hbx
            have HBY := Lib.hid hby
            have HBL := Lib.hid hbl
            have HBZ := Lib.hid hbz
            have hbxl : nb + 2 ≤ W.heap.size := by have := (Array.getElem?_eq_some_iff.1 hbz).1; omega
            clear hmem ea eb hkl hla hj hf hbx hby hbl hbz hp
            have HC : Hid (Chain [W] W) := Lib.hid (Chain.one W)
            gi_wp2
            by_cases hj0 : j = 0
            case' pos =>
              have hjn : ¬ (0 : Int) < (j : Int) := by omega
              have hjd : decide ((0 : Int) < (j : Int)) = false := by simpa using hjn
              have hjp : ¬ 0 < j := by omega
              have hjd2 : decide (0 < j) = false := by simpa using hjp
              clear hlast hj0
              cases ph <;> cases qh
              case' false.false => exact absurd rfl hne
              case' true.true => exact absurd rfl hne
              all_goals clear hne
              all_goals
                refine wpIn_region_round (S := fun w' => Below W.heap.size W w') (by kernel_rfl) (by kernel_rfl) (Below.refl _ _).drew (fun hS => ?_)
                refine wpAnyH_take (i := 0) (oi := ⟨some 88, _, _, _, _, _⟩) (v := ?_) rfl (by kernel_rfl) (by kernel_rfl) (by kernel_rfl) (fun _ _ _ h => h) (Or.inl ⟨by rfl, ?_⟩) hS ?_
                rotate_left 1
                · intro w' hB; have hd := (HC.out.to W (by simp)).trans (hB.mono (HC.out.to W (by simp)).size); have EM := EW.out.below hd; have ka : _ = _ := EM.f.cell (t := 29) HM.out.2.1; have kb : _ = _ := EM.f.cell (t := 29) HM.out.2.2.1; have kn := cell_of_one (boxStays HBX.out hd); have kl := cell_of_one (boxStays HBY.out hd); have kz := boxStays HBZ.out hd; have z0 := cell_of_row _ bx 0 _ _ _ kz; have z1 := cell_of_row _ bx 1 _ _ _ kz; have z2 := cell_of_row _ bx 2 _ _ _ kz; have z3 := cell_of_row _ bx 3 _ _ _ kz; clear hd EM kz; (go_simp <;> with_reducible rfl)
                try simp only [Act.put, List.setIfInBounds_toArray, List.set_cons_zero, List.set_cons_succ]
                refine wpAnyH_take (i := 1) (oi := ⟨some 89, _, _, _, _, _⟩) (v := ?_) rfl (by kernel_rfl) (by kernel_rfl) (by kernel_rfl) (fun _ _ _ h => h) (Or.inl ⟨by rfl, ?_⟩) hS ?_
                rotate_left 1
                · intro w' hB; have hd := (HC.out.to W (by simp)).trans (hB.mono (HC.out.to W (by simp)).size); have EM := EW.out.below hd; have ka : _ = _ := EM.f.cell (t := 29) HM.out.2.1; have kb : _ = _ := EM.f.cell (t := 29) HM.out.2.2.1; have kn := cell_of_one (boxStays HBX.out hd); have kl := cell_of_one (boxStays HBY.out hd); have kz := boxStays HBZ.out hd; have z0 := cell_of_row _ bx 0 _ _ _ kz; have z1 := cell_of_row _ bx 1 _ _ _ kz; have z2 := cell_of_row _ bx 2 _ _ _ kz; have z3 := cell_of_row _ bx 3 _ _ _ kz; clear hd EM kz; (go_simp <;> with_reducible rfl)
                try simp only [Act.put, List.setIfInBounds_toArray, List.set_cons_zero, List.set_cons_succ]
                refine wpAnyH_take (i := 2) (oi := ⟨some 90, _, _, _, _, _⟩) (v := ?_) rfl (by kernel_rfl) (by kernel_rfl) (by kernel_rfl) (fun _ _ _ h => h) (Or.inl ⟨by rfl, ?_⟩) hS ?_
                rotate_left 1
                · intro w' hB; have hd := (HC.out.to W (by simp)).trans (hB.mono (HC.out.to W (by simp)).size); have EM := EW.out.below hd; have ka : _ = _ := EM.f.cell (t := 29) HM.out.2.1; have kb : _ = _ := EM.f.cell (t := 29) HM.out.2.2.1; have kn := cell_of_one (boxStays HBX.out hd); have kl := cell_of_one (boxStays HBY.out hd); have kz := boxStays HBZ.out hd; have z0 := cell_of_row _ bx 0 _ _ _ kz; have z1 := cell_of_row _ bx 1 _ _ _ kz; have z2 := cell_of_row _ bx 2 _ _ _ kz; have z3 := cell_of_row _ bx 3 _ _ _ kz; clear hd EM kz; (go_simp <;> with_reducible rfl)
                try simp only [Act.put, List.setIfInBounds_toArray, List.set_cons_zero, List.set_cons_succ]
                refine wpAnyH_take (i := 3) (oi := ⟨some 91, _, _, _, _, _⟩) (v := ?_) rfl (by kernel_rfl) (by kernel_rfl) (by kernel_rfl) (fun _ _ _ h => h) (Or.inl ⟨by rfl, ?_⟩) hS ?_
                rotate_left 1
                · intro w' hB; have hd := (HC.out.to W (by simp)).trans (hB.mono (HC.out.to W (by simp)).size); have EM := EW.out.below hd; have ka : _ = _ := EM.f.cell (t := 29) HM.out.2.1; have kb : _ = _ := EM.f.cell (t := 29) HM.out.2.2.1; have kn := cell_of_one (boxStays HBX.out hd); have kl := cell_of_one (boxStays HBY.out hd); have kz := boxStays HBZ.out hd; have z0 := cell_of_row _ bx 0 _ _ _ kz; have z1 := cell_of_row _ bx 1 _ _ _ kz; have z2 := cell_of_row _ bx 2 _ _ _ kz; have z3 := cell_of_row _ bx 3 _ _ _ kz; clear hd EM kz; (go_simp <;> with_reducible rfl)
                try simp only [Act.put, List.setIfInBounds_toArray, List.set_cons_zero, List.set_cons_succ]
                refine wpAnyH_ready (rs := [4]) (by kernel_rfl) (by simp) (AllReadyH.cons (o := ⟨some 92, _, _, _, _, _⟩) rfl (fun K hK => ?_) AllReadyH.nil)
                go_simp
                refine (wk_part a k _ ((EW.out.t a (by simp)).chain HC.out hS (by simp))).mono ?_
                rintro e w2 ⟨rfl, hb⟩
                refine hK.out _ _ (hS.trans (hb.mono hS.size)) (fun _ => ?_)
                clear hK K
                have hB := hS.trans (hb.mono hS.size)
                refine wpAnyH_now hB ?_
                clear hS
                have hS := Below.refl w2.heap.size w2
                replace HC := Lib.hid (HC.out.push hB)
                rw [PA.out.1]
                unfold prtVI
                dsimp only
                clear hB hb
                try simp only [Act.put, List.setIfInBounds_toArray, List.set_cons_zero, List.set_cons_succ]
                refine wpAnyH_take (i := 5) (oi := ⟨some 93, _, _, _, _, _⟩) (v := ?_) rfl (by kernel_rfl) (by kernel_rfl) (by kernel_rfl) (fun _ _ _ h => h) (Or.inl ⟨by rfl, ?_⟩) hS ?_
                rotate_left 1
                · intro w' hB; have hd := (HC.out.to W (by simp)).trans (hB.mono (HC.out.to W (by simp)).size); have EM := EW.out.below hd; have ka : _ = _ := EM.f.cell (t := 29) HM.out.2.1; have kb : _ = _ := EM.f.cell (t := 29) HM.out.2.2.1; have kn := cell_of_one (boxStays HBX.out hd); have kl := cell_of_one (boxStays HBY.out hd); have kz := boxStays HBZ.out hd; have z0 := cell_of_row _ bx 0 _ _ _ kz; have z1 := cell_of_row _ bx 1 _ _ _ kz; have z2 := cell_of_row _ bx 2 _ _ _ kz; have z3 := cell_of_row _ bx 3 _ _ _ kz; clear hd EM kz; (go_simp <;> with_reducible rfl)
                try simp only [Act.put, List.setIfInBounds_toArray, List.set_cons_zero, List.set_cons_succ]
                refine wpAnyH_take (i := 6) (oi := ⟨some 94, _, _, _, _, _⟩) (v := ?_) rfl (by kernel_rfl) (by kernel_rfl) (by kernel_rfl) (fun _ _ _ h => h) (Or.inl ⟨by rfl, ?_⟩) hS ?_
                rotate_left 1
                · intro w' hB; have hd := (HC.out.to W (by simp)).trans (hB.mono (HC.out.to W (by simp)).size); have EM := EW.out.below hd; have ka : _ = _ := EM.f.cell (t := 29) HM.out.2.1; have kb : _ = _ := EM.f.cell (t := 29) HM.out.2.2.1; have kn := cell_of_one (boxStays HBX.out hd); have kl := cell_of_one (boxStays HBY.out hd); have kz := boxStays HBZ.out hd; have z0 := cell_of_row _ bx 0 _ _ _ kz; have z1 := cell_of_row _ bx 1 _ _ _ kz; have z2 := cell_of_row _ bx 2 _ _ _ kz; have z3 := cell_of_row _ bx 3 _ _ _ kz; clear hd EM kz; (go_simp <;> with_reducible rfl)
                try simp only [Act.put, List.setIfInBounds_toArray, List.set_cons_zero, List.set_cons_succ]
                refine wpAnyH_take (i := 7) (oi := ⟨some 95, _, _, _, _, _⟩) (v := ?_) rfl (by kernel_rfl) (by kernel_rfl) (by kernel_rfl) (fun _ _ _ h => h) (Or.inl ⟨by rfl, ?_⟩) hS ?_
                rotate_left 1
                · intro w' hB; have hd := (HC.out.to W (by simp)).trans (hB.mono (HC.out.to W (by simp)).size); have EM := EW.out.below hd; have ka : _ = _ := EM.f.cell (t := 29) HM.out.2.1; have kb : _ = _ := EM.f.cell (t := 29) HM.out.2.2.1; have kn := cell_of_one (boxStays HBX.out hd); have kl := cell_of_one (boxStays HBY.out hd); have kz := boxStays HBZ.out hd; have z0 := cell_of_row _ bx 0 _ _ _ kz; have z1 := cell_of_row _ bx 1 _ _ _ kz; have z2 := cell_of_row _ bx 2 _ _ _ kz; have z3 := cell_of_row _ bx 3 _ _ _ kz; clear hd EM kz; (go_simp <;> with_reducible rfl)
                try simp only [Act.put, List.setIfInBounds_toArray, List.set_cons_zero, List.set_cons_succ]
                refine wpAnyH_take (i := 8) (oi := ⟨some 96, _, _, _, _, _⟩) (v := ?_) rfl (by kernel_rfl) (by kernel_rfl) (by kernel_rfl) (fun _ _ _ h => h) (Or.inl ⟨by rfl, ?_⟩) hS ?_
                rotate_left 1
                · intro w' hB; have hd := (HC.out.to W (by simp)).trans (hB.mono (HC.out.to W (by simp)).size); have EM := EW.out.below hd; have ka : _ = _ := EM.f.cell (t := 29) HM.out.2.1; have kb : _ = _ := EM.f.cell (t := 29) HM.out.2.2.1; have kn := cell_of_one (boxStays HBX.out hd); have kl := cell_of_one (boxStays HBY.out hd); have kz := boxStays HBZ.out hd; have z0 := cell_of_row _ bx 0 _ _ _ kz; have z1 := cell_of_row _ bx 1 _ _ _ kz; have z2 := cell_of_row _ bx 2 _ _ _ kz; have z3 := cell_of_row _ bx 3 _ _ _ kz; clear hd EM kz; (go_simp <;> with_reducible rfl)
                try simp only [Act.put, List.setIfInBounds_toArray, List.set_cons_zero, List.set_cons_succ]
                refine wpAnyH_take (i := 9) (oi := ⟨some 97, _, _, _, _, _⟩) (v := ?_) rfl (by kernel_rfl) (by kernel_rfl) (by kernel_rfl) (fun _ _ _ h => h) (Or.inl ⟨by rfl, ?_⟩) hS ?_
                rotate_left 1
                · intro w' hB; have hd := (HC.out.to W (by simp)).trans (hB.mono (HC.out.to W (by simp)).size); have EM := EW.out.below hd; have ka : _ = _ := EM.f.cell (t := 29) HM.out.2.1; have kb : _ = _ := EM.f.cell (t := 29) HM.out.2.2.1; have kn := cell_of_one (boxStays HBX.out hd); have kl := cell_of_one (boxStays HBY.out hd); have kz := boxStays HBZ.out hd; have z0 := cell_of_row _ bx 0 _ _ _ kz; have z1 := cell_of_row _ bx 1 _ _ _ kz; have z2 := cell_of_row _ bx 2 _ _ _ kz; have z3 := cell_of_row _ bx 3 _ _ _ kz; clear hd EM kz; (go_simp <;> with_reducible rfl)
                try simp only [Act.put, List.setIfInBounds_toArray, List.set_cons_zero, List.set_cons_succ]
                refine wpAnyH_take (i := 10) (oi := ⟨some 98, _, _, _, _, _⟩) (v := ?_) rfl (by kernel_rfl) (by kernel_rfl) (by kernel_rfl) (fun _ _ _ h => h) (Or.inl ⟨by rfl, ?_⟩) hS ?_
                rotate_left 1
                · intro w' hB; have hd := (HC.out.to W (by simp)).trans (hB.mono (HC.out.to W (by simp)).size); have EM := EW.out.below hd; have ka : _ = _ := EM.f.cell (t := 29) HM.out.2.1; have kb : _ = _ := EM.f.cell (t := 29) HM.out.2.2.1; have kn := cell_of_one (boxStays HBX.out hd); have kl := cell_of_one (boxStays HBY.out hd); have kz := boxStays HBZ.out hd; have z0 := cell_of_row _ bx 0 _ _ _ kz; have z1 := cell_of_row _ bx 1 _ _ _ kz; have z2 := cell_of_row _ bx 2 _ _ _ kz; have z3 := cell_of_row _ bx 3 _ _ _ kz; clear hd EM kz; (go_simp <;> with_reducible rfl)
                try simp only [Act.put, List.setIfInBounds_toArray, List.set_cons_zero, List.set_cons_succ]
                refine wpAnyH_ready (rs := [11]) (by kernel_rfl) (by simp) (AllReadyH.cons (o := ⟨some 99, _, _, _, _, _⟩) rfl (fun K hK => ?_) AllReadyH.nil)
                go_simp
                refine (wk_part b k _ ((EW.out.t b (by simp)).chain HC.out hS (by simp))).mono ?_
                rintro e w3 ⟨rfl, hb⟩
                refine hK.out _ _ (hS.trans (hb.mono hS.size)) (fun _ => ?_)
                clear hK K
                have hB := hS.trans (hb.mono hS.size)
                refine wpAnyH_now hB ?_
                clear hS
                have hS := Below.refl w3.heap.size w3
                replace HC := Lib.hid (HC.out.push hB)
                rw [PA.out.2]
                unfold prtVI
                dsimp only
                clear hB hb
                try simp only [Act.put, List.setIfInBounds_toArray, List.set_cons_zero, List.set_cons_succ]
                refine wpAnyH_take (i := 12) (oi := ⟨some 100, _, _, _, _, _⟩) (v := ?_) rfl (by kernel_rfl) (by kernel_rfl) (by kernel_rfl) (fun _ _ _ h => h) (Or.inl ⟨by rfl, ?_⟩) hS ?_
                rotate_left 1
                · intro w' hB; have hd := (HC.out.to W (by simp)).trans (hB.mono (HC.out.to W (by simp)).size); have EM := EW.out.below hd; have ka : _ = _ := EM.f.cell (t := 29) HM.out.2.1; have kb : _ = _ := EM.f.cell (t := 29) HM.out.2.2.1; have kn := cell_of_one (boxStays HBX.out hd); have kl := cell_of_one (boxStays HBY.out hd); have kz := boxStays HBZ.out hd; have z0 := cell_of_row _ bx 0 _ _ _ kz; have z1 := cell_of_row _ bx 1 _ _ _ kz; have z2 := cell_of_row _ bx 2 _ _ _ kz; have z3 := cell_of_row _ bx 3 _ _ _ kz; clear hd EM kz; (go_simp <;> with_reducible rfl)
                try simp only [Act.put, List.setIfInBounds_toArray, List.set_cons_zero, List.set_cons_succ]
                refine wpAnyH_take (i := 13) (oi := ⟨some 101, _, _, _, _, _⟩) (v := ?_) rfl (by kernel_rfl) (by kernel_rfl) (by kernel_rfl) (fun _ _ _ h => h) (Or.inl ⟨by rfl, ?_⟩) hS ?_
                rotate_left 1
                · intro w' hB; have hd := (HC.out.to W (by simp)).trans (hB.mono (HC.out.to W (by simp)).size); have EM := EW.out.below hd; have ka : _ = _ := EM.f.cell (t := 29) HM.out.2.1; have kb : _ = _ := EM.f.cell (t := 29) HM.out.2.2.1; have kn := cell_of_one (boxStays HBX.out hd); have kl := cell_of_one (boxStays HBY.out hd); have kz := boxStays HBZ.out hd; have z0 := cell_of_row _ bx 0 _ _ _ kz; have z1 := cell_of_row _ bx 1 _ _ _ kz; have z2 := cell_of_row _ bx 2 _ _ _ kz; have z3 := cell_of_row _ bx 3 _ _ _ kz; clear hd EM kz; (go_simp <;> with_reducible rfl)
                try simp only [Act.put, List.setIfInBounds_toArray, List.set_cons_zero, List.set_cons_succ]
                refine wpAnyH_take (i := 14) (oi := ⟨some 102, _, _, _, _, _⟩) (v := ?_) rfl (by kernel_rfl) (by kernel_rfl) (by kernel_rfl) (fun _ _ _ h => h) (Or.inl ⟨by rfl, ?_⟩) hS ?_
                rotate_left 1
                · intro w' hB; have hd := (HC.out.to W (by simp)).trans (hB.mono (HC.out.to W (by simp)).size); have EM := EW.out.below hd; have ka : _ = _ := EM.f.cell (t := 29) HM.out.2.1; have kb : _ = _ := EM.f.cell (t := 29) HM.out.2.2.1; have kn := cell_of_one (boxStays HBX.out hd); have kl := cell_of_one (boxStays HBY.out hd); have kz := boxStays HBZ.out hd; have z0 := cell_of_row _ bx 0 _ _ _ kz; have z1 := cell_of_row _ bx 1 _ _ _ kz; have z2 := cell_of_row _ bx 2 _ _ _ kz; have z3 := cell_of_row _ bx 3 _ _ _ kz; clear hd EM kz; (go_simp <;> with_reducible rfl)
                try simp only [Act.put, List.setIfInBounds_toArray, List.set_cons_zero, List.set_cons_succ]
                refine wpAnyH_take (i := 15) (oi := ⟨some 103, _, _, _, _, _⟩) (v := ?_) rfl (by kernel_rfl) (by kernel_rfl) (by kernel_rfl) (fun _ _ _ h => h) (Or.inl ⟨by rfl, ?_⟩) hS ?_
                rotate_left 1
                · intro w' hB; have hd := (HC.out.to W (by simp)).trans (hB.mono (HC.out.to W (by simp)).size); have EM := EW.out.below hd; have ka : _ = _ := EM.f.cell (t := 29) HM.out.2.1; have kb : _ = _ := EM.f.cell (t := 29) HM.out.2.2.1; have kn := cell_of_one (boxStays HBX.out hd); have kl := cell_of_one (boxStays HBY.out hd); have kz := boxStays HBZ.out hd; have z0 := cell_of_row _ bx 0 _ _ _ kz; have z1 := cell_of_row _ bx 1 _ _ _ kz; have z2 := cell_of_row _ bx 2 _ _ _ kz; have z3 := cell_of_row _ bx 3 _ _ _ kz; clear hd EM kz; (go_simp <;> with_reducible rfl)
                try simp only [Act.put, List.setIfInBounds_toArray, List.set_cons_zero, List.set_cons_succ]
                refine wpAnyH_take (i := 16) (oi := ⟨some 104, _, _, _, _, _⟩) (v := ?_) rfl (by kernel_rfl) (by kernel_rfl) (by kernel_rfl) (fun _ _ _ h => h) (Or.inl ⟨by rfl, ?_⟩) hS ?_
                rotate_left 1
                · intro w' hB; have hd := (HC.out.to W (by simp)).trans (hB.mono (HC.out.to W (by simp)).size); have EM := EW.out.below hd; have ka : _ = _ := EM.f.cell (t := 29) HM.out.2.1; have kb : _ = _ := EM.f.cell (t := 29) HM.out.2.2.1; have kn := cell_of_one (boxStays HBX.out hd); have kl := cell_of_one (boxStays HBY.out hd); have kz := boxStays HBZ.out hd; have z0 := cell_of_row _ bx 0 _ _ _ kz; have z1 := cell_of_row _ bx 1 _ _ _ kz; have z2 := cell_of_row _ bx 2 _ _ _ kz; have z3 := cell_of_row _ bx 3 _ _ _ kz; clear hd EM kz; (go_simp <;> with_reducible rfl)
                try simp only [Act.put, List.setIfInBounds_toArray, List.set_cons_zero, List.set_cons_succ]
                refine wpAnyH_take (i := 17) (oi := ⟨some 105, _, _, _, _, _⟩) (v := ?_) rfl (by kernel_rfl) (by kernel_rfl) (by kernel_rfl) (fun _ _ _ h => h) (Or.inl ⟨by rfl, ?_⟩) hS ?_
                rotate_left 1
                · intro w' hB; have hd := (HC.out.to W (by simp)).trans (hB.mono (HC.out.to W (by simp)).size); have EM := EW.out.below hd; have ka : _ = _ := EM.f.cell (t := 29) HM.out.2.1; have kb : _ = _ := EM.f.cell (t := 29) HM.out.2.2.1; have kn := cell_of_one (boxStays HBX.out hd); have kl := cell_of_one (boxStays HBY.out hd); have kz := boxStays HBZ.out hd; have z0 := cell_of_row _ bx 0 _ _ _ kz; have z1 := cell_of_row _ bx 1 _ _ _ kz; have z2 := cell_of_row _ bx 2 _ _ _ kz; have z3 := cell_of_row _ bx 3 _ _ _ kz; clear hd EM kz; (go_simp <;> with_reducible rfl)
                try simp only [Act.put, List.setIfInBounds_toArray, List.set_cons_zero, List.set_cons_succ]
                refine wpAnyH_take (i := 18) (oi := ⟨some 106, _, _, _, _, _⟩) (v := ?_) rfl (by kernel_rfl) (by kernel_rfl) (by kernel_rfl) (fun _ _ _ h => h) (Or.inl ⟨by rfl, ?_⟩) hS ?_
                rotate_left 1
                · intro w' hB; have hd := (HC.out.to W (by simp)).trans (hB.mono (HC.out.to W (by simp)).size); have EM := EW.out.below hd; have ka : _ = _ := EM.f.cell (t := 29) HM.out.2.1; have kb : _ = _ := EM.f.cell (t := 29) HM.out.2.2.1; have kn := cell_of_one (boxStays HBX.out hd); have kl := cell_of_one (boxStays HBY.out hd); have kz := boxStays HBZ.out hd; have z0 := cell_of_row _ bx 0 _ _ _ kz; have z1 := cell_of_row _ bx 1 _ _ _ kz; have z2 := cell_of_row _ bx 2 _ _ _ kz; have z3 := cell_of_row _ bx 3 _ _ _ kz; clear hd EM kz; (go_simp <;> with_reducible rfl)
                try simp only [Act.put, List.setIfInBounds_toArray, List.set_cons_zero, List.set_cons_succ]
                refine wpAnyH_take (i := 19) (oi := ⟨some 107, _, _, _, _, _⟩) (v := ?_) rfl (by kernel_rfl) (by kernel_rfl) (by kernel_rfl) (fun _ _ _ h => h) (Or.inl ⟨by rfl, ?_⟩) hS ?_
                rotate_left 1
                · intro w' hB; have hd := (HC.out.to W (by simp)).trans (hB.mono (HC.out.to W (by simp)).size); have EM := EW.out.below hd; have ka : _ = _ := EM.f.cell (t := 29) HM.out.2.1; have kb : _ = _ := EM.f.cell (t := 29) HM.out.2.2.1; have kn := cell_of_one (boxStays HBX.out hd); have kl := cell_of_one (boxStays HBY.out hd); have kz := boxStays HBZ.out hd; have z0 := cell_of_row _ bx 0 _ _ _ kz; have z1 := cell_of_row _ bx 1 _ _ _ kz; have z2 := cell_of_row _ bx 2 _ _ _ kz; have z3 := cell_of_row _ bx 3 _ _ _ kz; clear hd EM kz; (go_simp <;> with_reducible rfl)
                try simp only [Act.put, List.setIfInBounds_toArray, List.set_cons_zero, List.set_cons_succ]
                refine wpAnyH_take (i := 20) (oi := ⟨some 108, _, _, _, _, _⟩) (v := ?_) rfl (by kernel_rfl) (by kernel_rfl) (by kernel_rfl) (fun _ _ _ h => h) (Or.inl ⟨by rfl, ?_⟩) hS ?_
                rotate_left 1
                · intro w' hB; have hd := (HC.out.to W (by simp)).trans (hB.mono (HC.out.to W (by simp)).size); have EM := EW.out.below hd; have ka : _ = _ := EM.f.cell (t := 29) HM.out.2.1; have kb : _ = _ := EM.f.cell (t := 29) HM.out.2.2.1; have kn := cell_of_one (boxStays HBX.out hd); have kl := cell_of_one (boxStays HBY.out hd); have kz := boxStays HBZ.out hd; have z0 := cell_of_row _ bx 0 _ _ _ kz; have z1 := cell_of_row _ bx 1 _ _ _ kz; have z2 := cell_of_row _ bx 2 _ _ _ kz; have z3 := cell_of_row _ bx 3 _ _ _ kz; clear hd EM kz; (go_simp <;> with_reducible rfl)
                try simp only [Act.put, List.setIfInBounds_toArray, List.set_cons_zero, List.set_cons_succ]
                refine wpAnyH_take (i := 21) (oi := ⟨some 109, _, _, _, _, _⟩) (v := ?_) rfl (by kernel_rfl) (by kernel_rfl) (by kernel_rfl) (fun _ _ _ h => h) (Or.inl ⟨by rfl, ?_⟩) hS ?_
                rotate_left 1
                · intro w' hB; have hd := (HC.out.to W (by simp)).trans (hB.mono (HC.out.to W (by simp)).size); have EM := EW.out.below hd; have ka : _ = _ := EM.f.cell (t := 29) HM.out.2.1; have kb : _ = _ := EM.f.cell (t := 29) HM.out.2.2.1; have kn := cell_of_one (boxStays HBX.out hd); have kl := cell_of_one (boxStays HBY.out hd); have kz := boxStays HBZ.out hd; have z0 := cell_of_row _ bx 0 _ _ _ kz; have z1 := cell_of_row _ bx 1 _ _ _ kz; have z2 := cell_of_row _ bx 2 _ _ _ kz; have z3 := cell_of_row _ bx 3 _ _ _ kz; clear hd EM kz; (go_simp <;> with_reducible rfl)
                try simp only [Act.put, List.setIfInBounds_toArray, List.set_cons_zero, List.set_cons_succ]
                refine wpAnyH_take (i := 22) (oi := ⟨some 110, _, _, _, _, _⟩) (v := ?_) rfl (by kernel_rfl) (by kernel_rfl) (by kernel_rfl) (fun _ _ _ h => h) (Or.inl ⟨by rfl, ?_⟩) hS ?_
                rotate_left 1
                · intro w' hB; have hd := (HC.out.to W (by simp)).trans (hB.mono (HC.out.to W (by simp)).size); have EM := EW.out.below hd; have ka : _ = _ := EM.f.cell (t := 29) HM.out.2.1; have kb : _ = _ := EM.f.cell (t := 29) HM.out.2.2.1; have kn := cell_of_one (boxStays HBX.out hd); have kl := cell_of_one (boxStays HBY.out hd); have kz := boxStays HBZ.out hd; have z0 := cell_of_row _ bx 0 _ _ _ kz; have z1 := cell_of_row _ bx 1 _ _ _ kz; have z2 := cell_of_row _ bx 2 _ _ _ kz; have z3 := cell_of_row _ bx 3 _ _ _ kz; clear hd EM kz; (go_simp <;> with_reducible rfl)
                try simp only [Act.put, List.setIfInBounds_toArray, List.set_cons_zero, List.set_cons_succ]
                refine wpAnyH_take (i := 23) (oi := ⟨some 111, _, _, _, _, _⟩) (v := ?_) rfl (by kernel_rfl) (by kernel_rfl) (by kernel_rfl) (fun _ _ _ h => h) (Or.inl ⟨by rfl, ?_⟩) hS ?_
                rotate_left 1
                · intro w' hB; have hd := (HC.out.to W (by simp)).trans (hB.mono (HC.out.to W (by simp)).size); have EM := EW.out.below hd; have ka : _ = _ := EM.f.cell (t := 29) HM.out.2.1; have kb : _ = _ := EM.f.cell (t := 29) HM.out.2.2.1; have kn := cell_of_one (boxStays HBX.out hd); have kl := cell_of_one (boxStays HBY.out hd); have kz := boxStays HBZ.out hd; have z0 := cell_of_row _ bx 0 _ _ _ kz; have z1 := cell_of_row _ bx 1 _ _ _ kz; have z2 := cell_of_row _ bx 2 _ _ _ kz; have z3 := cell_of_row _ bx 3 _ _ _ kz; clear hd EM kz; (go_simp <;> with_reducible rfl)
                try simp only [Act.put, List.setIfInBounds_toArray, List.set_cons_zero, List.set_cons_succ]
                refine wpAnyH_take (i := 24) (oi := ⟨some 112, _, _, _, _, _⟩) (v := ?_) rfl (by kernel_rfl) (by kernel_rfl) (by kernel_rfl) (fun _ _ _ h => h) (Or.inl ⟨by rfl, ?_⟩) hS ?_
                rotate_left 1
                · intro w' hB; have hd := (HC.out.to W (by simp)).trans (hB.mono (HC.out.to W (by simp)).size); have EM := EW.out.below hd; have ka : _ = _ := EM.f.cell (t := 29) HM.out.2.1; have kb : _ = _ := EM.f.cell (t := 29) HM.out.2.2.1; have kn := cell_of_one (boxStays HBX.out hd); have kl := cell_of_one (boxStays HBY.out hd); have kz := boxStays HBZ.out hd; have z0 := cell_of_row _ bx 0 _ _ _ kz; have z1 := cell_of_row _ bx 1 _ _ _ kz; have z2 := cell_of_row _ bx 2 _ _ _ kz; have z3 := cell_of_row _ bx 3 _ _ _ kz; clear hd EM kz; (go_simp <;> with_reducible rfl)
                try simp only [Act.put, List.setIfInBounds_toArray, List.set_cons_zero, List.set_cons_succ]
                refine wpAnyH_take (i := 25) (oi := ⟨some 113, _, _, _, _, _⟩) (v := ?_) rfl (by kernel_rfl) (by kernel_rfl) (by kernel_rfl) (fun _ _ _ h => h) (Or.inl ⟨by rfl, ?_⟩) hS ?_
                rotate_left 1
                · intro w' hB; have hd := (HC.out.to W (by simp)).trans (hB.mono (HC.out.to W (by simp)).size); have EM := EW.out.below hd; have ka : _ = _ := EM.f.cell (t := 29) HM.out.2.1; have kb : _ = _ := EM.f.cell (t := 29) HM.out.2.2.1; have kn := cell_of_one (boxStays HBX.out hd); have kl := cell_of_one (boxStays HBY.out hd); have kz := boxStays HBZ.out hd; have z0 := cell_of_row _ bx 0 _ _ _ kz; have z1 := cell_of_row _ bx 1 _ _ _ kz; have z2 := cell_of_row _ bx 2 _ _ _ kz; have z3 := cell_of_row _ bx 3 _ _ _ kz; clear hd EM kz; (go_simp <;> with_reducible rfl)
                try simp only [Act.put, List.setIfInBounds_toArray, List.set_cons_zero, List.set_cons_succ]
                refine wpAnyH_take (i := 26) (oi := ⟨some 114, _, _, _, _, _⟩) (v := ?_) rfl (by kernel_rfl) (by kernel_rfl) (by kernel_rfl) (fun _ _ _ h => h) (Or.inl ⟨by rfl, ?_⟩) hS ?_
                rotate_left 1
                · intro w' hB; have hd := (HC.out.to W (by simp)).trans (hB.mono (HC.out.to W (by simp)).size); have EM := EW.out.below hd; have ka : _ = _ := EM.f.cell (t := 29) HM.out.2.1; have kb : _ = _ := EM.f.cell (t := 29) HM.out.2.2.1; have kn := cell_of_one (boxStays HBX.out hd); have kl := cell_of_one (boxStays HBY.out hd); have kz := boxStays HBZ.out hd; have z0 := cell_of_row _ bx 0 _ _ _ kz; have z1 := cell_of_row _ bx 1 _ _ _ kz; have z2 := cell_of_row _ bx 2 _ _ _ kz; have z3 := cell_of_row _ bx 3 _ _ _ kz; clear hd EM kz; (go_simp <;> with_reducible rfl)
                try simp only [Act.put, List.setIfInBounds_toArray, List.set_cons_zero, List.set_cons_succ]
                refine wpAnyH_take (i := 27) (oi := ⟨some 115, _, _, _, _, _⟩) rfl (by kernel_rfl) (by kernel_rfl) (by kernel_rfl) (fun _ _ _ h => h) (Or.inr ⟨by rfl, rfl⟩) hS ?_
                try simp only [Act.put, List.setIfInBounds_toArray, List.set_cons_zero, List.set_cons_succ]
                refine wpAnyH_take (i := 28) (oi := ⟨some 116, _, _, _, _, _⟩) rfl (by kernel_rfl) (by kernel_rfl) (by kernel_rfl) (fun _ _ _ h => h) (Or.inr ⟨by rfl, rfl⟩) hS ?_
                try simp only [Act.put, List.setIfInBounds_toArray, List.set_cons_zero, List.set_cons_succ]
                refine wpAnyH_take (i := 29) (oi := ⟨some 117, _, _, _, _, _⟩) rfl (by kernel_rfl) (by kernel_rfl) (by kernel_rfl) (fun _ _ _ h => h) (Or.inr ⟨by rfl, rfl⟩) hS ?_
                try simp only [Act.put, List.setIfInBounds_toArray, List.set_cons_zero, List.set_cons_succ]
                refine wpAnyH_take (i := 30) (oi := ⟨some 118, _, _, _, _, _⟩) (v := ?_) rfl (by kernel_rfl) (by kernel_rfl) (by kernel_rfl) (fun _ _ _ h => h) (Or.inl ⟨by rfl, ?_⟩) hS ?_
                rotate_left 1
                · intro w' hB; have hd := (HC.out.to W (by simp)).trans (hB.mono (HC.out.to W (by simp)).size); have EM := EW.out.below hd; have ka : _ = _ := EM.f.cell (t := 29) HM.out.2.1; have kb : _ = _ := EM.f.cell (t := 29) HM.out.2.2.1; have kn := cell_of_one (boxStays HBX.out hd); have kl := cell_of_one (boxStays HBY.out hd); have kz := boxStays HBZ.out hd; have z0 := cell_of_row _ bx 0 _ _ _ kz; have z1 := cell_of_row _ bx 1 _ _ _ kz; have z2 := cell_of_row _ bx 2 _ _ _ kz; have z3 := cell_of_row _ bx 3 _ _ _ kz; clear hd EM kz; (go_simp <;> with_reducible rfl)
                try simp only [Act.put, List.setIfInBounds_toArray, List.set_cons_zero, List.set_cons_succ]
                refine wpAnyH_take (i := 31) (oi := ⟨some 119, _, _, _, _, _⟩) (v := ?_) rfl (by kernel_rfl) (by kernel_rfl) (by kernel_rfl) (fun _ _ _ h => h) (Or.inl ⟨by rfl, ?_⟩) hS ?_
                rotate_left 1
                · intro w' hB; have hd := (HC.out.to W (by simp)).trans (hB.mono (HC.out.to W (by simp)).size); have EM := EW.out.below hd; have ka : _ = _ := EM.f.cell (t := 29) HM.out.2.1; have kb : _ = _ := EM.f.cell (t := 29) HM.out.2.2.1; have kn := cell_of_one (boxStays HBX.out hd); have kl := cell_of_one (boxStays HBY.out hd); have kz := boxStays HBZ.out hd; have z0 := cell_of_row _ bx 0 _ _ _ kz; have z1 := cell_of_row _ bx 1 _ _ _ kz; have z2 := cell_of_row _ bx 2 _ _ _ kz; have z3 := cell_of_row _ bx 3 _ _ _ kz; clear hd EM kz; (go_simp <;> with_reducible rfl)
                try simp only [Act.put, List.setIfInBounds_toArray, List.set_cons_zero, List.set_cons_succ]
                refine wpAnyH_done (by kernel_rfl) (OnlyN.normal ?_) _
            case' neg =>
              have hjn : (0 : Int) < (j : Int) := by omega
              have hjd : decide ((0 : Int) < (j : Int)) = true := by simpa using hjn
              have hjp : 0 < j := by omega
              have hjd2 : decide (0 < j) = true := by simpa using hjp
              have hkl2 : Op.bytesLess la.toList k.toList = true := hlast hj0
              have hle1 : Op.bytesLess k.toList la.toList = false := klt_asymm hkl2
              have hle2 : (k.toList == la.toList) = false := by rw [eq_iff]; simpa using (klt_ne hkl2).symm
              clear hlast hj0
              cases ph <;> cases qh
              case' false.false => exact absurd rfl hne
              case' true.true => exact absurd rfl hne
              all_goals clear hne
              all_goals
                refine wpIn_region_round (S := fun w' => Below W.heap.size W w') (by kernel_rfl) (by kernel_rfl) (Below.refl _ _).drew (fun hS => ?_)
                refine wpAnyH_take (i := 0) (oi := ⟨some 88, _, _, _, _, _⟩) (v := ?_) rfl (by kernel_rfl) (by kernel_rfl) (by kernel_rfl) (fun _ _ _ h => h) (Or.inl ⟨by rfl, ?_⟩) hS ?_
                rotate_left 1
                · intro w' hB; have hd := (HC.out.to W (by simp)).trans (hB.mono (HC.out.to W (by simp)).size); have EM := EW.out.below hd; have ka : _ = _ := EM.f.cell (t := 29) HM.out.2.1; have kb : _ = _ := EM.f.cell (t := 29) HM.out.2.2.1; have kn := cell_of_one (boxStays HBX.out hd); have kl := cell_of_one (boxStays HBY.out hd); have kz := boxStays HBZ.out hd; have z0 := cell_of_row _ bx 0 _ _ _ kz; have z1 := cell_of_row _ bx 1 _ _ _ kz; have z2 := cell_of_row _ bx 2 _ _ _ kz; have z3 := cell_of_row _ bx 3 _ _ _ kz; clear hd EM kz; (go_simp <;> with_reducible rfl)
                try simp only [Act.put, List.setIfInBounds_toArray, List.set_cons_zero, List.set_cons_succ]
                refine wpAnyH_take (i := 1) (oi := ⟨some 89, _, _, _, _, _⟩) (v := ?_) rfl (by kernel_rfl) (by kernel_rfl) (by kernel_rfl) (fun _ _ _ h => h) (Or.inl ⟨by rfl, ?_⟩) hS ?_
                rotate_left 1
                · intro w' hB; have hd := (HC.out.to W (by simp)).trans (hB.mono (HC.out.to W (by simp)).size); have EM := EW.out.below hd; have ka : _ = _ := EM.f.cell (t := 29) HM.out.2.1; have kb : _ = _ := EM.f.cell (t := 29) HM.out.2.2.1; have kn := cell_of_one (boxStays HBX.out hd); have kl := cell_of_one (boxStays HBY.out hd); have kz := boxStays HBZ.out hd; have z0 := cell_of_row _ bx 0 _ _ _ kz; have z1 := cell_of_row _ bx 1 _ _ _ kz; have z2 := cell_of_row _ bx 2 _ _ _ kz; have z3 := cell_of_row _ bx 3 _ _ _ kz; clear hd EM kz; (go_simp <;> with_reducible rfl)
                try simp only [Act.put, List.setIfInBounds_toArray, List.set_cons_zero, List.set_cons_succ]
                refine wpAnyH_take (i := 2) (oi := ⟨some 90, _, _, _, _, _⟩) (v := ?_) rfl (by kernel_rfl) (by kernel_rfl) (by kernel_rfl) (fun _ _ _ h => h) (Or.inl ⟨by rfl, ?_⟩) hS ?_
                rotate_left 1
                · intro w' hB; have hd := (HC.out.to W (by simp)).trans (hB.mono (HC.out.to W (by simp)).size); have EM := EW.out.below hd; have ka : _ = _ := EM.f.cell (t := 29) HM.out.2.1; have kb : _ = _ := EM.f.cell (t := 29) HM.out.2.2.1; have kn := cell_of_one (boxStays HBX.out hd); have kl := cell_of_one (boxStays HBY.out hd); have kz := boxStays HBZ.out hd; have z0 := cell_of_row _ bx 0 _ _ _ kz; have z1 := cell_of_row _ bx 1 _ _ _ kz; have z2 := cell_of_row _ bx 2 _ _ _ kz; have z3 := cell_of_row _ bx 3 _ _ _ kz; clear hd EM kz; (go_simp <;> with_reducible rfl)
                try simp only [Act.put, List.setIfInBounds_toArray, List.set_cons_zero, List.set_cons_succ]
                refine wpAnyH_take (i := 3) (oi := ⟨some 91, _, _, _, _, _⟩) (v := ?_) rfl (by kernel_rfl) (by kernel_rfl) (by kernel_rfl) (fun _ _ _ h => h) (Or.inl ⟨by rfl, ?_⟩) hS ?_
                rotate_left 1
                · intro w' hB; have hd := (HC.out.to W (by simp)).trans (hB.mono (HC.out.to W (by simp)).size); have EM := EW.out.below hd; have ka : _ = _ := EM.f.cell (t := 29) HM.out.2.1; have kb : _ = _ := EM.f.cell (t := 29) HM.out.2.2.1; have kn := cell_of_one (boxStays HBX.out hd); have kl := cell_of_one (boxStays HBY.out hd); have kz := boxStays HBZ.out hd; have z0 := cell_of_row _ bx 0 _ _ _ kz; have z1 := cell_of_row _ bx 1 _ _ _ kz; have z2 := cell_of_row _ bx 2 _ _ _ kz; have z3 := cell_of_row _ bx 3 _ _ _ kz; clear hd EM kz; (go_simp <;> with_reducible rfl)
                try simp only [Act.put, List.setIfInBounds_toArray, List.set_cons_zero, List.set_cons_succ]
                refine wpAnyH_ready (rs := [4]) (by kernel_rfl) (by simp) (AllReadyH.cons (o := ⟨some 92, _, _, _, _, _⟩) rfl (fun K hK => ?_) AllReadyH.nil)
                go_simp
                refine (wk_part a k _ ((EW.out.t a (by simp)).chain HC.out hS (by simp))).mono ?_
                rintro e w2 ⟨rfl, hb⟩
                refine hK.out _ _ (hS.trans (hb.mono hS.size)) (fun _ => ?_)
                clear hK K
                have hB := hS.trans (hb.mono hS.size)
                refine wpAnyH_now hB ?_
                clear hS
                have hS := Below.refl w2.heap.size w2
                replace HC := Lib.hid (HC.out.push hB)
                rw [PA.out.1]
                unfold prtVI
                dsimp only
                clear hB hb
                try simp only [Act.put, List.setIfInBounds_toArray, List.set_cons_zero, List.set_cons_succ]
                refine wpAnyH_take (i := 5) (oi := ⟨some 93, _, _, _, _, _⟩) (v := ?_) rfl (by kernel_rfl) (by kernel_rfl) (by kernel_rfl) (fun _ _ _ h => h) (Or.inl ⟨by rfl, ?_⟩) hS ?_
                rotate_left 1
                · intro w' hB; have hd := (HC.out.to W (by simp)).trans (hB.mono (HC.out.to W (by simp)).size); have EM := EW.out.below hd; have ka : _ = _ := EM.f.cell (t := 29) HM.out.2.1; have kb : _ = _ := EM.f.cell (t := 29) HM.out.2.2.1; have kn := cell_of_one (boxStays HBX.out hd); have kl := cell_of_one (boxStays HBY.out hd); have kz := boxStays HBZ.out hd; have z0 := cell_of_row _ bx 0 _ _ _ kz; have z1 := cell_of_row _ bx 1 _ _ _ kz; have z2 := cell_of_row _ bx 2 _ _ _ kz; have z3 := cell_of_row _ bx 3 _ _ _ kz; clear hd EM kz; (go_simp <;> with_reducible rfl)
                try simp only [Act.put, List.setIfInBounds_toArray, List.set_cons_zero, List.set_cons_succ]
                refine wpAnyH_take (i := 6) (oi := ⟨some 94, _, _, _, _, _⟩) (v := ?_) rfl (by kernel_rfl) (by kernel_rfl) (by kernel_rfl) (fun _ _ _ h => h) (Or.inl ⟨by rfl, ?_⟩) hS ?_
                rotate_left 1
                · intro w' hB; have hd := (HC.out.to W (by simp)).trans (hB.mono (HC.out.to W (by simp)).size); have EM := EW.out.below hd; have ka : _ = _ := EM.f.cell (t := 29) HM.out.2.1; have kb : _ = _ := EM.f.cell (t := 29) HM.out.2.2.1; have kn := cell_of_one (boxStays HBX.out hd); have kl := cell_of_one (boxStays HBY.out hd); have kz := boxStays HBZ.out hd; have z0 := cell_of_row _ bx 0 _ _ _ kz; have z1 := cell_of_row _ bx 1 _ _ _ kz; have z2 := cell_of_row _ bx 2 _ _ _ kz; have z3 := cell_of_row _ bx 3 _ _ _ kz; clear hd EM kz; (go_simp <;> with_reducible rfl)
                try simp only [Act.put, List.setIfInBounds_toArray, List.set_cons_zero, List.set_cons_succ]
                refine wpAnyH_take (i := 7) (oi := ⟨some 95, _, _, _, _, _⟩) (v := ?_) rfl (by kernel_rfl) (by kernel_rfl) (by kernel_rfl) (fun _ _ _ h => h) (Or.inl ⟨by rfl, ?_⟩) hS ?_
                rotate_left 1
                · intro w' hB; have hd := (HC.out.to W (by simp)).trans (hB.mono (HC.out.to W (by simp)).size); have EM := EW.out.below hd; have ka : _ = _ := EM.f.cell (t := 29) HM.out.2.1; have kb : _ = _ := EM.f.cell (t := 29) HM.out.2.2.1; have kn := cell_of_one (boxStays HBX.out hd); have kl := cell_of_one (boxStays HBY.out hd); have kz := boxStays HBZ.out hd; have z0 := cell_of_row _ bx 0 _ _ _ kz; have z1 := cell_of_row _ bx 1 _ _ _ kz; have z2 := cell_of_row _ bx 2 _ _ _ kz; have z3 := cell_of_row _ bx 3 _ _ _ kz; clear hd EM kz; (go_simp <;> with_reducible rfl)
                try simp only [Act.put, List.setIfInBounds_toArray, List.set_cons_zero, List.set_cons_succ]
                refine wpAnyH_take (i := 8) (oi := ⟨some 96, _, _, _, _, _⟩) (v := ?_) rfl (by kernel_rfl) (by kernel_rfl) (by kernel_rfl) (fun _ _ _ h => h) (Or.inl ⟨by rfl, ?_⟩) hS ?_
                rotate_left 1
                · intro w' hB; have hd := (HC.out.to W (by simp)).trans (hB.mono (HC.out.to W (by simp)).size); have EM := EW.out.below hd; have ka : _ = _ := EM.f.cell (t := 29) HM.out.2.1; have kb : _ = _ := EM.f.cell (t := 29) HM.out.2.2.1; have kn := cell_of_one (boxStays HBX.out hd); have kl := cell_of_one (boxStays HBY.out hd); have kz := boxStays HBZ.out hd; have z0 := cell_of_row _ bx 0 _ _ _ kz; have z1 := cell_of_row _ bx 1 _ _ _ kz; have z2 := cell_of_row _ bx 2 _ _ _ kz; have z3 := cell_of_row _ bx 3 _ _ _ kz; clear hd EM kz; (go_simp <;> with_reducible rfl)
                try simp only [Act.put, List.setIfInBounds_toArray, List.set_cons_zero, List.set_cons_succ]
                refine wpAnyH_take (i := 9) (oi := ⟨some 97, _, _, _, _, _⟩) (v := ?_) rfl (by kernel_rfl) (by kernel_rfl) (by kernel_rfl) (fun _ _ _ h => h) (Or.inl ⟨by rfl, ?_⟩) hS ?_
                rotate_left 1
                · intro w' hB; have hd := (HC.out.to W (by simp)).trans (hB.mono (HC.out.to W (by simp)).size); have EM := EW.out.below hd; have ka : _ = _ := EM.f.cell (t := 29) HM.out.2.1; have kb : _ = _ := EM.f.cell (t := 29) HM.out.2.2.1; have kn := cell_of_one (boxStays HBX.out hd); have kl := cell_of_one (boxStays HBY.out hd); have kz := boxStays HBZ.out hd; have z0 := cell_of_row _ bx 0 _ _ _ kz; have z1 := cell_of_row _ bx 1 _ _ _ kz; have z2 := cell_of_row _ bx 2 _ _ _ kz; have z3 := cell_of_row _ bx 3 _ _ _ kz; clear hd EM kz; (go_simp <;> with_reducible rfl)
                try simp only [Act.put, List.setIfInBounds_toArray, List.set_cons_zero, List.set_cons_succ]
                refine wpAnyH_take (i := 10) (oi := ⟨some 98, _, _, _, _, _⟩) (v := ?_) rfl (by kernel_rfl) (by kernel_rfl) (by kernel_rfl) (fun _ _ _ h => h) (Or.inl ⟨by rfl, ?_⟩) hS ?_
                rotate_left 1
                · intro w' hB; have hd := (HC.out.to W (by simp)).trans (hB.mono (HC.out.to W (by simp)).size); have EM := EW.out.below hd; have ka : _ = _ := EM.f.cell (t := 29) HM.out.2.1; have kb : _ = _ := EM.f.cell (t := 29) HM.out.2.2.1; have kn := cell_of_one (boxStays HBX.out hd); have kl := cell_of_one (boxStays HBY.out hd); have kz := boxStays HBZ.out hd; have z0 := cell_of_row _ bx 0 _ _ _ kz; have z1 := cell_of_row _ bx 1 _ _ _ kz; have z2 := cell_of_row _ bx 2 _ _ _ kz; have z3 := cell_of_row _ bx 3 _ _ _ kz; clear hd EM kz; (go_simp <;> with_reducible rfl)
                try simp only [Act.put, List.setIfInBounds_toArray, List.set_cons_zero, List.set_cons_succ]
                refine wpAnyH_ready (rs := [11]) (by kernel_rfl) (by simp) (AllReadyH.cons (o := ⟨some 99, _, _, _, _, _⟩) rfl (fun K hK => ?_) AllReadyH.nil)
                go_simp
                refine (wk_part b k _ ((EW.out.t b (by simp)).chain HC.out hS (by simp))).mono ?_
                rintro e w3 ⟨rfl, hb⟩
                refine hK.out _ _ (hS.trans (hb.mono hS.size)) (fun _ => ?_)
                clear hK K
                have hB := hS.trans (hb.mono hS.size)
                refine wpAnyH_now hB ?_
                clear hS
                have hS := Below.refl w3.heap.size w3
                replace HC := Lib.hid (HC.out.push hB)
                rw [PA.out.2]
                unfold prtVI
                dsimp only
                clear hB hb
                try simp only [Act.put, List.setIfInBounds_toArray, List.set_cons_zero, List.set_cons_succ]
                refine wpAnyH_take (i := 12) (oi := ⟨some 100, _, _, _, _, _⟩) (v := ?_) rfl (by kernel_rfl) (by kernel_rfl) (by kernel_rfl) (fun _ _ _ h => h) (Or.inl ⟨by rfl, ?_⟩) hS ?_
                rotate_left 1
                · intro w' hB; have hd := (HC.out.to W (by simp)).trans (hB.mono (HC.out.to W (by simp)).size); have EM := EW.out.below hd; have ka : _ = _ := EM.f.cell (t := 29) HM.out.2.1; have kb : _ = _ := EM.f.cell (t := 29) HM.out.2.2.1; have kn := cell_of_one (boxStays HBX.out hd); have kl := cell_of_one (boxStays HBY.out hd); have kz := boxStays HBZ.out hd; have z0 := cell_of_row _ bx 0 _ _ _ kz; have z1 := cell_of_row _ bx 1 _ _ _ kz; have z2 := cell_of_row _ bx 2 _ _ _ kz; have z3 := cell_of_row _ bx 3 _ _ _ kz; clear hd EM kz; (go_simp <;> with_reducible rfl)
                try simp only [Act.put, List.setIfInBounds_toArray, List.set_cons_zero, List.set_cons_succ]
                refine wpAnyH_take (i := 13) (oi := ⟨some 101, _, _, _, _, _⟩) (v := ?_) rfl (by kernel_rfl) (by kernel_rfl) (by kernel_rfl) (fun _ _ _ h => h) (Or.inl ⟨by rfl, ?_⟩) hS ?_
                rotate_left 1
                · intro w' hB; have hd := (HC.out.to W (by simp)).trans (hB.mono (HC.out.to W (by simp)).size); have EM := EW.out.below hd; have ka : _ = _ := EM.f.cell (t := 29) HM.out.2.1; have kb : _ = _ := EM.f.cell (t := 29) HM.out.2.2.1; have kn := cell_of_one (boxStays HBX.out hd); have kl := cell_of_one (boxStays HBY.out hd); have kz := boxStays HBZ.out hd; have z0 := cell_of_row _ bx 0 _ _ _ kz; have z1 := cell_of_row _ bx 1 _ _ _ kz; have z2 := cell_of_row _ bx 2 _ _ _ kz; have z3 := cell_of_row _ bx 3 _ _ _ kz; clear hd EM kz; (go_simp <;> with_reducible rfl)
                try simp only [Act.put, List.setIfInBounds_toArray, List.set_cons_zero, List.set_cons_succ]
                refine wpAnyH_take (i := 14) (oi := ⟨some 102, _, _, _, _, _⟩) (v := ?_) rfl (by kernel_rfl) (by kernel_rfl) (by kernel_rfl) (fun _ _ _ h => h) (Or.inl ⟨by rfl, ?_⟩) hS ?_
                rotate_left 1
                · intro w' hB; have hd := (HC.out.to W (by simp)).trans (hB.mono (HC.out.to W (by simp)).size); have EM := EW.out.below hd; have ka : _ = _ := EM.f.cell (t := 29) HM.out.2.1; have kb : _ = _ := EM.f.cell (t := 29) HM.out.2.2.1; have kn := cell_of_one (boxStays HBX.out hd); have kl := cell_of_one (boxStays HBY.out hd); have kz := boxStays HBZ.out hd; have z0 := cell_of_row _ bx 0 _ _ _ kz; have z1 := cell_of_row _ bx 1 _ _ _ kz; have z2 := cell_of_row _ bx 2 _ _ _ kz; have z3 := cell_of_row _ bx 3 _ _ _ kz; clear hd EM kz; (go_simp <;> with_reducible rfl)
                try simp only [Act.put, List.setIfInBounds_toArray, List.set_cons_zero, List.set_cons_succ]
                refine wpAnyH_take (i := 15) (oi := ⟨some 103, _, _, _, _, _⟩) (v := ?_) rfl (by kernel_rfl) (by kernel_rfl) (by kernel_rfl) (fun _ _ _ h => h) (Or.inl ⟨by rfl, ?_⟩) hS ?_
                rotate_left 1
                · intro w' hB; have hd := (HC.out.to W (by simp)).trans (hB.mono (HC.out.to W (by simp)).size); have EM := EW.out.below hd; have ka : _ = _ := EM.f.cell (t := 29) HM.out.2.1; have kb : _ = _ := EM.f.cell (t := 29) HM.out.2.2.1; have kn := cell_of_one (boxStays HBX.out hd); have kl := cell_of_one (boxStays HBY.out hd); have kz := boxStays HBZ.out hd; have z0 := cell_of_row _ bx 0 _ _ _ kz; have z1 := cell_of_row _ bx 1 _ _ _ kz; have z2 := cell_of_row _ bx 2 _ _ _ kz; have z3 := cell_of_row _ bx 3 _ _ _ kz; clear hd EM kz; (go_simp <;> with_reducible rfl)
                try simp only [Act.put, List.setIfInBounds_toArray, List.set_cons_zero, List.set_cons_succ]
                refine wpAnyH_take (i := 16) (oi := ⟨some 104, _, _, _, _, _⟩) (v := ?_) rfl (by kernel_rfl) (by kernel_rfl) (by kernel_rfl) (fun _ _ _ h => h) (Or.inl ⟨by rfl, ?_⟩) hS ?_
                rotate_left 1
                · intro w' hB; have hd := (HC.out.to W (by simp)).trans (hB.mono (HC.out.to W (by simp)).size); have EM := EW.out.below hd; have ka : _ = _ := EM.f.cell (t := 29) HM.out.2.1; have kb : _ = _ := EM.f.cell (t := 29) HM.out.2.2.1; have kn := cell_of_one (boxStays HBX.out hd); have kl := cell_of_one (boxStays HBY.out hd); have kz := boxStays HBZ.out hd; have z0 := cell_of_row _ bx 0 _ _ _ kz; have z1 := cell_of_row _ bx 1 _ _ _ kz; have z2 := cell_of_row _ bx 2 _ _ _ kz; have z3 := cell_of_row _ bx 3 _ _ _ kz; clear hd EM kz; (go_simp <;> with_reducible rfl)
                try simp only [Act.put, List.setIfInBounds_toArray, List.set_cons_zero, List.set_cons_succ]
                refine wpAnyH_take (i := 17) (oi := ⟨some 105, _, _, _, _, _⟩) (v := ?_) rfl (by kernel_rfl) (by kernel_rfl) (by kernel_rfl) (fun _ _ _ h => h) (Or.inl ⟨by rfl, ?_⟩) hS ?_
                rotate_left 1
                · intro w' hB; have hd := (HC.out.to W (by simp)).trans (hB.mono (HC.out.to W (by simp)).size); have EM := EW.out.below hd; have ka : _ = _ := EM.f.cell (t := 29) HM.out.2.1; have kb : _ = _ := EM.f.cell (t := 29) HM.out.2.2.1; have kn := cell_of_one (boxStays HBX.out hd); have kl := cell_of_one (boxStays HBY.out hd); have kz := boxStays HBZ.out hd; have z0 := cell_of_row _ bx 0 _ _ _ kz; have z1 := cell_of_row _ bx 1 _ _ _ kz; have z2 := cell_of_row _ bx 2 _ _ _ kz; have z3 := cell_of_row _ bx 3 _ _ _ kz; clear hd EM kz; (go_simp <;> with_reducible rfl)
                try simp only [Act.put, List.setIfInBounds_toArray, List.set_cons_zero, List.set_cons_succ]
                refine wpAnyH_take (i := 18) (oi := ⟨some 106, _, _, _, _, _⟩) (v := ?_) rfl (by kernel_rfl) (by kernel_rfl) (by kernel_rfl) (fun _ _ _ h => h) (Or.inl ⟨by rfl, ?_⟩) hS ?_
                rotate_left 1
                · intro w' hB; have hd := (HC.out.to W (by simp)).trans (hB.mono (HC.out.to W (by simp)).size); have EM := EW.out.below hd; have ka : _ = _ := EM.f.cell (t := 29) HM.out.2.1; have kb : _ = _ := EM.f.cell (t := 29) HM.out.2.2.1; have kn := cell_of_one (boxStays HBX.out hd); have kl := cell_of_one (boxStays HBY.out hd); have kz := boxStays HBZ.out hd; have z0 := cell_of_row _ bx 0 _ _ _ kz; have z1 := cell_of_row _ bx 1 _ _ _ kz; have z2 := cell_of_row _ bx 2 _ _ _ kz; have z3 := cell_of_row _ bx 3 _ _ _ kz; clear hd EM kz; (go_simp <;> with_reducible rfl)
                try simp only [Act.put, List.setIfInBounds_toArray, List.set_cons_zero, List.set_cons_succ]
                refine wpAnyH_take (i := 19) (oi := ⟨some 107, _, _, _, _, _⟩) (v := ?_) rfl (by kernel_rfl) (by kernel_rfl) (by kernel_rfl) (fun _ _ _ h => h) (Or.inl ⟨by rfl, ?_⟩) hS ?_
                rotate_left 1
                · intro w' hB; have hd := (HC.out.to W (by simp)).trans (hB.mono (HC.out.to W (by simp)).size); have EM := EW.out.below hd; have ka : _ = _ := EM.f.cell (t := 29) HM.out.2.1; have kb : _ = _ := EM.f.cell (t := 29) HM.out.2.2.1; have kn := cell_of_one (boxStays HBX.out hd); have kl := cell_of_one (boxStays HBY.out hd); have kz := boxStays HBZ.out hd; have z0 := cell_of_row _ bx 0 _ _ _ kz; have z1 := cell_of_row _ bx 1 _ _ _ kz; have z2 := cell_of_row _ bx 2 _ _ _ kz; have z3 := cell_of_row _ bx 3 _ _ _ kz; clear hd EM kz; (go_simp <;> with_reducible rfl)
                try simp only [Act.put, List.setIfInBounds_toArray, List.set_cons_zero, List.set_cons_succ]
                refine wpAnyH_take (i := 20) (oi := ⟨some 108, _, _, _, _, _⟩) (v := ?_) rfl (by kernel_rfl) (by kernel_rfl) (by kernel_rfl) (fun _ _ _ h => h) (Or.inl ⟨by rfl, ?_⟩) hS ?_
                rotate_left 1
                · intro w' hB; have hd := (HC.out.to W (by simp)).trans (hB.mono (HC.out.to W (by simp)).size); have EM := EW.out.below hd; have ka : _ = _ := EM.f.cell (t := 29) HM.out.2.1; have kb : _ = _ := EM.f.cell (t := 29) HM.out.2.2.1; have kn := cell_of_one (boxStays HBX.out hd); have kl := cell_of_one (boxStays HBY.out hd); have kz := boxStays HBZ.out hd; have z0 := cell_of_row _ bx 0 _ _ _ kz; have z1 := cell_of_row _ bx 1 _ _ _ kz; have z2 := cell_of_row _ bx 2 _ _ _ kz; have z3 := cell_of_row _ bx 3 _ _ _ kz; clear hd EM kz; (go_simp <;> with_reducible rfl)
                try simp only [Act.put, List.setIfInBounds_toArray, List.set_cons_zero, List.set_cons_succ]
                refine wpAnyH_take (i := 21) (oi := ⟨some 109, _, _, _, _, _⟩) (v := ?_) rfl (by kernel_rfl) (by kernel_rfl) (by kernel_rfl) (fun _ _ _ h => h) (Or.inl ⟨by rfl, ?_⟩) hS ?_
                rotate_left 1
                · intro w' hB; have hd := (HC.out.to W (by simp)).trans (hB.mono (HC.out.to W (by simp)).size); have EM := EW.out.below hd; have ka : _ = _ := EM.f.cell (t := 29) HM.out.2.1; have kb : _ = _ := EM.f.cell (t := 29) HM.out.2.2.1; have kn := cell_of_one (boxStays HBX.out hd); have kl := cell_of_one (boxStays HBY.out hd); have kz := boxStays HBZ.out hd; have z0 := cell_of_row _ bx 0 _ _ _ kz; have z1 := cell_of_row _ bx 1 _ _ _ kz; have z2 := cell_of_row _ bx 2 _ _ _ kz; have z3 := cell_of_row _ bx 3 _ _ _ kz; clear hd EM kz; (go_simp <;> with_reducible rfl)
                try simp only [Act.put, List.setIfInBounds_toArray, List.set_cons_zero, List.set_cons_succ]
                refine wpAnyH_take (i := 22) (oi := ⟨some 110, _, _, _, _, _⟩) (v := ?_) rfl (by kernel_rfl) (by kernel_rfl) (by kernel_rfl) (fun _ _ _ h => h) (Or.inl ⟨by rfl, ?_⟩) hS ?_
                rotate_left 1
                · intro w' hB; have hd := (HC.out.to W (by simp)).trans (hB.mono (HC.out.to W (by simp)).size); have EM := EW.out.below hd; have ka : _ = _ := EM.f.cell (t := 29) HM.out.2.1; have kb : _ = _ := EM.f.cell (t := 29) HM.out.2.2.1; have kn := cell_of_one (boxStays HBX.out hd); have kl := cell_of_one (boxStays HBY.out hd); have kz := boxStays HBZ.out hd; have z0 := cell_of_row _ bx 0 _ _ _ kz; have z1 := cell_of_row _ bx 1 _ _ _ kz; have z2 := cell_of_row _ bx 2 _ _ _ kz; have z3 := cell_of_row _ bx 3 _ _ _ kz; clear hd EM kz; (go_simp <;> with_reducible rfl)
                try simp only [Act.put, List.setIfInBounds_toArray, List.set_cons_zero, List.set_cons_succ]
                refine wpAnyH_take (i := 23) (oi := ⟨some 111, _, _, _, _, _⟩) (v := ?_) rfl (by kernel_rfl) (by kernel_rfl) (by kernel_rfl) (fun _ _ _ h => h) (Or.inl ⟨by rfl, ?_⟩) hS ?_
                rotate_left 1
                · intro w' hB; have hd := (HC.out.to W (by simp)).trans (hB.mono (HC.out.to W (by simp)).size); have EM := EW.out.below hd; have ka : _ = _ := EM.f.cell (t := 29) HM.out.2.1; have kb : _ = _ := EM.f.cell (t := 29) HM.out.2.2.1; have kn := cell_of_one (boxStays HBX.out hd); have kl := cell_of_one (boxStays HBY.out hd); have kz := boxStays HBZ.out hd; have z0 := cell_of_row _ bx 0 _ _ _ kz; have z1 := cell_of_row _ bx 1 _ _ _ kz; have z2 := cell_of_row _ bx 2 _ _ _ kz; have z3 := cell_of_row _ bx 3 _ _ _ kz; clear hd EM kz; (go_simp <;> with_reducible rfl)
                try simp only [Act.put, List.setIfInBounds_toArray, List.set_cons_zero, List.set_cons_succ]
                refine wpAnyH_take (i := 24) (oi := ⟨some 112, _, _, _, _, _⟩) (v := ?_) rfl (by kernel_rfl) (by kernel_rfl) (by kernel_rfl) (fun _ _ _ h => h) (Or.inl ⟨by rfl, ?_⟩) hS ?_
                rotate_left 1
                · intro w' hB; have hd := (HC.out.to W (by simp)).trans (hB.mono (HC.out.to W (by simp)).size); have EM := EW.out.below hd; have ka : _ = _ := EM.f.cell (t := 29) HM.out.2.1; have kb : _ = _ := EM.f.cell (t := 29) HM.out.2.2.1; have kn := cell_of_one (boxStays HBX.out hd); have kl := cell_of_one (boxStays HBY.out hd); have kz := boxStays HBZ.out hd; have z0 := cell_of_row _ bx 0 _ _ _ kz; have z1 := cell_of_row _ bx 1 _ _ _ kz; have z2 := cell_of_row _ bx 2 _ _ _ kz; have z3 := cell_of_row _ bx 3 _ _ _ kz; clear hd EM kz; (go_simp <;> with_reducible rfl)
                try simp only [Act.put, List.setIfInBounds_toArray, List.set_cons_zero, List.set_cons_succ]
                refine wpAnyH_take (i := 25) (oi := ⟨some 113, _, _, _, _, _⟩) (v := ?_) rfl (by kernel_rfl) (by kernel_rfl) (by kernel_rfl) (fun _ _ _ h => h) (Or.inl ⟨by rfl, ?_⟩) hS ?_
                rotate_left 1
                · intro w' hB; have hd := (HC.out.to W (by simp)).trans (hB.mono (HC.out.to W (by simp)).size); have EM := EW.out.below hd; have ka : _ = _ := EM.f.cell (t := 29) HM.out.2.1; have kb : _ = _ := EM.f.cell (t := 29) HM.out.2.2.1; have kn := cell_of_one (boxStays HBX.out hd); have kl := cell_of_one (boxStays HBY.out hd); have kz := boxStays HBZ.out hd; have z0 := cell_of_row _ bx 0 _ _ _ kz; have z1 := cell_of_row _ bx 1 _ _ _ kz; have z2 := cell_of_row _ bx 2 _ _ _ kz; have z3 := cell_of_row _ bx 3 _ _ _ kz; clear hd EM kz; (go_simp <;> with_reducible rfl)
                try simp only [Act.put, List.setIfInBounds_toArray, List.set_cons_zero, List.set_cons_succ]
                refine wpAnyH_take (i := 26) (oi := ⟨some 114, _, _, _, _, _⟩) (v := ?_) rfl (by kernel_rfl) (by kernel_rfl) (by kernel_rfl) (fun _ _ _ h => h) (Or.inl ⟨by rfl, ?_⟩) hS ?_
                rotate_left 1
                · intro w' hB; have hd := (HC.out.to W (by simp)).trans (hB.mono (HC.out.to W (by simp)).size); have EM := EW.out.below hd; have ka : _ = _ := EM.f.cell (t := 29) HM.out.2.1; have kb : _ = _ := EM.f.cell (t := 29) HM.out.2.2.1; have kn := cell_of_one (boxStays HBX.out hd); have kl := cell_of_one (boxStays HBY.out hd); have kz := boxStays HBZ.out hd; have z0 := cell_of_row _ bx 0 _ _ _ kz; have z1 := cell_of_row _ bx 1 _ _ _ kz; have z2 := cell_of_row _ bx 2 _ _ _ kz; have z3 := cell_of_row _ bx 3 _ _ _ kz; clear hd EM kz; (go_simp <;> with_reducible rfl)
                try simp only [Act.put, List.setIfInBounds_toArray, List.set_cons_zero, List.set_cons_succ]
                refine wpAnyH_take (i := 27) (oi := ⟨some 115, _, _, _, _, _⟩) (v := ?_) rfl (by kernel_rfl) (by kernel_rfl) (by kernel_rfl) (fun _ _ _ h => h) (Or.inl ⟨by rfl, ?_⟩) hS ?_
                rotate_left 1
                · intro w' hB; have hd := (HC.out.to W (by simp)).trans (hB.mono (HC.out.to W (by simp)).size); have EM := EW.out.below hd; have ka : _ = _ := EM.f.cell (t := 29) HM.out.2.1; have kb : _ = _ := EM.f.cell (t := 29) HM.out.2.2.1; have kn := cell_of_one (boxStays HBX.out hd); have kl := cell_of_one (boxStays HBY.out hd); have kz := boxStays HBZ.out hd; have z0 := cell_of_row _ bx 0 _ _ _ kz; have z1 := cell_of_row _ bx 1 _ _ _ kz; have z2 := cell_of_row _ bx 2 _ _ _ kz; have z3 := cell_of_row _ bx 3 _ _ _ kz; clear hd EM kz; (go_simp <;> with_reducible rfl)
                try simp only [Act.put, List.setIfInBounds_toArray, List.set_cons_zero, List.set_cons_succ]
                refine wpAnyH_take (i := 28) (oi := ⟨some 116, _, _, _, _, _⟩) (v := ?_) rfl (by kernel_rfl) (by kernel_rfl) (by kernel_rfl) (fun _ _ _ h => h) (Or.inl ⟨by rfl, ?_⟩) hS ?_
                rotate_left 1
                · intro w' hB; have hd := (HC.out.to W (by simp)).trans (hB.mono (HC.out.to W (by simp)).size); have EM := EW.out.below hd; have ka : _ = _ := EM.f.cell (t := 29) HM.out.2.1; have kb : _ = _ := EM.f.cell (t := 29) HM.out.2.2.1; have kn := cell_of_one (boxStays HBX.out hd); have kl := cell_of_one (boxStays HBY.out hd); have kz := boxStays HBZ.out hd; have z0 := cell_of_row _ bx 0 _ _ _ kz; have z1 := cell_of_row _ bx 1 _ _ _ kz; have z2 := cell_of_row _ bx 2 _ _ _ kz; have z3 := cell_of_row _ bx 3 _ _ _ kz; clear hd EM kz; (go_simp <;> with_reducible rfl)
                try simp only [Act.put, List.setIfInBounds_toArray, List.set_cons_zero, List.set_cons_succ]
                refine wpAnyH_take (i := 29) (oi := ⟨some 117, _, _, _, _, _⟩) (v := ?_) rfl (by kernel_rfl) (by kernel_rfl) (by kernel_rfl) (fun _ _ _ h => h) (Or.inl ⟨by rfl, ?_⟩) hS ?_
                rotate_left 1
                · intro w' hB; have hd := (HC.out.to W (by simp)).trans (hB.mono (HC.out.to W (by simp)).size); have EM := EW.out.below hd; have ka : _ = _ := EM.f.cell (t := 29) HM.out.2.1; have kb : _ = _ := EM.f.cell (t := 29) HM.out.2.2.1; have kn := cell_of_one (boxStays HBX.out hd); have kl := cell_of_one (boxStays HBY.out hd); have kz := boxStays HBZ.out hd; have z0 := cell_of_row _ bx 0 _ _ _ kz; have z1 := cell_of_row _ bx 1 _ _ _ kz; have z2 := cell_of_row _ bx 2 _ _ _ kz; have z3 := cell_of_row _ bx 3 _ _ _ kz; clear hd EM kz; (go_simp <;> with_reducible rfl)
                try simp only [Act.put, List.setIfInBounds_toArray, List.set_cons_zero, List.set_cons_succ]
                refine wpAnyH_take (i := 30) (oi := ⟨some 118, _, _, _, _, _⟩) (v := ?_) rfl (by kernel_rfl) (by kernel_rfl) (by kernel_rfl) (fun _ _ _ h => h) (Or.inl ⟨by rfl, ?_⟩) hS ?_
                rotate_left 1
                · intro w' hB; have hd := (HC.out.to W (by simp)).trans (hB.mono (HC.out.to W (by simp)).size); have EM := EW.out.below hd; have ka : _ = _ := EM.f.cell (t := 29) HM.out.2.1; have kb : _ = _ := EM.f.cell (t := 29) HM.out.2.2.1; have kn := cell_of_one (boxStays HBX.out hd); have kl := cell_of_one (boxStays HBY.out hd); have kz := boxStays HBZ.out hd; have z0 := cell_of_row _ bx 0 _ _ _ kz; have z1 := cell_of_row _ bx 1 _ _ _ kz; have z2 := cell_of_row _ bx 2 _ _ _ kz; have z3 := cell_of_row _ bx 3 _ _ _ kz; clear hd EM kz; (go_simp <;> with_reducible rfl)
                try simp only [Act.put, List.setIfInBounds_toArray, List.set_cons_zero, List.set_cons_succ]
                refine wpAnyH_take (i := 31) (oi := ⟨some 119, _, _, _, _, _⟩) (v := ?_) rfl (by kernel_rfl) (by kernel_rfl) (by kernel_rfl) (fun _ _ _ h => h) (Or.inl ⟨by rfl, ?_⟩) hS ?_
                rotate_left 1
                · intro w' hB; have hd := (HC.out.to W (by simp)).trans (hB.mono (HC.out.to W (by simp)).size); have EM := EW.out.below hd; have ka : _ = _ := EM.f.cell (t := 29) HM.out.2.1; have kb : _ = _ := EM.f.cell (t := 29) HM.out.2.2.1; have kn := cell_of_one (boxStays HBX.out hd); have kl := cell_of_one (boxStays HBY.out hd); have kz := boxStays HBZ.out hd; have z0 := cell_of_row _ bx 0 _ _ _ kz; have z1 := cell_of_row _ bx 1 _ _ _ kz; have z2 := cell_of_row _ bx 2 _ _ _ kz; have z3 := cell_of_row _ bx 3 _ _ _ kz; clear hd EM kz; (go_simp <;> with_reducible rfl)
                try simp only [Act.put, List.setIfInBounds_toArray, List.set_cons_zero, List.set_cons_succ]
                refine wpAnyH_done (by kernel_rfl) (OnlyN.normal ?_) _
            all_goals
              have hd := HC.out.to W (by simp)
              have hzl : z + 1 < y := by rw [← hywy]; exact E8.out.f.lt _ HM.out.2.2.2.1
              have hTn : T < nb := hHl _ eTm
              have b0 : Boxed w3 nb 3 (.int .i64 (j : Int)) := boxStays HBX.out hd
              have b1 : Boxed w3 (nb + 1) 9 (.string la) := boxStays HBY.out hd
              have c0 : Boxed (w3.setCell ⟨nb + 1, 0, none⟩ (.string k)) nb 3 (.int .i64 (j : Int)) := (Below.heap_setCell _ _ _ _ (by simp)).trans b0
              have c1 : Boxed (w3.setCell ⟨nb + 1, 0, none⟩ (.string k)) (nb + 1) 9 (.string k) := Boxed.set (t := 9) (v := .string la) (.string k) b1
              have KF : Hid (KeepsFrom (nb + 2) W ((w3.setCell ⟨nb + 1, 0, none⟩ (.string k)).setCell ⟨nb, 0, none⟩ (.int .i64 ((j : Int) + 1)))) := Lib.hid ⟨by simpa [World.setCell] using hd.size, fun k' o' hk' ho' _ => (Below.heap_setCell _ _ _ _ (by simp; omega)).trans ((Below.heap_setCell _ _ _ _ (by simp; omega)).trans ((hd.block k' (Array.getElem?_eq_some_iff.1 ho').1).trans ho'))⟩
              have KE : Hid (KeepE (nb + 2 + 2) (fun k => k < y) (fun _ => False) W ((w3.setCell ⟨nb + 1, 0, none⟩ (.string k)).setCell ⟨nb, 0, none⟩ (.int .i64 ((j : Int) + 1)))) := Lib.hid (((KeepE.below hd (fun k' hk' => by omega)).trans (KeepE.setCell w3 (nb + 1) 0 _ (by omega) (by omega))).trans (KeepE.setCell _ nb 0 _ (by omega) (by omega)))
              have GG : Hid (TwI H2 y nb w8 (pre ++ [(k, (pv, _), (qv, _))]) ((w3.setCell ⟨nb + 1, 0, none⟩ (.string k)).setCell ⟨nb, 0, none⟩ (.int .i64 ((j : Int) + 1)))) := Lib.hid ⟨(((HF.out.below hd).setCell (fun p hp => by have := hHl p hp; omega) _).setCell (fun p hp => by have := hHl p hp; omega) _), by rw [List.length_append, HJ.out.1]; simpa using Boxed.set (t := 3) (v := .int .i64 (j : Int)) (.int .i64 ((j : Int) + 1)) c0, by rw [HJ.out.2]; exact (Below.heap_setCell _ _ _ _ (by simp)).trans c1, ((HBL.out.trans (hd.mono (by omega))).setCell (p := ⟨nb + 1, 0, none⟩) (by simp; omega) _).setCell (p := ⟨nb, 0, none⟩) (by simp; omega) _⟩
              have k1 : w3.cell? ⟨nb + 1, 0, none⟩ = some (.string la) := cell_of_one b1
              have f1 := frozen_of_row _ (nb + 1) 0 _ _ b1
              have k0 := cell_of_one c0
              have f0 := frozen_of_row _ nb 0 _ _ c0
              have t1 : ((w3.setCell ⟨nb + 1, 0, none⟩ (.string k)).setCell ⟨nb, 0, none⟩ (.int .i64 ((j : Int) + 1))).cell? ⟨T, 0, none⟩ = some (.int .i64 (v : Int)) := cell_of_one ((Below.heap_setCell _ _ _ _ (by simp; omega)).trans ((Below.heap_setCell _ _ _ _ (by simp; omega)).trans ((HF.out.below hd) _ eTm)))
              have t2 : ((w3.setCell ⟨nb + 1, 0, none⟩ (.string k)).setCell ⟨nb, 0, none⟩ (.int .i64 ((j : Int) + 1))).cell? ⟨z + 1, 0, none⟩ = some (.int .i64 leave) := cell_of_one ((Below.heap_setCell _ _ _ _ (by simp; omega)).trans ((Below.heap_setCell _ _ _ _ (by simp; omega)).trans ((EW.out.below hd).f _ HM.out.2.2.2.1)))
              have t3 : ((w3.setCell ⟨nb + 1, 0, none⟩ (.string k)).setCell ⟨nb, 0, none⟩ (.int .i64 ((j : Int) + 1))).cell? ⟨nb, 0, none⟩ = some (.int .i64 ((j : Int) + 1)) := cell_of_one (Boxed.set (t := 3) (v := .int .i64 (j : Int)) (.int .i64 ((j : Int) + 1)) c0)
              have HLN : Hid (∀ x : Chg1 Int, (((pre ++ [x]).length : Nat) : Int) = (j : Int) + 1) := Lib.hid (fun x => by rw [List.length_append, HJ.out.1]; simp)
              clear hd b0 b1 c0 c1 HC HF HBX HBY HBL HBZ EW HJ PA
              have hv01 : v = 0 ∨ v = 1 := by omega
              rcases hv01 with rfl | rfl
              · by_cases hlv : (j : Int) + 1 = leave
                · subst hlv
                  gi_wp2
                  try rw [z8]
                  first | exact ⟨KF.out, KE.out, HLN.out _, GG.out⟩ | exact ⟨KF.out, KE.out, rfl, HLN.out _, GG.out⟩ | exact ⟨KF.out, KE.out, rfl, rfl, HLN.out _, GG.out⟩
                · gi_wp2
                  try rw [z8]
                  exact ⟨KF.out, KE.out, GG.out⟩
              · gi_wp2
                try rw [z8]
                exact ⟨KF.out, KE.out, GG.out⟩
          
          case done =>
            clear HIter r8
            rintro D ys W1 hD ⟨rfl, hf, hbx, hby, hbl⟩ hK
            rw [LL.out.2] at hbx
            have eT : W1.cell? ⟨T, 0, none⟩ = some (.int .i64 (v : Int)) := cell_of_one (hf _ eTm)
            have eC := cell_of_one hbx
            have HF := Lib.hid hf
            have HBL := Lib.hid hbl
            have HKD := Lib.hid hK
            clear hf hbx hby hbl hK
            simp only [Exit.inBlock]
            gi_wp2
            have hDl : D < W1.heap.size := (Array.getElem?_eq_some_iff.1 HKD.out).1
            have hDs : ∀ D' ∈ Ds, D' < nb := fun D' h => hHl (D', .deferred (some [])) (by rw [← HHD.out]; exact List.mem_cons_of_mem _ (List.mem_map.2 ⟨D', h, rfl⟩))
            have NW : Hid (Facts ((W1.heap.size, .cells #[.int .i64 ((v + 1 : Nat) : Int)] 3 (0, 0)) :: markF (D :: Ds)) (W1.alloc (.cells #[.int .i64 ((v : Int) + 1)] 3))) := Lib.hid (by
              have f := HF.out.below (below_new W1 (.cells #[.int .i64 ((v : Int) + 1)] 3))
              intro p hp
              rcases List.mem_cons.1 hp with rfl | h
              · exact Boxed.new W1 3 (.int .i64 ((v : Int) + 1))
              · rcases List.mem_cons.1 (show p ∈ (D, Obj.deferred (some [])) :: markF Ds from h) with rfl | h
                · exact ((below_new W1 (.cells #[.int .i64 ((v : Int) + 1)] 3)).block _ hDl).trans HKD.out
                · exact f p (by rw [← HHD.out]; exact List.mem_cons_of_mem _ h))
            have B9 := Lib.hid (HBL.out.trans ((below_new W1 (.cells #[.int .i64 ((v : Int) + 1)] 3)).mono (by have := HBL.out.size; omega)))
            refine ⟨⟨v + 1, W1.heap.size, D :: Ds, rfl, by simp [hlen], by omega, by have := HBL.out.size; omega, NW, List.nodup_cons.2 ⟨fun h => by have := hDs D h; omega, hnd⟩, fun D' h => ?_, B9⟩, ?_⟩
            · rcases List.mem_cons.1 h with rfl | h
              · omega
              · exact hD4 D' h
            · simp [hlen] <;> omega
          
          case stop =>
            clear HIter r8
            rintro D code pre W1 hD hSp ⟨rfl, hv0, hlv, hf, hbx, hby, hbl⟩ hK
            subst hv0
            obtain ⟨j, hj⟩ : ∃ j, pre.length = j := ⟨_, rfl⟩
            rw [hj] at hlv hbx
            have eT : W1.cell? ⟨T, 0, none⟩ = some (.int .i64 ((0 : Nat) : Int)) := cell_of_one (hf _ eTm)
            have eC := cell_of_one hbx
            have e2 : W1.cell? ⟨z + 1, 0, none⟩ = some (.int .i64 leave) := cell_of_one ((E8.out.below (hbl.mono (Nat.le_of_eq hywy))).f _ HM.out.2.2.2.1)
            have HF := Lib.hid hf
            have HBL := Lib.hid hbl
            have HKD := Lib.hid hK
            clear hf hbx hby hbl hK
            subst hlv
            by_cases hjn : j = cn
            · subst hjn
              gi_wp2
              have hDl : D < W1.heap.size := (Array.getElem?_eq_some_iff.1 HKD.out).1
              have hDs : ∀ D' ∈ Ds, D' < nb := fun D' h => hHl (D', .deferred (some [])) (by rw [← HHD.out]; exact List.mem_cons_of_mem _ (List.mem_map.2 ⟨D', h, rfl⟩))
              have NW : Hid (Facts ((W1.heap.size, .cells #[.int .i64 ((0 + 1 : Nat) : Int)] 3 (0, 0)) :: markF (D :: Ds)) (W1.alloc (.cells #[.int .i64 1] 3))) := Lib.hid (by
                have f := HF.out.below (below_new W1 (.cells #[.int .i64 1] 3))
                intro p hp
                rcases List.mem_cons.1 hp with rfl | h
                · exact Boxed.new W1 3 (.int .i64 1)
                · rcases List.mem_cons.1 (show p ∈ (D, Obj.deferred (some [])) :: markF Ds from h) with rfl | h
                  · exact ((below_new W1 (.cells #[.int .i64 1] 3)).block _ hDl).trans HKD.out
                  · exact f p (by rw [← HHD.out]; exact List.mem_cons_of_mem _ h))
              have B9 := Lib.hid (HBL.out.trans ((below_new W1 (.cells #[.int .i64 1] 3)).mono (by have := HBL.out.size; omega)))
              refine ⟨⟨0 + 1, W1.heap.size, D :: Ds, rfl, by simp [hlen], by omega, by have := HBL.out.size; omega, NW, List.nodup_cons.2 ⟨fun h => by have := hDs D h; omega, hnd⟩, fun D' h => ?_, B9⟩, ?_⟩
              · rcases List.mem_cons.1 h with rfl | h
                · omega
                · exact hD4 D' h
              · simp [hlen] <;> omega
            · gi_wp2
              have hDl : D < W1.heap.size := (Array.getElem?_eq_some_iff.1 HKD.out).1
              have hDs : ∀ D' ∈ Ds, D' < nb := fun D' h => hHl (D', .deferred (some [])) (by rw [← HHD.out]; exact List.mem_cons_of_mem _ (List.mem_map.2 ⟨D', h, rfl⟩))
              have NW : Hid (Facts ((W1.heap.size, .cells #[.int .i64 ((0 + 1 : Nat) : Int)] 3 (0, 0)) :: markF (D :: Ds)) (W1.alloc (.cells #[.int .i64 1] 3))) := Lib.hid (by
                have f := HF.out.below (below_new W1 (.cells #[.int .i64 1] 3))
                intro p hp
                rcases List.mem_cons.1 hp with rfl | h
                · exact Boxed.new W1 3 (.int .i64 1)
                · rcases List.mem_cons.1 (show p ∈ (D, Obj.deferred (some [])) :: markF Ds from h) with rfl | h
                  · exact ((below_new W1 (.cells #[.int .i64 1] 3)).block _ hDl).trans HKD.out
                  · exact f p (by rw [← HHD.out]; exact List.mem_cons_of_mem _ h))
              have B9 := Lib.hid (HBL.out.trans ((below_new W1 (.cells #[.int .i64 1] 3)).mono (by have := HBL.out.size; omega)))
              refine ⟨⟨0 + 1, W1.heap.size, D :: Ds, rfl, by simp [hlen], by omega, by have := HBL.out.size; omega, NW, List.nodup_cons.2 ⟨fun h => by have := hDs D h; omega, hnd⟩, fun D' h => ?_, B9⟩, ?_⟩
              · rcases List.mem_cons.1 h with rfl | h
                · omega
                · exact hD4 D' h
              · simp [hlen] <;> omega
          
        · have hui : ¬ (v : Int) < 2 := by omega
          obtain ⟨D1, D0, rfl⟩ : ∃ D1 D0, Ds = [D1, D0] := by
            match Ds, (show Ds.length = 2 by omega) with
            | [D1, D0], _ => exact ⟨D1, D0, rfl⟩
          have hywy : w8.heap.size = y := HY.out
          gi_wp2
          go_wp2_with fail
          refine (wl_known w1).mono ?_
          clear eT
          rintro e w2 ⟨rfl, hb⟩
          have F2 := Lib.hid (HF.out.below hb)
          have D2 : Hid (Below y w8 w2) := Lib.hid (HB.out.trans (hb.mono (by have := HB.out.size; omega)))
          have E2 := Lib.hid (E8.out.below (D2.out.mono (Nat.le_of_eq hywy)))
          have x4 : Boxed w2 (z + 1 + 1) 4 (.bool false) := E2.out.f _ HM.out.2.2.2.2
          have X4 := Lib.hid x4
          have k4 := cell_of_one x4
          have f4 := frozen_of_row _ (z + 1 + 1) 0 _ _ x4
          have hz4 : z + 1 + 1 < y := by rw [← hywy]; exact E8.out.f.lt _ HM.out.2.2.2.2
          clear hb HF HB x4
          go_wp2_with fail
          show LeavesInM _ _ _ _ _ _ (marks [D1, D0]) _ _
          refine leaves_marks [D1, D0] _ hnd (fun p hp => ?_) ?_
          · have hp2 := F2.out p (List.mem_cons_of_mem _ hp)
            refine (Below.heap_setCell _ _ _ _ ?_).trans hp2
            obtain ⟨D', hD', rfl⟩ := List.mem_map.1 hp
            have := hD4 D' hD'
            simp
            omega
          · intro W' e1 e2 e3 e4 e5
            have hzD : z + 1 + 1 ∉ [D1, D0] := fun h => by have := hD4 _ h; omega
            have c4 : W'.cell? ⟨z + 1 + 1, 0, none⟩ = some (.bool true) := cell_of_one ((e5 (z + 1 + 1) hzD).trans (Boxed.set (t := 4) (v := .bool false) (.bool true) X4.out))
            have b4 : Below w.heap.size w (w2.setCell ⟨z + 1 + 1, 0, none⟩ (.bool true)) := E2.out.b.setCell (p := ⟨z + 1 + 1, 0, none⟩) (by simp; omega) _
            refine ⟨.bool true, by simp [results, Try.results6, go_sem, c4], rfl, ?_⟩
            have hyw : w.heap.size ≤ y := by omega
            exact ⟨e1.trans b4.os, e2.trans b4.tape, e3.trans b4.output, by rw [e4]; exact b4.size, fun k hk => (e5 k (fun h => by have := hD4 _ h; omega)).trans (b4.block k hk)⟩
        
end Go.Proofs.Ytdodkhhlbjamhaa

