/- Words, contracts and walks that the proof stands on (QuA KeepX PuA13 RqB13 QuB QuC RelO). -/
import Derived.Laws.Cover1
import Derived.Test.YtnpiepimajippaaRG1
import Derived.Test.YtnpiepimajippaaRG11
import Derived.Test.YtnpiepimajippaaRG3
import Derived.Test.YtnpiepimajippaaRG8
namespace Go.Proofs.Ytnpiepimajippaa
open Go.RowKit St Pm
attribute [local go_sem] Oper.semAt_some
theorem wpListIn_store_row {F : Fence} {n : Nat} {P : Program} {ops : Array Oper} {rest : List Oper} {o : Oper} {a : Act} {w : World} {Q : Exit → Act → World → Prop} (hgd : o.guard = none) (ty : TypeId) (x y : Operand) (ho : o.op = .store ty x y)
    (g : Nat) (cells : Array Value) (hx : a.eval x = .pointer (some ⟨g, 0, none⟩)) (hy : a.eval y = .agg cells)
    (t : TypeId) (old : Array Value) (hg : w.heap[g]? = some (.cells old t (0, 0))) (hi : (P.info? ty).map (·.size) = some cells.size)
    (hold : old.size = cells.size) (h1 : cells.all (·.oneCell') = true)
    (h : wpListIn F n P ops Q rest (a.put o.dst undef) (w.setRow g cells)) : wpListIn F n P ops Q (o :: rest) a w := by
  refine wpListIn_plain hgd fun K hK => ?_
  unfold Oper.wpIn
  refine ⟨?_, ?_⟩
  · simp [Oper.about, ho]
  · rw [Oper.semAt_plain F _ _ (by rw [ho]; intro c hc'; cases hc')]
    unfold execOp
    simp only [ho, hx, hy, Instr.storeAt, Instr.sureAddr, Sem.run_bind, Sem.run_pure, Result.andThen_ok, run_storeVar_row w g t ty old cells hg hi hold h1]
    exact hK _ _ h
def firstE (L : List Ev) : Ev × Bool := match L with
  | [] => (zeroE, false)
  | x :: _ => (x, true)
def FsI (s : Nat) (w : World) (pre : List Ev) (W : World) : Prop :=
  pre = [] ∧ W.heap[s + 1]? = some (.cells #[.int .i64 0, .int .i64 0, .string ⟨#[]⟩, .int .i64 0, .int .i64 0, .string ⟨#[]⟩] 47 (0, 0)) ∧ W.heap[s + 1 + 1]? = some (.cells #[.bool false] 4 (0, 0)) ∧ Below s w W
theorem fsI_own (s : Nat) (w : World) (B : Nat) (hs : s ≤ w.heap.size) (hB : s ≤ B) : OwnFrom B (FsI s w) := by
  rintro pre A A' row ⟨h1, h2, h3, h6⟩ hg hr
  have hr' : ∀ r, row = some r → ∃ o : Obj, A.heap[r]? = some o ∧ o.isCells = false := fun r e => (hr r e).2
  exact ⟨h1, heap_kept hg hr' h2, heap_kept hg hr' h3, ownFrom_below (β := Unit) hs hB () A A' row h6 hg hr⟩
def FsX (s : Nat) (w : World) (pre : List Ev) (W : World) : Prop :=
  ∃ x : Ev, pre = [x] ∧ W.heap[s + 1]? = some (.cells #[.int .i64 x.1.g, .int .i64 x.1.r, .string x.1.l, .int .i64 x.1.n, .int .i64 x.1.i, .string x.2] 47 (0, 0)) ∧ W.heap[s + 1 + 1]? = some (.cells #[.bool true] 4 (0, 0)) ∧ Below s w W
theorem fsX_own (s : Nat) (w : World) (B : Nat) (hs : s ≤ w.heap.size) (hB : s ≤ B) : OwnFrom B (FsX s w) := by
  rintro pre A A' row ⟨x, h1, h2, h3, h6⟩ hg hr
  have hr' : ∀ r, row = some r → ∃ o : Obj, A.heap[r]? = some o ∧ o.isCells = false := fun r e => (hr r e).2
  exact ⟨x, h1, heap_kept hg hr' h2, heap_kept hg hr' h3, ownFrom_below (β := Unit) hs hB () A A' row h6 hg hr⟩
set_option maxRecDepth 100000 in
set_option maxHeartbeats 2000000 in
theorem qu_First (tr : Tr ByteArray) (w : World) (h : AtS w tr) (hz : sz tr ≤ 100000) (hk : ∀ p ∈ items tr, p.1.size ≤ 9223372036854775807) :
    Calls Try.prog 65 #[.agg #[.pointer (pa tr)]] w fun e w' => ∃ x : Ev, e = .returned (.tuple #[.agg #[.int .i64 x.1.g, .int .i64 x.1.r, .string x.1.l, .int .i64 x.1.n, .int .i64 x.1.i, .string x.2], .bool (firstE (shown tr)).2]) ∧ x = (firstE (shown tr)).1 ∧ Below w.heap.size w w' := by
  refine (callsIn_wide (n := 6)).1 ?_
  refine callsIn_of_wp_marks Try.func65 rfl trivial ?_ rfl
  simp only [Try.ntmps65, List.size_toArray, List.length_cons, List.length_nil, Nat.reduceAdd, Nat.reduceSub, Array.replicate_succ, Array.replicate_zero, List.push_toArray, List.append_toArray, List.nil_append, List.cons_append]
  have H := Lib.hid h
  have HK := Lib.hid hk
  clear h hk
  gi_wp2
  refine ⟨trivial, ?_⟩
  obtain ⟨s, hs⟩ : ∃ s, w.heap.size = s := ⟨_, rfl⟩
  obtain ⟨W3, hW3⟩ : ∃ W3, allocs w [.cells #[.pointer (pa tr)] 27, .cells #[.int .i64 0, .int .i64 0, .string ⟨#[]⟩, .int .i64 0, .int .i64 0, .string ⟨#[]⟩] 47, .cells #[.bool false] 4] = W3 := ⟨_, rfl⟩
  have hx3 : ∀ i ob, [Obj.cells #[.pointer (pa tr)] 27, .cells #[.int .i64 0, .int .i64 0, .string ⟨#[]⟩, .int .i64 0, .int .i64 0, .string ⟨#[]⟩] 47, .cells #[.bool false] 4][i]? = some ob → W3.heap[s + i]? = some ob := fun i ob h => by have := allocs_get _ w i ob h; rw [hW3, hs] at this; exact this
  have hb3 : Below s w W3 := by rw [← hW3, ← hs]; exact allocs_below _ _
  have c1 := hx3 1 _ rfl
  have c2 := hx3 2 _ rfl
  rw [show ((w.alloc (.cells #[.pointer (pa tr)] 27)).alloc (.cells #[.int .i64 0, .int .i64 0, .string ⟨#[]⟩, .int .i64 0, .int .i64 0, .string ⟨#[]⟩] 47)).alloc (.cells #[.bool false] 4) = W3 from hW3, hs]
  have HS := Lib.hid hs
  clear hW3 hx3 hs
  refine (callsIn_wide.2 (all_13 tr W3)).mono ?_
  rintro e W5 ⟨mb, rfl, hmb0, hmb, hb5⟩
  have d1 := boxStays c1 hb5
  have d2 := boxStays c2 hb5
  have hbw : Below s w W5 := hb3.trans (hb5.mono (by rw [← HS.out]; exact (hb3.mono (Nat.le_of_eq HS.out)).size))
  have z5 : s + 2 < W5.heap.size := (Array.getElem?_eq_some_iff.1 d2).1
  have HIter := all1_13 5 (by omega) tr mb W5 (fun _ => False) hmb (H.out.below hbw HS.out.symm) hz HK.out (fun k hk => hk.elim)
  clear c1 c2 hb3 hb5
  obtain ⟨L, hLL⟩ : ∃ L, shown tr = L := ⟨_, rfl⟩
  rw [hLL] at HIter
  have HLL := Lib.hid hLL
  clear hLL
  gi_wp2
  refine range_law2 (n := 6) rfl (enters_of Try.func111 (by kernel_rfl) rfl) HIter (by omega) KeepE.trans (fun W o o' _ _ => KeepE.put W _ o' (by omega) (fun k hk => hk.elim)) (fun x => rfl) (fun pre => (by rintro _ _ _ _ h _ _; exact h)) ?_ (FsI s w) (fun c pre W => c = .ret ∧ FsX s w pre W) (fun ys W' => ys = L ∧ FsI s w ys W') (fsI_own _ _ _ (by have := HS.out; omega) (by omega)) ?_ ?_ ?_ ⟨rfl, d1, d2, hbw⟩
    (fun pre x a' W => FsI s w pre W ∧ pre ++ [x] <+: L ∧ ∃ bx, W5.heap.size ≤ bx ∧ W.heap[bx]? = some (.cells #[.int .i64 x.1.g, .int .i64 x.1.r, .string x.1.l, .int .i64 x.1.n, .int .i64 x.1.i] 41 (0, 0)) ∧ a' = { tmps := #[.agg #[.pointer (pa tr)], .pointer (some ⟨s, 0, none⟩), .pointer (some ⟨s + 1, 0, none⟩), .pointer (some ⟨s + 1 + 1, 0, none⟩), .pointer (some ⟨bx, 0, none⟩), .string x.2, .agg #[.pointer (pa tr)], .func (.func 111) #[] #[.pointer (some ⟨mb, 0, none⟩)], .agg #[.int .i64 x.1.g, .int .i64 x.1.r, .string x.1.l, .int .i64 x.1.n, .int .i64 x.1.i], .string x.2, undef, undef, undef, undef], defers := [] }) ?_ ?assign ?body ?done ?stop
  · rintro W1 hW1 ys A B ⟨_, hbl⟩ k o hk ho _
    exact (hbl.block k (by omega)).trans ho
  · rintro c pre A A' row ⟨h1, h2⟩ hg hr
    exact ⟨h1, fsX_own _ _ _ (by have := HS.out; omega) (by omega) pre A A' row h2 hg hr⟩
  · rintro ys A A' row ⟨h1, h2⟩ hg hr
    exact ⟨h1, fsI_own _ _ _ (by have := HS.out; omega) (by omega) ys A A' row h2 hg hr⟩
  · rintro W1 hW1 ys A B ⟨h1, h2, h3, h6⟩ ⟨hm, hbl⟩
    exact ⟨hm, h1, (hbl.block _ (by omega)).trans h2, (hbl.block _ (by omega)).trans h3, h6.trans (hbl.mono (by omega))⟩
  · rintro x a' pre A A' row ⟨h1, h2, bx, h0, h3, h4⟩ hg hr
    exact ⟨fsI_own _ _ _ (by have := HS.out; omega) (by omega) pre A A' row h1 hg hr, h2, bx, h0, heap_kept hg (fun r e => (hr r e).2) h3, h4⟩
  case assign =>
    rintro l1 pre x W1 K hi hx hsz hK
    have HI := Lib.hid hi
    clear hi
    simp only [encEls, List.zip_toArray, List.zip_cons_cons, List.zip_nil_right, List.foldl_toArray, List.foldl_cons, List.foldl_nil]
    gi_wp2
    refine hK _ _ ((KeepsOthers.alloc _ _).from _) (KeepE.below ((Below.refl _ W1).alloc (Nat.le_refl _) _) (fun k hk => hk.elim)) (by simp; omega) ⟨(fsI_own _ _ s (by have := HS.out; omega) (Nat.le_refl _)).alloc _ HI.out, hx, W1.heap.size, hsz, World.alloc_heap_new W1 _, rfl⟩
  case body =>
    rintro l1 pre x a' W1 ⟨⟨h0, h1, h2, h3⟩, hX1, bx, hbz, hbx, rfl⟩ hsz
    subst h0
    have H1 := Lib.hid h1
    have H2 := Lib.hid h2
    have H3 := Lib.hid h3
    have x0 := cell_of_row _ _ 0 _ _ _ hbx
    have x1 := cell_of_row _ _ 1 _ _ _ hbx
    have x2 := cell_of_row _ _ 2 _ _ _ hbx
    have x3 := cell_of_row _ _ 3 _ _ _ hbx
    have x4 := cell_of_row _ _ 4 _ _ _ hbx
    have hne : s + 1 + 1 ≠ s + 1 := by omega
    have Y1 := Lib.hid (setRow_heap W1 (s + 1) _ #[.int .i64 x.1.g, .int .i64 x.1.r, .string x.1.l, .int .i64 x.1.n, .int .i64 x.1.i, .string x.2] _ _ H1.out)
    have Y2 := Lib.hid ((setRow_other W1 (s + 1) (s + 1 + 1) #[.int .i64 x.1.g, .int .i64 x.1.r, .string x.1.l, .int .i64 x.1.n, .int .i64 x.1.i, .string x.2] hne).trans H2.out)
    have Y3 := Lib.hid (below_setRow (B := s) H3.out (show s ≤ s + 1 by omega) #[.int .i64 x.1.g, .int .i64 x.1.r, .string x.1.l, .int .i64 x.1.n, .int .i64 x.1.i, .string x.2])
    have f2 := frozen_of_row _ (s + 1 + 1) 0 _ _ Y2.out
    have k2 := cell_of_one Y2.out
    clear HIter h1 h2 h3 d1 d2 hbx
    gi_wp2_with (refine wpListIn_store_row rfl 47 (.tmp 2) (.tmp 12) rfl (s + 1) #[.int .i64 x.1.g, .int .i64 x.1.r, .string x.1.l, .int .i64 x.1.n, .int .i64 x.1.i, .string x.2] rfl rfl 47 _ H1.out (by kernel_rfl) rfl (el_one x) ?_)
    generalize hW2 : W1.setRow (s + 1) #[.int .i64 x.1.g, .int .i64 x.1.r, .string x.1.l, .int .i64 x.1.n, .int .i64 x.1.i, .string x.2] = W2 at *
    have ho : ∀ k, k ≠ s + 1 → W2.heap[k]? = W1.heap[k]? := fun k hk => by rw [← hW2]; exact setRow_other _ _ _ _ hk
    have hsz2 : W2.heap.size = W1.heap.size ∧ W2.os = W1.os ∧ W2.tape = W1.tape ∧ W2.output = W1.output := by rw [← hW2]; exact ⟨by simp, rfl, rfl, rfl⟩
    refine ⟨⟨?_, fun k o hk hko hc => ?_⟩, ⟨?_, ?_, ?_, ?_, fun k hk => hk.elim, fun k o hM hko _ => ?_⟩, rfl, x, rfl, ?_, ?_, ?_⟩
    · simp [World.setCell]; omega
    · exact (Below.heap_setCell _ _ _ _ (by simp; omega)).trans ((ho k (by omega)).trans hko)
    · exact hsz2.2.1
    · exact hsz2.2.2.1
    · exact hsz2.2.2.2
    · simp [World.setCell]; omega
    · exact (Below.heap_setCell _ _ _ _ (by simp; omega)).trans ((ho k (by omega)).trans hko)
    · exact (Below.heap_setCell _ _ _ _ (by simp)).trans Y1.out
    · exact Boxed.set (t := 4) _ Y2.out
    · exact Y3.out.setCell (p := ⟨s + 1 + 1, 0, none⟩) (show s ≤ s + 1 + 1 by omega) _
  case done =>
    rintro D ys W1 hD ⟨rfl, h0, h1, h2, h3⟩ hK
    subst h0
    have H1 := Lib.hid h1
    have hne : s + 1 + 1 ≠ s + 1 := by omega
    have Y1 := Lib.hid (setRow_heap W1 (s + 1) _ #[.int .i64 0, .int .i64 0, .string ⟨#[]⟩, .int .i64 0, .int .i64 0, .string ⟨#[]⟩] _ _ H1.out)
    have Y2 := Lib.hid ((setRow_other W1 (s + 1) (s + 1 + 1) #[.int .i64 0, .int .i64 0, .string ⟨#[]⟩, .int .i64 0, .int .i64 0, .string ⟨#[]⟩] hne).trans h2)
    have Y3 := Lib.hid (below_setRow (B := s) h3 (show s ≤ s + 1 by omega) #[.int .i64 0, .int .i64 0, .string ⟨#[]⟩, .int .i64 0, .int .i64 0, .string ⟨#[]⟩])
    have YK := Lib.hid ((setRow_other W1 (s + 1) D #[.int .i64 0, .int .i64 0, .string ⟨#[]⟩, .int .i64 0, .int .i64 0, .string ⟨#[]⟩] (by omega)).trans hK)
    have f2 := frozen_of_row _ (s + 1 + 1) 0 _ _ Y2.out
    have k2 := cell_of_one Y2.out
    clear HIter h1 h2 h3 d1 d2 hK
    simp only [Exit.inBlock]
    gi_wp2_with (refine wpListIn_store_row rfl 47 (.tmp 2) (.tmp 13) rfl (s + 1) #[.int .i64 0, .int .i64 0, .string ⟨#[]⟩, .int .i64 0, .int .i64 0, .string ⟨#[]⟩] rfl rfl 47 _ H1.out (by kernel_rfl) rfl (el_one zeroE) ?_)
    generalize W1.setRow (s + 1) #[.int .i64 0, .int .i64 0, .string ⟨#[]⟩, .int .i64 0, .int .i64 0, .string ⟨#[]⟩] = W2 at *
    have Z1 : (W2.setCell ⟨s + 1 + 1, 0, none⟩ (.bool false)).heap[s + 1]? = _ := (Below.heap_setCell _ _ _ _ (by simp)).trans Y1.out
    have Z2 := Boxed.set (t := 4) (.bool false) Y2.out
    have Z3 := Y3.out.setCell (p := ⟨s + 1 + 1, 0, none⟩) (show s ≤ s + 1 + 1 by omega) (.bool false)
    have ZK : (W2.setCell ⟨s + 1 + 1, 0, none⟩ (.bool false)).heap[D]? = some (.deferred (some [])) := (Below.heap_setCell _ _ _ _ (by simp; omega)).trans YK.out
    generalize W2.setCell ⟨s + 1 + 1, 0, none⟩ (.bool false) = W4 at *
    have q := (World.putObj_heap_other (w := W4) (o := .deferred none) (show s + 1 ≠ D by omega)).trans Z1
    have q0 := cell_of_row _ _ 0 _ _ _ q
    have q1 := cell_of_row _ _ 1 _ _ _ q
    have q2 := cell_of_row _ _ 2 _ _ _ q
    have q3 := cell_of_row _ _ 3 _ _ _ q
    have q4 := cell_of_row _ _ 4 _ _ _ q
    have q5 := cell_of_row _ _ 5 _ _ _ q
    have q6 := cell_of_one ((World.putObj_heap_other (w := W4) (o := .deferred none) (show s + 1 + 1 ≠ D by omega)).trans Z2)
    refine ⟨by simp, .inl ⟨_, _, rfl, run_takeDeferred ZK, ?_⟩⟩
    refine ⟨.tuple #[.agg #[.int .i64 0, .int .i64 0, .string ⟨#[]⟩, .int .i64 0, .int .i64 0, .string ⟨#[]⟩], .bool false], by simp [results, Try.results65, go_sem, q0, q1, q2, q3, q4, q5, q6], zeroE, by rw [HLL.out]; rfl, by rw [HLL.out]; rfl, ?_⟩
    rw [HS.out]
    exact Z3.trans (belowK_b (w := W5) (n₀ := s) (by omega) _ D _ _ hD ZK rfl rfl)
  case stop =>
    rintro D c pre W1 hD hSp ⟨rfl, x, rfl, h1, h2, h3⟩ hK
    have hL : L = x :: L.tail := by
      obtain ⟨q, hq⟩ := hSp
      rw [← hq]; rfl
    have HL2 : Hid (firstE L = (x, true)) := Lib.hid (by rw [hL]; rfl)
    have ZK := Lib.hid hK
    have q := (World.putObj_heap_other (w := W1) (o := .deferred none) (show s + 1 ≠ D by omega)).trans h1
    have q0 := cell_of_row _ _ 0 _ _ _ q
    have q1 := cell_of_row _ _ 1 _ _ _ q
    have q2 := cell_of_row _ _ 2 _ _ _ q
    have q3 := cell_of_row _ _ 3 _ _ _ q
    have q4 := cell_of_row _ _ 4 _ _ _ q
    have q5 := cell_of_row _ _ 5 _ _ _ q
    have q6 := cell_of_one ((World.putObj_heap_other (w := W1) (o := .deferred none) (show s + 1 + 1 ≠ D by omega)).trans h2)
    have Z3 := Lib.hid h3
    clear HIter hL hSp h1 h2 h3 hK d1 d2
    gi_wp2
    refine ⟨by simp, .inl ⟨_, _, rfl, run_takeDeferred ZK.out, ?_⟩⟩
    refine ⟨.tuple #[.agg #[.int .i64 x.1.g, .int .i64 x.1.r, .string x.1.l, .int .i64 x.1.n, .int .i64 x.1.i, .string x.2], .bool true], by simp [results, Try.results65, go_sem, q0, q1, q2, q3, q4, q5, q6], x, by rw [HLL.out, HL2.out], by rw [HLL.out, HL2.out], ?_⟩
    rw [HS.out]
    exact Z3.out.trans (belowK_b (w := W5) (n₀ := s) (by omega) _ D _ _ hD ZK.out rfl rfl)
end Go.Proofs.Ytnpiepimajippaa
namespace Go.Proofs.Ytnpiepimajippaa
open Go.RowKit
structure KeepX (Ex : Nat → TypeId → Prop) (A B : World) : Prop where
  os : B.os = A.os
  tape : B.tape = A.tape
  output : B.output = A.output
  size : A.heap.size ≤ B.heap.size
  rest : ∀ k o, A.heap[k]? = some o → (∀ c t fr, o = .cells c t fr → ¬ Ex k t) → B.heap[k]? = some o
theorem KeepX.refl {Ex : Nat → TypeId → Prop} (A : World) : KeepX Ex A A := ⟨rfl, rfl, rfl, Nat.le_refl _, fun _ _ h _ => h⟩
theorem KeepX.trans {Ex : Nat → TypeId → Prop} {A B C : World} (h : KeepX Ex A B) (k : KeepX Ex B C) : KeepX Ex A C :=
  ⟨k.os.trans h.os, k.tape.trans h.tape, k.output.trans h.output, Nat.le_trans h.size k.size, fun i o ho ht => k.rest i o (h.rest i o ho ht) ht⟩
theorem KeepX.monoX {Ex Ex' : Nat → TypeId → Prop} {A B : World} (h : KeepX Ex A B) (hx : ∀ k t, Ex k t → Ex' k t) : KeepX Ex' A B :=
  ⟨h.os, h.tape, h.output, h.size, fun k o ho ht => h.rest k o ho fun c t fr e hh => ht c t fr e (hx k t hh)⟩
theorem KeepX.ofBelow {Ex : Nat → TypeId → Prop} {A B : World} (h : Below A.heap.size A B) : KeepX Ex A B :=
  ⟨h.os, h.tape, h.output, h.size, fun k _ ho _ => (h.block k (Array.getElem?_eq_some_iff.1 ho).1).trans ho⟩
theorem KeepX.toBelow {Ex : Nat → TypeId → Prop} {A B : World} (h : KeepX Ex A B) (hx : ∀ k t, k < A.heap.size → ¬ Ex k t) : Below A.heap.size A B :=
  ⟨h.os, h.tape, h.output, h.size, fun k hk => by
    cases e : A.heap[k]? with
    | none => rw [Array.getElem?_eq_none_iff] at e; omega
    | some o => exact h.rest k o e fun _ t _ _ => hx k t hk⟩
theorem KeepX.less {Ex Ex' : Nat → TypeId → Prop} {A B : World} (h : KeepX Ex A B) (hx : ∀ k t, k < A.heap.size → Ex k t → Ex' k t) : KeepX Ex' A B :=
  ⟨h.os, h.tape, h.output, h.size, fun k o ho ht => h.rest k o ho fun c t fr e hh => ht c t fr e (hx k t (Array.getElem?_eq_some_iff.1 ho).1 hh)⟩
theorem KeepX.drew {Ex : Nat → TypeId → Prop} {A B : World} (h : KeepX Ex A B) : KeepX Ex A B.drew := h.trans (KeepX.ofBelow (Below.refl _ B).drew)
theorem KeepX.alloc {Ex : Nat → TypeId → Prop} {A B : World} (h : KeepX Ex A B) (o : Obj) : KeepX Ex A (B.alloc o) :=
  h.trans (KeepX.ofBelow ((Below.refl _ B).alloc (Nat.le_refl _) o))
theorem KeepX.row {Ex : Nat → TypeId → Prop} {A B : World} (h : KeepX Ex A B) {b : Nat} {cs : Array Value} {t : TypeId} {fr : Nat × Nat} (hb : A.heap[b]? = some (.cells cs t fr)) (ht : ¬ Ex b t) : B.heap[b]? = some (.cells cs t fr) :=
  h.rest b _ hb fun c t' fr' e => by cases e; exact ht
theorem KeepX.setNew {Ex : Nat → TypeId → Prop} {A B : World} (h : KeepX Ex A B) {X : Nat} (hX : A.heap.size ≤ X) (i : Nat) (v : Value) : KeepX Ex A (B.setCell ⟨X, i, none⟩ v) :=
  ⟨h.os, h.tape, h.output, by simpa [World.setCell] using h.size, fun k o ho ht => (Below.heap_setCell _ _ _ _ (by
    have := (Array.getElem?_eq_some_iff.1 ho).1
    show k ≠ X
    omega)).trans (h.rest k o ho ht)⟩
theorem KeepX.setRow {Ex : Nat → TypeId → Prop} {A B : World} (h : KeepX Ex A B) {X : Nat} {cs : Array Value} {t : TypeId} {fr : Nat × Nat} (hX : B.heap[X]? = some (.cells cs t fr)) (ht : Ex X t) (i : Nat) (v : Value) : KeepX Ex A (B.setCell ⟨X, i, none⟩ v) :=
  ⟨h.os, h.tape, h.output, by simpa [World.setCell] using h.size, fun k o ho hn => (Below.heap_setCell _ _ _ _ (by
    show k ≠ X
    rintro rfl
    have h1 := h.rest k o ho hn
    rw [hX] at h1
    cases h1
    exact hn _ _ _ rfl ht)).trans (h.rest k o ho hn)⟩
def ChE (Ex : Nat → TypeId → Prop) (ws : List World) (w : World) : Prop := ∀ W ∈ ws, KeepX Ex W w
theorem ChE.one {Ex : Nat → TypeId → Prop} (w : World) : ChE Ex [w] w := fun W hW => by
  obtain rfl := List.mem_singleton.1 hW
  exact KeepX.refl _
theorem ChE.push {Ex : Nat → TypeId → Prop} {ws : List World} {w w' : World} (h : ChE Ex ws w) (hb : KeepX Ex w w') : ChE Ex (w' :: ws) w' := fun W hW => by
  rcases List.mem_cons.1 hW with rfl | hW
  · exact KeepX.refl _
  · exact (h W hW).trans hb
theorem ChE.to {Ex : Nat → TypeId → Prop} {ws : List World} {w : World} (h : ChE Ex ws w) (W : World) (hW : W ∈ ws) : KeepX Ex W w := h W hW
section
variable {P : Program} {ops : Array Oper} {Q : Exit → Act → World → Prop} {md : Region.Mode}
theorem wpAnyH_madeX {Ex : Nat → TypeId → Prop} {W w1 : World} {o : Obj} (hS : KeepX Ex W w1) {fuel : Nat} {listed : Array Bool} {a : Act}
    (h : ∀ w2, w2 = w1.alloc o → KeepX Ex W w2 → wpAnyH P md ops Q (fun w' => KeepX Ex W w') fuel listed a w2) : wpAnyH P md ops Q (fun w' => KeepX Ex W w') fuel listed a (w1.alloc o) :=
  h _ rfl (hS.alloc o)
end
end Go.Proofs.Ytnpiepimajippaa
namespace Go.Proofs.Ytnpiepimajippaa
open Go.RowKit St Pm
def putOK13 (tr : Tr ByteArray) (s : Sv) (x : ByteArray) : Bool := s.ok && (decide (x.size ≤ 256) && ((items tr).all goodP && aheadK tr (keyB s.st)))
set_option maxRecDepth 100000 in
set_option maxHeartbeats 2000000 in
theorem put_13 (tr : Tr ByteArray) (s : Sv) (x : ByteArray) (w : World) (h : AtS w tr) (hz : sz tr ≤ 100000) (hk : ∀ p ∈ items tr, p.1.size ≤ 9223372036854775807) (hs : s.l.size ≤ 9223372036854775807) :
    Calls Try.prog 58 #[.agg #[.pointer (pa tr)], .agg #[.int .i64 s.g, .int .i64 s.r, .string s.l, .int .i64 s.n, .int .i64 s.i], .string x] w fun e w' =>
      Below w.heap.size w w' ∧ ∃ (m : Tr ByteArray) (c : Int), e = .returned (.tuple #[.agg #[.pointer (pa m)], .int .i64 c]) ∧ AtS w' m ∧
        ((putOK13 tr s x = true ∧ c = 0 ∧ PutR w.heap.size (keyB s.st) x tr m) ∨ (putOK13 tr s x = false ∧ c = 2 ∧ m = .nil)) := by
  have HH := Lib.hid h
  have MM := Lib.hid (fun W (hW : Below w.heap.size w W) => may_13 tr W (h.below hW rfl) hz hk)
  have ML := Lib.hid (fun W (hW : Below w.heap.size w W) => pm_MLastS tr W (h.below hW rfl))
  have MK := Lib.hid (fun W => stp_Key s W hs)
  have MP := Lib.hid (fun W (hW : Below w.heap.size w W) => pm_MPutS tr (keyB s.st) x w.heap.size W hW.size (h.below hW rfl) (by omega))
  obtain ⟨q, hq⟩ : ∃ q, keyOr (endR tr) = q := ⟨_, rfl⟩
  obtain ⟨qv, hqv⟩ : ∃ q, valOr (endR tr) = q := ⟨_, rfl⟩
  obtain ⟨b2, hb2⟩ : ∃ q, isNS (endR tr) = q := ⟨_, rfl⟩
  obtain ⟨g, hg⟩ : ∃ q, (items tr).all goodP = q := ⟨_, rfl⟩
  obtain ⟨k, hkk⟩ : ∃ q, keyB s.st = q := ⟨_, rfl⟩
  obtain ⟨ok, hok⟩ : ∃ q, s.ok = q := ⟨_, rfl⟩
  obtain ⟨fx, hfx⟩ : ∃ q, decide (x.size ≤ 256) = q := ⟨_, rfl⟩
  have MF := Lib.hid (fun W => fits13 x W)
  have PO : Hid (putOK13 tr s x = (ok && (fx && (g && (!b2 || klt q k))))) := Lib.hid (by unfold putOK13 aheadK; rw [hok, hfx, hg, hkk, hb2, hq])
  have HK := Lib.hid hkk
  rw [hq, hqv, hb2] at ML
  rw [hg] at MM
  rw [hkk, hok] at MK
  rw [hkk] at MP ⊢
  rw [hfx] at MF
  have DONE : Hid (∀ (e : Ending) (w' : World) (m : Tr ByteArray), putOK13 tr s x = true → Below w.heap.size w w' → AtS w' m → PutR w.heap.size k x tr m → e = .returned (.tuple #[.agg #[.pointer (pa m)], .int .i64 0]) → Below w.heap.size w w' ∧ ∃ (m : Tr ByteArray) (c : Int), e = .returned (.tuple #[.agg #[.pointer (pa m)], .int .i64 c]) ∧ AtS w' m ∧
        ((putOK13 tr s x = true ∧ c = 0 ∧ PutR w.heap.size k x tr m) ∨ (putOK13 tr s x = false ∧ c = 2 ∧ m = .nil))) := Lib.hid (fun e w' m h1 h2 h3 h4 h5 => ⟨h2, m, 0, h5, h3, .inl ⟨h1, rfl, h4⟩⟩)
  have FAIL : Hid (∀ (e : Ending) (w' : World), putOK13 tr s x = false → Below w.heap.size w w' → e = .returned (.tuple #[.agg #[.pointer none], .int .i64 2]) → Below w.heap.size w w' ∧ ∃ (m : Tr ByteArray) (c : Int), e = .returned (.tuple #[.agg #[.pointer (pa m)], .int .i64 c]) ∧ AtS w' m ∧
        ((putOK13 tr s x = true ∧ c = 0 ∧ PutR w.heap.size k x tr m) ∨ (putOK13 tr s x = false ∧ c = 2 ∧ m = .nil))) := Lib.hid (fun e w' h1 h2 h5 => ⟨h2, .nil, 2, h5, trivial, .inr ⟨h1, rfl, rfl⟩⟩)
  generalize putOK13 tr s x = po at *
  obtain ⟨ans, hans⟩ : ∃ A : Ending → World → Prop, A = fun e w' => Below w.heap.size w w' ∧ ∃ (m : Tr ByteArray) (c : Int), e = .returned (.tuple #[.agg #[.pointer (pa m)], .int .i64 c]) ∧ AtS w' m ∧
        ((po = true ∧ c = 0 ∧ PutR w.heap.size k x tr m) ∨ (po = false ∧ c = 2 ∧ m = .nil)) := ⟨_, rfl⟩
  rw [← hans]
  have DONE : Hid (∀ (e : Ending) (w' : World) (m : Tr ByteArray), po = true → Below w.heap.size w w' → AtS w' m → PutR w.heap.size k x tr m → e = .returned (.tuple #[.agg #[.pointer (pa m)], .int .i64 0]) → ans e w') := Lib.hid (by rw [hans]; exact DONE.out)
  have FAIL : Hid (∀ (e : Ending) (w' : World), po = false → Below w.heap.size w w' → e = .returned (.tuple #[.agg #[.pointer none], .int .i64 2]) → ans e w') := Lib.hid (by rw [hans]; exact FAIL.out)
  clear h hk hq hqv hb2 hg hkk hok hfx hs hans
  have HC : Hid (Chain [w] w) := Lib.hid (Chain.one w)
  go_enter Try.func58, Try.ntmps58
  go_upto_region 1 with (fail)
  obtain ⟨z, hz⟩ : ∃ c, w.heap.size = c := ⟨_, rfl⟩
  try rw [hz]
  obtain ⟨w3, hw3⟩ : ∃ X, allocs w [.cells #[.pointer (pa tr)] 27, .cells #[.int .i64 s.g, .int .i64 s.r, .string s.l, .int .i64 s.n, .int .i64 s.i] 41, .cells #[.pointer none] 27] = X := ⟨_, rfl⟩
  rw [show ((w.alloc (.cells #[.pointer (pa tr)] 27)).alloc (.cells #[.int .i64 s.g, .int .i64 s.r, .string s.l, .int .i64 s.n, .int .i64 s.i] 41)).alloc (.cells #[.pointer none] 27) = w3 from hw3]
  have hb : Below w.heap.size w w3 := by rw [← hw3]; exact allocs_below _ _
  have HM : Hid (w3.heap[z]? = some (.cells #[.pointer (pa tr)] 27 (0, 0))) := Lib.hid (by have := allocs_get [.cells #[.pointer (pa tr)] 27, .cells #[.int .i64 s.g, .int .i64 s.r, .string s.l, .int .i64 s.n, .int .i64 s.i] 41, .cells #[.pointer none] 27] w 0 _ rfl; rw [hw3, hz] at this; exact this)
  have HS : Hid (w3.heap[z + 1]? = some (.cells #[.int .i64 s.g, .int .i64 s.r, .string s.l, .int .i64 s.n, .int .i64 s.i] 41 (0, 0))) := Lib.hid (by have := allocs_get [.cells #[.pointer (pa tr)] 27, .cells #[.int .i64 s.g, .int .i64 s.r, .string s.l, .int .i64 s.n, .int .i64 s.i] 41, .cells #[.pointer none] 27] w 1 _ rfl; rw [hw3, hz] at this; exact this)
  have HR : Hid (w3.heap[z + 1 + 1]? = some (.cells #[.pointer none] 27 (0, 0))) := Lib.hid (by have := allocs_get [.cells #[.pointer (pa tr)] 27, .cells #[.int .i64 s.g, .int .i64 s.r, .string s.l, .int .i64 s.n, .int .i64 s.i] 41, .cells #[.pointer none] 27] w 2 _ rfl; rw [hw3, hz] at this; exact this)
  have Sz : Hid (w.heap.size = z) := Lib.hid hz
  replace HC := Lib.hid (HC.out.push hb)
  clear hb hw3 hz
  have kS0 := cell_of_row _ _ 0 _ _ _ HS.out
  have kS1 := cell_of_row _ _ 1 _ _ _ HS.out
  have kS2 := cell_of_row _ _ 2 _ _ _ HS.out
  have kS3 := cell_of_row _ _ 3 _ _ _ HS.out
  have kS4 := cell_of_row _ _ 4 _ _ _ HS.out
  go_wp2_with fail
  cases ok
  case false =>
    refine (MK.out _).mono ?_
    rintro e w4 ⟨rfl, hb⟩
    clear kS0 kS1 kS2 kS3 kS4
    replace HC := Lib.hid (HC.out.push hb)
    clear hb
    rw [if_neg (by simp)]
    have kM0 := cell_of_one (boxStays HM.out (HC.out.to w3 (by simp)))
    go_wp2_with fail
    refine (ML.out _ (HC.out.to w (by simp))).mono ?_
    rintro e w5 ⟨rfl, hb⟩
    clear kM0
    replace HC := Lib.hid (HC.out.push hb)
    clear hb
    have po1 : Hid (po = false) := Lib.hid (by rw [PO.out]; first | rfl | (simp; done) | (simp [*]))
    have kR0 := cell_of_one (boxStays HR.out (HC.out.to w3 (by simp)))
    have fR0 := frozen_of_row _ (z + 1 + 1) 0 _ _ (boxStays HR.out (HC.out.to w3 (by simp)))
    have c4 : ∀ u, (w5.setCell ⟨z + 1 + 1, 0, none⟩ u).cell? ⟨z + 1 + 1, 0, none⟩ = some u := fun u => cell_of_one (Boxed.set (t := 27) u (boxStays HR.out (HC.out.to w3 (by simp))))
    have BZ := Lib.hid (Below.setCell (p := ⟨z + 1 + 1, 0, none⟩) (show Below z w w5 from by rw [← Sz.out]; exact HC.out.to w (by simp)) (by simp; omega) (.pointer none))
    go_wp2_with fail
    exact bodyPost_ret (v := .tuple #[.agg #[.pointer none], .int .i64 2]) (by simp [results, Try.results58, go_sem, c4]) rfl (FAIL.out _ _ po1.out (by rw [Sz.out]; exact BZ.out) rfl)
  case true =>
    refine (MK.out _).mono ?_
    rintro e w4 ⟨rfl, hb⟩
    clear kS0 kS1 kS2 kS3 kS4
    replace HC := Lib.hid (HC.out.push hb)
    clear hb
    rw [if_pos rfl]
    have kM0 := cell_of_one (boxStays HM.out (HC.out.to w3 (by simp)))
    go_wp2_with fail
    refine (ML.out _ (HC.out.to w (by simp))).mono ?_
    rintro e w5 ⟨rfl, hb⟩
    clear kM0
    replace HC := Lib.hid (HC.out.push hb)
    clear hb
    go_wp2_with fail
    refine (MF.out _).mono ?_
    rintro e w6 ⟨rfl, rfl⟩
    cases fx
    case false =>
      have po1 : Hid (po = false) := Lib.hid (by rw [PO.out]; first | rfl | (simp; done) | (simp [*]))
      have kR0 := cell_of_one (boxStays HR.out (HC.out.to w3 (by simp)))
      have fR0 := frozen_of_row _ (z + 1 + 1) 0 _ _ (boxStays HR.out (HC.out.to w3 (by simp)))
      have c4 : ∀ u, (w5.setCell ⟨z + 1 + 1, 0, none⟩ u).cell? ⟨z + 1 + 1, 0, none⟩ = some u := fun u => cell_of_one (Boxed.set (t := 27) u (boxStays HR.out (HC.out.to w3 (by simp))))
      have BZ := Lib.hid (Below.setCell (p := ⟨z + 1 + 1, 0, none⟩) (show Below z w w5 from by rw [← Sz.out]; exact HC.out.to w (by simp)) (by simp; omega) (.pointer none))
      go_wp2_with fail
      exact bodyPost_ret (v := .tuple #[.agg #[.pointer none], .int .i64 2]) (by simp [results, Try.results58, go_sem, c4]) rfl (FAIL.out _ _ po1.out (by rw [Sz.out]; exact BZ.out) rfl)
    case true =>
      have kM0 := cell_of_one (boxStays HM.out (HC.out.to w3 (by simp)))
      go_wp2_with fail
      refine (MM.out _ (HC.out.to w (by simp))).mono ?_
      rintro e w6 ⟨rfl, hb⟩
      clear kM0
      replace HC := Lib.hid (HC.out.push hb)
      clear hb
      cases g
      case false =>
        have po1 : Hid (po = false) := Lib.hid (by rw [PO.out]; first | rfl | (simp; done) | (simp [*]))
        have kR0 := cell_of_one (boxStays HR.out (HC.out.to w3 (by simp)))
        have fR0 := frozen_of_row _ (z + 1 + 1) 0 _ _ (boxStays HR.out (HC.out.to w3 (by simp)))
        have c4 : ∀ u, (w6.setCell ⟨z + 1 + 1, 0, none⟩ u).cell? ⟨z + 1 + 1, 0, none⟩ = some u := fun u => cell_of_one (Boxed.set (t := 27) u (boxStays HR.out (HC.out.to w3 (by simp))))
        have BZ := Lib.hid (Below.setCell (p := ⟨z + 1 + 1, 0, none⟩) (show Below z w w6 from by rw [← Sz.out]; exact HC.out.to w (by simp)) (by simp; omega) (.pointer none))
        go_wp2_with fail
        exact bodyPost_ret (v := .tuple #[.agg #[.pointer none], .int .i64 2]) (by simp [results, Try.results58, go_sem, c4]) rfl (FAIL.out _ _ po1.out (by rw [Sz.out]; exact BZ.out) rfl)
      case true =>
        cases b2
        case false =>
          have po1 : Hid (po = true) := Lib.hid (by rw [PO.out]; first | rfl | (simp; done) | (simp [*]))
          have kM0 := cell_of_one (boxStays HM.out (HC.out.to w3 (by simp)))
          go_wp2_with fail
          refine (MP.out _ (HC.out.to w (by simp))).mono ?_
          rintro e w8 ⟨m, hP, rfl, hm, hb⟩
          clear kM0
          replace HC := Lib.hid (HC.out.push hb)
          clear hb
          have HP := Lib.hid hP
          have HM := Lib.hid hm
          clear hP hm
          have kR0 := cell_of_one (boxStays HR.out (HC.out.to w3 (by simp)))
          have fR0 := frozen_of_row _ (z + 1 + 1) 0 _ _ (boxStays HR.out (HC.out.to w3 (by simp)))
          have c4 : ∀ u, (w8.setCell ⟨z + 1 + 1, 0, none⟩ u).cell? ⟨z + 1 + 1, 0, none⟩ = some u := fun u => cell_of_one (Boxed.set (t := 27) u (boxStays HR.out (HC.out.to w3 (by simp))))
          have BZ := Lib.hid (Below.setCell (p := ⟨z + 1 + 1, 0, none⟩) (show Below z w w8 from by rw [← Sz.out]; exact HC.out.to w (by simp)) (by simp; omega) (.pointer (pa m)))
          have AZ := Lib.hid (HM.out.setBox (boxStays HR.out (HC.out.to w3 (by simp))) (by decide) 0 (.pointer (pa m)))
          go_wp2_with fail
          exact bodyPost_ret (v := .tuple #[.agg #[.pointer (pa m)], .int .i64 0]) (by simp [results, Try.results58, go_sem, c4]) rfl (DONE.out _ _ m po1.out (by rw [Sz.out]; exact BZ.out) AZ.out HP.out rfl)
        case true =>
          cases hqk : klt q k
          case false =>
            have hbl : Op.bytesLess q.toList k.toList = false := hqk
            have po1 : Hid (po = false) := Lib.hid (by rw [PO.out]; first | rfl | (simp; done) | (simp [*]))
            have kR0 := cell_of_one (boxStays HR.out (HC.out.to w3 (by simp)))
            have fR0 := frozen_of_row _ (z + 1 + 1) 0 _ _ (boxStays HR.out (HC.out.to w3 (by simp)))
            have c4 : ∀ u, (w6.setCell ⟨z + 1 + 1, 0, none⟩ u).cell? ⟨z + 1 + 1, 0, none⟩ = some u := fun u => cell_of_one (Boxed.set (t := 27) u (boxStays HR.out (HC.out.to w3 (by simp))))
            have BZ := Lib.hid (Below.setCell (p := ⟨z + 1 + 1, 0, none⟩) (show Below z w w6 from by rw [← Sz.out]; exact HC.out.to w (by simp)) (by simp; omega) (.pointer none))
            go_wp2_with fail
            exact bodyPost_ret (v := .tuple #[.agg #[.pointer none], .int .i64 2]) (by simp [results, Try.results58, go_sem, c4]) rfl (FAIL.out _ _ po1.out (by rw [Sz.out]; exact BZ.out) rfl)
          case true =>
            have hbl : Op.bytesLess q.toList k.toList = true := hqk
            have po1 : Hid (po = true) := Lib.hid (by rw [PO.out]; first | rfl | (simp; done) | (simp [*]))
            have kM0 := cell_of_one (boxStays HM.out (HC.out.to w3 (by simp)))
            go_wp2_with fail
            refine (MP.out _ (HC.out.to w (by simp))).mono ?_
            rintro e w8 ⟨m, hP, rfl, hm, hb⟩
            clear kM0
            replace HC := Lib.hid (HC.out.push hb)
            clear hb
            have HP := Lib.hid hP
            have HM := Lib.hid hm
            clear hP hm
            have kR0 := cell_of_one (boxStays HR.out (HC.out.to w3 (by simp)))
            have fR0 := frozen_of_row _ (z + 1 + 1) 0 _ _ (boxStays HR.out (HC.out.to w3 (by simp)))
            have c4 : ∀ u, (w8.setCell ⟨z + 1 + 1, 0, none⟩ u).cell? ⟨z + 1 + 1, 0, none⟩ = some u := fun u => cell_of_one (Boxed.set (t := 27) u (boxStays HR.out (HC.out.to w3 (by simp))))
            have BZ := Lib.hid (Below.setCell (p := ⟨z + 1 + 1, 0, none⟩) (show Below z w w8 from by rw [← Sz.out]; exact HC.out.to w (by simp)) (by simp; omega) (.pointer (pa m)))
            have AZ := Lib.hid (HM.out.setBox (boxStays HR.out (HC.out.to w3 (by simp))) (by decide) 0 (.pointer (pa m)))
            go_wp2_with fail
            exact bodyPost_ret (v := .tuple #[.agg #[.pointer (pa m)], .int .i64 0]) (by simp [results, Try.results58, go_sem, c4]) rfl (DONE.out _ _ m po1.out (by rw [Sz.out]; exact BZ.out) AZ.out HP.out rfl)
end Go.Proofs.Ytnpiepimajippaa
namespace Go.Proofs.Ytnpiepimajippaa
open Go.RowKit St Pm
theorem cells_row {W : World} {b : Nat} {cs : List Value} {t : TypeId} {fr : Nat × Nat} (h : W.heap[b]? = some (.cells cs.toArray t fr)) : CellsAt W (some ⟨b, 0, none⟩) cs := by
  intro i hi
  refine ⟨b, 0, rfl, ?_⟩
  rw [Nat.zero_add, cell_of_row _ _ i _ _ _ h]
  simp
theorem ok_lsz {l : List Ev} (h : ∀ x ∈ l, okV x = true) : ∀ e ∈ l, e.1.l.size ≤ 9223372036854775807 := fun e he => by
  have := ok_lab (okV_iff.1 (h e he)).1
  omega
theorem of_reg13 (l : List Ev) (a : Option Addr) (n c : Nat) (w : World) (hl : CellsAt w a (elsV l)) (hn : n = l.length) (hb : n ≤ 100000) (hsz : ∀ e ∈ l, e.1.l.size ≤ 9223372036854775807) :
    Calls Try.prog 35 #[.slice a n c] w fun e w' => ∃ (t : Tr ByteArray) (c : Int), e = .returned (.tuple #[.agg #[.pointer (pa t)], .int .i64 c]) ∧ AtS w' t ∧ Below w.heap.size w w' ∧ (∀ b ∈ blocks t, w.heap.size ≤ b) ∧
      ((mayV l = true ∧ c = 0 ∧ Reg (sortV l) t) ∨ (mayV l = false ∧ c = 2 ∧ t = .nil)) := by
  refine (of13 l a n c w hl hn hb hsz).mono ?_
  intro e w' ho
  unfold OfOut13 at ho
  cases hm : mayV l with
  | true =>
    rw [hm, if_pos rfl] at ho
    obtain ⟨t, h1, h2, h3, h4, h5, _, h7⟩ := ho
    exact ⟨t, 0, h1, h2, h7, h5, .inl ⟨rfl, rfl, reg_put hm h3 h4⟩⟩
  | false =>
    rw [hm, if_neg (by simp)] at ho
    exact ⟨.nil, 2, ho.1, trivial, ho.2, fun b hb => (by cases hb), .inr ⟨rfl, rfl, rfl⟩⟩
theorem txt_reg13 {l : List Ev} {t : Tr ByteArray} (w : World) (h : AtS w t) (hr : Reg l t) (hz : l.length ≤ 100000) :
    Calls Try.prog 63 #[.agg #[.pointer (pa t)]] w fun e w' => ∃ v, e = .returned (.tuple #[v, .int .i64 0]) ∧ Below w.heap.size w w' ∧ w'.ownsRow w.heap.size 9 1 v l.length (txV (l.map (·.2))) := by
  refine (texts_13 t w h (by rw [hr.len]; exact hz) hr.keys).mono ?_
  rintro e w' ⟨v, c, rfl, hb, h1, _⟩
  obtain ⟨rfl, h2⟩ := h1 hr.good
  rw [hr.texts, sz_items, hr.len] at h2
  exact ⟨v, rfl, hb, h2⟩
theorem put_reg13 {l : List Ev} {t : Tr ByteArray} (s : Sv) (x : ByteArray) (w : World) (h : AtS w t) (hr : Reg l t) (hz : l.length ≤ 100000) (hs : s.l.size ≤ 9223372036854775807) :
    Calls Try.prog 58 #[.agg #[.pointer (pa t)], .agg #[.int .i64 s.g, .int .i64 s.r, .string s.l, .int .i64 s.n, .int .i64 s.i], .string x] w fun e w' =>
      ∃ (m : Tr ByteArray) (c : Int), e = .returned (.tuple #[.agg #[.pointer (pa m)], .int .i64 c]) ∧ AtS w' m ∧ Below w.heap.size w w' ∧ (((okV (s, x) && behindV l s) = true ∧ c = 0 ∧ Reg (l ++ [(s, x)]) m ∧ ∀ b ∈ blocks m, w.heap.size ≤ b ∨ b ∈ blocks t) ∨ ((okV (s, x) && behindV l s) = false ∧ c = 2 ∧ m = .nil)) := by
  refine (put_13 t s x w h (by rw [hr.len]; exact hz) hr.keys hs).mono ?_
  rintro e w' ⟨hb, m, c, rfl, hm, hP⟩
  have e1 : putOK13 t s x = (okV (s, x) && behindV l s) := by
    unfold putOK13 okV
    rw [hr.good]
    cases hs : s.ok with
    | false => rfl
    | true =>
      rw [hr.ahead hs]
      cases behindV l s <;> simp
  rw [e1] at hP
  refine ⟨m, c, rfl, hm, hb, ?_⟩
  rcases hP with ⟨h1, h2, h3⟩ | h1
  · have h5 := h1
    rw [Bool.and_eq_true] at h5
    obtain ⟨h6, h7⟩ := okV_iff.1 h5.1
    exact .inl ⟨h1, h2, reg_snoc hr h6 h7 h5.2 (h3.bal hr.bal).1 (h3.items hr.srt), put_blocks h3⟩
  · exact .inr h1
theorem goes_reg13 (tr : Tr ByteArray) (mb : Nat) (L : List Ev) (a : Option Addr) (n c : Nat) (leave : Int) (w : World) (hm : Boxed w mb 27 (.pointer (pa tr))) (h : AtS w tr) (hz : sz tr ≤ 100000) (hk : ∀ p ∈ items tr, p.1.size ≤ 9223372036854775807)
    (hL : shown tr = L) (hl : CellsAt w a (elsV L)) (hn : n = L.length) :
    Calls Try.prog 68 #[.func (.func 111) #[] #[.pointer (some ⟨mb, 0, none⟩)], .slice a n c, .int .i64 leave] w fun e w' => e = .returned (.bool true) ∧ Below w.heap.size w w' := by
  have hb : n ≤ 1000000 := by
    rw [hn, ← hL]
    unfold shown
    split
    · rw [List.length_map, sz_items]; omega
    · exact Nat.zero_le _
  exact goes_13 111 #[.pointer (some ⟨mb, 0, none⟩)] (fun _ => False) L a n c leave w hl hn hb (fun k hk => hk.elim) (enters_of Try.func111 (by kernel_rfl) rfl) (fun W hW => by rw [← hL]; exact all1_13 5 (by omega) tr mb W _ (boxStays hm hW) (h.below hW rfl) hz hk (fun k hk => hk.elim))
end Go.Proofs.Ytnpiepimajippaa
namespace Go.Proofs.Ytnpiepimajippaa
open Go.RowKit St Pm
theorem step_store_row {P : Program} {ops : Array Oper} {o : Oper} {a : Act} {w : World} {K : Act → World → Prop} {Q : Exit → Act → World → Prop} {E : Prop} (hgd : o.guard = none) (ty : TypeId) (x y : Operand) (ho : o.op = .store ty x y)
    (g : Nat) (cells : Array Value) (hx : a.eval x = .pointer (some ⟨g, 0, none⟩)) (hy : a.eval y = .agg cells)
    (t : TypeId) (old : Array Value) (hg : w.heap[g]? = some (.cells old t (0, 0))) (hi : (P.info? ty).map (·.size) = some cells.size)
    (hold : old.size = cells.size) (h1 : cells.all (·.oneCell') = true)
    (h : K (a.put o.dst undef) (w.setRow g cells)) : if Region.wanted o (yielded ops a.tmps) = true then Oper.wp P o a w K Q else E := by
  have hw : Region.wanted o (yielded ops a.tmps) = true := by simp [Region.wanted, hgd]
  rw [if_pos hw]
  exact wp_store_row ty x y ho g cells hx hy t old hg hi hold h1 h
theorem KeepX.setWhole {Ex : Nat → TypeId → Prop} {A B : World} (h : KeepX Ex A B) {X : Nat} {cs : Array Value} {t : TypeId} {fr : Nat × Nat} (hX : B.heap[X]? = some (.cells cs t fr)) (ht : Ex X t) (v : Array Value) : KeepX Ex A (B.setRow X v) :=
  ⟨h.os, h.tape, h.output, by simpa using h.size, fun k o ho hn => (setRow_other _ _ _ _ (by
    rintro rfl
    have h1 := h.rest k o ho hn
    rw [hX] at h1
    cases h1
    exact hn _ _ _ rfl ht)).trans (h.rest k o ho hn)⟩
theorem AtS.setWhole {w : World} {t : Tr ByteArray} (h : AtS w t) {X : Nat} {cs : Array Value} {T : TypeId} {fr : Nat × Nat} (hx : w.heap[X]? = some (.cells cs T fr)) (hT : T ≠ 110) (v : Array Value) : AtS (w.setRow X v) t :=
  h.keep fun b o ho hm => (setRow_other _ _ _ _ (by intro e; subst e; exact h.other hx hT hm)).trans ho
theorem reg_pop {x : Ev} {l : List Ev} {t m : Tr ByteArray} {N : Nat} (h : Reg (x :: l) t) (ht : TakeR N (keyB x.1.st) t m) : Reg l m := by
  have hi := ht.items h.srt
  have hs := h.srt
  rw [h.it, List.map_cons] at hi hs
  rw [srt_cons] at hs
  have e : del (keyB x.1.st) (encV x :: l.map encV) = l.map encV := by
    show del (keyB x.1.st) ((keyB x.1.st, x.2) :: l.map encV) = _
    rw [del_here]
    exact del_none fun p hp e => by
      have := hs.1 p hp
      rw [e] at this
      exact absurd this (by rw [show (encV x).1 = keyB x.1.st from rfl, klt_irrefl]; simp)
  rw [e] at hi
  exact ⟨(ht.bal h.bal).1, hi, fun y hy => h.ok y (List.mem_cons_of_mem _ hy), by rw [hi]; exact hs.2⟩
set_option maxRecDepth 100000 in
set_option maxHeartbeats 4000000 in
theorem qu_PopNo (tr : Tr ByteArray) (w : World) (h : AtS w tr) (hz : sz tr ≤ 100000) (hk : ∀ p ∈ items tr, p.1.size ≤ 9223372036854775807) (hL : shown tr = []) :
    Calls Try.prog 57 #[.agg #[.pointer (pa tr)]] w fun e w' => e = .returned (.tuple #[.agg #[.pointer (pa tr)], .agg #[.int .i64 0, .int .i64 0, .string ⟨#[]⟩, .int .i64 0, .int .i64 0, .string ⟨#[]⟩], .bool false]) ∧ Below w.heap.size w w' := by
  have T := Lib.hid h
  have HF := Lib.hid (fun W (hW : Below w.heap.size w W) => qu_First tr W (h.below hW rfl) hz hk)
  rw [hL] at HF
  clear h hk hL
  have HC : Hid (Chain [w] w) := Lib.hid (Chain.one w)
  go_enter Try.func57, Try.ntmps57
  go_upto_region 1 with (fail)
  obtain ⟨z, hz⟩ : ∃ c, w.heap.size = c := ⟨_, rfl⟩
  try rw [hz]
  obtain ⟨w3, hw3⟩ : ∃ X, allocs w [.cells #[.pointer (pa tr)] 27, .cells #[.pointer none] 27, .cells #[.int .i64 0, .int .i64 0, .string ⟨#[]⟩, .int .i64 0, .int .i64 0, .string ⟨#[]⟩] 47] = X := ⟨_, rfl⟩
  rw [show ((w.alloc (.cells #[.pointer (pa tr)] 27)).alloc (.cells #[.pointer none] 27)).alloc (.cells #[.int .i64 0, .int .i64 0, .string ⟨#[]⟩, .int .i64 0, .int .i64 0, .string ⟨#[]⟩] 47) = w3 from hw3]
  have hb : Below w.heap.size w w3 := by rw [← hw3]; exact allocs_below _ _
  have HM : Hid (w3.heap[z]? = some (.cells #[.pointer (pa tr)] 27 (0, 0))) := Lib.hid (by have := allocs_get [.cells #[.pointer (pa tr)] 27, .cells #[.pointer none] 27, .cells #[.int .i64 0, .int .i64 0, .string ⟨#[]⟩, .int .i64 0, .int .i64 0, .string ⟨#[]⟩] 47] w 0 _ rfl; rw [hw3, hz] at this; exact this)
  have HR : Hid (w3.heap[z + 1]? = some (.cells #[.pointer none] 27 (0, 0))) := Lib.hid (by have := allocs_get [.cells #[.pointer (pa tr)] 27, .cells #[.pointer none] 27, .cells #[.int .i64 0, .int .i64 0, .string ⟨#[]⟩, .int .i64 0, .int .i64 0, .string ⟨#[]⟩] 47] w 1 _ rfl; rw [hw3, hz] at this; exact this)
  have HS : Hid (w3.heap[z + 1 + 1]? = some (.cells #[.int .i64 0, .int .i64 0, .string ⟨#[]⟩, .int .i64 0, .int .i64 0, .string ⟨#[]⟩] 47 (0, 0))) := Lib.hid (by have := allocs_get [.cells #[.pointer (pa tr)] 27, .cells #[.pointer none] 27, .cells #[.int .i64 0, .int .i64 0, .string ⟨#[]⟩, .int .i64 0, .int .i64 0, .string ⟨#[]⟩] 47] w 2 _ rfl; rw [hw3, hz] at this; exact this)
  have Sz : Hid (w.heap.size = z) := Lib.hid hz
  replace HC := Lib.hid (HC.out.push hb)
  clear hb hw3 hz
  have kM0 := cell_of_one HM.out
  go_wp2_with fail
  refine (HF.out _ (HC.out.to w (by simp))).mono ?_
  rintro e w4 ⟨x, rfl, rfl, hb⟩
  clear kM0
  replace HC := Lib.hid (HC.out.push hb)
  clear hb
  simp only [firstE, zeroE]
  go_upto_region 2 with (fail)
  obtain ⟨c5, hc5⟩ : ∃ c, w4.heap.size = c := ⟨_, rfl⟩
  try rw [hc5]
  obtain ⟨w5, hw5⟩ : ∃ X, allocs w4 [.cells #[.int .i64 0, .int .i64 0, .string ⟨#[]⟩, .int .i64 0, .int .i64 0, .string ⟨#[]⟩] 47] = X := ⟨_, rfl⟩
  rw [show w4.alloc (.cells #[.int .i64 0, .int .i64 0, .string ⟨#[]⟩, .int .i64 0, .int .i64 0, .string ⟨#[]⟩] 47) = w5 from hw5]
  have hb : Below w4.heap.size w4 w5 := by rw [← hw5]; exact allocs_below _ _
  have Sc5 : Hid (w4.heap.size = c5) := Lib.hid hc5
  replace HC := Lib.hid (HC.out.push hb)
  clear hb hw5 hc5
  have kM0 := cell_of_one (boxStays HM.out (HC.out.to w3 (by simp)))
  have kR0 := cell_of_one (boxStays HR.out (HC.out.to w3 (by simp)))
  have fR0 := frozen_of_row _ (z + 1) 0 _ _ (boxStays HR.out (HC.out.to w3 (by simp)))
  have BZ := Lib.hid (show Below z w w5 from by rw [← Sz.out]; exact HC.out.to w (by simp))
  have XR := Lib.hid (boxStays HR.out (HC.out.to w3 (by simp)))
  have XS := Lib.hid (boxStays HS.out (HC.out.to w3 (by simp)))
  have YR := Lib.hid (Boxed.set (t := 27) (.pointer (pa tr)) XR.out)
  have YS := Lib.hid ((Below.heap_setCell w5 ⟨z + 1, 0, none⟩ (.pointer (pa tr)) (z + 1 + 1) (by simp)).trans XS.out)
  have YB := Lib.hid (BZ.out.setCell (p := ⟨z + 1, 0, none⟩) (show z ≤ z + 1 by omega) (.pointer (pa tr)))
  go_wp2_with (refine wpList_store_row rfl 47 (.tmp 3) (.tmp 17) rfl (z + 1 + 1) #[.int .i64 0, .int .i64 0, .string ⟨#[]⟩, .int .i64 0, .int .i64 0, .string ⟨#[]⟩] rfl rfl 47 _ YS.out (by kernel_rfl) rfl (el_one zeroE) ?_)
  have q := setRow_heap (w5.setCell ⟨z + 1, 0, none⟩ (.pointer (pa tr))) (z + 1 + 1) _ #[.int .i64 0, .int .i64 0, .string ⟨#[]⟩, .int .i64 0, .int .i64 0, .string ⟨#[]⟩] _ _ YS.out
  have qr := (setRow_other (w5.setCell ⟨z + 1, 0, none⟩ (.pointer (pa tr))) (z + 1 + 1) (z + 1) #[.int .i64 0, .int .i64 0, .string ⟨#[]⟩, .int .i64 0, .int .i64 0, .string ⟨#[]⟩] (by omega)).trans YR.out
  have q0 := cell_of_row _ _ 0 _ _ _ q
  have q1 := cell_of_row _ _ 1 _ _ _ q
  have q2 := cell_of_row _ _ 2 _ _ _ q
  have q3 := cell_of_row _ _ 3 _ _ _ q
  have q4 := cell_of_row _ _ 4 _ _ _ q
  have q5 := cell_of_row _ _ 5 _ _ _ q
  have q6 := cell_of_one qr
  refine bodyPost_ret (v := .tuple #[.agg #[.pointer (pa tr)], .agg #[.int .i64 0, .int .i64 0, .string ⟨#[]⟩, .int .i64 0, .int .i64 0, .string ⟨#[]⟩], .bool false]) (by simp [results, Try.results57, go_sem, q0, q1, q2, q3, q4, q5, q6]) rfl ?_
  exact ⟨rfl, by rw [Sz.out]; exact below_setRow YB.out (show z ≤ z + 1 + 1 by omega) _⟩
set_option maxRecDepth 100000 in
set_option maxHeartbeats 4000000 in
theorem qu_Pop (x : Ev) (l : List Ev) (tr : Tr ByteArray) (w : World) (h : AtS w tr) (hr : Reg (x :: l) tr) (hz : l.length < 100000) :
    Calls Try.prog 57 #[.agg #[.pointer (pa tr)]] w fun e w' => ∃ m : Tr ByteArray, e = .returned (.tuple #[.agg #[.pointer (pa m)], .agg #[.int .i64 x.1.g, .int .i64 x.1.r, .string x.1.l, .int .i64 x.1.n, .int .i64 x.1.i, .string x.2], .bool true]) ∧ AtS w' m ∧ Reg l m ∧ Below w.heap.size w w' := by
  have T := Lib.hid h
  have hsz : sz tr ≤ 100000 := by rw [hr.len, List.length_cons]; omega
  have HF := Lib.hid (fun W (hW : Below w.heap.size w W) => qu_First tr W (h.below hW rfl) hsz hr.keys)
  rw [hr.shown] at HF
  have RG := Lib.hid hr
  have HKY := Lib.hid (fun W => stp_Key x.1 W (ok_lsz hr.ok x List.mem_cons_self))
  rw [if_pos (okV_iff.1 (hr.ok x List.mem_cons_self)).1] at HKY
  have HZ := Lib.hid hsz
  have HTK : Hid (∀ W, Below w.heap.size w W → Calls Try.prog 109 #[.agg #[.pointer (pa tr)], .string (keyB x.1.st)] W fun e w' => ∃ m : Tr ByteArray, e = .returned (.agg #[.pointer (pa m)]) ∧ AtS w' m ∧ Reg l m ∧ Below W.heap.size W w' ∧ ∀ {Ex : Nat → TypeId → Prop}, KeepX Ex W w') := Lib.hid (fun W hW => by
    refine (pm_MTakeS tr (keyB x.1.st) 0 W (Nat.zero_le _) (T.out.below hW rfl) (by have := HZ.out; omega)).mono ?_
    rintro e w' ⟨m, hP, rfl, hm, hb⟩
    refine ⟨m, rfl, hm, ?_, hb, KeepX.ofBelow hb⟩
    rcases hP with ⟨h1, _⟩ | ⟨_, h1⟩
    · exact absurd rfl (seek_none RG.out.srt h1 (encV x) (by rw [RG.out.it]; exact List.mem_cons_self))
    · exact reg_pop RG.out h1)
  obtain ⟨k, hk⟩ : ∃ k, keyB x.1.st = k := ⟨_, rfl⟩
  rw [hk] at HKY HTK
  clear h hr hsz hk
  have HC : Hid (Chain [w] w) := Lib.hid (Chain.one w)
  go_enter Try.func57, Try.ntmps57
  go_upto_region 1 with (fail)
  obtain ⟨z, hz⟩ : ∃ c, w.heap.size = c := ⟨_, rfl⟩
  try rw [hz]
  obtain ⟨w3, hw3⟩ : ∃ X, allocs w [.cells #[.pointer (pa tr)] 27, .cells #[.pointer none] 27, .cells #[.int .i64 0, .int .i64 0, .string ⟨#[]⟩, .int .i64 0, .int .i64 0, .string ⟨#[]⟩] 47] = X := ⟨_, rfl⟩
  rw [show ((w.alloc (.cells #[.pointer (pa tr)] 27)).alloc (.cells #[.pointer none] 27)).alloc (.cells #[.int .i64 0, .int .i64 0, .string ⟨#[]⟩, .int .i64 0, .int .i64 0, .string ⟨#[]⟩] 47) = w3 from hw3]
  have hb : Below w.heap.size w w3 := by rw [← hw3]; exact allocs_below _ _
  have HM : Hid (w3.heap[z]? = some (.cells #[.pointer (pa tr)] 27 (0, 0))) := Lib.hid (by have := allocs_get [.cells #[.pointer (pa tr)] 27, .cells #[.pointer none] 27, .cells #[.int .i64 0, .int .i64 0, .string ⟨#[]⟩, .int .i64 0, .int .i64 0, .string ⟨#[]⟩] 47] w 0 _ rfl; rw [hw3, hz] at this; exact this)
  have HR : Hid (w3.heap[z + 1]? = some (.cells #[.pointer none] 27 (0, 0))) := Lib.hid (by have := allocs_get [.cells #[.pointer (pa tr)] 27, .cells #[.pointer none] 27, .cells #[.int .i64 0, .int .i64 0, .string ⟨#[]⟩, .int .i64 0, .int .i64 0, .string ⟨#[]⟩] 47] w 1 _ rfl; rw [hw3, hz] at this; exact this)
  have HS : Hid (w3.heap[z + 1 + 1]? = some (.cells #[.int .i64 0, .int .i64 0, .string ⟨#[]⟩, .int .i64 0, .int .i64 0, .string ⟨#[]⟩] 47 (0, 0))) := Lib.hid (by have := allocs_get [.cells #[.pointer (pa tr)] 27, .cells #[.pointer none] 27, .cells #[.int .i64 0, .int .i64 0, .string ⟨#[]⟩, .int .i64 0, .int .i64 0, .string ⟨#[]⟩] 47] w 2 _ rfl; rw [hw3, hz] at this; exact this)
  have Sz : Hid (w.heap.size = z) := Lib.hid hz
  replace HC := Lib.hid (HC.out.push hb)
  clear hb hw3 hz
  have kM0 := cell_of_one HM.out
  go_wp2_with fail
  refine (HF.out _ (HC.out.to w (by simp))).mono ?_
  rintro e w4 ⟨x1, rfl, hx1, hb⟩
  clear kM0
  replace HC := Lib.hid (HC.out.push hb)
  clear hb
  have SW4 : Hid (w3.heap.size ≤ w4.heap.size) := Lib.hid (HC.out.to w3 (by simp)).size
  obtain rfl : x1 = x := hx1
  simp only [firstE]
  go_upto_region 2 with (fail)
  obtain ⟨c5, hc5⟩ : ∃ c, w4.heap.size = c := ⟨_, rfl⟩
  try rw [hc5]
  obtain ⟨w5, hw5⟩ : ∃ X, allocs w4 [.cells #[.int .i64 x1.1.g, .int .i64 x1.1.r, .string x1.1.l, .int .i64 x1.1.n, .int .i64 x1.1.i, .string x1.2] 47] = X := ⟨_, rfl⟩
  rw [show w4.alloc (.cells #[.int .i64 x1.1.g, .int .i64 x1.1.r, .string x1.1.l, .int .i64 x1.1.n, .int .i64 x1.1.i, .string x1.2] 47) = w5 from hw5]
  have hb : Below w4.heap.size w4 w5 := by rw [← hw5]; exact allocs_below _ _
  have HE : Hid (w5.heap[c5]? = some (.cells #[.int .i64 x1.1.g, .int .i64 x1.1.r, .string x1.1.l, .int .i64 x1.1.n, .int .i64 x1.1.i, .string x1.2] 47 (0, 0))) := Lib.hid (by have := allocs_get [.cells #[.int .i64 x1.1.g, .int .i64 x1.1.r, .string x1.1.l, .int .i64 x1.1.n, .int .i64 x1.1.i, .string x1.2] 47] w4 0 _ rfl; rw [hw5, hc5] at this; exact this)
  have Sc5 : Hid (w4.heap.size = c5) := Lib.hid hc5
  replace HC := Lib.hid (HC.out.push hb)
  clear hb hw5 hc5
  have kE0 := cell_of_row _ _ 0 _ _ _ HE.out
  have kE1 := cell_of_row _ _ 1 _ _ _ HE.out
  have kE2 := cell_of_row _ _ 2 _ _ _ HE.out
  have kE3 := cell_of_row _ _ 3 _ _ _ HE.out
  have kE4 := cell_of_row _ _ 4 _ _ _ HE.out
  have kE5 := cell_of_row _ _ 5 _ _ _ HE.out
  go_wp2_with fail
  refine (HKY.out _).mono ?_
  rintro e w6 ⟨rfl, hb⟩
  clear kE0 kE1 kE2 kE3 kE4 kE5
  replace HC := Lib.hid (HC.out.push hb)
  clear hb
  have BZ := Lib.hid (show Below z w w6 from by rw [← Sz.out]; exact HC.out.to w (by simp))
  have XM := Lib.hid (boxStays HM.out (HC.out.to w3 (by simp)))
  have XR := Lib.hid (boxStays HR.out (HC.out.to w3 (by simp)))
  have XS := Lib.hid (boxStays HS.out (HC.out.to w3 (by simp)))
  have XE := Lib.hid (boxStays HE.out (HC.out.to w5 (by simp)))
  have W6 := Lib.hid (HC.out.to w (by simp))
  have NE : Hid (c5 ≠ z + 1 ∧ c5 ≠ z + 1 + 1) := Lib.hid (by have := (Array.getElem?_eq_some_iff.1 HS.out).1; have h1 := Sc5.out; have h2 := SW4.out; constructor <;> omega)
  go_upto_region 5 with (fail)
  have YR : Hid (w6.drew.heap[z + 1]? = some (.cells #[.pointer none] 27 (0, 0))) := XR
  have YS : Hid (w6.drew.heap[z + 1 + 1]? = some (.cells #[.int .i64 0, .int .i64 0, .string ⟨#[]⟩, .int .i64 0, .int .i64 0, .string ⟨#[]⟩] 47 (0, 0))) := XS
  refine wp_region_noPanic ?_
  refine wp_region_held_drew (S := fun w' => KeepX (fun k _ => k = z + 1 ∨ k = z + 1 + 1) w6 w') (by kernel_rfl) (KeepX.refl _).drew (fun hS => ?_)
  refine wpAnyH_take (i := 0) (oi := ⟨some 24, _, _, _, _, _⟩) (v := ?_) rfl (by kernel_rfl) (by kernel_rfl) (by kernel_rfl) (fun _ _ _ h => h) (Or.inl ⟨by rfl, ?_⟩) hS ?_
  rotate_left 1
  · intro w' hB; have m0 := cell_of_one (hB.row XM.out (by omega)); have hee := hB.row XE.out (by have := NE.out; omega); have e0 := cell_of_row _ c5 0 _ _ _ hee; have e1 := cell_of_row _ c5 1 _ _ _ hee; have e2 := cell_of_row _ c5 2 _ _ _ hee; have e3 := cell_of_row _ c5 3 _ _ _ hee; have e4 := cell_of_row _ c5 4 _ _ _ hee; have e5 := cell_of_row _ c5 5 _ _ _ hee; clear hee; (go_simp <;> with_reducible rfl)
  try simp only [Act.put, List.setIfInBounds_toArray, List.set_cons_zero, List.set_cons_succ]
  refine wpAnyH_take (i := 1) (oi := ⟨some 25, _, _, _, _, _⟩) (v := ?_) rfl (by kernel_rfl) (by kernel_rfl) (by kernel_rfl) (fun _ _ _ h => h) (Or.inl ⟨by rfl, ?_⟩) hS ?_
  rotate_left 1
  · intro w' hB; have m0 := cell_of_one (hB.row XM.out (by omega)); have hee := hB.row XE.out (by have := NE.out; omega); have e0 := cell_of_row _ c5 0 _ _ _ hee; have e1 := cell_of_row _ c5 1 _ _ _ hee; have e2 := cell_of_row _ c5 2 _ _ _ hee; have e3 := cell_of_row _ c5 3 _ _ _ hee; have e4 := cell_of_row _ c5 4 _ _ _ hee; have e5 := cell_of_row _ c5 5 _ _ _ hee; clear hee; (go_simp <;> with_reducible rfl)
  try simp only [Act.put, List.setIfInBounds_toArray, List.set_cons_zero, List.set_cons_succ]
  refine wpAnyH_take (i := 3) (oi := ⟨some 27, _, _, _, _, _⟩) (v := ?_) rfl (by kernel_rfl) (by kernel_rfl) (by kernel_rfl) (fun _ _ _ h => h) (Or.inl ⟨by rfl, ?_⟩) hS ?_
  rotate_left 1
  · intro w' hB; have m0 := cell_of_one (hB.row XM.out (by omega)); have hee := hB.row XE.out (by have := NE.out; omega); have e0 := cell_of_row _ c5 0 _ _ _ hee; have e1 := cell_of_row _ c5 1 _ _ _ hee; have e2 := cell_of_row _ c5 2 _ _ _ hee; have e3 := cell_of_row _ c5 3 _ _ _ hee; have e4 := cell_of_row _ c5 4 _ _ _ hee; have e5 := cell_of_row _ c5 5 _ _ _ hee; clear hee; (go_simp <;> with_reducible rfl)
  try simp only [Act.put, List.setIfInBounds_toArray, List.set_cons_zero, List.set_cons_succ]
  refine wpAnyH_ready (rs := [2]) (by kernel_rfl) (by simp) (AllReadyH.cons (o := ⟨some 26, _, _, _, _, _⟩) rfl (fun K hK => ?_) AllReadyH.nil)
  go_simp
  refine (HTK.out _ (W6.out.trans ((Below.refl _ w6).drew.mono W6.out.size))).mono ?_
  rintro e w7 ⟨m, rfl, hm, hr, hb', hb⟩
  refine hK.out _ _ (hS.trans (hb)) (fun _ => ?_)
  clear hK K
  replace hS := hS.trans (hb)
  have RM := Lib.hid hr
  have TM := Lib.hid hm
  replace YR := Lib.hid (boxStays YR.out hb')
  replace YS := Lib.hid (boxStays YS.out hb')
  clear hr hm hb'
  clear hb
  try simp only [Act.put, List.setIfInBounds_toArray, List.set_cons_zero, List.set_cons_succ]
  refine wpAnyH_ready (rs := [4]) (by kernel_rfl) (by simp) (AllReadyH.cons (o := ⟨none, _, _, _, _, _⟩) rfl (fun K hK => ?_) AllReadyH.nil)
  have k1 := cell_of_one YR.out
  have f1 := frozen_of_row _ (z + 1) 0 _ _ YR.out
  replace hS := KeepX.setRow hS YR.out (.inl rfl) 0 (Value.pointer (pa m))
  replace TM := Lib.hid (TM.out.setBox YR.out (by decide) 0 (Value.pointer (pa m)))
  replace YS := Lib.hid ((Below.heap_setCell w7 ⟨z + 1, 0, none⟩ (Value.pointer (pa m)) (z + 1 + 1) (by simp)).trans YS.out)
  replace YR := Lib.hid (Boxed.set (t := 27) (.pointer (pa m)) YR.out)
  go_simp
  refine hK.out _ _ hS (fun _ => ?_)
  clear hK K k1 f1
  try simp only [Act.put, List.setIfInBounds_toArray, List.set_cons_zero, List.set_cons_succ]
  refine wpAnyH_ready (rs := [5]) (by kernel_rfl) (by simp) (AllReadyH.cons (o := ⟨none, _, _, _, _, _⟩) rfl (fun K hK => ?_) AllReadyH.nil)
  refine step_store_row rfl 47 (.tmp 3) (.tmp 27) rfl (z + 1 + 1) #[.int .i64 x1.1.g, .int .i64 x1.1.r, .string x1.1.l, .int .i64 x1.1.n, .int .i64 x1.1.i, .string x1.2] rfl rfl 47 _ YS.out (by kernel_rfl) rfl (el_one x1) ?_
  replace hS := KeepX.setWhole hS YS.out (.inr rfl) #[.int .i64 x1.1.g, .int .i64 x1.1.r, .string x1.1.l, .int .i64 x1.1.n, .int .i64 x1.1.i, .string x1.2]
  replace TM := Lib.hid (TM.out.setWhole YS.out (by decide) #[.int .i64 x1.1.g, .int .i64 x1.1.r, .string x1.1.l, .int .i64 x1.1.n, .int .i64 x1.1.i, .string x1.2])
  replace YR := Lib.hid ((setRow_other _ (z + 1 + 1) (z + 1) #[.int .i64 x1.1.g, .int .i64 x1.1.r, .string x1.1.l, .int .i64 x1.1.n, .int .i64 x1.1.i, .string x1.2] (by omega)).trans YR.out)
  replace YS := Lib.hid (setRow_heap _ (z + 1 + 1) _ #[.int .i64 x1.1.g, .int .i64 x1.1.r, .string x1.1.l, .int .i64 x1.1.n, .int .i64 x1.1.i, .string x1.2] _ _ YS.out)
  refine hK.out _ _ hS (fun _ => ?_)
  clear hK K
  try simp only [Act.put, List.setIfInBounds_toArray, List.set_cons_zero, List.set_cons_succ]
  refine wpAnyH_take (i := 6) (oi := ⟨some 4, _, _, _, _, _⟩) (v := ?_) rfl (by kernel_rfl) (by kernel_rfl) (by kernel_rfl) (fun _ _ _ h => h) (Or.inl ⟨by rfl, ?_⟩) hS ?_
  rotate_left 1
  · intro w' hB; have m0 := cell_of_one (hB.row XM.out (by omega)); have hee := hB.row XE.out (by have := NE.out; omega); have e0 := cell_of_row _ c5 0 _ _ _ hee; have e1 := cell_of_row _ c5 1 _ _ _ hee; have e2 := cell_of_row _ c5 2 _ _ _ hee; have e3 := cell_of_row _ c5 3 _ _ _ hee; have e4 := cell_of_row _ c5 4 _ _ _ hee; have e5 := cell_of_row _ c5 5 _ _ _ hee; clear hee; (go_simp <;> with_reducible rfl)
  try simp only [Act.put, List.setIfInBounds_toArray, List.set_cons_zero, List.set_cons_succ]
  refine wpAnyH_done (by kernel_rfl) (NoPanic.normal ?_) _
  generalize (w7.setCell ⟨z + 1, 0, none⟩ (.pointer (pa m))).setRow (z + 1 + 1) #[.int .i64 x1.1.g, .int .i64 x1.1.r, .string x1.1.l, .int .i64 x1.1.n, .int .i64 x1.1.i, .string x1.2] = w8 at *
  have q := YS.out
  have q0 := cell_of_row _ _ 0 _ _ _ q
  have q1 := cell_of_row _ _ 1 _ _ _ q
  have q2 := cell_of_row _ _ 2 _ _ _ q
  have q3 := cell_of_row _ _ 3 _ _ _ q
  have q4 := cell_of_row _ _ 4 _ _ _ q
  have q5 := cell_of_row _ _ 5 _ _ _ q
  have q6 := cell_of_one YR.out
  have HK8 := Lib.hid hS
  clear hS q
  go_wp2_with fail
  refine bodyPost_ret (v := .tuple #[.agg #[.pointer (pa m)], .agg #[.int .i64 x1.1.g, .int .i64 x1.1.r, .string x1.1.l, .int .i64 x1.1.n, .int .i64 x1.1.i, .string x1.2], .bool true]) (by simp [results, Try.results57, go_sem, q0, q1, q2, q3, q4, q5, q6]) rfl ?_
  have hbz : Below z w6 w8 := ⟨HK8.out.os, HK8.out.tape, HK8.out.output, HK8.out.size, fun k hk => by
    cases e : w6.heap[k]? with
    | none => rw [Array.getElem?_eq_none_iff] at e; have := (Array.getElem?_eq_some_iff.1 XM.out).1; omega
    | some o => exact HK8.out.rest k o e fun _ _ _ _ h => by omega⟩
  exact ⟨m, rfl, TM.out, RM.out, by rw [Sz.out]; exact BZ.out.trans hbz⟩
end Go.Proofs.Ytnpiepimajippaa
namespace Go.Proofs.Ytnpiepimajippaa
open Go.RowKit St Pm
structure Qs (l : List Ev) (t : Tr ByteArray) : Prop where
  reg : l ≠ [] → Reg l t
  no : l = [] → shown t = []
  sz : sz t ≤ 100000
  keys : ∀ p ∈ items t, p.1.size ≤ 9223372036854775807
theorem Reg.qs {l : List Ev} {t : Tr ByteArray} (h : Reg l t) (hz : l.length ≤ 100000) : Qs l t := ⟨fun _ => h, fun e => by subst e; exact h.shown, by rw [h.len]; exact hz, h.keys⟩
def DropOut (l : List Ev) (tr0 : Tr ByteArray) (n : Int) (w : World) (e : Ending) (w' : World) : Prop :=
  ∃ (m : Tr ByteArray) (k : Nat), k = min n.toNat l.length ∧ e = .returned (.tuple #[.agg #[.pointer (pa m)], .int .i64 (k : Int)]) ∧ AtS w' m ∧ ((k = 0 → m = tr0) ∧ (k ≠ 0 → Reg (l.drop k) m)) ∧ Below w.heap.size w w'
set_option maxRecDepth 100000 in
set_option maxHeartbeats 4000000 in
theorem qu_Drop (l : List Ev) (tr0 : Tr ByteArray) (n : Int) (w : World) (h : AtS w tr0) (hq : Qs l tr0) (hz : l.length < 100000) :
    Calls Try.prog 66 #[.agg #[.pointer (pa tr0)], .int .i64 n] w (DropOut l tr0 n w) := by
  have T := Lib.hid h
  have Q0 := Lib.hid hq
  have HZ := Lib.hid hz
  clear h hq hz
  have HC : Hid (Chain [w] w) := Lib.hid (Chain.one w)
  go_enter Try.func66, Try.ntmps66
  go_upto_region 1 with (fail)
  obtain ⟨z, hz⟩ : ∃ c, w.heap.size = c := ⟨_, rfl⟩
  try rw [hz]
  obtain ⟨w3, hw3⟩ : ∃ X, allocs w [.cells #[.pointer (pa tr0)] 27, .cells #[.pointer none] 27] = X := ⟨_, rfl⟩
  rw [show (w.alloc (.cells #[.pointer (pa tr0)] 27)).alloc (.cells #[.pointer none] 27) = w3 from hw3]
  have hb : Below w.heap.size w w3 := by rw [← hw3]; exact allocs_below _ _
  have HM : Hid (w3.heap[z]? = some (.cells #[.pointer (pa tr0)] 27 (0, 0))) := Lib.hid (by have := allocs_get [.cells #[.pointer (pa tr0)] 27, .cells #[.pointer none] 27] w 0 _ rfl; rw [hw3, hz] at this; exact this)
  have HR : Hid (w3.heap[z + 1]? = some (.cells #[.pointer none] 27 (0, 0))) := Lib.hid (by have := allocs_get [.cells #[.pointer (pa tr0)] 27, .cells #[.pointer none] 27] w 1 _ rfl; rw [hw3, hz] at this; exact this)
  have Sz : Hid (w.heap.size = z) := Lib.hid hz
  replace HC := Lib.hid (HC.out.push hb)
  clear hb hw3 hz
  go_wp2_with fail
  go_loopw [6] (fun g wr => ∃ (j : Nat) (tr : Tr ByteArray), g = .int .i64 (j : Int) ∧ j ≤ l.length ∧ Hid ((j : Int) ≤ n ∨ j = 0) ∧ Hid (Qs (l.drop j) tr) ∧ Hid ((j = 0 → tr = tr0) ∧ (j ≠ 0 → Reg (l.drop j) tr)) ∧ Hid (AtS wr tr) ∧ Hid (wr.heap[z]? = some (.cells #[.pointer (pa tr)] 27 (0, 0))) ∧ Hid (wr.heap[z + 1]? = some (.cells #[.pointer none] 27 (0, 0))) ∧ Hid (Below z w wr)) (fun g _ => l.length + 1 - (intOf g).toNat)
  case atStart => exact ⟨0, tr0, rfl, Nat.zero_le _, Lib.hid (.inr rfl), Lib.hid (by rw [List.drop_zero]; exact Q0.out), Lib.hid ⟨fun _ => rfl, fun h => absurd rfl h⟩, Lib.hid (T.out.below (HC.out.to w (by simp)) rfl), HM, HR, Lib.hid (by rw [← Sz.out]; exact (HC.out.to w (by simp)))⟩
  case round =>
    obtain ⟨j, tr, rfl, hj, HJ, HQ, HO, HAt, HM, HR, HBZ⟩ := hrel
    have HC : Hid (Chain [wr] wr) := Lib.hid (Chain.one wr)
    have hjz : j ≤ 100000 := by have := HZ.out; omega
    by_cases hlt : (j : Int) < n
    · obtain ⟨L, hL⟩ : ∃ L, l.drop j = L := ⟨_, rfl⟩
      cases L with
      | nil =>
        have KM : Hid (j = min n.toNat l.length) := Lib.hid (by have := congrArg List.length hL; simp at this; omega)
        have HSN : Hid (shown tr = []) := Lib.hid (HQ.out.no hL)
        clear hL
        have kM0 := cell_of_one HM.out
        go_wp2_with fail
        refine (qu_PopNo tr _ (HAt.out.below (HC.out.to wr (by simp)) rfl) HQ.out.sz HQ.out.keys HSN.out).mono ?_
        rintro e r1 ⟨rfl, hb⟩
        clear kM0
        replace HC := Lib.hid (HC.out.push hb)
        clear hb
        go_upto_region 4 with (fail)
        obtain ⟨c2, hc2⟩ : ∃ c, r1.heap.size = c := ⟨_, rfl⟩
        try rw [hc2]
        obtain ⟨r2, hr2⟩ : ∃ X, allocs r1 [.cells #[.pointer (pa tr)] 27, .cells #[.int .i64 0, .int .i64 0, .string ⟨#[]⟩, .int .i64 0, .int .i64 0, .string ⟨#[]⟩] 47] = X := ⟨_, rfl⟩
        rw [show (r1.alloc (.cells #[.pointer (pa tr)] 27)).alloc (.cells #[.int .i64 0, .int .i64 0, .string ⟨#[]⟩, .int .i64 0, .int .i64 0, .string ⟨#[]⟩] 47) = r2 from hr2]
        have hb : Below r1.heap.size r1 r2 := by rw [← hr2]; exact allocs_below _ _
        have Sc2 : Hid (r1.heap.size = c2) := Lib.hid hc2
        replace HC := Lib.hid (HC.out.push hb)
        clear hb hr2 hc2
        have kM0 := cell_of_one (boxStays HM.out (HC.out.to wr (by simp)))
        have kR0 := cell_of_one (boxStays HR.out (HC.out.to wr (by simp)))
        have fR0 := frozen_of_row _ (z + 1) 0 _ _ (boxStays HR.out (HC.out.to wr (by simp)))
        have XR := Lib.hid (boxStays HR.out (HC.out.to wr (by simp)))
        have XA := Lib.hid (HAt.out.below (HC.out.to wr (by simp)) rfl)
        have XZ := Lib.hid ((HBZ.out.trans ((HC.out.to wr (by simp)).mono (by have := (Array.getElem?_eq_some_iff.1 HM.out).1; omega))).setCell (p := ⟨z + 1, 0, none⟩) (show z ≤ z + 1 by omega) (.pointer (pa tr)))
        have YA := Lib.hid (XA.out.setBox XR.out (by decide) 0 (.pointer (pa tr)))
        have YR := Lib.hid (Boxed.set (t := 27) (.pointer (pa tr)) XR.out)
        go_wp2_with fail
        have q := cell_of_one YR.out
        refine bodyPost_ret (v := .tuple #[.agg #[.pointer (pa tr)], .int .i64 (j : Int)]) (by simp [results, Try.results66, go_sem, q]) rfl ?_
        exact ⟨tr, j, KM.out, rfl, YA.out, HO.out, by rw [Sz.out]; exact XZ.out⟩
      | cons x L =>
        have HRG : Hid (Reg (x :: L) tr) := Lib.hid (by rw [← hL]; exact HQ.out.reg (by rw [hL]; simp))
        have HL1 : Hid (l.drop (j + 1) = L) := Lib.hid (by rw [← List.drop_drop, hL]; rfl)
        have HLL : Hid (L.length < 100000 ∧ j + 1 ≤ l.length) := Lib.hid (by have := congrArg List.length hL; simp at this; have := HZ.out; omega)
        clear hL
        have kM0 := cell_of_one HM.out
        go_wp2_with fail
        refine (qu_Pop x L tr _ (HAt.out.below (HC.out.to wr (by simp)) rfl) HRG.out HLL.out.1).mono ?_
        rintro e r1 ⟨m, rfl, hm, hr, hb⟩
        clear kM0
        replace HC := Lib.hid (HC.out.push hb)
        clear hb
        have RM := Lib.hid hr
        have TM := Lib.hid hm
        clear hr hm
        go_upto_region 4 with (fail)
        obtain ⟨c2, hc2⟩ : ∃ c, r1.heap.size = c := ⟨_, rfl⟩
        try rw [hc2]
        obtain ⟨r2, hr2⟩ : ∃ X, allocs r1 [.cells #[.pointer (pa m)] 27, .cells #[.int .i64 x.1.g, .int .i64 x.1.r, .string x.1.l, .int .i64 x.1.n, .int .i64 x.1.i, .string x.2] 47] = X := ⟨_, rfl⟩
        rw [show (r1.alloc (.cells #[.pointer (pa m)] 27)).alloc (.cells #[.int .i64 x.1.g, .int .i64 x.1.r, .string x.1.l, .int .i64 x.1.n, .int .i64 x.1.i, .string x.2] 47) = r2 from hr2]
        have hb : Below r1.heap.size r1 r2 := by rw [← hr2]; exact allocs_below _ _
        have HN : Hid (r2.heap[c2]? = some (.cells #[.pointer (pa m)] 27 (0, 0))) := Lib.hid (by have := allocs_get [.cells #[.pointer (pa m)] 27, .cells #[.int .i64 x.1.g, .int .i64 x.1.r, .string x.1.l, .int .i64 x.1.n, .int .i64 x.1.i, .string x.2] 47] r1 0 _ rfl; rw [hr2, hc2] at this; exact this)
        have Sc2 : Hid (r1.heap.size = c2) := Lib.hid hc2
        replace HC := Lib.hid (HC.out.push hb)
        clear hb hr2 hc2
        have kN0 := cell_of_one HN.out
        have kM0 := cell_of_one (boxStays HM.out (HC.out.to wr (by simp)))
        have fM0 := frozen_of_row _ (z) 0 _ _ (boxStays HM.out (HC.out.to wr (by simp)))
        have XM := Lib.hid (boxStays HM.out (HC.out.to wr (by simp)))
        have XR := Lib.hid (boxStays HR.out (HC.out.to wr (by simp)))
        have XA := Lib.hid (TM.out.below (HC.out.to r1 (by simp)) rfl)
        have XZ := Lib.hid ((HBZ.out.trans ((HC.out.to wr (by simp)).mono (by have := (Array.getElem?_eq_some_iff.1 HM.out).1; omega))).setCell (p := ⟨z, 0, none⟩) (show z ≤ z by omega) (.pointer (pa m)))
        have YA := Lib.hid (XA.out.setBox XM.out (by decide) 0 (.pointer (pa m)))
        have YM := Lib.hid (Boxed.set (t := 27) (.pointer (pa m)) XM.out)
        have YR := Lib.hid ((Below.heap_setCell r2 ⟨z, 0, none⟩ (Value.pointer (pa m)) (z + 1) (by simp)).trans XR.out)
        go_wp2_with fail
        go_roundw
        case rel => exact ⟨j + 1, m, by go_num, HLL.out.2, Lib.hid (.inl (by omega)), Lib.hid (by rw [HL1.out]; exact RM.out.qs (by have := HLL.out.1; omega)), Lib.hid ⟨fun h => absurd h (by omega), fun _ => by rw [HL1.out]; exact RM.out⟩, YA, YM, YR, XZ⟩
        case measure => simp [intOf]; have := HLL.out.2; omega
    ·
      have KM : Hid (j = min n.toNat l.length) := Lib.hid (by have := HJ.out; omega)
      have kM0 := cell_of_one HM.out
      have kR0 := cell_of_one HR.out
      have fR0 := frozen_of_row _ (z + 1) 0 _ _ HR.out
      have XR := Lib.hid (boxStays HR.out (HC.out.to wr (by simp)))
      have XA := Lib.hid (HAt.out.below (HC.out.to wr (by simp)) rfl)
      have XZ := Lib.hid ((HBZ.out.trans ((HC.out.to wr (by simp)).mono (by have := (Array.getElem?_eq_some_iff.1 HM.out).1; omega))).setCell (p := ⟨z + 1, 0, none⟩) (show z ≤ z + 1 by omega) (.pointer (pa tr)))
      have YA := Lib.hid (XA.out.setBox XR.out (by decide) 0 (.pointer (pa tr)))
      have YR := Lib.hid (Boxed.set (t := 27) (.pointer (pa tr)) XR.out)
      go_wp2_with fail
      have q := cell_of_one YR.out
      refine bodyPost_ret (v := .tuple #[.agg #[.pointer (pa tr)], .int .i64 (j : Int)]) (by simp [results, Try.results66, go_sem, q]) rfl ?_
      exact ⟨tr, j, KM.out, rfl, YA.out, HO.out, by rw [Sz.out]; exact XZ.out⟩
end Go.Proofs.Ytnpiepimajippaa
namespace Go.Proofs.Ytnpiepimajippaa
open Go.RowKit
section
variable {P : Program} {ops : Array Oper} {Q : Exit → Act → World → Prop} {id : Nat} {base : Array Value} {df : List Deferred} {slots : List Nat} {W0 : World}
theorem getD_some {t : Array Value} {k : Nat} {b : Bool} (h : t[k]?.getD undef = .bool b) : t[k]? = some (.bool b) := by
  cases e : t[k]? with
  | none => rw [e] at h; cases h
  | some x => rw [e] at h; exact congrArg some h
theorem ext_val (x : Value) (ix : Nat) : (∃ v, Instr.extract x ix = pure v) ∨ (∃ s, Instr.extract x ix = stuck s) := by
  unfold Instr.extract
  split
  · split
    · exact .inl ⟨_, rfl⟩
    · exact .inr ⟨_, rfl⟩
  · exact .inr ⟨_, rfl⟩
theorem wpOp_ext {i : Nat} {o : Oper} {t : Operand} {ix : Nat} (ho : ops[i]? = some o) (hg : o.guard = none) (hop : o.op = .extract t ix) {K : Act → World → Prop} {a : Act} {w : World} (h : wpOp P ops Q i K a w) :
    ∃ v, K (a.put (dstN ops i) v) w ∧ ∀ (K' : Act → World → Prop) (w2 : World), K' (a.put (dstN ops i) v) w2 → wpOp P ops Q i K' a w2 := by
  have hd : dstN ops i = o.dst := by unfold dstN; rw [ho]; rfl
  rw [hd]
  unfold wpOp at h ⊢
  rw [ho] at h ⊢
  simp only [wanted_none hg, if_true] at h ⊢
  rcases ext_val (a.eval t) ix with ⟨v, hv⟩ | ⟨s, hs⟩
  · have he : execOp a.eval o = pure (.value v) := by
      unfold execOp
      simp [hop, hv]
    refine ⟨v, ?_, fun K' w2 hK' => .inl ?_⟩
    · rcases h with h | ⟨h1, _⟩
      · unfold Oper.wp at h; rw [he] at h; exact h
      · unfold Oper.asks at h1
        rw [he] at h1
        have h2 : noRoomEvent ∈ (#[] : Array _) := h1.1
        cases (Array.not_mem_empty _ h2)
    · unfold Oper.wp; rw [he]; exact hK'
  · exfalso
    have he : execOp a.eval o = (stuck s : Sem Next) := by
      unfold execOp
      simp [hop, hs]
      rfl
    rcases h with h | ⟨h1, _⟩
    · unfold Oper.wp at h; rw [he] at h; exact h
    · unfold Oper.asks at h1
      rw [he] at h1
      have h2 : noRoomEvent ∈ (#[] : Array _) := h1.1
      cases (Array.not_mem_empty _ h2)
def freeB (ops : Array Oper) (i : Nat) : Bool := copyB ops i || match ops[i]? with
  | some o => o.guard.isNone && (match o.op with
    | .extract _ _ => true
    | _ => false)
  | none => false
theorem wpOp_free {i : Nat} (hf : freeB ops i = true) {K : Act → World → Prop} {a : Act} {w : World} (h : wpOp P ops Q i K a w) :
    ∃ v, K (a.put (dstN ops i) v) w ∧ ∀ (K' : Act → World → Prop) (w2 : World), K' (a.put (dstN ops i) v) w2 → wpOp P ops Q i K' a w2 := by
  unfold freeB at hf
  rw [Bool.or_eq_true] at hf
  rcases hf with hf | hf
  · obtain ⟨x, hx⟩ := wpOp_copy (P := P) (Q := Q) hf
    exact ⟨a.eval x, (hx _ _ _).1 h, fun K' w2 hK' => (hx _ _ _).2 hK'⟩
  · cases ho : ops[i]? with
    | none => rw [ho] at hf; cases hf
    | some o =>
      rw [ho] at hf
      simp only [Bool.and_eq_true] at hf
      have hg : o.guard = none := by simpa using hf.1
      have h2 := hf.2
      split at h2
      · rename_i t ix hop
        exact wpOp_ext ho hg hop h
      · cases h2
def blkOf : Value → Nat
  | .pointer (some a) => a.block
  | _ => 0
def ownOK (ops : Array Oper) (s x ix y iy : Nat) : Bool := decide (s < ops.size) && (dstN ops s == none) && (dstN ops ix == some x) && (dstN ops iy == some y) && needsN ops 6 s ix && needsN ops 6 s iy
def freeOK1 (ops : Array Oper) (s : Nat) : Bool := (List.range ops.size).all fun i => i == s || (freeB ops i || needsN ops 6 s i)
theorem setRow_one {w : World} {b : Nat} {u v : Value} {t : TypeId} {fr : Nat × Nat} (h : w.heap[b]? = some (.cells #[u] t fr)) : w.setRow b #[v] = w.setCell ⟨b, 0, none⟩ v := by
  unfold World.setRow World.setCell
  simp only [World.mk.injEq, true_and, and_true]
  apply Array.ext_getElem?
  intro k
  simp only [Array.getElem?_modify]
  by_cases e : b = k
  · subst e
    simp [h]
  · simp [e]
theorem relG_own {gs : List Pr} (s x ix y iy : Nat) (ps psS : List (Nat × Nat × Nat)) (hm : P.follows .mixedOrders = true) (hl : gs.length = ops.size) (hps : finOK ops ps = true) (hpsS : stoDeps ops [s] psS = true)
    (hS : ownOK ops s x ix y iy = true) (hfr : freeOK1 ops s = true)
    (hst : ∀ f w, Below W0.heap.size W0 w → FinF gs f w psS → ∀ K : Act → World → Prop, K { tmps := regT base slots f, defers := df } (w.setRow (blkOf (f x)) (f y).cells) → wpOp P ops Q s K { tmps := regT base slots f, defers := df } w)
    (h : ∀ f w, Below W0.heap.size W0 w → FinF gs f w ps → Q .normal { tmps := regT base slots f, defers := df } (w.setRow (blkOf (f x)) (f y).cells)) : RelG P ops Q id base df slots W0 [s] gs := by
  intro hup hsl hinj hsz hall
  have hpS : s < ops.size ∧ dstN ops s = none ∧ dstN ops ix = some x ∧ dstN ops iy = some y ∧ needsN ops 6 s ix = true ∧ needsN ops 6 s iy = true := by
    simp only [ownOK, Bool.and_eq_true, decide_eq_true_eq, beq_iff_eq] at hS
    exact ⟨hS.1.1.1.1.1, hS.1.1.1.1.2, hS.1.1.1.2, hS.1.1.2, hS.1.2, hS.2⟩
  obtain ⟨p1, p2, p3, p4, p5, p6⟩ := hpS
  have hfinS : ∀ (L : Nat → Bool) f w, ClosedL ops L → (∀ i d, dstN ops i = some d → L i = true → lkG gs i (f d) w) → (∀ k ∈ preOf ops s, L k = true) → FinF gs f w psS := by
    intro L f w hc hL hpre
    clear h hst
    induction psS with
    | nil => trivial
    | cons q psS ih =>
      simp only [stoDeps, List.all_cons, Bool.and_eq_true] at hpsS
      obtain ⟨⟨⟨h1, h2⟩, h4⟩, h3⟩ := hpsS
      have hj' : q.1 + q.2.2 + 1 = ops.size := by simpa using h1
      have h5 := hL q.1 q.2.1 (by simpa using h2) (needsN_out hc _ _ _ h4.1 hpre)
      unfold lkG at h5
      rw [if_pos (by omega), show gs.length - 1 - q.1 = q.2.2 by omega] at h5
      exact ⟨⟨f q.2.1, rfl, h5⟩, ih h3⟩
  refine region_inv (fun L a w => ClosedL ops L ∧ ∃ f w', a = { tmps := regT base slots f, defers := df } ∧ Below W0.heap.size W0 w' ∧ (∀ i d, dstN ops i = some d → L i = true → lkG gs i (f d) w') ∧ w = if L s = true then w'.setRow (blkOf (f x)) (f y).cells else w') hm hup
    ⟨(fun _ h => by cases h), fun k => base.getD k undef, W0.drew, by rw [regT_id], (Below.refl _ _).drew, fun _ _ _ h => (by cases h), by rw [if_neg (by simp)]⟩ ?_ ?_
  · rintro i hi L a w ⟨hc, f, w', rfl, hW, hL, rfl⟩ hLi hpre
    have hc' := closedL_next hc hpre
    by_cases his : i = s
    · subst his
      rw [if_neg (by rw [hLi]; simp)]
      refine hst f w' hW (hfinS L f w' hc hL hpre) _ ⟨hc', f, w', rfl, hW, fun j d e hj => ?_, by rw [if_pos (by simp)]⟩
      have hne : j ≠ i := fun e' => by rw [e', p2] at e; cases e
      exact hL j d e (by simpa [hne] using hj)
    · have hso : [s].contains i = false := by simpa using his
      obtain ⟨h1, h2⟩ := hall i (by omega) hso
      have hLs : (s == i || L s) = L s := by
        have : (s == i) = false := by simpa using fun e => his (Eq.symm e)
        rw [this]; rfl
      have hkeep : ∀ v w'', lkG gs i v w'' → Below w'.heap.size w' w'' → ∃ f1, ({ tmps := regT base slots f, defers := df : Act }.put (dstN ops i) v) = { tmps := regT base slots f1, defers := df } ∧ Below W0.heap.size W0 w'' ∧ (∀ j d, dstN ops j = some d → (j == i || L j) = true → lkG gs j (f1 d) w'') ∧ (L s = true → f1 x = f x ∧ f1 y = f y) := by
        intro v w'' hg hb
        have hW' := hW.trans (hb.mono hW.size)
        cases hdi : dstN ops i with
        | none =>
          refine ⟨f, rfl, hW', fun j d e hj => ?_, fun _ => ⟨rfl, rfl⟩⟩
          have hne : j ≠ i := fun e' => by rw [e', hdi] at e; cases e
          have hLj : L j = true := by simpa [hne] using hj
          have hjs : [s].contains j = false := by
            have : j ≠ s := fun e' => by rw [e', p2] at e; cases e
            simpa using this
          exact (hall j (by have := dstN_lt e; omega) hjs).1 _ _ _ (hL j d e hLj) hb
        | some di =>
          refine ⟨updF f di v, ?_, hW', fun j d e hj => ?_, fun hls => ?_⟩
          · show ({ tmps := (regT base slots f).setIfInBounds di v, defers := df } : Act) = _
            rw [regT_put _ _ _ _ _ (hsl i di hdi)]
          · unfold updF
            by_cases hne : j = i
            · subst hne
              rw [hdi] at e
              cases e
              rw [if_pos rfl]
              exact hg
            · have h3 : d ≠ di := fun e' => hne (hinj j i d e (e' ▸ hdi))
              rw [if_neg h3]
              have hLj : L j = true := by simpa [hne] using hj
              have hjs : [s].contains j = false := by
                have : j ≠ s := fun e' => by rw [e', p2] at e; cases e
                simpa using this
              exact (hall j (by have := dstN_lt e; omega) hjs).1 _ _ _ (hL j d e hLj) hb
          · have hix : L ix = true := needsN_out hc _ _ _ p5 (hc s hls)
            have hiy : L iy = true := needsN_out hc _ _ _ p6 (hc s hls)
            unfold updF
            constructor
            · rw [if_neg]
              intro e
              have := hinj ix i x p3 (e ▸ hdi)
              rw [this, hLi] at hix
              cases hix
            · rw [if_neg]
              intro e
              have := hinj iy i y p4 (e ▸ hdi)
              rw [this, hLi] at hiy
              cases hiy
      cases hls : L s with
      | false =>
        rw [if_neg (by simp)]
        refine h2 f w' hW (fun j hj d e => hL j d e (hpre j hj)) _ fun v w'' hg hb => ?_
        obtain ⟨f1, k2, k3, k4, _⟩ := hkeep v w'' hg hb
        exact ⟨hc', f1, w'', k2, k3, k4, by show w'' = if (s == i || L s) = true then w''.setRow (blkOf (f1 x)) (f1 y).cells else w''; rw [hLs, hls, if_neg (by simp)]⟩
      | true =>
        rw [if_pos rfl]
        have hf := List.all_eq_true.1 hfr i (List.mem_range.2 hi)
        simp only [Bool.or_eq_true] at hf
        have hcp : freeB ops i = true := by
          rcases hf with hf | hf | hf
          · exact absurd (by simpa using hf) his
          · exact hf
          · have := needsN_out hc _ _ _ hf (hc s hls)
            rw [hLi] at this
            cases this
        have h3 := h2 f w' hW (fun j hj d e => hL j d e (hpre j hj)) (fun a1 w1 => ∃ v, a1 = { tmps := regT base slots f, defers := df : Act }.put (dstN ops i) v ∧ lkG gs i v w1 ∧ Below w'.heap.size w' w1) (fun v w'' hg hb => ⟨v, rfl, hg, hb⟩)
        obtain ⟨v0, ⟨v, e1, e2, e3⟩, hgo⟩ := wpOp_free hcp h3
        refine hgo _ _ ?_
        rw [e1]
        obtain ⟨f1, k2, k3, k4, k5⟩ := hkeep v w' e2 e3
        obtain ⟨q1, q2⟩ := k5 hls
        exact ⟨hc', f1, w', k2, k3, k4, by show w'.setRow (blkOf (f x)) (f y).cells = if (s == i || L s) = true then w'.setRow (blkOf (f1 x)) (f1 y).cells else w'; rw [hLs, hls, if_pos rfl, q1, q2]⟩
  · rintro L a w ⟨hc, f, w', rfl, hW, hL, rfl⟩ hLall
    rw [if_pos (hLall _ p1)]
    exact h f w' hW (finF_of hl (fun j hj d e => hL j d e (hLall j hj)) hps)
theorem sto_own {i : Nat} {o : Oper} {f : Nat → Value} {w2 : World} {K : Act → World → Prop} (ty : TypeId) (x y : Nat) (b : Nat) (cells : Array Value) (t : TypeId) (old : Array Value) (ho : ops[i]? = some o) (hg : o.guard = none) (hd : o.dst = none) (hop : o.op = .store ty (.tmp x) (.tmp y))
    (hxs : slots.contains x = true) (hxz : decide (x < base.size) = true) (hx : f x = .pointer (some ⟨b, 0, none⟩)) (hys : slots.contains y = true) (hyz : decide (y < base.size) = true) (hy : f y = .agg cells) (hgr : w2.heap[b]? = some (.cells old t (0, 0))) (hi : (P.info? ty).map (·.size) = some cells.size) (hold : old.size = cells.size) (h1 : cells.all (·.oneCell') = true)
    (hK : K { tmps := regT base slots f, defers := df } (w2.setRow (blkOf (f x)) (f y).cells)) : wpOp P ops Q i K { tmps := regT base slots f, defers := df } w2 := by
  unfold wpOp
  rw [ho]
  simp only [wanted_none hg, if_true]
  have hx' : (regT base slots f).getD x undef = .pointer (some ⟨b, 0, none⟩) := (regT_in (by simpa using hxs) (of_decide_eq_true hxz)).trans hx
  have hy' : (regT base slots f).getD y undef = .agg cells := (regT_in (by simpa using hys) (of_decide_eq_true hyz)).trans hy
  refine .inl (wp_store_row ty (.tmp x) (.tmp y) hop b cells hx' hy' t old hgr hi hold h1 ?_)
  rw [hd]
  rw [hx, hy] at hK
  exact hK
end
end Go.Proofs.Ytnpiepimajippaa
