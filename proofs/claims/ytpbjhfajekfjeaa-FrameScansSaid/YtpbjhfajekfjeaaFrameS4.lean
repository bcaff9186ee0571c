
/- Walks: over: a going over tells these frames. -/
import Derived.Test.YtpbjhfajekfjeaaFrameS3
import Derived.Test.YtpbjhfajekfjeaaRound
import Derived.Test.YtpbjhfajekfjeaaPairs2
import Derived.RangeFuncNested
import Derived.RangeFuncBound
import Derived.RangeFuncCalls
import Derived.RangeFuncLeaves
import Derived.Shelf.Abstract
import Derived.Shelf.RegionOpen
import Derived.WalkKit
import Derived.OwnWalkIn
import Derived.TacticsInMore
import Derived.LoopNIn
import Derived.LoopIn
namespace Go.Proofs.Ytpbjhfajekfjeaa
open Go.RowKit Frm
attribute [local go_sem] Oper.semAt_some
theorem flat2 : ∀ (xs : List FR) (i : Nat) (h : i < xs.length), (xs.flatMap fun x => [Value.int .i64 (x.2.1 : Int), x.2.2.1])[i * 2]? = some (.int .i64 ((xs[i]).2.1 : Int)) ∧ (xs.flatMap fun x => [Value.int .i64 (x.2.1 : Int), x.2.2.1])[i * 2 + 1]? = some (xs[i]).2.2.1
  | [], i, h => by simp at h
  | x :: xs, 0, h => by simp
  | x :: xs, i + 1, h => by
    have h1 := flat2 xs i (by simpa using h)
    rw [show (i + 1) * 2 = i * 2 + 1 + 1 by omega, List.flatMap_cons]
    simpa using h1
/-- Between two rounds of over. -/
def OverI (s : Nat) (w : World) (wv : Value) (leave : Int) (b : Bool) (pre : List FR) (W : World) : Prop :=
  Boxed W s 24 wv ∧ Boxed W (s + 1) 3 (.int .i64 leave) ∧ Boxed W (s + 2) 4 (.bool b) ∧ Boxed W (s + 3) 3 (.int .i64 (pre.length : Int)) ∧ Boxed W (s + 4) 3 (.int .i64 (endFR pre : Int)) ∧ Below s w W
theorem overI_own (s : Nat) (w : World) (wv : Value) (leave : Int) (b : Bool) (B : Nat) (hs : s ≤ w.heap.size) (hB : s ≤ B) : OwnFrom B (OverI s w wv leave b) := by
  rintro pre A A' row ⟨h1, h2, h3, h4, h5, h6⟩ hg hr
  have hr' : ∀ r, row = some r → ∃ o : Obj, A.heap[r]? = some o ∧ o.isCells = false := fun r e => (hr r e).2
  exact ⟨heap_kept hg hr' h1, heap_kept hg hr' h2, heap_kept hg hr' h3, heap_kept hg hr' h4, heap_kept hg hr' h5, ownFrom_below (β := Unit) hs hB () A A' row h6 hg hr⟩
theorem grown_trans {A B C : World} {g n c : Nat} (h : A.grownBy B (Value.slice (some ⟨g, 0, none⟩) n c).ownBlock) (k : B.grownBy C (some g)) : A.grownBy C (Value.slice (some ⟨g, 0, none⟩) n c).ownBlock :=
  ⟨k.os.trans h.os, k.tape.trans h.tape, k.output.trans h.output, Nat.le_trans h.size k.size, fun i hi he => (k.block i (Nat.lt_of_lt_of_le hi h.size) he).trans (h.block i hi he)⟩
/-- A store into a box of one's own leaves what a round must leave. -/
theorem keepT_box {s M : Nat} {A : World} {b : Nat} (hb : s ≤ b) (hM : b < M) (v : Value) : KeepT M (fun k => k < s) A (A.setCell ⟨b, 0, none⟩ v) :=
  ⟨⟨rfl, rfl, rfl, (grownBy_setCell' A b v).size, fun k hk => Below.heap_setCell _ _ _ _ (by simp; omega)⟩, fun k o hk ho _ => (Below.heap_setCell _ _ _ _ (by simp; omega)).trans ho⟩
set_option maxRecDepth 100000 in
set_option maxHeartbeats 2000000 in
theorem over_true (l : List UInt8) (hl : l.length ≤ 1048576) (X : Nat) (va : Option Addr) (vc : Nat) (wa : Option Addr) (wc : Nat) (xs : List FR) (Bw : Nat) (leave : Int) (w : World)
    (hX : Boxed w X 22 (.slice va l.length vc)) (hb : BytesAt w va l) (hvc : l.length ≤ vc) (hxs : xs.map plainFR = (scanF (l.length + 1) l 0).1) (hF : FrsAt w Bw (.slice wa xs.length wc) xs) :
    Calls Try.prog 12 #[.func (.func 19) #[] #[.pointer (some ⟨X, 0, none⟩)], .slice wa xs.length wc, .int .i64 leave] w fun e w' => e = .returned (.bool true) ∧ Below w.heap.size w w' := by
  obtain ⟨R, hR⟩ : ∃ R, scanF (l.length + 1) l 0 = R := ⟨_, rfl⟩
  rw [hR] at hxs
  have HR := Lib.hid hR
  clear hR
  refine (callsIn_wide (n := 6)).1 ?_
  refine callsIn_of_wp_marks Try.func12 rfl trivial ?_ rfl
  simp only [Try.ntmps12, List.size_toArray, List.length_cons, List.length_nil, Nat.reduceAdd, Nat.reduceSub, Array.replicate_succ, Array.replicate_zero, List.push_toArray, List.append_toArray, List.nil_append, List.cons_append]
  gi_wp2
  obtain ⟨s, hs⟩ : ∃ s, s = w.heap.size := ⟨_, rfl⟩
  obtain ⟨W5, hW5⟩ : ∃ W5, ((((w.alloc (.cells #[.slice wa xs.length wc] 24)).alloc (.cells #[.int .i64 leave] 3)).alloc (.cells #[.bool false] 4)).alloc (.cells #[.int .i64 0] 3)).alloc (.cells #[.int .i64 0] 3) = W5 := ⟨_, rfl⟩
  have z5 : W5.heap.size = s + 5 := by rw [← hW5, hs]; simp
  have c1 : Boxed W5 s 24 (.slice wa xs.length wc) := by rw [← hW5, hs]; exact ((((Boxed.new w _ _).alloc _).alloc _).alloc _).alloc _
  have c2 : Boxed W5 (s + 1) 3 (.int .i64 leave) := by
    rw [← hW5, hs]
    have h1 := Boxed.new (w.alloc (.cells #[.slice wa xs.length wc] 24)) 3 (.int .i64 leave)
    rw [World.size_alloc] at h1
    exact ((h1.alloc _).alloc _).alloc _
  have c3 : Boxed W5 (s + 2) 4 (.bool false) := by
    rw [← hW5, hs]
    have h1 := Boxed.new ((w.alloc (.cells #[.slice wa xs.length wc] 24)).alloc (.cells #[.int .i64 leave] 3)) 4 (.bool false)
    rw [World.size_alloc, World.size_alloc] at h1
    exact (h1.alloc _).alloc _
  have c4 : Boxed W5 (s + 3) 3 (.int .i64 0) := by
    rw [← hW5, hs]
    have h1 := Boxed.new (((w.alloc (.cells #[.slice wa xs.length wc] 24)).alloc (.cells #[.int .i64 leave] 3)).alloc (.cells #[.bool false] 4)) 3 (.int .i64 0)
    rw [World.size_alloc, World.size_alloc, World.size_alloc] at h1
    exact h1.alloc _
  have c5 : Boxed W5 (s + 4) 3 (.int .i64 0) := by
    rw [← hW5, hs]
    have h1 := Boxed.new ((((w.alloc (.cells #[.slice wa xs.length wc] 24)).alloc (.cells #[.int .i64 leave] 3)).alloc (.cells #[.bool false] 4)).alloc (.cells #[.int .i64 0] 3)) 3 (.int .i64 0)
    rw [World.size_alloc, World.size_alloc, World.size_alloc, World.size_alloc] at h1
    exact h1
  have hb5 : Below s w W5 := by rw [← hW5, hs]; exact (((((Below.refl _ w).alloc (Nat.le_refl _) _).alloc (by simp) _).alloc (by simp; omega) _).alloc (by simp; omega) _).alloc (by simp; omega) _
  rw [hW5, ← hs, show s + 1 + 1 = s + 2 from rfl, show s + 2 + 1 = s + 3 from rfl, show s + 3 + 1 = s + 4 from rfl]
  have HS := Lib.hid hs
  have hX5 : Boxed W5 X 22 (.slice va l.length vc) := (hb5.block X (by rw [hs]; exact hX.lt)).trans hX
  clear hW5 hs
  have HIter := all_iter 5 (by omega) l va vc X W5 W5.heap.size (fun k => k < s) hX5 (hb.below hb5 HS.out) hvc hl (Nat.le_refl _) (by
    intro hne ad hadr
    obtain ⟨b, off, e1, c⟩ := hb 0 (List.length_pos_iff.2 hne)
    rw [hadr] at e1
    have h1 := block_lt_of_cell c
    have h2 := HS.out
    cases e1
    simpa [h2] using h1)
  have HPL := Lib.hid (scanF_place (l.length + 1) l 0)
  rw [HR.out] at HIter HPL
  refine range_law2 (n := 6) rfl (enters_of Try.func19 (by kernel_rfl) rfl) HIter (by omega) KeepT.trans ?_ (fun x => rfl) (fun pre => newFR2_own _ _ _ pre) ?_ (OverI s w (.slice wa xs.length wc) leave false) (fun c pre W => c = .ret ∧ Boxed W (s + 2) 4 (.bool true) ∧ Below s w W) (fun ys W' => ys.map plainFR = R.1 ∧ OverI s w (.slice wa xs.length wc) leave false ys W') (overI_own _ _ _ _ _ _ (by have := HS.out; omega) (by omega)) ?_ ?_ ?_ ⟨c1, c2, c3, c4, c5, hb5⟩
    (fun pre x a' W => OverI s w (.slice wa xs.length wc) leave false pre W ∧ newFR2 R W5.heap.size pre x W ∧ ∃ bx, W5.heap.size ≤ bx ∧ W.heap[bx]? = some (.cells #[.int .i64 (x.2.1 : Int), x.2.2.1] 36 (0, 0)) ∧ a' = { tmps := #[.func (.func 19) #[] #[.pointer (some ⟨X, 0, none⟩)], .slice wa xs.length wc, .int .i64 leave, undef, .pointer (some ⟨s, 0, none⟩), .pointer (some ⟨s + 1, 0, none⟩), .pointer (some ⟨s + 2, 0, none⟩), .pointer (some ⟨s + 3, 0, none⟩), .pointer (some ⟨s + 4, 0, none⟩), .int .i64 (x.1 : Int), .pointer (some ⟨bx, 0, none⟩), undef, .func (.func 19) #[] #[.pointer (some ⟨X, 0, none⟩)], .int .i64 (x.1 : Int), .agg #[.int .i64 (x.2.1 : Int), x.2.2.1], undef, undef, undef, undef, undef, undef, undef, undef, undef, undef, undef, undef, undef, undef, undef, undef, undef, undef, undef, undef, undef, undef, undef, undef, undef, undef, undef, undef, undef, undef, undef, undef, undef, undef, undef, undef, undef, undef, undef, undef, undef, undef, undef, undef], defers := [] }) ?_ ?assign ?body ?done ?stop
  · intro W o o' _ _
    exact ⟨KeepS.put (N := s) W _ o' (by omega) (fun k hk => hk), fun k o2 hk ho _ => (World.putObj_heap_other (by omega)).trans ho⟩
  · rintro W1 hW1 ys A B ⟨_, hbl⟩ k o hk ho _
    exact (hbl.block k (by omega)).trans ho
  · rintro c pre A A' row ⟨h1, h2, h3⟩ hg hr
    exact ⟨h1, heap_kept hg (fun r e => (hr r e).2) h2, ownFrom_below (β := Unit) (by have := HS.out; omega) (by omega) () A A' row h3 hg hr⟩
  · rintro ys A A' row ⟨h1, h2⟩ hg hr
    exact ⟨h1, overI_own _ _ _ _ _ _ (by have := HS.out; omega) (by omega) ys A A' row h2 hg hr⟩
  · rintro W1 hW1 ys A B ⟨h1, h2, h3, h4, h5, h6⟩ ⟨hm, hbl⟩
    exact ⟨hm, (hbl.block _ (by omega)).trans h1, (hbl.block _ (by omega)).trans h2, (hbl.block _ (by omega)).trans h3, (hbl.block _ (by omega)).trans h4, (hbl.block _ (by omega)).trans h5, h6.trans (hbl.mono (by omega))⟩
  · rintro x a' pre A A' row ⟨h1, h2, bx, h0, h3, h4⟩ hg hr
    exact ⟨overI_own _ _ _ _ _ _ (by have := HS.out; omega) (by omega) pre A A' row h1 hg hr, newFR2_own _ _ _ pre x A A' row h2 hg hr, bx, h0, heap_kept hg (fun r e => (hr r e).2) h3, h4⟩
  case assign =>
    rintro l1 pre ⟨at0, k, v, body⟩ W1 K hi hx hsz hK
    obtain ⟨⟨hx0, B, hB, hown, hlt⟩, hfirst⟩ := hx
    dsimp only at hx0 hown hlt
    obtain ⟨va1, vc1, rfl⟩ := own_shape hown
    generalize hvn : body.length = vn at *
    have HVN := Lib.hid hvn
    clear hvn
    have HI := Lib.hid hi
    have HX : Hid (newFR2 R W5.heap.size pre (at0, k, .slice va1 vn vc1, body) W1) := Lib.hid ⟨⟨by dsimp only; rw [HVN.out]; exact hx0, B, hB, own_len2 hown HVN.out, hlt⟩, hfirst⟩
    clear hi hown hlt hx0 hfirst
    simp only [encFR, List.zip_toArray, List.zip_cons_cons, List.zip_nil_right, List.foldl_toArray, List.foldl_cons, List.foldl_nil]
    gi_wp2
    refine hK _ _ ((KeepsOthers.alloc _ _).from _) ⟨KeepS.below ((Below.refl _ W1).alloc (Nat.le_refl _) _) (fun k hk => by omega), fun k o hk ho _ => (Below.heap_alloc _ _ _ (Array.getElem?_eq_some_iff.1 ho).1).trans ho⟩ (by simp; omega) ⟨(overI_own _ _ _ _ _ s (by have := HS.out; omega) (Nat.le_refl _)).alloc _ HI.out, (newFR2_own _ _ 0 pre).alloc _ HX.out, W1.heap.size, hsz, World.alloc_heap_new W1 _, rfl⟩
  case body =>
    rintro l1 pre ⟨at0, k, v, body⟩ a' W1 ⟨hI, hX1, bx, hbz, hbx, rfl⟩ hsz
    dsimp only at hbx
    dsimp only
    have HX1 := Lib.hid hX1
    obtain ⟨⟨hx0, B, hB, hown, hlt⟩, hfirst⟩ := hX1
    dsimp only at hx0
    obtain ⟨va1, vc1, hv⟩ := own_shape hown
    dsimp only at hv
    subst hv
    have HOW := Lib.hid hown
    have HI := Lib.hid hI
    -- the frame that is wanted
    obtain ⟨q, hq⟩ := hfirst
    rw [← hxs] at hq
    have hpl : pre.length < xs.length := by have := congrArg List.length hq; simp at this; omega
    have hnth : plainFR xs[pre.length] = (at0, k, body) := by
      have h1 : (xs.map plainFR)[pre.length]? = some (at0, k, body) := by rw [← hq]; simp [plainFR]
      simpa [hpl] using h1
    have hplace : at0 = endFR pre := by
      have h1 := HPL.out (pre.map plainFR) (at0, k, body) q (by rw [← hxs, ← hq]; simp [plainFR])
      rw [endFR_plain]; exact h1
    obtain ⟨⟨p9, k9, v9, b9⟩, hx9⟩ : ∃ y, xs[pre.length] = y := ⟨_, rfl⟩
    rw [hx9] at hnth
    simp only [plainFR, Prod.mk.injEq] at hnth
    obtain ⟨rfl, rfl, rfl⟩ := hnth
    have HF9 := Lib.hid (hF.body (p9, k9, v9, b9) (by rw [← hx9]; exact List.getElem_mem hpl))
    obtain ⟨wa9, wc9, hv9⟩ := own_shape HF9.out
    dsimp only at hv9
    subst hv9
    obtain ⟨t0, t1⟩ := flat2 xs pre.length hpl
    rw [hx9] at t0 t1
    obtain ⟨gw, hgw, _, q0⟩ := own_cellN hF.row _ _ t0
    obtain ⟨gw', hgw', _, q1⟩ := own_cellN hF.row _ _ t1
    rw [hgw] at hgw'; cases hgw'
    subst hgw
    subst hplace
    have bW1 := HI.out.2.2.2.2.2
    have hgl := block_lt_of_cell q0
    have Q0 := Lib.hid ((bW1.cell (p := ⟨gw, pre.length * 2, none⟩) (by rw [HS.out]; exact hgl)).trans q0)
    have Q1 := Lib.hid ((bW1.cell (p := ⟨gw, pre.length * 2 + 1, none⟩) (by rw [HS.out]; exact hgl)).trans q1)
    have HB9 := Lib.hid ((own_bytes HF9.out).below bW1 HS.out)
    have HBX := Lib.hid hbx
    have HXL := Lib.hid hpl
    clear hown hlt hI hq q0 q1 t0 t1 bW1 hgl hbx
    have HC : Hid (Chain [W1] W1) := Lib.hid (Chain.one W1)
    have hpi : (pre.length : Int) < (xs.length : Int) := by omega
    have hnle : ¬ xs.length ≤ pre.length := by omega
    have hdle : decide (xs.length ≤ pre.length) = false := by simp; omega
    have hBF := Lib.hid (own_bytes HOW.out)
    gi_wp2
    refine wpIn_region_round (S := fun w' => Below W1.heap.size W1 w') (by kernel_rfl) (by kernel_rfl) (Below.refl _ _).drew (fun hS => ?_)
    refine wpAnyH_take (i := 0) (oi := ⟨some 15, _, _, _, _, _⟩) (v := ?_) rfl (by kernel_rfl) (by kernel_rfl) (by kernel_rfl) (fun _ _ _ h => h) (Or.inl ⟨by rfl, ?_⟩) hS ?_
    rotate_left 1
    · intro w' hB; have hd := (HC.out.to W1 (by simp)).trans (hB.mono (HC.out.to W1 (by simp)).size); obtain ⟨x0, x1⟩ := box2 (boxStays HBX.out hd); have e0 := cell_of_one (boxStays HI.out.1 hd); have e3 := cell_of_one (boxStays HI.out.2.2.2.1 hd); have e4 := cell_of_one (boxStays HI.out.2.2.2.2.1 hd); have q0 := (hd.cell (p := ⟨gw, pre.length * 2, none⟩) (block_lt_of_cell Q0.out)).trans Q0.out; have q1 := (hd.cell (p := ⟨gw, pre.length * 2 + 1, none⟩) (block_lt_of_cell Q1.out)).trans Q1.out; clear hd; have hnle := hnle; have hdle := hdle; (go_simp <;> with_reducible rfl)
    try simp only [Act.put, List.setIfInBounds_toArray, List.set_cons_zero, List.set_cons_succ]
    refine wpAnyH_take (i := 1) (oi := ⟨some 16, _, _, _, _, _⟩) (v := ?_) rfl (by kernel_rfl) (by kernel_rfl) (by kernel_rfl) (fun _ _ _ h => h) (Or.inl ⟨by rfl, ?_⟩) hS ?_
    rotate_left 1
    · intro w' hB; have hd := (HC.out.to W1 (by simp)).trans (hB.mono (HC.out.to W1 (by simp)).size); obtain ⟨x0, x1⟩ := box2 (boxStays HBX.out hd); have e0 := cell_of_one (boxStays HI.out.1 hd); have e3 := cell_of_one (boxStays HI.out.2.2.2.1 hd); have e4 := cell_of_one (boxStays HI.out.2.2.2.2.1 hd); have q0 := (hd.cell (p := ⟨gw, pre.length * 2, none⟩) (block_lt_of_cell Q0.out)).trans Q0.out; have q1 := (hd.cell (p := ⟨gw, pre.length * 2 + 1, none⟩) (block_lt_of_cell Q1.out)).trans Q1.out; clear hd; have hnle := hnle; have hdle := hdle; (go_simp <;> with_reducible rfl)
    try simp only [Act.put, List.setIfInBounds_toArray, List.set_cons_zero, List.set_cons_succ]
    refine wpAnyH_take (i := 2) (oi := ⟨some 17, _, _, _, _, _⟩) (v := ?_) rfl (by kernel_rfl) (by kernel_rfl) (by kernel_rfl) (fun _ _ _ h => h) (Or.inl ⟨by rfl, ?_⟩) hS ?_
    rotate_left 1
    · intro w' hB; have hd := (HC.out.to W1 (by simp)).trans (hB.mono (HC.out.to W1 (by simp)).size); obtain ⟨x0, x1⟩ := box2 (boxStays HBX.out hd); have e0 := cell_of_one (boxStays HI.out.1 hd); have e3 := cell_of_one (boxStays HI.out.2.2.2.1 hd); have e4 := cell_of_one (boxStays HI.out.2.2.2.2.1 hd); have q0 := (hd.cell (p := ⟨gw, pre.length * 2, none⟩) (block_lt_of_cell Q0.out)).trans Q0.out; have q1 := (hd.cell (p := ⟨gw, pre.length * 2 + 1, none⟩) (block_lt_of_cell Q1.out)).trans Q1.out; clear hd; have hnle := hnle; have hdle := hdle; (go_simp <;> with_reducible rfl)
    try simp only [Act.put, List.setIfInBounds_toArray, List.set_cons_zero, List.set_cons_succ]
    refine wpAnyH_take (i := 3) (oi := ⟨some 18, _, _, _, _, _⟩) (v := ?_) rfl (by kernel_rfl) (by kernel_rfl) (by kernel_rfl) (fun _ _ _ h => h) (Or.inl ⟨by rfl, ?_⟩) hS ?_
    rotate_left 1
    · intro w' hB; have hd := (HC.out.to W1 (by simp)).trans (hB.mono (HC.out.to W1 (by simp)).size); obtain ⟨x0, x1⟩ := box2 (boxStays HBX.out hd); have e0 := cell_of_one (boxStays HI.out.1 hd); have e3 := cell_of_one (boxStays HI.out.2.2.2.1 hd); have e4 := cell_of_one (boxStays HI.out.2.2.2.2.1 hd); have q0 := (hd.cell (p := ⟨gw, pre.length * 2, none⟩) (block_lt_of_cell Q0.out)).trans Q0.out; have q1 := (hd.cell (p := ⟨gw, pre.length * 2 + 1, none⟩) (block_lt_of_cell Q1.out)).trans Q1.out; clear hd; have hnle := hnle; have hdle := hdle; (go_simp <;> with_reducible rfl)
    try simp only [Act.put, List.setIfInBounds_toArray, List.set_cons_zero, List.set_cons_succ]
    refine wpAnyH_take (i := 4) (oi := ⟨some 19, _, _, _, _, _⟩) (v := ?_) rfl (by kernel_rfl) (by kernel_rfl) (by kernel_rfl) (fun _ _ _ h => h) (Or.inl ⟨by rfl, ?_⟩) hS ?_
    rotate_left 1
    · intro w' hB; have hd := (HC.out.to W1 (by simp)).trans (hB.mono (HC.out.to W1 (by simp)).size); obtain ⟨x0, x1⟩ := box2 (boxStays HBX.out hd); have e0 := cell_of_one (boxStays HI.out.1 hd); have e3 := cell_of_one (boxStays HI.out.2.2.2.1 hd); have e4 := cell_of_one (boxStays HI.out.2.2.2.2.1 hd); have q0 := (hd.cell (p := ⟨gw, pre.length * 2, none⟩) (block_lt_of_cell Q0.out)).trans Q0.out; have q1 := (hd.cell (p := ⟨gw, pre.length * 2 + 1, none⟩) (block_lt_of_cell Q1.out)).trans Q1.out; clear hd; have hnle := hnle; have hdle := hdle; (go_simp <;> with_reducible rfl)
    try simp only [Act.put, List.setIfInBounds_toArray, List.set_cons_zero, List.set_cons_succ]
    refine wpAnyH_take (i := 5) (oi := ⟨some 20, _, _, _, _, _⟩) (v := ?_) rfl (by kernel_rfl) (by kernel_rfl) (by kernel_rfl) (fun _ _ _ h => h) (Or.inl ⟨by rfl, ?_⟩) hS ?_
    rotate_left 1
    · intro w' hB; have hd := (HC.out.to W1 (by simp)).trans (hB.mono (HC.out.to W1 (by simp)).size); obtain ⟨x0, x1⟩ := box2 (boxStays HBX.out hd); have e0 := cell_of_one (boxStays HI.out.1 hd); have e3 := cell_of_one (boxStays HI.out.2.2.2.1 hd); have e4 := cell_of_one (boxStays HI.out.2.2.2.2.1 hd); have q0 := (hd.cell (p := ⟨gw, pre.length * 2, none⟩) (block_lt_of_cell Q0.out)).trans Q0.out; have q1 := (hd.cell (p := ⟨gw, pre.length * 2 + 1, none⟩) (block_lt_of_cell Q1.out)).trans Q1.out; clear hd; have hnle := hnle; have hdle := hdle; (go_simp <;> with_reducible rfl)
    try simp only [Act.put, List.setIfInBounds_toArray, List.set_cons_zero, List.set_cons_succ]
    refine wpAnyH_take (i := 6) (oi := ⟨some 21, _, _, _, _, _⟩) (v := ?_) rfl (by kernel_rfl) (by kernel_rfl) (by kernel_rfl) (fun _ _ _ h => h) (Or.inl ⟨by rfl, ?_⟩) hS ?_
    rotate_left 1
    · intro w' hB; have hd := (HC.out.to W1 (by simp)).trans (hB.mono (HC.out.to W1 (by simp)).size); obtain ⟨x0, x1⟩ := box2 (boxStays HBX.out hd); have e0 := cell_of_one (boxStays HI.out.1 hd); have e3 := cell_of_one (boxStays HI.out.2.2.2.1 hd); have e4 := cell_of_one (boxStays HI.out.2.2.2.2.1 hd); have q0 := (hd.cell (p := ⟨gw, pre.length * 2, none⟩) (block_lt_of_cell Q0.out)).trans Q0.out; have q1 := (hd.cell (p := ⟨gw, pre.length * 2 + 1, none⟩) (block_lt_of_cell Q1.out)).trans Q1.out; clear hd; have hnle := hnle; have hdle := hdle; (go_simp <;> with_reducible rfl)
    try simp only [Act.put, List.setIfInBounds_toArray, List.set_cons_zero, List.set_cons_succ]
    refine wpAnyH_take (i := 7) (oi := ⟨some 22, _, _, _, _, _⟩) (v := ?_) rfl (by kernel_rfl) (by kernel_rfl) (by kernel_rfl) (fun _ _ _ h => h) (Or.inl ⟨by rfl, ?_⟩) hS ?_
    rotate_left 1
    · intro w' hB; have hd := (HC.out.to W1 (by simp)).trans (hB.mono (HC.out.to W1 (by simp)).size); obtain ⟨x0, x1⟩ := box2 (boxStays HBX.out hd); have e0 := cell_of_one (boxStays HI.out.1 hd); have e3 := cell_of_one (boxStays HI.out.2.2.2.1 hd); have e4 := cell_of_one (boxStays HI.out.2.2.2.2.1 hd); have q0 := (hd.cell (p := ⟨gw, pre.length * 2, none⟩) (block_lt_of_cell Q0.out)).trans Q0.out; have q1 := (hd.cell (p := ⟨gw, pre.length * 2 + 1, none⟩) (block_lt_of_cell Q1.out)).trans Q1.out; clear hd; have hnle := hnle; have hdle := hdle; (go_simp <;> with_reducible rfl)
    try simp only [Act.put, List.setIfInBounds_toArray, List.set_cons_zero, List.set_cons_succ]
    refine wpAnyH_take (i := 8) (oi := ⟨some 23, _, _, _, _, _⟩) (v := ?_) rfl (by kernel_rfl) (by kernel_rfl) (by kernel_rfl) (fun _ _ _ h => h) (Or.inl ⟨by rfl, ?_⟩) hS ?_
    rotate_left 1
    · intro w' hB; have hd := (HC.out.to W1 (by simp)).trans (hB.mono (HC.out.to W1 (by simp)).size); obtain ⟨x0, x1⟩ := box2 (boxStays HBX.out hd); have e0 := cell_of_one (boxStays HI.out.1 hd); have e3 := cell_of_one (boxStays HI.out.2.2.2.1 hd); have e4 := cell_of_one (boxStays HI.out.2.2.2.2.1 hd); have q0 := (hd.cell (p := ⟨gw, pre.length * 2, none⟩) (block_lt_of_cell Q0.out)).trans Q0.out; have q1 := (hd.cell (p := ⟨gw, pre.length * 2 + 1, none⟩) (block_lt_of_cell Q1.out)).trans Q1.out; clear hd; have hnle := hnle; have hdle := hdle; (go_simp <;> with_reducible rfl)
    try simp only [Act.put, List.setIfInBounds_toArray, List.set_cons_zero, List.set_cons_succ]
    refine wpAnyH_take (i := 9) (oi := ⟨some 24, _, _, _, _, _⟩) (v := ?_) rfl (by kernel_rfl) (by kernel_rfl) (by kernel_rfl) (fun _ _ _ h => h) (Or.inl ⟨by rfl, ?_⟩) hS ?_
    rotate_left 1
    · intro w' hB; have hd := (HC.out.to W1 (by simp)).trans (hB.mono (HC.out.to W1 (by simp)).size); obtain ⟨x0, x1⟩ := box2 (boxStays HBX.out hd); have e0 := cell_of_one (boxStays HI.out.1 hd); have e3 := cell_of_one (boxStays HI.out.2.2.2.1 hd); have e4 := cell_of_one (boxStays HI.out.2.2.2.2.1 hd); have q0 := (hd.cell (p := ⟨gw, pre.length * 2, none⟩) (block_lt_of_cell Q0.out)).trans Q0.out; have q1 := (hd.cell (p := ⟨gw, pre.length * 2 + 1, none⟩) (block_lt_of_cell Q1.out)).trans Q1.out; clear hd; have hnle := hnle; have hdle := hdle; (go_simp <;> with_reducible rfl)
    try simp only [Act.put, List.setIfInBounds_toArray, List.set_cons_zero, List.set_cons_succ]
    refine wpAnyH_take (i := 10) (oi := ⟨some 25, _, _, _, _, _⟩) (v := ?_) rfl (by kernel_rfl) (by kernel_rfl) (by kernel_rfl) (fun _ _ _ h => h) (Or.inl ⟨by rfl, ?_⟩) hS ?_
    rotate_left 1
    · intro w' hB; have hd := (HC.out.to W1 (by simp)).trans (hB.mono (HC.out.to W1 (by simp)).size); obtain ⟨x0, x1⟩ := box2 (boxStays HBX.out hd); have e0 := cell_of_one (boxStays HI.out.1 hd); have e3 := cell_of_one (boxStays HI.out.2.2.2.1 hd); have e4 := cell_of_one (boxStays HI.out.2.2.2.2.1 hd); have q0 := (hd.cell (p := ⟨gw, pre.length * 2, none⟩) (block_lt_of_cell Q0.out)).trans Q0.out; have q1 := (hd.cell (p := ⟨gw, pre.length * 2 + 1, none⟩) (block_lt_of_cell Q1.out)).trans Q1.out; clear hd; have hnle := hnle; have hdle := hdle; (go_simp <;> with_reducible rfl)
    try simp only [Act.put, List.setIfInBounds_toArray, List.set_cons_zero, List.set_cons_succ]
    refine wpAnyH_take (i := 11) (oi := ⟨some 26, _, _, _, _, _⟩) (v := ?_) rfl (by kernel_rfl) (by kernel_rfl) (by kernel_rfl) (fun _ _ _ h => h) (Or.inl ⟨by rfl, ?_⟩) hS ?_
    rotate_left 1
    · intro w' hB; have hd := (HC.out.to W1 (by simp)).trans (hB.mono (HC.out.to W1 (by simp)).size); obtain ⟨x0, x1⟩ := box2 (boxStays HBX.out hd); have e0 := cell_of_one (boxStays HI.out.1 hd); have e3 := cell_of_one (boxStays HI.out.2.2.2.1 hd); have e4 := cell_of_one (boxStays HI.out.2.2.2.2.1 hd); have q0 := (hd.cell (p := ⟨gw, pre.length * 2, none⟩) (block_lt_of_cell Q0.out)).trans Q0.out; have q1 := (hd.cell (p := ⟨gw, pre.length * 2 + 1, none⟩) (block_lt_of_cell Q1.out)).trans Q1.out; clear hd; have hnle := hnle; have hdle := hdle; (go_simp <;> with_reducible rfl)
    try simp only [Act.put, List.setIfInBounds_toArray, List.set_cons_zero, List.set_cons_succ]
    refine wpAnyH_take (i := 12) (oi := ⟨some 27, _, _, _, _, _⟩) (v := ?_) rfl (by kernel_rfl) (by kernel_rfl) (by kernel_rfl) (fun _ _ _ h => h) (Or.inl ⟨by rfl, ?_⟩) hS ?_
    rotate_left 1
    · intro w' hB; have hd := (HC.out.to W1 (by simp)).trans (hB.mono (HC.out.to W1 (by simp)).size); obtain ⟨x0, x1⟩ := box2 (boxStays HBX.out hd); have e0 := cell_of_one (boxStays HI.out.1 hd); have e3 := cell_of_one (boxStays HI.out.2.2.2.1 hd); have e4 := cell_of_one (boxStays HI.out.2.2.2.2.1 hd); have q0 := (hd.cell (p := ⟨gw, pre.length * 2, none⟩) (block_lt_of_cell Q0.out)).trans Q0.out; have q1 := (hd.cell (p := ⟨gw, pre.length * 2 + 1, none⟩) (block_lt_of_cell Q1.out)).trans Q1.out; clear hd; have hnle := hnle; have hdle := hdle; (go_simp <;> with_reducible rfl)
    try simp only [Act.put, List.setIfInBounds_toArray, List.set_cons_zero, List.set_cons_succ]
    refine wpAnyH_take (i := 13) (oi := ⟨some 28, _, _, _, _, _⟩) (v := ?_) rfl (by kernel_rfl) (by kernel_rfl) (by kernel_rfl) (fun _ _ _ h => h) (Or.inl ⟨by rfl, ?_⟩) hS ?_
    rotate_left 1
    · intro w' hB; have hd := (HC.out.to W1 (by simp)).trans (hB.mono (HC.out.to W1 (by simp)).size); obtain ⟨x0, x1⟩ := box2 (boxStays HBX.out hd); have e0 := cell_of_one (boxStays HI.out.1 hd); have e3 := cell_of_one (boxStays HI.out.2.2.2.1 hd); have e4 := cell_of_one (boxStays HI.out.2.2.2.2.1 hd); have q0 := (hd.cell (p := ⟨gw, pre.length * 2, none⟩) (block_lt_of_cell Q0.out)).trans Q0.out; have q1 := (hd.cell (p := ⟨gw, pre.length * 2 + 1, none⟩) (block_lt_of_cell Q1.out)).trans Q1.out; clear hd; have hnle := hnle; have hdle := hdle; (go_simp <;> with_reducible rfl)
    try simp only [Act.put, List.setIfInBounds_toArray, List.set_cons_zero, List.set_cons_succ]
    refine wpAnyH_take (i := 14) (oi := ⟨some 29, _, _, _, _, _⟩) (v := ?_) rfl (by kernel_rfl) (by kernel_rfl) (by kernel_rfl) (fun _ _ _ h => h) (Or.inl ⟨by rfl, ?_⟩) hS ?_
    rotate_left 1
    · intro w' hB; have hd := (HC.out.to W1 (by simp)).trans (hB.mono (HC.out.to W1 (by simp)).size); obtain ⟨x0, x1⟩ := box2 (boxStays HBX.out hd); have e0 := cell_of_one (boxStays HI.out.1 hd); have e3 := cell_of_one (boxStays HI.out.2.2.2.1 hd); have e4 := cell_of_one (boxStays HI.out.2.2.2.2.1 hd); have q0 := (hd.cell (p := ⟨gw, pre.length * 2, none⟩) (block_lt_of_cell Q0.out)).trans Q0.out; have q1 := (hd.cell (p := ⟨gw, pre.length * 2 + 1, none⟩) (block_lt_of_cell Q1.out)).trans Q1.out; clear hd; have hnle := hnle; have hdle := hdle; (go_simp <;> with_reducible rfl)
    try simp only [Act.put, List.setIfInBounds_toArray, List.set_cons_zero, List.set_cons_succ]
    refine wpAnyH_ready (rs := [15]) (by kernel_rfl) (by simp) (AllReadyH.cons (o := ⟨some 30, _, _, _, _, _⟩) rfl (fun K hK => ?_) AllReadyH.nil)
    go_simp
    refine (ref4_Same _ _ b9 b9 _ _ _ _ _ (hBF.out.below hS rfl) (HB9.out.below hS rfl)).mono ?_
    rintro e w6 ⟨rfl, hb⟩
    refine hK.out _ _ (hS.trans (hb.mono hS.size)) (fun _ => ?_)
    clear hK K
    have hB := hS.trans (hb.mono hS.size)
    refine wpAnyH_now hB ?_
    clear hS
    have hS := Below.refl w6.heap.size w6
    replace HC := Lib.hid (HC.out.push hB)
    simp only [and_self, decide_true]
    clear hB hb
    try simp only [Act.put, List.setIfInBounds_toArray, List.set_cons_zero, List.set_cons_succ]
    refine wpAnyH_take (i := 16) (oi := ⟨some 31, _, _, _, _, _⟩) (v := ?_) rfl (by kernel_rfl) (by kernel_rfl) (by kernel_rfl) (fun _ _ _ h => h) (Or.inl ⟨by rfl, ?_⟩) hS ?_
    rotate_left 1
    · intro w' hB; have hd := (HC.out.to W1 (by simp)).trans (hB.mono (HC.out.to W1 (by simp)).size); obtain ⟨x0, x1⟩ := box2 (boxStays HBX.out hd); have e0 := cell_of_one (boxStays HI.out.1 hd); have e3 := cell_of_one (boxStays HI.out.2.2.2.1 hd); have e4 := cell_of_one (boxStays HI.out.2.2.2.2.1 hd); have q0 := (hd.cell (p := ⟨gw, pre.length * 2, none⟩) (block_lt_of_cell Q0.out)).trans Q0.out; have q1 := (hd.cell (p := ⟨gw, pre.length * 2 + 1, none⟩) (block_lt_of_cell Q1.out)).trans Q1.out; clear hd; have hnle := hnle; have hdle := hdle; (go_simp <;> with_reducible rfl)
    try simp only [Act.put, List.setIfInBounds_toArray, List.set_cons_zero, List.set_cons_succ]
    refine wpAnyH_take (i := 17) (oi := ⟨some 32, _, _, _, _, _⟩) (v := ?_) rfl (by kernel_rfl) (by kernel_rfl) (by kernel_rfl) (fun _ _ _ h => h) (Or.inl ⟨by rfl, ?_⟩) hS ?_
    rotate_left 1
    · intro w' hB; have hd := (HC.out.to W1 (by simp)).trans (hB.mono (HC.out.to W1 (by simp)).size); obtain ⟨x0, x1⟩ := box2 (boxStays HBX.out hd); have e0 := cell_of_one (boxStays HI.out.1 hd); have e3 := cell_of_one (boxStays HI.out.2.2.2.1 hd); have e4 := cell_of_one (boxStays HI.out.2.2.2.2.1 hd); have q0 := (hd.cell (p := ⟨gw, pre.length * 2, none⟩) (block_lt_of_cell Q0.out)).trans Q0.out; have q1 := (hd.cell (p := ⟨gw, pre.length * 2 + 1, none⟩) (block_lt_of_cell Q1.out)).trans Q1.out; clear hd; have hnle := hnle; have hdle := hdle; (go_simp <;> with_reducible rfl)
    try simp only [Act.put, List.setIfInBounds_toArray, List.set_cons_zero, List.set_cons_succ]
    refine wpAnyH_done (by kernel_rfl) (OnlyN.normal ?_) _
    have h16 := HC.out.to W1 (by simp)
    have I6 := Lib.hid (And.intro (boxStays HI.out.1 h16) (And.intro (boxStays HI.out.2.1 h16) (And.intro (boxStays HI.out.2.2.1 h16) (And.intro (boxStays HI.out.2.2.2.1 h16) (boxStays HI.out.2.2.2.2.1 h16)))))
    have HBX6 := Lib.hid (boxStays HBX.out h16)
    have HO6 := Lib.hid (own_below HOW.out h16 (own_lt HOW.out))
    have H16 := Lib.hid h16
    clear hS h16 HC
    obtain ⟨x0, x1⟩ := box2 HBX6.out
    have e4 := cell_of_one I6.out.2.2.2.2
    have f4 := frozen_of_row _ (s + 4) 0 _ _ I6.out.2.2.2.2
    have hw1 : IntKind.i64.wrap ((endFR pre : Int) + 9) = (endFR pre : Int) + 9 := i64_wrap (by omega) (by omega)
    have hw2 : IntKind.i64.wrap ((endFR pre : Int) + 9 + (b9.length : Int)) = (endFR pre : Int) + 9 + (b9.length : Int) := i64_wrap (by omega) (by omega)
    gi_wp2
    have I7 := Lib.hid (And.intro (Boxed.other (B := s) (B' := s + 4) I6.out.1 (by omega) (.int .i64 ((endFR pre : Int) + 9 + (b9.length : Int)))) (And.intro (Boxed.other (B' := s + 4) I6.out.2.1 (by omega) (.int .i64 ((endFR pre : Int) + 9 + (b9.length : Int)))) (And.intro (Boxed.other (B' := s + 4) I6.out.2.2.1 (by omega) (.int .i64 ((endFR pre : Int) + 9 + (b9.length : Int)))) (And.intro (Boxed.other (B' := s + 4) I6.out.2.2.2.1 (by omega) (.int .i64 ((endFR pre : Int) + 9 + (b9.length : Int)))) (Boxed.set (.int .i64 ((endFR pre : Int) + 9 + (b9.length : Int))) I6.out.2.2.2.2)))))
    have HBX7 := Lib.hid ((grownBy_setCell' w6 (s + 4) (.int .i64 ((endFR pre : Int) + 9 + (b9.length : Int)))).block bx (Array.getElem?_eq_some_iff.1 HBX6.out).1 (fun e => by cases e; omega) |>.trans HBX6.out)
    have HO7 := Lib.hid (own_grown HO6.out (grownBy_setCell' w6 (s + 4) (.int .i64 ((endFR pre : Int) + 9 + (b9.length : Int)))) (fun k hk e => by have := own_base HO6.out k hk; cases e; omega))
    have HG7 := Lib.hid (grownBy_setCell' w6 (s + 4) (.int .i64 ((endFR pre : Int) + 9 + (b9.length : Int))))
    have hz7 : Hid (w6.heap.size ≤ (w6.setCell ⟨s + 4, 0, none⟩ (.int .i64 ((endFR pre : Int) + 9 + (b9.length : Int)))).heap.size) := Lib.hid HG7.out.size
    clear x0 x1 e4 f4 hw1 hw2
    generalize w6.setCell ⟨s + 4, 0, none⟩ (.int .i64 ((endFR pre : Int) + 9 + (b9.length : Int))) = w7 at *
    gi_loopw [11] (fun u wr => ∃ (k : Nat) (bs : List UInt8), u = .int .i64 (k : Int) ∧ k ≤ b9.length ∧ Hid (bs.length = b9.length) ∧ Hid (wr.ownsRow B 5 1 (.slice va1 b9.length vc1) b9.length (bvs bs)) ∧ Hid (w7.grownBy wr (Value.slice va1 b9.length vc1).ownBlock))
      (fun u _ => b9.length - (intOf u).toNat)
    case atStart => exact ⟨0, b9, rfl, Nat.zero_le _, Lib.hid rfl, HO7, Lib.hid ⟨rfl, rfl, rfl, Nat.le_refl _, fun _ _ _ => rfl⟩⟩
    case round =>
      obtain ⟨j, bs, rfl, hj, HBL, HOR, HGR⟩ := hrel
      have HBXr : Hid (wr.heap[bx]? = some (.cells #[.int .i64 (k9 : Int), .slice va1 b9.length vc1] 36 (0, 0))) := Lib.hid ((HGR.out.block bx (Array.getElem?_eq_some_iff.1 HBX7.out).1 (fun e => by
        rcases HO7.out.2 with ⟨h0, _⟩ | ⟨g, cap, cur, h0, _, hh, _⟩
        · rw [h0] at e; simp [Value.ownBlock] at e
        · rw [h0] at e
          obtain rfl : bx = g := by simpa [Value.ownBlock] using e
          rw [HBX7.out] at hh; cases hh)).trans HBX7.out)
      obtain ⟨x0, x1⟩ := box2 HBXr.out
      by_cases hjl : j < b9.length
      · have hji : (j : Int) < (b9.length : Int) := by omega
        obtain ⟨g, hg, _, hcell, hfz, _⟩ := own_cell HOR.out j (.int .u8 ((bs[j]'(by rw [HBL.out]; exact hjl)).toNat : Int)) (by simp [bvs]; exact ⟨_, List.getElem?_eq_getElem (by rw [HBL.out]; exact hjl), rfl⟩)
        subst hg
        have hf := hfz j
        clear hfz
        gi_wp2
        refine ⟨⟨j + 1, bs.set j 85, by simp, by omega, Lib.hid (by simpa using HBL.out), Lib.hid (own_put HOR.out j 85 85 rfl), Lib.hid ?_⟩, ?_⟩
        · exact grown_trans HGR.out (set_grown wr g j (.int .u8 85))
        · have q1 : (intOf (Value.int .i64 ((j : Int) + 1))).toNat = j + 1 := by simp [intOf]
          have q2 : (intOf (Value.int .i64 (j : Int))).toNat = j := by simp [intOf]
          rw [q1, q2]; omega
      · have hji : ¬ (j : Int) < (b9.length : Int) := by omega
        have J1 := Lib.hid (Boxed.kept I7.out.1 HGR.out (Boxed.not_row I7.out.1 (by decide) HO7.out))
        have J2 := Lib.hid (Boxed.kept I7.out.2.1 HGR.out (Boxed.not_row I7.out.2.1 (by decide) HO7.out))
        have J3 := Lib.hid (Boxed.kept I7.out.2.2.1 HGR.out (Boxed.not_row I7.out.2.2.1 (by decide) HO7.out))
        have J4 := Lib.hid (Boxed.kept I7.out.2.2.2.1 HGR.out (Boxed.not_row I7.out.2.2.2.1 (by decide) HO7.out))
        have J5 := Lib.hid (Boxed.kept I7.out.2.2.2.2 HGR.out (Boxed.not_row I7.out.2.2.2.2 (by decide) HO7.out))
        have e2 := J2.out.cell
        have e3 := J3.out.cell
        have f3 := J3.out.frozen
        have e4 := J4.out.cell
        have f4 := J4.out.frozen
        have hpw : IntKind.i64.wrap ((pre.length : Int) + 1) = (pre.length : Int) + 1 := i64_wrap (by omega) (by omega)
        have hne7 : ∀ k o, w7.heap[k]? = some o → (∀ c t fr, o = .cells c t fr → t ≠ 5) → some k ≠ (Value.slice va1 b9.length vc1).ownBlock := by
          intro k o hk ht e
          rcases HO7.out.2 with ⟨h0, _⟩ | ⟨g, cap, cur, h0, _, hh, _⟩
          · rw [h0] at e; simp [Value.ownBlock] at e
          · rw [h0] at e
            obtain rfl : k = g := by simpa [Value.ownBlock] using e
            rw [hk] at hh; cases hh; exact ht _ _ _ rfl rfl
        have hrest : ∀ k o, s + 5 ≤ k → W1.heap[k]? = some o → (∀ c t fr, o = .cells c t fr → t ≠ 5) → wr.heap[k]? = some o := by
          intro k o hk ho ht
          have r6 := boxStays ho H16.out
          have r7 := (HG7.out.block k (Array.getElem?_eq_some_iff.1 r6).1 (fun e => by cases e; omega)).trans r6
          exact (HGR.out.block k (Array.getElem?_eq_some_iff.1 r7).1 (hne7 k o r7 ht)).trans r7
        have hsize : W1.heap.size ≤ wr.heap.size := Nat.le_trans H16.out.size (Nat.le_trans HG7.out.size HGR.out.size)
        have hlow : ∀ k, k < s → wr.heap[k]? = W1.heap[k]? := by
          intro k hk
          have r6 := H16.out.block k (by omega)
          have r7 := HG7.out.block k (by have := H16.out.size; omega) (fun e => by cases e; omega)
          have r8 := HGR.out.block k (by have := H16.out.size; have := HG7.out.size; omega) (fun e => by have := own_base HO7.out k e.symm; omega)
          rw [r8, r7, r6]
        have KT : Hid (KeepT (s + 5 + 2) (fun k => k < s) W1 wr) := Lib.hid ⟨⟨HGR.out.os.trans (HG7.out.os.trans H16.out.os), HGR.out.tape.trans (HG7.out.tape.trans H16.out.tape), HGR.out.output.trans (HG7.out.output.trans H16.out.output), hsize, hlow⟩, fun k o hk ho ht => hrest k o (by omega) ho ht⟩
        have KF : Hid (KeepsFrom (s + 5) W1 wr) := Lib.hid ⟨hsize, fun k o hk ho hc => hrest k o hk ho (fun c t fr e => by subst e; cases hc)⟩
        have hBw : Hid (Below s w wr) := Lib.hid (HI.out.2.2.2.2.2.trans ⟨KT.out.keep.os, KT.out.keep.tape, KT.out.keep.output, hsize, hlow⟩)
        clear hne7 hrest hsize hlow
        by_cases hlv : (pre.length : Int) + 1 = leave
        · have hlb : ((pre.length : Int) + 1 == leave) = true := by simpa using hlv
          gi_wp2
          exact ⟨(KF.out.trans ((KeepsOthers.setCell _ _ _).from _)).trans ((KeepsOthers.setCell _ _ _).from _),
            (KT.out.trans (keepT_box (b := s + 3) (by omega) (by omega) _)).trans (keepT_box (b := s + 2) (by omega) (by omega) _), rfl,
            (J3.out.other (by omega) _).set _, (hBw.out.setCell (p := ⟨s + 3, 0, none⟩) (by simp) _).setCell (p := ⟨s + 2, 0, none⟩) (by simp) _⟩
        · have hlb : ((pre.length : Int) + 1 == leave) = false := by simpa using hlv
          gi_wp2
          refine ⟨KF.out.trans ((KeepsOthers.setCell _ _ _).from _), KT.out.trans (keepT_box (b := s + 3) (by omega) (by omega) _), J1.out.other (by omega) _, J2.out.other (by omega) _, J3.out.other (by omega) _, ?_, ?_, hBw.out.setCell (p := ⟨s + 3, 0, none⟩) (by simp) _⟩
          · have h1 := J4.out.set (.int .i64 ((pre.length : Int) + 1))
            simpa using h1
          · have h1 := J5.out.other (B' := s + 3) (by omega) (.int .i64 ((pre.length : Int) + 1))
            have h2 : (endFR (pre ++ [(endFR pre, k9, Value.slice va1 b9.length vc1, b9)]) : Int) = (endFR pre : Int) + 9 + (b9.length : Int) := by
              rw [show endFR (pre ++ [(endFR pre, k9, Value.slice va1 b9.length vc1, b9)]) = endFR pre + (9 + b9.length) by simp [endFR]]
              omega
            rw [h2]; exact h1
  case done =>
    rintro D ys W1 hD ⟨hm, hI⟩ hK
    have hlen : ys.length = xs.length := by have := congrArg List.length (hm.trans hxs.symm); simpa using this
    have e1 := hI.1.cell
    have e4 := hI.2.2.2.1.cell
    have e3 := hI.2.2.1.cell
    have f3 := hI.2.2.1.frozen
    rw [hlen] at e4
    have HI := Lib.hid hI
    have HK := Lib.hid hK
    clear hI hK
    simp only [Exit.inBlock]
    gi_wp2
    have hK2 : (W1.setCell ⟨s + 2, 0, none⟩ (.bool true)).heap[D]? = some (.deferred (some [])) := (Below.heap_setCell _ _ _ _ (by simp; omega)).trans HK.out
    have hB2 : Boxed (W1.setCell ⟨s + 2, 0, none⟩ (.bool true)) (s + 2) 4 (.bool true) := HI.out.2.2.1.set _
    have k0 := (hB2.kept (grownBy_putObj' _ D (.deferred none)) (by simp; omega)).cell
    refine ⟨by simp, .inl ⟨_, _, rfl, run_takeDeferred hK2, ?_⟩⟩
    refine ⟨.bool true, by simp [results, Try.results12, go_sem, k0], rfl, ?_⟩
    rw [← HS.out]
    exact (HI.out.2.2.2.2.2.setCell (p := ⟨s + 2, 0, none⟩) (by simp) _).trans (belowK_b (w := W5) (n₀ := s) (by omega) _ D _ _ hD hK2 rfl rfl)
  case stop =>
    rintro D c pre W1 hD hSp ⟨rfl, hbx, hbl⟩ hK
    have HK := Lib.hid hK
    have HBX := Lib.hid hbx
    gi_wp2
    have k0 := (HBX.out.kept (grownBy_putObj' _ D (.deferred none)) (by simp; omega)).cell
    refine ⟨by simp, .inl ⟨_, _, rfl, run_takeDeferred HK.out, ?_⟩⟩
    refine ⟨.bool true, by simp [results, Try.results12, go_sem, k0], rfl, ?_⟩
    rw [← HS.out]
    exact hbl.trans (belowK_b (w := W5) (n₀ := s) (by omega) _ D _ _ hD HK.out rfl rfl)
end Go.Proofs.Ytpbjhfajekfjeaa

