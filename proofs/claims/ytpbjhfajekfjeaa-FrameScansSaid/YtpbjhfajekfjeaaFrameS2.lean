
/- Walks: all the frames of bytes, gone over by one's own loop. -/
import Derived.Test.YtpbjhfajekfjeaaFrameS1
import Derived.RangeFuncNested
import Derived.RangeFuncBound
import Derived.RangeFuncCalls
import Derived.RangeFuncLeaves
import Derived.Shelf.Abstract
import Derived.Shelf.RegionOpen
import Derived.WalkKit
import Derived.OwnWalkIn
import Derived.TacticsInMore
import Derived.LoopNIn
import Derived.LoopIn
namespace Go.Proofs.Ytpbjhfajekfjeaa
open Go.RowKit Frm
attribute [local go_sem] Oper.semAt_some
theorem frame_All (l : List UInt8) (a : Option Addr) (cap : Nat) (w : World) (h : BytesAt w a l) (hl : l.length ≤ 1048576) :
    Calls Try.prog 9 #[.slice a l.length cap] w fun e w' =>
      ∃ (X : Nat) (va : Option Addr) (vc : Nat), e = .returned (.func (.func 19) #[] #[.pointer (some ⟨X, 0, none⟩)]) ∧ w.heap.size ≤ X ∧ Boxed w' X 22 (.slice va l.length vc) ∧ w'.ownsRow w.heap.size 5 1 (.slice va l.length vc) l.length (bvs l) ∧ Below w.heap.size w w' := by
  have BT := Lib.hid byteT
  have H := Lib.hid h; clear h
  go_enter Try.func9, Try.ntmps9
  go_wp2_with (at_builtin; refine wpList_appb rfl _ _ 22 22 rfl w.heap.size 5 BT.out (.slice (some ⟨w.heap.size, 0, none⟩) 0 0) [] rfl (own_new w w.heap.size 5 [] (Nat.le_refl _) (by simp)) _ l rfl ((H.out.below (below_new w _) rfl).src Try.underlying22 cap) (by simp; omega) (by simp) ?_; intro v1 w1 hown _ hb _; rw [List.nil_append] at hown; obtain ⟨a1, c1, rfl⟩ := own_shape hown; have O1 := Lib.hid hown; have D1 := Lib.hid ((below_new w (.cells #[] 5)).trans hb); clear hown hb)
  go_ret
  exact ⟨w1.heap.size, a1, c1, rfl, D1.out.size, Boxed.new w1 _ _, O1.out.alloc _, D1.out.alloc D1.out.size _⟩
/-- A round of another's: these blocks stand; from M on all stands but bytes. -/
structure KeepT (M : Nat) (S : Nat → Prop) (A B : World) : Prop where
  keep : KeepS S A B
  rest : ∀ k o, M ≤ k → A.heap[k]? = some o → (∀ c t fr, o = .cells c t fr → t ≠ 5) → B.heap[k]? = some o
theorem KeepT.trans {M : Nat} {S : Nat → Prop} {A B C : World} (h : KeepT M S A B) (k : KeepT M S B C) : KeepT M S A C :=
  ⟨h.keep.trans k.keep, fun i o hi ho ht => k.rest i o hi (h.rest i o hi ho ht) ht⟩
theorem KeepT.box {M : Nat} {S : Nat → Prop} {A B : World} (h : KeepT M S A B) {b : Nat} {t : TypeId} {v : Value} (hb : Boxed A b t v) (hM : M ≤ b) (ht : t ≠ 5) : Boxed B b t v :=
  h.rest b _ hM hb (fun c t' fr e => by cases e; exact ht)
theorem round_any {m m' : Nat} {P : Program} {l l' : Nat} {f : FuncId} {tmps : Array Value} {assign body : Code} {w : World} {R : Ending → World → Prop}
    (h : RoundIn Fence.wide m P l f tmps assign body w R) : RoundIn (Fence.wide.inRound l') m' P l f tmps assign body w R := ⟨h.1, fun c cs _ => h.2 c cs (fun d h => by cases h)⟩
def AllI (s ll : Nat) (va : Option Addr) (n vc : Nat) (J : List FR → World → Prop) (u : Int) (pre : List FR) (W : World) : Prop :=
  J pre W ∧ Boxed W s 50 (.func (.yield ll) #[] #[]) ∧ Boxed W (s + 1) 25 (.int .i64 u) ∧ Boxed W (s + 2) 22 (.slice va n vc) ∧ Boxed W (s + 3) 47 (.pointer (some ⟨s + 1, 0, none⟩))
theorem allI_own {s ll : Nat} {va : Option Addr} {n vc : Nat} {J : List FR → World → Prop} {u : Int} {B : Nat} (hJ : OwnFrom B J) : OwnFrom B (AllI s ll va n vc J u) := by
  rintro pre A A' row ⟨h0, h1, h2, h3, h4⟩ hg hr
  have hr' : ∀ r, row = some r → ∃ o : Obj, A.heap[r]? = some o ∧ o.isCells = false := fun r e => (hr r e).2
  exact ⟨hJ pre A A' row h0 hg hr, heap_kept hg hr' h1, heap_kept hg hr' h2, heap_kept hg hr' h3, heap_kept hg hr' h4⟩
theorem ownFrom_up {β : Type} {B B' : Nat} {I : β → World → Prop} (h : OwnFrom B I) (hB : B ≤ B') : OwnFrom B' I := fun s A A' row hs hg hr => h s A A' row hs hg (fun r e => ⟨Nat.le_trans hB (hr r e).1, (hr r e).2⟩)
set_option maxRecDepth 100000 in
set_option maxHeartbeats 2000000 in
theorem all_iter (n : Nat) (hn : 3 ≤ n) (l : List UInt8) (va : Option Addr) (vc X : Nat) (w : World) (N : Nat) (S : Nat → Prop)
    (hX : Boxed w X 22 (.slice va l.length vc)) (hb : BytesAt w va l) (hvc : l.length ≤ vc) (hl : l.length ≤ 1048576) (hN : N ≤ w.heap.size) (hSb : l ≠ [] → ∀ ad, va = some ad → S ad.block) :
    Iter2 n Try.prog 19 #[.pointer (some ⟨X, 0, none⟩)] encFR (KeepT (w.heap.size + 2) S) (newFR2 (scanF (l.length + 1) l 0) N)
      (fun W xs W2 W' => xs.map plainFR = (scanF (l.length + 1) l 0).1 ∧ Below W.heap.size W2 W') (FirstW (scanF (l.length + 1) l 0)) w := by
  obtain ⟨R, hR⟩ : ∃ R, scanF (l.length + 1) l 0 = R := ⟨_, rfl⟩
  rw [hR]
  have HR := Lib.hid hR
  clear hR
  intro ll J Jx W hW hW2 hJo hJxo hY h0
  have hXW : Boxed W X 22 (.slice va l.length vc) := hX.kept (grown_of_below hW none) (by simp)
  have hbW : BytesAt W va l := hb.below hW rfl
  have X0 := ((hXW.alloc (.cells #[.func (.yield ll) #[] #[]] 50)).alloc (.cells #[.int .i64 0] 25)).cell
  have HY := Lib.hid hY
  clear hY
  refine callsIn_of_wp_marks Try.func19 rfl trivial ?_ rfl
  simp only [Try.ntmps19, List.size_toArray, List.length_cons, List.length_nil, Nat.reduceAdd, Nat.reduceSub, Array.replicate_succ, Array.replicate_zero, List.push_toArray, List.append_toArray, List.nil_append, List.cons_append]
  gi_wp2
  obtain ⟨s, hs⟩ : ∃ s, s = W.heap.size := ⟨_, rfl⟩
  obtain ⟨W3, hW3⟩ : ∃ W3, (W.alloc (.cells #[.func (.yield ll) #[] #[]] 50)).alloc (.cells #[.int .i64 0] 25) = W3 := ⟨_, rfl⟩
  have z3 : W3.heap.size = s + 2 := by rw [← hW3, hs]; simp
  have b1 : Boxed W3 s 50 (.func (.yield ll) #[] #[]) := by rw [← hW3, hs]; exact (Boxed.new W _ _).alloc _
  have b2 : Boxed W3 (s + 1) 25 (.int .i64 0) := by
    have h1 := Boxed.new (W.alloc (.cells #[.func (.yield ll) #[] #[]] 50)) 25 (.int .i64 0)
    rw [World.size_alloc, ← hs] at h1
    rw [← hW3]; exact h1
  have hb3 : Below s W W3 := by rw [← hW3, hs]; exact ((Below.refl _ W).alloc (Nat.le_refl _) _).alloc (by simp) _
  rw [hW3, ← hs]
  have HS := Lib.hid hs
  clear hW3 X0
  refine ⟨trivial, fun _ => by omega, ?_⟩
  refine (callsIn_wide.2 (frame_walk _ _ _ _ W3)).mono ?_
  rintro e W5 ⟨rfl, hW5⟩
  have z5 : W5.heap.size = s + 4 := by rw [hW5]; simp [z3]
  have c1 : Boxed W5 s 50 (.func (.yield ll) #[] #[]) := by rw [hW5]; exact (b1.alloc _).alloc _
  have c2 : Boxed W5 (s + 1) 25 (.int .i64 0) := by rw [hW5]; exact (b2.alloc _).alloc _
  have c3 : Boxed W5 (s + 2) 22 (.slice va l.length vc) := by
    rw [hW5, ← z3]; exact (Boxed.new W3 _ _).alloc _
  have c4 : Boxed W5 (s + 3) 47 (.pointer (some ⟨s + 1, 0, none⟩)) := by
    have h1 := Boxed.new (W3.alloc (.cells #[.slice va l.length vc] 22)) 47 (.pointer (some ⟨s + 1, 0, none⟩))
    rw [World.size_alloc, z3] at h1
    rw [hW5]; exact h1
  have hb5 : Below s W W5 := by rw [hW5]; exact (hb3.alloc (by omega) _).alloc (by simp; omega) _
  rw [z3, show s + 2 + 1 = s + 3 from rfl]
  clear hW5 b1 b2 z3
  rw [← hs] at hJo hJxo hW2
  have hJ5 : J [] W5 := ownFrom_to hJo h0 (by rw [← hs]; exact hb5)
  clear hs
  have HSb := Lib.hid (fun (k : Nat) (hk : (s ≤ k ∧ k < s + 4) ∨ ((∃ ad, va = some ad ∧ k = ad.block) ∧ S k ∧ k < s)) => (show k < W5.heap.size by omega))
  have HIter := walk_iter2 (n - 1) (by omega) l va vc W5 N (fun k => (s ≤ k ∧ k < s + 4) ∨ ((∃ ad, va = some ad ∧ k = ad.block) ∧ S k ∧ k < s)) (s + 2) (s + 3) (s + 1) 25 0 (hbW.below hb5 HS.out) hvc hl (by omega) c3 c4 c2 HSb.out (by simp) (by simp) (by simp) (by
    intro hne ad hadr
    obtain ⟨b, off, e1, c⟩ := hbW 0 (List.length_pos_iff.2 hne)
    rw [hadr] at e1
    have h1 := block_lt_of_cell c
    have h2 := HS.out
    cases e1
    exact .inr ⟨⟨_, hadr, rfl⟩, hSb hne _ hadr, by simpa [h2] using h1⟩)
  rw [HR.out] at HIter
  gi_wp2
  refine range_law2 (n := n) rfl (enters_of Try.func27 (by kernel_rfl) rfl) HIter (by omega) KeepS.trans (fun W o o' _ _ => KeepS.put W _ o' (by omega) HSb.out) (fun x => rfl) (fun pre => newFR2_own _ _ _ pre) ?_ (AllI s ll va l.length vc J 0) (fun c pre W => c = .ret ∧ Jx pre W) (fun xs W' => xs.map plainFR = R.1 ∧ ∃ W2, s ≤ W2.heap.size ∧ J xs W2 ∧ Below s W2 W') (allI_own (ownFrom_up hJo (by omega))) ?_ ?_ ?_ ⟨hJ5, c1, c2, c3, c4⟩
    (fun pre x a' W => AllI s ll va l.length vc J 0 pre W ∧ newFR2 R N pre x W ∧ ∃ bx, W.heap[bx]? = some (.cells #[.int .i64 (x.2.1 : Int), x.2.2.1] 36 (0, 0)) ∧ a' = { tmps := #[.func (.yield ll) #[] #[], .pointer (some ⟨X, 0, none⟩), .pointer (some ⟨s, 0, none⟩), .pointer (some ⟨s + 1, 0, none⟩), .int .i64 (x.1 : Int), .pointer (some ⟨bx, 0, none⟩), .slice va l.length vc, .func (.func 27) #[] #[.pointer (some ⟨s + 2, 0, none⟩), .pointer (some ⟨s + 3, 0, none⟩)], .int .i64 (x.1 : Int), .agg #[.int .i64 (x.2.1 : Int), x.2.2.1], undef, undef, undef, undef, undef], defers := [] }) ?_ ?assign ?body ?done ?stop
  · rintro W1 _ xs A B ⟨_, rfl⟩ k o hk ho hc
    by_cases hz : R.2.2 = 0
    · rw [if_pos hz]; exact ho
    · rw [if_neg hz]; exact (KeepsOthers.setCell _ _ _).same k o ho hc
  · rintro c pre A A' row ⟨h1, h2⟩ hg hr
    exact ⟨h1, ownFrom_up hJxo (by omega) pre A A' row h2 hg hr⟩
  · rintro xs A A' row ⟨h1, W2, h0, h2, h3⟩ hg hr
    exact ⟨h1, W2, h0, h2, h3.grown hg (Nat.le_trans h0 h3.size) (fun k e => by have := (hr k e).1; omega)⟩
  · rintro W1 _ xs A B ⟨hj, b1, b2, b3, b4⟩ ⟨e1, rfl⟩
    refine ⟨e1, A, by have := b1.lt; omega, hj, ?_⟩
    by_cases hz : R.2.2 = 0
    · rw [if_pos hz]; exact Below.refl _ _
    · rw [if_neg hz]; exact (Below.refl s A).setCell (p := ⟨s + 1, 0, none⟩) (by simp) _
  · rintro x a' pre A A' row ⟨h1, h2, bx, h3, h4⟩ hg hr
    exact ⟨allI_own (ownFrom_up hJo (by omega)) pre A A' row h1 hg hr, newFR2_own _ _ _ pre x A A' row h2 hg hr, bx, heap_kept hg (fun r e => (hr r e).2) h3, h4⟩
  case assign =>
    rintro l1 pre ⟨at0, k, v, body⟩ W1 K hi hx hsz hK
    obtain ⟨⟨hx0, B, hB, hown, hlt⟩, hfirst⟩ := hx
    dsimp only at hx0 hown hlt
    obtain ⟨va1, vc1, rfl⟩ := own_shape hown
    generalize hvn : body.length = vn at *
    have HVN := Lib.hid hvn
    clear hvn
    have HI := Lib.hid hi
    have HX : Hid (newFR2 R N pre (at0, k, .slice va1 vn vc1, body) W1) := Lib.hid ⟨⟨by dsimp only; rw [HVN.out]; exact hx0, B, hB, own_len2 hown HVN.out, hlt⟩, hfirst⟩
    clear hi hown hlt hx0 hfirst
    simp only [encFR, List.zip_toArray, List.zip_cons_cons, List.zip_nil_right, List.foldl_toArray, List.foldl_cons, List.foldl_nil]
    gi_wp2
    refine hK _ _ ((KeepsOthers.alloc _ _).from _) (KeepS.below ((Below.refl _ W1).alloc (Nat.le_refl _) _) (fun k hk => Nat.lt_of_lt_of_le (HSb.out k hk) hsz)) (by simp; omega) ⟨(allI_own (B := s) hJo).alloc _ HI.out, (newFR2_own _ _ 0 pre).alloc _ HX.out, W1.heap.size, World.alloc_heap_new W1 _, rfl⟩
  case body =>
    rintro l1 pre ⟨at0, k, v, body⟩ a' W1 ⟨hI, hX1, bx, hbx, rfl⟩ hsz
    dsimp only at hbx
    have HX1 := Lib.hid hX1
    obtain ⟨⟨hx0, B, hB, hown, hlt⟩, _⟩ := hX1
    obtain ⟨va1, vc1, hv⟩ := own_shape hown
    dsimp only at hv
    subst hv
    clear hx0 hown hlt
    have HI := Lib.hid hI
    have e1 := hI.2.1.cell
    obtain ⟨x0, x1⟩ := box2 hbx
    obtain ⟨fn, tmps, assign, body', hyy, hRR⟩ := HY.out pre _ W1 hI.1 HX1.out
    simp only [encFR] at hyy
    clear hI
    gi_wp2
    refine ⟨(fun h => absurd h (by decide)), ?_⟩
    refine (round_any hRR).mono ?_
    have keepS : ∀ W2, KeepT (w.heap.size + 2) S W1 W2 → KeepS (fun k => (s ≤ k ∧ k < s + 4) ∨ ((∃ ad, va = some ad ∧ k = ad.block) ∧ S k ∧ k < s)) W1 W2 := by
      intro W2 hkt
      refine ⟨hkt.keep.os, hkt.keep.tape, hkt.keep.output, hkt.keep.size, ?_⟩
      rintro k' (⟨h1, h2⟩ | ⟨_, h1, _⟩)
      · obtain ⟨_, q1, q2, q3, q4⟩ := HI.out
        have q1' := hkt.box q1 (by omega) (by decide)
        have q2' := hkt.box q2 (by omega) (by decide)
        have q3' := hkt.box q3 (by omega) (by decide)
        have q4' := hkt.box q4 (by omega) (by decide)
        have hk4 : k' = s ∨ k' = s + 1 ∨ k' = s + 2 ∨ k' = s + 3 := by omega
        rcases hk4 with rfl | rfl | rfl | rfl
        · exact q1'.trans q1.symm
        · exact q2'.trans q2.symm
        · exact q3'.trans q3.symm
        · exact q4'.trans q4.symm
      · exact hkt.keep.block _ h1
    have keepF : ∀ W2, KeepT (w.heap.size + 2) S W1 W2 → KeepsFrom W5.heap.size W1 W2 := fun W2 hkt => ⟨hkt.keep.size, fun k o hk ho hc => hkt.rest k o (by omega) ho (fun c t fr e => by subst e; cases hc)⟩
    have KS := Lib.hid keepS
    have KF := Lib.hid keepF
    clear keepS keepF
    rintro e W2 (⟨rfl, hJ', hkt⟩ | ⟨rfl, hjx, hkt⟩)
    · gi_wp2
      obtain ⟨_, q1, q2, q3, q4⟩ := HI.out
      exact ⟨KF.out _ hkt, KS.out _ hkt, hJ', hkt.box q1 (by omega) (by decide), hkt.box q2 (by omega) (by decide), hkt.box q3 (by omega) (by decide), hkt.box q4 (by omega) (by decide)⟩
    · gi_wp2
      exact ⟨KF.out _ hkt, KS.out _ hkt, rfl, hjx⟩
  case done =>
    rintro D xs W1 hD ⟨hmap, W2, h0, hJ2, hb2⟩ hK
    have HK := Lib.hid hK
    simp only [Exit.inBlock]
    gi_wp2
    refine ⟨by simp, .inl ⟨_, _, rfl, run_takeDeferred HK.out, ?_⟩⟩
    refine ⟨_, results_none rfl _ _ _, ⟨_, rfl⟩, .inl ⟨xs, W2, hJ2, hmap, ?_⟩⟩
    rw [← HS.out]
    exact hb2.trans (belowK_b (w := W5) (n₀ := s) (by omega) W1 D _ _ hD HK.out rfl rfl)
  case stop =>
    rintro D c pre W1 hD hSp ⟨rfl, hjx⟩ hK
    have HK := Lib.hid hK
    gi_wp2
    refine ⟨by simp, .inl ⟨_, _, rfl, run_takeDeferred HK.out, ?_⟩⟩
    exact ⟨_, results_none rfl _ _ _, ⟨_, rfl⟩, .inr ⟨pre, hSp, hJxo.putObj _ hjx (by omega) HK.out rfl⟩⟩
end Go.Proofs.Ytpbjhfajekfjeaa

