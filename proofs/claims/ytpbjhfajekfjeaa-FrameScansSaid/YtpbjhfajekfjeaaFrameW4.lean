
/- Walks: the frames of bytes, told as a list. -/
import Derived.Test.YtpbjhfajekfjeaaFrameW3
import Derived.RangeFuncNested
import Derived.RangeFuncBound
import Derived.RangeFuncCalls
import Derived.RangeFuncLeaves
import Derived.Shelf.Abstract
import Derived.Shelf.RegionOpen
import Derived.WalkKit
import Derived.OwnWalkIn
import Derived.TacticsInMore
import Derived.LoopNIn
import Derived.LoopIn
import Derived.Maps.AppendAt
namespace Go.Proofs.Ytpbjhfajekfjeaa
open Go.RowKit Frm
attribute [local go_sem] Oper.semAt_some
/-- A list of frames in memory: the row, the bodies, each a row of its own. -/
structure FrsAt (W : World) (B : Nat) (v : Value) (xs : List FR) : Prop where
  row : W.ownsRow B 36 2 v xs.length (xs.flatMap fun x => [Value.int .i64 (x.2.1 : Int), x.2.2.1])
  body : ∀ y ∈ xs, W.ownsRow B 5 1 y.2.2.1 y.2.2.2.length (bvs y.2.2.2)
  apart : xs.Pairwise fun y x => ∀ k k', y.2.2.1.ownBlock = some k → x.2.2.1.ownBlock = some k' → k < k'
def endFR (xs : List FR) : Nat := match xs.getLast? with | none => 0 | some x => x.1 + (9 + x.2.2.2.length)
theorem heap_kept {A A' : World} {row : Option Nat} (hg : A.grownBy A' row) (hr : ∀ r, row = some r → ∃ o : Obj, A.heap[r]? = some o ∧ o.isCells = false) {g : Nat} {c : Array Value} {t : TypeId} {fr : Nat × Nat} (h : A.heap[g]? = some (.cells c t fr)) : A'.heap[g]? = some (.cells c t fr) := by
  refine (hg.block g (Array.getElem?_eq_some_iff.1 h).1 fun e => ?_).trans h
  obtain ⟨o, ho, hc⟩ := hr g e.symm
  rw [h] at ho; cases ho; cases hc
theorem own_kept {A A' : World} {row : Option Nat} (hg : A.grownBy A' row) (hr : ∀ r, row = some r → ∃ o : Obj, A.heap[r]? = some o ∧ o.isCells = false) {B n s : Nat} {e : TypeId} {v : Value} {xs : List Value} (h : A.ownsRow B e s v n xs) : A'.ownsRow B e s v n xs := by
  refine ⟨h.1, ?_⟩
  rcases h.2 with h0 | ⟨g, cap, cur, rfl, hb, hh, r⟩
  · exact .inl h0
  · exact .inr ⟨g, cap, cur, rfl, hb, heap_kept hg hr hh, r⟩
/-- Rows of unlike types lie in unlike blocks. -/
theorem own_ne {A : World} {B B' n n' s s' : Nat} {e e' : TypeId} {v v' : Value} {xs xs' : List Value} (h : A.ownsRow B e s v n xs) (h' : A.ownsRow B' e' s' v' n' xs') (he : e ≠ e') : ∀ g, v'.ownBlock = some g → v.ownBlock ≠ some g := by
  intro g hg hv
  rcases h.2 with ⟨rfl, _⟩ | ⟨k, cap, cur, rfl, hb, hh, r⟩
  · simp [Value.ownBlock] at hv
  · rcases h'.2 with ⟨rfl, _⟩ | ⟨k', cap', cur', rfl, hb', hh', r'⟩
    · simp [Value.ownBlock] at hg
    · obtain rfl : k = g := by simpa [Value.ownBlock] using hv
      obtain rfl : k' = k := by simpa [Value.ownBlock] using hg
      rw [hh] at hh'; cases hh'; exact he rfl
theorem FrsAt.kept {A A' : World} {row : Option Nat} {B : Nat} {v : Value} {xs : List FR} (h : FrsAt A B v xs) (hg : A.grownBy A' row) (hr : ∀ r, row = some r → ∃ o : Obj, A.heap[r]? = some o ∧ o.isCells = false) : FrsAt A' B v xs :=
  ⟨own_kept hg hr h.row, fun y hy => own_kept hg hr (h.body y hy), h.apart⟩
theorem infoFr : (Try.prog.info? 36).map (fun i => (i.zero, i.size, i.bytes)) = some (some (.agg #[.int .i64 0, .slice none 0 0]), 2, 32) := by kernel_rfl
theorem FrsAt.grown {A A' : World} {row : Option Nat} {B : Nat} {v : Value} {xs : List FR} (h : FrsAt A B v xs) (hg : A.grownBy A' row) (hr : ∀ g, row = some g → v.ownBlock ≠ some g ∧ ∀ y ∈ xs, y.2.2.1.ownBlock ≠ some g) : FrsAt A' B v xs :=
  ⟨own_grown h.row hg (fun k hk e => (hr k e).1 hk), fun y hy => own_grown (h.body y hy) hg (fun k hk e => (hr k e).2 y hy hk), h.apart⟩
theorem FrsAt.mono {A : World} {B B' : Nat} {v : Value} {xs : List FR} (h : FrsAt A B v xs) (hB : B' ≤ B) : FrsAt A B' v xs :=
  ⟨h.row.mono hB, fun y hy => (h.body y hy).mono hB, h.apart⟩
theorem FrsAt.setBox {A : World} {B : Nat} {v : Value} {xs : List FR} (h : FrsAt A B v xs) {b : Nat} {t : TypeId} {u : Value} (hb : Boxed A b t u) (h1 : t ≠ 36) (h2 : t ≠ 5) (u' : Value) : FrsAt (A.setCell ⟨b, 0, none⟩ u') B v xs :=
  h.grown (grownBy_setCell' A b u') fun g e => by
    cases e
    exact ⟨fun e => hb.not_row h1 h.row e.symm, fun y hy e => hb.not_row h2 (h.body y hy) e.symm⟩
theorem newFR_own (N B : Nat) (pre : List FR) : OwnFrom B (newFR N pre) := by
  rintro x A A' row ⟨h0, B', h1, h2, h3⟩ hg hr
  exact ⟨h0, B', h1, own_kept hg (fun r e => (hr r e).2) h2, h3⟩
theorem cell_two_new (w : World) (x y : Value) (t : TypeId) : ∀ j u, [x, y][j]? = some u → (w.alloc (.cells #[x, y] t)).cell? ((⟨w.heap.size, 0, none⟩ : Addr).add j) = some u := by
  intro j u hj
  obtain ⟨h0, h1⟩ := box2 (World.alloc_heap_new w (.cells #[x, y] t))
  match j, hj with
  | 0, hj => simp at hj; subst hj; rw [Addr_add]; exact h0
  | 1, hj => simp at hj; subst hj; rw [Addr_add]; exact h1
  | j + 2, hj => simp at hj
def ScanV (s : Nat) (w : World) (u : Int) (v : Value) (pre : List FR) (W : World) : Prop :=
  Boxed W s 24 v ∧ Boxed W (s + 1) 3 (.int .i64 (endFR pre : Int)) ∧ FrsAt W (s + 5) v pre ∧ Boxed W (s + 2) 25 (.int .i64 u) ∧ Below s w W
theorem scanV_own (s : Nat) (w : World) (u : Int) (v : Value) (B : Nat) (hs : s ≤ w.heap.size) (hB : s ≤ B) : OwnFrom B (ScanV s w u v) := by
  rintro pre A A' row ⟨h1, h2, h3, h5, h4⟩ hg hr
  have hr' : ∀ r, row = some r → ∃ o : Obj, A.heap[r]? = some o ∧ o.isCells = false := fun r e => (hr r e).2
  exact ⟨heap_kept hg hr' h1, heap_kept hg hr' h2, h3.kept hg hr', heap_kept hg hr' h5, ownFrom_below (β := Unit) hs hB () A A' row h4 hg hr⟩
def ScanX (s : Nat) (w : World) (pre : List FR) (W : World) : Prop := ∃ v, ScanV s w 0 v pre W
theorem scanX_own (s : Nat) (w : World) (B : Nat) (hs : s ≤ w.heap.size) (hB : s ≤ B) : OwnFrom B (ScanX s w) := by
  rintro pre A A' row ⟨v, h1⟩ hg hr
  exact ⟨v, scanV_own s w 0 v B hs hB pre A A' row h1 hg hr⟩
def ScanF (s : Nat) (w : World) (R : List (Nat × Nat × List UInt8) × Nat × Nat) (pre : List FR) (W : World) : Prop := (∃ v, ScanV s w (R.2.2 : Int) v pre W) ∧ pre.map plainFR = R.1
theorem scanF_own (s : Nat) (w : World) (R : List (Nat × Nat × List UInt8) × Nat × Nat) (B : Nat) (hs : s ≤ w.heap.size) (hB : s ≤ B) : OwnFrom B (ScanF s w R) := by
  rintro pre A A' row ⟨⟨v, h1⟩, h3⟩ hg hr
  exact ⟨⟨v, scanV_own s w _ v B hs hB pre A A' row h1 hg hr⟩, h3⟩
theorem scan_end (s : Nat) (w : World) (R : List (Nat × Nat × List UInt8) × Nat × Nat) (xs : List FR) (A B : World) (h : ScanX s w xs A) (he : EndW (s + 2) R xs A B) : ScanF s w R xs B := by
  obtain ⟨v, h1, h2, h3, h0, h4⟩ := h
  obtain ⟨e1, rfl⟩ := he
  by_cases hz : R.2.2 = 0
  · rw [if_pos hz]
    exact ⟨⟨v, h1, h2, h3, by rw [hz]; exact h0, h4⟩, e1⟩
  · rw [if_neg hz]
    exact ⟨⟨v, h1.other (by omega) _, h2.other (by omega) _, h3.setBox h0 (by decide) (by decide) _, h0.set _, h4.setCell (p := ⟨s + 2, 0, none⟩) (by simp) _⟩, e1⟩
theorem own_base {W : World} {B n s : Nat} {e : TypeId} {v : Value} {xs : List Value} (h : W.ownsRow B e s v n xs) : ∀ k, v.ownBlock = some k → B ≤ k := by
  intro k hk
  rcases h.2 with ⟨rfl, _⟩ | ⟨g, cap, cur, rfl, hb, _⟩
  · simp [Value.ownBlock] at hk
  · obtain rfl : g = k := by simpa [Value.ownBlock] using hk
    exact hb
theorem own_cells {W : World} {B n s : Nat} {e : TypeId} {v : Value} {xs : List Value} (h : W.ownsRow B e s v n xs) : ∀ k o, v.ownBlock = some k → W.heap[k]? = some o → o.isCells = true := by
  intro k o hk ho
  rcases h.2 with ⟨rfl, _⟩ | ⟨g, cap, cur, rfl, hb, hh, _⟩
  · simp [Value.ownBlock] at hk
  · obtain rfl : g = k := by simpa [Value.ownBlock] using hk
    rw [hh] at ho; cases ho; rfl
/-- Behind the append, ahead of the stores. -/
theorem scan_mid {s : Nat} {w W w1 : World} {u : Int} {v : Value} {pre : List FR} {tmp : Obj} (hV : ScanV s w u v pre W) (hgrow : (W.alloc tmp).grownBy w1 v.ownBlock) :
    Boxed w1 s 24 v ∧ Boxed w1 (s + 1) 3 (.int .i64 (endFR pre : Int)) ∧ Boxed w1 (s + 2) 25 (.int .i64 u) := by
  obtain ⟨h1, h2, h3, h4, h5⟩ := hV
  exact ⟨(h1.alloc tmp).kept hgrow (h1.not_row (by decide) h3.row), (h2.alloc tmp).kept hgrow (h2.not_row (by decide) h3.row), (h4.alloc tmp).kept hgrow (h4.not_row (by decide) h3.row)⟩
theorem scan_step {s : Nat} {w W w1 : World} {v v' : Value} {pre : List FR} {tmp : Obj} {x : FR} (hV : ScanV s w 0 v pre W) (hsW : s + 5 ≤ W.heap.size) (hx : newFR (s + 5) pre x W) (hgrow : (W.alloc tmp).grownBy w1 v.ownBlock)
    (hown' : w1.ownsRow (s + 5) 36 2 v' (pre.length + 1) ((pre.flatMap fun x => [Value.int .i64 (x.2.1 : Int), x.2.2.1]) ++ [.int .i64 (x.2.1 : Int), x.2.2.1])) (z : Int) (hz : z = ((x.1 + (9 + x.2.2.2.length) : Nat) : Int)) :
    ScanV s w 0 v' (pre ++ [x]) ((w1.setCell ⟨s, 0, none⟩ v').setCell ⟨s + 1, 0, none⟩ (.int .i64 z)) ∧ KeepsOthers W ((w1.setCell ⟨s, 0, none⟩ v').setCell ⟨s + 1, 0, none⟩ (.int .i64 z)) ∧ KeepB (s + 5) [s, s + 1] W ((w1.setCell ⟨s, 0, none⟩ v').setCell ⟨s + 1, 0, none⟩ (.int .i64 z)) := by
  obtain ⟨m1, m2, m3⟩ := scan_mid hV hgrow
  obtain ⟨h1, h2, h3, h4, h5⟩ := hV
  obtain ⟨_, B, hB, hown, hlt⟩ := hx
  have hbody : FrsAt w1 (s + 5) v' (pre ++ [x]) := by
    refine ⟨by simpa using hown', ?_, ?_⟩
    · intro y hy
      simp only [List.mem_append, List.mem_singleton] at hy
      rcases hy with hy | rfl
      · exact own_grown ((h3.body y hy).alloc tmp) hgrow (fun k hk e => own_ne (h3.body y hy) h3.row (by decide) k e hk)
      · exact (own_grown (hown.alloc tmp) hgrow (fun k hk e => own_ne hown h3.row (by decide) k e hk)).mono hB
    · rw [List.pairwise_append]
      refine ⟨h3.apart, List.pairwise_singleton _ _, ?_⟩
      intro y hy z hz k k' hk hk'
      simp only [List.mem_singleton] at hz
      subst hz
      exact Nat.lt_of_lt_of_le (hlt y hy k hk) (own_base hown k' hk')
  have hend : (endFR (pre ++ [x]) : Int) = z := by rw [hz]; simp [endFR]
  refine ⟨⟨(m1.set v').other (by omega) _, ?_, ?_, ((m3.other (by omega) _).other (by omega) _), ?_⟩, ?_, ?_⟩
  · rw [hend]; exact (m2.other (by omega) _).set _
  · exact (hbody.setBox m1 (by decide) (by decide) _).setBox (m2.other (by omega) _) (by decide) (by decide) _
  · exact (((h5.alloc (by omega) tmp).grown hgrow (by simp; omega) (fun k e => by have := own_base h3.row k e; omega)).setCell (p := ⟨s, 0, none⟩) (Nat.le_refl _) _).setCell (p := ⟨s + 1, 0, none⟩) (by simp) _
  · exact (((KeepsOthers.alloc W tmp).trans (KeepsOthers.of_grownBy hgrow fun j o ej hj => own_cells (h3.row.alloc tmp) j o ej hj)).trans (KeepsOthers.setCell _ _ _)).trans (KeepsOthers.setCell _ _ _)
  · refine ⟨?_, ?_, ?_, ?_, ?_⟩
    · exact hgrow.os
    · exact hgrow.tape
    · exact hgrow.output
    · have := hgrow.size; simp at this ⊢; omega
    · intro k hk he
      simp at he
      rw [Below.heap_setCell _ _ _ _ (by simp; omega), Below.heap_setCell _ _ _ _ (by simp; omega), hgrow.block k (by simp; omega) (fun e => by have := own_base h3.row k e.symm; omega)]
      exact Below.heap_alloc _ _ _ (by omega)
theorem scanF_end : ∀ (f : Nat) (l : List UInt8) (at0 : Nat), l.length < f → (scanF f l at0).2.1 = match (scanF f l at0).1.getLast? with | none => at0 | some x => x.1 + (9 + x.2.2.length) := by
  intro f
  induction f with
  | zero => intro l at0 h; omega
  | succ f ih =>
    intro l at0 h
    unfold scanF
    by_cases h0 : l.length = 0
    · rw [if_pos h0]; rfl
    · rw [if_neg h0]
      by_cases h1 : (begF l).2.2.2 = 0
      · rw [if_neg (by simpa using h1)]
        obtain ⟨g1, g2, g3, g4⟩ := begF_good l h1
        have h2 := ih (l.drop (begF l).2.2.1) (at0 + (begF l).2.2.1) (by simp; omega)
        dsimp only
        rw [List.getLast?_cons]
        rw [h2]
        cases hl : (scanF f (l.drop (begF l).2.2.1) (at0 + (begF l).2.2.1)).1.getLast? with
        | none => simp; omega
        | some y => simp
      · rw [if_pos (by simpa using h1)]; rfl
theorem endFR_plain (xs : List FR) : endFR xs = match (xs.map plainFR).getLast? with | none => 0 | some x => x.1 + (9 + x.2.2.length) := by
  unfold endFR
  rw [List.getLast?_map]
  cases xs.getLast? <;> rfl
set_option maxRecDepth 100000 in
set_option maxHeartbeats 2000000 in
theorem frame_Scan (l : List UInt8) (a : Option Addr) (cap : Nat) (w : World) (h : BytesAt w a l) (hcap : l.length ≤ cap) (hl : l.length ≤ 1048576) :
    Calls Try.prog 6 #[.slice a l.length cap] w fun e w' =>
      ∃ (v : Value) (xs : List FR), e = .returned (.tuple #[v, .int .i64 ((scanF (l.length + 1) l 0).2.1 : Int), .int .i64 ((scanF (l.length + 1) l 0).2.2 : Int)]) ∧ xs.map plainFR = (scanF (l.length + 1) l 0).1 ∧ FrsAt w' w.heap.size v xs ∧ Below w.heap.size w w' := by
  obtain ⟨R, hR⟩ : ∃ R, scanF (l.length + 1) l 0 = R := ⟨_, rfl⟩
  have HE0 := scanF_end (l.length + 1) l 0 (by omega)
  rw [hR] at HE0 ⊢
  have HE := Lib.hid HE0
  have HR := Lib.hid hR
  clear HE0 hR
  refine (callsIn_wide (n := 3)).1 ?_
  refine callsIn_of_wp_marks Try.func6 rfl trivial ?_ rfl
  simp only [Try.ntmps6, List.size_toArray, List.length_cons, List.length_nil, Nat.reduceAdd, Nat.reduceSub, Array.replicate_succ, Array.replicate_zero, List.push_toArray, List.append_toArray, List.nil_append, List.cons_append]
  gi_wp2
  obtain ⟨s, hs⟩ : ∃ s, s = w.heap.size := ⟨_, rfl⟩
  have HS := Lib.hid hs
  obtain ⟨W3, hW3⟩ : ∃ W3, ((w.alloc (.cells #[.slice none 0 0] 24)).alloc (.cells #[.int .i64 0] 3)).alloc (.cells #[.int .i64 0] 25) = W3 := ⟨_, rfl⟩
  have z3 : W3.heap.size = s + 3 := by rw [← hW3, hs]; simp
  have b1 : Boxed W3 s 24 (.slice none 0 0) := by rw [← hW3, hs]; exact ((Boxed.new w _ _).alloc _).alloc _
  have b2 : Boxed W3 (s + 1) 3 (.int .i64 0) := by
    rw [← hW3, hs]
    have h1 := Boxed.new (w.alloc (.cells #[.slice none 0 0] 24)) 3 (.int .i64 0)
    rw [World.size_alloc] at h1
    exact h1.alloc _
  have b3 : Boxed W3 (s + 2) 25 (.int .i64 0) := by
    rw [← hW3, hs]
    have h1 := Boxed.new ((w.alloc (.cells #[.slice none 0 0] 24)).alloc (.cells #[.int .i64 0] 3)) 25 (.int .i64 0)
    rw [World.size_alloc, World.size_alloc] at h1
    exact h1
  have hb3 : Below s w W3 := by rw [← hW3, hs]; exact (((Below.refl _ w).alloc (Nat.le_refl _) _).alloc (by simp) _).alloc (by simp; omega) _
  rw [hW3, show w.heap.size + 1 + 1 = s + 2 by omega, show w.heap.size + 1 = s + 1 by omega, ← hs]
  clear hW3
  refine ⟨trivial, ?_⟩
  refine (callsIn_wide.2 (frame_walk _ _ _ _ W3)).mono ?_
  rintro e W5 ⟨rfl, hW5⟩
  have z5 : W5.heap.size = s + 5 := by rw [hW5]; simp [z3]
  have c1 : Boxed W5 s 24 (.slice none 0 0) := by rw [hW5]; exact (b1.alloc _).alloc _
  have c2 : Boxed W5 (s + 1) 3 (.int .i64 0) := by rw [hW5]; exact (b2.alloc _).alloc _
  have c3 : Boxed W5 (s + 2) 25 (.int .i64 0) := by rw [hW5]; exact (b3.alloc _).alloc _
  have c4 : Boxed W5 (s + 3) 22 (.slice a l.length cap) := by
    rw [hW5, ← z3]; exact (Boxed.new W3 _ _).alloc _
  have c5 : Boxed W5 (s + 4) 47 (.pointer (some ⟨s + 2, 0, none⟩)) := by
    have h1 := Boxed.new (W3.alloc (.cells #[.slice a l.length cap] 22)) 47 (.pointer (some ⟨s + 2, 0, none⟩))
    rw [World.size_alloc, z3] at h1
    rw [hW5]; exact h1
  have hb5 : Below s w W5 := by rw [hW5]; exact (hb3.alloc (by omega) _).alloc (by simp; omega) _
  rw [z3, show s + 3 + 1 = s + 4 from rfl]
  clear hW5 b1 b2 b3 z3 hs
  have hbytes : l ≠ [] → ∀ ad, a = some ad → ad.block < s + 5 ∧ ad.block ∉ [s, s + 1] := by
    intro hne ad hadr
    obtain ⟨b, off, e1, c⟩ := h 0 (List.length_pos_iff.2 hne)
    rw [hadr] at e1; cases e1
    have h1 := block_lt_of_cell c
    have h2 := HS.out
    simp at h1 ⊢; omega
  have HIter := walk_iter 2 (by omega) l a cap W5 (s + 5) [s, s + 1] (s + 3) (s + 4) (s + 2) 25 0 ((h.below hb5 (by exact HS.out)) ) hcap hl (by omega) c4 c5 c3 (by simp) (by simp) (by simp) hbytes
  rw [HR.out] at HIter
  gi_wp2
  refine range_lawH (n := 3) rfl (enters_of Try.func27 (by kernel_rfl) rfl) HIter (by omega) KeepB.trans (fun W l o o' hl _ _ => KeepB.put W l o' (by omega)) (fun x => rfl) (fun pre => newFR_own _ _ pre) ?_ (ScanX s w) (fun _ _ _ => False) (ScanF s w R) (scanX_own s w _ (by have := HS.out; omega) (by omega)) (fun _ _ _ _ _ h _ _ => h) (scanF_own s w R _ (by have := HS.out; omega) (by omega)) (fun xs A B h1 h2 => scan_end s w R xs A B h1 h2) ?_ (fun pre x a' W => newFR (s + 5) pre x W ∧ ∃ bx v, ScanV s w 0 v pre W ∧ W.heap[bx]? = some (.cells #[.int .i64 (x.2.1 : Int), x.2.2.1] 36 (0, 0)) ∧ v.ownBlock ≠ some bx ∧ a' = { tmps := #[.slice a l.length cap, undef, .slice none 0 0, .int .i64 0, .int .i64 0, .pointer (some ⟨s, 0, none⟩), .pointer (some ⟨s + 1, 0, none⟩), .pointer (some ⟨s + 2, 0, none⟩), .int .i64 (x.1 : Int), .pointer (some ⟨bx, 0, none⟩), .slice a l.length cap, .func (.func 27) #[] #[.pointer (some ⟨s + 3, 0, none⟩), .pointer (some ⟨s + 4, 0, none⟩)], .int .i64 (x.1 : Int), .agg #[.int .i64 (x.2.1 : Int), x.2.2.1], undef, undef, undef, undef, undef, undef, undef, undef, undef, undef, undef, undef], defers := [] }) ?_ ?assign ?body ?done ?stop
  · rintro xs A B ⟨_, rfl⟩
    by_cases hz : R.2.2 = 0
    · rw [if_pos hz]; exact KeepsOthers.refl _
    · rw [if_neg hz]; exact KeepsOthers.setCell _ _ _
  · exact ⟨_, c1, c2, ⟨World.ownsRow_nil _ _ _ _, by simp, .nil⟩, c3, hb5⟩
  · rintro x a' pre A A' row ⟨h2, bx, v, h1, h3, h4, h6⟩ hg hr
    exact ⟨newFR_own _ _ pre x A A' row h2 hg hr, bx, v, scanV_own s w 0 v _ (by have := HS.out; omega) (by omega) pre A A' row h1 hg hr, heap_kept hg (fun r e => (hr r e).2) h3, h4, h6⟩
  case assign =>
    rintro ll pre ⟨at0, k, v, body⟩ W K hi hx hsz hK
    obtain ⟨hx0, B, hB, hown, hlt⟩ := hx
    dsimp only at hx0 hown hlt
    obtain ⟨va, vc, rfl⟩ := own_shape hown
    generalize hvn : body.length = vn at *
    have HVN := Lib.hid hvn
    clear hvn
    obtain ⟨vl, hi⟩ := hi
    have HI := Lib.hid hi
    have HNE : Hid (vl.ownBlock ≠ some W.heap.size) := Lib.hid (fun e => by have := own_lt hi.2.2.1.row _ e; omega)
    have HX : Hid (newFR (s + 5) pre (at0, k, .slice va vn vc, body) W) := Lib.hid ⟨by dsimp only; rw [HVN.out]; exact hx0, B, hB, own_len2 hown HVN.out, hlt⟩
    clear hi hown hlt hx0
    simp only [encFR, List.zip_toArray, List.zip_cons_cons, List.zip_nil_right, List.foldl_toArray, List.foldl_cons, List.foldl_nil]
    gi_wp2
    refine hK _ _ (KeepsOthers.alloc _ _) (KeepB.below ((Below.refl _ W).alloc (by omega) _)) (by simp; omega) ⟨(newFR_own _ 0 pre).alloc _ HX.out, W.heap.size, vl, (scanV_own s w 0 vl (s + 5) (by have := HS.out; omega) (by omega)).alloc _ HI.out, World.alloc_heap_new W _, HNE.out, rfl⟩
  case body =>
    rintro ll pre ⟨at0, k, v, body⟩ a' W ⟨hX, bx, vl, hV, hbx, hne, rfl⟩ hsz
    obtain ⟨hx0, B, hB, hown, hlt⟩ := hX
    dsimp only at hx0 hown hlt hbx
    obtain ⟨va, vc, rfl⟩ := own_shape hown
    generalize hvn : body.length = vn at *
    have HVN := Lib.hid hvn
    clear hvn
    have HX : Hid (newFR (s + 5) pre (at0, k, .slice va vn vc, body) W) := Lib.hid ⟨by dsimp only; rw [HVN.out]; exact hx0, B, hB, own_len2 hown HVN.out, hlt⟩
    have HV := Lib.hid hV
    have hrow := hV.2.2.1.row
    have e1 := hV.1.cell
    obtain ⟨x0, x1⟩ := box2 hbx
    obtain ⟨i0, hi, hz0, hz1, hz2⟩ := info_parts infoFr
    clear hV hown hlt
    gi_wp2_with (first
      | (gi_at_builtin; refine wpListIn_append_own _ rfl _ _ 24 rfl (s + 5) 36 i0 (.agg #[.int .i64 0, .slice none 0 0]) 2 32 Try.underlying24 hi hz0 hz1 hz2 rfl (by decide) _ _ _ rfl (hrow.alloc _) ⟨W.heap.size, 0, none⟩ 1 1 [.int .i64 (k : Int), .slice va vn vc] rfl rfl (cell_two_new _ _ _ _) (by simp [Value.oneCell']) (by simp only [maxLen]; omega) (by omega) (by simp; omega) ?_; intro v' w1 hown' hgrow _; obtain ⟨g', cap', rfl⟩ := ownsRow_succ hown'; have HO1 := Lib.hid hown'; have HG1 := Lib.hid hgrow; clear hown' hgrow; obtain ⟨m1, m2, m3⟩ := scan_mid HV.out HG1.out; have p1 := m1.cell; have p2 := m2.cell; have q1 := m1.frozen; have q2 := m2.frozen; obtain ⟨y0, y1⟩ := box2 ((HG1.out.block bx (by have := (Array.getElem?_eq_some_iff.1 hbx).1; simp; omega) (fun e => hne e.symm)).trans ((Below.heap_alloc _ _ _ (Array.getElem?_eq_some_iff.1 hbx).1).trans hbx)))
      | (refine ⟨trivial, ?_⟩; gi_at_call 16; refine (CallsIn.inRound ll (callsIn_wide.2 (frame_Size _ _ _ _ (by omega)))).mono ?_; rintro e w9 ⟨rfl, rfl⟩))
    obtain ⟨r1, r2, r3⟩ := scan_step HV.out (by omega) HX.out HG1.out HO1.out ((at0 : Int) + (9 + (vn : Int))) (by dsimp only; rw [HVN.out]; simp)
    exact ⟨r2, r3, _, r1⟩
  case done =>
    rintro D xs W hD ⟨⟨v, hV⟩, hmap⟩ hK
    have e1 := hV.1.cell
    have e2 := hV.2.1.cell
    have e3 := hV.2.2.2.1.cell
    have HK := Lib.hid hK
    have HV := Lib.hid hV
    clear hV hK
    simp only [Exit.inBlock]
    gi_wp2
    refine (wpIn_wide (n := 3)).2 ?_
    go_quiet (fail)
    gi_wp2
    have hend : endFR xs = R.2.1 := by rw [endFR_plain, hmap, HE.out]
    have hV1 : ScanV s w (R.2.2 : Int) v xs (W.drewN nq) := scanV_own s w _ v s (by have := HS.out; omega) (Nat.le_refl _) xs W _ none HV.out (grown_of_below (below_drews (Below.refl _ W) nq) none) (fun r e => by cases e)
    have hK1 : (W.drewN nq).heap[D]? = some (.deferred (some [])) := HK.out
    have hV2 := (scanV_own s w (R.2.2 : Int) v s (by have := HS.out; omega) (Nat.le_refl _)).putObj (.deferred none) hV1 (by omega) hK1 rfl
    refine ⟨by simp, .inl ⟨_, _, rfl, run_takeDeferred hK1, ?_⟩⟩
    refine ⟨_, results_tmp3 rfl _ _ _, v, xs, ?_, hmap, ?_, ?_⟩
    · rw [← hend]; rfl
    · rw [← HS.out]; exact hV2.2.2.1.mono (by omega)
    · rw [← HS.out]; exact hV2.2.2.2.2
  case stop =>
    rintro D c pre W _ _ h _
    exact h.elim
end Go.Proofs.Ytpbjhfajekfjeaa

