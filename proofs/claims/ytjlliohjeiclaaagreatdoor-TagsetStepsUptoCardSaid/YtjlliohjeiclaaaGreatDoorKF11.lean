/- Words, contracts and walks that the proof stands on (Range2 HeldW KeepE Round PmIS PmJS PmKS Marks RowK). -/
import Derived.Deep.RegionHeld3
import Derived.Laws.EntriesVeiled
import Derived.LoopIn
import Derived.LoopNIn
import Derived.OneCell
import Derived.OwnWalkIn
import Derived.RangeFuncBound
import Derived.RangeFuncBox
import Derived.RangeFuncCalls
import Derived.RangeFuncFrom
import Derived.RangeFuncKeeps
import Derived.RangeFuncLeaves
import Derived.RangeFuncNested
import Derived.RangeFuncWrites
import Derived.Shelf.Abstract
import Derived.Shelf.RegionOpen
import Derived.TacticsInMore
import Derived.Test.YtjlliohjeiclaaaGreatDoorKF1
import Derived.Test.YtjlliohjeiclaaaGreatDoorKF10
import Derived.Test.YtjlliohjeiclaaaGreatDoorKF4
import Derived.Test.YtjlliohjeiclaaaGreatDoorKF9
namespace Go.Proofs.YtjlliohjeiclaaaGreatDoor
open Go.RowKit
def Iter2 {α : Type} (n : Nat) (P : Program) (g : Nat) (lb : Array Value) (encs : α → Array Value) (Kp : World → World → Prop) (X : List α → α → World → Prop) (End : World → List α → World → World → Prop) (Sp : List α → Prop) (w : World) : Prop :=
 ∀ (l : Nat) (J Jx : List α → World → Prop) (W : World), Below w.heap.size w W → w.heap.size + 2 ≤ W.heap.size →
  OwnFrom W.heap.size J → OwnFrom W.heap.size Jx →
  (∀ pre x W1, J pre W1 → X pre x W1 → YieldAt Fence.wide (n - 1) P l (encs x) W1 fun e W' =>
   (e = .returned (.bool true) ∧ J (pre ++ [x]) W' ∧ Kp W1 W') ∨ (e = .returned (.bool false) ∧ Jx (pre ++ [x]) W' ∧ Kp W1 W')) →
  J [] W →
  CallsIn Fence.wide n P g (#[.func (.yield l) #[] #[]] ++ lb) W fun e W' => (∃ v, e = .returned v) ∧ ((∃ xs W2, J xs W2 ∧ End W xs W2 W') ∨ (∃ pre, Sp pre ∧ Jx pre W'))
def bodyPostR2 {α : Type} (B : Nat) (Kp : World → World → Prop) (I : List α → World → Prop) (Ix : Code → List α → World → Prop) (xs : List α) (W : World) : Exit → Act → World → Prop
 | .normal, _, W' => KeepsFrom B W W' ∧ Kp W W' ∧ I xs W'
 | .ret, _, W' => KeepsFrom B W W' ∧ Kp W W' ∧ Ix .ret xs W'
 | .exit id, _, W' => KeepsFrom B W W' ∧ Kp W W' ∧ Ix (.exit id) xs W'
 | .goto t, _, W' => KeepsFrom B W W' ∧ Kp W W' ∧ Ix (.goto t) xs W'
 | .panic _, _, _ => False
 | .outgrown, _, _ => False
variable {P : Program} {n : Nat}
theorem range_law2 {α : Type} {g : Operand} {ps : Array Tmp} {assign body : Code} {Q : Exit → Act → World → Prop} {a : Act} {w : World} {gf : Nat} {lb : Array Value}
 (hg : a.eval g = .func (.func gf) #[] lb) (eg : ∀ args w, (callFunc gf args).run P w = .ok (.enter gf args) w)
 {encs : α → Array Value} {Kp : World → World → Prop} {X : List α → α → World → Prop} {End : World → List α → World → World → Prop} {Sp : List α → Prop} (hseq : Iter2 (n - 1) P gf lb encs Kp X End Sp w)
 (h1 : 1 ≤ n) (hKt : ∀ {A B C : World}, Kp A B → Kp B C → Kp A C) (hKb : ∀ (W : World) (o o' : Obj), W.heap[w.heap.size + 1]? = some o → o.isCells = false → Kp W (W.putObj (w.heap.size + 1) o'))
 (hps : ∀ x, (encs x).size = ps.size) (hX : ∀ pre, OwnFrom w.heap.size (X pre)) (hEnd : ∀ W1, w.heap.size + 2 ≤ W1.heap.size → ∀ xs A B, End W1 xs A B → ∀ k o, k < w.heap.size + 2 → A.heap[k]? = some o → o.isCells = false → B.heap[k]? = some o)
 (I : List α → World → Prop) (Ix : Code → List α → World → Prop) (F : List α → World → Prop) (hI : OwnFrom w.heap.size I) (hIx : ∀ c, OwnFrom w.heap.size (Ix c)) (hF : OwnFrom w.heap.size F) (hIF : ∀ W1, w.heap.size + 2 ≤ W1.heap.size → ∀ xs A B, I xs A → End W1 xs A B → F xs B)
 (h0 : I [] w) (Y : List α → α → Act → World → Prop) (hY : ∀ x a', OwnFrom w.heap.size (fun pre => Y pre x a'))
 (hassign : ∀ (l : Nat) (pre : List α) (x : α) (W : World) (K : Act → World → Prop), I pre W → X pre x W → w.heap.size ≤ W.heap.size →
  (∀ a' W', KeepsFrom w.heap.size W W' → Kp W W' → w.heap.size ≤ W'.heap.size → Y pre x a' W' → K a' W') →
  assign.wpIn (Fence.wide.inRound l) (n - 1 - 1) P (Exit.then K (fun _ _ _ => False)) { tmps := (ps.zip (encs x)).foldl (fun t (p, v) => t.setIfInBounds p v) a.tmps, defers := [] } W)
 (hbody : ∀ (l : Nat) (pre : List α) (x : α) (a' : Act) (W : World), Y pre x a' W → w.heap.size ≤ W.heap.size → body.wpIn (Fence.wide.inRound l) (n - 1 - 1) P (bodyPostR2 w.heap.size Kp I Ix (pre ++ [x]) W) a' W)
 (hdone : ∀ (D : Nat) (xs : List α) (W : World), w.heap.size ≤ D → F xs W → W.heap[D]? = some (.deferred (some [])) → Q .normal { a with defers := { target := .collected D, args := #[] } :: a.defers } W)
 (hstop : ∀ (D : Nat) (c : Code) (pre : List α) (W : World), w.heap.size ≤ D → Sp pre → Ix c pre W → W.heap[D]? = some (.deferred (some [])) → c.wpIn Fence.wide n P Q { a with defers := { target := .collected D, args := #[] } :: a.defers } W) :
 (Code.rangeFunc g ps assign body).wpIn Fence.wide n P Q a w := by
 refine wpIn_rangeFunc fun fn hfn => ?_
 obtain ⟨rec, hrec⟩ : ∃ rec : LoopState → Option Code → Loop, rec = fun st pe => { state := st, pending := pe, fn, tmps := a.tmps, params := ps, assign, body, defers := w.heap.size } := ⟨_, rfl⟩
 obtain ⟨W1, hW1⟩ : ∃ W1, (w.alloc (.deferred (some []))).alloc (.loop (rec .ready none)) = W1 := ⟨_, rfl⟩
 have hb1 : Below w.heap.size w W1 := by
  rw [← hW1]; exact (below_new w _).alloc (by simp) _
 have hL1 : W1.heap[w.heap.size + 1]? = some (.loop (rec .ready none)) := by
  have h := World.alloc_heap_new (w.alloc (.deferred (some []))) (.loop (rec .ready none))
  rw [World.size_alloc, hW1] at h
  exact h
 have hK1 : W1.heap[w.heap.size]? = some (.deferred (some [])) := by
  rw [← hW1]; exact (Below.heap_alloc _ _ _ (by simp)).trans (World.alloc_heap_new w _)
 refine ⟨w.heap.size + 1, [{ target := .collected w.heap.size, args := #[] }], W1, { target := .fn (.func gf) lb, args := #[.func (.yield (w.heap.size + 1)) #[] #[]] }, W1, gf,
  #[.func (.yield (w.heap.size + 1)) #[] #[]] ++ lb, W1, ?_, ?_, ?_, ?_, fun _ => h1, ?_⟩
 · rw [← hW1, hrec]; exact run_enterLoop_outer _ _ _ _ _
 · simp only [resolve, hg]
   simp [go_sem]
 · intro f' _; trivial
 · simp [invoke, go_sem, eg]
 · have keepRec : ∀ {A B : World} {k : Nat} {o : Obj}, A.heap[k]? = some o → Below A.heap.size A B → B.heap[k]? = some o := fun hk hb => (hb.block _ (Array.getElem?_eq_some_iff.1 hk).1).trans hk
   have hsz1 : W1.heap.size = w.heap.size + 2 := by rw [← hW1]; simp
   have key : ∀ {A A' : World} {row : Option Nat}, A.grownBy A' row → (∀ r, row = some r → W1.heap.size ≤ r ∧ ∃ o : Obj, A.heap[r]? = some o ∧ o.isCells = false) → ∀ k o, A.heap[k]? = some o → k < W1.heap.size → A'.heap[k]? = some o := fun hg hr k o hk hlt => (hg.block k (Array.getElem?_eq_some_iff.1 hk).1 (fun e => by have := (hr k e.symm).1; omega)).trans hk
   have hJo : OwnFrom W1.heap.size (fun pre W => I pre W ∧ W.heap[w.heap.size + 1]? = some (.loop (rec .ready none)) ∧ W.heap[w.heap.size]? = some (.deferred (some []))) := by
    rintro s A A' row ⟨h1, h2, h3⟩ hg hr
    exact ⟨hI s A A' row h1 hg (fun r e => ⟨by have := (hr r e).1; omega, (hr r e).2⟩), key hg hr _ _ h2 (by omega), key hg hr _ _ h3 (by omega)⟩
   have hJxo : OwnFrom W1.heap.size (fun pre W => ∃ c, Ix c pre W ∧ W.heap[w.heap.size + 1]? = some (.loop (rec .done (some c))) ∧ W.heap[w.heap.size]? = some (.deferred (some []))) := by
    rintro s A A' row ⟨c, h1, h2, h3⟩ hg hr
    exact ⟨c, hIx c s A A' row h1 hg (fun r e => ⟨by have := (hr r e).1; omega, (hr r e).2⟩), key hg hr _ _ h2 (by omega), key hg hr _ _ h3 (by omega)⟩
   refine (hseq (w.heap.size + 1)
    (fun pre W => I pre W ∧ W.heap[w.heap.size + 1]? = some (.loop (rec .ready none)) ∧ W.heap[w.heap.size]? = some (.deferred (some [])))
    (fun pre W => ∃ c, Ix c pre W ∧ W.heap[w.heap.size + 1]? = some (.loop (rec .done (some c))) ∧ W.heap[w.heap.size]? = some (.deferred (some [])))
    W1 hb1 (by omega) hJo hJxo ?_ ⟨ownFrom_to hI h0 hb1, hL1, hK1⟩).mono ?_
   · rintro pre x W ⟨hi, hl, hk⟩ hx
     have hlt : w.heap.size + 1 < W.heap.size := (Array.getElem?_eq_some_iff.1 hl).1
     have hy := run_yield (P := P) (args := encs x) hl (by rw [hrec]; exact hps x)
     rw [hrec] at hy
     refine ⟨fn, _, assign, body, hy, roundIn_of_wpIn hfn (hassign _ pre x W _ hi hx (by omega) ?_)⟩
     intro a' Wa hkoa hkpa hsa hYa
     have hla := hkoa.same _ _ (by omega) hl rfl
     have hka := hkoa.same _ _ (by omega) hk rfl
     have hlta : w.heap.size + 1 < Wa.heap.size := (Array.getElem?_eq_some_iff.1 hla).1
     refine ⟨_, run_beginRound hla (by rw [hrec]), ?_⟩
     obtain ⟨W2, hW2⟩ : ∃ W2, Wa.putObj (w.heap.size + 1) (.loop { rec .ready none with state := .busy }) = W2 := ⟨_, rfl⟩
     have hl2 : W2.heap[w.heap.size + 1]? = some (.loop { rec .ready none with state := .busy }) := by rw [← hW2]; exact World.putObj_heap_same hlta
     have hk2 : W2.heap[w.heap.size]? = some (.deferred (some [])) := by rw [← hW2]; exact (World.putObj_heap_other (by omega)).trans hka
     have hw2 : Kp W W2 := by rw [← hW2]; exact hKt hkpa (hKb _ _ _ hla rfl)
     have hY2 : Y pre x a' W2 := by rw [← hW2]; exact (hY x a').putObj _ hYa (by omega) hla rfl
     have hs2 : w.heap.size ≤ W2.heap.size := by rw [← hW2, World.putObj_size]; omega
     rw [hW2]
     refine wpIn_mono (hbody _ pre x a' _ hY2 hs2) ?_
     have fin : ∀ (jump : Option Code) (W3 : World), KeepsFrom w.heap.size W2 W3 →
      (Instr.endRound (w.heap.size + 1) jump).run P W3 = .ok (.bool jump.isNone) (W3.putObj (w.heap.size + 1) (.loop (rec (if jump.isNone then .ready else .done) jump))) ∧
      W3.heap[w.heap.size + 1]? = some (.loop { rec .ready none with state := .busy }) ∧
      (W3.putObj (w.heap.size + 1) (.loop (rec (if jump.isNone then .ready else .done) jump))).heap[w.heap.size + 1]? = some (.loop (rec (if jump.isNone then .ready else .done) jump)) ∧
      (W3.putObj (w.heap.size + 1) (.loop (rec (if jump.isNone then .ready else .done) jump))).heap[w.heap.size]? = some (.deferred (some [])) := by
      intro jump W3 hk3
      have hl3 := hk3.same _ _ (by omega) hl2 rfl
      have h4 := run_endRound (P := P) jump hl3
      rw [hrec] at h4 ⊢
      rw [hrec] at hl3
      exact ⟨h4, hl3, World.putObj_heap_same (Array.getElem?_eq_some_iff.1 hl3).1, (World.putObj_heap_other (by omega)).trans (hk3.same _ _ (by omega) hk2 rfl)⟩
     rintro e a3 W3 hp
     cases e with
     | normal =>
      obtain ⟨hk3, hkp3, hi3⟩ := hp
      obtain ⟨hr, hl3, hl4, hk4⟩ := fin none W3 hk3
      exact ⟨_, _, hr, .inl ⟨rfl, ⟨hI.putObj _ hi3 (by omega) hl3 rfl, hl4, hk4⟩, hKt (hKt hw2 hkp3) (hKb _ _ _ hl3 rfl)⟩⟩
     | ret =>
      obtain ⟨hk3, hkp3, hi3⟩ := hp
      obtain ⟨hr, hl3, hl4, hk4⟩ := fin (some .ret) W3 hk3
      exact ⟨_, _, hr, .inr ⟨rfl, ⟨.ret, (hIx _).putObj _ hi3 (by omega) hl3 rfl, hl4, hk4⟩, hKt (hKt hw2 hkp3) (hKb _ _ _ hl3 rfl)⟩⟩
     | exit id =>
      obtain ⟨hk3, hkp3, hi3⟩ := hp
      obtain ⟨hr, hl3, hl4, hk4⟩ := fin (some (.exit id)) W3 hk3
      exact ⟨_, _, hr, .inr ⟨rfl, ⟨.exit id, (hIx _).putObj _ hi3 (by omega) hl3 rfl, hl4, hk4⟩, hKt (hKt hw2 hkp3) (hKb _ _ _ hl3 rfl)⟩⟩
     | goto t =>
      obtain ⟨hk3, hkp3, hi3⟩ := hp
      obtain ⟨hr, hl3, hl4, hk4⟩ := fin (some (.goto t)) W3 hk3
      exact ⟨_, _, hr, .inr ⟨rfl, ⟨.goto t, (hIx _).putObj _ hi3 (by omega) hl3 rfl, hl4, hk4⟩, hKt (hKt hw2 hkp3) (hKb _ _ _ hl3 rfl)⟩⟩
     | panic ch => exact hp.elim
     | outgrown => exact hp.elim
   · rintro e W2 ⟨⟨v, rfl⟩, (⟨xs, W3, ⟨hi, hl, hk⟩, he⟩ | ⟨pre, hSp, c, hi, hl, hk⟩)⟩
     · have ho := hEnd _ (by omega) _ _ _ he
       have hl3 := ho _ _ (by omega) hl rfl
       have hk3 := ho _ _ (by omega) hk rfl
       exact ⟨none, _, by have h4 := run_endLoop (P := P) hl3 (by rw [hrec]; simp); rw [hrec] at h4; exact h4, hdone _ xs _ (Nat.le_refl _) (hF.putObj _ (hIF _ (by omega) _ _ _ hi he) (by omega) hl3 rfl) ((World.putObj_heap_other (by omega)).trans hk3)⟩
     · exact ⟨some c, _, by have h4 := run_endLoop (P := P) hl (by rw [hrec]; simp); rw [hrec] at h4; exact h4, hstop _ c pre _ (Nat.le_refl _) hSp ((hIx c).putObj _ hi (by omega) hl rfl) ((World.putObj_heap_other (by omega)).trans hk)⟩
end Go.Proofs.YtjlliohjeiclaaaGreatDoor
namespace Go.Proofs.YtjlliohjeiclaaaGreatDoor
open Go.RowKit
section
variable {P : Program} {n : Nat} {md : Region.Mode} {ops : Array Oper} {Q : Exit → Act → World → Prop} {S : World → Prop}
def stepW (n : Nat) (P : Program) (ops : Array Oper) (Q : Exit → Act → World → Prop) (i : Nat) (K : Act → World → Prop) (a : Act) (w : World) : Prop := wpOpIn Fence.wide n P ops Q i K a w
def anyW (n : Nat) (P : Program) (md : Region.Mode) (ops : Array Oper) (Q : Exit → Act → World → Prop) (S : World → Prop) : Nat → Array Bool → Act → World → Prop
 | 0, listed, a, w => Region.ready md ops listed = [] ∧ Q .normal a w
 | fuel + 1, listed, a, w => (Region.ready md ops listed = [] → Q .normal a w) ∧ ∀ i ∈ Region.ready md ops listed, stepW n P ops Q i (fun a' w' => S w' ∧ anyW n P md ops Q S fuel (listed.setIfInBounds i true) a' w') a w
theorem anyW_in : ∀ (fuel : Nat) (listed : Array Bool) (a : Act) (w : World), anyW n P md ops Q S fuel listed a w → wpAnyIn Fence.wide n P md ops Q fuel listed a w
 | 0, _, _, _, h => h
 | fuel + 1, _, _, _, h => ⟨h.1, fun i hi => wpOpIn_mono (fun a' w' h' => anyW_in fuel _ a' w' h'.2) (h.2 i hi)⟩
def OnlyE (Q : Exit → Act → World → Prop) : Exit → Act → World → Prop
 | .normal, a, w => Q .normal a w
 | _, _, _ => False
theorem OnlyE.normal {a : Act} {w : World} (h : Q .normal a w) : OnlyE Q .normal a w := h
theorem region_wide {id : Nat} {a : Act} {w : World} (hm : P.follows .mixedOrders = true) (hS : S w.drew)
 (h : S w.drew → anyW n P .any ops (OnlyE Q) S ops.size (Array.replicate ops.size false) a w.drew) : (Code.region id ops true).wpIn Fence.wide n P Q a w :=
 wpIn_mono (Q := OnlyE Q) (wpIn_region_any hm (anyW_in _ _ _ _ (h hS))) (fun e a w h => by cases e <;> first | exact h | exact h.elim)
theorem stepW_yields {i : Nat} {o : Oper} {v : Value} {a : Act} {K : Act → World → Prop} {w : World} (hi : ops[i]? = some o) (hy : YieldsIf P ops S o v a) (hS : S w) (h : K (a.put o.dst v) w) : stepW n P ops Q i K a w := by
 unfold stepW wpOpIn
 simp only [hi]
 rcases hy with ⟨hw, hv⟩ | ⟨hw, rfl⟩
 · rw [if_pos hw]
   refine ⟨fun f _ => trivial, ?_⟩
   rw [show Fence.wide.round = none from rfl, Oper.semAt_none, hv w hS]
   exact h
 · rw [if_neg (by rw [hw]; exact Bool.false_ne_true)]
   exact ⟨fun f _ => trivial, h⟩
theorem stepW_other {j : Nat} {oi oj : Oper} {v : Value} {K : Act → World → Prop} {a : Act} {w : World} (hj : ops[j]? = some oj) (hap : oi.apart ops oj = true)
 (hsi : ∀ cs b, oi.op ≠ .select cs b) (hsj : ∀ cs b, oj.op ≠ .select cs b) (hQ : ∀ c a w, Q (.panic c) (a.put oi.dst v) w → Q (.panic c) a w)
 (hy : YieldsIf P ops S oi v a) (h : stepW n P ops Q j K (a.put oi.dst v) w) : stepW n P ops Q j (fun a' w' => YieldsIf P ops S oi v a' ∧ K (a'.put oi.dst v) w') a w := by
 obtain ⟨d1, d2, d3⟩ := Oper.apart_spec hap
 have put : ∀ (b : Act) (u : Value), YieldsIf P ops S oi v b → YieldsIf P ops S oi v (b.put oj.dst u) := fun b u hb => hb.of_same (execOp_put oi hsi b oj.dst u d3) (wanted_put oi b oj.dst u d3)
 have def' : ∀ d, YieldsIf P ops S oi v { a with defers := d :: a.defers } := fun d => hy.of_same rfl rfl
 have both : ∀ (b : Act) (u : Value) (w' : World), YieldsIf P ops S oi v b → K ((b.put oi.dst v).put oj.dst u) w' → YieldsIf P ops S oi v (b.put oj.dst u) ∧ K ((b.put oj.dst u).put oi.dst v) w' := fun b u w' hb hk => ⟨put b u hb, by rw [← Act.put_comm b v u d2]; exact hk⟩
 unfold stepW wpOpIn at h ⊢
 simp only [hj] at h ⊢
 rw [wanted_put oj a oi.dst v d1] at h
 by_cases hw : Region.wanted oj (yielded ops a.tmps) = true
 · rw [if_pos hw] at h ⊢
   refine ⟨fun f _ => trivial, ?_⟩
   have h2 := h.2
   rw [show Fence.wide.round = none from rfl, Oper.semAt_none, execOp_put oj hsj a oi.dst v d1] at h2
   rw [show Fence.wide.round = none from rfl, Oper.semAt_none]
   generalize (execOp a.eval oj).run P w = r at h2 ⊢
   match r, h2 with
   | .ok (.value u) w', h2 => exact both a u w' hy h2
   | .ok .skip w', h2 => exact both a undef w' hy h2
   | .ok (.defer d) w', h2 =>
    refine both { a with defers := d :: a.defers } undef w' (def' d) ?_
    rw [← Act.put_defers]
    exact h2
   | .ok (.enter f args) w', h2 =>
    refine ⟨h2.1, CallsIn.mono h2.2 fun e w'' he => ?_⟩
    match e, he with
    | .returned u, he => exact both a u w'' hy he
    | .panicked c, he => exact hQ _ _ _ he
    | .outgrown, he => exact he
   | .ok (.row row args) w', h2 => exact ⟨h2.1, RowsIn.mono h2.2 fun u w'' he => both a u w'' hy he⟩
   | .ok (.round l f tmps assign body) w', h2 =>
    refine ⟨h2.1, RoundIn.mono h2.2 fun e w'' he => ?_⟩
    match e, he with
    | .returned u, he => exact both a u w'' hy he
    | .panicked c, he => exact hQ _ _ _ he
    | .outgrown, he => exact he
   | .halt (.panic u) w', h2 => exact hQ _ _ _ h2
 · rw [if_neg hw] at h ⊢
   exact ⟨fun f _ => trivial, both a undef w hy h.2⟩
theorem anyW_take {i : Nat} {oi : Oper} {v : Value} (hi : ops[i]? = some oi) (hs : Region.noSelect ops = true) (hQ : ∀ c a w, Q (.panic c) (a.put oi.dst v) w → Q (.panic c) a w) :
 ∀ {fuel : Nat} {listed : Array Bool} {a : Act} {w : World}, Region.free md ops listed i = true → (Region.ready md ops listed).contains i = true → YieldsIf P ops S oi v a → S w →
  anyW n P md ops Q S fuel (listed.setIfInBounds i true) (a.put oi.dst v) w → anyW n P md ops Q S (fuel + 1) listed a w := by
 have hsel := Region.noSelect_spec hs
 have main : ∀ (fuel : Nat) (listed : Array Bool) (a : Act) (w : World), (∀ j oj, ops[j]? = some oj → j ≠ i → listed.getD j true = false → (∀ e ∈ oj.after, Region.binds md e = true → e.on ≠ i) → oi.apart ops oj = true) →
  i ∈ Region.ready md ops listed → YieldsIf P ops S oi v a → S w → anyW n P md ops Q S fuel (listed.setIfInBounds i true) (a.put oi.dst v) w → anyW n P md ops Q S (fuel + 1) listed a w := by
  intro fuel
  induction fuel with
  | zero =>
   intro listed a w _ hr hy hS H
   refine ⟨fun h => absurd hr (by rw [h]; exact List.not_mem_nil), fun j hj => ?_⟩
   by_cases e : j = i
   · subst e; exact stepW_yields hi hy hS ⟨hS, H⟩
   · have := ready_mono hj e
     rw [H.1] at this
     exact absurd this List.not_mem_nil
  | succ fuel ih =>
   intro listed a w hf hr hy hS H
   refine ⟨fun h => absurd hr (by rw [h]; exact List.not_mem_nil), fun j hj => ?_⟩
   by_cases e : j = i
   · subst e; exact stepW_yields hi hy hS ⟨hS, H⟩
   · obtain ⟨hun, oj, hoj, hall⟩ := mem_ready.1 hj
     have hun0 := (mem_ready.1 hr).1
     have hno : ∀ e ∈ oj.after, Region.binds md e = true → e.on ≠ i := by
      intro e he hb hei
      have h1 := hall e he hb
      rw [hei] at h1
      rcases Nat.lt_or_ge i listed.size with hlt | hge
      · simp [hlt] at hun0 h1; rw [hun0] at h1; cases h1
      · simp [Array.getElem?_eq_none hge] at h1
     have hstep := stepW_other hoj (hf j oj hoj e hun hno) (fun cs b => hsel i oi cs b hi) (fun cs b => hsel j oj cs b hoj) hQ hy (H.2 j (ready_mono hj e))
     refine wpOpIn_mono (fun a' w' h3 => ⟨h3.2.1, ih (listed.setIfInBounds j true) a' w' ?_ (ready_mono hr (Ne.symm e)) h3.1 h3.2.1 ?_⟩) hstep
     · intro k ok hk hki hunk hnok
       refine hf k ok hk hki ?_ hnok
       by_cases hjk : j = k
       · subst hjk; exact hun
       · rw [getD_set_ne true hjk] at hunk; exact hunk
     · rw [Array.setIfInBounds_comm _ _ e]
       exact h3.2.2
 intro fuel listed a w hf hr
 exact main fuel listed a w (Region.free_spec hi hf) (by simpa using hr)
theorem anyW_done {listed : Array Bool} {a : Act} {w : World} (hr : Region.ready md ops listed = []) (h : Q .normal a w) : ∀ fuel, anyW n P md ops Q S fuel listed a w
 | 0 => ⟨hr, h⟩
 | _ + 1 => ⟨fun _ => h, by rw [hr]; simp⟩
theorem anyW_one {i : Nat} {o : Oper} {fuel : Nat} {listed : Array Bool} {a : Act} {w : World} (hr : Region.ready md ops listed = [i]) (ho : ops[i]? = some o) (hw : Region.wanted o (yielded ops a.tmps) = true)
 (h : ∀ K : Act → World → Prop, Shut (∀ a w, S w → anyW n P md ops Q S fuel (listed.setIfInBounds i true) a w → K a w) → Oper.wpIn Fence.wide n P o a w K Q) : anyW n P md ops Q S (fuel + 1) listed a w := by
 refine ⟨fun h0 => (by rw [hr] at h0; cases h0), fun j hj => ?_⟩
 rw [hr] at hj
 obtain rfl := List.mem_singleton.1 hj
 unfold stepW wpOpIn
 simp only [ho]
 rw [if_pos hw]
 exact h _ (fun a w hS hW => ⟨hS, hW⟩)
theorem op_wide {o : Oper} {a : Act} {w : World} {K : Act → World → Prop} (h : o.wp P a w K Q) : o.wpIn Fence.wide n P a w K Q := by
 unfold Oper.wpIn
 refine ⟨fun f _ => trivial, ?_⟩
 rw [show Fence.wide.round = none from rfl, Oper.semAt_none]
 unfold Oper.wp at h
 generalize (execOp a.eval o).run P w = r at *
 have hdep : Fence.wide.depth.isSome = true → 1 ≤ n := fun hh => by cases (show false = true from hh)
 match r, h with
 | .ok (.value v) w', h => exact h
 | .ok .skip w', h => exact h
 | .ok (.defer d) w', h => exact h
 | .ok (.enter f args) w', h => exact ⟨hdep, callsIn_wide.2 h⟩
 | .ok (.row row args) w', h => exact ⟨hdep, fun c cs _ => let ⟨v, w', r, s⟩ := h c cs; ⟨v, w', r, stepsIn_wide.2 s⟩⟩
 | .halt (.panic v) w', h => exact h
end
end Go.Proofs.YtjlliohjeiclaaaGreatDoor
namespace Go.Proofs.YtjlliohjeiclaaaGreatDoor
open Go.RowKit
structure KeepE (M : Nat) (S : Nat → Prop) (Ex : TypeId → Prop) (A B : World) : Prop where
 os : B.os = A.os
 tape : B.tape = A.tape
 output : B.output = A.output
 size : A.heap.size ≤ B.heap.size
 block : ∀ k, S k → B.heap[k]? = A.heap[k]?
 rest : ∀ k o, M ≤ k → A.heap[k]? = some o → (∀ c t fr, o = .cells c t fr → ¬ Ex t) → B.heap[k]? = some o
theorem KeepE.trans {M : Nat} {S : Nat → Prop} {Ex : TypeId → Prop} {A B C : World} (h : KeepE M S Ex A B) (k : KeepE M S Ex B C) : KeepE M S Ex A C :=
 ⟨k.os.trans h.os, k.tape.trans h.tape, k.output.trans h.output, Nat.le_trans h.size k.size, fun i hi => (k.block i hi).trans (h.block i hi), fun i o hi ho ht => k.rest i o hi (h.rest i o hi ho ht) ht⟩
theorem KeepE.below {M : Nat} {S : Nat → Prop} {Ex : TypeId → Prop} {A B : World} (h : Below A.heap.size A B) (hS : ∀ k, S k → k < A.heap.size) : KeepE M S Ex A B :=
 ⟨h.os, h.tape, h.output, h.size, fun k hk => h.block k (hS k hk), fun k o _ ho _ => (h.block k (Array.getElem?_eq_some_iff.1 ho).1).trans ho⟩
theorem KeepE.refl {M : Nat} {S : Nat → Prop} {Ex : TypeId → Prop} (A : World) : KeepE M S Ex A A := ⟨rfl, rfl, rfl, Nat.le_refl _, fun _ _ => rfl, fun _ _ _ h _ => h⟩
theorem KeepE.put {M : Nat} {S : Nat → Prop} {Ex : TypeId → Prop} (W : World) (l : Nat) (o : Obj) (hl : l < M) (hS : ∀ k, S k → k < l) : KeepE M S Ex W (W.putObj l o) :=
 ⟨rfl, rfl, rfl, by simp, fun i hi => World.putObj_heap_other (by have := hS i hi; omega), fun k o' hk ho _ => (World.putObj_heap_other (by omega)).trans ho⟩
theorem KeepE.setCell {M : Nat} {S : Nat → Prop} {Ex : TypeId → Prop} (W : World) (X i : Nat) (v : Value) (hX : X < M) (hS : ¬ S X) : KeepE M S Ex W (W.setCell ⟨X, i, none⟩ v) :=
 ⟨rfl, rfl, rfl, by simp [World.setCell], fun k hk => Below.heap_setCell _ _ _ _ (fun e => hS (show S X from (show k = X from e) ▸ hk)), fun k o hk ho _ => (Below.heap_setCell _ _ _ _ (by simp; omega)).trans ho⟩
theorem KeepE.box {M : Nat} {S : Nat → Prop} {Ex : TypeId → Prop} {A B : World} (h : KeepE M S Ex A B) {b : Nat} {t : TypeId} {v : Value} (hb : Boxed A b t v) (hM : M ≤ b) (ht : ¬ Ex t) : Boxed B b t v :=
 h.rest b _ hM hb (fun c t' fr e => by cases e; exact ht)
theorem KeepE.boxS {M : Nat} {S : Nat → Prop} {Ex : TypeId → Prop} {A B : World} (h : KeepE M S Ex A B) {b : Nat} {t : TypeId} {v : Value} (hb : Boxed A b t v) (hS : S b) : Boxed B b t v := (h.block b hS).trans hb
theorem roundW {m m' : Nat} {P : Program} {l : Nat} {f : FuncId} {tmps : Array Value} {assign body : Code} {w : World} {R : Ending → World → Prop}
 (h : RoundIn Fence.wide m P l f tmps assign body w R) : RoundIn Fence.wide m' P l f tmps assign body w R := ⟨h.1, fun c cs _ => h.2 c cs (fun d h => by cases h)⟩
theorem roundR {m m' : Nat} {P : Program} {l l' : Nat} {f : FuncId} {tmps : Array Value} {assign body : Code} {w : World} {R : Ending → World → Prop}
 (h : RoundIn Fence.wide m P l f tmps assign body w R) : RoundIn (Fence.wide.inRound l') m' P l f tmps assign body w R := ⟨h.1, fun c cs _ => h.2 c cs (fun d h => by cases h)⟩
theorem yieldW {m m' : Nat} {P : Program} {l : Nat} {args : Array Value} {w : World} {R : Ending → World → Prop} (h : YieldAt Fence.wide m P l args w R) : YieldAt Fence.wide m' P l args w R :=
 let ⟨fn, tmps, assign, body, h1, h2⟩ := h
 ⟨fn, tmps, assign, body, h1, roundW h2⟩
theorem yield_wide {n : Nat} {P : Program} {Q : Exit → Act → World → Prop} {o : Oper} {a : Act} {w : World} {K : Act → World → Prop} {x : Operand} {args : Array Operand} {tys : Array TypeId} {l : Nat} {vals : Array Value}
 (ho : o.op = .call { callee := .value x, args := args, argTypes := tys }) (hx : a.eval x = .func (.yield l) #[] #[]) (hargs : args.map a.eval = vals) {fn : FuncId} {tmps : Array Value} {assign body : Code}
 (hy : (Instr.yield l vals).run P w = .ok (.round l fn tmps assign body) w)
 (h : RoundIn Fence.wide (n - 1) P l fn tmps assign body w fun e w' => match e with | .returned v => K (a.put o.dst v) w' | .panicked c => Q (.panic c) a w' | .outgrown => LetsOut Q) : Oper.wpIn Fence.wide n P o a w K Q := by
 unfold Oper.wpIn
 refine ⟨fun f _ => trivial, ?_⟩
 rw [show Fence.wide.round = none from rfl, Oper.semAt_none]
 have he : (execOp a.eval o).run P w = .ok (.round l fn tmps assign body) w := by
  unfold execOp
  simp only [ho, resolve, hx, hargs]
  simp [Deferred.ofValue, invoke, hy, Sem.run_bind, Result.andThen_ok]
 rw [he]
 exact ⟨fun hh => (by cases (show false = true from hh)), RoundIn.mono h (fun e w' he => by cases e <;> exact he)⟩
end Go.Proofs.YtjlliohjeiclaaaGreatDoor
namespace Go.Proofs.YtjlliohjeiclaaaGreatDoor
open Go.RowKit
variable {P : Program} {l n : Nat} {md : Region.Mode} {ops : Array Oper} {Q : Exit → Act → World → Prop}
def OnlyN (Q : Exit → Act → World → Prop) : Exit → Act → World → Prop
 | .normal, a, w => Q .normal a w
 | _, _, _ => False
theorem OnlyN.normal {a : Act} {w : World} (h : Q .normal a w) : OnlyN Q .normal a w := h
end Go.Proofs.YtjlliohjeiclaaaGreatDoor
namespace Go.Proofs.YtjlliohjeiclaaaGreatDoor
open Go.RowKit Pm
attribute [local go_sem] Oper.semAt_some
def encKVS (x : ByteArray × ByteArray) : Array Value := #[.string x.1, .string x.2]
structure EnvFS (kb gb yb ll : Nat) (key : ByteArray) (s : Tr ByteArray) (W : World) : Prop where
 k : Boxed W kb 9 (.string key)
 g : Boxed W gb 195 (.func (.func 142) #[] #[.pointer (some ⟨kb, 0, none⟩), .pointer (some ⟨gb, 0, none⟩), .pointer (some ⟨yb, 0, none⟩)])
 y : Boxed W yb 165 (.func (.yield ll) #[] #[])
 a : AtS W s
theorem EnvFS.below {kb gb yb ll : Nat} {key : ByteArray} {s : Tr ByteArray} {W W' : World} (h : EnvFS kb gb yb ll key s W) (hb : Below W.heap.size W W') : EnvFS kb gb yb ll key s W' :=
 ⟨boxStays h.k hb, boxStays h.g hb, boxStays h.y hb, h.a.below hb rfl⟩
theorem EnvFS.keep {kb gb yb ll M : Nat} {S : Nat → Prop} {Ex : TypeId → Prop} {key : ByteArray} {s : Tr ByteArray} {W W' : World} (h : EnvFS kb gb yb ll key s W) (hk : KeepE M S Ex W W')
 (h1 : S kb) (h2 : M ≤ gb) (h3 : M ≤ yb) (h4 : ∀ b ∈ blocks s, S b) (h5 : ¬ Ex 195) (h6 : ¬ Ex 165) : EnvFS kb gb yb ll key s W' :=
 ⟨hk.boxS h.k h1, hk.box h.g h2 h5, hk.box h.y h3 h6, h.a.keep fun b o ho hm => (hk.block b (h4 b hm)).trans ho⟩
set_option maxRecDepth 100000 in
set_option maxHeartbeats 4000000 in
theorem go1_fromS (key : ByteArray) (kb gb yb ll M : Nat) (S : Nat → Prop) (Ex : TypeId → Prop) (L : List (ByteArray × ByteArray)) (J Jx : List (ByteArray × ByteArray) → World → Prop) (B0 : Nat)
 (hJo : OwnFrom B0 J) (h1 : S kb) (h2 : M ≤ gb) (h3 : M ≤ yb) (h5 : ¬ Ex 195) (h6 : ¬ Ex 165)
 (hY : ∀ pre x W1, J pre W1 → pre ++ [x] <+: L → YieldAt Fence.wide 0 Tryz.prog ll (encKVS x) W1 fun e W' =>
  (e = .returned (.bool true) ∧ J (pre ++ [x]) W' ∧ KeepE M S Ex W1 W') ∨ (e = .returned (.bool false) ∧ Jx (pre ++ [x]) W' ∧ KeepE M S Ex W1 W')) :
 ∀ (s : Tr ByteArray) (pre : List (ByteArray × ByteArray)) (W1 : World), (∀ b ∈ blocks s, S b) → (∀ k, S k → k < W1.heap.size) → J pre W1 → EnvFS kb gb yb ll key s W1 → pre ++ fromL key s <+: L →
  Calls Tryz.prog 142 #[.pointer (pa s), .pointer (some ⟨kb, 0, none⟩), .pointer (some ⟨gb, 0, none⟩), .pointer (some ⟨yb, 0, none⟩)] W1 fun e W' =>
   (e = .returned (.bool true) ∧ J (pre ++ fromL key s) W' ∧ KeepE M S Ex W1 W') ∨ (e = .returned (.bool false) ∧ (∃ pre', pre' <+: L ∧ Jx pre' W') ∧ KeepE M S Ex W1 W') := by
 have HY := Lib.hid hY
 clear hY
 intro s
 induction s with
 | nil =>
  intro pre W1 _ _ hJ _ _
  change Calls _ _ #[.pointer none, _, _, _] W1 _
  have HJ := Lib.hid hJ
  clear hJ
  go_enter Tryz.func142, Tryz.ntmps142
  go_wp2_with fail
  go_ret
  exact .inl ⟨rfl, by simpa [fromL] using HJ.out, KeepE.refl _⟩
 | node b l k v r ih1 ih2 =>
  intro pre W1 hSb hSN hJ hE hL
  have HE := Lib.hid hE
  have HJ := Lib.hid hJ
  have I1 := Lib.hid ih1
  have I2 := Lib.hid ih2
  have HB := Lib.hid hSb
  have HSN := Lib.hid hSN
  have HL := Lib.hid hL
  clear hE hJ ih1 ih2 hSb hSN hL
  have hSd : EnvFS kb gb yb ll key (.node b l k v r) W1.drew := HE.out.below ((Below.refl _ W1).drew)
  refine (callsIn_wide (n := 6)).1 ?_
  change CallsIn _ _ _ _ #[.pointer (some ⟨b, 0, none⟩), _, _, _] W1 _
  refine callsIn_of_wp Tryz.func142 rfl trivial ?_ rfl
  simp only [Tryz.ntmps142, List.size_toArray, List.length_cons, List.length_nil, Nat.reduceAdd, Nat.reduceSub, Array.replicate_succ, Array.replicate_zero, List.push_toArray, List.append_toArray, List.nil_append, List.cons_append]
  by_cases hk : klt k key = true
  · have hk1 : Op.bytesLess k.toList key.toList = true := hk
    gi_wp2
    refine region_wide (S := (EnvFS kb gb yb ll key (.node b l k v r))) (by kernel_rfl) (hSd) (fun hS => ?_)
    refine anyW_take (i := 0) (oi := ⟨some 8, _, _, _, _, _⟩) (v := ?_) rfl (by kernel_rfl) (fun _ _ _ h => h) (by kernel_rfl) (by kernel_rfl) (Or.inl ⟨by rfl, ?_⟩) hS ?_
    rotate_left 1
    · intro w' hB; (go_simp <;> with_reducible rfl)
    try simp only [Act.put, zA, zB, zC]
    refine anyW_take (i := 1) (oi := ⟨some 9, _, _, _, _, _⟩) (v := ?_) rfl (by kernel_rfl) (fun _ _ _ h => h) (by kernel_rfl) (by kernel_rfl) (Or.inl ⟨by rfl, ?_⟩) hS ?_
    rotate_left 1
    · intro w' hB; obtain ⟨e1, e2, e3, e4⟩ := hB; have c1 := cell_of_one e1; have c2 := cell_of_one e2; have c3 := cell_of_one e3; obtain ⟨x0, x1, x2, x3⟩ := e4.cellsP (pa l) (pa r) rfl rfl; clear e1 e2 e3 e4; (go_simp <;> with_reducible rfl)
    try simp only [Act.put, zA, zB, zC]
    refine anyW_take (i := 2) (oi := ⟨some 10, _, _, _, _, _⟩) (v := ?_) rfl (by kernel_rfl) (fun _ _ _ h => h) (by kernel_rfl) (by kernel_rfl) (Or.inl ⟨by rfl, ?_⟩) hS ?_
    rotate_left 1
    · intro w' hB; (go_simp <;> with_reducible rfl)
    try simp only [Act.put, zA, zB, zC]
    refine anyW_take (i := 3) (oi := ⟨some 11, _, _, _, _, _⟩) (v := ?_) rfl (by kernel_rfl) (fun _ _ _ h => h) (by kernel_rfl) (by kernel_rfl) (Or.inl ⟨by rfl, ?_⟩) hS ?_
    rotate_left 1
    · intro w' hB; obtain ⟨e1, e2, e3, e4⟩ := hB; have c1 := cell_of_one e1; have c2 := cell_of_one e2; have c3 := cell_of_one e3; obtain ⟨x0, x1, x2, x3⟩ := e4.cellsP (pa l) (pa r) rfl rfl; clear e1 e2 e3 e4; (go_simp <;> with_reducible rfl)
    try simp only [Act.put, zA, zB, zC]
    refine anyW_take (i := 4) (oi := ⟨some 12, _, _, _, _, _⟩) (v := ?_) rfl (by kernel_rfl) (fun _ _ _ h => h) (by kernel_rfl) (by kernel_rfl) (Or.inl ⟨by rfl, ?_⟩) hS ?_
    rotate_left 1
    · intro w' hB; obtain ⟨e1, e2, e3, e4⟩ := hB; have c1 := cell_of_one e1; have c2 := cell_of_one e2; have c3 := cell_of_one e3; obtain ⟨x0, x1, x2, x3⟩ := e4.cellsP (pa l) (pa r) rfl rfl; clear e1 e2 e3 e4; (go_simp <;> with_reducible rfl)
    try simp only [Act.put, zA, zB, zC]
    refine anyW_take (i := 5) (oi := ⟨some 13, _, _, _, _, _⟩) (v := ?_) rfl (by kernel_rfl) (fun _ _ _ h => h) (by kernel_rfl) (by kernel_rfl) (Or.inl ⟨by rfl, ?_⟩) hS ?_
    rotate_left 1
    · intro w' hB; obtain ⟨e1, e2, e3, e4⟩ := hB; have c1 := cell_of_one e1; have c2 := cell_of_one e2; have c3 := cell_of_one e3; obtain ⟨x0, x1, x2, x3⟩ := e4.cellsP (pa l) (pa r) rfl rfl; clear e1 e2 e3 e4; (go_simp <;> with_reducible rfl)
    try simp only [Act.put, zA, zB, zC]
    refine anyW_done (by kernel_rfl) (OnlyE.normal ?_) _
    obtain ⟨W2, hW2⟩ : ∃ W2, W1.drew = W2 := ⟨_, rfl⟩
    have D2 : Hid (Below W1.heap.size W1 W2) := Lib.hid (by rw [← hW2]; exact (Below.refl _ W1).drew)
    rw [hW2] at hS ⊢
    have HE2 := Lib.hid hS
    clear hS hW2 hSd
    have hSd : EnvFS kb gb yb ll key (.node b l k v r) W2.drew := HE2.out.below ((Below.refl _ W2).drew)
    have D3 : Hid (Below W1.heap.size W1 W2.drew) := Lib.hid (D2.out.trans ((Below.refl _ W2).drew.mono D2.out.size))
    have HJ2 : Hid (J pre W2.drew) := Lib.hid (ownFrom_to hJo HJ.out D3.out)
    have HS2 : Hid (∀ k, S k → k < W2.drew.heap.size) := Lib.hid (fun k hk => Nat.lt_of_lt_of_le (HSN.out k hk) D3.out.size)
    gi_wp2
    have hL : pre ++ fromL key r <+: L := by have := HL.out; rw [fromL, if_pos hk] at this; exact this
    have HL2 := Lib.hid hL
    clear hL
    refine region_wide (S := (EnvFS kb gb yb ll key (.node b l k v r))) (by kernel_rfl) (hSd) (fun hS => ?_)
    refine anyW_take (i := 0) (oi := ⟨some 14, _, _, _, _, _⟩) (v := ?_) rfl (by kernel_rfl) (fun _ _ _ h => h) (by kernel_rfl) (by kernel_rfl) (Or.inl ⟨by rfl, ?_⟩) hS ?_
    rotate_left 1
    · intro w' hB; obtain ⟨e1, e2, e3, e4⟩ := hB; have c1 := cell_of_one e1; have c2 := cell_of_one e2; have c3 := cell_of_one e3; obtain ⟨x0, x1, x2, x3⟩ := e4.cellsP (pa l) (pa r) rfl rfl; clear e1 e2 e3 e4; (go_simp <;> with_reducible rfl)
    try simp only [Act.put, zA, zB, zC]
    refine anyW_take (i := 1) (oi := ⟨some 15, _, _, _, _, _⟩) (v := ?_) rfl (by kernel_rfl) (fun _ _ _ h => h) (by kernel_rfl) (by kernel_rfl) (Or.inl ⟨by rfl, ?_⟩) hS ?_
    rotate_left 1
    · intro w' hB; (go_simp <;> with_reducible rfl)
    try simp only [Act.put, zA, zB, zC]
    refine anyW_take (i := 2) (oi := ⟨some 16, _, _, _, _, _⟩) (v := ?_) rfl (by kernel_rfl) (fun _ _ _ h => h) (by kernel_rfl) (by kernel_rfl) (Or.inl ⟨by rfl, ?_⟩) hS ?_
    rotate_left 1
    · intro w' hB; obtain ⟨e1, e2, e3, e4⟩ := hB; have c1 := cell_of_one e1; have c2 := cell_of_one e2; have c3 := cell_of_one e3; obtain ⟨x0, x1, x2, x3⟩ := e4.cellsP (pa l) (pa r) rfl rfl; clear e1 e2 e3 e4; (go_simp <;> with_reducible rfl)
    try simp only [Act.put, zA, zB, zC]
    refine anyW_take (i := 3) (oi := ⟨some 17, _, _, _, _, _⟩) (v := ?_) rfl (by kernel_rfl) (fun _ _ _ h => h) (by kernel_rfl) (by kernel_rfl) (Or.inl ⟨by rfl, ?_⟩) hS ?_
    rotate_left 1
    · intro w' hB; (go_simp <;> with_reducible rfl)
    try simp only [Act.put, zA, zB, zC]
    refine anyW_take (i := 4) (oi := ⟨some 18, _, _, _, _, _⟩) (v := ?_) rfl (by kernel_rfl) (fun _ _ _ h => h) (by kernel_rfl) (by kernel_rfl) (Or.inl ⟨by rfl, ?_⟩) hS ?_
    rotate_left 1
    · intro w' hB; obtain ⟨e1, e2, e3, e4⟩ := hB; have c1 := cell_of_one e1; have c2 := cell_of_one e2; have c3 := cell_of_one e3; obtain ⟨x0, x1, x2, x3⟩ := e4.cellsP (pa l) (pa r) rfl rfl; clear e1 e2 e3 e4; (go_simp <;> with_reducible rfl)
    try simp only [Act.put, zA, zB, zC]
    refine anyW_one (i := 5) (o := ⟨some 19, _, _, _, _, _⟩) (by kernel_rfl) rfl (by rfl) (fun K hK => ?_)
    refine op_wide ?_
    go_simp
    refine (I2.out pre _ (fun b' hb => HB.out b' (by simp [blocks, hb])) HS2.out HJ2.out ⟨hSd.k, hSd.g, hSd.y, hSd.a.2.2⟩ HL2.out).mono ?_
    intro e w3 hh
    refine Or.elim hh (fun hq => ?alt1) (fun hq => ?alt2) <;> clear hh
    case' alt1 =>
     obtain ⟨rfl, hJ3, hK3⟩ := hq
     have hSn := hSd.keep hK3 h1 h2 h3 HB.out h5 h6
     have H3 : Hid (J (pre ++ fromL key r) w3 ∧ KeepE M S Ex W1 w3) := Lib.hid ⟨hJ3, (KeepE.below D3.out HSN.out).trans hK3⟩
     clear hJ3 hK3
     refine hK.out _ _ hSn ?_
     clear hK K hS
     have hS := hSn
     clear hSn
     try simp only [Act.put, zA, zB, zC]
     refine anyW_take (i := 6) (oi := ⟨some 5, _, _, _, _, _⟩) (v := ?_) rfl (by kernel_rfl) (fun _ _ _ h => h) (by kernel_rfl) (by kernel_rfl) (Or.inl ⟨by rfl, ?_⟩) hS ?_
     rotate_left 1
     · intro w' hB; obtain ⟨e1, e2, e3, e4⟩ := hB; have c1 := cell_of_one e1; have c2 := cell_of_one e2; have c3 := cell_of_one e3; obtain ⟨x0, x1, x2, x3⟩ := e4.cellsP (pa l) (pa r) rfl rfl; clear e1 e2 e3 e4; (go_simp <;> with_reducible rfl)
     try simp only [Act.put, zA, zB, zC]
     refine anyW_done (by kernel_rfl) (OnlyE.normal ?_) _
    case' alt2 =>
     obtain ⟨rfl, hJ3, hK3⟩ := hq
     have hSn := hSd.keep hK3 h1 h2 h3 HB.out h5 h6
     have H3 : Hid ((∃ pre', pre' <+: L ∧ Jx pre' w3) ∧ KeepE M S Ex W1 w3) := Lib.hid ⟨hJ3, (KeepE.below D3.out HSN.out).trans hK3⟩
     clear hJ3 hK3
     refine hK.out _ _ hSn ?_
     clear hK K hS
     have hS := hSn
     clear hSn
     try simp only [Act.put, zA, zB, zC]
     refine anyW_take (i := 6) (oi := ⟨some 5, _, _, _, _, _⟩) (v := ?_) rfl (by kernel_rfl) (fun _ _ _ h => h) (by kernel_rfl) (by kernel_rfl) (Or.inl ⟨by rfl, ?_⟩) hS ?_
     rotate_left 1
     · intro w' hB; obtain ⟨e1, e2, e3, e4⟩ := hB; have c1 := cell_of_one e1; have c2 := cell_of_one e2; have c3 := cell_of_one e3; obtain ⟨x0, x1, x2, x3⟩ := e4.cellsP (pa l) (pa r) rfl rfl; clear e1 e2 e3 e4; (go_simp <;> with_reducible rfl)
     try simp only [Act.put, zA, zB, zC]
     refine anyW_done (by kernel_rfl) (OnlyE.normal ?_) _
    all_goals
     clear hS
     gi_wp2
     go_ret
     rw [fromL, if_pos hk]
     first | exact .inl ⟨rfl, H3.out⟩ | exact .inr ⟨rfl, H3.out⟩
  · have hk1 : Op.bytesLess k.toList key.toList = false := by simpa [klt] using hk
    gi_wp2
    refine region_wide (S := (EnvFS kb gb yb ll key (.node b l k v r))) (by kernel_rfl) (hSd) (fun hS => ?_)
    refine anyW_take (i := 0) (oi := ⟨some 8, _, _, _, _, _⟩) (v := ?_) rfl (by kernel_rfl) (fun _ _ _ h => h) (by kernel_rfl) (by kernel_rfl) (Or.inl ⟨by rfl, ?_⟩) hS ?_
    rotate_left 1
    · intro w' hB; (go_simp <;> with_reducible rfl)
    try simp only [Act.put, zA, zB, zC]
    refine anyW_take (i := 1) (oi := ⟨some 9, _, _, _, _, _⟩) (v := ?_) rfl (by kernel_rfl) (fun _ _ _ h => h) (by kernel_rfl) (by kernel_rfl) (Or.inl ⟨by rfl, ?_⟩) hS ?_
    rotate_left 1
    · intro w' hB; obtain ⟨e1, e2, e3, e4⟩ := hB; have c1 := cell_of_one e1; have c2 := cell_of_one e2; have c3 := cell_of_one e3; obtain ⟨x0, x1, x2, x3⟩ := e4.cellsP (pa l) (pa r) rfl rfl; clear e1 e2 e3 e4; (go_simp <;> with_reducible rfl)
    try simp only [Act.put, zA, zB, zC]
    refine anyW_take (i := 2) (oi := ⟨some 10, _, _, _, _, _⟩) (v := ?_) rfl (by kernel_rfl) (fun _ _ _ h => h) (by kernel_rfl) (by kernel_rfl) (Or.inl ⟨by rfl, ?_⟩) hS ?_
    rotate_left 1
    · intro w' hB; (go_simp <;> with_reducible rfl)
    try simp only [Act.put, zA, zB, zC]
    refine anyW_take (i := 3) (oi := ⟨some 11, _, _, _, _, _⟩) (v := ?_) rfl (by kernel_rfl) (fun _ _ _ h => h) (by kernel_rfl) (by kernel_rfl) (Or.inl ⟨by rfl, ?_⟩) hS ?_
    rotate_left 1
    · intro w' hB; obtain ⟨e1, e2, e3, e4⟩ := hB; have c1 := cell_of_one e1; have c2 := cell_of_one e2; have c3 := cell_of_one e3; obtain ⟨x0, x1, x2, x3⟩ := e4.cellsP (pa l) (pa r) rfl rfl; clear e1 e2 e3 e4; (go_simp <;> with_reducible rfl)
    try simp only [Act.put, zA, zB, zC]
    refine anyW_take (i := 4) (oi := ⟨some 12, _, _, _, _, _⟩) (v := ?_) rfl (by kernel_rfl) (fun _ _ _ h => h) (by kernel_rfl) (by kernel_rfl) (Or.inl ⟨by rfl, ?_⟩) hS ?_
    rotate_left 1
    · intro w' hB; obtain ⟨e1, e2, e3, e4⟩ := hB; have c1 := cell_of_one e1; have c2 := cell_of_one e2; have c3 := cell_of_one e3; obtain ⟨x0, x1, x2, x3⟩ := e4.cellsP (pa l) (pa r) rfl rfl; clear e1 e2 e3 e4; (go_simp <;> with_reducible rfl)
    try simp only [Act.put, zA, zB, zC]
    refine anyW_take (i := 5) (oi := ⟨some 13, _, _, _, _, _⟩) (v := ?_) rfl (by kernel_rfl) (fun _ _ _ h => h) (by kernel_rfl) (by kernel_rfl) (Or.inl ⟨by rfl, ?_⟩) hS ?_
    rotate_left 1
    · intro w' hB; obtain ⟨e1, e2, e3, e4⟩ := hB; have c1 := cell_of_one e1; have c2 := cell_of_one e2; have c3 := cell_of_one e3; obtain ⟨x0, x1, x2, x3⟩ := e4.cellsP (pa l) (pa r) rfl rfl; clear e1 e2 e3 e4; (go_simp <;> with_reducible rfl)
    try simp only [Act.put, zA, zB, zC]
    refine anyW_done (by kernel_rfl) (OnlyE.normal ?_) _
    obtain ⟨W2, hW2⟩ : ∃ W2, W1.drew = W2 := ⟨_, rfl⟩
    have D2 : Hid (Below W1.heap.size W1 W2) := Lib.hid (by rw [← hW2]; exact (Below.refl _ W1).drew)
    rw [hW2] at hS ⊢
    have HE2 := Lib.hid hS
    clear hS hW2 hSd
    have hSd : EnvFS kb gb yb ll key (.node b l k v r) W2.drew := HE2.out.below ((Below.refl _ W2).drew)
    have D3 : Hid (Below W1.heap.size W1 W2.drew) := Lib.hid (D2.out.trans ((Below.refl _ W2).drew.mono D2.out.size))
    have HJ2 : Hid (J pre W2.drew) := Lib.hid (ownFrom_to hJo HJ.out D3.out)
    have HS2 : Hid (∀ k, S k → k < W2.drew.heap.size) := Lib.hid (fun k hk => Nat.lt_of_lt_of_le (HSN.out k hk) D3.out.size)
    gi_wp2
    have hL : pre ++ (fromL key l ++ (k, v) :: fromL key r) <+: L := by have := HL.out; rw [fromL, if_neg hk] at this; exact this
    have L1 : Hid (pre ++ fromL key l <+: L) := Lib.hid ((List.prefix_append (pre ++ fromL key l) ((k, v) :: fromL key r)).trans (by simpa using hL))
    have L2 : Hid (pre ++ fromL key l ++ [(k, v)] <+: L) := Lib.hid ((List.prefix_append (pre ++ fromL key l ++ [(k, v)]) (fromL key r)).trans (by simpa using hL))
    have L3 : Hid (pre ++ fromL key l ++ [(k, v)] ++ fromL key r <+: L) := Lib.hid (by simpa using hL)
    clear hL
    refine region_wide (S := (EnvFS kb gb yb ll key (.node b l k v r))) (by kernel_rfl) (hSd) (fun hS => ?_)
    refine anyW_take (i := 0) (oi := ⟨some 20, _, _, _, _, _⟩) (v := ?_) rfl (by kernel_rfl) (fun _ _ _ h => h) (by kernel_rfl) (by kernel_rfl) (Or.inl ⟨by rfl, ?_⟩) hS ?_
    rotate_left 1
    · intro w' hB; obtain ⟨e1, e2, e3, e4⟩ := hB; have c1 := cell_of_one e1; have c2 := cell_of_one e2; have c3 := cell_of_one e3; obtain ⟨x0, x1, x2, x3⟩ := e4.cellsP (pa l) (pa r) rfl rfl; clear e1 e2 e3 e4; (go_simp <;> with_reducible rfl)
    try simp only [Act.put, zA, zB, zC]
    refine anyW_take (i := 1) (oi := ⟨some 21, _, _, _, _, _⟩) (v := ?_) rfl (by kernel_rfl) (fun _ _ _ h => h) (by kernel_rfl) (by kernel_rfl) (Or.inl ⟨by rfl, ?_⟩) hS ?_
    rotate_left 1
    · intro w' hB; (go_simp <;> with_reducible rfl)
    try simp only [Act.put, zA, zB, zC]
    refine anyW_take (i := 2) (oi := ⟨some 22, _, _, _, _, _⟩) (v := ?_) rfl (by kernel_rfl) (fun _ _ _ h => h) (by kernel_rfl) (by kernel_rfl) (Or.inl ⟨by rfl, ?_⟩) hS ?_
    rotate_left 1
    · intro w' hB; obtain ⟨e1, e2, e3, e4⟩ := hB; have c1 := cell_of_one e1; have c2 := cell_of_one e2; have c3 := cell_of_one e3; obtain ⟨x0, x1, x2, x3⟩ := e4.cellsP (pa l) (pa r) rfl rfl; clear e1 e2 e3 e4; (go_simp <;> with_reducible rfl)
    try simp only [Act.put, zA, zB, zC]
    refine anyW_take (i := 3) (oi := ⟨some 23, _, _, _, _, _⟩) (v := ?_) rfl (by kernel_rfl) (fun _ _ _ h => h) (by kernel_rfl) (by kernel_rfl) (Or.inl ⟨by rfl, ?_⟩) hS ?_
    rotate_left 1
    · intro w' hB; (go_simp <;> with_reducible rfl)
    try simp only [Act.put, zA, zB, zC]
    refine anyW_take (i := 4) (oi := ⟨some 24, _, _, _, _, _⟩) (v := ?_) rfl (by kernel_rfl) (fun _ _ _ h => h) (by kernel_rfl) (by kernel_rfl) (Or.inl ⟨by rfl, ?_⟩) hS ?_
    rotate_left 1
    · intro w' hB; obtain ⟨e1, e2, e3, e4⟩ := hB; have c1 := cell_of_one e1; have c2 := cell_of_one e2; have c3 := cell_of_one e3; obtain ⟨x0, x1, x2, x3⟩ := e4.cellsP (pa l) (pa r) rfl rfl; clear e1 e2 e3 e4; (go_simp <;> with_reducible rfl)
    try simp only [Act.put, zA, zB, zC]
    refine anyW_one (i := 5) (o := ⟨some 25, _, _, _, _, _⟩) (by kernel_rfl) rfl (by rfl) (fun K hK => ?_)
    refine op_wide ?_
    go_simp
    refine (I1.out pre _ (fun b' hb => HB.out b' (by simp [blocks, hb])) HS2.out HJ2.out ⟨hSd.k, hSd.g, hSd.y, hSd.a.2.1⟩ L1.out).mono ?_
    intro e w3 hh
    refine Or.elim hh (fun hq => ?alt3) (fun hq => ?alt4) <;> clear hh
    case' alt3 =>
     obtain ⟨rfl, hJ3, hK3⟩ := hq
     have hSn := hSd.keep hK3 h1 h2 h3 HB.out h5 h6
     have H3 : Hid (J (pre ++ fromL key l) w3) := Lib.hid hJ3
     have K3 : Hid (KeepE M S Ex W1 w3) := Lib.hid ((KeepE.below D3.out HSN.out).trans hK3)
     clear hJ3 hK3
     refine hK.out _ _ hSn ?_
     clear hK K hS
     have hS := hSn
     clear hSn
     try simp only [Act.put, zA, zB, zC]
     refine anyW_take (i := 6) (oi := ⟨some 26, _, _, _, _, _⟩) (v := ?_) rfl (by kernel_rfl) (fun _ _ _ h => h) (by kernel_rfl) (by kernel_rfl) (Or.inl ⟨by rfl, ?_⟩) hS ?_
     rotate_left 1
     · intro w' hB; (go_simp <;> with_reducible rfl)
     try simp only [Act.put, zA, zB, zC]
     refine anyW_take (i := 7) (oi := ⟨some 27, _, _, _, _, _⟩) (v := ?_) rfl (by kernel_rfl) (fun _ _ _ h => h) (by kernel_rfl) (by kernel_rfl) (Or.inl ⟨by rfl, ?_⟩) hS ?_
     rotate_left 1
     · intro w' hB; obtain ⟨e1, e2, e3, e4⟩ := hB; have c1 := cell_of_one e1; have c2 := cell_of_one e2; have c3 := cell_of_one e3; obtain ⟨x0, x1, x2, x3⟩ := e4.cellsP (pa l) (pa r) rfl rfl; clear e1 e2 e3 e4; (go_simp <;> with_reducible rfl)
     try simp only [Act.put, zA, zB, zC]
     refine anyW_take (i := 8) (oi := ⟨some 28, _, _, _, _, _⟩) (v := ?_) rfl (by kernel_rfl) (fun _ _ _ h => h) (by kernel_rfl) (by kernel_rfl) (Or.inl ⟨by rfl, ?_⟩) hS ?_
     rotate_left 1
     · intro w' hB; (go_simp <;> with_reducible rfl)
     try simp only [Act.put, zA, zB, zC]
     refine anyW_take (i := 9) (oi := ⟨some 29, _, _, _, _, _⟩) (v := ?_) rfl (by kernel_rfl) (fun _ _ _ h => h) (by kernel_rfl) (by kernel_rfl) (Or.inl ⟨by rfl, ?_⟩) hS ?_
     rotate_left 1
     · intro w' hB; obtain ⟨e1, e2, e3, e4⟩ := hB; have c1 := cell_of_one e1; have c2 := cell_of_one e2; have c3 := cell_of_one e3; obtain ⟨x0, x1, x2, x3⟩ := e4.cellsP (pa l) (pa r) rfl rfl; clear e1 e2 e3 e4; (go_simp <;> with_reducible rfl)
     try simp only [Act.put, zA, zB, zC]
     refine anyW_take (i := 10) (oi := ⟨some 30, _, _, _, _, _⟩) (v := ?_) rfl (by kernel_rfl) (fun _ _ _ h => h) (by kernel_rfl) (by kernel_rfl) (Or.inl ⟨by rfl, ?_⟩) hS ?_
     rotate_left 1
     · intro w' hB; (go_simp <;> with_reducible rfl)
     try simp only [Act.put, zA, zB, zC]
     refine anyW_take (i := 11) (oi := ⟨some 31, _, _, _, _, _⟩) (v := ?_) rfl (by kernel_rfl) (fun _ _ _ h => h) (by kernel_rfl) (by kernel_rfl) (Or.inl ⟨by rfl, ?_⟩) hS ?_
     rotate_left 1
     · intro w' hB; obtain ⟨e1, e2, e3, e4⟩ := hB; have c1 := cell_of_one e1; have c2 := cell_of_one e2; have c3 := cell_of_one e3; obtain ⟨x0, x1, x2, x3⟩ := e4.cellsP (pa l) (pa r) rfl rfl; clear e1 e2 e3 e4; (go_simp <;> with_reducible rfl)
     try simp only [Act.put, zA, zB, zC]
     refine anyW_take (i := 12) (oi := ⟨some 32, _, _, _, _, _⟩) (v := ?_) rfl (by kernel_rfl) (fun _ _ _ h => h) (by kernel_rfl) (by kernel_rfl) (Or.inl ⟨by rfl, ?_⟩) hS ?_
     rotate_left 1
     · intro w' hB; (go_simp <;> with_reducible rfl)
     try simp only [Act.put, zA, zB, zC]
     refine anyW_take (i := 13) (oi := ⟨some 33, _, _, _, _, _⟩) (v := ?_) rfl (by kernel_rfl) (fun _ _ _ h => h) (by kernel_rfl) (by kernel_rfl) (Or.inl ⟨by rfl, ?_⟩) hS ?_
     rotate_left 1
     · intro w' hB; obtain ⟨e1, e2, e3, e4⟩ := hB; have c1 := cell_of_one e1; have c2 := cell_of_one e2; have c3 := cell_of_one e3; obtain ⟨x0, x1, x2, x3⟩ := e4.cellsP (pa l) (pa r) rfl rfl; clear e1 e2 e3 e4; (go_simp <;> with_reducible rfl)
     try simp only [Act.put, zA, zB, zC]
     refine anyW_take (i := 14) (oi := ⟨some 34, _, _, _, _, _⟩) (v := ?_) rfl (by kernel_rfl) (fun _ _ _ h => h) (by kernel_rfl) (by kernel_rfl) (Or.inl ⟨by rfl, ?_⟩) hS ?_
     rotate_left 1
     · intro w' hB; (go_simp <;> with_reducible rfl)
     try simp only [Act.put, zA, zB, zC]
     refine anyW_take (i := 15) (oi := ⟨some 35, _, _, _, _, _⟩) (v := ?_) rfl (by kernel_rfl) (fun _ _ _ h => h) (by kernel_rfl) (by kernel_rfl) (Or.inl ⟨by rfl, ?_⟩) hS ?_
     rotate_left 1
     · intro w' hB; obtain ⟨e1, e2, e3, e4⟩ := hB; have c1 := cell_of_one e1; have c2 := cell_of_one e2; have c3 := cell_of_one e3; obtain ⟨x0, x1, x2, x3⟩ := e4.cellsP (pa l) (pa r) rfl rfl; clear e1 e2 e3 e4; (go_simp <;> with_reducible rfl)
     try simp only [Act.put, zA, zB, zC]
     refine anyW_one (i := 16) (o := ⟨some 36, _, _, _, _, _⟩) (by kernel_rfl) rfl (by rfl) (fun K hK => ?_)
     obtain ⟨fn, tmps, assign, body', hyy, hRR⟩ := yieldW (m' := 5) (HY.out _ (k, v) _ H3.out L2.out)
     simp only [encKVS] at hyy
     refine yield_wide (l := ll) (vals := #[.string k, .string v]) rfl rfl (by simp only [List.map_toArray, List.map_cons, List.map_nil]; rfl) hyy ?_
     refine ((roundW hRR)).mono ?_
     intro e w4 hh
     refine Or.elim hh (fun hq => ?alt5) (fun hq => ?alt6) <;> clear hh
     case' alt5 =>
      obtain ⟨rfl, hJ4, hK4⟩ := hq
      have hSn := hS.keep hK4 h1 h2 h3 HB.out h5 h6
      have H4 : Hid (J (pre ++ fromL key l ++ [(k, v)]) w4) := Lib.hid hJ4
      have K4 : Hid (KeepE M S Ex W1 w4) := Lib.hid (K3.out.trans hK4)
      clear hJ4 hK4 H3 K3 hyy hRR
      refine hK.out _ _ hSn ?_
      clear hK K hS
      have hS := hSn
      clear hSn
      try simp only [Act.put, zA, zB, zC]
      refine anyW_take (i := 17) (oi := ⟨some 37, _, _, _, _, _⟩) (v := ?_) rfl (by kernel_rfl) (fun _ _ _ h => h) (by kernel_rfl) (by kernel_rfl) (Or.inl ⟨by rfl, ?_⟩) hS ?_
      rotate_left 1
      · intro w' hB; (go_simp <;> with_reducible rfl)
      try simp only [Act.put, zA, zB, zC]
      refine anyW_take (i := 18) (oi := ⟨some 38, _, _, _, _, _⟩) (v := ?_) rfl (by kernel_rfl) (fun _ _ _ h => h) (by kernel_rfl) (by kernel_rfl) (Or.inl ⟨by rfl, ?_⟩) hS ?_
      rotate_left 1
      · intro w' hB; (go_simp <;> with_reducible rfl)
      try simp only [Act.put, zA, zB, zC]
      refine anyW_take (i := 19) (oi := ⟨some 39, _, _, _, _, _⟩) (v := ?_) rfl (by kernel_rfl) (fun _ _ _ h => h) (by kernel_rfl) (by kernel_rfl) (Or.inl ⟨by rfl, ?_⟩) hS ?_
      rotate_left 1
      · intro w' hB; obtain ⟨e1, e2, e3, e4⟩ := hB; have c1 := cell_of_one e1; have c2 := cell_of_one e2; have c3 := cell_of_one e3; obtain ⟨x0, x1, x2, x3⟩ := e4.cellsP (pa l) (pa r) rfl rfl; clear e1 e2 e3 e4; (go_simp <;> with_reducible rfl)
      try simp only [Act.put, zA, zB, zC]
      refine anyW_take (i := 20) (oi := ⟨some 40, _, _, _, _, _⟩) (v := ?_) rfl (by kernel_rfl) (fun _ _ _ h => h) (by kernel_rfl) (by kernel_rfl) (Or.inl ⟨by rfl, ?_⟩) hS ?_
      rotate_left 1
      · intro w' hB; (go_simp <;> with_reducible rfl)
      try simp only [Act.put, zA, zB, zC]
      refine anyW_take (i := 21) (oi := ⟨some 41, _, _, _, _, _⟩) (v := ?_) rfl (by kernel_rfl) (fun _ _ _ h => h) (by kernel_rfl) (by kernel_rfl) (Or.inl ⟨by rfl, ?_⟩) hS ?_
      rotate_left 1
      · intro w' hB; obtain ⟨e1, e2, e3, e4⟩ := hB; have c1 := cell_of_one e1; have c2 := cell_of_one e2; have c3 := cell_of_one e3; obtain ⟨x0, x1, x2, x3⟩ := e4.cellsP (pa l) (pa r) rfl rfl; clear e1 e2 e3 e4; (go_simp <;> with_reducible rfl)
      try simp only [Act.put, zA, zB, zC]
      refine anyW_take (i := 22) (oi := ⟨some 42, _, _, _, _, _⟩) (v := ?_) rfl (by kernel_rfl) (fun _ _ _ h => h) (by kernel_rfl) (by kernel_rfl) (Or.inl ⟨by rfl, ?_⟩) hS ?_
      rotate_left 1
      · intro w' hB; (go_simp <;> with_reducible rfl)
      try simp only [Act.put, zA, zB, zC]
      refine anyW_take (i := 23) (oi := ⟨some 43, _, _, _, _, _⟩) (v := ?_) rfl (by kernel_rfl) (fun _ _ _ h => h) (by kernel_rfl) (by kernel_rfl) (Or.inl ⟨by rfl, ?_⟩) hS ?_
      rotate_left 1
      · intro w' hB; obtain ⟨e1, e2, e3, e4⟩ := hB; have c1 := cell_of_one e1; have c2 := cell_of_one e2; have c3 := cell_of_one e3; obtain ⟨x0, x1, x2, x3⟩ := e4.cellsP (pa l) (pa r) rfl rfl; clear e1 e2 e3 e4; (go_simp <;> with_reducible rfl)
      try simp only [Act.put, zA, zB, zC]
      refine anyW_one (i := 24) (o := ⟨some 44, _, _, _, _, _⟩) (by kernel_rfl) rfl (by rfl) (fun K hK => ?_)
      refine op_wide ?_
      go_simp
      refine (I2.out _ _ (fun b' hb => HB.out b' (by simp [blocks, hb])) (fun k hk => Nat.lt_of_lt_of_le (HSN.out k hk) K4.out.size) H4.out ⟨hS.k, hS.g, hS.y, hS.a.2.2⟩ L3.out).mono ?_
      intro e w5 hh
      refine Or.elim hh (fun hq => ?alt7) (fun hq => ?alt8) <;> clear hh
      case' alt7 =>
       obtain ⟨rfl, hJ5, hK5⟩ := hq
       have hSn := hS.keep hK5 h1 h2 h3 HB.out h5 h6
       have H3 : Hid (J (pre ++ fromL key l ++ [(k, v)] ++ fromL key r) w5 ∧ KeepE M S Ex W1 w5) := Lib.hid ⟨hJ5, K4.out.trans hK5⟩
       clear hJ5 hK5
       refine hK.out _ _ hSn ?_
       clear hK K hS
       have hS := hSn
       clear hSn
       try simp only [Act.put, zA, zB, zC]
       refine anyW_take (i := 25) (oi := ⟨some 45, _, _, _, _, _⟩) (v := ?_) rfl (by kernel_rfl) (fun _ _ _ h => h) (by kernel_rfl) (by kernel_rfl) (Or.inl ⟨by rfl, ?_⟩) hS ?_
       rotate_left 1
       · intro w' hB; (go_simp <;> with_reducible rfl)
       try simp only [Act.put, zA, zB, zC]
       refine anyW_take (i := 26) (oi := ⟨some 5, _, _, _, _, _⟩) (v := ?_) rfl (by kernel_rfl) (fun _ _ _ h => h) (by kernel_rfl) (by kernel_rfl) (Or.inl ⟨by rfl, ?_⟩) hS ?_
       rotate_left 1
       · intro w' hB; obtain ⟨e1, e2, e3, e4⟩ := hB; have c1 := cell_of_one e1; have c2 := cell_of_one e2; have c3 := cell_of_one e3; obtain ⟨x0, x1, x2, x3⟩ := e4.cellsP (pa l) (pa r) rfl rfl; clear e1 e2 e3 e4; (go_simp <;> with_reducible rfl)
       try simp only [Act.put, zA, zB, zC]
       refine anyW_done (by kernel_rfl) (OnlyE.normal ?_) _
      case' alt8 =>
       obtain ⟨rfl, hJ5, hK5⟩ := hq
       have hSn := hS.keep hK5 h1 h2 h3 HB.out h5 h6
       have H3 : Hid ((∃ pre', pre' <+: L ∧ Jx pre' w5) ∧ KeepE M S Ex W1 w5) := Lib.hid ⟨hJ5, K4.out.trans hK5⟩
       clear hJ5 hK5
       refine hK.out _ _ hSn ?_
       clear hK K hS
       have hS := hSn
       clear hSn
       try simp only [Act.put, zA, zB, zC]
       refine anyW_take (i := 25) (oi := ⟨some 45, _, _, _, _, _⟩) (v := ?_) rfl (by kernel_rfl) (fun _ _ _ h => h) (by kernel_rfl) (by kernel_rfl) (Or.inl ⟨by rfl, ?_⟩) hS ?_
       rotate_left 1
       · intro w' hB; (go_simp <;> with_reducible rfl)
       try simp only [Act.put, zA, zB, zC]
       refine anyW_take (i := 26) (oi := ⟨some 5, _, _, _, _, _⟩) (v := ?_) rfl (by kernel_rfl) (fun _ _ _ h => h) (by kernel_rfl) (by kernel_rfl) (Or.inl ⟨by rfl, ?_⟩) hS ?_
       rotate_left 1
       · intro w' hB; obtain ⟨e1, e2, e3, e4⟩ := hB; have c1 := cell_of_one e1; have c2 := cell_of_one e2; have c3 := cell_of_one e3; obtain ⟨x0, x1, x2, x3⟩ := e4.cellsP (pa l) (pa r) rfl rfl; clear e1 e2 e3 e4; (go_simp <;> with_reducible rfl)
       try simp only [Act.put, zA, zB, zC]
       refine anyW_done (by kernel_rfl) (OnlyE.normal ?_) _
     case' alt6 =>
      obtain ⟨rfl, hJ4, hK4⟩ := hq
      have hSn := hS.keep hK4 h1 h2 h3 HB.out h5 h6
      have H3 : Hid ((∃ pre', pre' <+: L ∧ Jx pre' w4) ∧ KeepE M S Ex W1 w4) := Lib.hid ⟨⟨_, L2.out, hJ4⟩, K3.out.trans hK4⟩
      clear hJ4 hK4 K3 hyy hRR
      refine hK.out _ _ hSn ?_
      clear hK K hS
      have hS := hSn
      clear hSn
      try simp only [Act.put, zA, zB, zC]
      refine anyW_take (i := 17) (oi := ⟨some 37, _, _, _, _, _⟩) (v := ?_) rfl (by kernel_rfl) (fun _ _ _ h => h) (by kernel_rfl) (by kernel_rfl) (Or.inl ⟨by rfl, ?_⟩) hS ?_
      rotate_left 1
      · intro w' hB; (go_simp <;> with_reducible rfl)
      try simp only [Act.put, zA, zB, zC]
      refine anyW_take (i := 18) (oi := ⟨some 38, _, _, _, _, _⟩) (v := ?_) rfl (by kernel_rfl) (fun _ _ _ h => h) (by kernel_rfl) (by kernel_rfl) (Or.inl ⟨by rfl, ?_⟩) hS ?_
      rotate_left 1
      · intro w' hB; (go_simp <;> with_reducible rfl)
      try simp only [Act.put, zA, zB, zC]
      refine anyW_take (i := 19) (oi := ⟨some 39, _, _, _, _, _⟩) rfl (by kernel_rfl) (fun _ _ _ h => h) (by kernel_rfl) (by kernel_rfl) (Or.inr ⟨by rfl, rfl⟩) hS ?_
      try simp only [Act.put, zA, zB, zC]
      refine anyW_take (i := 20) (oi := ⟨some 40, _, _, _, _, _⟩) rfl (by kernel_rfl) (fun _ _ _ h => h) (by kernel_rfl) (by kernel_rfl) (Or.inr ⟨by rfl, rfl⟩) hS ?_
      try simp only [Act.put, zA, zB, zC]
      refine anyW_take (i := 21) (oi := ⟨some 41, _, _, _, _, _⟩) rfl (by kernel_rfl) (fun _ _ _ h => h) (by kernel_rfl) (by kernel_rfl) (Or.inr ⟨by rfl, rfl⟩) hS ?_
      try simp only [Act.put, zA, zB, zC]
      refine anyW_take (i := 22) (oi := ⟨some 42, _, _, _, _, _⟩) rfl (by kernel_rfl) (fun _ _ _ h => h) (by kernel_rfl) (by kernel_rfl) (Or.inr ⟨by rfl, rfl⟩) hS ?_
      try simp only [Act.put, zA, zB, zC]
      refine anyW_take (i := 23) (oi := ⟨some 43, _, _, _, _, _⟩) rfl (by kernel_rfl) (fun _ _ _ h => h) (by kernel_rfl) (by kernel_rfl) (Or.inr ⟨by rfl, rfl⟩) hS ?_
      try simp only [Act.put, zA, zB, zC]
      refine anyW_take (i := 24) (oi := ⟨some 44, _, _, _, _, _⟩) rfl (by kernel_rfl) (fun _ _ _ h => h) (by kernel_rfl) (by kernel_rfl) (Or.inr ⟨by rfl, rfl⟩) hS ?_
      try simp only [Act.put, zA, zB, zC]
      refine anyW_take (i := 25) (oi := ⟨some 45, _, _, _, _, _⟩) (v := ?_) rfl (by kernel_rfl) (fun _ _ _ h => h) (by kernel_rfl) (by kernel_rfl) (Or.inl ⟨by rfl, ?_⟩) hS ?_
      rotate_left 1
      · intro w' hB; (go_simp <;> with_reducible rfl)
      try simp only [Act.put, zA, zB, zC]
      refine anyW_take (i := 26) (oi := ⟨some 5, _, _, _, _, _⟩) (v := ?_) rfl (by kernel_rfl) (fun _ _ _ h => h) (by kernel_rfl) (by kernel_rfl) (Or.inl ⟨by rfl, ?_⟩) hS ?_
      rotate_left 1
      · intro w' hB; obtain ⟨e1, e2, e3, e4⟩ := hB; have c1 := cell_of_one e1; have c2 := cell_of_one e2; have c3 := cell_of_one e3; obtain ⟨x0, x1, x2, x3⟩ := e4.cellsP (pa l) (pa r) rfl rfl; clear e1 e2 e3 e4; (go_simp <;> with_reducible rfl)
      try simp only [Act.put, zA, zB, zC]
      refine anyW_done (by kernel_rfl) (OnlyE.normal ?_) _
    case' alt4 =>
     obtain ⟨rfl, hJ3, hK3⟩ := hq
     have hSn := hSd.keep hK3 h1 h2 h3 HB.out h5 h6
     have H3 : Hid ((∃ pre', pre' <+: L ∧ Jx pre' w3) ∧ KeepE M S Ex W1 w3) := Lib.hid ⟨hJ3, (KeepE.below D3.out HSN.out).trans hK3⟩
     clear hJ3 hK3
     refine hK.out _ _ hSn ?_
     clear hK K hS
     have hS := hSn
     clear hSn
     try simp only [Act.put, zA, zB, zC]
     refine anyW_take (i := 6) (oi := ⟨some 26, _, _, _, _, _⟩) (v := ?_) rfl (by kernel_rfl) (fun _ _ _ h => h) (by kernel_rfl) (by kernel_rfl) (Or.inl ⟨by rfl, ?_⟩) hS ?_
     rotate_left 1
     · intro w' hB; (go_simp <;> with_reducible rfl)
     try simp only [Act.put, zA, zB, zC]
     refine anyW_take (i := 7) (oi := ⟨some 27, _, _, _, _, _⟩) rfl (by kernel_rfl) (fun _ _ _ h => h) (by kernel_rfl) (by kernel_rfl) (Or.inr ⟨by rfl, rfl⟩) hS ?_
     try simp only [Act.put, zA, zB, zC]
     refine anyW_take (i := 8) (oi := ⟨some 28, _, _, _, _, _⟩) rfl (by kernel_rfl) (fun _ _ _ h => h) (by kernel_rfl) (by kernel_rfl) (Or.inr ⟨by rfl, rfl⟩) hS ?_
     try simp only [Act.put, zA, zB, zC]
     refine anyW_take (i := 9) (oi := ⟨some 29, _, _, _, _, _⟩) rfl (by kernel_rfl) (fun _ _ _ h => h) (by kernel_rfl) (by kernel_rfl) (Or.inr ⟨by rfl, rfl⟩) hS ?_
     try simp only [Act.put, zA, zB, zC]
     refine anyW_take (i := 10) (oi := ⟨some 30, _, _, _, _, _⟩) rfl (by kernel_rfl) (fun _ _ _ h => h) (by kernel_rfl) (by kernel_rfl) (Or.inr ⟨by rfl, rfl⟩) hS ?_
     try simp only [Act.put, zA, zB, zC]
     refine anyW_take (i := 11) (oi := ⟨some 31, _, _, _, _, _⟩) rfl (by kernel_rfl) (fun _ _ _ h => h) (by kernel_rfl) (by kernel_rfl) (Or.inr ⟨by rfl, rfl⟩) hS ?_
     try simp only [Act.put, zA, zB, zC]
     refine anyW_take (i := 12) (oi := ⟨some 32, _, _, _, _, _⟩) rfl (by kernel_rfl) (fun _ _ _ h => h) (by kernel_rfl) (by kernel_rfl) (Or.inr ⟨by rfl, rfl⟩) hS ?_
     try simp only [Act.put, zA, zB, zC]
     refine anyW_take (i := 13) (oi := ⟨some 33, _, _, _, _, _⟩) rfl (by kernel_rfl) (fun _ _ _ h => h) (by kernel_rfl) (by kernel_rfl) (Or.inr ⟨by rfl, rfl⟩) hS ?_
     try simp only [Act.put, zA, zB, zC]
     refine anyW_take (i := 14) (oi := ⟨some 34, _, _, _, _, _⟩) rfl (by kernel_rfl) (fun _ _ _ h => h) (by kernel_rfl) (by kernel_rfl) (Or.inr ⟨by rfl, rfl⟩) hS ?_
     try simp only [Act.put, zA, zB, zC]
     refine anyW_take (i := 15) (oi := ⟨some 35, _, _, _, _, _⟩) rfl (by kernel_rfl) (fun _ _ _ h => h) (by kernel_rfl) (by kernel_rfl) (Or.inr ⟨by rfl, rfl⟩) hS ?_
     try simp only [Act.put, zA, zB, zC]
     refine anyW_take (i := 16) (oi := ⟨some 36, _, _, _, _, _⟩) rfl (by kernel_rfl) (fun _ _ _ h => h) (by kernel_rfl) (by kernel_rfl) (Or.inr ⟨by rfl, rfl⟩) hS ?_
     try simp only [Act.put, zA, zB, zC]
     refine anyW_take (i := 17) (oi := ⟨some 37, _, _, _, _, _⟩) (v := ?_) rfl (by kernel_rfl) (fun _ _ _ h => h) (by kernel_rfl) (by kernel_rfl) (Or.inl ⟨by rfl, ?_⟩) hS ?_
     rotate_left 1
     · intro w' hB; (go_simp <;> with_reducible rfl)
     try simp only [Act.put, zA, zB, zC]
     refine anyW_take (i := 18) (oi := ⟨some 38, _, _, _, _, _⟩) (v := ?_) rfl (by kernel_rfl) (fun _ _ _ h => h) (by kernel_rfl) (by kernel_rfl) (Or.inl ⟨by rfl, ?_⟩) hS ?_
     rotate_left 1
     · intro w' hB; (go_simp <;> with_reducible rfl)
     try simp only [Act.put, zA, zB, zC]
     refine anyW_take (i := 19) (oi := ⟨some 39, _, _, _, _, _⟩) rfl (by kernel_rfl) (fun _ _ _ h => h) (by kernel_rfl) (by kernel_rfl) (Or.inr ⟨by rfl, rfl⟩) hS ?_
     try simp only [Act.put, zA, zB, zC]
     refine anyW_take (i := 20) (oi := ⟨some 40, _, _, _, _, _⟩) rfl (by kernel_rfl) (fun _ _ _ h => h) (by kernel_rfl) (by kernel_rfl) (Or.inr ⟨by rfl, rfl⟩) hS ?_
     try simp only [Act.put, zA, zB, zC]
     refine anyW_take (i := 21) (oi := ⟨some 41, _, _, _, _, _⟩) rfl (by kernel_rfl) (fun _ _ _ h => h) (by kernel_rfl) (by kernel_rfl) (Or.inr ⟨by rfl, rfl⟩) hS ?_
     try simp only [Act.put, zA, zB, zC]
     refine anyW_take (i := 22) (oi := ⟨some 42, _, _, _, _, _⟩) rfl (by kernel_rfl) (fun _ _ _ h => h) (by kernel_rfl) (by kernel_rfl) (Or.inr ⟨by rfl, rfl⟩) hS ?_
     try simp only [Act.put, zA, zB, zC]
     refine anyW_take (i := 23) (oi := ⟨some 43, _, _, _, _, _⟩) rfl (by kernel_rfl) (fun _ _ _ h => h) (by kernel_rfl) (by kernel_rfl) (Or.inr ⟨by rfl, rfl⟩) hS ?_
     try simp only [Act.put, zA, zB, zC]
     refine anyW_take (i := 24) (oi := ⟨some 44, _, _, _, _, _⟩) rfl (by kernel_rfl) (fun _ _ _ h => h) (by kernel_rfl) (by kernel_rfl) (Or.inr ⟨by rfl, rfl⟩) hS ?_
     try simp only [Act.put, zA, zB, zC]
     refine anyW_take (i := 25) (oi := ⟨some 45, _, _, _, _, _⟩) (v := ?_) rfl (by kernel_rfl) (fun _ _ _ h => h) (by kernel_rfl) (by kernel_rfl) (Or.inl ⟨by rfl, ?_⟩) hS ?_
     rotate_left 1
     · intro w' hB; (go_simp <;> with_reducible rfl)
     try simp only [Act.put, zA, zB, zC]
     refine anyW_take (i := 26) (oi := ⟨some 5, _, _, _, _, _⟩) (v := ?_) rfl (by kernel_rfl) (fun _ _ _ h => h) (by kernel_rfl) (by kernel_rfl) (Or.inl ⟨by rfl, ?_⟩) hS ?_
     rotate_left 1
     · intro w' hB; obtain ⟨e1, e2, e3, e4⟩ := hB; have c1 := cell_of_one e1; have c2 := cell_of_one e2; have c3 := cell_of_one e3; obtain ⟨x0, x1, x2, x3⟩ := e4.cellsP (pa l) (pa r) rfl rfl; clear e1 e2 e3 e4; (go_simp <;> with_reducible rfl)
     try simp only [Act.put, zA, zB, zC]
     refine anyW_done (by kernel_rfl) (OnlyE.normal ?_) _
    all_goals
     clear hS
     gi_wp2
     go_ret
     rw [fromL, if_neg hk]
     first | exact .inl ⟨rfl, by simpa using H3.out.1, H3.out.2⟩ | exact .inr ⟨rfl, H3.out⟩
end Go.Proofs.YtjlliohjeiclaaaGreatDoor
namespace Go.Proofs.YtjlliohjeiclaaaGreatDoor
open Go.RowKit Pm
attribute [local go_sem] Oper.semAt_some
set_option maxRecDepth 100000 in
set_option maxHeartbeats 2000000 in
theorem pm_from_iterS (n : Nat) (key : ByteArray) (t : Tr ByteArray) (kb mb : Nat) (w : World) (S : Nat → Prop) (Ex : TypeId → Prop)
 (hk : Boxed w kb 9 (.string key)) (hm : Boxed w mb 27 (.pointer (pa t))) (ha : AtS w t) (hSk : S kb) (hSt : ∀ b ∈ blocks t, S b) (hSN : ∀ k, S k → k < w.heap.size)
 (h5 : ¬ Ex 195) (h6 : ¬ Ex 165) :
 Iter2 n Tryz.prog 141 #[.pointer (some ⟨kb, 0, none⟩), .pointer (some ⟨mb, 0, none⟩)] encKVS (KeepE (w.heap.size + 2) S Ex)
  (fun pre x _ => pre ++ [x] <+: fromL key t) (fun _ xs W2 W' => xs = fromL key t ∧ W2 = W') (fun pre => pre <+: fromL key t) w := by
 intro ll J Jx W hW hW2 hJo hJxo hY h0
 have hkW : Boxed W kb 9 (.string key) := boxStays hk hW
 have hmW : Boxed W mb 27 (.pointer (pa t)) := boxStays hm hW
 obtain ⟨s, hs⟩ : ∃ s, s = W.heap.size := ⟨_, rfl⟩
 obtain ⟨gv, hgv⟩ : ∃ gv : Value, gv = .func (.func 142) #[] #[.pointer (some ⟨kb, 0, none⟩), .pointer (some ⟨s + 1, 0, none⟩), .pointer (some ⟨s, 0, none⟩)] := ⟨_, rfl⟩
 obtain ⟨Wb, hWb⟩ : ∃ Wb, (W.alloc (.cells #[.func (.yield ll) #[] #[]] 165)).alloc (.cells #[gv] 195) = Wb := ⟨_, rfl⟩
 have g1 : Boxed Wb s 165 (.func (.yield ll) #[] #[]) := by rw [← hWb, hs]; exact (Boxed.new W _ _).alloc _
 have g2 : Boxed Wb (s + 1) 195 gv := by
  have h1 := Boxed.new (W.alloc (.cells #[.func (.yield ll) #[] #[]] 165)) 195 gv
  rw [World.size_alloc, ← hs] at h1
  rw [← hWb]; exact h1
 have hbw : Below W.heap.size W Wb := by rw [← hWb]; exact ((Below.refl _ W).alloc (Nat.le_refl _) _).alloc (by simp) _
 have hsw : w.heap.size + 2 ≤ s := by rw [hs]; exact hW2
 have g3 : Boxed Wb kb 9 (.string key) := boxStays hkW hbw
 have g4 : Boxed Wb mb 27 (.pointer (pa t)) := boxStays hmW hbw
 have g5 : AtS Wb t := (ha.below hW rfl).below hbw rfl
 have hJb : J [] Wb := ownFrom_to hJo h0 hbw
 have GO := Lib.hid (go1_fromS key kb (s + 1) s ll (w.heap.size + 2) S Ex (fromL key t) J Jx _ hJo hSk (by omega) (by omega) h5 h6 (fun pre x W1 hj hx => yieldW (hY pre x W1 hj hx)) t [] Wb hSt
  (fun k hk => Nat.lt_of_lt_of_le (hSN k hk) (Nat.le_trans hW.size hbw.size)) hJb ⟨g3, by rw [← hgv]; exact g2, g1, g5⟩ (by simp))
 have k4 := cell_of_one g4
 rw [hgv] at hWb
 subst hs
 rw [← hWb] at k4
 have HW := Lib.hid hWb
 clear hY hJb g1 g2 g3 g4 g5 hbw h0 hWb hkW hmW hJo hJxo ha hk hm hSN hgv
 refine callsIn_of_wp Tryz.func141 rfl trivial ?_ rfl
 simp only [Tryz.ntmps141, List.size_toArray, List.length_cons, List.length_nil, Nat.reduceAdd, Nat.reduceSub, Array.replicate_succ, Array.replicate_zero, List.push_toArray, List.append_toArray, List.nil_append, List.cons_append]
 gi_wp2
 rw [HW.out]
 refine ⟨trivial, fun hh => (by cases (show false = true from hh)), ?_⟩
 refine (callsIn_wide.2 GO.out).mono ?_
 rintro e W' (⟨rfl, hJ', _⟩ | ⟨rfl, ⟨pre', hp, hJx'⟩, _⟩)
 · gi_wp2
   go_end0
   exact ⟨⟨_, rfl⟩, .inl ⟨fromL key t, _, by simpa using hJ', rfl, rfl⟩⟩
 · gi_wp2
   go_end0
   exact ⟨⟨_, rfl⟩, .inr ⟨pre', hp, hJx'⟩⟩
theorem pm_MFromS (t : Tr ByteArray) (key : ByteArray) (w : World) : Calls Tryz.prog 110 #[.agg #[.pointer (pa t)], .string key] w fun e w' =>
 ∃ kb mb, e = .returned (.func (.func 141) #[] #[.pointer (some ⟨kb, 0, none⟩), .pointer (some ⟨mb, 0, none⟩)]) ∧ w.heap.size ≤ kb ∧ w.heap.size ≤ mb ∧ Boxed w' kb 9 (.string key) ∧ Boxed w' mb 27 (.pointer (pa t)) ∧ Below w.heap.size w w' := by
 go_enter Tryz.func110, Tryz.ntmps110
 go_wp2_with fail
 go_ret
 refine ⟨w.heap.size + 1, w.heap.size, rfl, by omega, Nat.le_refl _, ?_, (Boxed.new w _ _).alloc _, (below_new w _).trans ((below_new _ _).mono (by simp))⟩
 have h1 := Boxed.new (w.alloc (.cells #[.pointer (pa t)] 27)) 9 (.string key)
 rw [World.size_alloc] at h1
 exact h1
theorem pm_MAllS (t : Tr ByteArray) (w : World) : Calls Tryz.prog 104 #[.agg #[.pointer (pa t)]] w fun e w' =>
 ∃ kb mb, e = .returned (.func (.func 141) #[] #[.pointer (some ⟨kb, 0, none⟩), .pointer (some ⟨mb, 0, none⟩)]) ∧ w.heap.size ≤ kb ∧ w.heap.size ≤ mb ∧ Boxed w' kb 9 (.string ⟨#[]⟩) ∧ Boxed w' mb 27 (.pointer (pa t)) ∧ Below w.heap.size w w' := by
 go_enter Tryz.func104, Tryz.ntmps104
 go_wp2_with fail
 refine (pm_MFromS t ⟨#[]⟩ _).mono ?_
 rintro e w' ⟨kb, mb, rfl, h1, h2, h3, h4, hb⟩
 have h1' : w.heap.size ≤ kb := by simp at h1; omega
 have h2' : w.heap.size ≤ mb := by simp at h2; omega
 have H3 := Lib.hid h3
 have H4 := Lib.hid h4
 have HB := Lib.hid ((below_new w (.cells #[.pointer (pa t)] 27)).trans (hb.mono (by simp)))
 clear h1 h2 h3 h4 hb
 go_wp2_with fail
 go_ret
 exact ⟨kb, mb, rfl, h1', h2', H3.out, H4.out, HB.out⟩
end Go.Proofs.YtjlliohjeiclaaaGreatDoor
namespace Go.Proofs.YtjlliohjeiclaaaGreatDoor
open Go.RowKit Pm
attribute [local go_sem] Oper.semAt_some
structure EnvNS (gb yb ll : Nat) (s : Tr ByteArray) (W : World) : Prop where
 g : Boxed W gb 195 (.func (.func 186) #[] #[.pointer (some ⟨gb, 0, none⟩), .pointer (some ⟨yb, 0, none⟩)])
 y : Boxed W yb 195 (.func (.yield ll) #[] #[])
 a : AtS W s
theorem EnvNS.below {gb yb ll : Nat} {s : Tr ByteArray} {W W' : World} (h : EnvNS gb yb ll s W) (hb : Below W.heap.size W W') : EnvNS gb yb ll s W' :=
 ⟨boxStays h.g hb, boxStays h.y hb, h.a.below hb rfl⟩
theorem EnvNS.keep {gb yb ll M : Nat} {S : Nat → Prop} {Ex : TypeId → Prop} {s : Tr ByteArray} {W W' : World} (h : EnvNS gb yb ll s W) (hk : KeepE M S Ex W W')
 (h2 : M ≤ gb) (h3 : M ≤ yb) (h4 : ∀ b ∈ blocks s, S b) (h5 : ¬ Ex 195) : EnvNS gb yb ll s W' :=
 ⟨hk.box h.g h2 h5, hk.box h.y h3 h5, h.a.keep fun b o ho hm => (hk.block b (h4 b hm)).trans ho⟩
end Go.Proofs.YtjlliohjeiclaaaGreatDoor
namespace Go.Proofs.YtjlliohjeiclaaaGreatDoor
open Go.RowKit
def Facts (H : List (Nat × Obj)) (W : World) : Prop := ∀ p ∈ H, W.heap[p.1]? = some p.2
theorem Facts.below {H : List (Nat × Obj)} {A B : World} (h : Facts H A) (hb : Below A.heap.size A B) : Facts H B := fun p hp => (hb.block _ (Array.getElem?_eq_some_iff.1 (h p hp)).1).trans (h p hp)
theorem Facts.lt {H : List (Nat × Obj)} {A : World} (h : Facts H A) : ∀ p ∈ H, p.1 < A.heap.size := fun p hp => (Array.getElem?_eq_some_iff.1 (h p hp)).1
theorem Facts.setCell {H : List (Nat × Obj)} {A : World} {c i : Nat} (h : Facts H A) (hc : ∀ p ∈ H, p.1 ≠ c) (v : Value) : Facts H (A.setCell ⟨c, i, none⟩ v) := fun p hp => (Below.heap_setCell _ _ _ _ (by simpa using hc p hp)).trans (h p hp)
theorem Facts.putObj {H : List (Nat × Obj)} {A : World} {c : Nat} (h : Facts H A) (hc : ∀ p ∈ H, p.1 ≠ c) (o : Obj) : Facts H (A.putObj c o) := fun p hp => (World.putObj_heap_other (fun e => hc p hp e)).trans (h p hp)
theorem Facts.cons {H : List (Nat × Obj)} {A : World} {b : Nat} {o : Obj} (h : Facts H A) (hb : A.heap[b]? = some o) : Facts ((b, o) :: H) A := fun p hp => by
 rcases List.mem_cons.1 hp with rfl | hp
 · exact hb
 · exact h p hp
theorem own_block {β : Type} {B k : Nat} {o : Obj} (hk : k < B) : OwnFrom B (fun (_ : β) W => W.heap[k]? = some o) := by
 rintro _ A A' row h hg hr
 exact (hg.block k (Array.getElem?_eq_some_iff.1 h).1 (fun e => by have := (hr k e.symm).1; omega)).trans h
theorem facts_own {β : Type} (H : List (Nat × Obj)) (B : Nat) (hH : ∀ p ∈ H, p.1 < B) : OwnFrom B (fun (_ : β) W => Facts H W) := by
 rintro b A A' row h hg hr p hp
 exact own_block (β := Unit) (hH p hp) () A A' row (h p hp) hg hr
theorem below_put (s : Nat) (A : World) (D : Nat) (o : Obj) (h : s ≤ D) : Below s A (A.putObj D o) := ⟨rfl, rfl, rfl, by simp, fun k hk => World.putObj_heap_other (by omega)⟩
def marks (Ds : List Nat) : List Deferred := Ds.map fun D => { target := .collected D, args := #[] }
def markF (Ds : List Nat) : List (Nat × Obj) := Ds.map fun D => (D, .deferred (some []))
theorem leaves_marks {F : Fence} {n : Nat} {P : Program} {fn : Func} {tmps : Array Value} {R : Ending → World → Prop} : ∀ (Ds : List Nat) (W : World), Ds.Nodup → Facts (markF Ds) W →
 (∀ W', W'.os = W.os → W'.tape = W.tape → W'.output = W.output → W'.heap.size = W.heap.size → (∀ k, k ∉ Ds → W'.heap[k]? = W.heap[k]?) → ∃ v, (results fn tmps).run P W' = .ok v W' ∧ R (.returned v) W') →
 LeavesInM F n P fn tmps R (marks Ds) .returning W
 | [], W, _, _, h => h W rfl rfl rfl rfl fun _ _ => rfl
 | D :: Ds, W, hnd, hf, h => by
  obtain ⟨h1, h2⟩ := List.nodup_cons.1 hnd
  refine ⟨by simp, .inl ⟨_, _, rfl, run_takeDeferred (hf (D, .deferred (some [])) (by simp [markF])), ?_⟩⟩
  refine leaves_marks Ds _ h2 (Facts.putObj (fun p hp => hf p (by simp only [markF, List.map_cons, List.mem_cons]; exact .inr hp)) (fun p hp e => ?_) _) ?_
  · obtain ⟨D', hD', rfl⟩ := List.mem_map.1 hp
    exact h1 (e ▸ hD')
  · intro W' e1 e2 e3 e4 e5
    refine h W' e1 e2 e3 (by rw [e4]; simp) fun k hk => ?_
    rw [e5 k (fun hm => hk (List.mem_cons_of_mem _ hm))]
    exact World.putObj_heap_other (fun e => hk (e ▸ List.mem_cons_self))
structure SameBut (c y : Nat) (A B : World) : Prop where
 os : B.os = A.os
 tape : B.tape = A.tape
 output : B.output = A.output
 size : A.heap.size ≤ B.heap.size
 block : ∀ k, k < y → k ≠ c → B.heap[k]? = A.heap[k]?
theorem SameBut.refl (c y : Nat) (A : World) : SameBut c y A A := ⟨rfl, rfl, rfl, Nat.le_refl _, fun _ _ _ => rfl⟩
theorem SameBut.trans {c y : Nat} {A B C : World} (h : SameBut c y A B) (k : SameBut c y B C) : SameBut c y A C :=
 ⟨k.os.trans h.os, k.tape.trans h.tape, k.output.trans h.output, Nat.le_trans h.size k.size, fun i h1 h2 => (k.block i h1 h2).trans (h.block i h1 h2)⟩
theorem SameBut.ofBelow {c y : Nat} {A B : World} (h : Below y A B) : SameBut c y A B := ⟨h.os, h.tape, h.output, h.size, fun k hk _ => h.block k hk⟩
theorem SameBut.setCell {c y : Nat} {A B : World} (h : SameBut c y A B) (i : Nat) (v : Value) : SameBut c y A (B.setCell ⟨c, i, none⟩ v) :=
 ⟨h.os, h.tape, h.output, by simpa [World.setCell] using h.size, fun k h1 h2 => (Below.heap_setCell _ _ _ _ (by simpa using h2)).trans (h.block k h1 h2)⟩
theorem SameBut.own {β : Type} {c y B : Nat} {w : World} (hw : y ≤ w.heap.size) (hB : y ≤ B) : OwnFrom B (fun (_ : β) W => SameBut c y w W) := by
 rintro _ A A' row h hg hr
 exact ⟨hg.os.trans h.os, hg.tape.trans h.tape, hg.output.trans h.output, Nat.le_trans h.size hg.size, fun k h1 h2 => (hg.block k (by have := h.size; omega) (fun e => by have := (hr k e.symm).1; omega)).trans (h.block k h1 h2)⟩
def allocs (w : World) : List Obj → World
 | [] => w
 | o :: l => allocs (w.alloc o) l
theorem allocs_below : ∀ (l : List Obj) (w : World), Below w.heap.size w (allocs w l)
 | [], w => Below.refl _ _
 | o :: l, w => (below_new w o).trans ((allocs_below l (w.alloc o)).mono (by simp))
theorem allocs_get : ∀ (l : List Obj) (w : World) (i : Nat) (o : Obj), l[i]? = some o → (allocs w l).heap[w.heap.size + i]? = some o
 | [], w, i, o, h => by simp at h
 | o' :: l, w, 0, o, h => by
  simp at h
  subst h
  exact ((allocs_below l (w.alloc o')).block _ (by simp)).trans (heap_alloc_new w o')
 | o' :: l, w, i + 1, o, h => by
  have := allocs_get l (w.alloc o') i o (by simpa using h)
  rw [World.size_alloc] at this
  rw [show w.heap.size + (i + 1) = w.heap.size + 1 + i by omega]
  exact this
end Go.Proofs.YtjlliohjeiclaaaGreatDoor
namespace Go.Proofs.YtjlliohjeiclaaaGreatDoor
open Go.RowKit St Pm
structure RowKeep (c : Nat) (v : Value) (A B : World) : Prop where
 os : B.os = A.os
 tape : B.tape = A.tape
 output : B.output = A.output
 size : A.heap.size ≤ B.heap.size
 block : ∀ k, k < A.heap.size → k ≠ c → v.ownBlock ≠ some k → B.heap[k]? = A.heap[k]?
theorem RowKeep.below {c z n size base : Nat} {e : TypeId} {v : Value} {xs : List Value} {A B : World} (h : RowKeep c v A B) (hc : z ≤ c) (ho : A.ownsRow base e size v n xs) (hb : z ≤ base) (hz : z ≤ A.heap.size) : Below z A B :=
 ⟨h.os, h.tape, h.output, h.size, fun k hk => h.block k (by omega) (by omega) (fun e => by have := (ho.lt k e).1; omega)⟩
theorem RowKeep.facts {c n size base : Nat} {e : TypeId} {v : Value} {xs : List Value} {A B : World} (h : RowKeep c v A B) {H : List (Nat × Obj)} (hH : Facts H A) (hc : ∀ p ∈ H, p.1 ≠ c) (ho : A.ownsRow base e size v n xs) (hb : ∀ p ∈ H, p.1 < base) : Facts H B :=
 fun p hp => (h.block _ (Facts.lt hH p hp) (hc p hp) (fun e => by have := (ho.lt _ e).1; have := hb p hp; omega)).trans (hH p hp)
theorem RowKeep.keepE {c n size base M : Nat} {e t : TypeId} {v u : Value} {xs : List Value} {A B : World} {S : Nat → Prop} (h : RowKeep c v A B) (ho : A.ownsRow base e size v n xs) (hS : ∀ k, S k → k < base ∧ k ≠ c) (hSN : ∀ k, S k → k < A.heap.size) (hc : c < M) : KeepE M S (fun x => x = e) A B :=
 ⟨h.os, h.tape, h.output, h.size, fun k hk => h.block k (hSN k hk) (hS k hk).2 (fun e' => by have := (ho.lt k e').1; have := (hS k hk).1; omega), fun k o hM hk ht => by
  have hlt := (Array.getElem?_eq_some_iff.1 hk).1
  refine (h.block k hlt (by omega) (fun e' => ?_)).trans hk
  rcases ho.2 with ⟨rfl, _⟩ | ⟨g, cap, cur, rfl, _, hgb, _⟩
  · simp [Value.ownBlock] at e'
  · obtain rfl : g = k := by simpa [Value.ownBlock] using e'
    rw [hgb] at hk
    cases hk
    exact ht _ _ _ rfl rfl⟩
theorem RowKeep.from {c n size base : Nat} {e t : TypeId} {v u : Value} {xs : List Value} {A B : World} (h : RowKeep c v A B) (hc : Boxed A c t u) (ho : A.ownsRow base e size v n xs) (D : Nat) : KeepsFrom D A B :=
 ⟨h.size, fun k o _ hk ho' => (h.block k (Array.getElem?_eq_some_iff.1 hk).1 (fun e' => by rw [e', show A.heap[c]? = _ from hc] at hk; cases hk; cases ho') (fun e' => by
  rcases ho.2 with ⟨rfl, _⟩ | ⟨g, cap, cur, rfl, _, hgb, _⟩
  · simp [Value.ownBlock] at e'
  · obtain rfl : g = k := by simpa [Value.ownBlock] using e'
    rw [hgb] at hk
    cases hk
    cases ho')).trans hk⟩
theorem RowKeep.after {c : Nat} {v : Value} {A0 A B : World} (hb : Below A0.heap.size A0 A) (h : RowKeep c v A B) : RowKeep c v A0 B :=
 ⟨h.os.trans hb.os, h.tape.trans hb.tape, h.output.trans hb.output, Nat.le_trans hb.size h.size, fun k h1 h2 h3 => (h.block k (Nat.lt_of_lt_of_le h1 hb.size) h2 h3).trans (hb.block k h1)⟩
def goodP (p : ByteArray × ByteArray) : Bool := (ofK p.1).isSome && decide (p.2.size ≤ 256)
def decV (p : ByteArray × ByteArray) : Ev := ((ofK p.1).getD ⟨0, 0, ⟨#[]⟩, 0, 0⟩, p.2)
theorem ofK_key {s : Stp} (h : s.ok = true) : ofK (keyB s) = some s.sv := by
 unfold ofK
 have : okKey (keyB s).data.toList = true := okKey_iff.2 ⟨s, h, by simp [keyB]⟩
 rw [if_pos this]
 congr 1
 have h2 : parse (keyB s).data.toList = s := by
  show parse (s.key.toArray.toList) = s
  rw [List.toList_toArray]
  exact parse_key h
 rw [h2]
theorem decV_enc {es : List El} (h : ∀ x ∈ es, okE x = true) : (∀ p ∈ es.map enc, goodP p = true) ∧ (es.map enc).map decV = es.map toV := by
 constructor
 · intro p hp
   obtain ⟨x, hx, rfl⟩ := List.mem_map.1 hp
   obtain ⟨h1, h2⟩ := okE_iff.1 (h x hx)
   unfold goodP enc
   rw [ofK_key h1]
   simpa using h2
 · rw [List.map_map]
   refine List.map_congr_left fun x hx => ?_
   obtain ⟨h1, h2⟩ := okE_iff.1 (h x hx)
   show decV (keyB x.1, x.2) = toV x
   unfold decV toV
   rw [ofK_key h1]
   rfl
end Go.Proofs.YtjlliohjeiclaaaGreatDoor
