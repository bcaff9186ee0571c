/- Words, contracts and walks that the proof stands on (KsD Range Range2 HeldW KeepE Marks KsE). -/
import Derived.Deep.RegionHeld3
import Derived.OneCell
import Derived.RangeFuncBound
import Derived.RangeFuncBox
import Derived.RangeFuncCalls
import Derived.RangeFuncFrom
import Derived.RangeFuncKeeps
import Derived.RangeFuncLeaves
import Derived.RangeFuncNested
import Derived.RangeFuncWrites
import Derived.Shelf.RegionOpen
import Derived.Test.YtjlliohjeiclaaaGreatDoorKB1
import Derived.Test.YtjlliohjeiclaaaGreatDoorKB2
import Derived.Test.YtjlliohjeiclaaaGreatDoorKB3
namespace Go.Proofs.YtjlliohjeiclaaaGreatDoor
open Go.RowKit Ku St
theorem ints_get {w : World} {a : Option Addr} {l : List Nat} (h : CellsAt w a (intsV l)) (k : Nat) (hk : k < l.length) : ∃ b off, a = some ⟨b, off, none⟩ ∧ w.cell? ⟨b, off + k, none⟩ = some (.int .i64 (l[k] : Int)) := h.get k _ (by simp [intsV, hk])
set_option maxRecDepth 100000 in
set_option maxHeartbeats 2000000 in
theorem ref5_Key (s : ByteArray) (w : World) : Calls Tryz.prog 127 #[.string s] w fun e w' => e = .returned (.bool (keyG s)) ∧ Below w.heap.size w w' := by
 obtain ⟨res, hres⟩ : ∃ r, keyG s = r := ⟨_, rfl⟩
 have R := Lib.hid hres
 rw [hres]
 clear hres
 go_enter Tryz.func127, Tryz.ntmps127
 by_cases h1 : s.size < 1
 · have h1i : (s.size : Int) < 1 := by omega
   obtain rfl : false = res := by rw [← R.out]; unfold keyG; rw [decide_eq_false (by omega)]; rfl
   go_wp2_with fail
   go_ret
   exact ⟨rfl, Below.refl _ _⟩
 have h1i : ¬ (s.size : Int) < 1 := by omega
 by_cases h2 : 64 < s.size
 · have h2i : (64 : Int) < (s.size : Int) := by omega
   obtain rfl : false = res := by rw [← R.out]; unfold keyG; rw [decide_eq_false (p := s.size ≤ 64) (by omega)]; simp
   go_wp2_with fail
   go_ret
   exact ⟨rfl, Below.refl _ _⟩
 have h2i : ¬ (64 : Int) < (s.size : Int) := by omega
 go_wp2_with fail
 refine (ref5_runes s w (by omega)).mono ?_
 rintro e w1 ⟨hb, hP⟩
 have HB := Lib.hid hb
 obtain ⟨L, a, n, c, ok, rfl, hn, hn2, hc, hr⟩ : ∃ (L : List Nat) (a : Option Addr) (n c : Nat) (ok : Bool), e = .returned (.tuple #[.slice a n c, .bool ok]) ∧ n = L.length ∧ n ≤ 1000 ∧ CellsAt w1 a (intsV L) ∧ (L.all okC && ok) = res := by
  rcases hP with ⟨h, rfl⟩ | ⟨h, L, a, n, c, rfl, hn, hn2, hc, hl⟩
  · exact ⟨[], none, 0, 0, false, rfl, rfl, by omega, CellsAt.nil _ _, by rw [← R.out]; unfold keyG; rw [h]; simp⟩
  · exact ⟨L, a, n, c, true, rfl, hn, hn2, hc, by rw [hl, ← R.out]; unfold keyG; rw [h, decide_eq_true (by omega), decide_eq_true (by omega)]; simp⟩
 have HN := Lib.hid hn
 have HC := Lib.hid hc
 have HR := Lib.hid hr
 clear hP hb hn hc hr R
 go_wp2_with fail
 go_loopw [5] (fun i wr => ∃ k : Nat, k ≤ n ∧ i = .int .i64 (k : Int) ∧ wr = w1 ∧ Hid ((L.take k).all okC = true)) (fun i _ => n - (intOf i).toNat)
 case atStart => exact ⟨0, Nat.zero_le _, rfl, rfl, Lib.hid (by simp)⟩
 case round =>
  obtain ⟨k, hk, rfl, rfl, HA⟩ := hrel
  by_cases hlt : k < n
  · have hk1 : k < L.length := by have := HN.out; omega
    obtain ⟨ba, oa, rfl, p0⟩ := ints_get HC.out k hk1
    have BAD : Hid (okC L[k] = false → res = false) := Lib.hid (fun h => by
     rw [← HR.out]
     cases hh : L.all okC with
     | false => rfl
     | true => rw [List.all_eq_true.1 hh _ (List.getElem_mem hk1)] at h; cases h)
    have NXT : Hid (okC L[k] = true → (L.take (k + 1)).all okC = true) := Lib.hid (fun h => by rw [List.take_succ_eq_append_getElem hk1, List.all_append, HA.out]; simp [h])
    generalize L[k] = x at *
    have hki : (k : Int) < (n : Int) := by omega
    by_cases g1 : x < 32
    · have g1i : (x : Int) < 32 := by omega
      obtain rfl : false = res := (BAD.out (by unfold okC; rw [decide_eq_false (by omega)]; rfl)).symm
      go_wp2_with fail
      go_ret
      exact ⟨rfl, HB.out⟩
    have g1i : ¬ (x : Int) < 32 := by omega
    by_cases g2 : x = 47
    · subst g2
      obtain rfl : false = res := (BAD.out (by decide)).symm
      go_wp2_with fail
      go_ret
      exact ⟨rfl, HB.out⟩
    have g2i : ((x : Int) == 47) = false := beq_eq_false_iff_ne.2 (by omega)
    have g3i : ¬ (x : Int) = 47 := by omega
    have H := Lib.hid (NXT.out (by unfold okC; rw [decide_eq_true (by omega), decide_eq_true g2]; rfl))
    go_wp2_with fail
    go_roundw
    case rel => exact ⟨k + 1, by omega, by go_num, by trivial, H⟩
    case measure => simp [intOf]; omega
  · obtain rfl : k = n := by omega
    obtain rfl : ok = res := by rw [← HR.out, ← show (L.take k).all okC = L.all okC by rw [HN.out, List.take_length], HA.out]; rfl
    go_wp2_with fail
    go_ret
    exact ⟨rfl, HB.out⟩
set_option maxRecDepth 100000 in
set_option maxHeartbeats 2000000 in
theorem key_Path (l : List ByteArray) (a : Option Addr) (n c : Nat) (w : World) (hl : CellsAt w a (txV l)) (hn : n = l.length) (hs : ∀ x ∈ l, x.size ≤ 9223372036854775807) (hG : Glob w) :
 Calls Tryz.prog 119 #[.slice a n c] w fun e w' => e = .returned (.bool (pathG l)) ∧ Below w.heap.size w w' := by
 have HL := Lib.hid hl
 have HN := Lib.hid hn
 have HS := Lib.hid hs
 have G := Lib.hid hG
 obtain ⟨res, hres⟩ : ∃ r, pathG l = r := ⟨_, rfl⟩
 have R := Lib.hid hres
 rw [hres]
 clear hl hn hs hG hres
 go_enter Tryz.func119, Tryz.ntmps119
 by_cases g6 : 6 < n
 · have g6i : (6 : Int) < (n : Int) := by omega
   obtain rfl : false = res := by rw [← R.out]; unfold pathG; rw [decide_eq_false (by rw [← HN.out]; omega)]; rfl
   go_wp2_with fail
   go_ret
   exact ⟨rfl, Below.refl _ _⟩
 have g6i : ¬ (6 : Int) < (n : Int) := by omega
 have R2 : Hid (l.all keyG = res) := Lib.hid (by rw [← R.out]; unfold pathG; rw [decide_eq_true (by rw [← HN.out]; omega)]; rfl)
 clear R
 go_wp2_with fail
 go_loopw [10] (fun i wr => ∃ k : Nat, k ≤ n ∧ i = .int .i64 (k : Int) ∧ Hid ((l.take k).all keyG = true) ∧ Hid (Below w.heap.size w wr)) (fun i _ => n - (intOf i).toNat)
 case atStart => exact ⟨0, Nat.zero_le _, rfl, Lib.hid (by simp), Lib.hid (Below.refl _ _)⟩
 case round =>
  obtain ⟨k, hk, rfl, HA, HB⟩ := hrel
  by_cases hlt : k < n
  · have hk1 : k < l.length := by have := HN.out; omega
    obtain ⟨ba, oa, rfl, p0⟩ := tx_get (HL.out.below HB.out rfl) k hk1
    have BAD : Hid (keyG l[k] = false → res = false) := Lib.hid (fun h => by
     rw [← R2.out]
     cases hh : l.all keyG with
     | false => rfl
     | true => rw [List.all_eq_true.1 hh _ (List.getElem_mem hk1)] at h; cases h)
    have NXT : Hid (keyG l[k] = true → (l.take (k + 1)).all keyG = true) := Lib.hid (fun h => by rw [List.take_succ_eq_append_getElem hk1, List.all_append, HA.out]; simp [h])
    have SX : Hid (l[k].size ≤ 9223372036854775807) := Lib.hid (HS.out _ (List.getElem_mem hk1))
    generalize l[k] = x at *
    have hki : (k : Int) < (n : Int) := by omega
    go_wp2_with fail
    refine (key_Key x _ SX.out (G.out.below HB.out)).mono ?_
    rintro e w1 ⟨rfl, hb⟩
    have HB1 := Lib.hid (HB.out.trans (hb.mono HB.out.size))
    clear hb p0
    obtain ⟨v, hv⟩ : ∃ q, keyG x = q := ⟨_, rfl⟩
    rw [hv] at BAD NXT ⊢
    clear hv
    cases v with
    | false =>
     obtain rfl : false = res := (BAD.out rfl).symm
     go_wp2_with fail
     go_ret
     exact ⟨rfl, HB1.out⟩
    | true =>
     have H := Lib.hid (NXT.out rfl)
     go_wp2_with fail
     go_roundw
     case rel => exact ⟨k + 1, by omega, by go_num, H, HB1⟩
     case measure => simp [intOf]; omega
  · obtain rfl : k = n := by omega
    obtain rfl : true = res := by rw [← R2.out]; have := HA.out; rw [HN.out, List.take_length] at this; exact this.symm
    go_wp2_with fail
    go_ret
    exact ⟨rfl, HB.out⟩
end Go.Proofs.YtjlliohjeiclaaaGreatDoor
namespace Go.Proofs.YtjlliohjeiclaaaGreatDoor
open Go.RowKit
theorem grown_of_below {w w' : World} (h : Below w.heap.size w w') (row : Option Nat) : w.grownBy w' row := ⟨h.os, h.tape, h.output, h.size, fun k hk _ => h.block k hk⟩
theorem ownFrom_to {β : Type} {B : Nat} {I : β → World → Prop} (h : OwnFrom B I) {s : β} {A A' : World} (hs : I s A) (hb : Below A.heap.size A A') : I s A' :=
 h s A A' none hs (grown_of_below hb none) (fun r e => by cases e)
variable {P : Program} {n : Nat}
end Go.Proofs.YtjlliohjeiclaaaGreatDoor
namespace Go.Proofs.YtjlliohjeiclaaaGreatDoor
open Go.RowKit
def Iter2 {α : Type} (n : Nat) (P : Program) (g : Nat) (lb : Array Value) (encs : α → Array Value) (Kp : World → World → Prop) (X : List α → α → World → Prop) (End : World → List α → World → World → Prop) (Sp : List α → Prop) (w : World) : Prop :=
 ∀ (l : Nat) (J Jx : List α → World → Prop) (W : World), Below w.heap.size w W → w.heap.size + 2 ≤ W.heap.size →
  OwnFrom W.heap.size J → OwnFrom W.heap.size Jx →
  (∀ pre x W1, J pre W1 → X pre x W1 → YieldAt Fence.wide (n - 1) P l (encs x) W1 fun e W' =>
   (e = .returned (.bool true) ∧ J (pre ++ [x]) W' ∧ Kp W1 W') ∨ (e = .returned (.bool false) ∧ Jx (pre ++ [x]) W' ∧ Kp W1 W')) →
  J [] W →
  CallsIn Fence.wide n P g (#[.func (.yield l) #[] #[]] ++ lb) W fun e W' => (∃ v, e = .returned v) ∧ ((∃ xs W2, J xs W2 ∧ End W xs W2 W') ∨ (∃ pre, Sp pre ∧ Jx pre W'))
def bodyPostR2 {α : Type} (B : Nat) (Kp : World → World → Prop) (I : List α → World → Prop) (Ix : Code → List α → World → Prop) (xs : List α) (W : World) : Exit → Act → World → Prop
 | .normal, _, W' => KeepsFrom B W W' ∧ Kp W W' ∧ I xs W'
 | .ret, _, W' => KeepsFrom B W W' ∧ Kp W W' ∧ Ix .ret xs W'
 | .exit id, _, W' => KeepsFrom B W W' ∧ Kp W W' ∧ Ix (.exit id) xs W'
 | .goto t, _, W' => KeepsFrom B W W' ∧ Kp W W' ∧ Ix (.goto t) xs W'
 | .panic _, _, _ => False
 | .outgrown, _, _ => False
variable {P : Program} {n : Nat}
theorem range_law2 {α : Type} {g : Operand} {ps : Array Tmp} {assign body : Code} {Q : Exit → Act → World → Prop} {a : Act} {w : World} {gf : Nat} {lb : Array Value}
 (hg : a.eval g = .func (.func gf) #[] lb) (eg : ∀ args w, (callFunc gf args).run P w = .ok (.enter gf args) w)
 {encs : α → Array Value} {Kp : World → World → Prop} {X : List α → α → World → Prop} {End : World → List α → World → World → Prop} {Sp : List α → Prop} (hseq : Iter2 (n - 1) P gf lb encs Kp X End Sp w)
 (h1 : 1 ≤ n) (hKt : ∀ {A B C : World}, Kp A B → Kp B C → Kp A C) (hKb : ∀ (W : World) (o o' : Obj), W.heap[w.heap.size + 1]? = some o → o.isCells = false → Kp W (W.putObj (w.heap.size + 1) o'))
 (hps : ∀ x, (encs x).size = ps.size) (hX : ∀ pre, OwnFrom w.heap.size (X pre)) (hEnd : ∀ W1, w.heap.size + 2 ≤ W1.heap.size → ∀ xs A B, End W1 xs A B → ∀ k o, k < w.heap.size + 2 → A.heap[k]? = some o → o.isCells = false → B.heap[k]? = some o)
 (I : List α → World → Prop) (Ix : Code → List α → World → Prop) (F : List α → World → Prop) (hI : OwnFrom w.heap.size I) (hIx : ∀ c, OwnFrom w.heap.size (Ix c)) (hF : OwnFrom w.heap.size F) (hIF : ∀ W1, w.heap.size + 2 ≤ W1.heap.size → ∀ xs A B, I xs A → End W1 xs A B → F xs B)
 (h0 : I [] w) (Y : List α → α → Act → World → Prop) (hY : ∀ x a', OwnFrom w.heap.size (fun pre => Y pre x a'))
 (hassign : ∀ (l : Nat) (pre : List α) (x : α) (W : World) (K : Act → World → Prop), I pre W → X pre x W → w.heap.size ≤ W.heap.size →
  (∀ a' W', KeepsFrom w.heap.size W W' → Kp W W' → w.heap.size ≤ W'.heap.size → Y pre x a' W' → K a' W') →
  assign.wpIn (Fence.wide.inRound l) (n - 1 - 1) P (Exit.then K (fun _ _ _ => False)) { tmps := (ps.zip (encs x)).foldl (fun t (p, v) => t.setIfInBounds p v) a.tmps, defers := [] } W)
 (hbody : ∀ (l : Nat) (pre : List α) (x : α) (a' : Act) (W : World), Y pre x a' W → w.heap.size ≤ W.heap.size → body.wpIn (Fence.wide.inRound l) (n - 1 - 1) P (bodyPostR2 w.heap.size Kp I Ix (pre ++ [x]) W) a' W)
 (hdone : ∀ (D : Nat) (xs : List α) (W : World), w.heap.size ≤ D → F xs W → W.heap[D]? = some (.deferred (some [])) → Q .normal { a with defers := { target := .collected D, args := #[] } :: a.defers } W)
 (hstop : ∀ (D : Nat) (c : Code) (pre : List α) (W : World), w.heap.size ≤ D → Sp pre → Ix c pre W → W.heap[D]? = some (.deferred (some [])) → c.wpIn Fence.wide n P Q { a with defers := { target := .collected D, args := #[] } :: a.defers } W) :
 (Code.rangeFunc g ps assign body).wpIn Fence.wide n P Q a w := by
 refine wpIn_rangeFunc fun fn hfn => ?_
 obtain ⟨rec, hrec⟩ : ∃ rec : LoopState → Option Code → Loop, rec = fun st pe => { state := st, pending := pe, fn, tmps := a.tmps, params := ps, assign, body, defers := w.heap.size } := ⟨_, rfl⟩
 obtain ⟨W1, hW1⟩ : ∃ W1, (w.alloc (.deferred (some []))).alloc (.loop (rec .ready none)) = W1 := ⟨_, rfl⟩
 have hb1 : Below w.heap.size w W1 := by
  rw [← hW1]; exact (below_new w _).alloc (by simp) _
 have hL1 : W1.heap[w.heap.size + 1]? = some (.loop (rec .ready none)) := by
  have h := World.alloc_heap_new (w.alloc (.deferred (some []))) (.loop (rec .ready none))
  rw [World.size_alloc, hW1] at h
  exact h
 have hK1 : W1.heap[w.heap.size]? = some (.deferred (some [])) := by
  rw [← hW1]; exact (Below.heap_alloc _ _ _ (by simp)).trans (World.alloc_heap_new w _)
 refine ⟨w.heap.size + 1, [{ target := .collected w.heap.size, args := #[] }], W1, { target := .fn (.func gf) lb, args := #[.func (.yield (w.heap.size + 1)) #[] #[]] }, W1, gf,
  #[.func (.yield (w.heap.size + 1)) #[] #[]] ++ lb, W1, ?_, ?_, ?_, ?_, fun _ => h1, ?_⟩
 · rw [← hW1, hrec]; exact run_enterLoop_outer _ _ _ _ _
 · simp only [resolve, hg]
   simp [go_sem]
 · intro f' _; trivial
 · simp [invoke, go_sem, eg]
 · have keepRec : ∀ {A B : World} {k : Nat} {o : Obj}, A.heap[k]? = some o → Below A.heap.size A B → B.heap[k]? = some o := fun hk hb => (hb.block _ (Array.getElem?_eq_some_iff.1 hk).1).trans hk
   have hsz1 : W1.heap.size = w.heap.size + 2 := by rw [← hW1]; simp
   have key : ∀ {A A' : World} {row : Option Nat}, A.grownBy A' row → (∀ r, row = some r → W1.heap.size ≤ r ∧ ∃ o : Obj, A.heap[r]? = some o ∧ o.isCells = false) → ∀ k o, A.heap[k]? = some o → k < W1.heap.size → A'.heap[k]? = some o := fun hg hr k o hk hlt => (hg.block k (Array.getElem?_eq_some_iff.1 hk).1 (fun e => by have := (hr k e.symm).1; omega)).trans hk
   have hJo : OwnFrom W1.heap.size (fun pre W => I pre W ∧ W.heap[w.heap.size + 1]? = some (.loop (rec .ready none)) ∧ W.heap[w.heap.size]? = some (.deferred (some []))) := by
    rintro s A A' row ⟨h1, h2, h3⟩ hg hr
    exact ⟨hI s A A' row h1 hg (fun r e => ⟨by have := (hr r e).1; omega, (hr r e).2⟩), key hg hr _ _ h2 (by omega), key hg hr _ _ h3 (by omega)⟩
   have hJxo : OwnFrom W1.heap.size (fun pre W => ∃ c, Ix c pre W ∧ W.heap[w.heap.size + 1]? = some (.loop (rec .done (some c))) ∧ W.heap[w.heap.size]? = some (.deferred (some []))) := by
    rintro s A A' row ⟨c, h1, h2, h3⟩ hg hr
    exact ⟨c, hIx c s A A' row h1 hg (fun r e => ⟨by have := (hr r e).1; omega, (hr r e).2⟩), key hg hr _ _ h2 (by omega), key hg hr _ _ h3 (by omega)⟩
   refine (hseq (w.heap.size + 1)
    (fun pre W => I pre W ∧ W.heap[w.heap.size + 1]? = some (.loop (rec .ready none)) ∧ W.heap[w.heap.size]? = some (.deferred (some [])))
    (fun pre W => ∃ c, Ix c pre W ∧ W.heap[w.heap.size + 1]? = some (.loop (rec .done (some c))) ∧ W.heap[w.heap.size]? = some (.deferred (some [])))
    W1 hb1 (by omega) hJo hJxo ?_ ⟨ownFrom_to hI h0 hb1, hL1, hK1⟩).mono ?_
   · rintro pre x W ⟨hi, hl, hk⟩ hx
     have hlt : w.heap.size + 1 < W.heap.size := (Array.getElem?_eq_some_iff.1 hl).1
     have hy := run_yield (P := P) (args := encs x) hl (by rw [hrec]; exact hps x)
     rw [hrec] at hy
     refine ⟨fn, _, assign, body, hy, roundIn_of_wpIn hfn (hassign _ pre x W _ hi hx (by omega) ?_)⟩
     intro a' Wa hkoa hkpa hsa hYa
     have hla := hkoa.same _ _ (by omega) hl rfl
     have hka := hkoa.same _ _ (by omega) hk rfl
     have hlta : w.heap.size + 1 < Wa.heap.size := (Array.getElem?_eq_some_iff.1 hla).1
     refine ⟨_, run_beginRound hla (by rw [hrec]), ?_⟩
     obtain ⟨W2, hW2⟩ : ∃ W2, Wa.putObj (w.heap.size + 1) (.loop { rec .ready none with state := .busy }) = W2 := ⟨_, rfl⟩
     have hl2 : W2.heap[w.heap.size + 1]? = some (.loop { rec .ready none with state := .busy }) := by rw [← hW2]; exact World.putObj_heap_same hlta
     have hk2 : W2.heap[w.heap.size]? = some (.deferred (some [])) := by rw [← hW2]; exact (World.putObj_heap_other (by omega)).trans hka
     have hw2 : Kp W W2 := by rw [← hW2]; exact hKt hkpa (hKb _ _ _ hla rfl)
     have hY2 : Y pre x a' W2 := by rw [← hW2]; exact (hY x a').putObj _ hYa (by omega) hla rfl
     have hs2 : w.heap.size ≤ W2.heap.size := by rw [← hW2, World.putObj_size]; omega
     rw [hW2]
     refine wpIn_mono (hbody _ pre x a' _ hY2 hs2) ?_
     have fin : ∀ (jump : Option Code) (W3 : World), KeepsFrom w.heap.size W2 W3 →
      (Instr.endRound (w.heap.size + 1) jump).run P W3 = .ok (.bool jump.isNone) (W3.putObj (w.heap.size + 1) (.loop (rec (if jump.isNone then .ready else .done) jump))) ∧
      W3.heap[w.heap.size + 1]? = some (.loop { rec .ready none with state := .busy }) ∧
      (W3.putObj (w.heap.size + 1) (.loop (rec (if jump.isNone then .ready else .done) jump))).heap[w.heap.size + 1]? = some (.loop (rec (if jump.isNone then .ready else .done) jump)) ∧
      (W3.putObj (w.heap.size + 1) (.loop (rec (if jump.isNone then .ready else .done) jump))).heap[w.heap.size]? = some (.deferred (some [])) := by
      intro jump W3 hk3
      have hl3 := hk3.same _ _ (by omega) hl2 rfl
      have h4 := run_endRound (P := P) jump hl3
      rw [hrec] at h4 ⊢
      rw [hrec] at hl3
      exact ⟨h4, hl3, World.putObj_heap_same (Array.getElem?_eq_some_iff.1 hl3).1, (World.putObj_heap_other (by omega)).trans (hk3.same _ _ (by omega) hk2 rfl)⟩
     rintro e a3 W3 hp
     cases e with
     | normal =>
      obtain ⟨hk3, hkp3, hi3⟩ := hp
      obtain ⟨hr, hl3, hl4, hk4⟩ := fin none W3 hk3
      exact ⟨_, _, hr, .inl ⟨rfl, ⟨hI.putObj _ hi3 (by omega) hl3 rfl, hl4, hk4⟩, hKt (hKt hw2 hkp3) (hKb _ _ _ hl3 rfl)⟩⟩
     | ret =>
      obtain ⟨hk3, hkp3, hi3⟩ := hp
      obtain ⟨hr, hl3, hl4, hk4⟩ := fin (some .ret) W3 hk3
      exact ⟨_, _, hr, .inr ⟨rfl, ⟨.ret, (hIx _).putObj _ hi3 (by omega) hl3 rfl, hl4, hk4⟩, hKt (hKt hw2 hkp3) (hKb _ _ _ hl3 rfl)⟩⟩
     | exit id =>
      obtain ⟨hk3, hkp3, hi3⟩ := hp
      obtain ⟨hr, hl3, hl4, hk4⟩ := fin (some (.exit id)) W3 hk3
      exact ⟨_, _, hr, .inr ⟨rfl, ⟨.exit id, (hIx _).putObj _ hi3 (by omega) hl3 rfl, hl4, hk4⟩, hKt (hKt hw2 hkp3) (hKb _ _ _ hl3 rfl)⟩⟩
     | goto t =>
      obtain ⟨hk3, hkp3, hi3⟩ := hp
      obtain ⟨hr, hl3, hl4, hk4⟩ := fin (some (.goto t)) W3 hk3
      exact ⟨_, _, hr, .inr ⟨rfl, ⟨.goto t, (hIx _).putObj _ hi3 (by omega) hl3 rfl, hl4, hk4⟩, hKt (hKt hw2 hkp3) (hKb _ _ _ hl3 rfl)⟩⟩
     | panic ch => exact hp.elim
     | outgrown => exact hp.elim
   · rintro e W2 ⟨⟨v, rfl⟩, (⟨xs, W3, ⟨hi, hl, hk⟩, he⟩ | ⟨pre, hSp, c, hi, hl, hk⟩)⟩
     · have ho := hEnd _ (by omega) _ _ _ he
       have hl3 := ho _ _ (by omega) hl rfl
       have hk3 := ho _ _ (by omega) hk rfl
       exact ⟨none, _, by have h4 := run_endLoop (P := P) hl3 (by rw [hrec]; simp); rw [hrec] at h4; exact h4, hdone _ xs _ (Nat.le_refl _) (hF.putObj _ (hIF _ (by omega) _ _ _ hi he) (by omega) hl3 rfl) ((World.putObj_heap_other (by omega)).trans hk3)⟩
     · exact ⟨some c, _, by have h4 := run_endLoop (P := P) hl (by rw [hrec]; simp); rw [hrec] at h4; exact h4, hstop _ c pre _ (Nat.le_refl _) hSp ((hIx c).putObj _ hi (by omega) hl rfl) ((World.putObj_heap_other (by omega)).trans hk)⟩
end Go.Proofs.YtjlliohjeiclaaaGreatDoor
namespace Go.Proofs.YtjlliohjeiclaaaGreatDoor
open Go.RowKit
section
variable {P : Program} {n : Nat} {md : Region.Mode} {ops : Array Oper} {Q : Exit → Act → World → Prop} {S : World → Prop}
def OnlyE (Q : Exit → Act → World → Prop) : Exit → Act → World → Prop
 | .normal, a, w => Q .normal a w
 | _, _, _ => False
theorem OnlyE.normal {a : Act} {w : World} (h : Q .normal a w) : OnlyE Q .normal a w := h
end
end Go.Proofs.YtjlliohjeiclaaaGreatDoor
namespace Go.Proofs.YtjlliohjeiclaaaGreatDoor
open Go.RowKit
structure KeepE (M : Nat) (S : Nat → Prop) (Ex : TypeId → Prop) (A B : World) : Prop where
 os : B.os = A.os
 tape : B.tape = A.tape
 output : B.output = A.output
 size : A.heap.size ≤ B.heap.size
 block : ∀ k, S k → B.heap[k]? = A.heap[k]?
 rest : ∀ k o, M ≤ k → A.heap[k]? = some o → (∀ c t fr, o = .cells c t fr → ¬ Ex t) → B.heap[k]? = some o
theorem KeepE.trans {M : Nat} {S : Nat → Prop} {Ex : TypeId → Prop} {A B C : World} (h : KeepE M S Ex A B) (k : KeepE M S Ex B C) : KeepE M S Ex A C :=
 ⟨k.os.trans h.os, k.tape.trans h.tape, k.output.trans h.output, Nat.le_trans h.size k.size, fun i hi => (k.block i hi).trans (h.block i hi), fun i o hi ho ht => k.rest i o hi (h.rest i o hi ho ht) ht⟩
theorem KeepE.below {M : Nat} {S : Nat → Prop} {Ex : TypeId → Prop} {A B : World} (h : Below A.heap.size A B) (hS : ∀ k, S k → k < A.heap.size) : KeepE M S Ex A B :=
 ⟨h.os, h.tape, h.output, h.size, fun k hk => h.block k (hS k hk), fun k o _ ho _ => (h.block k (Array.getElem?_eq_some_iff.1 ho).1).trans ho⟩
theorem KeepE.refl {M : Nat} {S : Nat → Prop} {Ex : TypeId → Prop} (A : World) : KeepE M S Ex A A := ⟨rfl, rfl, rfl, Nat.le_refl _, fun _ _ => rfl, fun _ _ _ h _ => h⟩
theorem KeepE.put {M : Nat} {S : Nat → Prop} {Ex : TypeId → Prop} (W : World) (l : Nat) (o : Obj) (hl : l < M) (hS : ∀ k, S k → k < l) : KeepE M S Ex W (W.putObj l o) :=
 ⟨rfl, rfl, rfl, by simp, fun i hi => World.putObj_heap_other (by have := hS i hi; omega), fun k o' hk ho _ => (World.putObj_heap_other (by omega)).trans ho⟩
theorem KeepE.setCell {M : Nat} {S : Nat → Prop} {Ex : TypeId → Prop} (W : World) (X i : Nat) (v : Value) (hX : X < M) (hS : ¬ S X) : KeepE M S Ex W (W.setCell ⟨X, i, none⟩ v) :=
 ⟨rfl, rfl, rfl, by simp [World.setCell], fun k hk => Below.heap_setCell _ _ _ _ (fun e => hS (show S X from (show k = X from e) ▸ hk)), fun k o hk ho _ => (Below.heap_setCell _ _ _ _ (by simp; omega)).trans ho⟩
theorem KeepE.box {M : Nat} {S : Nat → Prop} {Ex : TypeId → Prop} {A B : World} (h : KeepE M S Ex A B) {b : Nat} {t : TypeId} {v : Value} (hb : Boxed A b t v) (hM : M ≤ b) (ht : ¬ Ex t) : Boxed B b t v :=
 h.rest b _ hM hb (fun c t' fr e => by cases e; exact ht)
end Go.Proofs.YtjlliohjeiclaaaGreatDoor
namespace Go.Proofs.YtjlliohjeiclaaaGreatDoor
open Go.RowKit
def Facts (H : List (Nat × Obj)) (W : World) : Prop := ∀ p ∈ H, W.heap[p.1]? = some p.2
theorem Facts.below {H : List (Nat × Obj)} {A B : World} (h : Facts H A) (hb : Below A.heap.size A B) : Facts H B := fun p hp => (hb.block _ (Array.getElem?_eq_some_iff.1 (h p hp)).1).trans (h p hp)
theorem Facts.lt {H : List (Nat × Obj)} {A : World} (h : Facts H A) : ∀ p ∈ H, p.1 < A.heap.size := fun p hp => (Array.getElem?_eq_some_iff.1 (h p hp)).1
theorem Facts.setCell {H : List (Nat × Obj)} {A : World} {c i : Nat} (h : Facts H A) (hc : ∀ p ∈ H, p.1 ≠ c) (v : Value) : Facts H (A.setCell ⟨c, i, none⟩ v) := fun p hp => (Below.heap_setCell _ _ _ _ (by simpa using hc p hp)).trans (h p hp)
theorem Facts.putObj {H : List (Nat × Obj)} {A : World} {c : Nat} (h : Facts H A) (hc : ∀ p ∈ H, p.1 ≠ c) (o : Obj) : Facts H (A.putObj c o) := fun p hp => (World.putObj_heap_other (fun e => hc p hp e)).trans (h p hp)
theorem Facts.cons {H : List (Nat × Obj)} {A : World} {b : Nat} {o : Obj} (h : Facts H A) (hb : A.heap[b]? = some o) : Facts ((b, o) :: H) A := fun p hp => by
 rcases List.mem_cons.1 hp with rfl | hp
 · exact hb
 · exact h p hp
theorem own_block {β : Type} {B k : Nat} {o : Obj} (hk : k < B) : OwnFrom B (fun (_ : β) W => W.heap[k]? = some o) := by
 rintro _ A A' row h hg hr
 exact (hg.block k (Array.getElem?_eq_some_iff.1 h).1 (fun e => by have := (hr k e.symm).1; omega)).trans h
def marks (Ds : List Nat) : List Deferred := Ds.map fun D => { target := .collected D, args := #[] }
def markF (Ds : List Nat) : List (Nat × Obj) := Ds.map fun D => (D, .deferred (some []))
theorem leaves_marks {F : Fence} {n : Nat} {P : Program} {fn : Func} {tmps : Array Value} {R : Ending → World → Prop} : ∀ (Ds : List Nat) (W : World), Ds.Nodup → Facts (markF Ds) W →
 (∀ W', W'.os = W.os → W'.tape = W.tape → W'.output = W.output → W'.heap.size = W.heap.size → (∀ k, k ∉ Ds → W'.heap[k]? = W.heap[k]?) → ∃ v, (results fn tmps).run P W' = .ok v W' ∧ R (.returned v) W') →
 LeavesInM F n P fn tmps R (marks Ds) .returning W
 | [], W, _, _, h => h W rfl rfl rfl rfl fun _ _ => rfl
 | D :: Ds, W, hnd, hf, h => by
  obtain ⟨h1, h2⟩ := List.nodup_cons.1 hnd
  refine ⟨by simp, .inl ⟨_, _, rfl, run_takeDeferred (hf (D, .deferred (some [])) (by simp [markF])), ?_⟩⟩
  refine leaves_marks Ds _ h2 (Facts.putObj (fun p hp => hf p (by simp only [markF, List.map_cons, List.mem_cons]; exact .inr hp)) (fun p hp e => ?_) _) ?_
  · obtain ⟨D', hD', rfl⟩ := List.mem_map.1 hp
    exact h1 (e ▸ hD')
  · intro W' e1 e2 e3 e4 e5
    refine h W' e1 e2 e3 (by rw [e4]; simp) fun k hk => ?_
    rw [e5 k (fun hm => hk (List.mem_cons_of_mem _ hm))]
    exact World.putObj_heap_other (fun e => hk (e ▸ List.mem_cons_self))
structure SameBut (c y : Nat) (A B : World) : Prop where
 os : B.os = A.os
 tape : B.tape = A.tape
 output : B.output = A.output
 size : A.heap.size ≤ B.heap.size
 block : ∀ k, k < y → k ≠ c → B.heap[k]? = A.heap[k]?
theorem SameBut.refl (c y : Nat) (A : World) : SameBut c y A A := ⟨rfl, rfl, rfl, Nat.le_refl _, fun _ _ _ => rfl⟩
theorem SameBut.trans {c y : Nat} {A B C : World} (h : SameBut c y A B) (k : SameBut c y B C) : SameBut c y A C :=
 ⟨k.os.trans h.os, k.tape.trans h.tape, k.output.trans h.output, Nat.le_trans h.size k.size, fun i h1 h2 => (k.block i h1 h2).trans (h.block i h1 h2)⟩
theorem SameBut.setCell {c y : Nat} {A B : World} (h : SameBut c y A B) (i : Nat) (v : Value) : SameBut c y A (B.setCell ⟨c, i, none⟩ v) :=
 ⟨h.os, h.tape, h.output, by simpa [World.setCell] using h.size, fun k h1 h2 => (Below.heap_setCell _ _ _ _ (by simpa using h2)).trans (h.block k h1 h2)⟩
theorem SameBut.own {β : Type} {c y B : Nat} {w : World} (hw : y ≤ w.heap.size) (hB : y ≤ B) : OwnFrom B (fun (_ : β) W => SameBut c y w W) := by
 rintro _ A A' row h hg hr
 exact ⟨hg.os.trans h.os, hg.tape.trans h.tape, hg.output.trans h.output, Nat.le_trans h.size hg.size, fun k h1 h2 => (hg.block k (by have := h.size; omega) (fun e => by have := (hr k e.symm).1; omega)).trans (h.block k h1 h2)⟩
def allocs (w : World) : List Obj → World
 | [] => w
 | o :: l => allocs (w.alloc o) l
theorem allocs_below : ∀ (l : List Obj) (w : World), Below w.heap.size w (allocs w l)
 | [], w => Below.refl _ _
 | o :: l, w => (below_new w o).trans ((allocs_below l (w.alloc o)).mono (by simp))
theorem allocs_get : ∀ (l : List Obj) (w : World) (i : Nat) (o : Obj), l[i]? = some o → (allocs w l).heap[w.heap.size + i]? = some o
 | [], w, i, o, h => by simp at h
 | o' :: l, w, 0, o, h => by
  simp at h
  subst h
  exact ((allocs_below l (w.alloc o')).block _ (by simp)).trans (heap_alloc_new w o')
 | o' :: l, w, i + 1, o, h => by
  have := allocs_get l (w.alloc o') i o (by simpa using h)
  rw [World.size_alloc] at this
  rw [show w.heap.size + (i + 1) = w.heap.size + 1 + i by omega]
  exact this
end Go.Proofs.YtjlliohjeiclaaaGreatDoor
namespace Go.Proofs.YtjlliohjeiclaaaGreatDoor
open Go.RowKit Ku St
set_option maxRecDepth 100000 in
set_option maxHeartbeats 2000000 in
theorem ref5_Path (l : List ByteArray) (a : Option Addr) (n c : Nat) (w : World) (hl : CellsAt w a (txV l)) (hn : n = l.length) :
 Calls Tryz.prog 126 #[.slice a n c] w fun e w' => e = .returned (.bool (pathG l)) ∧ Below w.heap.size w w' := by
 have HL := Lib.hid hl
 have HN := Lib.hid hn
 obtain ⟨res, hres⟩ : ∃ r, pathG l = r := ⟨_, rfl⟩
 have R := Lib.hid hres
 rw [hres]
 clear hl hn hres
 go_enter Tryz.func126, Tryz.ntmps126
 by_cases g6 : 6 < n
 · have g6i : (6 : Int) < (n : Int) := by omega
   obtain rfl : false = res := by rw [← R.out]; unfold pathG; rw [decide_eq_false (by rw [← HN.out]; omega)]; rfl
   go_wp2_with fail
   go_ret
   exact ⟨rfl, Below.refl _ _⟩
 have g6i : ¬ (6 : Int) < (n : Int) := by omega
 have R2 : Hid (l.all keyG = res) := Lib.hid (by rw [← R.out]; unfold pathG; rw [decide_eq_true (by rw [← HN.out]; omega)]; rfl)
 clear R
 go_wp2_with fail
 go_loopw [3] (fun i wr => ∃ k : Nat, k ≤ n ∧ i = .int .i64 (k : Int) ∧ Hid ((l.take k).all keyG = true) ∧ Hid (Below w.heap.size w wr)) (fun i _ => n - (intOf i).toNat)
 case atStart => exact ⟨0, Nat.zero_le _, rfl, Lib.hid (by simp), Lib.hid (Below.refl _ _)⟩
 case round =>
  obtain ⟨k, hk, rfl, HA, HB⟩ := hrel
  by_cases hlt : k < n
  · have hk1 : k < l.length := by have := HN.out; omega
    obtain ⟨ba, oa, rfl, p0⟩ := tx_get (HL.out.below HB.out rfl) k hk1
    have BAD : Hid (keyG l[k] = false → res = false) := Lib.hid (fun h => by
     rw [← R2.out]
     cases hh : l.all keyG with
     | false => rfl
     | true => rw [List.all_eq_true.1 hh _ (List.getElem_mem hk1)] at h; cases h)
    have NXT : Hid (keyG l[k] = true → (l.take (k + 1)).all keyG = true) := Lib.hid (fun h => by rw [List.take_succ_eq_append_getElem hk1, List.all_append, HA.out]; simp [h])
    generalize l[k] = x at *
    have hki : (k : Int) < (n : Int) := by omega
    go_wp2_with fail
    refine (ref5_Key x _).mono ?_
    rintro e w1 ⟨rfl, hb⟩
    have HB1 := Lib.hid (HB.out.trans (hb.mono HB.out.size))
    clear hb p0
    obtain ⟨v, hv⟩ : ∃ q, keyG x = q := ⟨_, rfl⟩
    rw [hv] at BAD NXT ⊢
    clear hv
    cases v with
    | false =>
     obtain rfl : false = res := (BAD.out rfl).symm
     go_wp2_with fail
     go_ret
     exact ⟨rfl, HB1.out⟩
    | true =>
     have H := Lib.hid (NXT.out rfl)
     go_wp2_with fail
     go_roundw
     case rel => exact ⟨k + 1, by omega, by go_num, H, HB1⟩
     case measure => simp [intOf]; omega
  · obtain rfl : k = n := by omega
    obtain rfl : true = res := by rw [← R2.out]; have := HA.out; rw [HN.out, List.take_length] at this; exact this.symm
    go_wp2_with fail
    go_ret
    exact ⟨rfl, HB.out⟩
structure Plc where
 l : List ByteArray
 k : Int
 x : ByteArray
 a : Option Addr
 n : Nat
 c : Nat
def Plc.v (p : Plc) : Value := .agg #[.slice p.a p.n p.c, .int .i64 p.k, .string p.x]
structure PlcAt (w : World) (p : Plc) : Prop where
 at_ : CellsAt w p.a (txV p.l)
 len : p.n = p.l.length
 le : p.n ≤ 9223372036854775807
 sz : ∀ x ∈ p.l, x.size ≤ 9223372036854775807
 sx : p.x.size ≤ 9223372036854775807
theorem PlcAt.below {w w' : World} {p : Plc} (h : PlcAt w p) (hb : Below w.heap.size w w') : PlcAt w' p := ⟨h.at_.below hb rfl, h.len, h.le, h.sz, h.sx⟩
end Go.Proofs.YtjlliohjeiclaaaGreatDoor
