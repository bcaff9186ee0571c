/- Words, contracts and walks that the proof stands on (KnJ SmP KnK KnP). -/
import Derived.Carry
import Derived.MapKept
import Derived.Maps.Own
import Derived.RangeFuncRecord
import Derived.Test.YtjlliohjeiclaaaGreatDoorKB1
import Derived.Test.YtjlliohjeiclaaaGreatDoorKB2
import Derived.Test.YtjlliohjeiclaaaGreatDoorKB3
import Derived.Test.YtjlliohjeiclaaaGreatDoorKB8
namespace Go.Proofs.YtjlliohjeiclaaaGreatDoor
open Go.RowKit St Pm Ku Kn
namespace Kn
def lastGe (l : List Ev) (s : Sv) : Bool := match l.getLast? with
 | none => false
 | some x => decide (0 ≤ svC x.1 s)
def baseG (d : Int) (t : ByteArray) (l : List Ev) : List Ev := if d = 3 then delG t l else if d = 4 then [] else if d = 6 then l.drop 1 else l
def newG (d : Int) (t : ByteArray) (s : Sv) (l : List Ev) : List Ev := baseG d t l ++ (if bringsG d = true then [(s, t)] else [])
def applyG (k m : Int) (l : List Ev) (s : Sv) (ce pk pd pm : Int) (pt : ByteArray) : Int × Int × List Ev × Int :=
 if ce = 2 ∨ valG k m l = false ∨ s.ok = false ∨ lastGe l s = true then (0, 0, [], 2)
 else if ce ≠ 0 ∨ pk ≠ k then (0, 0, [], 7)
 else (k, IntKind.i64.wrap (m + pm), newG pd pt s l, 0)
def ValOut (w w' : World) (r : Int × Int × List Ev × Int) (e : Ending) : Prop :=
 ∃ (a : Option Addr) (n c : Nat), e = .returned (.tuple #[.agg #[.int .i64 r.1, .int .i64 r.2.1, .slice a n c], .int .i64 r.2.2.2]) ∧ CellsAt w' a (elsV r.2.2.1) ∧ n = r.2.2.1.length ∧ n ≤ c ∧ (∀ ad, a = some ad → w.heap.size ≤ ad.block) ∧ Below w.heap.size w w'
def ValOwn (b : Bool) (w w' : World) (r : Int × Int × List Ev × Int) (e : Ending) : Prop :=
 ∃ (a : Option Addr) (n c : Nat), e = .returned (.tuple #[.agg #[.int .i64 r.1, .int .i64 r.2.1, .slice a n c], .int .i64 r.2.2.2]) ∧ CellsAt w' a (elsV r.2.2.1) ∧ n = r.2.2.1.length ∧ n ≤ c ∧ (∀ ad, a = some ad → w.heap.size ≤ ad.block) ∧ Below w.heap.size w w' ∧ (b = true → w'.ownsRow w.heap.size 53 6 (.slice a n c) n (elsV r.2.2.1))
theorem ValOwn.out {b : Bool} {w w' : World} {r : Int × Int × List Ev × Int} {e : Ending} (h : ValOwn b w w' r e) : ValOut w w' r e := by
 obtain ⟨a, n, c, h1, h2, h3, h4, h5, h6, _⟩ := h
 exact ⟨a, n, c, h1, h2, h3, h4, h5, h6⟩
theorem lastGe_at {l : List Ev} {s : Sv} {r : Nat} (h : l.length = r + 1) : lastGe l s = decide (0 ≤ svC (l[r]'(by omega)).1 s) := by
 have e : l.getLast? = some (l[r]'(by omega)) := by
  rw [List.getLast?_eq_getElem?, show l.length - 1 = r by omega]
  exact List.getElem?_eq_getElem _
 unfold lastGe
 rw [e]
end Kn
open Kn
theorem subN_from {a : Option Addr} {k l size B : Nat} (h : ∀ ad, a = some ad → B ≤ ad.block) : ∀ ad, subN a k l size = some ad → B ≤ ad.block := fun ad had => by
 unfold subN at had
 split at had
 · exact h ad had
 · cases a with
   | none => cases had
   | some x =>
    have e : x.add (l * size) = ad := by simpa using had
    have h1 := h x rfl
    have h2 : (x.add (l * size)).block = x.block := by unfold Addr.add; split <;> rfl
    rw [← e, h2]
    exact h1
theorem vz_one : (#[.int .i64 0, .int .i64 0, .slice none 0 0] : Array Value).all (·.oneCell') = true := by simp [Value.oneCell']
theorem cellsAt_two {w w' : World} {a : Option Addr} {vs : List Value} (h : CellsAt w a vs) (hb : Below w.heap.size w w') {y z : Nat} (hf : ∀ ad, a = some ad → ad.block ≠ y ∧ ad.block ≠ z) (i : Nat) (v : Value) (cs : Array Value) : CellsAt ((w'.setCell ⟨y, i, none⟩ v).setRow z cs) a vs := by
 intro j hj
 obtain ⟨b, off, rfl, hc⟩ := h.below hb rfl j hj
 obtain ⟨h1, h2⟩ := hf _ rfl
 refine ⟨b, off, rfl, ?_⟩
 unfold World.cell? at hc ⊢
 rw [setRow_other _ _ _ _ h2, Below.heap_setCell _ _ _ _ (by simpa using h1)]
 exact hc
theorem grown_setRow (w : World) (g : Nat) (cs : Array Value) : w.grownBy (w.setRow g cs) (some g) :=
 ⟨rfl, rfl, rfl, by simp [World.setRow], fun k hk hne => setRow_other _ _ _ _ (fun e => hne (by rw [e]))⟩
theorem kn_bringsB (d : Int) (w : World) : Calls Tryz.prog 81 #[.int .i64 d] w fun e w' => e = .returned (.bool (bringsG d)) ∧ Below w.heap.size w w' := (kn_brings d w).mono fun _ _ ⟨h1, h2⟩ => ⟨h1, by rw [← h2]; exact Below.refl _ _⟩
set_option maxRecDepth 100000 in
set_option maxHeartbeats 8000000 in
theorem kn_ApplyO (k m : Int) (l : List Ev) (a : Option Addr) (n c : Nat) (s : Sv) (pl : List ByteArray) (pk : Int) (px : ByteArray) (pd pm : Int) (pt : ByteArray) (pa : Option Addr) (pn pc : Nat) (w : World)
 (hl : CellsAt w a (elsV l)) (hn : n = l.length) (hnc : n ≤ c) (hb : n ≤ 100000) (hz : ∀ e ∈ l, e.1.l.size ≤ 9223372036854775807) (hs : s.l.size ≤ 9223372036854775807)
 (hp : CellsAt w pa (txV pl)) (hpn : pn = pl.length) (hpz : ∀ x ∈ pl, x.size ≤ 9223372036854775807) (hpx : px.size ≤ 9223372036854775807) (hG : Glob w) :
 Calls Tryz.prog 34 #[.agg #[.int .i64 k, .int .i64 m, .slice a n c], .agg #[.int .i64 s.g, .int .i64 s.r, .string s.l, .int .i64 s.n, .int .i64 s.i], .agg #[.slice pa pn pc, .int .i64 pk, .string px, .int .i64 pd, .int .i64 pm, .string pt]] w fun e w' => ValOwn (bringsG pd) w w' (applyG k m l s (checkK pl pk px pd pm pt) pk pd pm pt) e := by
 have HL := Lib.hid hl
 have HN := Lib.hid hn
 have HNC := Lib.hid hnc
 have HZ := Lib.hid hz
 have HSZ := Lib.hid hs
 have HP := Lib.hid hp
 have HPN := Lib.hid hpn
 have HPZ := Lib.hid hpz
 have HPX := Lib.hid hpx
 have G := Lib.hid hG
 obtain ⟨ce, hce⟩ : ∃ r, checkK pl pk px pd pm pt = r := ⟨_, rfl⟩
 rw [hce]
 have CE := Lib.hid hce
 obtain ⟨re, hre⟩ : ∃ r, applyG k m l s ce pk pd pm pt = r := ⟨_, rfl⟩
 rw [hre]
 have RE := Lib.hid hre
 clear hl hn hnc hz hs hp hpn hpz hpx hG hce hre
 have HC : Hid (Chain [w] w) := Lib.hid (Chain.one w)
 go_enter Tryz.func34, Tryz.ntmps34
 go_upto_region 1 with (fail)
 obtain ⟨z, hz⟩ : ∃ c, w.heap.size = c := ⟨_, rfl⟩
 try rw [hz]
 obtain ⟨w1, hw1⟩ : ∃ X, allocs w [.cells #[.int .i64 k, .int .i64 m, .slice a n c] 79, .cells #[.int .i64 s.g, .int .i64 s.r, .string s.l, .int .i64 s.n, .int .i64 s.i] 43, .cells #[.slice pa pn pc, .int .i64 pk, .string px, .int .i64 pd, .int .i64 pm, .string pt] 82, .cells #[.int .i64 0, .int .i64 0, .slice none 0 0] 79] = X := ⟨_, rfl⟩
 rw [show (((w.alloc (.cells #[.int .i64 k, .int .i64 m, .slice a n c] 79)).alloc (.cells #[.int .i64 s.g, .int .i64 s.r, .string s.l, .int .i64 s.n, .int .i64 s.i] 43)).alloc (.cells #[.slice pa pn pc, .int .i64 pk, .string px, .int .i64 pd, .int .i64 pm, .string pt] 82)).alloc (.cells #[.int .i64 0, .int .i64 0, .slice none 0 0] 79) = w1 from hw1]
 have hb : Below w.heap.size w w1 := by rw [← hw1]; exact allocs_below _ _
 have HV : Hid (w1.heap[z]? = some (.cells #[.int .i64 k, .int .i64 m, .slice a n c] 79 (0, 0))) := Lib.hid (by have := allocs_get [.cells #[.int .i64 k, .int .i64 m, .slice a n c] 79, .cells #[.int .i64 s.g, .int .i64 s.r, .string s.l, .int .i64 s.n, .int .i64 s.i] 43, .cells #[.slice pa pn pc, .int .i64 pk, .string px, .int .i64 pd, .int .i64 pm, .string pt] 82, .cells #[.int .i64 0, .int .i64 0, .slice none 0 0] 79] w 0 _ rfl; rw [hw1, hz] at this; exact this)
 have HS : Hid (w1.heap[z + 1]? = some (.cells #[.int .i64 s.g, .int .i64 s.r, .string s.l, .int .i64 s.n, .int .i64 s.i] 43 (0, 0))) := Lib.hid (by have := allocs_get [.cells #[.int .i64 k, .int .i64 m, .slice a n c] 79, .cells #[.int .i64 s.g, .int .i64 s.r, .string s.l, .int .i64 s.n, .int .i64 s.i] 43, .cells #[.slice pa pn pc, .int .i64 pk, .string px, .int .i64 pd, .int .i64 pm, .string pt] 82, .cells #[.int .i64 0, .int .i64 0, .slice none 0 0] 79] w 1 _ rfl; rw [hw1, hz] at this; exact this)
 have HO : Hid (w1.heap[z + 1 + 1]? = some (.cells #[.slice pa pn pc, .int .i64 pk, .string px, .int .i64 pd, .int .i64 pm, .string pt] 82 (0, 0))) := Lib.hid (by have := allocs_get [.cells #[.int .i64 k, .int .i64 m, .slice a n c] 79, .cells #[.int .i64 s.g, .int .i64 s.r, .string s.l, .int .i64 s.n, .int .i64 s.i] 43, .cells #[.slice pa pn pc, .int .i64 pk, .string px, .int .i64 pd, .int .i64 pm, .string pt] 82, .cells #[.int .i64 0, .int .i64 0, .slice none 0 0] 79] w 2 _ rfl; rw [hw1, hz] at this; exact this)
 have HR : Hid (w1.heap[z + 1 + 1 + 1]? = some (.cells #[.int .i64 0, .int .i64 0, .slice none 0 0] 79 (0, 0))) := Lib.hid (by have := allocs_get [.cells #[.int .i64 k, .int .i64 m, .slice a n c] 79, .cells #[.int .i64 s.g, .int .i64 s.r, .string s.l, .int .i64 s.n, .int .i64 s.i] 43, .cells #[.slice pa pn pc, .int .i64 pk, .string px, .int .i64 pd, .int .i64 pm, .string pt] 82, .cells #[.int .i64 0, .int .i64 0, .slice none 0 0] 79] w 3 _ rfl; rw [hw1, hz] at this; exact this)
 have Sz : Hid (w.heap.size = z) := Lib.hid hz
 replace HC := Lib.hid (HC.out.push hb)
 clear hb hw1 hz
 have VZ := Lib.hid vz_one
 have WZ : Hid (w.heap.size ≤ z + 1 + 1 + 1) := Lib.hid (by have := Sz.out; omega)
 have kO0 := cell_of_row _ _ 0 _ _ _ HO.out
 have kO1 := cell_of_row _ _ 1 _ _ _ HO.out
 have kO2 := cell_of_row _ _ 2 _ _ _ HO.out
 have kO3 := cell_of_row _ _ 3 _ _ _ HO.out
 have kO4 := cell_of_row _ _ 4 _ _ _ HO.out
 have kO5 := cell_of_row _ _ 5 _ _ _ HO.out
 go_wp2_with fail
 refine (kn_Check pl pk px pd pm pt pa pn pc _ (HP.out.below (HC.out.to w (by simp)) rfl) HPN.out HPZ.out HPX.out (G.out.below (HC.out.to w (by simp)))).mono ?_
 rintro e w2 ⟨rfl, hb⟩
 clear kO0 kO1 kO2 kO3 kO4 kO5
 replace HC := Lib.hid (HC.out.push hb)
 clear hb
 rw [CE.out]
 by_cases h2 : ce = 2
 · have hres : re = (0, 0, [], 2) := by rw [← RE.out]; unfold applyG; rw [if_pos (.inl h2)]
   subst h2
   have HRX := Lib.hid (boxStays HR.out (HC.out.to w1 (by simp)))
   have kV0 := cell_of_row _ _ 0 _ _ _ (boxStays HV.out (HC.out.to w1 (by simp)))
   have kV1 := cell_of_row _ _ 1 _ _ _ (boxStays HV.out (HC.out.to w1 (by simp)))
   have kV2 := cell_of_row _ _ 2 _ _ _ (boxStays HV.out (HC.out.to w1 (by simp)))
   have kS0 := cell_of_row _ _ 0 _ _ _ (boxStays HS.out (HC.out.to w1 (by simp)))
   have kS1 := cell_of_row _ _ 1 _ _ _ (boxStays HS.out (HC.out.to w1 (by simp)))
   have kS2 := cell_of_row _ _ 2 _ _ _ (boxStays HS.out (HC.out.to w1 (by simp)))
   have kS3 := cell_of_row _ _ 3 _ _ _ (boxStays HS.out (HC.out.to w1 (by simp)))
   have kS4 := cell_of_row _ _ 4 _ _ _ (boxStays HS.out (HC.out.to w1 (by simp)))
   have kO0 := cell_of_row _ _ 0 _ _ _ (boxStays HO.out (HC.out.to w1 (by simp)))
   have kO1 := cell_of_row _ _ 1 _ _ _ (boxStays HO.out (HC.out.to w1 (by simp)))
   have kO2 := cell_of_row _ _ 2 _ _ _ (boxStays HO.out (HC.out.to w1 (by simp)))
   have kO3 := cell_of_row _ _ 3 _ _ _ (boxStays HO.out (HC.out.to w1 (by simp)))
   have kO4 := cell_of_row _ _ 4 _ _ _ (boxStays HO.out (HC.out.to w1 (by simp)))
   have kO5 := cell_of_row _ _ 5 _ _ _ (boxStays HO.out (HC.out.to w1 (by simp)))
   go_wp2_with (refine wpList_store_row rfl 79 (.tmp 6) (.tmp 26) rfl (z + 1 + 1 + 1) #[.int .i64 0, .int .i64 0, .slice none 0 0] rfl rfl 79 _ HRX.out (by kernel_rfl) rfl VZ.out ?_)
   clear kV0 kV1 kV2 kS0 kS1 kS2 kS3 kS4 kO0 kO1 kO2 kO3 kO4 kO5
   have hx := setRow_heap _ _ _ #[.int .i64 0, .int .i64 0, .slice none 0 0] _ _ HRX.out
   have r0 := cell_of_row _ _ 0 _ _ _ hx
   have r1 := cell_of_row _ _ 1 _ _ _ hx
   have r2 := cell_of_row _ _ 2 _ _ _ hx
   refine bodyPost_ret (v := .tuple #[.agg #[.int .i64 0, .int .i64 0, .slice none 0 0], .int .i64 2]) (by simp [results, Tryz.results34, go_sem, r0, r1, r2]) rfl ?_
   rw [hres]
   exact ⟨none, 0, 0, rfl, CellsAt.nil _ _, rfl, Nat.le_refl _, fun ad had => (by cases had), below_setRow (HC.out.to w (by simp)) WZ.out _, fun _ => ⟨rfl, Or.inl ⟨rfl, rfl⟩⟩⟩
 have h2b : (ce == 2) = false := by simp [h2]
 have kV0 := cell_of_row _ _ 0 _ _ _ (boxStays HV.out (HC.out.to w1 (by simp)))
 have kV1 := cell_of_row _ _ 1 _ _ _ (boxStays HV.out (HC.out.to w1 (by simp)))
 have kV2 := cell_of_row _ _ 2 _ _ _ (boxStays HV.out (HC.out.to w1 (by simp)))
 go_wp2_with fail
 refine (kn_Value k m l a n c _ (HL.out.below (HC.out.to w (by simp)) rfl) HN.out (by omega) HZ.out).mono ?_
 rintro e w3 ⟨rfl, hb⟩
 clear kV0 kV1 kV2
 replace HC := Lib.hid (HC.out.push hb)
 clear hb
 obtain ⟨b3, h3⟩ : ∃ b, valG k m l = b := ⟨_, rfl⟩
 rw [h3]
 have H3 := Lib.hid h3
 clear h3
 cases b3
 case false =>
  have hres : re = (0, 0, [], 2) := by rw [← RE.out]; unfold applyG; rw [if_pos (.inr (.inl H3.out))]
  have HRX := Lib.hid (boxStays HR.out (HC.out.to w1 (by simp)))
  have kV0 := cell_of_row _ _ 0 _ _ _ (boxStays HV.out (HC.out.to w1 (by simp)))
  have kV1 := cell_of_row _ _ 1 _ _ _ (boxStays HV.out (HC.out.to w1 (by simp)))
  have kV2 := cell_of_row _ _ 2 _ _ _ (boxStays HV.out (HC.out.to w1 (by simp)))
  have kS0 := cell_of_row _ _ 0 _ _ _ (boxStays HS.out (HC.out.to w1 (by simp)))
  have kS1 := cell_of_row _ _ 1 _ _ _ (boxStays HS.out (HC.out.to w1 (by simp)))
  have kS2 := cell_of_row _ _ 2 _ _ _ (boxStays HS.out (HC.out.to w1 (by simp)))
  have kS3 := cell_of_row _ _ 3 _ _ _ (boxStays HS.out (HC.out.to w1 (by simp)))
  have kS4 := cell_of_row _ _ 4 _ _ _ (boxStays HS.out (HC.out.to w1 (by simp)))
  have kO0 := cell_of_row _ _ 0 _ _ _ (boxStays HO.out (HC.out.to w1 (by simp)))
  have kO1 := cell_of_row _ _ 1 _ _ _ (boxStays HO.out (HC.out.to w1 (by simp)))
  have kO2 := cell_of_row _ _ 2 _ _ _ (boxStays HO.out (HC.out.to w1 (by simp)))
  have kO3 := cell_of_row _ _ 3 _ _ _ (boxStays HO.out (HC.out.to w1 (by simp)))
  have kO4 := cell_of_row _ _ 4 _ _ _ (boxStays HO.out (HC.out.to w1 (by simp)))
  have kO5 := cell_of_row _ _ 5 _ _ _ (boxStays HO.out (HC.out.to w1 (by simp)))
  go_wp2_with (refine wpList_store_row rfl 79 (.tmp 6) (.tmp 26) rfl (z + 1 + 1 + 1) #[.int .i64 0, .int .i64 0, .slice none 0 0] rfl rfl 79 _ HRX.out (by kernel_rfl) rfl VZ.out ?_)
  clear kV0 kV1 kV2 kS0 kS1 kS2 kS3 kS4 kO0 kO1 kO2 kO3 kO4 kO5
  have hx := setRow_heap _ _ _ #[.int .i64 0, .int .i64 0, .slice none 0 0] _ _ HRX.out
  have r0 := cell_of_row _ _ 0 _ _ _ hx
  have r1 := cell_of_row _ _ 1 _ _ _ hx
  have r2 := cell_of_row _ _ 2 _ _ _ hx
  refine bodyPost_ret (v := .tuple #[.agg #[.int .i64 0, .int .i64 0, .slice none 0 0], .int .i64 2]) (by simp [results, Tryz.results34, go_sem, r0, r1, r2]) rfl ?_
  rw [hres]
  exact ⟨none, 0, 0, rfl, CellsAt.nil _ _, rfl, Nat.le_refl _, fun ad had => (by cases had), below_setRow (HC.out.to w (by simp)) WZ.out _, fun _ => ⟨rfl, Or.inl ⟨rfl, rfl⟩⟩⟩
 have kS0 := cell_of_row _ _ 0 _ _ _ (boxStays HS.out (HC.out.to w1 (by simp)))
 have kS1 := cell_of_row _ _ 1 _ _ _ (boxStays HS.out (HC.out.to w1 (by simp)))
 have kS2 := cell_of_row _ _ 2 _ _ _ (boxStays HS.out (HC.out.to w1 (by simp)))
 have kS3 := cell_of_row _ _ 3 _ _ _ (boxStays HS.out (HC.out.to w1 (by simp)))
 have kS4 := cell_of_row _ _ 4 _ _ _ (boxStays HS.out (HC.out.to w1 (by simp)))
 go_wp2_with fail
 refine (stp_Stamp s _ HSZ.out).mono ?_
 rintro e w4 ⟨rfl, hb⟩
 clear kS0 kS1 kS2 kS3 kS4
 replace HC := Lib.hid (HC.out.push hb)
 clear hb
 obtain ⟨b4, h4⟩ : ∃ b, s.ok = b := ⟨_, rfl⟩
 rw [h4]
 have H4 := Lib.hid h4
 clear h4
 cases b4
 case false =>
  have hres : re = (0, 0, [], 2) := by rw [← RE.out]; unfold applyG; rw [if_pos (.inr (.inr (.inl H4.out)))]
  have HRX := Lib.hid (boxStays HR.out (HC.out.to w1 (by simp)))
  have kV0 := cell_of_row _ _ 0 _ _ _ (boxStays HV.out (HC.out.to w1 (by simp)))
  have kV1 := cell_of_row _ _ 1 _ _ _ (boxStays HV.out (HC.out.to w1 (by simp)))
  have kV2 := cell_of_row _ _ 2 _ _ _ (boxStays HV.out (HC.out.to w1 (by simp)))
  have kS0 := cell_of_row _ _ 0 _ _ _ (boxStays HS.out (HC.out.to w1 (by simp)))
  have kS1 := cell_of_row _ _ 1 _ _ _ (boxStays HS.out (HC.out.to w1 (by simp)))
  have kS2 := cell_of_row _ _ 2 _ _ _ (boxStays HS.out (HC.out.to w1 (by simp)))
  have kS3 := cell_of_row _ _ 3 _ _ _ (boxStays HS.out (HC.out.to w1 (by simp)))
  have kS4 := cell_of_row _ _ 4 _ _ _ (boxStays HS.out (HC.out.to w1 (by simp)))
  have kO0 := cell_of_row _ _ 0 _ _ _ (boxStays HO.out (HC.out.to w1 (by simp)))
  have kO1 := cell_of_row _ _ 1 _ _ _ (boxStays HO.out (HC.out.to w1 (by simp)))
  have kO2 := cell_of_row _ _ 2 _ _ _ (boxStays HO.out (HC.out.to w1 (by simp)))
  have kO3 := cell_of_row _ _ 3 _ _ _ (boxStays HO.out (HC.out.to w1 (by simp)))
  have kO4 := cell_of_row _ _ 4 _ _ _ (boxStays HO.out (HC.out.to w1 (by simp)))
  have kO5 := cell_of_row _ _ 5 _ _ _ (boxStays HO.out (HC.out.to w1 (by simp)))
  go_wp2_with (refine wpList_store_row rfl 79 (.tmp 6) (.tmp 26) rfl (z + 1 + 1 + 1) #[.int .i64 0, .int .i64 0, .slice none 0 0] rfl rfl 79 _ HRX.out (by kernel_rfl) rfl VZ.out ?_)
  clear kV0 kV1 kV2 kS0 kS1 kS2 kS3 kS4 kO0 kO1 kO2 kO3 kO4 kO5
  have hx := setRow_heap _ _ _ #[.int .i64 0, .int .i64 0, .slice none 0 0] _ _ HRX.out
  have r0 := cell_of_row _ _ 0 _ _ _ hx
  have r1 := cell_of_row _ _ 1 _ _ _ hx
  have r2 := cell_of_row _ _ 2 _ _ _ hx
  refine bodyPost_ret (v := .tuple #[.agg #[.int .i64 0, .int .i64 0, .slice none 0 0], .int .i64 2]) (by simp [results, Tryz.results34, go_sem, r0, r1, r2]) rfl ?_
  rw [hres]
  exact ⟨none, 0, 0, rfl, CellsAt.nil _ _, rfl, Nat.le_refl _, fun ad had => (by cases had), below_setRow (HC.out.to w (by simp)) WZ.out _, fun _ => ⟨rfl, Or.inl ⟨rfl, rfl⟩⟩⟩
 have kV0 := cell_of_row _ _ 0 _ _ _ (boxStays HV.out (HC.out.to w1 (by simp)))
 have kV1 := cell_of_row _ _ 1 _ _ _ (boxStays HV.out (HC.out.to w1 (by simp)))
 have kV2 := cell_of_row _ _ 2 _ _ _ (boxStays HV.out (HC.out.to w1 (by simp)))
 go_upto_region 5 with (fail)
 clear kV0 kV1 kV2
 have HV4 := Lib.hid (boxStays HV.out (HC.out.to w1 (by simp)))
 have HS4 := Lib.hid (boxStays HS.out (HC.out.to w1 (by simp)))
 have HL4 := Lib.hid (HL.out.below (HC.out.to w (by simp)) rfl)
 go_cut [43] (fun u43 wx => u43 = .bool (lastGe l s) ∧ Hid (Below w4.heap.size w4 wx))
 case first =>
  by_cases hn0 : n = 0
  · subst hn0
    obtain rfl : l = [] := List.length_eq_zero_iff.1 HN.out.symm
    refine wp_region_noPanic ?_
    refine wp_region_held_drew (S := fun w' => Below w4.heap.size w4 w') (by kernel_rfl) (Below.refl _ _).drew (fun hS => ?_)
    refine wpAnyH_take (i := 0) (oi := ⟨some 30, _, _, _, _, _⟩) (v := ?_) rfl (by kernel_rfl) (by kernel_rfl) (by kernel_rfl) (fun _ _ _ h => h) (Or.inl ⟨by rfl, ?_⟩) hS ?_
    rotate_left 1
    · intro w' hB; skip; (go_simp <;> with_reducible rfl)
    try simp only [Act.put, List.setIfInBounds_toArray, List.set_cons_zero, List.set_cons_succ]
    refine wpAnyH_take (i := 1) (oi := ⟨some 31, _, _, _, _, _⟩) (v := ?_) rfl (by kernel_rfl) (by kernel_rfl) (by kernel_rfl) (fun _ _ _ h => h) (Or.inl ⟨by rfl, ?_⟩) hS ?_
    rotate_left 1
    · intro w' hB; skip; (go_simp <;> with_reducible rfl)
    try simp only [Act.put, List.setIfInBounds_toArray, List.set_cons_zero, List.set_cons_succ]
    refine wpAnyH_take (i := 2) (oi := ⟨some 32, _, _, _, _, _⟩) (v := ?_) rfl (by kernel_rfl) (by kernel_rfl) (by kernel_rfl) (fun _ _ _ h => h) (Or.inl ⟨by rfl, ?_⟩) hS ?_
    rotate_left 1
    · intro w' hB; skip; (go_simp <;> with_reducible rfl)
    try simp only [Act.put, List.setIfInBounds_toArray, List.set_cons_zero, List.set_cons_succ]
    refine wpAnyH_take (i := 3) (oi := ⟨some 33, _, _, _, _, _⟩) rfl (by kernel_rfl) (by kernel_rfl) (by kernel_rfl) (fun _ _ _ h => h) (Or.inr ⟨by rfl, rfl⟩) hS ?_
    try simp only [Act.put, List.setIfInBounds_toArray, List.set_cons_zero, List.set_cons_succ]
    refine wpAnyH_take (i := 4) (oi := ⟨some 34, _, _, _, _, _⟩) rfl (by kernel_rfl) (by kernel_rfl) (by kernel_rfl) (fun _ _ _ h => h) (Or.inr ⟨by rfl, rfl⟩) hS ?_
    try simp only [Act.put, List.setIfInBounds_toArray, List.set_cons_zero, List.set_cons_succ]
    refine wpAnyH_take (i := 5) (oi := ⟨some 35, _, _, _, _, _⟩) rfl (by kernel_rfl) (by kernel_rfl) (by kernel_rfl) (fun _ _ _ h => h) (Or.inr ⟨by rfl, rfl⟩) hS ?_
    try simp only [Act.put, List.setIfInBounds_toArray, List.set_cons_zero, List.set_cons_succ]
    refine wpAnyH_take (i := 6) (oi := ⟨some 36, _, _, _, _, _⟩) rfl (by kernel_rfl) (by kernel_rfl) (by kernel_rfl) (fun _ _ _ h => h) (Or.inr ⟨by rfl, rfl⟩) hS ?_
    try simp only [Act.put, List.setIfInBounds_toArray, List.set_cons_zero, List.set_cons_succ]
    refine wpAnyH_take (i := 7) (oi := ⟨some 37, _, _, _, _, _⟩) rfl (by kernel_rfl) (by kernel_rfl) (by kernel_rfl) (fun _ _ _ h => h) (Or.inr ⟨by rfl, rfl⟩) hS ?_
    try simp only [Act.put, List.setIfInBounds_toArray, List.set_cons_zero, List.set_cons_succ]
    refine wpAnyH_take (i := 8) (oi := ⟨some 38, _, _, _, _, _⟩) rfl (by kernel_rfl) (by kernel_rfl) (by kernel_rfl) (fun _ _ _ h => h) (Or.inr ⟨by rfl, rfl⟩) hS ?_
    try simp only [Act.put, List.setIfInBounds_toArray, List.set_cons_zero, List.set_cons_succ]
    refine wpAnyH_take (i := 9) (oi := ⟨some 39, _, _, _, _, _⟩) rfl (by kernel_rfl) (by kernel_rfl) (by kernel_rfl) (fun _ _ _ h => h) (Or.inr ⟨by rfl, rfl⟩) hS ?_
    try simp only [Act.put, List.setIfInBounds_toArray, List.set_cons_zero, List.set_cons_succ]
    refine wpAnyH_take (i := 10) (oi := ⟨some 40, _, _, _, _, _⟩) rfl (by kernel_rfl) (by kernel_rfl) (by kernel_rfl) (fun _ _ _ h => h) (Or.inr ⟨by rfl, rfl⟩) hS ?_
    try simp only [Act.put, List.setIfInBounds_toArray, List.set_cons_zero, List.set_cons_succ]
    refine wpAnyH_take (i := 11) (oi := ⟨some 41, _, _, _, _, _⟩) rfl (by kernel_rfl) (by kernel_rfl) (by kernel_rfl) (fun _ _ _ h => h) (Or.inr ⟨by rfl, rfl⟩) hS ?_
    try simp only [Act.put, List.setIfInBounds_toArray, List.set_cons_zero, List.set_cons_succ]
    refine wpAnyH_take (i := 12) (oi := ⟨some 42, _, _, _, _, _⟩) rfl (by kernel_rfl) (by kernel_rfl) (by kernel_rfl) (fun _ _ _ h => h) (Or.inr ⟨by rfl, rfl⟩) hS ?_
    try simp only [Act.put, List.setIfInBounds_toArray, List.set_cons_zero, List.set_cons_succ]
    refine wpAnyH_take (i := 13) (oi := ⟨some 43, _, _, _, _, _⟩) (v := ?_) rfl (by kernel_rfl) (by kernel_rfl) (by kernel_rfl) (fun _ _ _ h => h) (Or.inl ⟨by rfl, ?_⟩) hS ?_
    rotate_left 1
    · intro w' hB; skip; (go_simp <;> with_reducible rfl)
    try simp only [Act.put, List.setIfInBounds_toArray, List.set_cons_zero, List.set_cons_succ]
    refine wpAnyH_done (by kernel_rfl) (NoPanic.normal ?_) _
    have HBD := Lib.hid hS
    go_wp2_with fail
    go_meet
    exact ⟨rfl, HBD⟩
  · obtain ⟨r, rfl⟩ : ∃ r, n = r + 1 := ⟨n - 1, by omega⟩
    have hlen : l.length = r + 1 := HN.out.symm
    have hr0 : 0 < (r : Int) + 1 := by omega
    have hrw : IntKind.i64.wrap (r : Int) = r := by rw [IntKind.wrap_i64]; omega
    have hrn : (r : Int) < (r : Int) + 1 := by omega
    have LG := Lib.hid (lastGe_at (s := s) hlen)
    obtain ⟨ba, oa, rfl, cy⟩ := els_get HL4.out r (by omega)
    obtain ⟨v, hv⟩ : ∃ v, l[r]'(by omega) = v := ⟨_, rfl⟩
    rw [hv] at cy LG
    have CY := Lib.hid cy
    clear cy hv hlen
    refine wp_region_noPanic ?_
    refine wp_region_held_drew (S := fun w' => Below w4.heap.size w4 w') (by kernel_rfl) (Below.refl _ _).drew (fun hS => ?_)
    refine wpAnyH_take (i := 0) (oi := ⟨some 30, _, _, _, _, _⟩) (v := ?_) rfl (by kernel_rfl) (by kernel_rfl) (by kernel_rfl) (fun _ _ _ h => h) (Or.inl ⟨by rfl, ?_⟩) hS ?_
    rotate_left 1
    · intro w' hB; have hv := boxStays HV4.out hB; have hs := boxStays HS4.out hB; have y2 := cell_of_row _ z 2 _ _ _ hv; have s0 := cell_of_row _ (z + 1) 0 _ _ _ hs; have s1 := cell_of_row _ (z + 1) 1 _ _ _ hs; have s2 := cell_of_row _ (z + 1) 2 _ _ _ hs; have s3 := cell_of_row _ (z + 1) 3 _ _ _ hs; have s4 := cell_of_row _ (z + 1) 4 _ _ _ hs; obtain ⟨v0, v1, v2, v3, v4, v5⟩ := CY.out.below hB; clear hv hs; (go_simp <;> with_reducible rfl)
    try simp only [Act.put, List.setIfInBounds_toArray, List.set_cons_zero, List.set_cons_succ]
    refine wpAnyH_take (i := 1) (oi := ⟨some 31, _, _, _, _, _⟩) (v := ?_) rfl (by kernel_rfl) (by kernel_rfl) (by kernel_rfl) (fun _ _ _ h => h) (Or.inl ⟨by rfl, ?_⟩) hS ?_
    rotate_left 1
    · intro w' hB; have hv := boxStays HV4.out hB; have hs := boxStays HS4.out hB; have y2 := cell_of_row _ z 2 _ _ _ hv; have s0 := cell_of_row _ (z + 1) 0 _ _ _ hs; have s1 := cell_of_row _ (z + 1) 1 _ _ _ hs; have s2 := cell_of_row _ (z + 1) 2 _ _ _ hs; have s3 := cell_of_row _ (z + 1) 3 _ _ _ hs; have s4 := cell_of_row _ (z + 1) 4 _ _ _ hs; obtain ⟨v0, v1, v2, v3, v4, v5⟩ := CY.out.below hB; clear hv hs; (go_simp <;> with_reducible rfl)
    try simp only [Act.put, List.setIfInBounds_toArray, List.set_cons_zero, List.set_cons_succ]
    refine wpAnyH_take (i := 2) (oi := ⟨some 32, _, _, _, _, _⟩) (v := ?_) rfl (by kernel_rfl) (by kernel_rfl) (by kernel_rfl) (fun _ _ _ h => h) (Or.inl ⟨by rfl, ?_⟩) hS ?_
    rotate_left 1
    · intro w' hB; have hv := boxStays HV4.out hB; have hs := boxStays HS4.out hB; have y2 := cell_of_row _ z 2 _ _ _ hv; have s0 := cell_of_row _ (z + 1) 0 _ _ _ hs; have s1 := cell_of_row _ (z + 1) 1 _ _ _ hs; have s2 := cell_of_row _ (z + 1) 2 _ _ _ hs; have s3 := cell_of_row _ (z + 1) 3 _ _ _ hs; have s4 := cell_of_row _ (z + 1) 4 _ _ _ hs; obtain ⟨v0, v1, v2, v3, v4, v5⟩ := CY.out.below hB; clear hv hs; (go_simp <;> with_reducible rfl)
    try simp only [Act.put, List.setIfInBounds_toArray, List.set_cons_zero, List.set_cons_succ]
    refine wpAnyH_take (i := 3) (oi := ⟨some 33, _, _, _, _, _⟩) (v := ?_) rfl (by kernel_rfl) (by kernel_rfl) (by kernel_rfl) (fun _ _ _ h => h) (Or.inl ⟨by rfl, ?_⟩) hS ?_
    rotate_left 1
    · intro w' hB; have hv := boxStays HV4.out hB; have hs := boxStays HS4.out hB; have y2 := cell_of_row _ z 2 _ _ _ hv; have s0 := cell_of_row _ (z + 1) 0 _ _ _ hs; have s1 := cell_of_row _ (z + 1) 1 _ _ _ hs; have s2 := cell_of_row _ (z + 1) 2 _ _ _ hs; have s3 := cell_of_row _ (z + 1) 3 _ _ _ hs; have s4 := cell_of_row _ (z + 1) 4 _ _ _ hs; obtain ⟨v0, v1, v2, v3, v4, v5⟩ := CY.out.below hB; clear hv hs; (go_simp <;> with_reducible rfl)
    try simp only [Act.put, List.setIfInBounds_toArray, List.set_cons_zero, List.set_cons_succ]
    refine wpAnyH_take (i := 4) (oi := ⟨some 34, _, _, _, _, _⟩) (v := ?_) rfl (by kernel_rfl) (by kernel_rfl) (by kernel_rfl) (fun _ _ _ h => h) (Or.inl ⟨by rfl, ?_⟩) hS ?_
    rotate_left 1
    · intro w' hB; have hv := boxStays HV4.out hB; have hs := boxStays HS4.out hB; have y2 := cell_of_row _ z 2 _ _ _ hv; have s0 := cell_of_row _ (z + 1) 0 _ _ _ hs; have s1 := cell_of_row _ (z + 1) 1 _ _ _ hs; have s2 := cell_of_row _ (z + 1) 2 _ _ _ hs; have s3 := cell_of_row _ (z + 1) 3 _ _ _ hs; have s4 := cell_of_row _ (z + 1) 4 _ _ _ hs; obtain ⟨v0, v1, v2, v3, v4, v5⟩ := CY.out.below hB; clear hv hs; (go_simp <;> with_reducible rfl)
    try simp only [Act.put, List.setIfInBounds_toArray, List.set_cons_zero, List.set_cons_succ]
    refine wpAnyH_take (i := 5) (oi := ⟨some 35, _, _, _, _, _⟩) (v := ?_) rfl (by kernel_rfl) (by kernel_rfl) (by kernel_rfl) (fun _ _ _ h => h) (Or.inl ⟨by rfl, ?_⟩) hS ?_
    rotate_left 1
    · intro w' hB; have hv := boxStays HV4.out hB; have hs := boxStays HS4.out hB; have y2 := cell_of_row _ z 2 _ _ _ hv; have s0 := cell_of_row _ (z + 1) 0 _ _ _ hs; have s1 := cell_of_row _ (z + 1) 1 _ _ _ hs; have s2 := cell_of_row _ (z + 1) 2 _ _ _ hs; have s3 := cell_of_row _ (z + 1) 3 _ _ _ hs; have s4 := cell_of_row _ (z + 1) 4 _ _ _ hs; obtain ⟨v0, v1, v2, v3, v4, v5⟩ := CY.out.below hB; clear hv hs; (go_simp <;> with_reducible rfl)
    try simp only [Act.put, List.setIfInBounds_toArray, List.set_cons_zero, List.set_cons_succ]
    refine wpAnyH_take (i := 6) (oi := ⟨some 36, _, _, _, _, _⟩) (v := ?_) rfl (by kernel_rfl) (by kernel_rfl) (by kernel_rfl) (fun _ _ _ h => h) (Or.inl ⟨by rfl, ?_⟩) hS ?_
    rotate_left 1
    · intro w' hB; have hv := boxStays HV4.out hB; have hs := boxStays HS4.out hB; have y2 := cell_of_row _ z 2 _ _ _ hv; have s0 := cell_of_row _ (z + 1) 0 _ _ _ hs; have s1 := cell_of_row _ (z + 1) 1 _ _ _ hs; have s2 := cell_of_row _ (z + 1) 2 _ _ _ hs; have s3 := cell_of_row _ (z + 1) 3 _ _ _ hs; have s4 := cell_of_row _ (z + 1) 4 _ _ _ hs; obtain ⟨v0, v1, v2, v3, v4, v5⟩ := CY.out.below hB; clear hv hs; (go_simp <;> with_reducible rfl)
    try simp only [Act.put, List.setIfInBounds_toArray, List.set_cons_zero, List.set_cons_succ]
    refine wpAnyH_take (i := 7) (oi := ⟨some 37, _, _, _, _, _⟩) (v := ?_) rfl (by kernel_rfl) (by kernel_rfl) (by kernel_rfl) (fun _ _ _ h => h) (Or.inl ⟨by rfl, ?_⟩) hS ?_
    rotate_left 1
    · intro w' hB; have hv := boxStays HV4.out hB; have hs := boxStays HS4.out hB; have y2 := cell_of_row _ z 2 _ _ _ hv; have s0 := cell_of_row _ (z + 1) 0 _ _ _ hs; have s1 := cell_of_row _ (z + 1) 1 _ _ _ hs; have s2 := cell_of_row _ (z + 1) 2 _ _ _ hs; have s3 := cell_of_row _ (z + 1) 3 _ _ _ hs; have s4 := cell_of_row _ (z + 1) 4 _ _ _ hs; obtain ⟨v0, v1, v2, v3, v4, v5⟩ := CY.out.below hB; clear hv hs; (go_simp <;> with_reducible rfl)
    try simp only [Act.put, List.setIfInBounds_toArray, List.set_cons_zero, List.set_cons_succ]
    refine wpAnyH_take (i := 8) (oi := ⟨some 38, _, _, _, _, _⟩) (v := ?_) rfl (by kernel_rfl) (by kernel_rfl) (by kernel_rfl) (fun _ _ _ h => h) (Or.inl ⟨by rfl, ?_⟩) hS ?_
    rotate_left 1
    · intro w' hB; have hv := boxStays HV4.out hB; have hs := boxStays HS4.out hB; have y2 := cell_of_row _ z 2 _ _ _ hv; have s0 := cell_of_row _ (z + 1) 0 _ _ _ hs; have s1 := cell_of_row _ (z + 1) 1 _ _ _ hs; have s2 := cell_of_row _ (z + 1) 2 _ _ _ hs; have s3 := cell_of_row _ (z + 1) 3 _ _ _ hs; have s4 := cell_of_row _ (z + 1) 4 _ _ _ hs; obtain ⟨v0, v1, v2, v3, v4, v5⟩ := CY.out.below hB; clear hv hs; (go_simp <;> with_reducible rfl)
    try simp only [Act.put, List.setIfInBounds_toArray, List.set_cons_zero, List.set_cons_succ]
    refine wpAnyH_take (i := 9) (oi := ⟨some 39, _, _, _, _, _⟩) (v := ?_) rfl (by kernel_rfl) (by kernel_rfl) (by kernel_rfl) (fun _ _ _ h => h) (Or.inl ⟨by rfl, ?_⟩) hS ?_
    rotate_left 1
    · intro w' hB; have hv := boxStays HV4.out hB; have hs := boxStays HS4.out hB; have y2 := cell_of_row _ z 2 _ _ _ hv; have s0 := cell_of_row _ (z + 1) 0 _ _ _ hs; have s1 := cell_of_row _ (z + 1) 1 _ _ _ hs; have s2 := cell_of_row _ (z + 1) 2 _ _ _ hs; have s3 := cell_of_row _ (z + 1) 3 _ _ _ hs; have s4 := cell_of_row _ (z + 1) 4 _ _ _ hs; obtain ⟨v0, v1, v2, v3, v4, v5⟩ := CY.out.below hB; clear hv hs; (go_simp <;> with_reducible rfl)
    try simp only [Act.put, List.setIfInBounds_toArray, List.set_cons_zero, List.set_cons_succ]
    refine wpAnyH_take (i := 10) (oi := ⟨some 40, _, _, _, _, _⟩) (v := ?_) rfl (by kernel_rfl) (by kernel_rfl) (by kernel_rfl) (fun _ _ _ h => h) (Or.inl ⟨by rfl, ?_⟩) hS ?_
    rotate_left 1
    · intro w' hB; have hv := boxStays HV4.out hB; have hs := boxStays HS4.out hB; have y2 := cell_of_row _ z 2 _ _ _ hv; have s0 := cell_of_row _ (z + 1) 0 _ _ _ hs; have s1 := cell_of_row _ (z + 1) 1 _ _ _ hs; have s2 := cell_of_row _ (z + 1) 2 _ _ _ hs; have s3 := cell_of_row _ (z + 1) 3 _ _ _ hs; have s4 := cell_of_row _ (z + 1) 4 _ _ _ hs; obtain ⟨v0, v1, v2, v3, v4, v5⟩ := CY.out.below hB; clear hv hs; (go_simp <;> with_reducible rfl)
    try simp only [Act.put, List.setIfInBounds_toArray, List.set_cons_zero, List.set_cons_succ]
    refine wpAnyH_ready (rs := [11]) (by kernel_rfl) (by simp) (AllReadyH.cons (o := ⟨some 41, _, _, _, _, _⟩) rfl (fun K hK => ?_) AllReadyH.nil)
    go_simp
    refine (stp_Cmp v.1 s _).mono ?_
    rintro e w6 ⟨rfl, hb⟩
    refine hK.out _ _ (hS.trans (hb.mono hS.size)) (fun _ => ?_)
    clear hK K
    replace hS := hS.trans (hb.mono hS.size)
    clear hb
    try simp only [Act.put, List.setIfInBounds_toArray, List.set_cons_zero, List.set_cons_succ]
    refine wpAnyH_take (i := 12) (oi := ⟨some 42, _, _, _, _, _⟩) (v := ?_) rfl (by kernel_rfl) (by kernel_rfl) (by kernel_rfl) (fun _ _ _ h => h) (Or.inl ⟨by rfl, ?_⟩) hS ?_
    rotate_left 1
    · intro w' hB; have hv := boxStays HV4.out hB; have hs := boxStays HS4.out hB; have y2 := cell_of_row _ z 2 _ _ _ hv; have s0 := cell_of_row _ (z + 1) 0 _ _ _ hs; have s1 := cell_of_row _ (z + 1) 1 _ _ _ hs; have s2 := cell_of_row _ (z + 1) 2 _ _ _ hs; have s3 := cell_of_row _ (z + 1) 3 _ _ _ hs; have s4 := cell_of_row _ (z + 1) 4 _ _ _ hs; obtain ⟨v0, v1, v2, v3, v4, v5⟩ := CY.out.below hB; clear hv hs; (go_simp <;> with_reducible rfl)
    try simp only [Act.put, List.setIfInBounds_toArray, List.set_cons_zero, List.set_cons_succ]
    refine wpAnyH_take (i := 13) (oi := ⟨some 43, _, _, _, _, _⟩) (v := ?_) rfl (by kernel_rfl) (by kernel_rfl) (by kernel_rfl) (fun _ _ _ h => h) (Or.inl ⟨by rfl, ?_⟩) hS ?_
    rotate_left 1
    · intro w' hB; have hv := boxStays HV4.out hB; have hs := boxStays HS4.out hB; have y2 := cell_of_row _ z 2 _ _ _ hv; have s0 := cell_of_row _ (z + 1) 0 _ _ _ hs; have s1 := cell_of_row _ (z + 1) 1 _ _ _ hs; have s2 := cell_of_row _ (z + 1) 2 _ _ _ hs; have s3 := cell_of_row _ (z + 1) 3 _ _ _ hs; have s4 := cell_of_row _ (z + 1) 4 _ _ _ hs; obtain ⟨v0, v1, v2, v3, v4, v5⟩ := CY.out.below hB; clear hv hs; (go_simp <;> with_reducible rfl)
    try simp only [Act.put, List.setIfInBounds_toArray, List.set_cons_zero, List.set_cons_succ]
    refine wpAnyH_done (by kernel_rfl) (NoPanic.normal ?_) _
    have HBD := Lib.hid hS
    go_wp2_with fail
    go_meet
    exact ⟨by rw [LG.out], HBD⟩
 case rest =>
  obtain ⟨rfl, HBD⟩ := hcut
  obtain ⟨w5, rfl⟩ : ∃ X : World, X = wc := ⟨_, rfl⟩
  have hb := HBD.out
  replace HC := Lib.hid (HC.out.push hb)
  clear hb
  obtain ⟨b5, h5⟩ : ∃ b, lastGe l s = b := ⟨_, rfl⟩
  rw [h5]
  have H5 := Lib.hid h5
  clear h5 HBD
  cases b5
  case true =>
   have hres : re = (0, 0, [], 2) := by rw [← RE.out]; unfold applyG; rw [if_pos (.inr (.inr (.inr H5.out)))]
   have HRX := Lib.hid (boxStays HR.out (HC.out.to w1 (by simp)))
   have kV0 := cell_of_row _ _ 0 _ _ _ (boxStays HV.out (HC.out.to w1 (by simp)))
   have kV1 := cell_of_row _ _ 1 _ _ _ (boxStays HV.out (HC.out.to w1 (by simp)))
   have kV2 := cell_of_row _ _ 2 _ _ _ (boxStays HV.out (HC.out.to w1 (by simp)))
   have kS0 := cell_of_row _ _ 0 _ _ _ (boxStays HS.out (HC.out.to w1 (by simp)))
   have kS1 := cell_of_row _ _ 1 _ _ _ (boxStays HS.out (HC.out.to w1 (by simp)))
   have kS2 := cell_of_row _ _ 2 _ _ _ (boxStays HS.out (HC.out.to w1 (by simp)))
   have kS3 := cell_of_row _ _ 3 _ _ _ (boxStays HS.out (HC.out.to w1 (by simp)))
   have kS4 := cell_of_row _ _ 4 _ _ _ (boxStays HS.out (HC.out.to w1 (by simp)))
   have kO0 := cell_of_row _ _ 0 _ _ _ (boxStays HO.out (HC.out.to w1 (by simp)))
   have kO1 := cell_of_row _ _ 1 _ _ _ (boxStays HO.out (HC.out.to w1 (by simp)))
   have kO2 := cell_of_row _ _ 2 _ _ _ (boxStays HO.out (HC.out.to w1 (by simp)))
   have kO3 := cell_of_row _ _ 3 _ _ _ (boxStays HO.out (HC.out.to w1 (by simp)))
   have kO4 := cell_of_row _ _ 4 _ _ _ (boxStays HO.out (HC.out.to w1 (by simp)))
   have kO5 := cell_of_row _ _ 5 _ _ _ (boxStays HO.out (HC.out.to w1 (by simp)))
   go_wp2_with (refine wpList_store_row rfl 79 (.tmp 6) (.tmp 44) rfl (z + 1 + 1 + 1) #[.int .i64 0, .int .i64 0, .slice none 0 0] rfl rfl 79 _ HRX.out (by kernel_rfl) rfl VZ.out ?_)
   clear kV0 kV1 kV2 kS0 kS1 kS2 kS3 kS4 kO0 kO1 kO2 kO3 kO4 kO5
   have hx := setRow_heap _ _ _ #[.int .i64 0, .int .i64 0, .slice none 0 0] _ _ HRX.out
   have r0 := cell_of_row _ _ 0 _ _ _ hx
   have r1 := cell_of_row _ _ 1 _ _ _ hx
   have r2 := cell_of_row _ _ 2 _ _ _ hx
   refine bodyPost_ret (v := .tuple #[.agg #[.int .i64 0, .int .i64 0, .slice none 0 0], .int .i64 2]) (by simp [results, Tryz.results34, go_sem, r0, r1, r2]) rfl ?_
   rw [hres]
   exact ⟨none, 0, 0, rfl, CellsAt.nil _ _, rfl, Nat.le_refl _, fun ad had => (by cases had), below_setRow (HC.out.to w (by simp)) WZ.out _, fun _ => ⟨rfl, Or.inl ⟨rfl, rfl⟩⟩⟩
  have HA0 : Hid (¬ (ce = 2 ∨ valG k m l = false ∨ s.ok = false ∨ lastGe l s = true)) := Lib.hid (by rw [H3.out, H4.out, H5.out]; simp [h2])
  by_cases h7 : ce ≠ 0 ∨ pk ≠ k
  · have hres : re = (0, 0, [], 7) := by rw [← RE.out]; unfold applyG; rw [if_neg HA0.out, if_pos h7]
    by_cases h70 : ce = 0
    · subst h70
      have h71 : (pk == k) = false := by simp at h7; simp [h7]
      have HRX := Lib.hid (boxStays HR.out (HC.out.to w1 (by simp)))
      have kV0 := cell_of_row _ _ 0 _ _ _ (boxStays HV.out (HC.out.to w1 (by simp)))
      have kV1 := cell_of_row _ _ 1 _ _ _ (boxStays HV.out (HC.out.to w1 (by simp)))
      have kV2 := cell_of_row _ _ 2 _ _ _ (boxStays HV.out (HC.out.to w1 (by simp)))
      have kS0 := cell_of_row _ _ 0 _ _ _ (boxStays HS.out (HC.out.to w1 (by simp)))
      have kS1 := cell_of_row _ _ 1 _ _ _ (boxStays HS.out (HC.out.to w1 (by simp)))
      have kS2 := cell_of_row _ _ 2 _ _ _ (boxStays HS.out (HC.out.to w1 (by simp)))
      have kS3 := cell_of_row _ _ 3 _ _ _ (boxStays HS.out (HC.out.to w1 (by simp)))
      have kS4 := cell_of_row _ _ 4 _ _ _ (boxStays HS.out (HC.out.to w1 (by simp)))
      have kO0 := cell_of_row _ _ 0 _ _ _ (boxStays HO.out (HC.out.to w1 (by simp)))
      have kO1 := cell_of_row _ _ 1 _ _ _ (boxStays HO.out (HC.out.to w1 (by simp)))
      have kO2 := cell_of_row _ _ 2 _ _ _ (boxStays HO.out (HC.out.to w1 (by simp)))
      have kO3 := cell_of_row _ _ 3 _ _ _ (boxStays HO.out (HC.out.to w1 (by simp)))
      have kO4 := cell_of_row _ _ 4 _ _ _ (boxStays HO.out (HC.out.to w1 (by simp)))
      have kO5 := cell_of_row _ _ 5 _ _ _ (boxStays HO.out (HC.out.to w1 (by simp)))
      go_wp2_with (refine wpList_store_row rfl 79 (.tmp 6) (.tmp 54) rfl (z + 1 + 1 + 1) #[.int .i64 0, .int .i64 0, .slice none 0 0] rfl rfl 79 _ HRX.out (by kernel_rfl) rfl VZ.out ?_)
      clear kV0 kV1 kV2 kS0 kS1 kS2 kS3 kS4 kO0 kO1 kO2 kO3 kO4 kO5
      have hx := setRow_heap _ _ _ #[.int .i64 0, .int .i64 0, .slice none 0 0] _ _ HRX.out
      have r0 := cell_of_row _ _ 0 _ _ _ hx
      have r1 := cell_of_row _ _ 1 _ _ _ hx
      have r2 := cell_of_row _ _ 2 _ _ _ hx
      refine bodyPost_ret (v := .tuple #[.agg #[.int .i64 0, .int .i64 0, .slice none 0 0], .int .i64 7]) (by simp [results, Tryz.results34, go_sem, r0, r1, r2]) rfl ?_
      rw [hres]
      exact ⟨none, 0, 0, rfl, CellsAt.nil _ _, rfl, Nat.le_refl _, fun ad had => (by cases had), below_setRow (HC.out.to w (by simp)) WZ.out _, fun _ => ⟨rfl, Or.inl ⟨rfl, rfl⟩⟩⟩
    · have h71 : (ce == 0) = false := by simp [h70]
      have HRX := Lib.hid (boxStays HR.out (HC.out.to w1 (by simp)))
      have kV0 := cell_of_row _ _ 0 _ _ _ (boxStays HV.out (HC.out.to w1 (by simp)))
      have kV1 := cell_of_row _ _ 1 _ _ _ (boxStays HV.out (HC.out.to w1 (by simp)))
      have kV2 := cell_of_row _ _ 2 _ _ _ (boxStays HV.out (HC.out.to w1 (by simp)))
      have kS0 := cell_of_row _ _ 0 _ _ _ (boxStays HS.out (HC.out.to w1 (by simp)))
      have kS1 := cell_of_row _ _ 1 _ _ _ (boxStays HS.out (HC.out.to w1 (by simp)))
      have kS2 := cell_of_row _ _ 2 _ _ _ (boxStays HS.out (HC.out.to w1 (by simp)))
      have kS3 := cell_of_row _ _ 3 _ _ _ (boxStays HS.out (HC.out.to w1 (by simp)))
      have kS4 := cell_of_row _ _ 4 _ _ _ (boxStays HS.out (HC.out.to w1 (by simp)))
      have kO0 := cell_of_row _ _ 0 _ _ _ (boxStays HO.out (HC.out.to w1 (by simp)))
      have kO1 := cell_of_row _ _ 1 _ _ _ (boxStays HO.out (HC.out.to w1 (by simp)))
      have kO2 := cell_of_row _ _ 2 _ _ _ (boxStays HO.out (HC.out.to w1 (by simp)))
      have kO3 := cell_of_row _ _ 3 _ _ _ (boxStays HO.out (HC.out.to w1 (by simp)))
      have kO4 := cell_of_row _ _ 4 _ _ _ (boxStays HO.out (HC.out.to w1 (by simp)))
      have kO5 := cell_of_row _ _ 5 _ _ _ (boxStays HO.out (HC.out.to w1 (by simp)))
      go_wp2_with (refine wpList_store_row rfl 79 (.tmp 6) (.tmp 54) rfl (z + 1 + 1 + 1) #[.int .i64 0, .int .i64 0, .slice none 0 0] rfl rfl 79 _ HRX.out (by kernel_rfl) rfl VZ.out ?_)
      clear kV0 kV1 kV2 kS0 kS1 kS2 kS3 kS4 kO0 kO1 kO2 kO3 kO4 kO5
      have hx := setRow_heap _ _ _ #[.int .i64 0, .int .i64 0, .slice none 0 0] _ _ HRX.out
      have r0 := cell_of_row _ _ 0 _ _ _ hx
      have r1 := cell_of_row _ _ 1 _ _ _ hx
      have r2 := cell_of_row _ _ 2 _ _ _ hx
      refine bodyPost_ret (v := .tuple #[.agg #[.int .i64 0, .int .i64 0, .slice none 0 0], .int .i64 7]) (by simp [results, Tryz.results34, go_sem, r0, r1, r2]) rfl ?_
      rw [hres]
      exact ⟨none, 0, 0, rfl, CellsAt.nil _ _, rfl, Nat.le_refl _, fun ad had => (by cases had), below_setRow (HC.out.to w (by simp)) WZ.out _, fun _ => ⟨rfl, Or.inl ⟨rfl, rfl⟩⟩⟩
  obtain ⟨rfl, rfl⟩ : ce = 0 ∧ pk = k := by
   constructor
   · exact Classical.byContradiction fun h => h7 (.inl h)
   · exact Classical.byContradiction fun h => h7 (.inr h)
  have HRE : Hid (re = (pk, IntKind.i64.wrap (m + pm), newG pd pt s l, 0)) := Lib.hid (by rw [← RE.out]; unfold applyG; rw [if_neg HA0.out, if_neg (by simp)])
  clear RE HA0 h7 h2 h2b
  obtain ⟨mm, hmm⟩ : ∃ q, IntKind.i64.wrap (m + pm) = q := ⟨_, rfl⟩
  rw [hmm] at HRE
  have kV0 := cell_of_row _ _ 0 _ _ _ (boxStays HV.out (HC.out.to w1 (by simp)))
  have kV1 := cell_of_row _ _ 1 _ _ _ (boxStays HV.out (HC.out.to w1 (by simp)))
  have kV2 := cell_of_row _ _ 2 _ _ _ (boxStays HV.out (HC.out.to w1 (by simp)))
  have kO0 := cell_of_row _ _ 0 _ _ _ (boxStays HO.out (HC.out.to w1 (by simp)))
  have kO1 := cell_of_row _ _ 1 _ _ _ (boxStays HO.out (HC.out.to w1 (by simp)))
  have kO2 := cell_of_row _ _ 2 _ _ _ (boxStays HO.out (HC.out.to w1 (by simp)))
  have kO3 := cell_of_row _ _ 3 _ _ _ (boxStays HO.out (HC.out.to w1 (by simp)))
  have kO4 := cell_of_row _ _ 4 _ _ _ (boxStays HO.out (HC.out.to w1 (by simp)))
  have kO5 := cell_of_row _ _ 5 _ _ _ (boxStays HO.out (HC.out.to w1 (by simp)))
  go_upto_region 10 with (fail)
  clear hmm
  have LZ5 : Hid (z + 1 + 1 + 1 < w5.heap.size ∧ w.heap.size ≤ w5.heap.size) := Lib.hid ⟨(Array.getElem?_eq_some_iff.1 (boxStays HR.out (HC.out.to w1 (by simp)))).1, (HC.out.to w (by simp)).size⟩
  clear kV0 kV1 kV2 kO0 kO1 kO2 kO3 kO4 kO5
  obtain ⟨y, hy⟩ : ∃ c, w5.heap.size = c := ⟨_, rfl⟩
  try rw [hy]
  obtain ⟨w6, hw6⟩ : ∃ X, allocs w5 [.cells #[.int .i64 pk, .int .i64 mm, .slice none 0 0] 79] = X := ⟨_, rfl⟩
  rw [show w5.alloc (.cells #[.int .i64 pk, .int .i64 mm, .slice none 0 0] 79) = w6 from hw6]
  have hb : Below w5.heap.size w5 w6 := by rw [← hw6]; exact allocs_below _ _
  have HT : Hid (w6.heap[y]? = some (.cells #[.int .i64 pk, .int .i64 mm, .slice none 0 0] 79 (0, 0))) := Lib.hid (by have := allocs_get [.cells #[.int .i64 pk, .int .i64 mm, .slice none 0 0] 79] w5 0 _ rfl; rw [hw6, hy] at this; exact this)
  have Sy : Hid (w5.heap.size = y) := Lib.hid hy
  replace HC := Lib.hid (HC.out.push hb)
  clear hb hw6 hy
  have WY : Hid (z + 1 + 1 + 1 < y ∧ y < w6.heap.size ∧ w.heap.size ≤ y) := Lib.hid (by have h1 := (Array.getElem?_eq_some_iff.1 HT.out).1; have h2 := Sy.out; have h3 := LZ5.out; omega)
  have kV0 := cell_of_row _ _ 0 _ _ _ (boxStays HV.out (HC.out.to w1 (by simp)))
  have kV1 := cell_of_row _ _ 1 _ _ _ (boxStays HV.out (HC.out.to w1 (by simp)))
  have kV2 := cell_of_row _ _ 2 _ _ _ (boxStays HV.out (HC.out.to w1 (by simp)))
  go_wp2_with fail
  clear kV0 kV1 kV2
  have HC6 := HC
  have LB6 := Lib.hid (HC.out.to w (by simp))
  have HR6 := Lib.hid (boxStays HR.out (HC.out.to w1 (by simp)))
  refine (sl_Clone l a n c _ (HL.out.below (HC.out.to w (by simp)) rfl) HN.out (by omega)).mono ?_
  rintro e w7 ⟨a7, k7, rfl, hown, hb⟩
  replace HC := Lib.hid (HC.out.push hb)
  clear hb
  have OW7 := Lib.hid hown
  have NK7 : Hid (n ≤ k7) := Lib.hid (by obtain ⟨_, _, e, h, _⟩ := own_slice hown; cases e; exact h)
  have B67 := Lib.hid (HC.out.to w6 (by simp))
  clear hown
  have HO7 := Lib.hid (boxStays HO.out (HC.out.to w1 (by simp)))
  have OPB : Hid (OpBox (z + 1 + 1) pt w7) := Lib.hid ⟨_, _, _, _, _, HO7.out⟩
  have C7 := Lib.hid (CellsAt.ownN OW7.out)
  have F7 : Hid (∀ ad, a7 = some ad → w6.heap.size ≤ ad.block) := Lib.hid (fun ad had => by
   subst had
   rcases OW7.out.2 with ⟨h0, _⟩ | ⟨g, cap, cur, h0, h1, _⟩
   · cases h0
   · cases h0; exact h1)
  have o3 := cell_of_row _ (z + 1 + 1) 3 _ _ _ HO7.out
  go_upto_block 0 with (fail)
  clear o3
  go_cut [11] (fun u11 wx => ∃ (a9 : Option Addr) (n9 k9 : Nat), u11 = .slice a9 n9 k9 ∧ Hid (CellsAt wx a9 (elsV (baseG pd pt l))) ∧ n9 = (baseG pd pt l).length ∧ n9 ≤ k9 ∧ n9 ≤ n ∧ Hid (bringsG pd = true → wx.ownsRow w6.heap.size 53 6 (.slice a9 n9 k9) n9 (elsV (baseG pd pt l))) ∧ Hid (∀ ad, a9 = some ad → w6.heap.size ≤ ad.block) ∧ Hid (Below w6.heap.size w6 wx))
  case first =>
   rcases (by omega : pd = 3 ∨ pd = 4 ∨ pd = 6 ∨ (pd ≠ 3 ∧ pd ≠ 4 ∧ pd ≠ 6)) with rfl | rfl | rfl | ⟨h3, h4, h6⟩
   · go_wp2_with fail
     refine (sl_DeleteFunc l pt (z + 1 + 1) w6.heap.size a7 n k7 w7 OW7.out HN.out (by omega) NK7.out OPB.out (by have := WY.out; omega)).mono ?_
     rintro e w8 ⟨rfl, hown8, hgr⟩
     have OW8 := Lib.hid hown8
     have B8 : Hid (Below w6.heap.size w6 w8) := Lib.hid (B67.out.grown hgr B67.out.size (fun k' hk => (OW7.out.lt k' hk).1))
     clear hown8 hgr
     go_wp2_with fail
     go_meet
     have hle := del_len pt l
     exact ⟨a7, _, k7, rfl, Lib.hid (CellsAt.ownN OW8.out), rfl, by have := NK7.out; have := HN.out; omega, by have := HN.out; omega, Lib.hid (fun _ => OW8.out), F7, B8⟩
   · go_wp2_with fail
     go_meet
     exact ⟨none, 0, 0, rfl, Lib.hid (CellsAt.nil _ _), rfl, Nat.le_refl _, Nat.zero_le _, Lib.hid (fun _ => ⟨rfl, Or.inl ⟨rfl, rfl⟩⟩), Lib.hid (fun ad had => by cases had), B67⟩
   · by_cases hn0 : n = 0
     · subst hn0
       obtain rfl : l = [] := List.length_eq_zero_iff.1 HN.out.symm
       have hsl := fun W => run_from (P := Tryz.prog) W 22 53 Tryz.underlying22 6 (fun w => by kernel_rfl) a7 0 k7 0 0 rfl (Nat.le_refl _)
       have hmin : min (1 : Int) 0 = 0 := by decide
       go_wp2_with fail
       go_meet
       exact ⟨_, 0, k7, rfl, Lib.hid (CellsAt.nil _ _), rfl, Nat.zero_le _, Nat.le_refl _, Lib.hid (fun h => by simp [bringsG] at h), Lib.hid (subN_from F7.out), B67⟩
     · obtain ⟨r, rfl⟩ : ∃ r, n = r + 1 := ⟨n - 1, by omega⟩
       have hsl := fun W => run_from (P := Tryz.prog) W 22 53 Tryz.underlying22 6 (fun w => by kernel_rfl) a7 (r + 1) k7 1 1 rfl (by omega)
       have hmin : min (1 : Int) ((r : Int) + 1) = 1 := by omega
       go_wp2_with fail
       go_meet
       have hle := NK7.out
       exact ⟨_, r, k7 - 1, rfl, Lib.hid (by have h := cellsFromM C7.out (len := r + 1) (size := 6) (by rw [elsV_length, ← HN.out]) k7 1 (by omega) hle; rw [← elsV_drop] at h; exact h), by show r = (l.drop 1).length; rw [List.length_drop, ← HN.out]; rfl, by omega, by omega, Lib.hid (fun h => by simp [bringsG] at h), Lib.hid (subN_from F7.out), B67⟩
   · go_wp2_with fail
     go_meet
     have hbs : baseG pd pt l = l := by unfold baseG; rw [if_neg h3, if_neg h4, if_neg h6]
     rw [hbs]
     exact ⟨a7, n, k7, rfl, C7, HN.out, NK7.out, Nat.le_refl _, Lib.hid (fun _ => OW7.out), F7, B67⟩
  case rest =>
   obtain ⟨a9, n9, k9, rfl, C9, hn9, hk9, hnn, OW9, F9, HBD⟩ := hcut
   have HN9 := Lib.hid hn9
   clear hn9
   obtain ⟨w8, rfl⟩ : ∃ X : World, X = wc := ⟨_, rfl⟩
   clear HC OW7 OPB C7 F7 HO7 B67 NK7
   have HC := HC6
   have hb := HBD.out
   replace HC := Lib.hid (HC.out.push hb)
   clear hb
   have HB8 := Lib.hid (HC.out.to w (by simp))
   clear HC6 HBD
   have kO0 := cell_of_row _ _ 0 _ _ _ (boxStays HO.out (HC.out.to w1 (by simp)))
   have kO1 := cell_of_row _ _ 1 _ _ _ (boxStays HO.out (HC.out.to w1 (by simp)))
   have kO2 := cell_of_row _ _ 2 _ _ _ (boxStays HO.out (HC.out.to w1 (by simp)))
   have kO3 := cell_of_row _ _ 3 _ _ _ (boxStays HO.out (HC.out.to w1 (by simp)))
   have kO4 := cell_of_row _ _ 4 _ _ _ (boxStays HO.out (HC.out.to w1 (by simp)))
   have kO5 := cell_of_row _ _ 5 _ _ _ (boxStays HO.out (HC.out.to w1 (by simp)))
   go_upto_region 18 with (fail)
   go_wp2_with fail
   refine (kn_bringsB pd _).mono ?_
   rintro e w9 ⟨rfl, hb⟩
   clear kO0 kO1 kO2 kO3 kO4 kO5
   replace HC := Lib.hid (HC.out.push hb)
   clear hb
   have ET := Lib.hid elT
   have HRE2 : Hid (re = (pk, mm, baseG pd pt l ++ (if bringsG pd = true then [(s, pt)] else []), 0)) := Lib.hid (by rw [HRE.out]; unfold newG; rfl)
   have BB9 := Lib.hid (HC.out.to w6 (by simp))
   obtain ⟨bg, hbg⟩ : ∃ b, bringsG pd = b := ⟨_, rfl⟩
   rw [hbg] at OW9 HRE2
   rw [hbg]
   have BG := Lib.hid hbg
   clear hbg HRE
   have HT9 := Lib.hid (boxStays HT.out (HC.out.to w6 (by simp)))
   have HR9 := Lib.hid (boxStays HR.out (HC.out.to w1 (by simp)))
   have BW9 := Lib.hid (HC.out.to w (by simp))
   have NZT : Hid (y ≠ z + 1 + 1 + 1) := Lib.hid (by have := WY.out; omega)
   cases bg
   case false =>
    have hres : re = (pk, mm, baseG pd pt l, 0) := by rw [HRE2.out]; simp
    have t1 := cell_of_row _ _ 2 _ _ _ HT9.out
    have t2 := frozen_of_row _ y 2 _ _ HT9.out
    have t3 := cell_of_row _ _ 0 _ _ _ HT9.out
    have t4 := cell_of_row _ _ 1 _ _ _ HT9.out
    have HTN : Hid ((w9.setCell ⟨y, 2, none⟩ (.slice a9 n9 k9)).heap[y]? = some (.cells #[.int .i64 pk, .int .i64 mm, (.slice a9 n9 k9)] 79 (0, 0))) := Lib.hid (by have := heap_setCell_same w9 y 2 _ _ (.slice a9 n9 k9) HT9.out; simpa using this)
    have HRN : Hid ((w9.setCell ⟨y, 2, none⟩ (.slice a9 n9 k9)).heap[z + 1 + 1 + 1]? = some (.cells #[.int .i64 0, .int .i64 0, .slice none 0 0] 79 (0, 0))) := Lib.hid ((Below.heap_setCell _ _ _ _ (by simpa using NZT.out.symm)).trans HR9.out)
    go_upto_region 21 with (fail)
    clear t1 t2 t3 t4
    have t5 := cell_of_row _ _ 0 _ _ _ HTN.out
    have t6 := cell_of_row _ _ 1 _ _ _ HTN.out
    have t7 := cell_of_row _ _ 2 _ _ _ HTN.out
    go_wp2_with (refine wpList_store_row rfl 79 (.tmp 6) (.tmp 94) rfl (z + 1 + 1 + 1) #[.int .i64 pk, .int .i64 mm, (.slice a9 n9 k9)] rfl rfl 79 _ HRN.out (by kernel_rfl) rfl (by simp [Value.oneCell']) ?_)
    have hx := setRow_heap _ _ _ #[.int .i64 pk, .int .i64 mm, (.slice a9 n9 k9)] _ _ HRN.out
    have r0 := cell_of_row _ _ 0 _ _ _ hx
    have r1 := cell_of_row _ _ 1 _ _ _ hx
    have r2 := cell_of_row _ _ 2 _ _ _ hx
    refine bodyPost_ret (v := .tuple #[.agg #[.int .i64 pk, .int .i64 mm, (.slice a9 n9 k9)], .int .i64 0]) (by simp [results, Tryz.results34, go_sem, r0, r1, r2]) rfl ?_
    rw [hres]
    refine ⟨a9, n9, k9, rfl, ?_, HN9.out, hk9, fun ad had => by have h1 := F9.out ad had; have h2 := LB6.out.size; omega, below_setRow (BW9.out.setCell (p := ⟨y, 2, none⟩) WY.out.2.2 _) WZ.out _, fun h => by rw [BG.out] at h; cases h⟩
    exact cellsAt_two C9.out (HC.out.to w8 (by simp)) (fun ad had => by have h1 := F9.out ad had; have h2 := WY.out; omega) _ _ _
   case true =>
    have OW99 := Lib.hid (own_below (OW9.out rfl) (HC.out.to w8 (by simp)) (fun k' hk => (OW9.out rfl).lt k' hk |>.2))
    have HS9 := Lib.hid (boxStays HS.out (HC.out.to w1 (by simp)))
    have HO9 := Lib.hid (boxStays HO.out (HC.out.to w1 (by simp)))
    have s0 := cell_of_row _ _ 0 _ _ _ HS9.out
    have s1 := cell_of_row _ _ 1 _ _ _ HS9.out
    have s2 := cell_of_row _ _ 2 _ _ _ HS9.out
    have s3 := cell_of_row _ _ 3 _ _ _ HS9.out
    have s4 := cell_of_row _ _ 4 _ _ _ HS9.out
    have o5 := cell_of_row _ _ 5 _ _ _ HO9.out
    go_upto_region 20 with (at_builtin; go_must (refine wpList_app rfl _ _ 22 22 rfl w6.heap.size 53 _ 6 64 ET.out (.slice a9 n9 k9) n9 (elsV (baseG pd pt l)) rfl (OW99.out.alloc _) _ 1 (elV (s, pt)) rfl ((CellsAt.new w9 53 (0, 0) (elV (s, pt))).srcN rfl (fun u hu => elsV_one [(s, pt)] u (by simpa [elsV] using hu)) Tryz.underlying22 1 (by decide)) (by omega) (by omega) (by have := BB9.out.size; simp; omega) ?_); go_must (intro v10 w10 hown hgr10 hbel _); go_must (obtain ⟨g11, k11, rfl, hg11, hl11, hnk11, _⟩ := own_form hown (by omega)); have OW10 := Lib.hid hown; have B10 := Lib.hid ((BB9.out.alloc BB9.out.size _).trans hbel); have HG11 := Lib.hid (And.intro hg11 hnk11); clear hown hgr10 hbel hg11 hl11 hnk11)
    clear s0 s1 s2 s3 s4 o5
    have HT10 := Lib.hid (boxStays HT.out B10.out)
    have HR10 := Lib.hid (boxStays HR6.out B10.out)
    have BW10 := Lib.hid (LB6.out.trans (B10.out.mono LB6.out.size))
    have hres : re = (pk, mm, baseG pd pt l ++ [(s, pt)], 0) := by rw [HRE2.out]; simp
    have t1 := cell_of_row _ _ 2 _ _ _ HT10.out
    have t2 := frozen_of_row _ y 2 _ _ HT10.out
    have t3 := cell_of_row _ _ 0 _ _ _ HT10.out
    have t4 := cell_of_row _ _ 1 _ _ _ HT10.out
    have HTN : Hid ((w10.setCell ⟨y, 2, none⟩ (.slice (some ⟨g11, 0, none⟩) (n9 + 1) k11)).heap[y]? = some (.cells #[.int .i64 pk, .int .i64 mm, (.slice (some ⟨g11, 0, none⟩) (n9 + 1) k11)] 79 (0, 0))) := Lib.hid (by have := heap_setCell_same w10 y 2 _ _ (.slice (some ⟨g11, 0, none⟩) (n9 + 1) k11) HT10.out; simpa using this)
    have HRN : Hid ((w10.setCell ⟨y, 2, none⟩ (.slice (some ⟨g11, 0, none⟩) (n9 + 1) k11)).heap[z + 1 + 1 + 1]? = some (.cells #[.int .i64 0, .int .i64 0, .slice none 0 0] 79 (0, 0))) := Lib.hid ((Below.heap_setCell _ _ _ _ (by simpa using NZT.out.symm)).trans HR10.out)
    go_upto_region 21 with (fail)
    clear t1 t2 t3 t4
    have t5 := cell_of_row _ _ 0 _ _ _ HTN.out
    have t6 := cell_of_row _ _ 1 _ _ _ HTN.out
    have t7 := cell_of_row _ _ 2 _ _ _ HTN.out
    go_wp2_with (refine wpList_store_row rfl 79 (.tmp 6) (.tmp 94) rfl (z + 1 + 1 + 1) #[.int .i64 pk, .int .i64 mm, (.slice (some ⟨g11, 0, none⟩) (n9 + 1) k11)] rfl rfl 79 _ HRN.out (by kernel_rfl) rfl (by simp [Value.oneCell']) ?_)
    have hx := setRow_heap _ _ _ #[.int .i64 pk, .int .i64 mm, (.slice (some ⟨g11, 0, none⟩) (n9 + 1) k11)] _ _ HRN.out
    have r0 := cell_of_row _ _ 0 _ _ _ hx
    have r1 := cell_of_row _ _ 1 _ _ _ hx
    have r2 := cell_of_row _ _ 2 _ _ _ hx
    refine bodyPost_ret (v := .tuple #[.agg #[.int .i64 pk, .int .i64 mm, (.slice (some ⟨g11, 0, none⟩) (n9 + 1) k11)], .int .i64 0]) (by simp [results, Tryz.results34, go_sem, r0, r1, r2]) rfl ?_
    rw [hres]
    refine ⟨some ⟨g11, 0, none⟩, n9 + 1, k11, rfl, ?_, by show n9 + 1 = (baseG pd pt l ++ [(s, pt)]).length; rw [List.length_append, ← HN9.out]; rfl, HG11.out.2, fun ad had => by cases had; have h1 := HG11.out.1; have h2 := LB6.out.size; show w.heap.size ≤ g11; omega, below_setRow (BW10.out.setCell (p := ⟨y, 2, none⟩) WY.out.2.2 _) WZ.out _, fun _ => ?_⟩
    case refine_2 =>
     have ho := own_mono OW10.out LB6.out.size
     rw [show elsV (baseG pd pt l) ++ elV (s, pt) = elsV (baseG pd pt l ++ [(s, pt)]) from by rw [elsV_append]; simp [elsV]] at ho
     have h1 := HG11.out.1
     have h2 := WY.out
     exact own_grown (own_grown ho (grown_set _ y 2 _) (fun k' hk' e => by have h3 := Option.some.inj (show some g11 = some k' from hk'); have h4 := Option.some.inj e; omega)) (grown_setRow _ _ _) (fun k' hk' e => by have h3 := Option.some.inj (show some g11 = some k' from hk'); have h4 := Option.some.inj e; omega)
    have hc := CellsAt.ownN OW10.out
    rw [show elsV (baseG pd pt l) ++ elV (s, pt) = elsV (baseG pd pt l ++ [(s, pt)]) from by rw [elsV_append]; simp [elsV]] at hc
    exact cellsAt_two hc (Below.refl _ _) (fun ad had => by cases had; have h1 := HG11.out.1; have h2 := WY.out; show g11 ≠ y ∧ g11 ≠ z + 1 + 1 + 1; omega) _ _ _
theorem kn_Apply (k m : Int) (l : List Ev) (a : Option Addr) (n c : Nat) (s : Sv) (pl : List ByteArray) (pk : Int) (px : ByteArray) (pd pm : Int) (pt : ByteArray) (pa : Option Addr) (pn pc : Nat) (w : World)
 (hl : CellsAt w a (elsV l)) (hn : n = l.length) (hnc : n ≤ c) (hb : n ≤ 100000) (hz : ∀ e ∈ l, e.1.l.size ≤ 9223372036854775807) (hs : s.l.size ≤ 9223372036854775807)
 (hp : CellsAt w pa (txV pl)) (hpn : pn = pl.length) (hpz : ∀ x ∈ pl, x.size ≤ 9223372036854775807) (hpx : px.size ≤ 9223372036854775807) (hG : Glob w) :
 Calls Tryz.prog 34 #[.agg #[.int .i64 k, .int .i64 m, .slice a n c], .agg #[.int .i64 s.g, .int .i64 s.r, .string s.l, .int .i64 s.n, .int .i64 s.i], .agg #[.slice pa pn pc, .int .i64 pk, .string px, .int .i64 pd, .int .i64 pm, .string pt]] w fun e w' => ValOut w w' (applyG k m l s (checkK pl pk px pd pm pt) pk pd pm pt) e :=
 (kn_ApplyO k m l a n c s pl pk px pd pm pt pa pn pc w hl hn hnc hb hz hs hp hpn hpz hpx hG).mono fun _ _ h => h.out
end Go.Proofs.YtjlliohjeiclaaaGreatDoor
namespace Go.Proofs.YtjlliohjeiclaaaGreatDoor
open Go.RowKit St
def smK (s : Sv) : Value := .agg #[.int .i64 s.g, .int .i64 s.r, .string s.l, .int .i64 s.n, .int .i64 s.i]
def StMap (W : World) (B : Nat) (ps : List (Sv × Int)) : Prop :=
 ∃ (es : Array MapEntry) (clock : Nat), W.heap[B]? = some (.map es clock) ∧ es.toList.map (fun e => (e.key, e.val)) = ps.map fun p => (smK p.1, Value.int .i64 p.2)
theorem StMap.below {W W' : World} {B : Nat} {ps : List (Sv × Int)} (h : StMap W B ps) (hb : Below W.heap.size W W') : StMap W' B ps := by
 obtain ⟨es, c, h1, h2⟩ := h
 exact ⟨es, c, (hb.block B (Array.getElem?_eq_some_iff.1 h1).1).trans h1, h2⟩
theorem StMap.new (w : World) : StMap (w.alloc (.map #[] 0)) w.heap.size [] := ⟨#[], 0, heap_alloc_new w _, rfl⟩
def lookG (ps : List (Sv × Int)) (s : Sv) : Int := match ps.find? (fun p => decide (p.1 = s)) with
 | none => 0
 | some p => p.2
theorem smK_equal (s t : Sv) (w : World) : (Op.equal 43 (smK s) (smK t)).run Tryz.prog w = .ok (decide (s = t)) w := by
 have h := sv_eql s t w
 rw [run_eql_struct] at h
 have e : Op.equal 43 (smK s) (smK t) = Op.equalIn 10000 43 (smK s) (smK t) := rfl
 rw [e]
 unfold smK
 cases hr : (Op.equalIn 10000 43 (.agg #[.int .i64 s.g, .int .i64 s.r, .string s.l, .int .i64 s.n, .int .i64 s.i]) (.agg #[.int .i64 t.g, .int .i64 t.r, .string t.l, .int .i64 t.n, .int .i64 t.i])).run Tryz.prog w with
 | ok b w' =>
  rw [hr] at h
  simp [Result.andThen] at h
  obtain ⟨h1, h2⟩ := h
  rw [h2]
  congr 1
 | halt x w' =>
  rw [hr] at h
  cases h
theorem stFindAsking (w : World) (s : Sv) : ∀ (es : List MapEntry) (ps : List (Sv × Int)) (i : Nat), es.map (fun e => (e.key, e.val)) = ps.map (fun p => (smK p.1, Value.int .i64 p.2)) →
 ((∀ p ∈ ps, p.1 ≠ s) ∧ (Instr.findAsking 43 (smK s) es i).run Tryz.prog w = .ok none w) ∨ ((∃ p ∈ ps, p.1 = s) ∧ ∃ j, (Instr.findAsking 43 (smK s) es i).run Tryz.prog w = .ok (some (j, .int .i64 (lookG ps s))) w)
 | [], ps, i, h => by
  have : ps = [] := by simpa using h.symm
  subst this
  exact .inl ⟨by simp, by simp [Instr.findAsking]⟩
 | e :: es, [], i, h => by simp at h
 | e :: es, p :: ps, i, h => by
  simp only [List.map_cons, List.cons.injEq, Prod.mk.injEq] at h
  obtain ⟨⟨hk, hv⟩, hr⟩ := h
  have he := smK_equal s p.1 w
  by_cases e1 : s = p.1
  · refine .inr ⟨⟨p, by simp, e1.symm⟩, i, ?_⟩
    rw [decide_eq_true e1] at he
    have hl : lookG (p :: ps) s = p.2 := by unfold lookG; rw [List.find?_cons_of_pos (by simp [e1])]
    simp [Instr.findAsking, hk, hv, he, hl]
  · rw [decide_eq_false e1] at he
    have hl : lookG (p :: ps) s = lookG ps s := by unfold lookG; rw [List.find?_cons_of_neg (by simp; exact fun h => e1 h.symm)]
    rcases stFindAsking w s es ps (i + 1) hr with ⟨h1, h2⟩ | ⟨⟨q, h1, h3⟩, j, h2⟩
    · refine .inl ⟨fun q hq => ?_, by simp [Instr.findAsking, hk, he, h2]⟩
      rcases List.mem_cons.1 hq with rfl | hq
      · exact fun h => e1 h.symm
      · exact h1 q hq
    · exact .inr ⟨⟨q, by simp [h1], h3⟩, j, by rw [hl]; simp [Instr.findAsking, hk, he, h2]⟩
theorem stFindKey (w : World) (s : Sv) (es : List MapEntry) (ps : List (Sv × Int)) (h : es.map (fun e => (e.key, e.val)) = ps.map (fun p => (smK p.1, Value.int .i64 p.2))) :
 ((∀ p ∈ ps, p.1 ≠ s) ∧ (Instr.findKey 43 (smK s) es).run Tryz.prog w = .ok none w) ∨ ((∃ p ∈ ps, p.1 = s) ∧ ∃ j, (Instr.findKey 43 (smK s) es).run Tryz.prog w = .ok (some (j, .int .i64 (lookG ps s))) w) := by
 have hp := Tryz.underlying43
 cases es with
 | nil =>
  have : ps = [] := by simpa using h.symm
  subst this
  exact .inl ⟨by simp, by simp [Instr.findKey, run_underlying hp, Instr.findNow]⟩
 | cons e es =>
  have := stFindAsking w s (e :: es) ps 0 h
  unfold Instr.findKey
  simp only [Sem.run_bind, run_underlying hp, Result.andThen_ok]
  have hf : ∀ fs, Instr.findNow (.struct fs) (smK s) (e :: es) 0 = none := fun fs => by simp [Instr.findNow, Instr.sameNow]
  rw [hf]
  exact this
theorem stCheck (s : Sv) (em : Bool) (w : World) : (Instr.checkKey em 10000 43 (smK s)).run Tryz.prog w = .ok () w := by
 cases em <;> kernel_rfl
theorem stMap_look {w : World} {B : Nat} {ps : List (Sv × Int)} (h : StMap w B ps) (s : Sv) :
 (Instr.lookup 100 (.map (some B)) (smK s) false).run Tryz.prog w = .ok (.int .i64 (lookG ps s)) w := by
 obtain ⟨es, clock, hB, he⟩ := h
 have hm := Tryz.underlying100
 have hz : (zeroValue 3).run Tryz.prog w = .ok (.int .i64 0) w := by kernel_rfl
 have hc := stCheck s es.isEmpty w
 rcases stFindKey w s es.toList ps he with ⟨h1, h2⟩ | ⟨h1, j, h2⟩
 · have hl : lookG ps s = 0 := by
    unfold lookG
    rw [List.find?_eq_none.2 (fun p hp => by simpa using h1 p hp)]
   unfold Instr.lookup
   simp [run_underlying hm, Go.MapKept.run_getObj_map hB, hc, h2, hz, hl]
 · unfold Instr.lookup
   simp [run_underlying hm, Go.MapKept.run_getObj_map hB, hc, h2]
theorem stMap_put {w : World} {B : Nat} {ps : List (Sv × Int)} (h : StMap w B ps) (s : Sv) (v : Int) (hs : ∀ p ∈ ps, p.1 ≠ s) :
 ∃ o, (Instr.mapUpdate 100 (.map (some B)) (smK s) (.int .i64 v)).run Tryz.prog w = .ok () (w.putObj B o) ∧ StMap (w.putObj B o) B (ps ++ [(s, v)]) := by
 obtain ⟨es, clock, hB, he⟩ := h
 have hm := Tryz.underlying100
 have hc := stCheck s false w
 rcases stFindKey w s es.toList ps he with ⟨h1, h2⟩ | ⟨⟨p, h1, h3⟩, j, h2⟩
 · refine ⟨.map (es.push { key := smK s, val := .int .i64 v, born := clock }) (clock + 1), ?_, ?_⟩
   · unfold Instr.mapUpdate
     simp [run_underlying hm, Go.MapKept.run_getObj_map hB, Go.MapKept.run_setObj_map _ hB, hc, h2]
     rfl
   · exact ⟨_, _, World.putObj_heap_same (Array.getElem?_eq_some_iff.1 hB).1, by simp [he]⟩
 · exact absurd h3 (hs p h1)
end Go.Proofs.YtjlliohjeiclaaaGreatDoor
namespace Go.Proofs.YtjlliohjeiclaaaGreatDoor
open Go.RowKit St Pm Ku Kn
namespace Kn
def stampsG (l : List Ev) : List (Sv × Int) := l.mapIdx fun i e => (e.1, (i : Int) + 1)
theorem stampsG_length (l : List Ev) : (stampsG l).length = l.length := by simp [stampsG]
theorem stampsG_get (l : List Ev) (q : Nat) (h : q < l.length) : (stampsG l)[q]'(by rw [stampsG_length]; exact h) = (l[q].1, (q : Int) + 1) := by simp [stampsG]
theorem stampsG_take (l : List Ev) (q : Nat) (h : q < l.length) : (stampsG l).take (q + 1) = (stampsG l).take q ++ [(l[q].1, (q : Int) + 1)] := by
 rw [← stampsG_get l q h, List.take_append_getElem]
theorem stampsG_new (l : List Ev) (q : Nat) (h : q < l.length) (hd : (l.map (·.1)).Nodup) : ∀ p ∈ (stampsG l).take q, p.1 ≠ l[q].1 := by
 intro p hp
 obtain ⟨i, hi, rfl⟩ := List.mem_take_iff_getElem.1 hp
 have hil : i < l.length := by rw [stampsG_length] at hi; omega
 rw [stampsG_get l i hil]
 have := List.pairwise_iff_getElem.1 hd i q (by simpa using hil) (by simpa using h) (by omega)
 simpa using this
theorem lookG_zero {ps : List (Sv × Int)} {s : Sv} (h : ∀ p ∈ ps, p.1 ≠ s) : lookG ps s = 0 := by
 unfold lookG
 rw [List.find?_eq_none.2 (fun p hp => by simpa using h p hp)]
theorem look_none (l : List Ev) (s : Sv) (h : ∀ e ∈ l, e.1 ≠ s) : lookG (stampsG l) s = 0 := lookG_zero fun p hp => by
 obtain ⟨i, hi, rfl⟩ := List.getElem_of_mem hp
 have hil : i < l.length := by rw [stampsG_length] at hi; omega
 rw [stampsG_get l i hil]
 exact h _ (List.getElem_mem hil)
theorem look_some (l : List Ev) (s : Sv) (h : ∃ e ∈ l, e.1 = s) : 0 < lookG (stampsG l) s := by
 obtain ⟨e, he, rfl⟩ := h
 unfold lookG
 obtain ⟨i, hi, rfl⟩ := List.getElem_of_mem he
 cases hf : (stampsG l).find? (fun p => decide (p.1 = l[i].1)) with
 | none =>
  have := List.find?_eq_none.1 hf _ (List.getElem_mem (by rw [stampsG_length]; exact hi) : (stampsG l)[i]'(by rw [stampsG_length]; exact hi) ∈ stampsG l)
  rw [stampsG_get l i hi] at this
  simp at this
 | some p =>
  have hm := List.mem_of_find?_eq_some hf
  obtain ⟨j, hj, rfl⟩ := List.getElem_of_mem hm
  have hjl : j < l.length := by rw [stampsG_length] at hj; omega
  rw [stampsG_get l j hjl]
  simp only
  omega
def hasG (l : List Ev) (s : Sv) : Bool := l.any fun e => decide (e.1 = s)
theorem look_pos (l : List Ev) (s : Sv) : decide (0 < lookG (stampsG l) s) = hasG l s := by
 by_cases h : ∃ e ∈ l, e.1 = s
 · have h2 : hasG l s = true := by unfold hasG; rw [List.any_eq_true]; obtain ⟨e, h1, h3⟩ := h; exact ⟨e, h1, by simp [h3]⟩
   rw [h2, decide_eq_true (look_some l s h)]
 · have h3 : ∀ e ∈ l, e.1 ≠ s := fun e he hs => h ⟨e, he, hs⟩
   have h2 : hasG l s = false := by unfold hasG; rw [List.any_eq_false]; exact fun e he => by simpa using h3 e he
   rw [h2, look_none l s h3]
   rfl
theorem look_eq (l : List Ev) (s : Sv) : (lookG (stampsG l) s == 0) = !(hasG l s) := by
 rw [← look_pos]
 by_cases h : ∃ e ∈ l, e.1 = s
 · have := look_some l s h
   rw [decide_eq_true this]
   simp only [Bool.not_true, beq_eq_false_iff_ne]
   omega
 · rw [look_none l s (fun e he hs => h ⟨e, he, hs⟩)]
   rfl
end Kn
open Kn
set_option maxRecDepth 100000 in
set_option maxHeartbeats 2000000 in
theorem kn_stamps (l : List Ev) (a : Option Addr) (n c : Nat) (w : World) (hl : CellsAt w a (elsV l)) (hn : n = l.length) (hb : n ≤ 1000000) (hd : (l.map (·.1)).Nodup) :
 Calls Tryz.prog 90 #[.slice a n c] w fun e w' => ∃ B, e = .returned (.map (some B)) ∧ w.heap.size ≤ B ∧ StMap w' B (stampsG l) ∧ Below w.heap.size w w' := by
 have HL := Lib.hid hl
 have HN := Lib.hid hn
 have HD := Lib.hid hd
 clear hl hn hd
 have hmk := @run_makeMap Tryz.prog
 go_enter Tryz.func90, Tryz.ntmps90
 go_wp2_with fail
 have M0 := Lib.hid (StMap.new w)
 have B0 := Lib.hid (below_new w (.map #[] 0))
 obtain ⟨w1, hw1⟩ : ∃ W, w.alloc (.map #[] 0) = W := ⟨_, rfl⟩
 rw [hw1] at M0 B0 ⊢
 obtain ⟨B, hB⟩ : ∃ b, w.heap.size = b := ⟨_, rfl⟩
 rw [hB] at M0 ⊢
 have SB := Lib.hid hB
 clear hw1 hB
 go_loopw [4, 5, 9] (fun _ _ j wr => ∃ q : Nat, j = .int .i64 (q : Int) ∧ q ≤ n ∧ Hid (StMap wr B ((stampsG l).take q)) ∧ Hid (Below w.heap.size w wr)) (fun _ _ j _ => n - (intOf j).toNat)
 case atStart => exact ⟨0, rfl, Nat.zero_le _, M0, B0⟩
 case round =>
  obtain ⟨q, rfl, hq, HM, HB⟩ := hrel
  by_cases hlt : q < n
  · have hqi : (q : Int) < (n : Int) := by omega
    have hql : q < l.length := by have := HN.out; omega
    obtain ⟨ba, oa, rfl, ca⟩ := els_get (HL.out.below HB.out rfl) q hql
    have TK := Lib.hid (stampsG_take l q hql)
    have NW := Lib.hid (stampsG_new l q hql HD.out)
    obtain ⟨x, hx⟩ : ∃ x, l[q] = x := ⟨_, rfl⟩
    rw [hx] at ca TK NW
    have CA := Lib.hid ca
    obtain ⟨p0, p1, p2, p3, p4, p5⟩ := ca
    clear hx
    go_upto_region 5 with (fail)
    clear p0 p1 p2 p3 p4 p5
    obtain ⟨w3, hw3⟩ : ∃ W, wr.alloc (.cells #[.int .i64 x.1.g, .int .i64 x.1.r, .string x.1.l, .int .i64 x.1.n, .int .i64 x.1.i, .string x.2] 53) = W := ⟨_, rfl⟩
    have B3 : Hid (Below wr.heap.size wr w3) := Lib.hid (by rw [← hw3]; exact below_new _ _)
    have hx3 : w3.heap[wr.heap.size]? = some (.cells #[.int .i64 x.1.g, .int .i64 x.1.r, .string x.1.l, .int .i64 x.1.n, .int .i64 x.1.i, .string x.2] 53 (0, 0)) := by rw [← hw3]; exact heap_alloc_new _ _
    rw [hw3]
    obtain ⟨y, hy⟩ : ∃ y, wr.heap.size = y := ⟨_, rfl⟩
    have BY : Hid (B < y) := Lib.hid (by rw [← hy]; obtain ⟨_, _, h1, _⟩ := HM.out; exact (Array.getElem?_eq_some_iff.1 h1).1)
    rw [hy] at hx3 ⊢
    have SY := Lib.hid hy
    have BW : Hid (Below w.heap.size w w3) := Lib.hid (HB.out.trans (B3.out.mono HB.out.size))
    have M3 : Hid (StMap w3 B ((stampsG l).take q)) := Lib.hid (HM.out.below B3.out)
    obtain ⟨o, hmu, hnm⟩ := stMap_put M3.out x.1 ((q : Int) + 1) NW.out
    unfold smK at hmu
    have NM := Lib.hid hnm
    have q0 := cell_of_row _ y 0 _ _ _ hx3
    have q1 := cell_of_row _ y 1 _ _ _ hx3
    have q2 := cell_of_row _ y 2 _ _ _ hx3
    have q3 := cell_of_row _ y 3 _ _ _ hx3
    have q4 := cell_of_row _ y 4 _ _ _ hx3
    have hwr : IntKind.i64.wrap ((q : Int) + 1) = (q : Int) + 1 := by rw [IntKind.wrap_i64]; omega
    clear hw3 hx3 hy hnm
    go_wp2_with fail
    go_roundw
    case rel => exact ⟨q + 1, by go_num, by omega, Lib.hid (by rw [TK.out]; exact NM.out), Lib.hid (BW.out.trans ⟨rfl, rfl, rfl, by simp, fun k hk => World.putObj_heap_other (by have := SB.out; omega)⟩)⟩
    case measure => simp [intOf]; omega
  · obtain rfl : q = n := by omega
    have hqi : ¬ (q : Int) < (q : Int) := by omega
    have MF : Hid (StMap wr B (stampsG l)) := Lib.hid (by have := HM.out; rwa [List.take_of_length_le (by rw [stampsG_length, HN.out]; exact Nat.le_refl _)] at this)
    go_wp2_with fail
    go_ret
    exact ⟨B, rfl, by rw [SB.out]; exact Nat.le_refl _, MF.out, HB.out⟩
end Go.Proofs.YtjlliohjeiclaaaGreatDoor
namespace Go.Proofs.YtjlliohjeiclaaaGreatDoor
namespace Kn
open St Pm
structure Ord3 {α : Type} (c : α → α → Int) : Prop where
 neg : ∀ x y, c y x = - c x y
 rng : ∀ x y, c x y = -1 ∨ c x y = 0 ∨ c x y = 1
 trans : ∀ x y z, c x y ≤ 0 → c y z ≤ 0 → c x z ≤ 0
theorem Ord3.self {α : Type} {c : α → α → Int} (h : Ord3 c) (x : α) : c x x = 0 := by have := h.neg x x; omega
theorem Ord3.zero {α : Type} {c : α → α → Int} (h : Ord3 c) {x y z : α} (hxy : c x y ≤ 0) (hyz : c y z ≤ 0) (h0 : c x z = 0) : c x y = 0 ∧ c y z = 0 := by
 have a := h.neg x z
 have h1 := h.trans y z x hyz (by omega)
 have h2 := h.trans z x y (by omega) hxy
 have b := h.neg x y
 have d := h.neg y z
 constructor <;> omega
theorem first_le {a b : Int} (h : firstC a b ≤ 0) : a ≤ 0 := by
 unfold firstC at h
 split at h <;> omega
theorem first_z {a b : Int} (h : a = 0) : firstC a b = b := by unfold firstC; rw [if_pos h]
theorem lexO {α β γ : Type} {c : α → α → Int} {d : β → β → Int} (f : γ → α) (g : γ → β) (hc : Ord3 c) (hd : Ord3 d) : Ord3 (fun x y : γ => firstC (c (f x) (f y)) (d (g x) (g y))) where
 neg x y := by
  show firstC (c (f y) (f x)) (d (g y) (g x)) = _
  rw [hc.neg, hd.neg (g x), firstC_neg]
 rng x y := by
  show firstC _ _ = _ ∨ firstC _ _ = _ ∨ firstC _ _ = _
  unfold firstC
  split
  · exact hd.rng _ _
  · exact hc.rng _ _
 trans x y z hxy hyz := by
  have h1 := first_le hxy
  have h2 := first_le hyz
  have h3 := hc.trans _ _ _ h1 h2
  show firstC (c (f x) (f z)) (d (g x) (g z)) ≤ 0
  by_cases h0 : c (f x) (f z) = 0
  · obtain ⟨e1, e2⟩ := hc.zero h1 h2 h0
    rw [first_z e1] at hxy
    rw [first_z e2] at hyz
    rw [first_z h0]
    exact hd.trans _ _ _ hxy hyz
  · unfold firstC
    rw [if_neg h0]
    exact h3
theorem numO : Ord3 numC where
 neg := numC_neg
 rng x y := by unfold numC; split; exact .inl rfl; split; exact .inr (.inr rfl); exact .inr (.inl rfl)
 trans x y z h k := by
  unfold numC at *
  split at h <;> split at k <;> split <;> (try split) <;> (try split at h) <;> (try split at k) <;> omega
theorem txt_le {a b : ByteArray} : txtC a b ≤ 0 ↔ klt b a = false := by
 unfold txtC
 cases h : klt a b with
 | true => rw [klt_asymm h]; simp
 | false => cases h' : klt b a <;> simp
theorem txtO : Ord3 txtC where
 neg := txtC_neg
 rng x y := by unfold txtC; split; exact .inl rfl; split; exact .inr (.inr rfl); exact .inr (.inl rfl)
 trans x y z h k := by
  rw [txt_le] at *
  cases hz : klt z x with
  | false => rfl
  | true =>
   cases hy : klt y z with
   | true => rw [klt_trans hy hz] at h; cases h
   | false =>
    have := klt_tri hy k
    subst this
    rw [hz] at h
    cases h
theorem txt_zero {a b : ByteArray} (h : txtC a b = 0) : a = b := by
 have h1 := txt_le.1 (Int.le_of_eq h)
 have h2 := txtO.neg a b
 have h3 := txt_le.1 (show txtC b a ≤ 0 by omega)
 exact klt_tri h3 h1
theorem num_zero {a b : Int} (h : numC a b = 0) : a = b := by
 unfold numC at h
 split at h
 · omega
 · split at h <;> omega
theorem brO : Ord3 (fun s t : Sv => brC s.r s.l t.r t.l) := lexO (γ := Sv) (·.r) (·.l) numO txtO
theorem nmO : Ord3 (fun s t : Sv => nmC s.r s.l s.n t.r t.l t.n) := lexO (γ := Sv) (c := fun s t : Sv => brC s.r s.l t.r t.l) id (·.n) brO numO
theorem gnO : Ord3 (fun s t : Sv => firstC (numC s.g t.g) (nmC s.r s.l s.n t.r t.l t.n)) := lexO (γ := Sv) (d := fun s t : Sv => nmC s.r s.l s.n t.r t.l t.n) (·.g) id numO nmO
theorem svO : Ord3 svC := lexO (γ := Sv) (c := fun s t : Sv => firstC (numC s.g t.g) (nmC s.r s.l s.n t.r t.l t.n)) id (·.i) gnO numO
theorem first_zero {a b : Int} (h : firstC a b = 0) : a = 0 ∧ b = 0 := by
 unfold firstC at h
 split at h
 · exact ⟨by assumption, h⟩
 · exact absurd h (by assumption)
theorem sv_zero {s t : Sv} (h : svC s t = 0) : s = t := by
 unfold svC nmC brC at h
 obtain ⟨h1, h2⟩ := first_zero h
 obtain ⟨h3, h4⟩ := first_zero h1
 obtain ⟨h5, h6⟩ := first_zero h4
 obtain ⟨h7, h8⟩ := first_zero h5
 have e1 := num_zero h3
 have e2 := num_zero h7
 have e3 := txt_zero h8
 have e4 := num_zero h6
 have e5 := num_zero h2
 cases s; cases t
 simp only at *
 subst e1 e2 e3 e4 e5
 rfl
theorem sv_lt_trans {a b c : Sv} (h : svC a b < 0) (k : svC b c < 0) : svC a c < 0 := by
 have h1 := svO.trans a b c (by omega) (by omega)
 by_cases h0 : svC a c = 0
 · have := (svO.zero (x := a) (y := b) (z := c) (by omega) (by omega) h0).1
   omega
 · omega
theorem sv_irrefl (a : Sv) : ¬ svC a a < 0 := by rw [svO.self]; omega
def Rise (l : List Ev) : Prop := l.Pairwise fun x y => svC x.1 y.1 < 0
theorem Rise.nodup {l : List Ev} (h : Rise l) : (l.map (·.1)).Nodup := by
 rw [List.nodup_iff_pairwise_ne, List.pairwise_map]
 exact h.imp fun {a b} hab e => by rw [e] at hab; exact sv_irrefl _ hab
theorem rise_ext : ∀ (l m : List Ev), Rise l → Rise m → (∀ x, x ∈ l ↔ x ∈ m) → l = m
 | [], [], _, _, _ => rfl
 | [], y :: m, _, _, h => by have := (h y).2 List.mem_cons_self; cases this
 | x :: l, [], _, _, h => by have := (h x).1 List.mem_cons_self; cases this
 | x :: l, y :: m, hl, hm, h => by
  obtain ⟨l1, l2⟩ := List.pairwise_cons.1 hl
  obtain ⟨m1, m2⟩ := List.pairwise_cons.1 hm
  have e : x = y := by
   rcases List.mem_cons.1 ((h x).1 List.mem_cons_self) with e | hx
   · exact e
   · rcases List.mem_cons.1 ((h y).2 List.mem_cons_self) with e | hy
     · exact e.symm
     · exact absurd (sv_lt_trans (l1 _ hy) (m1 _ hx)) (sv_irrefl _)
  subst e
  congr 1
  refine rise_ext l m l2 m2 fun z => ⟨fun hz => ?_, fun hz => ?_⟩
  · rcases List.mem_cons.1 ((h z).1 (List.mem_cons_of_mem _ hz)) with rfl | h2
    · exact absurd (l1 _ hz) (sv_irrefl _)
    · exact h2
  · rcases List.mem_cons.1 ((h z).2 (List.mem_cons_of_mem _ hz)) with rfl | h2
    · exact absurd (m1 _ hz) (sv_irrefl _)
    · exact h2
theorem ris_iff : ∀ (l : List Ev) (p : Option Sv), risG p l = true ↔ (∀ x ∈ l, okV x = true) ∧ Rise l ∧ ∀ q, p = some q → ∀ x ∈ l, svC q x.1 < 0
 | [], p => by simp [risG, Rise]
 | e :: l, p => by
  unfold risG
  rw [Bool.and_eq_true, Bool.and_eq_true, ris_iff l (some e.1)]
  constructor
  · rintro ⟨h1, h2, h3, h4, h5⟩
    have h6 := h5 e.1 rfl
    refine ⟨fun x hx => ?_, List.pairwise_cons.2 ⟨h6, h4⟩, fun q hq x hx => ?_⟩
    · rcases List.mem_cons.1 hx with rfl | hx
      · exact h1
      · exact h3 x hx
    · subst hq
      have h7 : svC q e.1 < 0 := by simpa using h2
      rcases List.mem_cons.1 hx with rfl | hx
      · exact h7
      · exact sv_lt_trans h7 (h6 x hx)
  · rintro ⟨h1, h2, h3⟩
    obtain ⟨h4, h5⟩ := List.pairwise_cons.1 h2
    refine ⟨h1 e List.mem_cons_self, ?_, fun x hx => h1 x (List.mem_cons_of_mem _ hx), h5, fun q hq x hx => ?_⟩
    · cases p with
      | none => rfl
      | some q => simpa using h3 q rfl e List.mem_cons_self
    · cases hq
      exact h4 x hx
def Right (l : List Ev) : Prop := (∀ x ∈ l, okV x = true) ∧ Rise l
theorem right_iff {l : List Ev} : risG none l = true ↔ Right l := by
 rw [ris_iff]
 exact ⟨fun ⟨h1, h2, _⟩ => ⟨h1, h2⟩, fun ⟨h1, h2⟩ => ⟨h1, h2, fun q hq => by cases hq⟩⟩
theorem Right.ok {l : List Ev} (h : Right l) {x : Ev} (hx : x ∈ l) : x.1.ok = true := (okV_iff.1 (h.1 x hx)).1
theorem Right.srt {l : List Ev} (h : Right l) : SrtE (l.map toE) := by
 unfold SrtE
 rw [List.pairwise_map]
 have h2 := h.2
 refine List.Pairwise.imp_of_mem ?_ h2
 intro a b ha hb hab
 have := svC_lt (h.ok ha) (h.ok hb)
 rw [decide_eq_true hab] at this
 exact this.symm
theorem has_st {l : List Ev} (h : ∀ x ∈ l, x.1.ok = true) {s : Sv} (hs : s.ok = true) : hasS (l.map toE) s.st = hasG l s := by
 by_cases hh : hasG l s = true
 · rw [hh]
   unfold hasG at hh
   rw [List.any_eq_true] at hh
   obtain ⟨e, h1, h2⟩ := hh
   exact hasS_iff.2 ⟨toE e, List.mem_map.2 ⟨e, h1, rfl⟩, by show e.1.st = _; rw [of_decide_eq_true h2]⟩
 · have h0 : hasG l s = false := by simpa using hh
   rw [h0]
   cases h1 : hasS (l.map toE) s.st with
   | false => rfl
   | true =>
    obtain ⟨y, hy, e⟩ := hasS_iff.1 h1
    obtain ⟨x, hx, rfl⟩ := List.mem_map.1 hy
    have := st_inj (h x hx) hs e
    exact absurd (show hasG l s = true from List.any_eq_true.2 ⟨x, hx, by simp [this]⟩) hh
def threeG (base A B : List Ev) : List Ev := (elsF (base.map toE) (A.map toE) (B.map toE) (A.map toE) (B.map toE)).map toV
def pickG (base A B : List Ev) : List Ev := A.filter (fun x => hasG B x.1 || !hasG base x.1) ++ B.filter (fun x => !hasG A x.1 && !hasG base x.1)
theorem has_mem {l : List Ev} {x : Ev} (h : x ∈ l) : hasG l x.1 = true := List.any_eq_true.2 ⟨x, h, by simp⟩
theorem three_mem {base A B : List Ev} (hb : Right base) (hA : Right A) (hB : Right B) : Rise (threeG base A B) ∧ ∀ x, x ∈ threeG base A B ↔ x ∈ pickG base A B := by
 have okA : ∀ x ∈ A, x.1.ok = true := fun x hx => hA.ok hx
 have okB : ∀ x ∈ B, x.1.ok = true := fun x hx => hB.ok hx
 have okb : ∀ x ∈ base, x.1.ok = true := fun x hx => hb.ok hx
 obtain ⟨h1, h2⟩ := els_mem (base.map toE) (A.map toE) (B.map toE) (fun x hx => by
  rcases List.mem_append.1 hx with h | h
  · obtain ⟨y, hy, rfl⟩ := List.mem_map.1 h; exact (Sv.ok_st (okA y hy)).1
  · obtain ⟨y, hy, rfl⟩ := List.mem_map.1 h; exact (Sv.ok_st (okB y hy)).1) _ _ _ (Nat.le_refl _) hA.srt hB.srt (left_start _ _)
 have key : ∀ z, z ∈ elsF (base.map toE) (A.map toE) (B.map toE) (A.map toE) (B.map toE) ↔ ∃ x ∈ pickG base A B, toE x = z := by
  intro z
  rw [h2 z]
  unfold pickG
  constructor
  · rintro (⟨hz, hc⟩ | ⟨hz, c1, c2⟩)
    · obtain ⟨y, hy, rfl⟩ := List.mem_map.1 hz
      refine ⟨y, List.mem_append_left _ (List.mem_filter.2 ⟨hy, ?_⟩), rfl⟩
      rw [Bool.or_eq_true, Bool.not_eq_true', ← has_st okB (okA y hy), ← has_st okb (okA y hy)]
      exact hc
    · obtain ⟨y, hy, rfl⟩ := List.mem_map.1 hz
      refine ⟨y, List.mem_append_right _ (List.mem_filter.2 ⟨hy, ?_⟩), rfl⟩
      rw [Bool.and_eq_true, Bool.not_eq_true', Bool.not_eq_true', ← has_st okA (okB y hy), ← has_st okb (okB y hy)]
      exact ⟨c1, c2⟩
  · rintro ⟨x, hx, rfl⟩
    rcases List.mem_append.1 hx with h | h
    · obtain ⟨m1, m2⟩ := List.mem_filter.1 h
      refine .inl ⟨List.mem_map.2 ⟨x, m1, rfl⟩, ?_⟩
      rw [Bool.or_eq_true, Bool.not_eq_true', ← has_st okB (okA x m1), ← has_st okb (okA x m1)] at m2
      exact m2
    · obtain ⟨m1, m2⟩ := List.mem_filter.1 h
      refine .inr ⟨List.mem_map.2 ⟨x, m1, rfl⟩, ?_⟩
      rw [Bool.and_eq_true, Bool.not_eq_true', Bool.not_eq_true', ← has_st okA (okB x m1), ← has_st okb (okB x m1)] at m2
      exact m2
 have okP : ∀ x ∈ pickG base A B, okV x = true := fun x hx => by
  rcases List.mem_append.1 hx with h | h
  · exact hA.1 x (List.mem_filter.1 h).1
  · exact hB.1 x (List.mem_filter.1 h).1
 refine ⟨?_, fun x => ?_⟩
 · unfold Rise threeG
   rw [List.pairwise_map]
   refine List.Pairwise.imp_of_mem ?_ h1
   intro a b ha hb' hab
   obtain ⟨x, hx, rfl⟩ := (key a).1 ha
   obtain ⟨y, hy, rfl⟩ := (key b).1 hb'
   rw [(okV_toE (okP x hx)).2, (okV_toE (okP y hy)).2]
   have := svC_lt (okV_iff.1 (okP x hx)).1 (okV_iff.1 (okP y hy)).1
   have h3 : x.1.st.lt y.1.st = true := hab
   rw [h3] at this
   exact of_decide_eq_true this
 · unfold threeG
   rw [List.mem_map]
   constructor
   · rintro ⟨z, hz, rfl⟩
     obtain ⟨y, hy, rfl⟩ := (key z).1 hz
     rw [(okV_toE (okP y hy)).2]
     exact hy
   · exact fun hx => ⟨toE x, (key _).2 ⟨x, hx, rfl⟩, (okV_toE (okP x hx)).2⟩
theorem pick_nodup {base A B : List Ev} (hA : Right A) (hB : Right B) : ((pickG base A B).map (·.1)).Nodup := by
 unfold pickG
 rw [List.map_append, List.nodup_append]
 refine ⟨Rise.nodup (List.Pairwise.filter _ hA.2), Rise.nodup (List.Pairwise.filter _ hB.2), fun s hs t ht e => ?_⟩
 subst e
 obtain ⟨x, hx, rfl⟩ := List.mem_map.1 hs
 obtain ⟨y, hy, e⟩ := List.mem_map.1 ht
 have h1 := has_mem (List.mem_filter.1 hx).1
 have h2 := (List.mem_filter.1 hy).2
 rw [e, h1] at h2
 simp at h2
theorem three_uniq {base A B r : List Ev} (hb : Right base) (hA : Right A) (hB : Right B) (hp : r.Perm (pickG base A B)) (hs : r.Pairwise fun x y => ¬ svC y.1 x.1 < 0) : r = threeG base A B := by
 obtain ⟨h1, h2⟩ := three_mem hb hA hB
 refine rise_ext _ _ ?_ h1 fun x => ?_
 · have hn : (r.map (·.1)).Nodup := (hp.map _).nodup_iff.2 (pick_nodup hA hB)
   rw [List.nodup_iff_pairwise_ne, List.pairwise_map] at hn
   refine (hs.and hn).imp ?_
   rintro a b ⟨h3, h4⟩
   have h5 := svC_neg a.1 b.1
   by_cases h0 : svC a.1 b.1 = 0
   · exact absurd (sv_zero h0) h4
   · omega
 · rw [h2, hp.mem_iff]
def evC (x y : Ev) : Int := svC x.1 y.1
theorem evSWO : Sort.SWO (fun x y : Ev => decide (evC x y < 0)) where
 irrefl x := decide_eq_false (sv_irrefl x.1)
 trans x y z h k := decide_eq_true (show svC x.1 z.1 < 0 from sv_lt_trans (of_decide_eq_true h) (of_decide_eq_true k))
 ntrans x y z h k := by
  have h1 : ¬ svC x.1 y.1 < 0 := of_decide_eq_false h
  have h2 : ¬ svC y.1 z.1 < 0 := of_decide_eq_false k
  have a := svC_neg x.1 y.1
  have b := svC_neg y.1 z.1
  have c := svC_neg x.1 z.1
  have d := svO.trans z.1 y.1 x.1 (by omega) (by omega)
  exact decide_eq_false (show ¬ svC x.1 z.1 < 0 by omega)
end Kn
end Go.Proofs.YtjlliohjeiclaaaGreatDoor
