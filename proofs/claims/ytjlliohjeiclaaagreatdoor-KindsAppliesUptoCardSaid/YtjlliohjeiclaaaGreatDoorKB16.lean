/- Words, contracts and walks that the proof stands on (KqC KqD KqG KnZ KoA OpenC OpenK OpenR OpenV OpenA). -/
import Derived.Deep.DeepHandedRow
import Derived.Deep.DeepWitnessRowRef
import Derived.Deep.Grids
import Derived.Deep.Slices
import Derived.Lib.LaidIn
import Derived.Lib.LaidU8T
import Derived.OpenShut
import Derived.ProofKit
import Derived.Shelf.Vars
import Derived.SliceStrings
import Derived.Test.YtjlliohjeiclaaaGreatDoorCards
import Derived.Test.YtjlliohjeiclaaaGreatDoorKB11
import Derived.Test.YtjlliohjeiclaaaGreatDoorKB14
import Derived.Test.YtjlliohjeiclaaaGreatDoorKB15
import Derived.Test.YtjlliohjeiclaaaGreatDoorKB2
import Derived.Test.YtjlliohjeiclaaaGreatDoorKB3
import Derived.Test.YtjlliohjeiclaaaGreatDoorKB4
import Derived.Test.YtjlliohjeiclaaaGreatDoorKB6
import Derived.Test.YtjlliohjeiclaaaGreatDoorKB9
import Derived.Test.YtjlliohjeiclaaaGreatDoorTie
namespace Go.Proofs.YtjlliohjeiclaaaGreatDoor
open Go.RowKit St Pm Ku Kn
namespace Kn
structure Vc where
 k : Int
 m : Int
 l : List Ev
 a : Option Addr
 n : Nat
 c : Nat
def vcV (q : Vc) : List Value := [.int .i64 q.k, .int .i64 q.m, .slice q.a q.n q.c]
theorem vcV_len (q : Vc) : (vcV q).length = 3 := rfl
theorem vcs_get : ∀ (l : List Vc) (i r : Nat) (hi : i < l.length), r < 3 → (l.flatMap vcV)[i * 3 + r]? = (vcV l[i])[r]?
 | [], i, r, hi, _ => by simp at hi
 | x :: l, 0, r, _, hr => by
  rw [List.flatMap_cons, Nat.zero_mul, Nat.zero_add, List.getElem?_append_left (by rw [vcV_len]; exact hr)]
  rfl
 | x :: l, i + 1, r, hi, hr => by
  rw [List.flatMap_cons, List.getElem?_append_right (by rw [vcV_len, Nat.succ_mul]; omega), vcV_len, Nat.succ_mul]
  rw [show i * 3 + 3 + r - 3 = i * 3 + r by omega, vcs_get l i r (by simpa using hi) hr]
  rfl
def sumV (ls : List Vc) (i : Nat) : Nat := ((ls.take i).map (·.n)).sum
theorem sumV_succ (ls : List Vc) (i : Nat) (h : i < ls.length) : sumV ls (i + 1) = sumV ls i + ls[i].n := by
 unfold sumV
 rw [List.take_succ_eq_append_getElem h, List.map_append, List.sum_append]
 simp
theorem sumV_le (ls : List Vc) (i : Nat) : sumV ls i ≤ (ls.map (·.n)).sum := by
 unfold sumV
 conv => rhs; rw [← List.take_append_drop i ls, List.map_append, List.sum_append]
 omega
end Kn
open Kn
set_option maxRecDepth 100000 in
set_option maxHeartbeats 2000000 in
theorem kr_much (ls : List Vc) (a : Option Addr) (n c : Nat) (w : World) (hl : CellsAt w a (ls.flatMap vcV)) (hn : n = ls.length) (hb : n ≤ 1000) (hs : (ls.map (·.n)).sum ≤ 4611686018427387904) :
 Calls Tryz.prog 31 #[.slice a n c] w fun e w' => e = .returned (.bool (decide (400 < (ls.map (·.n)).sum))) ∧ Below w.heap.size w w' := by
 have HL := Lib.hid hl
 have HN := Lib.hid hn
 obtain ⟨S, hS⟩ : ∃ S, (ls.map (·.n)).sum = S := ⟨_, rfl⟩
 have SE : Hid (sumV ls n = S) := Lib.hid (by rw [← hS, HN.out]; unfold sumV; rw [List.take_length])
 have SS : Hid (∀ i (h : i < ls.length), sumV ls (i + 1) = sumV ls i + ls[i].n ∧ sumV ls (i + 1) ≤ S) := Lib.hid (fun i h => ⟨sumV_succ ls i h, by rw [← hS]; exact sumV_le _ _⟩)
 have S0 : Hid (sumV ls 0 = 0) := Lib.hid rfl
 rw [hS] at hs ⊢
 clear hl hn hS
 generalize sumV ls = F at *
 go_enter Tryz.func31, Tryz.ntmps31
 go_wp2_with fail
 go_loopw [3, 4] (fun u3 u4 wr => ∃ i : Nat, u4 = .int .i64 (i : Int) ∧ i ≤ n ∧ u3 = .int .i64 ((F i : Nat) : Int) ∧ Hid (Below w.heap.size w wr)) (fun _ u4 _ => n - (intOf u4).toNat)
 case atStart => exact ⟨0, rfl, Nat.zero_le _, by rw [S0.out]; rfl, Lib.hid (Below.refl _ _)⟩
 case round =>
  obtain ⟨i, rfl, hi, rfl, HB⟩ := hrel
  by_cases hlt : i < n
  · have hli : (i : Int) < (n : Int) := by omega
    have hil : i < ls.length := by have := HN.out; omega
    obtain ⟨b, o, ha, p2⟩ := (HL.out.below HB.out rfl).get (i * 3 + 2) (.slice ls[i].a ls[i].n ls[i].c) (by rw [vcs_get ls i 2 hil (by omega)]; rfl)
    subst ha
    rw [← Nat.add_assoc] at p2
    have h1 := (SS.out i hil).1
    have h2 := (SS.out i hil).2
    obtain ⟨q, hq⟩ : ∃ q, ls[i] = q := ⟨_, rfl⟩
    rw [hq] at p2 h1
    clear hq
    have F1 := Lib.hid h1
    have hwr : IntKind.i64.wrap (((F i : Nat) : Int) + (q.n : Int)) = ((F (i + 1) : Nat) : Int) := by rw [IntKind.wrap_i64]; omega
    clear h1 h2
    go_wp2_with fail
    go_roundw
    case rel => exact ⟨i + 1, by go_num, by omega, rfl, HB⟩
    case measure => simp [intOf]; omega
  · obtain rfl : i = n := by omega
    have hli : ¬ (i : Int) < (i : Int) := by omega
    have hF := SE.out
    obtain ⟨X, hX⟩ : ∃ X, F i = X := ⟨_, rfl⟩
    rw [hX] at hF ⊢
    subst hF
    clear hX
    have hd : decide ((400 : Int) < (X : Int)) = decide (400 < X) := by by_cases h : 400 < X <;> simp [h] <;> omega
    go_wp2_with fail
    go_ret
    exact ⟨by first | rfl | rw [hd] | (simp; omega), HB.out⟩
end Go.Proofs.YtjlliohjeiclaaaGreatDoor
namespace Go.Proofs.YtjlliohjeiclaaaGreatDoor
open Go.RowKit St Pm Ku Kn
namespace Kn
structure GrS (S : Nat → Prop) (w w' : World) : Prop where
 os : w'.os = w.os
 tape : w'.tape = w.tape
 output : w'.output = w.output
 size : w.heap.size ≤ w'.heap.size
 block : ∀ k, k < w.heap.size → ¬ S k → w'.heap[k]? = w.heap[k]?
theorem GrS.refl (S : Nat → Prop) (w : World) : GrS S w w := ⟨rfl, rfl, rfl, Nat.le_refl _, fun _ _ _ => rfl⟩
theorem GrS.grown {S : Nat → Prop} {w w1 w2 : World} {g : Nat} (h : GrS S w w1) (hg : w1.grownBy w2 (some g)) (hs : S g) : GrS S w w2 :=
 ⟨hg.os.trans h.os, hg.tape.trans h.tape, hg.output.trans h.output, Nat.le_trans h.size hg.size, fun k hk hn => (hg.block k (Nat.lt_of_lt_of_le hk h.size) (fun e => hn (Option.some.inj e ▸ hs))).trans (h.block k hk hn)⟩
theorem GrS.below {S : Nat → Prop} {w w1 w2 : World} (h : GrS S w w1) (hb : Below w1.heap.size w1 w2) : GrS S w w2 :=
 ⟨hb.os.trans h.os, hb.tape.trans h.tape, hb.output.trans h.output, Nat.le_trans h.size hb.size, fun k hk hn => (hb.block k (Nat.lt_of_lt_of_le hk h.size)).trans (h.block k hk hn)⟩
theorem GrS.box {S : Nat → Prop} {w w' : World} {b : Nat} {o : Obj} (h : GrS S w w') (hb : w.heap[b]? = some o) (hn : ¬ S b) : w'.heap[b]? = some o := (h.block b (Array.getElem?_eq_some_iff.1 hb).1 hn).trans hb
theorem GrS.cells {S : Nat → Prop} {w w' : World} {a : Option Addr} {l : List Ev} (h : GrS S w w') (hc : CellsAt w a (elsV l)) (hn : l ≠ [] → ∀ ad, a = some ad → ¬ S ad.block) : CellsAt w' a (elsV l) := by
 by_cases h0 : l = []
 · subst h0; exact CellsAt.nil _ _
 · intro i hi
   obtain ⟨b, off, rfl, h1⟩ := hc i hi
   refine ⟨b, off, rfl, ?_⟩
   have h2 := cell_lt h1
   have h3 := h.block b h2 (hn h0 _ rfl)
   unfold World.cell? at h1 ⊢
   simp only [h3]
   exact h1
theorem GrS.bel {S : Nat → Prop} {B : Nat} {a w w' : World} (h : GrS S w w') (hb : Below B a w) (hB : B ≤ w.heap.size) (hs : ∀ k, S k → B ≤ k) : Below B a w' :=
 ⟨h.os.trans hb.os, h.tape.trans hb.tape, h.output.trans hb.output, Nat.le_trans hb.size h.size, fun k hk => (h.block k (Nat.lt_of_lt_of_le hk hB) (fun hs' => by have := hs k hs'; omega)).trans (hb.block k hk)⟩
end Kn
open Kn
theorem cells_inL {w : World} {a : Option Addr} {l : List Ev} (h : CellsAt w a (elsV l)) (hne : l ≠ []) : ∀ ad, a = some ad → ad.block < w.heap.size := by
 intro ad had
 cases l with
 | nil => exact absurd rfl hne
 | cons e l =>
  obtain ⟨b, off, e1, hc⟩ := h 0 (by simp [elsV, elV])
  rw [e1] at had
  cases had
  exact cell_lt hc
theorem own_pre {w : World} {B g n cc : Nat} {l : List Ev} (h : w.ownsRow B 53 6 (.slice (some ⟨g, 0, none⟩) (n + 1) cc) (n + 1) (elsV (l ++ [markE]))) : CellsAt w (some ⟨g, 0, none⟩) (elsV l) := by
 have h := CellsAt.ownN h
 rw [elsV_append] at h
 intro i hi
 obtain ⟨b, o, e, hc⟩ := h i (by rw [List.length_append]; omega)
 rw [List.getElem_append_left hi] at hc
 exact ⟨b, o, e, hc⟩
theorem kn_numC (e : Int) (w : World) : Calls Tryz.prog 41 #[.int .i64 e] w fun r w' => r = .returned (.int .i64 e) ∧ Below w.heap.size w w' := (kn_num e w).mono fun _ _ ⟨h1, h2⟩ => ⟨h1, by rw [h2]; exact Below.refl _ _⟩
end Go.Proofs.YtjlliohjeiclaaaGreatDoor
namespace Go.Proofs.YtjlliohjeiclaaaGreatDoor
open Go.RowKit St Pm Ku Kn
theorem cells_grS {S : Nat → Prop} {w w' : World} {a : Option Addr} {vs : List Value} (h : GrS S w w') (hc : CellsAt w a vs) (hn : ∀ ad, a = some ad → ¬ S ad.block) : CellsAt w' a vs := by
 intro i hi
 obtain ⟨b, off, rfl, h1⟩ := hc i hi
 refine ⟨b, off, rfl, ?_⟩
 have h2 := cell_lt h1
 have h3 := h.block b h2 (hn _ rfl)
 unfold World.cell? at h1 ⊢
 simp only [h3]
 exact h1
def ShowAt (k m : Int) (l : List Ev) (w w' : World) (sn : Int) (sa : Option Addr) (sl : Nat) (sf : Int) : Prop :=
 (valG k m l = false ∧ sn = 0 ∧ sl = 0 ∧ sf = 2) ∨ (valG k m l = true ∧ sn = m ∧ sf = 0 ∧ sl = (showG k l).length ∧ CellsAt w' sa (txV (showG k l)) ∧ ∀ ad, sa = some ad → w.heap.size ≤ ad.block)
theorem kn_ShowU (k m : Int) (l : List Ev) (a : Option Addr) (n c : Nat) (w : World) (hl : CellsAt w a (elsV l)) (hn : n = l.length) (hb : n ≤ 100000) (hz : ∀ e ∈ l, e.1.l.size ≤ 9223372036854775807) :
 Calls Tryz.prog 35 #[.agg #[.int .i64 k, .int .i64 m, .slice a n c]] w fun e w' => ∃ (sn : Int) (sa : Option Addr) (sl sc : Nat) (sf : Int), e = .returned (.tuple #[.int .i64 sn, .slice sa sl sc, .int .i64 sf]) ∧ ShowAt k m l w w' sn sa sl sf ∧ Below w.heap.size w w' := by
 refine (kn_Show k m l a n c w hl hn hb hz).mono ?_
 rintro e w' ⟨h | h, hb⟩
 · exact ⟨0, none, 0, 0, 2, h.2, .inl ⟨h.1, rfl, rfl, rfl⟩, hb⟩
 · obtain ⟨h1, sa, sl, sc, h2, h3, h4, h5⟩ := h
   exact ⟨m, sa, sl, sc, 0, h2, .inr ⟨h1, rfl, rfl, h3, h4, h5⟩, hb⟩
set_option maxRecDepth 100000 in
set_option maxHeartbeats 16000000 in
theorem law_KApplies (k m : Int) (l : List Ev) (a : Option Addr) (n c : Nat) (s : Sv) (pl : List ByteArray) (pk : Int) (px : ByteArray) (pd pm : Int) (pt : ByteArray) (pa : Option Addr) (pn pc : Nat) (w : World)
 (hl : CellsAt w a (elsV l)) (hn : n = l.length) (hz : ∀ e ∈ l, e.1.l.size ≤ 9223372036854775807) (hs : s.l.size ≤ 9223372036854775807)
 (hp : CellsAt w pa (txV pl)) (hpn : pn = pl.length) (hpz : ∀ x ∈ pl, x.size ≤ 9223372036854775807) (hpx : px.size ≤ 9223372036854775807) (hnb : n ≤ 4611686018427387904) (hG : Glob w) :
 Calls Tryz.prog 6 #[.agg #[.int .i64 k, .int .i64 m, .slice a n c], .agg #[.int .i64 s.g, .int .i64 s.r, .string s.l, .int .i64 s.n, .int .i64 s.i], .agg #[.slice pa pn pc, .int .i64 pk, .string px, .int .i64 pd, .int .i64 pm, .string pt]] w fun e w' => e = .returned (.bool true) ∧ Below w.heap.size w w' := by
 have HL := Lib.hid hl
 have HN := Lib.hid hn
 have HZ := Lib.hid hz
 have HSZ := Lib.hid hs
 have HPP := Lib.hid hp
 have HPN := Lib.hid hpn
 have HPZ := Lib.hid hpz
 have HPX := Lib.hid hpx
 have G := Lib.hid hG
 clear hl hn hz hs hp hpn hpz hpx hG
 have HC : Hid (Chain [w] w) := Lib.hid (Chain.one w)
 go_enter Tryz.func6, Tryz.ntmps6
 go_upto_region 1 with (fail)
 obtain ⟨z, hz⟩ : ∃ c, w.heap.size = c := ⟨_, rfl⟩
 try rw [hz]
 obtain ⟨w1, hw1⟩ : ∃ X, allocs w [.cells #[.int .i64 k, .int .i64 m, .slice a n c] 79, .cells #[.int .i64 s.g, .int .i64 s.r, .string s.l, .int .i64 s.n, .int .i64 s.i] 43, .cells #[.slice pa pn pc, .int .i64 pk, .string px, .int .i64 pd, .int .i64 pm, .string pt] 82] = X := ⟨_, rfl⟩
 rw [show ((w.alloc (.cells #[.int .i64 k, .int .i64 m, .slice a n c] 79)).alloc (.cells #[.int .i64 s.g, .int .i64 s.r, .string s.l, .int .i64 s.n, .int .i64 s.i] 43)).alloc (.cells #[.slice pa pn pc, .int .i64 pk, .string px, .int .i64 pd, .int .i64 pm, .string pt] 82) = w1 from hw1]
 have hb : Below w.heap.size w w1 := by rw [← hw1]; exact allocs_below _ _
 have HV : Hid (w1.heap[z]? = some (.cells #[.int .i64 k, .int .i64 m, .slice a n c] 79 (0, 0))) := Lib.hid (by have := allocs_get [.cells #[.int .i64 k, .int .i64 m, .slice a n c] 79, .cells #[.int .i64 s.g, .int .i64 s.r, .string s.l, .int .i64 s.n, .int .i64 s.i] 43, .cells #[.slice pa pn pc, .int .i64 pk, .string px, .int .i64 pd, .int .i64 pm, .string pt] 82] w 0 _ rfl; rw [hw1, hz] at this; exact this)
 have HS : Hid (w1.heap[z + 1]? = some (.cells #[.int .i64 s.g, .int .i64 s.r, .string s.l, .int .i64 s.n, .int .i64 s.i] 43 (0, 0))) := Lib.hid (by have := allocs_get [.cells #[.int .i64 k, .int .i64 m, .slice a n c] 79, .cells #[.int .i64 s.g, .int .i64 s.r, .string s.l, .int .i64 s.n, .int .i64 s.i] 43, .cells #[.slice pa pn pc, .int .i64 pk, .string px, .int .i64 pd, .int .i64 pm, .string pt] 82] w 1 _ rfl; rw [hw1, hz] at this; exact this)
 have HO : Hid (w1.heap[z + 1 + 1]? = some (.cells #[.slice pa pn pc, .int .i64 pk, .string px, .int .i64 pd, .int .i64 pm, .string pt] 82 (0, 0))) := Lib.hid (by have := allocs_get [.cells #[.int .i64 k, .int .i64 m, .slice a n c] 79, .cells #[.int .i64 s.g, .int .i64 s.r, .string s.l, .int .i64 s.n, .int .i64 s.i] 43, .cells #[.slice pa pn pc, .int .i64 pk, .string px, .int .i64 pd, .int .i64 pm, .string pt] 82] w 2 _ rfl; rw [hw1, hz] at this; exact this)
 have Sz : Hid (w.heap.size = z) := Lib.hid hz
 replace HC := Lib.hid (HC.out.push hb)
 clear hb hw1 hz
 have kV0 := cell_of_row _ _ 0 _ _ _ HV.out
 have kV1 := cell_of_row _ _ 1 _ _ _ HV.out
 have kV2 := cell_of_row _ _ 2 _ _ _ HV.out
 go_wp2_with fail
 refine (kr_much [⟨k, m, l, a, n, c⟩] _ 1 1 _ (CellsAt.new w1 79 (0, 0) ([⟨k, m, l, a, n, c⟩].flatMap vcV)) rfl (by omega) (by show n + 0 ≤ _; omega)).mono ?_
 rintro _ w2 ⟨rfl, hb2⟩
 have hb : Below w1.heap.size w1 w2 := (below_new w1 _).trans (hb2.mono (by rw [World.size_alloc]; omega))
 clear kV0 kV1 kV2
 replace HC := Lib.hid (HC.out.push hb)
 clear hb
 clear hb2
 have ZL : Hid (w.heap.size ≤ z ∧ z < w2.heap.size) := Lib.hid ⟨by have := Sz.out; omega, (Array.getElem?_eq_some_iff.1 (boxStays HV.out (HC.out.to w1 (by simp)))).1⟩
 rw [show ([⟨k, m, l, a, n, c⟩] : List Vc).map (·.n) = [n] from rfl, show [n].sum = n from by simp]
 by_cases hmu : 400 < n
 case pos =>
  rw [decide_eq_true hmu]
  go_wp2_with fail
  refine (known_09 _ (G.out.below (HC.out.to w (by simp)))).mono ?_
  rintro e w3 ⟨rfl, hb⟩
  replace HC := Lib.hid (HC.out.push hb)
  clear hb
  go_wp2_with fail
  go_ret
  exact ⟨rfl, (HC.out.to w (by simp))⟩
 rw [decide_eq_false hmu]
 by_cases hpp : 200 < pn
 case pos =>
  have hpi : (200 : Int) < (pn : Int) := by omega
  have kO0 := cell_of_row _ _ 0 _ _ _ (boxStays HO.out (HC.out.to w1 (by simp)))
  have kO1 := cell_of_row _ _ 1 _ _ _ (boxStays HO.out (HC.out.to w1 (by simp)))
  have kO2 := cell_of_row _ _ 2 _ _ _ (boxStays HO.out (HC.out.to w1 (by simp)))
  have kO3 := cell_of_row _ _ 3 _ _ _ (boxStays HO.out (HC.out.to w1 (by simp)))
  have kO4 := cell_of_row _ _ 4 _ _ _ (boxStays HO.out (HC.out.to w1 (by simp)))
  have kO5 := cell_of_row _ _ 5 _ _ _ (boxStays HO.out (HC.out.to w1 (by simp)))
  go_wp2_with fail
  refine (known_09 _ (G.out.below (HC.out.to w (by simp)))).mono ?_
  rintro e w3 ⟨rfl, hb⟩
  clear kO0 kO1 kO2 kO3 kO4 kO5
  replace HC := Lib.hid (HC.out.push hb)
  clear hb
  go_wp2_with fail
  go_ret
  exact ⟨rfl, (HC.out.to w (by simp))⟩
 have hpi : ¬ (200 : Int) < (pn : Int) := by omega
 have kO0 := cell_of_row _ _ 0 _ _ _ (boxStays HO.out (HC.out.to w1 (by simp)))
 have kO1 := cell_of_row _ _ 1 _ _ _ (boxStays HO.out (HC.out.to w1 (by simp)))
 have kO2 := cell_of_row _ _ 2 _ _ _ (boxStays HO.out (HC.out.to w1 (by simp)))
 have kO3 := cell_of_row _ _ 3 _ _ _ (boxStays HO.out (HC.out.to w1 (by simp)))
 have kO4 := cell_of_row _ _ 4 _ _ _ (boxStays HO.out (HC.out.to w1 (by simp)))
 have kO5 := cell_of_row _ _ 5 _ _ _ (boxStays HO.out (HC.out.to w1 (by simp)))
 go_upto_region 3 with (fail)
 clear kO0 kO1 kO2 kO3 kO4 kO5
 clear hpi
 have kV0 := cell_of_row _ _ 0 _ _ _ (boxStays HV.out (HC.out.to w1 (by simp)))
 have kV1 := cell_of_row _ _ 1 _ _ _ (boxStays HV.out (HC.out.to w1 (by simp)))
 have kV2 := cell_of_row _ _ 2 _ _ _ (boxStays HV.out (HC.out.to w1 (by simp)))
 go_wp2_with fail
 refine (kr_copied k m l a n c _ (HL.out.below (HC.out.to w (by simp)) rfl) HN.out (by omega)).mono ?_
 rintro e w3 ⟨g, cc, rfl, ho, hb⟩
 clear kV0 kV1 kV2
 replace HC := Lib.hid (HC.out.push hb)
 clear hb
 have O3 := Lib.hid ho
 have NC : Hid (n ≤ cc) := Lib.hid (by obtain ⟨g', k', e, _, _, h, _⟩ := own_form ho (by omega); cases e; omega)
 have GB : Hid (w2.heap.size ≤ g ∧ g < w3.heap.size) := Lib.hid (ho.lt g rfl)
 clear ho
 go_upto_region 4 with (fail)
 obtain ⟨y, hy⟩ : ∃ c, w3.heap.size = c := ⟨_, rfl⟩
 try rw [hy]
 obtain ⟨w4, hw4⟩ : ∃ X, allocs w3 [.cells #[.int .i64 k, .int .i64 m, .slice (some ⟨g, 0, none⟩) n cc] 79] = X := ⟨_, rfl⟩
 rw [show w3.alloc (.cells #[.int .i64 k, .int .i64 m, .slice (some ⟨g, 0, none⟩) n cc] 79) = w4 from hw4]
 have hb : Below w3.heap.size w3 w4 := by rw [← hw4]; exact allocs_below _ _
 have HM : Hid (w4.heap[y]? = some (.cells #[.int .i64 k, .int .i64 m, .slice (some ⟨g, 0, none⟩) n cc] 79 (0, 0))) := Lib.hid (by have := allocs_get [.cells #[.int .i64 k, .int .i64 m, .slice (some ⟨g, 0, none⟩) n cc] 79] w3 0 _ rfl; rw [hw4, hy] at this; exact this)
 have Sy : Hid (w3.heap.size = y) := Lib.hid hy
 replace HC := Lib.hid (HC.out.push hb)
 clear hb hw4 hy
 have S34 : Hid (w3.heap.size ≤ w4.heap.size) := Lib.hid (HC.out.to w3 (by simp)).size
 obtain ⟨rt, hT⟩ : ∃ r, applyG k m l s (checkK pl pk px pd pm pt) pk pd pm pt = r := ⟨_, rfl⟩
 have AP : Hid (∀ W, Below w.heap.size w W → Below w3.heap.size w3 W → Calls Tryz.prog 34 #[.agg #[.int .i64 k, .int .i64 m, .slice (some ⟨g, 0, none⟩) n cc], .agg #[.int .i64 s.g, .int .i64 s.r, .string s.l, .int .i64 s.n, .int .i64 s.i], .agg #[.slice pa pn pc, .int .i64 pk, .string px, .int .i64 pd, .int .i64 pm, .string pt]] W fun e w' => ValOut W w' rt e) := Lib.hid (fun W hW hW3 => by
  have := kn_Apply k m l (some ⟨g, 0, none⟩) n cc s pl pk px pd pm pt pa pn pc W ((own_pre O3.out).below hW3 rfl) HN.out NC.out (by omega) HZ.out HSZ.out (HPP.out.below hW rfl) HPN.out HPZ.out HPX.out (G.out.below hW)
  rw [hT] at this
  exact this)
 have AR : Hid (∀ W, Below w.heap.size w W → Calls Tryz.prog 38 #[.agg #[.int .i64 k, .int .i64 m, .slice a n c], .agg #[.int .i64 s.g, .int .i64 s.r, .string s.l, .int .i64 s.n, .int .i64 s.i], .agg #[.slice pa pn pc, .int .i64 pk, .string px, .int .i64 pd, .int .i64 pm, .string pt]] W fun e w' => ValOut W w' rt e) := Lib.hid (fun W hW => by
  have := kr_Apply k m l a n c s pl pk px pd pm pt pa pn pc W (HL.out.below hW rfl) HN.out (by omega) HZ.out HSZ.out (HPP.out.below hW rfl) HPN.out
  rw [hT] at this
  exact this)
 have TN : Hid (rt.2.2.1.length ≤ 9223372036854775807) := Lib.hid (by
  rw [← hT]
  unfold applyG
  split
  · exact Nat.zero_le _
  · split
    · exact Nat.zero_le _
    · have h1 := base_len pd pt l
      have h2 := HN.out
      show (newG pd pt s l).length ≤ _
      unfold newG
      rw [List.length_append]
      split <;> simp <;> omega)
 clear hT
 obtain ⟨tk, tm, tl, te⟩ := rt
 have kM0 := cell_of_row _ _ 0 _ _ _ HM.out
 have kM1 := cell_of_row _ _ 1 _ _ _ HM.out
 have kM2 := cell_of_row _ _ 2 _ _ _ HM.out
 have kS0 := cell_of_row _ _ 0 _ _ _ (boxStays HS.out (HC.out.to w1 (by simp)))
 have kS1 := cell_of_row _ _ 1 _ _ _ (boxStays HS.out (HC.out.to w1 (by simp)))
 have kS2 := cell_of_row _ _ 2 _ _ _ (boxStays HS.out (HC.out.to w1 (by simp)))
 have kS3 := cell_of_row _ _ 3 _ _ _ (boxStays HS.out (HC.out.to w1 (by simp)))
 have kS4 := cell_of_row _ _ 4 _ _ _ (boxStays HS.out (HC.out.to w1 (by simp)))
 have kO0 := cell_of_row _ _ 0 _ _ _ (boxStays HO.out (HC.out.to w1 (by simp)))
 have kO1 := cell_of_row _ _ 1 _ _ _ (boxStays HO.out (HC.out.to w1 (by simp)))
 have kO2 := cell_of_row _ _ 2 _ _ _ (boxStays HO.out (HC.out.to w1 (by simp)))
 have kO3 := cell_of_row _ _ 3 _ _ _ (boxStays HO.out (HC.out.to w1 (by simp)))
 have kO4 := cell_of_row _ _ 4 _ _ _ (boxStays HO.out (HC.out.to w1 (by simp)))
 have kO5 := cell_of_row _ _ 5 _ _ _ (boxStays HO.out (HC.out.to w1 (by simp)))
 go_wp2_with fail
 refine (AP.out _ (HC.out.to w (by simp)) (HC.out.to w3 (by simp))).mono ?_
 rintro e w5 ⟨xa, xn, xc, rfl, h1, h2, h3, h4, hb⟩
 clear kM0 kM1 kM2 kS0 kS1 kS2 kS3 kS4 kO0 kO1 kO2 kO3 kO4 kO5
 replace HC := Lib.hid (HC.out.push hb)
 clear hb
 have EX := Lib.hid h1
 have NX := Lib.hid h2
 have FX : Hid (∀ ad, xa = some ad → w3.heap.size ≤ ad.block) := Lib.hid (fun ad had => Nat.le_trans S34.out (h4 ad had))
 have S35 : Hid (w3.heap.size ≤ w5.heap.size) := Lib.hid (HC.out.to w3 (by simp)).size
 clear h1 h2 h3 h4 AP
 go_upto_region 5 with (fail)
 obtain ⟨zx, hzx⟩ : ∃ c, w5.heap.size = c := ⟨_, rfl⟩
 try rw [hzx]
 obtain ⟨w6, hw6⟩ : ∃ X, allocs w5 [.cells #[.int .i64 tk, .int .i64 tm, .slice xa xn xc] 79] = X := ⟨_, rfl⟩
 rw [show w5.alloc (.cells #[.int .i64 tk, .int .i64 tm, .slice xa xn xc] 79) = w6 from hw6]
 have hb : Below w5.heap.size w5 w6 := by rw [← hw6]; exact allocs_below _ _
 have HX : Hid (w6.heap[zx]? = some (.cells #[.int .i64 tk, .int .i64 tm, .slice xa xn xc] 79 (0, 0))) := Lib.hid (by have := allocs_get [.cells #[.int .i64 tk, .int .i64 tm, .slice xa xn xc] 79] w5 0 _ rfl; rw [hw6, hzx] at this; exact this)
 have Szx : Hid (w5.heap.size = zx) := Lib.hid hzx
 replace HC := Lib.hid (HC.out.push hb)
 clear hb hw6 hzx
 have S36 : Hid (w3.heap.size ≤ w6.heap.size) := Lib.hid (HC.out.to w3 (by simp)).size
 have kM0 := cell_of_row _ _ 0 _ _ _ (boxStays HM.out (HC.out.to w4 (by simp)))
 have kM1 := cell_of_row _ _ 1 _ _ _ (boxStays HM.out (HC.out.to w4 (by simp)))
 have kM2 := cell_of_row _ _ 2 _ _ _ (boxStays HM.out (HC.out.to w4 (by simp)))
 go_wp2_with fail
 refine (kn_ShowU k m l (some ⟨g, 0, none⟩) n cc _ ((own_pre O3.out).below (HC.out.to w3 (by simp)) rfl) HN.out (by omega) HZ.out).mono ?_
 rintro e w7 ⟨sn, sa, sl, sc, sf, rfl, hsh, hb⟩
 clear kM0 kM1 kM2
 replace HC := Lib.hid (HC.out.push hb)
 clear hb
 have SH := Lib.hid hsh
 clear hsh
 go_upto_region 6 with (fail)
 have B37 := Lib.hid (HC.out.to w3 (by simp))
 have BW7 := Lib.hid (HC.out.to w (by simp))
 have XV := Lib.hid (boxStays HV.out (HC.out.to w1 (by simp)))
 have XM := Lib.hid (boxStays HM.out (HC.out.to w4 (by simp)))
 obtain ⟨vv, hvv⟩ : ∃ b, valG k m l = b := ⟨_, rfl⟩
 have VV := Lib.hid hvv
 clear hvv
 have SAM : Hid (sameG k m l k m l = true) := Lib.hid (by simp [sameG])
 refine relG_start (slots := [42, 43, 44, 45, 46, 13, 14]) (so := []) (by kernel_rfl) (by kernel_rfl) (by rfl) ?_
 refine relG_pure (i := 0) (o := ⟨some 42, _, _, _, _, _⟩) (v := ?v1) [] [7] rfl rfl (by kernel_rfl) (by kernel_rfl) (fun t w1 hB hf hbf => ?y1) ?n1
 case y1 =>
  simp only [BasF] at hbf
  clear hf
  obtain ⟨⟨b7, k7⟩, _⟩ := hbf
  have b3 := B37.out.trans (hB.mono B37.out.size)
  have bw := BW7.out.trans (hB.mono BW7.out.size)
  have yv := boxStays XV.out hB
  have v0 := cell_of_row _ z 0 _ _ _ yv
  have v1 := cell_of_row _ z 1 _ _ _ yv
  have v2 := cell_of_row _ z 2 _ _ _ yv
  have ym := boxStays XM.out hB
  have m0 := cell_of_row _ y 0 _ _ _ ym
  have m1 := cell_of_row _ y 1 _ _ _ ym
  have m2 := cell_of_row _ y 2 _ _ _ ym
  clear yv ym
  refine Or.inl ⟨wanted_none rfl, ?_⟩
  rintro _ rfl
  go_simp <;> with_reducible rfl
 refine relG_call (i := 1) (o := ⟨some 43, _, _, _, _, _⟩) ((fun v _ => v = .bool vv)) [(0, 42, 0)] [] rfl rfl (by kernel_rfl) (by kernel_rfl) ((fun _ _ _ h _ => h)) ?_ ?_
 · intro t w1 hB hf hbf K hK
   simp only [DepF, List.getD_cons_zero] at hf
   obtain ⟨⟨_, ⟨e42, i42⟩, rfl⟩, _⟩ := hf
   clear hbf
   have b3 := B37.out.trans (hB.mono B37.out.size)
   have bw := BW7.out.trans (hB.mono BW7.out.size)
   have yv := boxStays XV.out hB
   have v0 := cell_of_row _ z 0 _ _ _ yv
   have v1 := cell_of_row _ z 1 _ _ _ yv
   have v2 := cell_of_row _ z 2 _ _ _ yv
   have ym := boxStays XM.out hB
   have m0 := cell_of_row _ y 0 _ _ _ ym
   have m1 := cell_of_row _ y 1 _ _ _ ym
   have m2 := cell_of_row _ y 2 _ _ _ ym
   clear yv ym
   refine ⟨wanted_none rfl, ?_⟩
   go_simp
   refine (kn_Value k m l (some ⟨g, 0, none⟩) n cc w1 ((own_pre O3.out).below b3 rfl) HN.out (by omega) HZ.out).mono ?_
   rintro e w2 ⟨rfl, hb⟩
   exact hK.out _ w2 (by rw [VV.out]) hb
 refine relG_pure (i := 2) (o := ⟨some 44, _, _, _, _, _⟩) (v := ?v2) [] [7] rfl rfl (by kernel_rfl) (by kernel_rfl) (fun t w1 hB hf hbf => ?y2) ?n2
 case y2 =>
  simp only [BasF] at hbf
  clear hf
  obtain ⟨⟨b7, k7⟩, _⟩ := hbf
  have b3 := B37.out.trans (hB.mono B37.out.size)
  have bw := BW7.out.trans (hB.mono BW7.out.size)
  have yv := boxStays XV.out hB
  have v0 := cell_of_row _ z 0 _ _ _ yv
  have v1 := cell_of_row _ z 1 _ _ _ yv
  have v2 := cell_of_row _ z 2 _ _ _ yv
  have ym := boxStays XM.out hB
  have m0 := cell_of_row _ y 0 _ _ _ ym
  have m1 := cell_of_row _ y 1 _ _ _ ym
  have m2 := cell_of_row _ y 2 _ _ _ ym
  clear yv ym
  refine Or.inl ⟨wanted_none rfl, ?_⟩
  rintro _ rfl
  go_simp <;> with_reducible rfl
 refine relG_pure (i := 3) (o := ⟨some 45, _, _, _, _, _⟩) (v := ?v3) [] [3] rfl rfl (by kernel_rfl) (by kernel_rfl) (fun t w1 hB hf hbf => ?y3) ?n3
 case y3 =>
  simp only [BasF] at hbf
  clear hf
  obtain ⟨⟨b3, k3⟩, _⟩ := hbf
  have b3 := B37.out.trans (hB.mono B37.out.size)
  have bw := BW7.out.trans (hB.mono BW7.out.size)
  have yv := boxStays XV.out hB
  have v0 := cell_of_row _ z 0 _ _ _ yv
  have v1 := cell_of_row _ z 1 _ _ _ yv
  have v2 := cell_of_row _ z 2 _ _ _ yv
  have ym := boxStays XM.out hB
  have m0 := cell_of_row _ y 0 _ _ _ ym
  have m1 := cell_of_row _ y 1 _ _ _ ym
  have m2 := cell_of_row _ y 2 _ _ _ ym
  clear yv ym
  refine Or.inl ⟨wanted_none rfl, ?_⟩
  rintro _ rfl
  go_simp <;> with_reducible rfl
 refine relG_call (i := 4) (o := ⟨some 46, _, _, _, _, _⟩) ((fun v _ => v = .bool true)) [(2, 44, 1), (3, 45, 0)] [] rfl rfl (by kernel_rfl) (by kernel_rfl) ((fun _ _ _ h _ => h)) ?_ ?_
 · intro t w1 hB hf hbf K hK
   simp only [DepF, List.getD_cons_zero, List.getD_cons_succ] at hf
   obtain ⟨⟨_, ⟨e44, i44⟩, rfl⟩, ⟨_, ⟨e45, i45⟩, rfl⟩, _⟩ := hf
   clear hbf
   have b3 := B37.out.trans (hB.mono B37.out.size)
   have bw := BW7.out.trans (hB.mono BW7.out.size)
   have yv := boxStays XV.out hB
   have v0 := cell_of_row _ z 0 _ _ _ yv
   have v1 := cell_of_row _ z 1 _ _ _ yv
   have v2 := cell_of_row _ z 2 _ _ _ yv
   have ym := boxStays XM.out hB
   have m0 := cell_of_row _ y 0 _ _ _ ym
   have m1 := cell_of_row _ y 1 _ _ _ ym
   have m2 := cell_of_row _ y 2 _ _ _ ym
   clear yv ym
   refine ⟨wanted_none rfl, ?_⟩
   go_simp
   refine (kn_Same k m l (some ⟨g, 0, none⟩) n cc k m l a n c w1 ((own_pre O3.out).below b3 rfl) (HL.out.below bw rfl) HN.out HN.out (by omega)).mono ?_
   rintro e w2 ⟨rfl, hb⟩
   exact hK.out _ w2 (by rw [SAM.out]) hb
 refine relG_pure (i := 5) (o := ⟨some 13, _, _, _, _, _⟩) (v := ?v4) [(1, 43, 3)] [] rfl rfl (by kernel_rfl) (by kernel_rfl) (fun t w1 hB hf hbf => ?y4) ?n4
 case y4 =>
  simp only [DepF, List.getD_cons_zero, List.getD_cons_succ] at hf
  obtain ⟨⟨_, ⟨e43, i43⟩, rfl⟩, _⟩ := hf
  clear hbf
  have b3 := B37.out.trans (hB.mono B37.out.size)
  have bw := BW7.out.trans (hB.mono BW7.out.size)
  have yv := boxStays XV.out hB
  have v0 := cell_of_row _ z 0 _ _ _ yv
  have v1 := cell_of_row _ z 1 _ _ _ yv
  have v2 := cell_of_row _ z 2 _ _ _ yv
  have ym := boxStays XM.out hB
  have m0 := cell_of_row _ y 0 _ _ _ ym
  have m1 := cell_of_row _ y 1 _ _ _ ym
  have m2 := cell_of_row _ y 2 _ _ _ ym
  clear yv ym
  refine Or.inl ⟨wanted_none rfl, ?_⟩
  rintro _ rfl
  go_simp <;> with_reducible rfl
 refine relG_pure (i := 6) (o := ⟨some 14, _, _, _, _, _⟩) (v := ?v5) [(4, 46, 1)] [] rfl rfl (by kernel_rfl) (by kernel_rfl) (fun t w1 hB hf hbf => ?y5) ?n5
 case y5 =>
  simp only [DepF, List.getD_cons_zero, List.getD_cons_succ] at hf
  obtain ⟨⟨_, ⟨e46, i46⟩, rfl⟩, _⟩ := hf
  clear hbf
  have b3 := B37.out.trans (hB.mono B37.out.size)
  have bw := BW7.out.trans (hB.mono BW7.out.size)
  have yv := boxStays XV.out hB
  have v0 := cell_of_row _ z 0 _ _ _ yv
  have v1 := cell_of_row _ z 1 _ _ _ yv
  have v2 := cell_of_row _ z 2 _ _ _ yv
  have ym := boxStays XM.out hB
  have m0 := cell_of_row _ y 0 _ _ _ ym
  have m1 := cell_of_row _ y 1 _ _ _ ym
  have m2 := cell_of_row _ y 2 _ _ _ ym
  clear yv ym
  refine Or.inl ⟨wanted_none rfl, ?_⟩
  rintro _ rfl
  go_simp <;> with_reducible rfl
 refine relG_done [(0, 42, 6), (1, 43, 5), (2, 44, 4), (3, 45, 3), (4, 46, 2), (5, 13, 1), (6, 14, 0)] (by kernel_rfl) rfl (by kernel_rfl) (fun f wE hB hf => ?_)
 simp only [FinF, List.getD_cons_zero, List.getD_cons_succ] at hf
 obtain ⟨⟨_, e42, rfl⟩, ⟨_, e43, rfl⟩, ⟨_, e44, rfl⟩, ⟨_, e45, rfl⟩, ⟨_, e46, rfl⟩, ⟨_, e13, rfl⟩, ⟨_, e14, rfl⟩, _⟩ := hf
 simp only [regT, List.foldl_cons, List.foldl_nil, List.setIfInBounds_toArray, List.set_cons_zero, List.set_cons_succ, e42, e43, e44, e45, e46, e13, e14]
 clear e42 e43 e44 e45 e46 e13 e14
 have hb := hB
 clear hB B37 BW7 XV XM
 replace HC := Lib.hid (HC.out.push hb)
 clear hb
 have SE3 : Hid (w3.heap.size ≤ wE.heap.size) := Lib.hid (HC.out.to w3 (by simp)).size
 have kV0 := cell_of_row _ _ 0 _ _ _ (boxStays HV.out (HC.out.to w1 (by simp)))
 have kV1 := cell_of_row _ _ 1 _ _ _ (boxStays HV.out (HC.out.to w1 (by simp)))
 have kV2 := cell_of_row _ _ 2 _ _ _ (boxStays HV.out (HC.out.to w1 (by simp)))
 have kS0 := cell_of_row _ _ 0 _ _ _ (boxStays HS.out (HC.out.to w1 (by simp)))
 have kS1 := cell_of_row _ _ 1 _ _ _ (boxStays HS.out (HC.out.to w1 (by simp)))
 have kS2 := cell_of_row _ _ 2 _ _ _ (boxStays HS.out (HC.out.to w1 (by simp)))
 have kS3 := cell_of_row _ _ 3 _ _ _ (boxStays HS.out (HC.out.to w1 (by simp)))
 have kS4 := cell_of_row _ _ 4 _ _ _ (boxStays HS.out (HC.out.to w1 (by simp)))
 have kO0 := cell_of_row _ _ 0 _ _ _ (boxStays HO.out (HC.out.to w1 (by simp)))
 have kO1 := cell_of_row _ _ 1 _ _ _ (boxStays HO.out (HC.out.to w1 (by simp)))
 have kO2 := cell_of_row _ _ 2 _ _ _ (boxStays HO.out (HC.out.to w1 (by simp)))
 have kO3 := cell_of_row _ _ 3 _ _ _ (boxStays HO.out (HC.out.to w1 (by simp)))
 have kO4 := cell_of_row _ _ 4 _ _ _ (boxStays HO.out (HC.out.to w1 (by simp)))
 have kO5 := cell_of_row _ _ 5 _ _ _ (boxStays HO.out (HC.out.to w1 (by simp)))
 go_wp2_with fail
 refine (AR.out _ (HC.out.to w (by simp))).mono ?_
 rintro e w9 ⟨ya, yn, yc, rfl, h1, h2, h3, h4, hb⟩
 clear kV0 kV1 kV2 kS0 kS1 kS2 kS3 kS4 kO0 kO1 kO2 kO3 kO4 kO5
 replace HC := Lib.hid (HC.out.push hb)
 clear hb
 have EW := Lib.hid h1
 have NW := Lib.hid h2
 have S3E : Hid (w3.heap.size ≤ w9.heap.size) := Lib.hid (HC.out.to w3 (by simp)).size
 have FW : Hid (∀ ad, ya = some ad → wE.heap.size ≤ ad.block) := Lib.hid h4
 clear h1 h2 h3 h4 AR
 go_upto_region 8 with (fail)
 obtain ⟨zw, hzw⟩ : ∃ c, w9.heap.size = c := ⟨_, rfl⟩
 try rw [hzw]
 obtain ⟨w10, hw10⟩ : ∃ X, allocs w9 [.cells #[.int .i64 tk, .int .i64 tm, .slice ya yn yc] 79] = X := ⟨_, rfl⟩
 rw [show w9.alloc (.cells #[.int .i64 tk, .int .i64 tm, .slice ya yn yc] 79) = w10 from hw10]
 have hb : Below w9.heap.size w9 w10 := by rw [← hw10]; exact allocs_below _ _
 have HW : Hid (w10.heap[zw]? = some (.cells #[.int .i64 tk, .int .i64 tm, .slice ya yn yc] 79 (0, 0))) := Lib.hid (by have := allocs_get [.cells #[.int .i64 tk, .int .i64 tm, .slice ya yn yc] 79] w9 0 _ rfl; rw [hw10, hzw] at this; exact this)
 have Szw : Hid (w9.heap.size = zw) := Lib.hid hzw
 replace HC := Lib.hid (HC.out.push hb)
 clear hb hw10 hzw
 have K := Lib.hid (own_below O3.out (HC.out.to w3 (by simp)) (fun k' hk => (O3.out.lt k' hk).2))
 have RM := Lib.hid (boxStays HM.out (HC.out.to w4 (by simp)))
 have RV := Lib.hid (boxStays HV.out (HC.out.to w1 (by simp)))
 have RX := Lib.hid (boxStays HX.out (HC.out.to w6 (by simp)))
 have RW : Hid (w10.heap[zw]? = some (.cells #[.int .i64 tk, .int .i64 tm, .slice ya yn yc] 79 (0, 0))) := HW
 have A1 := Lib.hid (HL.out.below (HC.out.to w (by simp)) rfl)
 have CX := Lib.hid (EX.out.below (HC.out.to w5 (by simp)) rfl)
 have CW := Lib.hid (EW.out.below (HC.out.to w9 (by simp)) rfl)
 have BW := Lib.hid (HC.out.to w (by simp))
 have SHX : Hid ((vv = false ∧ sn = 0 ∧ sl = 0 ∧ sf = 2) ∨ (vv = true ∧ sn = m ∧ sf = 0 ∧ sl = (showG k l).length ∧ CellsAt w10 sa (txV (showG k l)) ∧ ∀ ad, sa = some ad → w3.heap.size ≤ ad.block)) := Lib.hid (by
  rcases SH.out with ⟨h1, h2⟩ | ⟨h1, h2, h3, h4, h5, h6⟩
  · exact .inl ⟨VV.out.symm.trans h1, h2⟩
  · exact .inr ⟨VV.out.symm.trans h1, h2, h3, h4, h5.below (HC.out.to w7 (by simp)) rfl, fun ad had => Nat.le_trans S36.out (h6 ad had)⟩)
 have NS : Hid (¬ (fun k' => k' = g) z ∧ ¬ (fun k' => k' = g) y ∧ ¬ (fun k' => k' = g) zx ∧ ¬ (fun k' => k' = g) zw) := Lib.hid (by
  have h1 := GB.out
  have h2 := ZL.out
  have h3 := Sy.out
  have h4 := Szx.out
  have h5 := Szw.out
  have h6 := S35.out
  have h7 := S3E.out
  refine ⟨?_, ?_, ?_, ?_⟩ <;> (show ¬ _ = _; omega))
 have AS : Hid (l ≠ [] → ∀ ad, a = some ad → ¬ (fun k' => k' = g) ad.block) := Lib.hid (fun h0 ad had => by
  have h1 := cells_inL HL.out h0 ad had
  have h2 := GB.out
  have h3 := ZL.out
  show ¬ _ = _; omega)
 have XS : Hid (tl ≠ [] → ∀ ad, xa = some ad → ¬ (fun k' => k' = g) ad.block) := Lib.hid (fun _ ad had => by
  have h1 := FX.out ad had
  have h2 := GB.out
  show ¬ _ = _; omega)
 have YS : Hid (tl ≠ [] → ∀ ad, ya = some ad → ¬ (fun k' => k' = g) ad.block) := Lib.hid (fun _ ad had => by
  have h1 := FW.out ad had
  have h2 := GB.out
  have h3 := SE3.out
  show ¬ _ = _; omega)
 have GW : Hid (∀ k', (fun k' => k' = g) k' → w.heap.size ≤ k') := Lib.hid (fun k' hk => by
  have h1 := GB.out
  have h2 := ZL.out
  have hk : k' = g := hk
  omega)
 clear HC HV HS HO HM HX HW EX EW SH O3
 have t0 := cell_of_row _ y 0 _ _ _ RM.out
 have t1 := cell_of_row _ y 1 _ _ _ RM.out
 have t2 := cell_of_row _ y 2 _ _ _ RM.out
 have s0 := cell_of_row _ z 0 _ _ _ RV.out
 have s1 := cell_of_row _ z 1 _ _ _ RV.out
 have s2 := cell_of_row _ z 2 _ _ _ RV.out
 go_wp2_with fail
 refine (kr_left k m l g n cc w2.heap.size a c _ HN.out (by omega) K.out A1.out).mono ?_
 rintro _ w11 ⟨rfl, hg⟩
 clear t0 t1 t2 s0 s1 s2
 have GS : Hid (GrS (fun k' => k' = g) w10 w11) := Lib.hid ((GrS.refl (fun k' => k' = g) w10).grown hg rfl)
 clear hg K
 have t0 := cell_of_row _ zx 0 _ _ _ (GS.out.box RX.out NS.out.2.2.1)
 have t1 := cell_of_row _ zx 1 _ _ _ (GS.out.box RX.out NS.out.2.2.1)
 have t2 := cell_of_row _ zx 2 _ _ _ (GS.out.box RX.out NS.out.2.2.1)
 have s0 := cell_of_row _ zw 0 _ _ _ (GS.out.box RW.out NS.out.2.2.2)
 have s1 := cell_of_row _ zw 1 _ _ _ (GS.out.box RW.out NS.out.2.2.2)
 have s2 := cell_of_row _ zw 2 _ _ _ (GS.out.box RW.out NS.out.2.2.2)
 go_wp2_with fail
 refine (kr_Same tk tm tl xa xn xc tk tm tl ya yn yc _ (GS.out.cells CX.out XS.out) (GS.out.cells CW.out YS.out) NX.out NW.out (by have := NX.out; have := TN.out; omega)).mono ?_
 rintro _ w12 ⟨rfl, hb⟩
 rw [show sameG tk tm tl tk tm tl = true from by simp [sameG]]
 clear t0 t1 t2 s0 s1 s2
 replace GS := Lib.hid (GS.out.below hb)
 clear hb
 go_wp2_with fail
 refine (kn_numC te _).mono ?_
 rintro _ w13 ⟨rfl, hb⟩
 replace GS := Lib.hid (GS.out.below hb)
 clear hb
 have RV13 := Lib.hid (GS.out.box RV.out NS.out.1)
 have A13 := Lib.hid (GS.out.cells A1.out AS.out)
 have BW13 : Hid (Below w.heap.size w w13) := Lib.hid (GS.out.bel BW.out BW.out.size GW.out)
 have TX13 : Hid (vv = true → CellsAt w13 sa (txV (showG k l))) := Lib.hid (fun h => by
  rcases SHX.out with ⟨h1, _⟩ | ⟨_, _, _, _, h5, h6⟩
  · rw [h] at h1; cases h1
  · exact cells_grS GS.out h5 (fun ad had => by have h1 := h6 ad had; have h2 := GB.out; show ¬ _ = _; omega))
 have SHY : Hid ((vv = false ∧ sn = 0 ∧ sl = 0 ∧ sf = 2) ∨ (vv = true ∧ sn = m ∧ sf = 0 ∧ sl = (showG k l).length)) := Lib.hid (by
  rcases SHX.out with h | ⟨h1, h2, h3, h4, _⟩
  · exact .inl h
  · exact .inr ⟨h1, h2, h3, h4⟩)
 clear RM RX RW A1 CX CW SHX GS AS XS YS GW RV NS
 have HC : Hid (Chain [w13] w13) := Lib.hid (Chain.one w13)
 have HV := RV13
 have kV0 := cell_of_row _ _ 0 _ _ _ HV.out
 have kV1 := cell_of_row _ _ 1 _ _ _ HV.out
 have kV2 := cell_of_row _ _ 2 _ _ _ HV.out
 go_wp2_with fail
 refine (kr_Value k m l a n c _ (A13.out.below (HC.out.to w13 (by simp)) rfl) HN.out (by omega) HZ.out).mono ?_
 rintro e w14 ⟨rfl, hb⟩
 clear kV0 kV1 kV2
 replace HC := Lib.hid (HC.out.push hb)
 clear hb
 rw [VV.out]
 cases vv
 case false =>
  obtain ⟨rfl, rfl, rfl⟩ : sn = 0 ∧ sl = 0 ∧ sf = 2 := by
   rcases SHY.out with ⟨_, h⟩ | ⟨h, _⟩
   · exact h
   · cases h
  go_wp2_with fail
  refine (kn_numC 2 _).mono ?_
  rintro e w15 ⟨rfl, hb⟩
  replace HC := Lib.hid (HC.out.push hb)
  clear hb
  go_wp2_with fail
  refine (known_09 _ (G.out.below (BW13.out.trans ((HC.out.to w13 (by simp)).mono BW13.out.size)))).mono ?_
  rintro e w16 ⟨rfl, hb⟩
  replace HC := Lib.hid (HC.out.push hb)
  clear hb
  have BF := Lib.hid (BW13.out.trans ((HC.out.to w13 (by simp)).mono BW13.out.size))
  go_wp2_with fail
  go_ret
  exact ⟨rfl, BF.out⟩
 case true =>
  obtain ⟨rfl, rfl, hsl⟩ : sn = m ∧ sf = 0 ∧ sl = (showG k l).length := by
   rcases SHY.out with ⟨h, _⟩ | ⟨_, h⟩
   · cases h
   · exact h
  have SL := Lib.hid hsl
  clear hsl
  have kV0 := cell_of_row _ _ 0 _ _ _ (boxStays HV.out (HC.out.to w13 (by simp)))
  have kV1 := cell_of_row _ _ 1 _ _ _ (boxStays HV.out (HC.out.to w13 (by simp)))
  have kV2 := cell_of_row _ _ 2 _ _ _ (boxStays HV.out (HC.out.to w13 (by simp)))
  go_wp2_with fail
  refine (kr_Texts k sn l a n c _ (A13.out.below (HC.out.to w13 (by simp)) rfl) HN.out (by omega)).mono ?_
  rintro e w15 ⟨ta, tn, tc, rfl, h1, h2, hb⟩
  clear kV0 kV1 kV2
  replace HC := Lib.hid (HC.out.push hb)
  clear hb
  have E1 := Lib.hid h1
  have E2 := Lib.hid h2
  clear h1 h2
  go_wp2_with fail
  refine (ref9_SameTexts (showG k l) (showG k l) sa ta sl tn sc tc _ ((TX13.out (by first | trivial | rfl)).below (HC.out.to w13 (by simp)) rfl) (E1.out.below (HC.out.to w15 (by simp)) rfl) SL.out E2.out (by have h1 := SL.out; have h2 := showG_len k l; have h3 := HN.out; omega)).mono ?_
  rintro e w16 ⟨rfl, hb⟩
  replace HC := Lib.hid (HC.out.push hb)
  clear hb
  rw [decide_eq_true (rfl : showG k l = showG k l)]
  go_wp2_with fail
  refine (kn_numC 0 _).mono ?_
  rintro e w17 ⟨rfl, hb⟩
  replace HC := Lib.hid (HC.out.push hb)
  clear hb
  go_wp2_with fail
  refine (known_09 _ (G.out.below (BW13.out.trans ((HC.out.to w13 (by simp)).mono BW13.out.size)))).mono ?_
  rintro e w18 ⟨rfl, hb⟩
  replace HC := Lib.hid (HC.out.push hb)
  clear hb
  have BF := Lib.hid (BW13.out.trans ((HC.out.to w13 (by simp)).mono BW13.out.size))
  go_wp2_with fail
  go_ret
  exact ⟨rfl, BF.out⟩
end Go.Proofs.YtjlliohjeiclaaaGreatDoor
namespace Go.Proofs.YtjlliohjeiclaaaGreatDoor
namespace Kn
open St Pm
structure Opv where
 p : List ByteArray
 k : Int
 x : ByteArray
 d : Int
 m : Int
 t : ByteArray
def Opv.ce (o : Opv) : Int := checkK o.p o.k o.x o.d o.m o.t
structure Vl where
 k : Int
 m : Int
 l : List Ev
def Vl.ok (v : Vl) : Bool := valG v.k v.m v.l
def Agree (A B : List Ev) : Prop := ∀ x ∈ A, ∀ y ∈ B, x.1 = y.1 → x = y
theorem Agree.symm {A B : List Ev} (h : Agree A B) : Agree B A := fun x hx y hy e => (h y hy x hx e.symm).symm
end Kn
end Go.Proofs.YtjlliohjeiclaaaGreatDoor
namespace Go.Proofs.YtjlliohjeiclaaaGreatDoor
open Go.RowKit St Pm Ku Kn
namespace Kn
structure Opc where
 o : Opv
 a : Option Addr
 n : Nat
 c : Nat
def opV (q : Opc) : List Value := [.slice q.a q.n q.c, .int .i64 q.o.k, .string q.o.x, .int .i64 q.o.d, .int .i64 q.o.m, .string q.o.t]
structure OpAt (w : World) (q : Opc) : Prop where
 p : CellsAt w q.a (txV q.o.p)
 n : q.n = q.o.p.length
 z : ∀ x ∈ q.o.p, x.size ≤ 9223372036854775807
 x : q.o.x.size ≤ 9223372036854775807
theorem OpAt.below {B : Nat} {w w' : World} {q : Opc} (h : OpAt w q) (hb : Below B w w') (hB : w.heap.size = B) : OpAt w' q := ⟨h.p.below hb hB.symm, h.n, h.z, h.x⟩
instance : Inhabited Opc := ⟨⟨⟨[], 0, ⟨#[]⟩, 0, 0, ⟨#[]⟩⟩, none, 0, 0⟩⟩
end Kn
end Go.Proofs.YtjlliohjeiclaaaGreatDoor
namespace Go.Proofs.YtjlliohjeiclaaaGreatDoor
open Go.ChangeShapes Go.WideShapes Go.ChangeAt Go.RowKit Go.Deep
section
variable {H : Type} {enc : TypeId × Value → H} {P : Program} {w : World} {base : Nat} {held : Bool}
theorem spot_none {a : Addr} {v : Value} (h : w.cell? (a.add 0) = some v) : ∃ b off, a = ⟨b, off, none⟩ := by
 obtain ⟨b, off, spot⟩ := a
 have hs : spot = none := by simpa [Addr.add] using World.cell?_spot h
 subst hs
 exact ⟨b, off, rfl⟩
theorem open_strings_cells {t e : TypeId} {fuel : Nat} {a0 : Option Addr} {len cap : Nat} {x : DataW H × List MemPlace} (ht : P.underlying t = some (.slice e)) (he : P.underlying e = some .string)
 (ce : P.cellsOf e = 1) (h : DataW.trod enc P w base (fun _ => true) held fuel t (Value.slice a0 len cap).cells.toList = some x) :
 ∃ l : List ByteArray, len = l.length ∧ CellsAt w a0 (l.map Value.string) ∧ l.length ≤ maxLen ∧ len ≤ cap ∧ ∀ s ∈ l, s.size ≤ maxLen := by
 rcases open_strings ht he ce h with ⟨hcs, _⟩ | ⟨a, l, c, zs, hcs, _, hl, hm, hz, hx, hcell, hwz⟩
 · simp [Value.cells] at hcs
   obtain ⟨rfl, rfl, rfl⟩ := hcs
   exact ⟨[], rfl, CellsAt.nil _ _, Nat.zero_le _, Nat.le_refl _, fun n hn => by simp at hn⟩
 · have hz' : zs.length = c := by simpa using hz
   simp [Value.cells] at hcs
   obtain ⟨rfl, rfl, rfl⟩ := hcs
   refine ⟨zs.take len, by simp; omega, fun i hi => ?_, by simp; omega, hl, fun n hn => hwz n (List.mem_of_mem_take hn)⟩
   have hi' : i < len ∧ i < zs.length := by simp at hi; omega
   obtain ⟨b, off, rfl⟩ := spot_none (hcell 0 (by omega))
   refine ⟨b, off, rfl, ?_⟩
   have h0 := hcell i (by omega)
   rw [Addr_add] at h0
   rw [h0]
   simp [hi'.2]
end
end Go.Proofs.YtjlliohjeiclaaaGreatDoor
namespace Go.Proofs.YtjlliohjeiclaaaGreatDoor
open Go.ChangeShapes Go.WideShapes Go.ChangeAt Go.RowKit Go.Deep St Ku
section
variable {H : Type} {enc : TypeId × Value → H} {w : World} {base : Nat} {held : Bool}
theorem maxLen_small {n : Nat} (h : n ≤ maxLen) : n ≤ 9223372036854775807 := by unfold maxLen at h; omega
end
theorem laid_eq1 : (Rows.laid_unicode_utf8_acceptRanges : DataW Unit) = Lib.acceptData := by kernel_rfl
theorem laid_eq2 : Rows.laid_unicode_utf8_first = Lib.firstData := by kernel_rfl
theorem glob_of {W : World} (hL : laidMetH Tryz.prog [("unicode/utf8.acceptRanges", Rows.laid_unicode_utf8_acceptRanges), ("unicode/utf8.first", Rows.laid_unicode_utf8_first)] W) (hS : W.ShapedOpen Tryz.prog) : Glob W := by
 refine ⟨utf8Tabs_of_readsT (U8Types.of196 lay196) ⟨by kernel_rfl, by kernel_rfl, by kernel_rfl, by kernel_rfl, by kernel_rfl, by kernel_rfl, by kernel_rfl⟩ ?_ ?_, ?_⟩
 · rw [← laid_eq2]; exact Lib.laidMet.reads hL (.tail _ (.head _))
 · rw [← laid_eq1]; exact Lib.laidMet.reads hL (.head _)
 · exact cell_of_shapedOpen_int (P := Tryz.prog) (g := 2) (t := 3) (zero := #[.int .i64 0]) hS (of_decide_eq_true (by kernel_rfl)) (by kernel_rfl) rfl (by kernel_rfl) (by kernel_rfl) Tryz.underlying3
noncomputable def laidWorld (os : Os) : World :=
 let w0 := World.holding Tryz.prog os ⟨#[], #[], []⟩
 let put (h : Array Obj) (g : Nat) (cs : Array Value) : Array Obj := h.modify g fun
  | .cells _ t frozen => .cells cs t frozen
  | o => o
 let h1 := put w0.heap 0 (Lib.firstTab.map fun z => Value.int .u8 z).toArray
 let h2 := put h1 1 ((List.range 16).flatMap fun i => [Value.int .u8 (Lib.accLo i), Value.int .u8 (Lib.accHi i)]).toArray
 { w0 with heap := h2 }
theorem laid_met (os : Os) (args : Array Value) : laidMet Tryz.prog [("unicode/utf8.acceptRanges", Rows.laid_unicode_utf8_acceptRanges), ("unicode/utf8.first", Rows.laid_unicode_utf8_first)] ((laidWorld os).forCall (fun _ _ => 0) ⟨#[], args, []⟩).memory :=
 (LaidIn.of_run (l := [("unicode/utf8.acceptRanges", Rows.laid_unicode_utf8_acceptRanges), ("unicode/utf8.first", Rows.laid_unicode_utf8_first)]) [1, 0] 8 (by kernel_rfl) (by kernel_rfl) (by kernel_rfl) (by kernel_rfl)).met
end Go.Proofs.YtjlliohjeiclaaaGreatDoor
namespace Go.Proofs.YtjlliohjeiclaaaGreatDoor
open Go.ChangeShapes Go.WideShapes Go.ChangeAt Go.RowKit Go.Deep
section
variable {H : Type} {enc : TypeId × Value → H} {w : World} {base : Nat} {held : Bool}
theorem flat_get {α : Type} (f : α → List Value) (m : Nat) (hf : ∀ x, (f x).length = m) (hm : 0 < m) : ∀ (l : List α) (i r : Nat) (hi : i < l.length), r < m → (l.flatMap f)[i * m + r]? = (f l[i])[r]?
 | [], i, r, hi, _ => by simp at hi
 | x :: l, 0, r, _, hr => by
  rw [List.flatMap_cons, Nat.zero_mul, Nat.zero_add, List.getElem?_append_left (by rw [hf]; exact hr)]
  rfl
 | x :: l, i + 1, r, hi, hr => by
  rw [List.flatMap_cons, List.getElem?_append_right (by rw [hf, Nat.succ_mul]; omega), hf, Nat.succ_mul]
  rw [show i * m + m + r - m = i * m + r by omega, flat_get f m hf hm l i r (by simpa using hi) hr]
  rfl
theorem flat_len {α : Type} (f : α → List Value) (m : Nat) (hf : ∀ x, (f x).length = m) : ∀ (l : List α), (l.flatMap f).length = l.length * m
 | [] => by simp
 | x :: l => by rw [List.flatMap_cons, List.length_append, hf, flat_len f m hf l, List.length_cons, Nat.succ_mul]; omega
theorem open_structs {α : Type} [Inhabited α] (f : α → List Value) (m : Nat) (hf : ∀ x, (f x).length = m) (hm : 0 < m) (G : α → Prop) {t e : TypeId} {fuel : Nat} {a0 : Option Addr} {len cap : Nat} {x : DataW H × List MemPlace} (ht : Tryz.prog.underlying t = some (.slice e)) (ce : Tryz.prog.cellsOf e = m)
 (each : ∀ {fuel : Nat} {cs : List Value} {x : DataW H × List MemPlace}, DataW.trod enc Tryz.prog w base (fun _ => true) held fuel e cs = some x → ∃ y : α, cs = f y ∧ G y)
 (h : DataW.trod enc Tryz.prog w base (fun _ => true) held fuel t (Value.slice a0 len cap).cells.toList = some x) :
 ∃ l : List α, len = l.length ∧ CellsAt w a0 (l.flatMap f) ∧ l.length ≤ maxLen ∧ ∀ y ∈ l, G y := by
 rcases open_slice ht h with ⟨hcs, _⟩ | ⟨a, l, c, k, n, D, Pl, hcs, _, hl, hmx, hmm, hx, hi⟩
 · simp [Value.cells] at hcs
   obtain ⟨rfl, rfl, rfl⟩ := hcs
   exact ⟨[], rfl, CellsAt.nil _ _, Nat.zero_le _, fun y hy => by cases hy⟩
 · simp [Value.cells] at hcs
   obtain ⟨rfl, rfl, rfl⟩ := hcs
   simp only [if_true] at hmm
   subst hmm
   have each2 : ∀ i, i < k → ∃ y : α, (∀ r, r < m → w.cell? ((a.add (i * m)).add r) = (f y)[r]?) ∧ G y := by
    intro i hik
    obtain ⟨cs', hc, htr⟩ := hi i hik
    rw [ce] at hc
    obtain ⟨y, rfl, hg⟩ := each htr
    obtain ⟨_, hcl, hat⟩ := World.cells?_some hc
    refine ⟨y, fun r hr => ?_, hg⟩
    have := hat r hr
    rw [this]
    try rw [List.getElem?_eq_getElem]
    done
   obtain ⟨F, hF⟩ := choose_lt (α := α) (n := k) (p := fun i y => (∀ r, r < m → w.cell? ((a.add (i * m)).add r) = (f y)[r]?) ∧ G y) each2
   refine ⟨(List.range len).map F, by simp, fun q hq => ?_, by simp; omega, fun y hy => ?_⟩
   · have hlenF : (((List.range len).map F).flatMap f).length = len * m := by rw [flat_len f m hf]; simp
     have hq2 : q < len * m := by rw [← hlenF]; exact hq
     have hqm : q / m < len := Nat.div_lt_of_lt_mul (by rw [Nat.mul_comm]; exact hq2)
     have hp : 0 < k := Nat.lt_of_le_of_lt (Nat.zero_le _) (Nat.lt_of_lt_of_le hqm hl)
     have z0 := (hF 0 hp).1 0 hm
     rw [List.getElem?_eq_getElem (by rw [hf]; exact hm), Nat.zero_mul] at z0
     obtain ⟨b, off, rfl⟩ := spot_none (a := a) z0
     refine ⟨b, off, rfl, ?_⟩
     have hr : q % m < m := Nat.mod_lt _ hm
     have hk := (hF (q / m) (Nat.lt_of_lt_of_le hqm hl)).1 (q % m) hr
     have hg := flat_get f m hf hm ((List.range len).map F) (q / m) (q % m) (by simpa using hqm) hr
     simp only [List.getElem_map, List.getElem_range] at hg
     have hqe : q / m * m + q % m = q := by rw [Nat.mul_comm]; exact Nat.div_add_mod q m
     rw [hqe] at hg
     rw [Addr_add, Addr_add, Nat.add_assoc, hqe] at hk
     rw [hk, ← hg, List.getElem?_eq_getElem hq]
   · obtain ⟨i, hi', rfl⟩ := List.mem_map.1 hy
     exact (hF i (by have := List.mem_range.1 hi'; omega)).2
end
end Go.Proofs.YtjlliohjeiclaaaGreatDoor
namespace Go.Proofs.YtjlliohjeiclaaaGreatDoor
open Go.ChangeShapes Go.WideShapes Go.ChangeAt Go.RowKit Go.Deep St
section
variable {H : Type} {enc : TypeId × Value → H} {w : World} {base : Nat} {held : Bool}
theorem bulk_part {d : DataW H} {l : List (DataW H)} (h : d ∈ l) : Rows.uptoBulk d ≤ Rows.uptoBulkAll l := by
 induction l with
 | nil => cases h
 | cons x r ih =>
  simp only [Rows.uptoBulkAll]
  cases List.mem_cons.1 h with
  | inl e => subst e; omega
  | inr e => have := ih e; omega
theorem bulk_one (d : DataW H) : 1 ≤ Rows.uptoBulk d := by
 cases d with
 | lit l => cases l <;> simp [Rows.uptoBulk]
 | nil => simp [Rows.uptoBulk]
 | ptr d => simp [Rows.uptoBulk]
 | slice elems spare => simp [Rows.uptoBulk]
 | agg parts => simp [Rows.uptoBulk]
 | iface t d => simp [Rows.uptoBulk]
 | map entries => simp [Rows.uptoBulk]
 | held h => simp [Rows.uptoBulk]
theorem bulk_len (l : List (DataW H)) : l.length ≤ Rows.uptoBulkAll l := by
 induction l with
 | nil => simp [Rows.uptoBulkAll]
 | cons x r ih => have := bulk_one x; simp only [Rows.uptoBulkAll, List.length_cons]; omega
set_option maxRecDepth 100000 in
theorem open_br {fuel : Nat} {cs : List Value} {x : DataW H × List MemPlace} (h : DataW.trod enc Tryz.prog w base (fun _ => true) held fuel 39 cs = some x) :
 ∃ (r : Int) (l : ByteArray), cs = [.int .i64 r, .string l] ∧ l.size ≤ maxLen := by
 obtain ⟨xs, n, _, _, hlen, hz, hff⟩ := DataW.trod_struct Tryz.underlying39 h
 rw [show Tryz.prog.cellsOf 39 = 2 by kernel_rfl] at hlen
 match cs, hlen with
 | [v0, v1], _ =>
  have q0 := hff 0 _ rfl
  have q1 := hff 1 _ rfl
  rw [List.getElem?_eq_getElem (by rw [hz]; decide)] at q0 q1
  change DataW.trod enc _ w base _ held n 3 (List.take (Tryz.prog.cellsOf 3) [v0, v1]) = _ at q0
  change DataW.trod enc _ w base _ held n 9 (List.take (Tryz.prog.cellsOf 9) [v1]) = _ at q1
  rw [show Tryz.prog.cellsOf 3 = 1 by kernel_rfl] at q0
  rw [show Tryz.prog.cellsOf 9 = 1 by kernel_rfl] at q1
  obtain ⟨r, k0, _⟩ := DataW.trod_int Tryz.underlying3 q0
  obtain ⟨l, k1, _, k2⟩ := DataW.trod_string Tryz.underlying9 q1
  simp only [List.take, List.cons.injEq, and_true] at k0 k1
  subst k0 k1
  exact ⟨r, l, rfl, k2⟩
set_option maxRecDepth 100000 in
theorem open_nm {fuel : Nat} {cs : List Value} {x : DataW H × List MemPlace} (h : DataW.trod enc Tryz.prog w base (fun _ => true) held fuel 41 cs = some x) :
 ∃ (r : Int) (l : ByteArray) (k : Int), cs = [.int .i64 r, .string l, .int .i64 k] ∧ l.size ≤ maxLen := by
 obtain ⟨xs, n, _, _, hlen, hz, hff⟩ := DataW.trod_struct Tryz.underlying41 h
 rw [show Tryz.prog.cellsOf 41 = 3 by kernel_rfl] at hlen
 match cs, hlen with
 | [v0, v1, v2], _ =>
  have q0 := hff 0 _ rfl
  have q1 := hff 1 _ rfl
  rw [List.getElem?_eq_getElem (by rw [hz]; decide)] at q0 q1
  change DataW.trod enc _ w base _ held n 39 (List.take (Tryz.prog.cellsOf 39) [v0, v1, v2]) = _ at q0
  change DataW.trod enc _ w base _ held n 2 (List.take (Tryz.prog.cellsOf 2) [v2]) = _ at q1
  rw [show Tryz.prog.cellsOf 39 = 2 by kernel_rfl] at q0
  rw [show Tryz.prog.cellsOf 2 = 1 by kernel_rfl] at q1
  obtain ⟨r, l, k0, kl⟩ := open_br q0
  obtain ⟨k, k1, _⟩ := DataW.trod_int Tryz.underlying2 q1
  simp only [List.take, List.cons.injEq, and_true] at k0 k1
  obtain ⟨k0, k0'⟩ := k0
  subst k0 k0' k1
  exact ⟨r, l, k, rfl, kl⟩
set_option maxRecDepth 100000 in
theorem open_sv {fuel : Nat} {cs : List Value} {x : DataW H × List MemPlace} (h : DataW.trod enc Tryz.prog w base (fun _ => true) held fuel 43 cs = some x) :
 ∃ s : Sv, cs = [.int .i64 s.g, .int .i64 s.r, .string s.l, .int .i64 s.n, .int .i64 s.i] ∧ s.l.size ≤ maxLen := by
 obtain ⟨xs, n, _, _, hlen, hz, hff⟩ := DataW.trod_struct Tryz.underlying43 h
 rw [show Tryz.prog.cellsOf 43 = 5 by kernel_rfl] at hlen
 match cs, hlen with
 | [v0, v1, v2, v3, v4], _ =>
  have q0 := hff 0 _ rfl
  have q1 := hff 1 _ rfl
  have q2 := hff 2 _ rfl
  rw [List.getElem?_eq_getElem (by rw [hz]; decide)] at q0 q1 q2
  change DataW.trod enc _ w base _ held n 2 (List.take (Tryz.prog.cellsOf 2) [v0, v1, v2, v3, v4]) = _ at q0
  change DataW.trod enc _ w base _ held n 41 (List.take (Tryz.prog.cellsOf 41) [v1, v2, v3, v4]) = _ at q1
  change DataW.trod enc _ w base _ held n 3 (List.take (Tryz.prog.cellsOf 3) [v4]) = _ at q2
  rw [show Tryz.prog.cellsOf 2 = 1 by kernel_rfl] at q0
  rw [show Tryz.prog.cellsOf 41 = 3 by kernel_rfl] at q1
  rw [show Tryz.prog.cellsOf 3 = 1 by kernel_rfl] at q2
  obtain ⟨g, k0, _⟩ := DataW.trod_int Tryz.underlying2 q0
  obtain ⟨r, l, k, k1, kl⟩ := open_nm q1
  obtain ⟨i, k2, _⟩ := DataW.trod_int Tryz.underlying3 q2
  simp only [List.take, List.cons.injEq, and_true] at k0 k1 k2
  obtain ⟨e1, e2, e3⟩ := k1
  subst k0 e1 e2 e3 k2
  exact ⟨⟨g, r, l, k, i⟩, rfl, kl⟩
set_option maxRecDepth 100000 in
theorem open_ev {fuel : Nat} {cs : List Value} {x : DataW H × List MemPlace} (h : DataW.trod enc Tryz.prog w base (fun _ => true) held fuel 53 cs = some x) :
 ∃ e : Ev, cs = elV e ∧ e.1.l.size ≤ maxLen ∧ e.2.size ≤ maxLen := by
 obtain ⟨xs, n, _, _, hlen, hz, hff⟩ := DataW.trod_struct Tryz.underlying53 h
 rw [show Tryz.prog.cellsOf 53 = 6 by kernel_rfl] at hlen
 match cs, hlen with
 | [v0, v1, v2, v3, v4, v5], _ =>
  have q0 := hff 0 _ rfl
  have q1 := hff 1 _ rfl
  rw [List.getElem?_eq_getElem (by rw [hz]; decide)] at q0 q1
  change DataW.trod enc _ w base _ held n 43 (List.take (Tryz.prog.cellsOf 43) [v0, v1, v2, v3, v4, v5]) = _ at q0
  change DataW.trod enc _ w base _ held n 9 (List.take (Tryz.prog.cellsOf 9) [v5]) = _ at q1
  rw [show Tryz.prog.cellsOf 43 = 5 by kernel_rfl] at q0
  rw [show Tryz.prog.cellsOf 9 = 1 by kernel_rfl] at q1
  obtain ⟨s, k0, kl⟩ := open_sv q0
  obtain ⟨t, k1, _, kt⟩ := DataW.trod_string Tryz.underlying9 q1
  simp only [List.take, List.cons.injEq, and_true] at k0 k1
  obtain ⟨e1, e2, e3, e4, e5⟩ := k0
  subst e1 e2 e3 e4 e5 k1
  exact ⟨(s, t), rfl, kl, kt⟩
instance instEvV : Inhabited Ev := ⟨(⟨0, 0, ⟨#[]⟩, 0, 0⟩, ⟨#[]⟩)⟩
theorem open_elsV {fuel : Nat} {a0 : Option Addr} {len cap : Nat} {x : DataW H × List MemPlace} (h : DataW.trod enc Tryz.prog w base (fun _ => true) held fuel 22 (Value.slice a0 len cap).cells.toList = some x) :
 ∃ l : List Ev, len = l.length ∧ CellsAt w a0 (elsV l) ∧ l.length ≤ maxLen ∧ ∀ e ∈ l, e.1.l.size ≤ 9223372036854775807 :=
 open_structs (α := Ev) elV 6 (fun _ => rfl) (by omega) (fun e => e.1.l.size ≤ 9223372036854775807) Tryz.underlying22 (by kernel_rfl) (fun h => by obtain ⟨e, h1, h2, _⟩ := open_ev h; exact ⟨e, h1, maxLen_small h2⟩) h
set_option maxRecDepth 100000 in
theorem open_val {fuel : Nat} {cs : List Value} {x : DataW H × List MemPlace} (h : DataW.trod enc Tryz.prog w base (fun _ => true) held fuel 79 cs = some x) :
 ∃ (k m : Int) (l : List Ev) (a : Option Addr) (n c : Nat), cs = [.int .i64 k, .int .i64 m, .slice a n c] ∧ CellsAt w a (elsV l) ∧ n = l.length ∧ (∀ e ∈ l, e.1.l.size ≤ 9223372036854775807) ∧ n ≤ Rows.uptoBulk x.1 := by
 obtain ⟨xs, f, _, rfl, hlen, hz, hff⟩ := DataW.trod_struct Tryz.underlying79 h
 rw [show Tryz.prog.cellsOf 79 = 3 by kernel_rfl] at hlen
 match cs, hlen with
 | [v0, v1, v2], _ =>
  have q0 := hff 0 _ rfl
  have q1 := hff 1 _ rfl
  have q2 := hff 2 _ rfl
  have hz2 : 2 < xs.length := by rw [hz]; decide
  rw [List.getElem?_eq_getElem (by rw [hz]; decide)] at q0 q1
  rw [List.getElem?_eq_getElem hz2] at q2
  change DataW.trod enc _ w base _ held f 77 (List.take (Tryz.prog.cellsOf 77) [v0, v1, v2]) = _ at q0
  change DataW.trod enc _ w base _ held f 2 (List.take (Tryz.prog.cellsOf 2) [v1, v2]) = _ at q1
  change DataW.trod enc _ w base _ held f 22 (List.take (Tryz.prog.cellsOf 22) [v2]) = _ at q2
  rw [show Tryz.prog.cellsOf 77 = 1 by kernel_rfl] at q0
  rw [show Tryz.prog.cellsOf 2 = 1 by kernel_rfl] at q1
  rw [show Tryz.prog.cellsOf 22 = 1 by kernel_rfl] at q2
  obtain ⟨k, k0, _⟩ := DataW.trod_int Tryz.underlying77 q0
  obtain ⟨m, k1, _⟩ := DataW.trod_int Tryz.underlying2 q1
  simp only [List.take, List.cons.injEq, and_true] at k0 k1
  subst k0 k1
  simp only [List.take] at q2
  have hmem : xs[2].1 ∈ xs.map (·.1) := List.mem_map.2 ⟨xs[2], List.getElem_mem hz2, rfl⟩
  have hle := bulk_part hmem
  obtain ⟨a, n, c, rfl, hn⟩ : ∃ a n c, v2 = .slice a n c ∧ n ≤ Rows.uptoBulk xs[2].1 := by
   rcases open_slice Tryz.underlying22 q2 with ⟨hcs, _⟩ | ⟨a, l, c, kk, ff, D, Pl, hcs, _, _, _, _, hx, _⟩
   · simp only [List.cons.injEq, and_true] at hcs; exact ⟨_, _, _, hcs, Nat.zero_le _⟩
   · simp only [List.cons.injEq, and_true] at hcs
     refine ⟨_, _, _, hcs, ?_⟩
     rw [hx]
     have h1 := bulk_len ((List.range l).map D)
     simp only [Rows.uptoBulk]
     simp only [List.length_map, List.length_range] at h1
     omega
  obtain ⟨l, h1, h2, _, h4⟩ := open_elsV (a0 := a) (len := n) (cap := c) q2
  exact ⟨k, m, l, a, n, c, rfl, h2, h1, h4, by simp only [Rows.uptoBulk]; omega⟩
set_option maxRecDepth 100000 in
end
end Go.Proofs.YtjlliohjeiclaaaGreatDoor
namespace Go.Proofs.YtjlliohjeiclaaaGreatDoor
open Go.ChangeShapes Go.WideShapes Go.ChangeAt Go.RowKit Go.Deep St Ku Kn
section
variable {H : Type} {enc : TypeId × Value → H} {w : World} {base : Nat} {held : Bool}
set_option maxRecDepth 100000 in
theorem open_op {fuel : Nat} {cs : List Value} {x : DataW H × List MemPlace} (h : DataW.trod enc Tryz.prog w base (fun _ => true) held fuel 82 cs = some x) :
 ∃ q : Opc, cs = opV q ∧ OpAt w q ∧ q.n ≤ 9223372036854775807 := by
 obtain ⟨xs, n, _, _, hlen, hz, hff⟩ := DataW.trod_struct Tryz.underlying82 h
 rw [show Tryz.prog.cellsOf 82 = 6 by kernel_rfl] at hlen
 match cs, hlen with
 | [v0, v1, v2, v3, v4, v5], _ =>
  have q0 := hff 0 _ rfl
  have q1 := hff 1 _ rfl
  have q2 := hff 2 _ rfl
  have q3 := hff 3 _ rfl
  have q4 := hff 4 _ rfl
  have q5 := hff 5 _ rfl
  rw [List.getElem?_eq_getElem (by rw [hz]; decide)] at q0 q1 q2 q3 q4 q5
  change DataW.trod enc _ w base _ held n 63 (List.take (Tryz.prog.cellsOf 63) [v0, v1, v2, v3, v4, v5]) = _ at q0
  change DataW.trod enc _ w base _ held n 77 (List.take (Tryz.prog.cellsOf 77) [v1, v2, v3, v4, v5]) = _ at q1
  change DataW.trod enc _ w base _ held n 9 (List.take (Tryz.prog.cellsOf 9) [v2, v3, v4, v5]) = _ at q2
  change DataW.trod enc _ w base _ held n 80 (List.take (Tryz.prog.cellsOf 80) [v3, v4, v5]) = _ at q3
  change DataW.trod enc _ w base _ held n 2 (List.take (Tryz.prog.cellsOf 2) [v4, v5]) = _ at q4
  change DataW.trod enc _ w base _ held n 9 (List.take (Tryz.prog.cellsOf 9) [v5]) = _ at q5
  rw [show Tryz.prog.cellsOf 63 = 1 by kernel_rfl] at q0
  rw [show Tryz.prog.cellsOf 77 = 1 by kernel_rfl] at q1
  rw [show Tryz.prog.cellsOf 9 = 1 by kernel_rfl] at q2 q5
  rw [show Tryz.prog.cellsOf 80 = 1 by kernel_rfl] at q3
  rw [show Tryz.prog.cellsOf 2 = 1 by kernel_rfl] at q4
  obtain ⟨k, k1, _⟩ := DataW.trod_int Tryz.underlying77 q1
  obtain ⟨l, k2, _, kl⟩ := DataW.trod_string Tryz.underlying9 q2
  obtain ⟨d, k3, _⟩ := DataW.trod_int Tryz.underlying80 q3
  obtain ⟨m, k4, _⟩ := DataW.trod_int Tryz.underlying2 q4
  obtain ⟨t, k5, _, kt⟩ := DataW.trod_string Tryz.underlying9 q5
  obtain ⟨a, j, c, k0⟩ : ∃ a m c, v0 = .slice a m c := by
   rcases open_strings Tryz.underlying63 Tryz.underlying9 (by kernel_rfl) q0 with ⟨hcs, _⟩ | ⟨a, m, c, zs, hcs, _⟩
   · simp only [List.take, List.cons.injEq, and_true] at hcs; exact ⟨_, _, _, hcs⟩
   · simp only [List.take, List.cons.injEq, and_true] at hcs; exact ⟨_, _, _, hcs⟩
  simp only [List.take, List.cons.injEq, and_true] at k1 k2 k3 k4 k5
  subst k0 k1 k2 k3 k4 k5
  obtain ⟨ll, hn, hc, hm, _, hs⟩ := open_strings_cells Tryz.underlying63 Tryz.underlying9 (by kernel_rfl) q0
  exact ⟨⟨⟨ll, k, l, d, m, t⟩, a, j, c⟩, rfl, ⟨hc, hn, fun x hx => maxLen_small (hs x hx), maxLen_small kl⟩, maxLen_small (by rw [show j = ll.length from hn]; exact hm)⟩
set_option maxRecDepth 100000 in
theorem open_opv {v : Value} {b : Nat} {r : Reach} {fuel : Nat} {x : DataW H × List MemPlace} (hok : Value.okWide Tryz.prog w r b 82 v)
 (h : DataW.trod enc Tryz.prog w base (fun _ => true) held fuel 82 v.cells.toList = some x) :
 ∃ q : Opc, v = .agg #[.slice q.a q.n q.c, .int .i64 q.o.k, .string q.o.x, .int .i64 q.o.d, .int .i64 q.o.m, .string q.o.t] ∧ OpAt w q ∧ q.n ≤ 9223372036854775807 := by
 obtain ⟨cs, rfl⟩ : ∃ cs, v = .agg cs := by
  simp only [Value.okWide, Tryz.underlying82] at hok
  obtain ⟨cs, h1, _⟩ := hok
  exact ⟨cs, h1⟩
 obtain ⟨q, e, hq⟩ := open_op h
 obtain ⟨l, rfl⟩ : ∃ l : List Value, cs = l.toArray := ⟨cs.toList, by simp⟩
 simp [Value.cells] at e
 exact ⟨q, by rw [e]; rfl, hq⟩
set_option maxRecDepth 100000 in
theorem open_valv {v : Value} {b : Nat} {r : Reach} {fuel : Nat} {x : DataW H × List MemPlace} (hok : Value.okWide Tryz.prog w r b 79 v)
 (h : DataW.trod enc Tryz.prog w base (fun _ => true) held fuel 79 v.cells.toList = some x) :
 ∃ (k m : Int) (l : List Ev) (a : Option Addr) (n c : Nat), v = .agg #[.int .i64 k, .int .i64 m, .slice a n c] ∧ CellsAt w a (elsV l) ∧ n = l.length ∧ (∀ e ∈ l, e.1.l.size ≤ 9223372036854775807) ∧ n ≤ Rows.uptoBulk x.1 := by
 obtain ⟨cs, rfl⟩ : ∃ cs, v = .agg cs := by
  simp only [Value.okWide, Tryz.underlying79] at hok
  obtain ⟨cs, h1, _⟩ := hok
  exact ⟨cs, h1⟩
 obtain ⟨k, m, l, a, n, c, e, h1, h2, h3, h4⟩ := open_val h
 obtain ⟨q, rfl⟩ : ∃ q : List Value, cs = q.toArray := ⟨cs.toList, by simp⟩
 simp [Value.cells] at e
 exact ⟨k, m, l, a, n, c, by rw [e], h1, h2, h3, h4⟩
set_option maxRecDepth 100000 in
theorem open_svv {v : Value} {b : Nat} {r : Reach} {fuel : Nat} {x : DataW H × List MemPlace} (hok : Value.okWide Tryz.prog w r b 43 v)
 (h : DataW.trod enc Tryz.prog w base (fun _ => true) held fuel 43 v.cells.toList = some x) :
 ∃ s : Sv, v = .agg #[.int .i64 s.g, .int .i64 s.r, .string s.l, .int .i64 s.n, .int .i64 s.i] ∧ s.l.size ≤ 9223372036854775807 := by
 obtain ⟨cs, rfl⟩ : ∃ cs, v = .agg cs := by
  simp only [Value.okWide, Tryz.underlying43] at hok
  obtain ⟨cs, h1, _⟩ := hok
  exact ⟨cs, h1⟩
 obtain ⟨s, e, h1⟩ := open_sv h
 obtain ⟨q, rfl⟩ : ∃ q : List Value, cs = q.toArray := ⟨cs.toList, by simp⟩
 simp [Value.cells] at e
 exact ⟨s, by rw [e], maxLen_small h1⟩
end
end Go.Proofs.YtjlliohjeiclaaaGreatDoor
