/- Words, contracts and walks that the proof stands on (KqC RelF). -/
import Derived.Test.YtjlliohjeiclaaaGreatDoorKA11
import Derived.Test.YtjlliohjeiclaaaGreatDoorKA12
import Derived.Test.YtjlliohjeiclaaaGreatDoorKA2
import Derived.Test.YtjlliohjeiclaaaGreatDoorKA9
namespace Go.Proofs.YtjlliohjeiclaaaGreatDoor
open Go.RowKit St Pm Ku Kn
namespace Kn
structure Vc where
 k : Int
 m : Int
 l : List Ev
 a : Option Addr
 n : Nat
 c : Nat
def vcV (q : Vc) : List Value := [.int .i64 q.k, .int .i64 q.m, .slice q.a q.n q.c]
theorem vcV_len (q : Vc) : (vcV q).length = 3 := rfl
theorem vcs_get : ∀ (l : List Vc) (i r : Nat) (hi : i < l.length), r < 3 → (l.flatMap vcV)[i * 3 + r]? = (vcV l[i])[r]?
 | [], i, r, hi, _ => by simp at hi
 | x :: l, 0, r, _, hr => by
  rw [List.flatMap_cons, Nat.zero_mul, Nat.zero_add, List.getElem?_append_left (by rw [vcV_len]; exact hr)]
  rfl
 | x :: l, i + 1, r, hi, hr => by
  rw [List.flatMap_cons, List.getElem?_append_right (by rw [vcV_len, Nat.succ_mul]; omega), vcV_len, Nat.succ_mul]
  rw [show i * 3 + 3 + r - 3 = i * 3 + r by omega, vcs_get l i r (by simpa using hi) hr]
  rfl
def sumV (ls : List Vc) (i : Nat) : Nat := ((ls.take i).map (·.n)).sum
theorem sumV_succ (ls : List Vc) (i : Nat) (h : i < ls.length) : sumV ls (i + 1) = sumV ls i + ls[i].n := by
 unfold sumV
 rw [List.take_succ_eq_append_getElem h, List.map_append, List.sum_append]
 simp
theorem sumV_le (ls : List Vc) (i : Nat) : sumV ls i ≤ (ls.map (·.n)).sum := by
 unfold sumV
 conv => rhs; rw [← List.take_append_drop i ls, List.map_append, List.sum_append]
 omega
end Kn
open Kn
set_option maxRecDepth 100000 in
set_option maxHeartbeats 2000000 in
theorem kr_much (ls : List Vc) (a : Option Addr) (n c : Nat) (w : World) (hl : CellsAt w a (ls.flatMap vcV)) (hn : n = ls.length) (hb : n ≤ 1000) (hs : (ls.map (·.n)).sum ≤ 4611686018427387904) :
 Calls Tryz.prog 31 #[.slice a n c] w fun e w' => e = .returned (.bool (decide (400 < (ls.map (·.n)).sum))) ∧ Below w.heap.size w w' := by
 have HL := Lib.hid hl
 have HN := Lib.hid hn
 obtain ⟨S, hS⟩ : ∃ S, (ls.map (·.n)).sum = S := ⟨_, rfl⟩
 have SE : Hid (sumV ls n = S) := Lib.hid (by rw [← hS, HN.out]; unfold sumV; rw [List.take_length])
 have SS : Hid (∀ i (h : i < ls.length), sumV ls (i + 1) = sumV ls i + ls[i].n ∧ sumV ls (i + 1) ≤ S) := Lib.hid (fun i h => ⟨sumV_succ ls i h, by rw [← hS]; exact sumV_le _ _⟩)
 have S0 : Hid (sumV ls 0 = 0) := Lib.hid rfl
 rw [hS] at hs ⊢
 clear hl hn hS
 generalize sumV ls = F at *
 go_enter Tryz.func31, Tryz.ntmps31
 go_wp2_with fail
 go_loopw [3, 4] (fun u3 u4 wr => ∃ i : Nat, u4 = .int .i64 (i : Int) ∧ i ≤ n ∧ u3 = .int .i64 ((F i : Nat) : Int) ∧ Hid (Below w.heap.size w wr)) (fun _ u4 _ => n - (intOf u4).toNat)
 case atStart => exact ⟨0, rfl, Nat.zero_le _, by rw [S0.out]; rfl, Lib.hid (Below.refl _ _)⟩
 case round =>
  obtain ⟨i, rfl, hi, rfl, HB⟩ := hrel
  by_cases hlt : i < n
  · have hli : (i : Int) < (n : Int) := by omega
    have hil : i < ls.length := by have := HN.out; omega
    obtain ⟨b, o, ha, p2⟩ := (HL.out.below HB.out rfl).get (i * 3 + 2) (.slice ls[i].a ls[i].n ls[i].c) (by rw [vcs_get ls i 2 hil (by omega)]; rfl)
    subst ha
    rw [← Nat.add_assoc] at p2
    have h1 := (SS.out i hil).1
    have h2 := (SS.out i hil).2
    obtain ⟨q, hq⟩ : ∃ q, ls[i] = q := ⟨_, rfl⟩
    rw [hq] at p2 h1
    clear hq
    have F1 := Lib.hid h1
    have hwr : IntKind.i64.wrap (((F i : Nat) : Int) + (q.n : Int)) = ((F (i + 1) : Nat) : Int) := by rw [IntKind.wrap_i64]; omega
    clear h1 h2
    go_wp2_with fail
    go_roundw
    case rel => exact ⟨i + 1, by go_num, by omega, rfl, HB⟩
    case measure => simp [intOf]; omega
  · obtain rfl : i = n := by omega
    have hli : ¬ (i : Int) < (i : Int) := by omega
    have hF := SE.out
    obtain ⟨X, hX⟩ : ∃ X, F i = X := ⟨_, rfl⟩
    rw [hX] at hF ⊢
    subst hF
    clear hX
    have hd : decide ((400 : Int) < (X : Int)) = decide (400 < X) := by by_cases h : 400 < X <;> simp [h] <;> omega
    go_wp2_with fail
    go_ret
    exact ⟨by first | rfl | rw [hd] | (simp; omega), HB.out⟩
theorem kr_ElementsV (lb la l2 : List Ev) (a1 a2 a3 : Option Addr) (n1 n2 n3 c1 c2 c3 : Nat) (w : World) (rb : Right lb) (ra : Right la) (r2 : Right l2) (h1 : CellsAt w a1 (elsV lb)) (h2 : CellsAt w a2 (elsV la)) (h3 : CellsAt w a3 (elsV l2)) (hn1 : n1 = lb.length) (hn2 : n2 = la.length) (hn3 : n3 = l2.length) (b1 : n1 ≤ 100000) (b2 : n2 ≤ 100000) (b3 : n3 ≤ 100000) :
 Calls Tryz.prog 93 #[.slice a1 n1 c1, .slice a2 n2 c2, .slice a3 n3 c3] w fun e w' => ∃ (a : Option Addr) (n c : Nat), e = .returned (.slice a n c) ∧ CellsAt w' a (elsV (threeG lb la l2)) ∧ n = (threeG lb la l2).length ∧ n ≤ c ∧ (∀ ad, a = some ad → w.heap.size ≤ ad.block) ∧ Below w.heap.size w w' := by
 have ok : ∀ {l : List Ev}, Right l → ∀ z ∈ l.map toE, z.1.ok = true := fun h z hz => by
  obtain ⟨y, hy, rfl⟩ := List.mem_map.1 hz
  exact (Sv.ok_st (h.ok hy)).1
 refine (ref9_Elements (lb.map toE) (la.map toE) (l2.map toE) a1 a2 a3 n1 n2 n3 c1 c2 c3 w (by rw [map_toV rb.1]; exact h1) (by rw [map_toV ra.1]; exact h2) (by rw [map_toV r2.1]; exact h3) (by simpa using hn1) (by simpa using hn2) (by simpa using hn3) b1 b2 b3 (ok rb) (ok ra) (ok r2) ra.srt r2.srt).mono ?_
 rintro e w' ⟨v, rfl, ho, hb⟩
 have hlen : (elsF (lb.map toE) (la.map toE) (l2.map toE) (la.map toE) (l2.map toE)).length = (threeG lb la l2).length := by unfold threeG; rw [List.length_map]
 have ho' : w'.ownsRow w.heap.size 53 6 v (threeG lb la l2).length (elsV (threeG lb la l2)) := by rw [← hlen]; exact ho
 rcases ho'.2 with ⟨rfl, h0⟩ | ⟨g, cap, cur, rfl, hg, _, hc, _⟩
 · have e0 : threeG lb la l2 = [] := List.length_eq_zero_iff.1 h0
   exact ⟨none, 0, 0, rfl, by rw [e0]; exact CellsAt.nil _ _, by rw [e0]; rfl, Nat.le_refl _, fun ad had => (by cases had), hb⟩
 · exact ⟨some ⟨g, 0, none⟩, _, cap, rfl, CellsAt.ownN ho', rfl, hc, fun ad had => by cases had; exact hg, hb⟩
set_option maxRecDepth 100000 in
set_option maxHeartbeats 8000000 in
theorem kr_Three (kb mb : Int) (lb : List Ev) (ab : Option Addr) (nb cb : Nat) (ka ma : Int) (la : List Ev) (aa : Option Addr) (na ca : Nat) (k2 m2 : Int) (l2 : List Ev) (a2 : Option Addr) (n2 c2 : Nat) (w : World)
 (hb1 : CellsAt w ab (elsV lb)) (ha1 : CellsAt w aa (elsV la)) (h21 : CellsAt w a2 (elsV l2)) (hnb : nb = lb.length) (hna : na = la.length) (hn2 : n2 = l2.length) (bb : nb ≤ 100000) (ba : na ≤ 100000) (b2 : n2 ≤ 100000)
 (zb : ∀ e ∈ lb, e.1.l.size ≤ 9223372036854775807) (za : ∀ e ∈ la, e.1.l.size ≤ 9223372036854775807) (z2 : ∀ e ∈ l2, e.1.l.size ≤ 9223372036854775807) :
 Calls Tryz.prog 46 #[.agg #[.int .i64 kb, .int .i64 mb, .slice ab nb cb], .agg #[.int .i64 ka, .int .i64 ma, .slice aa na ca], .agg #[.int .i64 k2, .int .i64 m2, .slice a2 n2 c2]] w fun e w' => ValOut w w' (threeO kb mb lb ka ma la k2 m2 l2) e := by
 have HLB := Lib.hid hb1
 have HLA := Lib.hid ha1
 have HL2 := Lib.hid h21
 have NB := Lib.hid hnb
 have NA := Lib.hid hna
 have N2 := Lib.hid hn2
 have ZB := Lib.hid zb
 have ZA := Lib.hid za
 have Z2 := Lib.hid z2
 obtain ⟨re, hre⟩ : ∃ r, threeO kb mb lb ka ma la k2 m2 l2 = r := ⟨_, rfl⟩
 rw [hre]
 have RE := Lib.hid hre
 clear hb1 ha1 h21 hnb hna hn2 zb za z2 hre
 have HC : Hid (Chain [w] w) := Lib.hid (Chain.one w)
 go_enter Tryz.func46, Tryz.ntmps46
 go_upto_region 1 with (fail)
 obtain ⟨z, hz⟩ : ∃ c, w.heap.size = c := ⟨_, rfl⟩
 try rw [hz]
 obtain ⟨w1, hw1⟩ : ∃ X, allocs w [.cells #[.int .i64 kb, .int .i64 mb, .slice ab nb cb] 79, .cells #[.int .i64 ka, .int .i64 ma, .slice aa na ca] 79, .cells #[.int .i64 k2, .int .i64 m2, .slice a2 n2 c2] 79, .cells #[.int .i64 0, .int .i64 0, .slice none 0 0] 79] = X := ⟨_, rfl⟩
 rw [show (((w.alloc (.cells #[.int .i64 kb, .int .i64 mb, .slice ab nb cb] 79)).alloc (.cells #[.int .i64 ka, .int .i64 ma, .slice aa na ca] 79)).alloc (.cells #[.int .i64 k2, .int .i64 m2, .slice a2 n2 c2] 79)).alloc (.cells #[.int .i64 0, .int .i64 0, .slice none 0 0] 79) = w1 from hw1]
 have hb : Below w.heap.size w w1 := by rw [← hw1]; exact allocs_below _ _
 have HB : Hid (w1.heap[z]? = some (.cells #[.int .i64 kb, .int .i64 mb, .slice ab nb cb] 79 (0, 0))) := Lib.hid (by have := allocs_get [.cells #[.int .i64 kb, .int .i64 mb, .slice ab nb cb] 79, .cells #[.int .i64 ka, .int .i64 ma, .slice aa na ca] 79, .cells #[.int .i64 k2, .int .i64 m2, .slice a2 n2 c2] 79, .cells #[.int .i64 0, .int .i64 0, .slice none 0 0] 79] w 0 _ rfl; rw [hw1, hz] at this; exact this)
 have HA : Hid (w1.heap[z + 1]? = some (.cells #[.int .i64 ka, .int .i64 ma, .slice aa na ca] 79 (0, 0))) := Lib.hid (by have := allocs_get [.cells #[.int .i64 kb, .int .i64 mb, .slice ab nb cb] 79, .cells #[.int .i64 ka, .int .i64 ma, .slice aa na ca] 79, .cells #[.int .i64 k2, .int .i64 m2, .slice a2 n2 c2] 79, .cells #[.int .i64 0, .int .i64 0, .slice none 0 0] 79] w 1 _ rfl; rw [hw1, hz] at this; exact this)
 have HD : Hid (w1.heap[z + 1 + 1]? = some (.cells #[.int .i64 k2, .int .i64 m2, .slice a2 n2 c2] 79 (0, 0))) := Lib.hid (by have := allocs_get [.cells #[.int .i64 kb, .int .i64 mb, .slice ab nb cb] 79, .cells #[.int .i64 ka, .int .i64 ma, .slice aa na ca] 79, .cells #[.int .i64 k2, .int .i64 m2, .slice a2 n2 c2] 79, .cells #[.int .i64 0, .int .i64 0, .slice none 0 0] 79] w 2 _ rfl; rw [hw1, hz] at this; exact this)
 have HR : Hid (w1.heap[z + 1 + 1 + 1]? = some (.cells #[.int .i64 0, .int .i64 0, .slice none 0 0] 79 (0, 0))) := Lib.hid (by have := allocs_get [.cells #[.int .i64 kb, .int .i64 mb, .slice ab nb cb] 79, .cells #[.int .i64 ka, .int .i64 ma, .slice aa na ca] 79, .cells #[.int .i64 k2, .int .i64 m2, .slice a2 n2 c2] 79, .cells #[.int .i64 0, .int .i64 0, .slice none 0 0] 79] w 3 _ rfl; rw [hw1, hz] at this; exact this)
 have Sz : Hid (w.heap.size = z) := Lib.hid hz
 replace HC := Lib.hid (HC.out.push hb)
 clear hb hw1 hz
 have VZ := Lib.hid vz_one
 have WZ : Hid (w.heap.size ≤ z + 1 + 1 + 1) := Lib.hid (by have := Sz.out; omega)
 have kB0 := cell_of_row _ _ 0 _ _ _ HB.out
 have kB1 := cell_of_row _ _ 1 _ _ _ HB.out
 have kB2 := cell_of_row _ _ 2 _ _ _ HB.out
 go_wp2_with fail
 refine (kr_Value kb mb lb ab nb cb _ (HLB.out.below (HC.out.to w (by simp)) rfl) NB.out (by omega) ZB.out).mono ?_
 rintro e w2 ⟨rfl, hb⟩
 clear kB0 kB1 kB2
 replace HC := Lib.hid (HC.out.push hb)
 clear hb
 obtain ⟨vb, hvb⟩ : ∃ b, valG kb mb lb = b := ⟨_, rfl⟩
 rw [hvb]
 have VB := Lib.hid hvb
 clear hvb
 cases vb
 case false =>
  have hres : re = (0, 0, [], 2) := by rw [← RE.out]; unfold threeO; rw [if_pos (.inl VB.out)]
  have HRX := Lib.hid (boxStays HR.out (HC.out.to w1 (by simp)))
  go_wp2_with (refine wpList_store_row rfl 79 (.tmp 6) (.tmp 35) rfl (z + 1 + 1 + 1) #[.int .i64 0, .int .i64 0, .slice none 0 0] rfl rfl 79 _ HRX.out (by kernel_rfl) rfl VZ.out ?_)
  have hx := setRow_heap _ _ _ #[.int .i64 0, .int .i64 0, .slice none 0 0] _ _ HRX.out
  have r0 := cell_of_row _ _ 0 _ _ _ hx
  have r1 := cell_of_row _ _ 1 _ _ _ hx
  have r2 := cell_of_row _ _ 2 _ _ _ hx
  refine bodyPost_ret (v := .tuple #[.agg #[.int .i64 0, .int .i64 0, .slice none 0 0], .int .i64 2]) (by simp [results, Tryz.results46, go_sem, r0, r1, r2]) rfl ?_
  rw [hres]
  exact ⟨none, 0, 0, rfl, CellsAt.nil _ _, rfl, Nat.le_refl _, fun ad had => (by cases had), below_setRow (HC.out.to w (by simp)) WZ.out _⟩
 have kA0 := cell_of_row _ _ 0 _ _ _ (boxStays HA.out (HC.out.to w1 (by simp)))
 have kA1 := cell_of_row _ _ 1 _ _ _ (boxStays HA.out (HC.out.to w1 (by simp)))
 have kA2 := cell_of_row _ _ 2 _ _ _ (boxStays HA.out (HC.out.to w1 (by simp)))
 go_wp2_with fail
 refine (kr_Value ka ma la aa na ca _ (HLA.out.below (HC.out.to w (by simp)) rfl) NA.out (by omega) ZA.out).mono ?_
 rintro e w3 ⟨rfl, hb⟩
 clear kA0 kA1 kA2
 replace HC := Lib.hid (HC.out.push hb)
 clear hb
 obtain ⟨va, hva⟩ : ∃ b, valG ka ma la = b := ⟨_, rfl⟩
 rw [hva]
 have VA := Lib.hid hva
 clear hva
 cases va
 case false =>
  have hres : re = (0, 0, [], 2) := by rw [← RE.out]; unfold threeO; rw [if_pos (.inr (.inl VA.out))]
  have HRX := Lib.hid (boxStays HR.out (HC.out.to w1 (by simp)))
  go_wp2_with (refine wpList_store_row rfl 79 (.tmp 6) (.tmp 35) rfl (z + 1 + 1 + 1) #[.int .i64 0, .int .i64 0, .slice none 0 0] rfl rfl 79 _ HRX.out (by kernel_rfl) rfl VZ.out ?_)
  have hx := setRow_heap _ _ _ #[.int .i64 0, .int .i64 0, .slice none 0 0] _ _ HRX.out
  have r0 := cell_of_row _ _ 0 _ _ _ hx
  have r1 := cell_of_row _ _ 1 _ _ _ hx
  have r2 := cell_of_row _ _ 2 _ _ _ hx
  refine bodyPost_ret (v := .tuple #[.agg #[.int .i64 0, .int .i64 0, .slice none 0 0], .int .i64 2]) (by simp [results, Tryz.results46, go_sem, r0, r1, r2]) rfl ?_
  rw [hres]
  exact ⟨none, 0, 0, rfl, CellsAt.nil _ _, rfl, Nat.le_refl _, fun ad had => (by cases had), below_setRow (HC.out.to w (by simp)) WZ.out _⟩
 have kD0 := cell_of_row _ _ 0 _ _ _ (boxStays HD.out (HC.out.to w1 (by simp)))
 have kD1 := cell_of_row _ _ 1 _ _ _ (boxStays HD.out (HC.out.to w1 (by simp)))
 have kD2 := cell_of_row _ _ 2 _ _ _ (boxStays HD.out (HC.out.to w1 (by simp)))
 go_wp2_with fail
 refine (kr_Value k2 m2 l2 a2 n2 c2 _ (HL2.out.below (HC.out.to w (by simp)) rfl) N2.out (by omega) Z2.out).mono ?_
 rintro e w4 ⟨rfl, hb⟩
 clear kD0 kD1 kD2
 replace HC := Lib.hid (HC.out.push hb)
 clear hb
 obtain ⟨v2, hv2⟩ : ∃ b, valG k2 m2 l2 = b := ⟨_, rfl⟩
 rw [hv2]
 have V2 := Lib.hid hv2
 clear hv2
 cases v2
 case false =>
  have hres : re = (0, 0, [], 2) := by rw [← RE.out]; unfold threeO; rw [if_pos (.inr (.inr (.inl V2.out)))]
  have HRX := Lib.hid (boxStays HR.out (HC.out.to w1 (by simp)))
  go_wp2_with (refine wpList_store_row rfl 79 (.tmp 6) (.tmp 35) rfl (z + 1 + 1 + 1) #[.int .i64 0, .int .i64 0, .slice none 0 0] rfl rfl 79 _ HRX.out (by kernel_rfl) rfl VZ.out ?_)
  have hx := setRow_heap _ _ _ #[.int .i64 0, .int .i64 0, .slice none 0 0] _ _ HRX.out
  have r0 := cell_of_row _ _ 0 _ _ _ hx
  have r1 := cell_of_row _ _ 1 _ _ _ hx
  have r2 := cell_of_row _ _ 2 _ _ _ hx
  refine bodyPost_ret (v := .tuple #[.agg #[.int .i64 0, .int .i64 0, .slice none 0 0], .int .i64 2]) (by simp [results, Tryz.results46, go_sem, r0, r1, r2]) rfl ?_
  rw [hres]
  exact ⟨none, 0, 0, rfl, CellsAt.nil _ _, rfl, Nat.le_refl _, fun ad had => (by cases had), below_setRow (HC.out.to w (by simp)) WZ.out _⟩
 by_cases hk1 : kb = ka
 case neg =>
  have hres : re = (0, 0, [], 2) := by rw [← RE.out]; unfold threeO; rw [if_pos (.inr (.inr (.inr (.inl hk1))))]
  have hkb : (kb != ka) = true := by simp [hk1]
  have kB0 := cell_of_row _ _ 0 _ _ _ (boxStays HB.out (HC.out.to w1 (by simp)))
  have kB1 := cell_of_row _ _ 1 _ _ _ (boxStays HB.out (HC.out.to w1 (by simp)))
  have kB2 := cell_of_row _ _ 2 _ _ _ (boxStays HB.out (HC.out.to w1 (by simp)))
  have kA0 := cell_of_row _ _ 0 _ _ _ (boxStays HA.out (HC.out.to w1 (by simp)))
  have kA1 := cell_of_row _ _ 1 _ _ _ (boxStays HA.out (HC.out.to w1 (by simp)))
  have kA2 := cell_of_row _ _ 2 _ _ _ (boxStays HA.out (HC.out.to w1 (by simp)))
  have HRX := Lib.hid (boxStays HR.out (HC.out.to w1 (by simp)))
  go_wp2_with (refine wpList_store_row rfl 79 (.tmp 6) (.tmp 35) rfl (z + 1 + 1 + 1) #[.int .i64 0, .int .i64 0, .slice none 0 0] rfl rfl 79 _ HRX.out (by kernel_rfl) rfl VZ.out ?_)
  clear kB0 kB1 kB2 kA0 kA1 kA2
  have hx := setRow_heap _ _ _ #[.int .i64 0, .int .i64 0, .slice none 0 0] _ _ HRX.out
  have r0 := cell_of_row _ _ 0 _ _ _ hx
  have r1 := cell_of_row _ _ 1 _ _ _ hx
  have r2 := cell_of_row _ _ 2 _ _ _ hx
  refine bodyPost_ret (v := .tuple #[.agg #[.int .i64 0, .int .i64 0, .slice none 0 0], .int .i64 2]) (by simp [results, Tryz.results46, go_sem, r0, r1, r2]) rfl ?_
  rw [hres]
  exact ⟨none, 0, 0, rfl, CellsAt.nil _ _, rfl, Nat.le_refl _, fun ad had => (by cases had), below_setRow (HC.out.to w (by simp)) WZ.out _⟩
 have hk1b : (kb != ka) = false := by simp [hk1]
 by_cases hk2 : ka = k2
 case neg =>
  have hres : re = (0, 0, [], 2) := by rw [← RE.out]; unfold threeO; rw [if_pos (.inr (.inr (.inr (.inr hk2))))]
  have hkb : (ka != k2) = true := by simp [hk2]
  have kB0 := cell_of_row _ _ 0 _ _ _ (boxStays HB.out (HC.out.to w1 (by simp)))
  have kB1 := cell_of_row _ _ 1 _ _ _ (boxStays HB.out (HC.out.to w1 (by simp)))
  have kB2 := cell_of_row _ _ 2 _ _ _ (boxStays HB.out (HC.out.to w1 (by simp)))
  have kA0 := cell_of_row _ _ 0 _ _ _ (boxStays HA.out (HC.out.to w1 (by simp)))
  have kA1 := cell_of_row _ _ 1 _ _ _ (boxStays HA.out (HC.out.to w1 (by simp)))
  have kA2 := cell_of_row _ _ 2 _ _ _ (boxStays HA.out (HC.out.to w1 (by simp)))
  have kD0 := cell_of_row _ _ 0 _ _ _ (boxStays HD.out (HC.out.to w1 (by simp)))
  have kD1 := cell_of_row _ _ 1 _ _ _ (boxStays HD.out (HC.out.to w1 (by simp)))
  have kD2 := cell_of_row _ _ 2 _ _ _ (boxStays HD.out (HC.out.to w1 (by simp)))
  have HRX := Lib.hid (boxStays HR.out (HC.out.to w1 (by simp)))
  go_wp2_with (refine wpList_store_row rfl 79 (.tmp 6) (.tmp 35) rfl (z + 1 + 1 + 1) #[.int .i64 0, .int .i64 0, .slice none 0 0] rfl rfl 79 _ HRX.out (by kernel_rfl) rfl VZ.out ?_)
  clear kB0 kB1 kB2 kA0 kA1 kA2 kD0 kD1 kD2
  have hx := setRow_heap _ _ _ #[.int .i64 0, .int .i64 0, .slice none 0 0] _ _ HRX.out
  have r0 := cell_of_row _ _ 0 _ _ _ hx
  have r1 := cell_of_row _ _ 1 _ _ _ hx
  have r2 := cell_of_row _ _ 2 _ _ _ hx
  refine bodyPost_ret (v := .tuple #[.agg #[.int .i64 0, .int .i64 0, .slice none 0 0], .int .i64 2]) (by simp [results, Tryz.results46, go_sem, r0, r1, r2]) rfl ?_
  rw [hres]
  exact ⟨none, 0, 0, rfl, CellsAt.nil _ _, rfl, Nat.le_refl _, fun ad had => (by cases had), below_setRow (HC.out.to w (by simp)) WZ.out _⟩
 have hk2b : (ka != k2) = false := by simp [hk2]
 obtain ⟨s1, hs1⟩ : ∃ x, IntKind.i64.wrap (ma + m2) = x := ⟨_, rfl⟩
 obtain ⟨mm, hmm⟩ : ∃ x, IntKind.i64.wrap (s1 - mb) = x := ⟨_, rfl⟩
 obtain ⟨TL, hTL⟩ : ∃ x, threeG lb la l2 = x := ⟨_, rfl⟩
 have hres : Hid (re = (ka, mm, TL, 0)) := Lib.hid (by
  rw [← RE.out]
  unfold threeO
  rw [if_neg, hs1, hmm, hTL]
  rintro (h | h | h | h | h)
  · rw [VB.out] at h; cases h
  · rw [VA.out] at h; cases h
  · rw [V2.out] at h; cases h
  · exact h hk1
  · exact h hk2)
 have TLE := Lib.hid hTL
 have EL : Hid (∀ W, Below w.heap.size w W → Calls Tryz.prog 93 #[.slice ab nb cb, .slice aa na ca, .slice a2 n2 c2] W fun e w' => ∃ (a : Option Addr) (n c : Nat), e = .returned (.slice a n c) ∧ CellsAt w' a (elsV TL) ∧ n = TL.length ∧ n ≤ c ∧ (∀ ad, a = some ad → W.heap.size ≤ ad.block) ∧ Below W.heap.size W w') := Lib.hid (fun W hW => by
  have := kr_ElementsV lb la l2 ab aa a2 nb na n2 cb ca c2 W (val_right VB.out) (val_right VA.out) (val_right V2.out) (HLB.out.below hW rfl) (HLA.out.below hW rfl) (HL2.out.below hW rfl) NB.out NA.out N2.out bb ba b2
  rw [hTL] at this
  exact this)
 clear hk1 hk2 hTL
 have kB0 := cell_of_row _ _ 0 _ _ _ (boxStays HB.out (HC.out.to w1 (by simp)))
 have kB1 := cell_of_row _ _ 1 _ _ _ (boxStays HB.out (HC.out.to w1 (by simp)))
 have kB2 := cell_of_row _ _ 2 _ _ _ (boxStays HB.out (HC.out.to w1 (by simp)))
 have kA0 := cell_of_row _ _ 0 _ _ _ (boxStays HA.out (HC.out.to w1 (by simp)))
 have kA1 := cell_of_row _ _ 1 _ _ _ (boxStays HA.out (HC.out.to w1 (by simp)))
 have kA2 := cell_of_row _ _ 2 _ _ _ (boxStays HA.out (HC.out.to w1 (by simp)))
 have kD0 := cell_of_row _ _ 0 _ _ _ (boxStays HD.out (HC.out.to w1 (by simp)))
 have kD1 := cell_of_row _ _ 1 _ _ _ (boxStays HD.out (HC.out.to w1 (by simp)))
 have kD2 := cell_of_row _ _ 2 _ _ _ (boxStays HD.out (HC.out.to w1 (by simp)))
 go_upto_region 3 with (fail)
 clear kB0 kB1 kB2 kA0 kA1 kA2 kD0 kD1 kD2
 have BW4 := Lib.hid (HC.out.to w (by simp))
 have XB := Lib.hid (boxStays HB.out (HC.out.to w1 (by simp)))
 have XA := Lib.hid (boxStays HA.out (HC.out.to w1 (by simp)))
 have XD := Lib.hid (boxStays HD.out (HC.out.to w1 (by simp)))
 have XR := Lib.hid (boxStays HR.out (HC.out.to w1 (by simp)))
 have ZW : Hid (z + 1 + 1 + 1 < w4.heap.size) := Lib.hid (Array.getElem?_eq_some_iff.1 XR.out).1
 refine relG_start (slots := [36, 37, 38, 39, 40, 41, 42, 43, 44, 45, 46, 47, 48, 49, 50, 51, 52, 53, 7]) (so := [18]) (by kernel_rfl) (by kernel_rfl) (by rfl) ?_
 refine relG_pure (i := 0) (o := ⟨some 36, _, _, _, _, _⟩) (v := ?v1) [] [4] rfl rfl (by kernel_rfl) (by kernel_rfl) (fun t w1 hB hf hbf => ?y1) ?n1
 case y1 =>
  simp only [BasF] at hbf
  clear hf
  obtain ⟨⟨b4, k4⟩, _⟩ := hbf
  have xb := boxStays XB.out hB
  have xa := boxStays XA.out hB
  have xd := boxStays XD.out hB
  have b1 := cell_of_row _ z 1 _ _ _ xb
  have b2 := cell_of_row _ z 2 _ _ _ xb
  have q0 := cell_of_row _ (z + 1) 0 _ _ _ xa
  have q1 := cell_of_row _ (z + 1) 1 _ _ _ xa
  have q2 := cell_of_row _ (z + 1) 2 _ _ _ xa
  have d1 := cell_of_row _ (z + 1 + 1) 1 _ _ _ xd
  have d2 := cell_of_row _ (z + 1 + 1) 2 _ _ _ xd
  clear xb xa xd
  refine Or.inl ⟨wanted_none rfl, ?_⟩
  rintro _ rfl
  go_simp <;> with_reducible rfl
 refine relG_pure (i := 1) (o := ⟨some 37, _, _, _, _, _⟩) (v := ?v2) [(0, 36, 0)] [] rfl rfl (by kernel_rfl) (by kernel_rfl) (fun t w1 hB hf hbf => ?y2) ?n2
 case y2 =>
  simp only [DepF, List.getD_cons_zero] at hf
  obtain ⟨⟨_, ⟨e36, i36⟩, rfl⟩, _⟩ := hf
  clear hbf
  have xb := boxStays XB.out hB
  have xa := boxStays XA.out hB
  have xd := boxStays XD.out hB
  have b1 := cell_of_row _ z 1 _ _ _ xb
  have b2 := cell_of_row _ z 2 _ _ _ xb
  have q0 := cell_of_row _ (z + 1) 0 _ _ _ xa
  have q1 := cell_of_row _ (z + 1) 1 _ _ _ xa
  have q2 := cell_of_row _ (z + 1) 2 _ _ _ xa
  have d1 := cell_of_row _ (z + 1 + 1) 1 _ _ _ xd
  have d2 := cell_of_row _ (z + 1 + 1) 2 _ _ _ xd
  clear xb xa xd
  refine Or.inl ⟨wanted_none rfl, ?_⟩
  rintro _ rfl
  go_simp <;> with_reducible rfl
 refine relG_pure (i := 2) (o := ⟨some 38, _, _, _, _, _⟩) (v := ?v3) [] [4] rfl rfl (by kernel_rfl) (by kernel_rfl) (fun t w1 hB hf hbf => ?y3) ?n3
 case y3 =>
  simp only [BasF] at hbf
  clear hf
  obtain ⟨⟨b4, k4⟩, _⟩ := hbf
  have xb := boxStays XB.out hB
  have xa := boxStays XA.out hB
  have xd := boxStays XD.out hB
  have b1 := cell_of_row _ z 1 _ _ _ xb
  have b2 := cell_of_row _ z 2 _ _ _ xb
  have q0 := cell_of_row _ (z + 1) 0 _ _ _ xa
  have q1 := cell_of_row _ (z + 1) 1 _ _ _ xa
  have q2 := cell_of_row _ (z + 1) 2 _ _ _ xa
  have d1 := cell_of_row _ (z + 1 + 1) 1 _ _ _ xd
  have d2 := cell_of_row _ (z + 1 + 1) 2 _ _ _ xd
  clear xb xa xd
  refine Or.inl ⟨wanted_none rfl, ?_⟩
  rintro _ rfl
  go_simp <;> with_reducible rfl
 refine relG_pure (i := 3) (o := ⟨some 39, _, _, _, _, _⟩) (v := ?v4) [(2, 38, 0)] [] rfl rfl (by kernel_rfl) (by kernel_rfl) (fun t w1 hB hf hbf => ?y4) ?n4
 case y4 =>
  simp only [DepF, List.getD_cons_zero] at hf
  obtain ⟨⟨_, ⟨e38, i38⟩, rfl⟩, _⟩ := hf
  clear hbf
  have xb := boxStays XB.out hB
  have xa := boxStays XA.out hB
  have xd := boxStays XD.out hB
  have b1 := cell_of_row _ z 1 _ _ _ xb
  have b2 := cell_of_row _ z 2 _ _ _ xb
  have q0 := cell_of_row _ (z + 1) 0 _ _ _ xa
  have q1 := cell_of_row _ (z + 1) 1 _ _ _ xa
  have q2 := cell_of_row _ (z + 1) 2 _ _ _ xa
  have d1 := cell_of_row _ (z + 1 + 1) 1 _ _ _ xd
  have d2 := cell_of_row _ (z + 1 + 1) 2 _ _ _ xd
  clear xb xa xd
  refine Or.inl ⟨wanted_none rfl, ?_⟩
  rintro _ rfl
  go_simp <;> with_reducible rfl
 refine relG_pure (i := 4) (o := ⟨some 40, _, _, _, _, _⟩) (v := ?v5) [] [5] rfl rfl (by kernel_rfl) (by kernel_rfl) (fun t w1 hB hf hbf => ?y5) ?n5
 case y5 =>
  simp only [BasF] at hbf
  clear hf
  obtain ⟨⟨b5, k5⟩, _⟩ := hbf
  have xb := boxStays XB.out hB
  have xa := boxStays XA.out hB
  have xd := boxStays XD.out hB
  have b1 := cell_of_row _ z 1 _ _ _ xb
  have b2 := cell_of_row _ z 2 _ _ _ xb
  have q0 := cell_of_row _ (z + 1) 0 _ _ _ xa
  have q1 := cell_of_row _ (z + 1) 1 _ _ _ xa
  have q2 := cell_of_row _ (z + 1) 2 _ _ _ xa
  have d1 := cell_of_row _ (z + 1 + 1) 1 _ _ _ xd
  have d2 := cell_of_row _ (z + 1 + 1) 2 _ _ _ xd
  clear xb xa xd
  refine Or.inl ⟨wanted_none rfl, ?_⟩
  rintro _ rfl
  go_simp <;> with_reducible rfl
 refine relG_pure (i := 5) (o := ⟨some 41, _, _, _, _, _⟩) (v := ?v6) [(4, 40, 0)] [] rfl rfl (by kernel_rfl) (by kernel_rfl) (fun t w1 hB hf hbf => ?y6) ?n6
 case y6 =>
  simp only [DepF, List.getD_cons_zero] at hf
  obtain ⟨⟨_, ⟨e40, i40⟩, rfl⟩, _⟩ := hf
  clear hbf
  have xb := boxStays XB.out hB
  have xa := boxStays XA.out hB
  have xd := boxStays XD.out hB
  have b1 := cell_of_row _ z 1 _ _ _ xb
  have b2 := cell_of_row _ z 2 _ _ _ xb
  have q0 := cell_of_row _ (z + 1) 0 _ _ _ xa
  have q1 := cell_of_row _ (z + 1) 1 _ _ _ xa
  have q2 := cell_of_row _ (z + 1) 2 _ _ _ xa
  have d1 := cell_of_row _ (z + 1 + 1) 1 _ _ _ xd
  have d2 := cell_of_row _ (z + 1 + 1) 2 _ _ _ xd
  clear xb xa xd
  refine Or.inl ⟨wanted_none rfl, ?_⟩
  rintro _ rfl
  go_simp <;> with_reducible rfl
 refine relG_pure (i := 6) (o := ⟨some 42, _, _, _, _, _⟩) (v := ?v7) [(3, 39, 2), (5, 41, 0)] [] rfl rfl (by kernel_rfl) (by kernel_rfl) (fun t w1 hB hf hbf => ?y7) ?n7
 case y7 =>
  simp only [DepF, List.getD_cons_zero, List.getD_cons_succ] at hf
  obtain ⟨⟨_, ⟨e39, i39⟩, rfl⟩, ⟨_, ⟨e41, i41⟩, rfl⟩, _⟩ := hf
  clear hbf
  have xb := boxStays XB.out hB
  have xa := boxStays XA.out hB
  have xd := boxStays XD.out hB
  have b1 := cell_of_row _ z 1 _ _ _ xb
  have b2 := cell_of_row _ z 2 _ _ _ xb
  have q0 := cell_of_row _ (z + 1) 0 _ _ _ xa
  have q1 := cell_of_row _ (z + 1) 1 _ _ _ xa
  have q2 := cell_of_row _ (z + 1) 2 _ _ _ xa
  have d1 := cell_of_row _ (z + 1 + 1) 1 _ _ _ xd
  have d2 := cell_of_row _ (z + 1 + 1) 2 _ _ _ xd
  clear xb xa xd
  refine Or.inl ⟨wanted_none rfl, ?_⟩
  rintro _ rfl
  go_simp <;> with_reducible rfl
 refine relG_pure (i := 7) (o := ⟨some 43, _, _, _, _, _⟩) (v := ?v8) [] [3] rfl rfl (by kernel_rfl) (by kernel_rfl) (fun t w1 hB hf hbf => ?y8) ?n8
 case y8 =>
  simp only [BasF] at hbf
  clear hf
  obtain ⟨⟨b3, k3⟩, _⟩ := hbf
  have xb := boxStays XB.out hB
  have xa := boxStays XA.out hB
  have xd := boxStays XD.out hB
  have b1 := cell_of_row _ z 1 _ _ _ xb
  have b2 := cell_of_row _ z 2 _ _ _ xb
  have q0 := cell_of_row _ (z + 1) 0 _ _ _ xa
  have q1 := cell_of_row _ (z + 1) 1 _ _ _ xa
  have q2 := cell_of_row _ (z + 1) 2 _ _ _ xa
  have d1 := cell_of_row _ (z + 1 + 1) 1 _ _ _ xd
  have d2 := cell_of_row _ (z + 1 + 1) 2 _ _ _ xd
  clear xb xa xd
  refine Or.inl ⟨wanted_none rfl, ?_⟩
  rintro _ rfl
  go_simp <;> with_reducible rfl
 refine relG_pure (i := 8) (o := ⟨some 44, _, _, _, _, _⟩) (v := ?v9) [(7, 43, 0)] [] rfl rfl (by kernel_rfl) (by kernel_rfl) (fun t w1 hB hf hbf => ?y9) ?n9
 case y9 =>
  simp only [DepF, List.getD_cons_zero] at hf
  obtain ⟨⟨_, ⟨e43, i43⟩, rfl⟩, _⟩ := hf
  clear hbf
  have xb := boxStays XB.out hB
  have xa := boxStays XA.out hB
  have xd := boxStays XD.out hB
  have b1 := cell_of_row _ z 1 _ _ _ xb
  have b2 := cell_of_row _ z 2 _ _ _ xb
  have q0 := cell_of_row _ (z + 1) 0 _ _ _ xa
  have q1 := cell_of_row _ (z + 1) 1 _ _ _ xa
  have q2 := cell_of_row _ (z + 1) 2 _ _ _ xa
  have d1 := cell_of_row _ (z + 1 + 1) 1 _ _ _ xd
  have d2 := cell_of_row _ (z + 1 + 1) 2 _ _ _ xd
  clear xb xa xd
  refine Or.inl ⟨wanted_none rfl, ?_⟩
  rintro _ rfl
  go_simp <;> with_reducible rfl
 refine relG_pure (i := 9) (o := ⟨some 45, _, _, _, _, _⟩) (v := ?v10) [(6, 42, 2), (8, 44, 0)] [] rfl rfl (by kernel_rfl) (by kernel_rfl) (fun t w1 hB hf hbf => ?y10) ?n10
 case y10 =>
  simp only [DepF, List.getD_cons_zero, List.getD_cons_succ] at hf
  obtain ⟨⟨_, ⟨e42, i42⟩, rfl⟩, ⟨_, ⟨e44, i44⟩, rfl⟩, _⟩ := hf
  clear hbf
  have xb := boxStays XB.out hB
  have xa := boxStays XA.out hB
  have xd := boxStays XD.out hB
  have b1 := cell_of_row _ z 1 _ _ _ xb
  have b2 := cell_of_row _ z 2 _ _ _ xb
  have q0 := cell_of_row _ (z + 1) 0 _ _ _ xa
  have q1 := cell_of_row _ (z + 1) 1 _ _ _ xa
  have q2 := cell_of_row _ (z + 1) 2 _ _ _ xa
  have d1 := cell_of_row _ (z + 1 + 1) 1 _ _ _ xd
  have d2 := cell_of_row _ (z + 1 + 1) 2 _ _ _ xd
  clear xb xa xd
  refine Or.inl ⟨wanted_none rfl, ?_⟩
  rintro _ rfl
  go_simp <;> with_reducible rfl
 refine relG_pure (i := 10) (o := ⟨some 46, _, _, _, _, _⟩) (v := ?v11) [] [3] rfl rfl (by kernel_rfl) (by kernel_rfl) (fun t w1 hB hf hbf => ?y11) ?n11
 case y11 =>
  simp only [BasF] at hbf
  clear hf
  obtain ⟨⟨b3, k3⟩, _⟩ := hbf
  have xb := boxStays XB.out hB
  have xa := boxStays XA.out hB
  have xd := boxStays XD.out hB
  have b1 := cell_of_row _ z 1 _ _ _ xb
  have b2 := cell_of_row _ z 2 _ _ _ xb
  have q0 := cell_of_row _ (z + 1) 0 _ _ _ xa
  have q1 := cell_of_row _ (z + 1) 1 _ _ _ xa
  have q2 := cell_of_row _ (z + 1) 2 _ _ _ xa
  have d1 := cell_of_row _ (z + 1 + 1) 1 _ _ _ xd
  have d2 := cell_of_row _ (z + 1 + 1) 2 _ _ _ xd
  clear xb xa xd
  refine Or.inl ⟨wanted_none rfl, ?_⟩
  rintro _ rfl
  go_simp <;> with_reducible rfl
 refine relG_pure (i := 11) (o := ⟨some 47, _, _, _, _, _⟩) (v := ?v12) [(10, 46, 0)] [] rfl rfl (by kernel_rfl) (by kernel_rfl) (fun t w1 hB hf hbf => ?y12) ?n12
 case y12 =>
  simp only [DepF, List.getD_cons_zero] at hf
  obtain ⟨⟨_, ⟨e46, i46⟩, rfl⟩, _⟩ := hf
  clear hbf
  have xb := boxStays XB.out hB
  have xa := boxStays XA.out hB
  have xd := boxStays XD.out hB
  have b1 := cell_of_row _ z 1 _ _ _ xb
  have b2 := cell_of_row _ z 2 _ _ _ xb
  have q0 := cell_of_row _ (z + 1) 0 _ _ _ xa
  have q1 := cell_of_row _ (z + 1) 1 _ _ _ xa
  have q2 := cell_of_row _ (z + 1) 2 _ _ _ xa
  have d1 := cell_of_row _ (z + 1 + 1) 1 _ _ _ xd
  have d2 := cell_of_row _ (z + 1 + 1) 2 _ _ _ xd
  clear xb xa xd
  refine Or.inl ⟨wanted_none rfl, ?_⟩
  rintro _ rfl
  go_simp <;> with_reducible rfl
 refine relG_pure (i := 12) (o := ⟨some 48, _, _, _, _, _⟩) (v := ?v13) [] [4] rfl rfl (by kernel_rfl) (by kernel_rfl) (fun t w1 hB hf hbf => ?y13) ?n13
 case y13 =>
  simp only [BasF] at hbf
  clear hf
  obtain ⟨⟨b4, k4⟩, _⟩ := hbf
  have xb := boxStays XB.out hB
  have xa := boxStays XA.out hB
  have xd := boxStays XD.out hB
  have b1 := cell_of_row _ z 1 _ _ _ xb
  have b2 := cell_of_row _ z 2 _ _ _ xb
  have q0 := cell_of_row _ (z + 1) 0 _ _ _ xa
  have q1 := cell_of_row _ (z + 1) 1 _ _ _ xa
  have q2 := cell_of_row _ (z + 1) 2 _ _ _ xa
  have d1 := cell_of_row _ (z + 1 + 1) 1 _ _ _ xd
  have d2 := cell_of_row _ (z + 1 + 1) 2 _ _ _ xd
  clear xb xa xd
  refine Or.inl ⟨wanted_none rfl, ?_⟩
  rintro _ rfl
  go_simp <;> with_reducible rfl
 refine relG_pure (i := 13) (o := ⟨some 49, _, _, _, _, _⟩) (v := ?v14) [(12, 48, 0)] [] rfl rfl (by kernel_rfl) (by kernel_rfl) (fun t w1 hB hf hbf => ?y14) ?n14
 case y14 =>
  simp only [DepF, List.getD_cons_zero] at hf
  obtain ⟨⟨_, ⟨e48, i48⟩, rfl⟩, _⟩ := hf
  clear hbf
  have xb := boxStays XB.out hB
  have xa := boxStays XA.out hB
  have xd := boxStays XD.out hB
  have b1 := cell_of_row _ z 1 _ _ _ xb
  have b2 := cell_of_row _ z 2 _ _ _ xb
  have q0 := cell_of_row _ (z + 1) 0 _ _ _ xa
  have q1 := cell_of_row _ (z + 1) 1 _ _ _ xa
  have q2 := cell_of_row _ (z + 1) 2 _ _ _ xa
  have d1 := cell_of_row _ (z + 1 + 1) 1 _ _ _ xd
  have d2 := cell_of_row _ (z + 1 + 1) 2 _ _ _ xd
  clear xb xa xd
  refine Or.inl ⟨wanted_none rfl, ?_⟩
  rintro _ rfl
  go_simp <;> with_reducible rfl
 refine relG_pure (i := 14) (o := ⟨some 50, _, _, _, _, _⟩) (v := ?v15) [] [5] rfl rfl (by kernel_rfl) (by kernel_rfl) (fun t w1 hB hf hbf => ?y15) ?n15
 case y15 =>
  simp only [BasF] at hbf
  clear hf
  obtain ⟨⟨b5, k5⟩, _⟩ := hbf
  have xb := boxStays XB.out hB
  have xa := boxStays XA.out hB
  have xd := boxStays XD.out hB
  have b1 := cell_of_row _ z 1 _ _ _ xb
  have b2 := cell_of_row _ z 2 _ _ _ xb
  have q0 := cell_of_row _ (z + 1) 0 _ _ _ xa
  have q1 := cell_of_row _ (z + 1) 1 _ _ _ xa
  have q2 := cell_of_row _ (z + 1) 2 _ _ _ xa
  have d1 := cell_of_row _ (z + 1 + 1) 1 _ _ _ xd
  have d2 := cell_of_row _ (z + 1 + 1) 2 _ _ _ xd
  clear xb xa xd
  refine Or.inl ⟨wanted_none rfl, ?_⟩
  rintro _ rfl
  go_simp <;> with_reducible rfl
 refine relG_pure (i := 15) (o := ⟨some 51, _, _, _, _, _⟩) (v := ?v16) [(14, 50, 0)] [] rfl rfl (by kernel_rfl) (by kernel_rfl) (fun t w1 hB hf hbf => ?y16) ?n16
 case y16 =>
  simp only [DepF, List.getD_cons_zero] at hf
  obtain ⟨⟨_, ⟨e50, i50⟩, rfl⟩, _⟩ := hf
  clear hbf
  have xb := boxStays XB.out hB
  have xa := boxStays XA.out hB
  have xd := boxStays XD.out hB
  have b1 := cell_of_row _ z 1 _ _ _ xb
  have b2 := cell_of_row _ z 2 _ _ _ xb
  have q0 := cell_of_row _ (z + 1) 0 _ _ _ xa
  have q1 := cell_of_row _ (z + 1) 1 _ _ _ xa
  have q2 := cell_of_row _ (z + 1) 2 _ _ _ xa
  have d1 := cell_of_row _ (z + 1 + 1) 1 _ _ _ xd
  have d2 := cell_of_row _ (z + 1 + 1) 2 _ _ _ xd
  clear xb xa xd
  refine Or.inl ⟨wanted_none rfl, ?_⟩
  rintro _ rfl
  go_simp <;> with_reducible rfl
 refine relG_call (i := 16) (o := ⟨some 52, _, _, _, _, _⟩) ((fun v w' => ∃ (a : Option Addr) (n c : Nat), v = .slice a n c ∧ CellsAt w' a (elsV TL) ∧ Hid (n = TL.length) ∧ n ≤ c ∧ ∀ ad, a = some ad → w4.heap.size ≤ ad.block)) [(11, 47, 4), (13, 49, 2), (15, 51, 0)] [] rfl rfl (by kernel_rfl) (by kernel_rfl) ((fun v w' w'' h hb => by obtain ⟨a, n, c, e1, e2, e3, e4, e5⟩ := h; exact ⟨a, n, c, e1, e2.below hb rfl, e3, e4, e5⟩)) ?_ ?_
 · intro t w1 hB hf hbf K hK
   simp only [DepF, List.getD_cons_zero, List.getD_cons_succ] at hf
   obtain ⟨⟨_, ⟨e47, i47⟩, rfl⟩, ⟨_, ⟨e49, i49⟩, rfl⟩, ⟨_, ⟨e51, i51⟩, rfl⟩, _⟩ := hf
   clear hbf
   have xb := boxStays XB.out hB
   have xa := boxStays XA.out hB
   have xd := boxStays XD.out hB
   have b1 := cell_of_row _ z 1 _ _ _ xb
   have b2 := cell_of_row _ z 2 _ _ _ xb
   have q0 := cell_of_row _ (z + 1) 0 _ _ _ xa
   have q1 := cell_of_row _ (z + 1) 1 _ _ _ xa
   have q2 := cell_of_row _ (z + 1) 2 _ _ _ xa
   have d1 := cell_of_row _ (z + 1 + 1) 1 _ _ _ xd
   have d2 := cell_of_row _ (z + 1 + 1) 2 _ _ _ xd
   clear xb xa xd
   refine ⟨wanted_none rfl, ?_⟩
   go_simp
   refine (EL.out w1 (BW4.out.trans (hB.mono BW4.out.size))).mono ?_
   rintro e w2 ⟨a', n', c', rfl, h1, h2, h3, h4, hb⟩
   exact hK.out _ w2 (⟨a', n', c', rfl, h1, Lib.hid h2, h3, fun ad had => Nat.le_trans hB.size (h4 ad had)⟩) hb
 refine relG_call (i := 17) (o := ⟨some 53, _, _, _, _, _⟩) ((fun v w' => ∃ (a : Option Addr) (n c : Nat), v = .agg #[.int .i64 ka, .int .i64 mm, .slice a n c] ∧ CellsAt w' a (elsV TL) ∧ Hid (n = TL.length) ∧ n ≤ c ∧ ∀ ad, a = some ad → w4.heap.size ≤ ad.block)) [(1, 37, 15), (9, 45, 7), (16, 52, 0)] [] rfl rfl (by kernel_rfl) (by kernel_rfl) ((fun v w' w'' h hb => by obtain ⟨a, n, c, e1, e2, e3, e4, e5⟩ := h; exact ⟨a, n, c, e1, e2.below hb rfl, e3, e4, e5⟩)) ?_ ?_
 · intro t w1 hB hf hbf K hK
   simp only [DepF, List.getD_cons_zero, List.getD_cons_succ] at hf
   obtain ⟨⟨_, ⟨e37, i37⟩, rfl⟩, ⟨_, ⟨e45, i45⟩, rfl⟩, ⟨_, ⟨e52, i52⟩, ⟨a', n', c', rfl, h1, h2, h3, h4⟩⟩, _⟩ := hf
   clear hbf
   have xb := boxStays XB.out hB
   have xa := boxStays XA.out hB
   have xd := boxStays XD.out hB
   have b1 := cell_of_row _ z 1 _ _ _ xb
   have b2 := cell_of_row _ z 2 _ _ _ xb
   have q0 := cell_of_row _ (z + 1) 0 _ _ _ xa
   have q1 := cell_of_row _ (z + 1) 1 _ _ _ xa
   have q2 := cell_of_row _ (z + 1) 2 _ _ _ xa
   have d1 := cell_of_row _ (z + 1 + 1) 1 _ _ _ xd
   have d2 := cell_of_row _ (z + 1 + 1) 2 _ _ _ xd
   clear xb xa xd
   refine ⟨wanted_none rfl, ?_⟩
   go_simp
   exact hK.out _ _ (⟨a', n', c', rfl, h1, h2, h3, h4⟩) (Below.refl _ _)
 refine relG_skip 18 rfl (by rfl) ?_ (by kernel_rfl)
 refine relG_pure (i := 19) (o := ⟨some 7, _, _, _, _, _⟩) (v := ?v17) [] [] rfl rfl (by kernel_rfl) (by kernel_rfl) (fun t w1 hB hf hbf => ?y17) ?n17
 case y17 =>
  clear hf
  clear hbf
  have xb := boxStays XB.out hB
  have xa := boxStays XA.out hB
  have xd := boxStays XD.out hB
  have b1 := cell_of_row _ z 1 _ _ _ xb
  have b2 := cell_of_row _ z 2 _ _ _ xb
  have q0 := cell_of_row _ (z + 1) 0 _ _ _ xa
  have q1 := cell_of_row _ (z + 1) 1 _ _ _ xa
  have q2 := cell_of_row _ (z + 1) 2 _ _ _ xa
  have d1 := cell_of_row _ (z + 1 + 1) 1 _ _ _ xd
  have d2 := cell_of_row _ (z + 1 + 1) 2 _ _ _ xd
  clear xb xa xd
  refine Or.inl ⟨wanted_none rfl, ?_⟩
  rintro _ rfl
  go_simp <;> with_reducible rfl
 refine relG_one 18 (z + 1 + 1 + 1) 53 17 [(0, 36, 19), (1, 37, 18), (2, 38, 17), (3, 39, 16), (4, 40, 15), (5, 41, 14), (6, 42, 13), (7, 43, 12), (8, 44, 11), (9, 45, 10), (10, 46, 9), (11, 47, 8), (12, 48, 7), (13, 49, 6), (14, 50, 5), (15, 51, 4), (16, 52, 3), (17, 53, 2), (19, 7, 0)] [(0, 36, 19), (1, 37, 18), (2, 38, 17), (3, 39, 16), (4, 40, 15), (5, 41, 14), (6, 42, 13), (7, 43, 12), (8, 44, 11), (9, 45, 10), (10, 46, 9), (11, 47, 8), (12, 48, 7), (13, 49, 6), (14, 50, 5), (15, 51, 4), (16, 52, 3), (17, 53, 2)] (by kernel_rfl) rfl (by kernel_rfl) (by kernel_rfl) (by kernel_rfl) (by kernel_rfl) ?_ (fun f wE hB hf => ?_)
 · intro f w1 hB hf K hK
   simp only [FinF, List.getD_cons_zero, List.getD_cons_succ] at hf
   obtain ⟨⟨_, e36, rfl⟩, ⟨_, e37, rfl⟩, ⟨_, e38, rfl⟩, ⟨_, e39, rfl⟩, ⟨_, e40, rfl⟩, ⟨_, e41, rfl⟩, ⟨_, e42, rfl⟩, ⟨_, e43, rfl⟩, ⟨_, e44, rfl⟩, ⟨_, e45, rfl⟩, ⟨_, e46, rfl⟩, ⟨_, e47, rfl⟩, ⟨_, e48, rfl⟩, ⟨_, e49, rfl⟩, ⟨_, e50, rfl⟩, ⟨_, e51, rfl⟩, ⟨_, e52, ⟨a', n', c', rfl, h1, h2, h3, h4⟩⟩, ⟨_, e53, ⟨a5, n5, c5, rfl, h1, h2, h3, h4⟩⟩, _⟩ := hf
   have xb := boxStays XB.out hB
   have xa := boxStays XA.out hB
   have xd := boxStays XD.out hB
   have b1 := cell_of_row _ z 1 _ _ _ xb
   have b2 := cell_of_row _ z 2 _ _ _ xb
   have q0 := cell_of_row _ (z + 1) 0 _ _ _ xa
   have q1 := cell_of_row _ (z + 1) 1 _ _ _ xa
   have q2 := cell_of_row _ (z + 1) 2 _ _ _ xa
   have d1 := cell_of_row _ (z + 1 + 1) 1 _ _ _ xd
   have d2 := cell_of_row _ (z + 1 + 1) 2 _ _ _ xd
   clear xb xa xd
   refine sto_row (i := 18) (b := z + 1 + 1 + 1) (cells := #[.int .i64 ka, .int .i64 mm, .slice a5 n5 c5]) 79 6 53 _ _ rfl rfl rfl rfl (by rfl) (by rfl) (by rfl) (by rfl) e53 (boxStays XR.out hB) (by kernel_rfl) rfl ((by simp [Value.oneCell'])) hK
 simp only [FinF, List.getD_cons_zero, List.getD_cons_succ] at hf
 obtain ⟨⟨_, e36, rfl⟩, ⟨_, e37, rfl⟩, ⟨_, e38, rfl⟩, ⟨_, e39, rfl⟩, ⟨_, e40, rfl⟩, ⟨_, e41, rfl⟩, ⟨_, e42, rfl⟩, ⟨_, e43, rfl⟩, ⟨_, e44, rfl⟩, ⟨_, e45, rfl⟩, ⟨_, e46, rfl⟩, ⟨_, e47, rfl⟩, ⟨_, e48, rfl⟩, ⟨_, e49, rfl⟩, ⟨_, e50, rfl⟩, ⟨_, e51, rfl⟩, ⟨_, e52, ⟨a', n', c', rfl, h1, h2, h3, h4⟩⟩, ⟨_, e53, ⟨a5, n5, c5, rfl, h1, h2, h3, h4⟩⟩, ⟨_, e7, rfl⟩, _⟩ := hf
 simp only [Value.cells, regT, List.foldl_cons, List.foldl_nil, List.setIfInBounds_toArray, List.set_cons_zero, List.set_cons_succ, e36, e37, e38, e39, e40, e41, e42, e43, e44, e45, e46, e47, e48, e49, e50, e51, e52, e53, e7]
 clear e36 e37 e38 e39 e40 e41 e42 e43 e44 e45 e46 e47 e48 e49 e50 e51 e52 e53 e7
 have hbr := boxStays XR.out hB
 have hx := setRow_heap _ _ _ #[.int .i64 ka, .int .i64 mm, .slice a5 n5 c5] _ _ hbr
 have r0 := cell_of_row _ _ 0 _ _ _ hx
 have r1 := cell_of_row _ _ 1 _ _ _ hx
 have r2 := cell_of_row _ _ 2 _ _ _ hx
 have OUT : Hid (CellsAt (wE.setRow (z + 1 + 1 + 1) #[.int .i64 ka, .int .i64 mm, .slice a5 n5 c5]) a5 (elsV TL) ∧ n5 = TL.length ∧ n5 ≤ c5 ∧ (∀ ad, a5 = some ad → w.heap.size ≤ ad.block) ∧ Below w.heap.size w (wE.setRow (z + 1 + 1 + 1) #[.int .i64 ka, .int .i64 mm, .slice a5 n5 c5])) := Lib.hid ⟨cells_grown h1 (grown_setRow _ _ _) (fun ad had => by have := h4 ad had; have := ZW.out; omega), h2.out, h3, fun ad had => Nat.le_trans BW4.out.size (h4 ad had), below_setRow (BW4.out.trans (hB.mono BW4.out.size)) WZ.out _⟩
 clear h1 h2 h3 h4 hbr hx hB
 go_wp2_with fail
 refine bodyPost_ret (v := .tuple #[.agg #[.int .i64 ka, .int .i64 mm, .slice a5 n5 c5], .int .i64 0]) (by simp [results, Tryz.results46, go_sem, r0, r1, r2]) rfl ?_
 rw [hres.out]
 exact ⟨a5, n5, c5, rfl, OUT.out.1, OUT.out.2.1, OUT.out.2.2.1, OUT.out.2.2.2.1, OUT.out.2.2.2.2⟩
end Go.Proofs.YtjlliohjeiclaaaGreatDoor
namespace Go.Proofs.YtjlliohjeiclaaaGreatDoor
open Go.RowKit
section
variable {P : Program} {ops : Array Oper} {Q : Exit → Act → World → Prop} {id : Nat} {base : Array Value} {df : List Deferred} {slots : List Nat} {W0 : World}
def bkS : Option Value → Nat
 | some (.slice (some a) _ _) => a.block
 | _ => 0
def bkV : Value → Nat
 | .pointer (some a) => a.block
 | .agg cs => bkS (cs.toList[2]?)
 | _ => 0
def FreshB (f : Nat → Value) (w : World) (L : Nat → Bool) (al : List (Nat × Nat)) : Prop :=
 (∀ p ∈ al, L p.1 = true → bkV (f p.2) < w.heap.size) ∧ ∀ p ∈ al, ∀ q ∈ al, p.1 ≠ q.1 → L p.1 = true → L q.1 = true → bkV (f p.2) ≠ bkV (f q.2)
theorem freshB_all {f : Nat → Value} {w : World} {L : Nat → Bool} {al : List (Nat × Nat)} (h : FreshB f w L al) (hL : ∀ q ∈ al, L q.1 = true) : FreshB f w (fun _ => true) al :=
 ⟨fun p hp _ => h.1 p hp (hL p hp), fun p hp q hq hne _ _ => h.2 p hp q hq hne (hL p hp) (hL q hq)⟩
theorem freshB_same {f : Nat → Value} {w w' : World} {L : Nat → Bool} {al : List (Nat × Nat)} {i : Nat} (hni : ∀ q ∈ al, q.1 ≠ i) (h : FreshB f w L al) (hb : Below w.heap.size w w') : FreshB f w' (fun j => j == i || L j) al := by
 have e : ∀ q ∈ al, (q.1 == i || L q.1) = true → L q.1 = true := fun q hq hh => by simpa [hni q hq] using hh
 exact ⟨fun p hp hh => Nat.lt_of_lt_of_le (h.1 p hp (e p hp hh)) hb.size, fun p hp q hq hne h1 h2 => h.2 p hp q hq hne (e p hp h1) (e q hq h2)⟩
theorem freshB_upd {f : Nat → Value} {w w' : World} {L : Nat → Bool} {al : List (Nat × Nat)} {i di : Nat} {v : Value} (hni : ∀ q ∈ al, q.1 ≠ i) (hnd : ∀ q ∈ al, q.2 ≠ di) (h : FreshB f w L al) (hb : Below w.heap.size w w') : FreshB (updF f di v) w' (fun j => j == i || L j) al := by
 have h' := freshB_same hni h hb
 have e : ∀ q ∈ al, updF f di v q.2 = f q.2 := fun q hq => by unfold updF; rw [if_neg (hnd q hq)]
 refine ⟨fun p hp hh => ?_, fun p hp q hq hne h1 h2 => ?_⟩
 · rw [e p hp]; exact h'.1 p hp hh
 · rw [e p hp, e q hq]; exact h'.2 p hp q hq hne h1 h2
theorem freshB_new {f : Nat → Value} {w w' : World} {L : Nat → Bool} {al : List (Nat × Nat)} {p : Nat × Nat} {v : Value} (hp : p ∈ al) (hs : ∀ q ∈ al, q.1 = p.1 → q.2 = p.2) (hi : ∀ q ∈ al, q.2 = p.2 → q.1 = p.1) (hb : Below w.heap.size w w') (h1 : w.heap.size ≤ bkV v) (h2 : bkV v < w'.heap.size) (h : FreshB f w L al) :
 FreshB (updF f p.2 v) w' (fun j => j == p.1 || L j) al := by
 have e1 : ∀ q ∈ al, q.1 = p.1 → updF f p.2 v q.2 = v := fun q hq hh => by unfold updF; rw [if_pos (hs q hq hh)]
 have e2 : ∀ q ∈ al, q.1 ≠ p.1 → updF f p.2 v q.2 = f q.2 := fun q hq hh => by unfold updF; rw [if_neg (fun e => hh (hi q hq e))]
 have e3 : ∀ q ∈ al, q.1 ≠ p.1 → (q.1 == p.1 || L q.1) = true → L q.1 = true := fun q hq hne hh => by simpa [hne] using hh
 refine ⟨fun q hq hh => ?_, fun q hq r hr hne k1 k2 => ?_⟩
 · by_cases hqp : q.1 = p.1
   · rw [e1 q hq hqp]; exact h2
   · rw [e2 q hq hqp]; exact Nat.lt_of_lt_of_le (h.1 q hq (e3 q hq hqp hh)) hb.size
 · by_cases hqp : q.1 = p.1
   · have hrp : r.1 ≠ p.1 := fun e => hne (hqp.trans e.symm)
     have := h.1 r hr (e3 r hr hrp k2)
     rw [e1 q hq hqp, e2 r hr hrp]
     omega
   · by_cases hrp : r.1 = p.1
     · have := h.1 q hq (e3 q hq hqp k1)
       rw [e1 r hr hrp, e2 q hq hqp]
       omega
     · rw [e2 q hq hqp, e2 r hr hrp]
       exact h.2 q hq r hr hne (e3 q hq hqp k1) (e3 r hr hrp k2)
def StepF (P : Program) (ops : Array Oper) (Q : Exit → Act → World → Prop) (base : Array Value) (df : List Deferred) (slots : List Nat) (W0 : World) (gs : List Pr) (i : Nat) : Prop :=
 ∀ f w, Below W0.heap.size W0 w → (∀ j ∈ preOf ops i, ∀ d, dstN ops j = some d → lkG gs j (f d) w) → ∀ K : Act → World → Prop,
  (∀ v w', lkG gs i v w' → Below w.heap.size w w' → w.heap.size ≤ bkV v → bkV v < w'.heap.size → K ({ tmps := regT base slots f, defers := df : Act }.put (dstN ops i) v) w') → wpOp P ops Q i K { tmps := regT base slots f, defers := df } w
def RelF (P : Program) (ops : Array Oper) (Q : Exit → Act → World → Prop) (id : Nat) (base : Array Value) (df : List Deferred) (slots : List Nat) (W0 : World) (so : List Nat) (gs : List Pr) : Prop :=
 upB ops = true → (∀ j d, dstN ops j = some d → d ∈ slots) → (∀ i j d, dstN ops i = some d → dstN ops j = some d → i = j) → (∀ d ∈ slots, d < base.size) →
  (∀ i, i < gs.length → Stay (lkG gs i) ∧ (so.contains i = false → StepOK P ops Q base df slots W0 gs i) ∧ (so.contains i = true → StepF P ops Q base df slots W0 gs i)) → (Code.region id ops true).wp P Q { tmps := base, defers := df } W0
theorem relF_start {so : List Nat} (hup : upB ops = true) (hd : dstsOK ops slots = true) (hz : (slots.all fun d => decide (d < base.size)) = true) (h : RelF P ops Q id base df slots W0 so []) : (Code.region id ops true).wp P Q { tmps := base, defers := df } W0 := by
 have hall : ∀ i d, dstN ops i = some d → slots.contains d = true ∧ ∀ j, j < ops.size → (j == i || dstN ops j != some d) = true := fun i d e => by
  have h1 := List.all_eq_true.1 hd i (List.mem_range.2 (dstN_lt e))
  rw [e] at h1
  simp only [Bool.and_eq_true] at h1
  exact ⟨h1.1, fun j hj => List.all_eq_true.1 h1.2 j (List.mem_range.2 hj)⟩
 have hsz : ∀ d ∈ slots, d < base.size := fun d hd => of_decide_eq_true (List.all_eq_true.1 hz d hd)
 refine h hup (fun j d e => by simpa using (hall j d e).1) (fun i j d e1 e2 => ?_) hsz (fun i hi => by simp at hi)
 have := (hall i d e1).2 j (dstN_lt e2)
 rw [e2] at this
 simp at this
 exact this.symm
theorem relF_step {so : List Nat} {gs : List Pr} (g : Pr) (hl : gs.length < ops.size) (hm : Stay g)
 (hs : (∀ j d, dstN ops j = some d → d ∈ slots) → (∀ d ∈ slots, d < base.size) → (so.contains gs.length = false → StepOK P ops Q base df slots W0 (g :: gs) gs.length) ∧ (so.contains gs.length = true → StepF P ops Q base df slots W0 (g :: gs) gs.length)) (h : RelF P ops Q id base df slots W0 so (g :: gs)) : RelF P ops Q id base df slots W0 so gs := by
 intro hup hsl hinj hsz hall
 refine h hup hsl hinj hsz fun i hi => ?_
 rw [List.length_cons] at hi
 by_cases e : i = gs.length
 · subst e
   exact ⟨by rw [lkG_new]; exact hm, hs hsl hsz⟩
 · have hi' : i < gs.length := by omega
   obtain ⟨h1, h2, h3⟩ := hall i hi'
   rw [lkG_old _ _ _ hi']
   have hpre : ∀ (f : Nat → Value) (w : World), (∀ j ∈ preOf ops i, ∀ d, dstN ops j = some d → lkG (g :: gs) j (f d) w) → ∀ j ∈ preOf ops i, ∀ d, dstN ops j = some d → lkG gs j (f d) w := fun f w hp j hj d e => by
    have hlt := up_lt hup (by omega) hj
    have := hp j hj d e
    rwa [lkG_old _ _ _ (by omega)] at this
   refine ⟨h1, fun hso f w hb hp K hK => ?_, fun hso f w hb hp K hK => ?_⟩
   · rw [lkG_old _ _ _ hi'] at hK
     exact h2 hso f w hb (hpre f w hp) K hK
   · rw [lkG_old _ _ _ hi'] at hK
     exact h3 hso f w hb (hpre f w hp) K hK
theorem relF_pure {so : List Nat} {gs : List Pr} {i : Nat} {o : Oper} {v : Value} (hso : so.contains i = false) (ds : List (Nat × Nat × Nat)) (bs : List Nat) (hl : gs.length = i) (ho : ops[i]? = some o) (hd : depsOK ops i ds = true) (hb : (bs.all fun k => !slots.contains k) = true)
 (hy : ∀ t w, Below W0.heap.size W0 w → DepF gs t w ds → BasF base t bs → YieldsIf P ops (fun w' => w' = w) o v { tmps := t, defers := df })
 (h : RelF P ops Q id base df slots W0 so ((fun x _ => x = v) :: gs)) : RelF P ops Q id base df slots W0 so gs := by
 subst hl
 refine relF_step _ (Array.getElem?_eq_some_iff.1 ho).1 (fun _ _ _ h _ => h) (fun hsl hsz => ⟨fun _ => ?_, fun hc => (by rw [hso] at hc; cases hc)⟩) h
 intro f w hW hp K hK
 rw [lkG_new] at hK
 have hdp : DepF gs (regT base slots f) w ds := depF_of rfl hsl hsz (fun j hj d e hlt => by
  have := hp j hj d e
  rwa [lkG_old _ _ _ hlt] at this) hd
 have hY := hy (regT base slots f) w hW hdp (basF_of hb)
 have hdst : dstN ops gs.length = o.dst := by unfold dstN; rw [ho]; rfl
 rw [hdst] at hK
 exact hY.wpOp ho rfl (hK v w rfl (Below.refl _ _))
theorem relF_own {so : List Nat} {gs : List Pr} {i : Nat} {o : Oper} (hso : so.contains i = true) (g : Pr) (ds : List (Nat × Nat × Nat)) (bs : List Nat) (hl : gs.length = i) (ho : ops[i]? = some o) (hd : depsOK ops i ds = true) (hb : (bs.all fun k => !slots.contains k) = true) (hm : Stay g)
 (hw : ∀ t w, Below W0.heap.size W0 w → DepF gs t w ds → BasF base t bs → ∀ K : Act → World → Prop, Shut (∀ v w', g v w' → Below w.heap.size w w' → w.heap.size ≤ bkV v → bkV v < w'.heap.size → K ({ tmps := t, defers := df : Act }.put o.dst v) w') →
  Region.wanted o (yielded ops t) = true ∧ o.wp P { tmps := t, defers := df } w K Q)
 (h : RelF P ops Q id base df slots W0 so (g :: gs)) : RelF P ops Q id base df slots W0 so gs := by
 subst hl
 refine relF_step _ (Array.getElem?_eq_some_iff.1 ho).1 hm (fun hsl hsz => ⟨fun hc => (by rw [hso] at hc; cases hc), fun _ => ?_⟩) h
 intro f w hW hp K hK
 rw [lkG_new] at hK
 have hdp : DepF gs (regT base slots f) w ds := depF_of rfl hsl hsz (fun j hj d e hlt => by
  have := hp j hj d e
  rwa [lkG_old _ _ _ hlt] at this) hd
 have hdst : dstN ops gs.length = o.dst := by unfold dstN; rw [ho]; rfl
 rw [hdst] at hK
 obtain ⟨h1, h2⟩ := hw (regT base slots f) w hW hdp (basF_of hb) K hK
 unfold wpOp
 rw [ho]
 simp only [h1, if_true]
 exact .inl h2
theorem relF_tail {gs : List Pr} (m : Nat) (al : List (Nat × Nat)) (ps : List (Nat × Nat × Nat)) (hm : P.follows .mixedOrders = true) (hl : gs.length = m) (hps : (ps.all fun p => decide (p.1 + p.2.2 + 1 = m) && dstN ops p.1 == some p.2.1) = true) (ht : tailB ops m = true)
 (hlt : ∀ p ∈ al, p.1 < m) (hal : ∀ p ∈ al, dstN ops p.1 = some p.2)
 (h : ∀ f w, Below W0.heap.size W0 w → FinF gs f w ps → FreshB f w (fun _ => true) al → wpList P ops Q (ops.toList.drop m) { tmps := regT base slots f, defers := df } w) (hmn0 : decide (m ≤ ops.size) = true) : RelF P ops Q id base df slots W0 (al.map (·.1)) gs := by
 have hmn : m ≤ ops.size := of_decide_eq_true hmn0
 intro hup hsl hinj hsz hall0
 have hstay : ∀ i, i < gs.length → Stay (lkG gs i) := fun i hi => (hall0 i hi).1
 have hreach : ∀ (L : Nat → Bool), ClosedL ops L → ∀ i, i < ops.size → m ≤ i → (∀ k ∈ preOf ops i, L k = true) → ∀ j, j < i → L j = true := by
  intro L hc i hi hmi hp j hj
  have h1 := List.all_eq_true.1 ht i (List.mem_range.2 hi)
  simp only [Bool.or_eq_true, decide_eq_true_eq] at h1
  have h2 := List.all_eq_true.1 (h1.resolve_left (by omega)) j (List.mem_range.2 hj)
  exact needsN_out hc 6 i j h2 hp
 have hclo : ∀ (L : Nat → Bool) i, ClosedL ops L → (∀ k ∈ preOf ops i, L k = true) → ClosedL ops (fun j => j == i || L j) := by
  intro L i hc hp k hk j hj
  have hk' : (k == i || L k) = true := hk
  have : L j = true := by
   by_cases e : k = i
   · subst e; exact hp j hj
   · exact hc k (by simpa [e] using hk') j hj
  show (j == i || L j) = true
  rw [this]; simp
 have hfin : ∀ (L : Nat → Bool) f w, (∀ i d, dstN ops i = some d → L i = true → lkG gs i (f d) w) → (∀ j, j < m → L j = true) → FinF gs f w ps := by
  intro L f w hL hj
  clear h
  induction ps with
  | nil => trivial
  | cons p ps ih =>
   simp only [List.all_cons, Bool.and_eq_true] at hps
   obtain ⟨⟨h1, h2⟩, h3⟩ := hps
   have hj' : p.1 + p.2.2 + 1 = m := by simpa using h1
   have h5 := hL p.1 p.2.1 (by simpa using h2) (hj _ (by omega))
   unfold lkG at h5
   rw [if_pos (by omega), show gs.length - 1 - p.1 = p.2.2 by omega] at h5
   exact ⟨⟨f p.2.1, rfl, h5⟩, ih h3⟩
 refine region_inv (fun L a w => ClosedL ops L ∧ ((∃ f, a = { tmps := regT base slots f, defers := df } ∧ Below W0.heap.size W0 w ∧ (∀ i d, dstN ops i = some d → L i = true → lkG gs i (f d) w) ∧ (∀ i, m ≤ i → L i = false) ∧ FreshB f w L al) ∨
  ∃ i0, m < i0 ∧ (∀ j, j < i0 → L j = true) ∧ (∀ j, i0 ≤ j → L j = false) ∧ wpList P ops Q (ops.toList.drop i0) a w)) hm hup
  ⟨(fun _ h => by cases h), .inl ⟨fun k => base.getD k undef, by rw [regT_id], (Below.refl _ _).drew, fun _ _ _ h => (by cases h), fun _ _ => rfl, fun _ _ h => (by cases h), fun _ _ _ _ _ h => (by cases h)⟩⟩ ?_ ?_
 · rintro i hi L a w ⟨hc, hAB⟩ hLi hpre
   have hc' := hclo L i hc hpre
   rcases hAB with ⟨f, rfl, hW, hL, hno, hO⟩ | ⟨i0, hi0, hle, hge, hwl⟩
   · by_cases him : i < m
     · by_cases hso : (al.map (·.1)).contains i = true
       · obtain ⟨p, hp, rfl⟩ := List.mem_map.1 (by simpa using hso : i ∈ al.map (·.1))
         have hd := hal p hp
         refine (hall0 p.1 (by omega)).2.2 hso f w hW (fun j hj d e => hL j d e (hpre j hj)) _ fun v w' hg hb hf1 hf2 => ⟨hc', .inl ⟨updF f p.2 v, ?_, hW.trans (hb.mono hW.size), fun j d e hj => ?_, fun k hk => ?_, ?_⟩⟩
         · rw [hd]
           show ({ tmps := (regT base slots f).setIfInBounds p.2 _, defers := df } : Act) = _
           rw [regT_put _ _ _ _ _ (hsl p.1 p.2 hd)]
         · by_cases hne : j = p.1
           · subst hne
             rw [hd] at e
             cases e
             unfold updF
             rw [if_pos rfl]
             exact hg
           · have h3 : d ≠ p.2 := fun e' => hne (hinj j p.1 d e (e' ▸ hd))
             unfold updF
             rw [if_neg h3]
             have hLj : L j = true := by simpa [hne] using hj
             have hjm : j < m := by
              rcases Nat.lt_or_ge j m with hh | hh
              · exact hh
              · rw [hno j hh] at hLj; cases hLj
             exact hstay j (by omega) _ _ _ (hL j d e hLj) hb
         · show (k == p.1 || L k) = false
           rw [hno k hk]; simp; omega
         · exact freshB_new hp (fun q hq hq1 => by have h1 := hal q hq; rw [hq1, hd] at h1; exact (Option.some.inj h1).symm) (fun q hq hq2 => hinj q.1 p.1 p.2 (hq2 ▸ hal q hq) hd) hb hf1 hf2 hO
       have h2 := (hall0 i (by omega)).2.1 (by simpa using hso)
       have hni : ∀ q ∈ al, q.1 ≠ i := fun q hq e => hso (by simpa using ⟨q.2, by rw [← e]; exact hq⟩)
       refine h2 f w hW (fun j hj d e => hL j d e (hpre j hj)) _ fun v w' hg hb => ⟨hc', .inl ?_⟩
       have hW' := hW.trans (hb.mono hW.size)
       have hno' : ∀ k, m ≤ k → (k == i || L k) = false := fun k hk => by rw [hno k hk]; simp; omega
       cases hdi : dstN ops i with
       | none =>
        refine ⟨f, rfl, hW', fun j d e hj => ?_, hno', freshB_same hni hO hb⟩
        have hne : j ≠ i := fun e' => by rw [e', hdi] at e; cases e
        have hLj : L j = true := by simpa [hne] using hj
        have hjm : j < m := by
         rcases Nat.lt_or_ge j m with hh | hh
         · exact hh
         · rw [hno j hh] at hLj; cases hLj
        exact hstay j (by omega) _ _ _ (hL j d e hLj) hb
       | some di =>
        refine ⟨updF f di v, ?_, hW', fun j d e hj => ?_, hno', freshB_upd hni (fun q hq e => hni q hq (hinj q.1 i di (e ▸ hal q hq) hdi)) hO hb⟩
        · show ({ tmps := (regT base slots f).setIfInBounds di v, defers := df } : Act) = _
          rw [regT_put _ _ _ _ _ (hsl i di hdi)]
        · unfold updF
          by_cases hne : j = i
          · subst hne
            rw [hdi] at e
            cases e
            rw [if_pos rfl]
            exact hg
          · have h3 : d ≠ di := fun e' => hne (hinj j i d e (e' ▸ hdi))
            rw [if_neg h3]
            have hLj : L j = true := by simpa [hne] using hj
            have hjm : j < m := by
             rcases Nat.lt_or_ge j m with hh | hh
             · exact hh
             · rw [hno j hh] at hLj; cases hLj
            exact hstay j (by omega) _ _ _ (hL j d e hLj) hb
     · have hr := hreach L hc i hi (by omega) hpre
       have him' : i = m := by
        rcases Nat.lt_or_ge m i with hh | hh
        · have := hr m hh; rw [hno m (Nat.le_refl _)] at this; cases this
        · omega
       subst him'
       refine wpOp_mono (fun a' w' hk => ⟨hc', .inr ⟨i + 1, by omega, fun j hj => ?_, fun j hj => ?_, hk⟩⟩) (wpList_wpOp hi (h f w hW (hfin L f w hL hr) (freshB_all hO (fun q hq => hr q.1 (hlt q hq)))))
       · by_cases e : j = i
         · subst e; simp
         · have := hr j (by omega); show (j == i || L j) = true; rw [this]; simp
       · show (j == i || L j) = false
         rw [hno j (by omega)]; simp; omega
   · have hi0' : i0 ≤ i := by
      rcases Nat.lt_or_ge i i0 with hh | hh
      · rw [hle i hh] at hLi; cases hLi
      · exact hh
     have hr := hreach L hc i hi (by omega) hpre
     have hii : i = i0 := by
      rcases Nat.lt_or_ge i0 i with hh | hh
      · have := hr i0 hh; rw [hge i0 (Nat.le_refl _)] at this; cases this
      · omega
     subst hii
     refine wpOp_mono (fun a' w' hk => ⟨hc', .inr ⟨i + 1, by omega, fun j hj => ?_, fun j hj => ?_, hk⟩⟩) (wpList_wpOp hi hwl)
     · by_cases e : j = i
       · subst e; simp
       · have := hle j (by omega); show (j == i || L j) = true; rw [this]; simp
     · show (j == i || L j) = false
       rw [hge j (by omega)]; simp; omega
 · rintro L a w ⟨hc, hAB⟩ hLall
   rcases hAB with ⟨f, rfl, hW, hL, hno, hO⟩ | ⟨i0, hi0, hle, hge, hwl⟩
   · have hmn' : ops.size ≤ m := by
      rcases Nat.lt_or_ge m ops.size with hh | hh
      · have := hLall m hh; rw [hno m (Nat.le_refl _)] at this; cases this
      · exact hh
     have := h f w hW (hfin L f w hL (fun j hj => hLall j (by omega))) (freshB_all hO (fun q hq => hLall q.1 (by have := hlt q hq; omega)))
     rw [List.drop_eq_nil_of_le (by simpa using hmn')] at this
     exact this
   · have hn : ops.size ≤ i0 := by
      rcases Nat.lt_or_ge i0 ops.size with hh | hh
      · have := hLall i0 hh; rw [hge i0 (Nat.le_refl _)] at this; cases this
      · exact hh
     rw [List.drop_eq_nil_of_le (by simpa using hn)] at hwl
     exact hwl
end
end Go.Proofs.YtjlliohjeiclaaaGreatDoor
