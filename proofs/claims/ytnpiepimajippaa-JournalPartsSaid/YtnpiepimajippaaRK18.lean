/- Words, contracts and walks that the proof stands on (JoQ OpenC OpenE). -/
import Derived.Deep.Grids
import Derived.Deep.Slices
import Derived.OpenShut
import Derived.ProofKit
import Derived.SliceStrings
import Derived.Test.YtnpiepimajippaaRK14
import Derived.Test.YtnpiepimajippaaRK17
import Derived.Test.YtnpiepimajippaaRK4
namespace Go.Proofs.Ytnpiepimajippaa
open Go.RowKit St Pm
theorem partV_iff {a b : List Ev} : partV a b = true ↔ ∀ x ∈ a, x ∈ b := by
 unfold partV
 rw [List.all_eq_true]
 exact ⟨fun h x hx => hasEv_iff.1 (h x hx), fun h x hx => hasEv_iff.2 (h x hx)⟩
theorem partV_sort (a b : List Ev) : partV (sortV a) (sortV b) = partV a b := by
 rw [Bool.eq_iff_iff, partV_iff, partV_iff]
 exact ⟨fun h x hx => sortV_mem.1 (h x (sortV_mem.2 hx)), fun h x hx => sortV_mem.2 (h x (sortV_mem.1 hx))⟩
theorem sinV_iff {a b : List Ev} : sinV a b = true ↔ ∀ x ∈ a, ∀ y ∈ b, x.1 = y.1 → x.2 = y.2 := by
 unfold sinV sinE
 rw [List.all_eq_true]
 refine forall_congr' fun x => forall_congr' fun _ => ?_
 rw [List.all_eq_true]
 refine forall_congr' fun y => forall_congr' fun _ => ?_
 by_cases h : x.1 = y.1 <;> simp [h]
theorem st_inj {x y : Ev} (hx : okV x = true) (hy : okV y = true) (h : (toE x).1 = (toE y).1) : x.1 = y.1 := by
 have h1 := congrArg (fun p : Ev => p.1) (okV_toE hx).2
 have h2 := congrArg (fun p : Ev => p.1) (okV_toE hy).2
 rw [← h1, ← h2]
 show (toE x).1.sv = (toE y).1.sv
 rw [h]
theorem three_parts {ls la lo : List Ev} {s a o : Tr ByteArray} (hs : Reg ls s) (ha : Reg la a) (ho : Reg lo o) (h12 : partV ls la = true) (h13 : partV ls lo = true) (hsi : sinV la lo = true) :
   partV la (thrV ls la lo) = true ∧ partV lo (thrV ls la lo) = true ∧ ∀ x ∈ thrV ls la lo, x ∈ la ∨ x ∈ lo := by
 have hm := (els_mem (ls.map toE) (la.map toE) (lo.map toE) (fun x hx => (List.mem_append.1 hx).elim (ha.okk x) (ho.okk x)) _ (la.map toE) (lo.map toE) (Nat.le_refl _) ha.srtE ho.srtE (left_start _ _)).2
 rw [partV_iff] at h12 h13
 rw [sinV_iff] at hsi
 have up : ∀ (x : Ev), okV x = true → toE x ∈ elsF (ls.map toE) (la.map toE) (lo.map toE) (la.map toE) (lo.map toE) → x ∈ thrV ls la lo := fun x hx h => by
   unfold thrV
   exact List.mem_map.2 ⟨toE x, h, (okV_toE hx).2⟩
 have h1 : ∀ x ∈ la, x ∈ thrV ls la lo := fun x hx => by
   refine up x (ha.ok x hx) ((hm _).2 (.inl ⟨List.mem_map.2 ⟨x, hx, rfl⟩, ?_⟩))
   cases hB : hasS (lo.map toE) (toE x).1 with
   | true => exact .inl rfl
   | false =>
     cases hb : hasS (ls.map toE) (toE x).1 with
     | false => exact .inr rfl
     | true =>
       obtain ⟨z, hz, e⟩ := hasS_iff.1 hb
       obtain ⟨y, hy, rfl⟩ := List.mem_map.1 hz
       have := hasS_iff.2 ⟨toE y, List.mem_map.2 ⟨y, h13 y hy, rfl⟩, e⟩
       rw [this] at hB; cases hB
 refine ⟨partV_iff.2 h1, partV_iff.2 fun x hx => ?_, fun x hx => ?_⟩
 · cases hA : hasS (la.map toE) (toE x).1 with
   | true =>
     obtain ⟨z, hz, e⟩ := hasS_iff.1 hA
     obtain ⟨y, hy, rfl⟩ := List.mem_map.1 hz
     have e1 := st_inj (ha.ok y hy) (ho.ok x hx) e
     have e2 := hsi y hy x hx e1
     rw [← show y = x from Prod.ext e1 e2]
     exact h1 y hy
   | false =>
     refine up x (ho.ok x hx) ((hm _).2 (.inr ⟨List.mem_map.2 ⟨x, hx, rfl⟩, hA, ?_⟩))
     cases hb : hasS (ls.map toE) (toE x).1 with
     | false => rfl
     | true =>
       obtain ⟨z, hz, e⟩ := hasS_iff.1 hb
       obtain ⟨y, hy, rfl⟩ := List.mem_map.1 hz
       have := hasS_iff.2 ⟨toE y, List.mem_map.2 ⟨y, h12 y hy, rfl⟩, e⟩
       rw [this] at hA; cases hA
 · obtain ⟨z, hz, rfl⟩ := List.mem_map.1 hx
   rcases (hm z).1 hz with h | h
   · obtain ⟨y, hy, rfl⟩ := List.mem_map.1 h.1
     exact .inl (by rw [(okV_toE (ha.ok y hy)).2]; exact hy)
   · obtain ⟨y, hy, rfl⟩ := List.mem_map.1 h.1
     exact .inr (by rw [(okV_toE (ho.ok y hy)).2]; exact hy)
theorem part_kk {l1 l2 : List Ev} {a b : Tr ByteArray} (v : Bool) (W : World) (a1 : AtS W a) (a2 : AtS W b) (h1 : Reg l1 a) (h2 : Reg l2 b) (z1 : l1.length ≤ 100000) (z2 : l2.length ≤ 100000) (hv : partV l1 l2 = v) :
   Calls Try.prog 33 #[.agg #[.pointer (pa a)], .agg #[.pointer (pa b)]] W fun e w' => e = .returned (.bool v) ∧ Below W.heap.size W w' := by
 rw [← hv, ← part_reg h1 h2]
 exact jo_Part a b W a1 a2 (by rw [h1.len]; exact z1) (by rw [h2.len]; exact z2) h1.keys h2.keys
set_option maxRecDepth 100000 in
set_option maxHeartbeats 4000000 in
theorem law_Parts (l1 l2 l3 : List Ev) (a1 a2 a3 : Option Addr) (n1 n2 n3 c1 c2 c3 : Nat) (w : World) (h1 : CellsAt w a1 (elsV l1)) (h2 : CellsAt w a2 (elsV l2)) (h3 : CellsAt w a3 (elsV l3)) (hn1 : n1 = l1.length) (hn2 : n2 = l2.length) (hn3 : n3 = l3.length)
   (b1 : n1 ≤ 9223372036854775807) (b2 : n2 ≤ 9223372036854775807) (b3 : n3 ≤ 9223372036854775807) (z1 : ∀ e ∈ l1, e.1.l.size ≤ 9223372036854775807) (z2 : ∀ e ∈ l2, e.1.l.size ≤ 9223372036854775807) (z3 : ∀ e ∈ l3, e.1.l.size ≤ 9223372036854775807) :
   Calls Try.prog 11 #[.slice a1 n1 c1, .slice a2 n2 c2, .slice a3 n3 c3] w fun e w' => e = .returned (.bool true) ∧ Below w.heap.size w w' := by
 have H1 := Lib.hid h1
 have H2 := Lib.hid h2
 have H3 := Lib.hid h3
 have N1 := Lib.hid hn1
 have N2 := Lib.hid hn2
 have N3 := Lib.hid hn3
 have B1 := Lib.hid b1
 have B2 := Lib.hid b2
 have B3 := Lib.hid b3
 have Z1 := Lib.hid z1
 have Z2 := Lib.hid z2
 have Z3 := Lib.hid z3
 clear h1 h2 h3 hn1 hn2 hn3 z1 z2 z3
 have HC : Hid (Chain [w] w) := Lib.hid (Chain.one w)
 go_enter Try.func11, Try.ntmps11
 go_wp2_with fail
 refine (known_14 _).mono ?_
 rintro e w1 ⟨rfl, hb⟩
 replace HC := Lib.hid (HC.out.push hb)
 clear hb
 go_upto_region 3 with (fail)
 by_cases q1 : 60 < n1
 · have q1i : (60 : Int) < (n1 : Int) := by omega
   go_wp2_with fail
   go_ret
   exact ⟨rfl, (HC.out.to w (by simp))⟩
 have q1i : ¬ (60 : Int) < (n1 : Int) := by omega
 have q1d : decide ((60 : Int) < (n1 : Int)) = false := decide_eq_false q1i
 by_cases q2 : 60 < n2
 · have q2i : (60 : Int) < (n2 : Int) := by omega
   go_wp2_with fail
   go_ret
   exact ⟨rfl, (HC.out.to w (by simp))⟩
 have q2i : ¬ (60 : Int) < (n2 : Int) := by omega
 have q2d : decide ((60 : Int) < (n2 : Int)) = false := decide_eq_false q2i
 by_cases q3 : 60 < n3
 · have q3i : (60 : Int) < (n3 : Int) := by omega
   go_wp2_with fail
   go_ret
   exact ⟨rfl, (HC.out.to w (by simp))⟩
 have q3i : ¬ (60 : Int) < (n3 : Int) := by omega
 have q3d : decide ((60 : Int) < (n3 : Int)) = false := decide_eq_false q3i
 go_wp2_with fail
 refine (ref14_May l1 _ n1 c1 _ (H1.out.below (HC.out.to w (by simp)) rfl) N1.out B1.out Z1.out).mono ?_
 rintro e m1 ⟨rfl, hb⟩
 replace HC := Lib.hid (HC.out.push hb)
 clear hb
 cases hm1 : mayV l1
 case false =>
   go_wp2_with fail
   go_ret
   exact ⟨rfl, (HC.out.to w (by simp))⟩
 have HM1 := Lib.hid hm1
 clear hm1
 go_wp2_with fail
 refine (ref14_May l2 _ n2 c2 _ (H2.out.below (HC.out.to w (by simp)) rfl) N2.out B2.out Z2.out).mono ?_
 rintro e m2 ⟨rfl, hb⟩
 replace HC := Lib.hid (HC.out.push hb)
 clear hb
 cases hm2 : mayV l2
 case false =>
   go_wp2_with fail
   go_ret
   exact ⟨rfl, (HC.out.to w (by simp))⟩
 have HM2 := Lib.hid hm2
 clear hm2
 go_wp2_with fail
 refine (ref14_May l3 _ n3 c3 _ (H3.out.below (HC.out.to w (by simp)) rfl) N3.out B3.out Z3.out).mono ?_
 rintro e m3 ⟨rfl, hb⟩
 replace HC := Lib.hid (HC.out.push hb)
 clear hb
 cases hm3 : mayV l3
 case false =>
   go_wp2_with fail
   go_ret
   exact ⟨rfl, (HC.out.to w (by simp))⟩
 have HM3 := Lib.hid hm3
 clear hm3
 go_wp2_with fail
 refine (of_reg14 l1 _ n1 c1 _ (H1.out.below (HC.out.to w (by simp)) rfl) N1.out (by omega) Z1.out).mono ?_
 rintro e o1 ⟨t1, ce, rfl, ht, hb, hbl, hP⟩
 replace HC := Lib.hid (HC.out.push hb)
 clear hb
 obtain ⟨rfl, hr⟩ : ce = 0 ∧ Reg (sortV l1) t1 := by
   rcases hP with ⟨_, h1, h2⟩ | ⟨h, _⟩
   · exact ⟨h1, h2⟩
   · rw [HM1.out] at h; cases h
 have R1 := Lib.hid hr
 have T1 := Lib.hid ht
 have BL1 := Lib.hid hbl
 clear hP hr ht hbl
 go_upto_region 6 with (fail)
 obtain ⟨d1, hd1⟩ : ∃ c, o1.heap.size = c := ⟨_, rfl⟩
 try rw [hd1]
 obtain ⟨x1, hx1⟩ : ∃ X, allocs o1 [.cells #[.pointer (pa t1)] 27] = X := ⟨_, rfl⟩
 rw [show o1.alloc (.cells #[.pointer (pa t1)] 27) = x1 from hx1]
 have hb : Below o1.heap.size o1 x1 := by rw [← hx1]; exact allocs_below _ _
 have HX : Hid (x1.heap[d1]? = some (.cells #[.pointer (pa t1)] 27 (0, 0))) := Lib.hid (by have := allocs_get [.cells #[.pointer (pa t1)] 27] o1 0 _ rfl; rw [hx1, hd1] at this; exact this)
 have Sd1 : Hid (o1.heap.size = d1) := Lib.hid hd1
 replace HC := Lib.hid (HC.out.push hb)
 clear hb hx1 hd1
 have SX1 : Hid (o1.heap.size ≤ x1.heap.size) := Lib.hid (HC.out.to o1 (by simp)).size
 go_wp2_with fail
 refine (of_reg14 l2 _ n2 c2 _ (H2.out.below (HC.out.to w (by simp)) rfl) N2.out (by omega) Z2.out).mono ?_
 rintro e o2 ⟨t2, ce, rfl, ht, hb, hbl, hP⟩
 replace HC := Lib.hid (HC.out.push hb)
 clear hb
 obtain ⟨rfl, hr⟩ : ce = 0 ∧ Reg (sortV l2) t2 := by
   rcases hP with ⟨_, h1, h2⟩ | ⟨h, _⟩
   · exact ⟨h1, h2⟩
   · rw [HM2.out] at h; cases h
 have R2 := Lib.hid hr
 have T2 := Lib.hid ht
 have BL2 := Lib.hid hbl
 clear hP hr ht hbl
 go_upto_region 7 with (fail)
 obtain ⟨d2, hd2⟩ : ∃ c, o2.heap.size = c := ⟨_, rfl⟩
 try rw [hd2]
 obtain ⟨x2, hx2⟩ : ∃ X, allocs o2 [.cells #[.pointer (pa t2)] 27] = X := ⟨_, rfl⟩
 rw [show o2.alloc (.cells #[.pointer (pa t2)] 27) = x2 from hx2]
 have hb : Below o2.heap.size o2 x2 := by rw [← hx2]; exact allocs_below _ _
 have HY : Hid (x2.heap[d2]? = some (.cells #[.pointer (pa t2)] 27 (0, 0))) := Lib.hid (by have := allocs_get [.cells #[.pointer (pa t2)] 27] o2 0 _ rfl; rw [hx2, hd2] at this; exact this)
 have Sd2 : Hid (o2.heap.size = d2) := Lib.hid hd2
 replace HC := Lib.hid (HC.out.push hb)
 clear hb hx2 hd2
 go_wp2_with fail
 refine (of_reg14 l3 _ n3 c3 _ (H3.out.below (HC.out.to w (by simp)) rfl) N3.out (by omega) Z3.out).mono ?_
 rintro e o3 ⟨t3, ce, rfl, ht, hb, hbl, hP⟩
 replace HC := Lib.hid (HC.out.push hb)
 clear hb
 obtain ⟨rfl, hr⟩ : ce = 0 ∧ Reg (sortV l3) t3 := by
   rcases hP with ⟨_, h1, h2⟩ | ⟨h, _⟩
   · exact ⟨h1, h2⟩
   · rw [HM3.out] at h; cases h
 have R3 := Lib.hid hr
 have T3 := Lib.hid ht
 clear hP hr ht hbl
 go_upto_region 8 with (fail)
 obtain ⟨d3, hd3⟩ : ∃ c, o3.heap.size = c := ⟨_, rfl⟩
 try rw [hd3]
 obtain ⟨x3, hx3⟩ : ∃ X, allocs o3 [.cells #[.pointer (pa t3)] 27] = X := ⟨_, rfl⟩
 rw [show o3.alloc (.cells #[.pointer (pa t3)] 27) = x3 from hx3]
 have hb : Below o3.heap.size o3 x3 := by rw [← hx3]; exact allocs_below _ _
 have HZ : Hid (x3.heap[d3]? = some (.cells #[.pointer (pa t3)] 27 (0, 0))) := Lib.hid (by have := allocs_get [.cells #[.pointer (pa t3)] 27] o3 0 _ rfl; rw [hx3, hd3] at this; exact this)
 have Sd3 : Hid (o3.heap.size = d3) := Lib.hid hd3
 replace HC := Lib.hid (HC.out.push hb)
 clear hb hx3 hd3
 have DJ12 : Hid (Dj t1 t2) := Lib.hid (dj_of T1.out.lt fun b hb => Nat.le_trans SX1.out (BL2.out b hb))
 have L1 : Hid (n1 = (sortV l1).length) := Lib.hid (by rw [sortV_length]; exact N1.out)
 have L2 : Hid (n2 = (sortV l2).length) := Lib.hid (by rw [sortV_length]; exact N2.out)
 have L3 : Hid (n3 = (sortV l3).length) := Lib.hid (by rw [sortV_length]; exact N3.out)
 have K1 : Hid ((sortV l1).length ≤ 100000) := Lib.hid (by rw [← L1.out]; omega)
 have K2 : Hid ((sortV l2).length ≤ 100000) := Lib.hid (by rw [← L2.out]; omega)
 have K3 : Hid ((sortV l3).length ≤ 100000) := Lib.hid (by rw [← L3.out]; omega)
 have K4 : Hid ((thrV (sortV l1) (sortV l2) (sortV l3)).length ≤ 100000) := Lib.hid (by have := thrV_len (ls := sortV l1) (la := sortV l2) (lo := sortV l3); have := L2.out; have := L3.out; omega)
 have V12 := Lib.hid (partV_sort l1 l2)
 have V23 := Lib.hid (partV_sort l2 l3)
 have FIN : Hid (partV l1 l2 = true → partV l1 l3 = true → sinV l2 l3 = true → partV (sortV l2) (thrV (sortV l1) (sortV l2) (sortV l3)) = true ∧ partV (sortV l3) (thrV (sortV l1) (sortV l2) (sortV l3)) = true ∧ ∀ x ∈ thrV (sortV l1) (sortV l2) (sortV l3), hasEv l2 x = true ∨ hasEv l3 x = true) := Lib.hid (fun e1 e2 e3 => by
   obtain ⟨f1, f2, f3⟩ := three_parts R1.out R2.out R3.out (by rw [partV_sort]; exact e1) (by rw [partV_sort]; exact e2) (sinV_iff.2 fun x hx y hy => sinV_iff.1 e3 x (sortV_mem.1 hx) y (sortV_mem.1 hy))
   exact ⟨f1, f2, fun x hx => (f3 x hx).imp (fun h => hasEv_iff.2 (sortV_mem.1 h)) (fun h => hasEv_iff.2 (sortV_mem.1 h))⟩)
 have P12 : Hid (∀ W, CellsAt W a1 (elsV l1) → CellsAt W a2 (elsV l2) → Calls Try.prog 72 #[.slice a1 n1 c1, .slice a2 n2 c2] W fun e w' => e = .returned (.bool (partV l1 l2)) ∧ Below W.heap.size W w') := Lib.hid (fun W h1 h2 => part_14 l1 l2 a1 a2 n1 n2 c1 c2 W h1 N1.out (by omega) h2 N2.out (by omega))
 have P13 : Hid (∀ W, CellsAt W a1 (elsV l1) → CellsAt W a3 (elsV l3) → Calls Try.prog 72 #[.slice a1 n1 c1, .slice a3 n3 c3] W fun e w' => e = .returned (.bool (partV l1 l3)) ∧ Below W.heap.size W w') := Lib.hid (fun W h1 h2 => part_14 l1 l3 a1 a3 n1 n3 c1 c3 W h1 N1.out (by omega) h2 N3.out (by omega))
 have P23 : Hid (∀ W, CellsAt W a2 (elsV l2) → CellsAt W a3 (elsV l3) → Calls Try.prog 72 #[.slice a2 n2 c2, .slice a3 n3 c3] W fun e w' => e = .returned (.bool (partV l2 l3)) ∧ Below W.heap.size W w') := Lib.hid (fun W h1 h2 => part_14 l2 l3 a2 a3 n2 n3 c2 c3 W h1 N2.out (by omega) h2 N3.out (by omega))
 have S23 : Hid (∀ W, CellsAt W a2 (elsV l2) → CellsAt W a3 (elsV l3) → Calls Try.prog 73 #[.slice a2 n2 c2, .slice a3 n3 c3] W fun e w' => e = .returned (.bool (sinV l2 l3)) ∧ Below W.heap.size W w') := Lib.hid (fun W h1 h2 => single_14 l2 l3 a2 a3 n2 n3 c2 c3 W h1 N2.out (by omega) h2 N3.out (by omega))
 generalize partV l1 l2 = v12 at *
 generalize partV l1 l3 = v13 at *
 generalize partV l2 l3 = v23 at *
 generalize sinV l2 l3 = s23 at *
 generalize sortV l1 = p1 at *
 generalize sortV l2 = p2 at *
 generalize sortV l3 = p3 at *
 have kY0 := cell_of_one (boxStays HY.out (HC.out.to x2 (by simp)))
 have kZ0 := cell_of_one HZ.out
 go_wp2_with fail
 refine (part_kk v23 _ (T2.out.below (HC.out.to o2 (by simp)) rfl) (T3.out.below (HC.out.to o3 (by simp)) rfl) R2.out R3.out K2.out K3.out V23.out).mono ?_
 rintro e u1 ⟨rfl, hb⟩
 clear kY0 kZ0
 replace HC := Lib.hid (HC.out.push hb)
 clear hb
 go_wp2_with fail
 refine (P23.out _ (H2.out.below (HC.out.to w (by simp)) rfl) (H3.out.below (HC.out.to w (by simp)) rfl)).mono ?_
 rintro e u2 ⟨rfl, hb⟩
 replace HC := Lib.hid (HC.out.push hb)
 clear hb
 have kX0 := cell_of_one (boxStays HX.out (HC.out.to x1 (by simp)))
 have kY0 := cell_of_one (boxStays HY.out (HC.out.to x2 (by simp)))
 go_wp2_with fail
 refine (part_kk v12 _ (T1.out.below (HC.out.to o1 (by simp)) rfl) (T2.out.below (HC.out.to o2 (by simp)) rfl) R1.out R2.out K1.out K2.out V12.out).mono ?_
 rintro e u3 ⟨rfl, hb⟩
 clear kX0 kY0
 replace HC := Lib.hid (HC.out.push hb)
 clear hb
 go_wp2_with fail
 refine (P12.out _ (H1.out.below (HC.out.to w (by simp)) rfl) (H2.out.below (HC.out.to w (by simp)) rfl)).mono ?_
 rintro e u4 ⟨rfl, hb⟩
 replace HC := Lib.hid (HC.out.push hb)
 clear hb
 go_wp2_with fail
 refine (P12.out _ (H1.out.below (HC.out.to w (by simp)) rfl) (H2.out.below (HC.out.to w (by simp)) rfl)).mono ?_
 rintro e u5 ⟨rfl, hb⟩
 replace HC := Lib.hid (HC.out.push hb)
 clear hb
 cases v12
 case false =>
   go_wp2_with fail
   go_ret
   exact ⟨rfl, (HC.out.to w (by simp))⟩
 go_wp2_with fail
 refine (P13.out _ (H1.out.below (HC.out.to w (by simp)) rfl) (H3.out.below (HC.out.to w (by simp)) rfl)).mono ?_
 rintro e u6 ⟨rfl, hb⟩
 replace HC := Lib.hid (HC.out.push hb)
 clear hb
 cases v13
 case false =>
   go_wp2_with fail
   go_ret
   exact ⟨rfl, (HC.out.to w (by simp))⟩
 go_wp2_with fail
 refine (S23.out _ (H2.out.below (HC.out.to w (by simp)) rfl) (H3.out.below (HC.out.to w (by simp)) rfl)).mono ?_
 rintro e u7 ⟨rfl, hb⟩
 replace HC := Lib.hid (HC.out.push hb)
 clear hb
 cases s23
 case false =>
   go_wp2_with fail
   go_ret
   exact ⟨rfl, (HC.out.to w (by simp))⟩
 obtain ⟨f1, f2, f3⟩ := FIN.out (by trivial) (by trivial) (by trivial)
 have F1 := Lib.hid f1
 have F2 := Lib.hid f2
 have F3 := Lib.hid f3
 clear f1 f2 f3
 go_upto_region 12 with (fail)
 have kX0 := cell_of_one (boxStays HX.out (HC.out.to x1 (by simp)))
 have kY0 := cell_of_one (boxStays HY.out (HC.out.to x2 (by simp)))
 have kZ0 := cell_of_one (boxStays HZ.out (HC.out.to x3 (by simp)))
 go_wp2_with fail
 refine (thr_reg14 _ R1.out R2.out R3.out (T1.out.below (HC.out.to o1 (by simp)) rfl) (T2.out.below (HC.out.to o2 (by simp)) rfl) (T3.out.below (HC.out.to o3 (by simp)) rfl) K1.out K2.out K3.out (.inl DJ12.out)).mono ?_
 rintro e u8 ⟨m, rfl, hm, hb, hr⟩
 clear kX0 kY0 kZ0
 replace HC := Lib.hid (HC.out.push hb)
 clear hb
 have RM := Lib.hid hr
 have TM := Lib.hid hm
 clear hr hm
 generalize thrV p1 p2 p3 = L at *
 go_upto_region 13 with (fail)
 obtain ⟨g1, hg1⟩ : ∃ c, u8.heap.size = c := ⟨_, rfl⟩
 try rw [hg1]
 obtain ⟨y1, hy1⟩ : ∃ X, allocs u8 [.cells #[.pointer (pa m)] 27] = X := ⟨_, rfl⟩
 rw [show u8.alloc (.cells #[.pointer (pa m)] 27) = y1 from hy1]
 have hb : Below u8.heap.size u8 y1 := by rw [← hy1]; exact allocs_below _ _
 have HM : Hid (y1.heap[g1]? = some (.cells #[.pointer (pa m)] 27 (0, 0))) := Lib.hid (by have := allocs_get [.cells #[.pointer (pa m)] 27] u8 0 _ rfl; rw [hy1, hg1] at this; exact this)
 have Sg1 : Hid (u8.heap.size = g1) := Lib.hid hg1
 replace HC := Lib.hid (HC.out.push hb)
 clear hb hy1 hg1
 have kM0 := cell_of_one HM.out
 go_wp2_with fail
 refine (els_reg14 _ (TM.out.below (HC.out.to u8 (by simp)) rfl) RM.out K4.out).mono ?_
 rintro e e1 ⟨v, rfl, hb, hown⟩
 clear kM0
 replace HC := Lib.hid (HC.out.push hb)
 clear hb
 obtain ⟨ae1, ce1, rfl, _⟩ := own_slice hown
 have E1 : Hid (CellsAt e1 ae1 (elsV L)) := Lib.hid (CellsAt.ownN hown)
 clear hown
 go_wp2_with fail
 refine (num_14 0 _).mono ?_
 rintro e _ ⟨rfl, rfl⟩
 go_wp2_with fail
 refine (num_14 0 _).mono ?_
 rintro e _ ⟨rfl, rfl⟩
 have kY0 := cell_of_one (boxStays HY.out (HC.out.to x2 (by simp)))
 have kM0 := cell_of_one (boxStays HM.out (HC.out.to y1 (by simp)))
 go_wp2_with fail
 refine (part_kk true _ (T2.out.below (HC.out.to o2 (by simp)) rfl) (TM.out.below (HC.out.to u8 (by simp)) rfl) R2.out RM.out K2.out K4.out F1.out).mono ?_
 rintro e e2 ⟨rfl, hb⟩
 clear kY0 kM0
 replace HC := Lib.hid (HC.out.push hb)
 clear hb
 have kZ0 := cell_of_one (boxStays HZ.out (HC.out.to x3 (by simp)))
 have kM0 := cell_of_one (boxStays HM.out (HC.out.to y1 (by simp)))
 go_wp2_with fail
 refine (part_kk true _ (T3.out.below (HC.out.to o3 (by simp)) rfl) (TM.out.below (HC.out.to u8 (by simp)) rfl) R3.out RM.out K3.out K4.out F2.out).mono ?_
 rintro e e3 ⟨rfl, hb⟩
 clear kZ0 kM0
 replace HC := Lib.hid (HC.out.push hb)
 clear hb
 have A8 := Lib.hid (H2.out.below (HC.out.to w (by simp)) rfl)
 have B8 := Lib.hid (H3.out.below (HC.out.to w (by simp)) rfl)
 have E8 := Lib.hid (E1.out.below (HC.out.to e1 (by simp)) rfl)
 have W8 := Lib.hid (HC.out.to w (by simp))
 have q2n : Hid (n2 ≤ 1000000) := Lib.hid (by omega)
 have q3n : Hid (n3 ≤ 1000000) := Lib.hid (by omega)
 obtain ⟨nL, hnL⟩ : ∃ k, L.length = k := ⟨_, rfl⟩
 rw [hnL] at K4 ⊢
 have NL := Lib.hid hnL
 have hk4 := K4.out
 clear HC hnL
 go_wp2_with fail
 go_loopw [17] (fun i wr => ∃ k : Nat, k ≤ nL ∧ i = .int .i64 (k : Int) ∧ Hid (Below e3.heap.size e3 wr)) (fun i _ => nL - (intOf i).toNat)
 case atStart => exact ⟨0, Nat.zero_le _, rfl, Lib.hid (Below.refl _ _)⟩
 case round =>
   obtain ⟨k, hk, rfl, HB⟩ := hrel
   by_cases hlt : k < nL
   · have hk1 : k < L.length := by have := NL.out; omega
     obtain ⟨ba, oa, rfl, ca⟩ := els_get (E8.out.below HB.out rfl) k hk1
     have FX := Lib.hid (F3.out L[k] (List.getElem_mem hk1))
     have hki : (k : Int) < (nL : Int) := by omega
     generalize L[k] = x at *
     have CA := Lib.hid ca
     obtain ⟨p0, p1, p2, p3, p4, p5⟩ := ca
     go_wp2_with fail
     refine (has_14 l2 x _ n2 c2 _ (A8.out.below HB.out rfl) N2.out q2n.out).mono ?_
     rintro e r1 ⟨rfl, hbb⟩
     clear p0 p1 p2 p3 p4 p5
     have R1 := Lib.hid hbb
     have C1 := CA.out.below hbb
     obtain ⟨p0, p1, p2, p3, p4, p5⟩ := C1
     clear hbb
     obtain ⟨v2, hv2⟩ : ∃ q, hasEv l2 x = q := ⟨_, rfl⟩
     rw [hv2] at FX ⊢
     clear hv2
     have HB1 := Lib.hid (HB.out.trans (R1.out.mono HB.out.size))
     cases v2 with
     | true =>
       go_wp2_with fail
       refine ⟨⟨k + 1, by omega, by go_num, HB1⟩, by simp [intOf]; omega⟩
     | false =>
       have hx3 : hasEv l3 x = true := FX.out.resolve_left (by simp)
       go_wp2_with fail
       refine (has_14 l3 x _ n3 c3 _ ((B8.out.below HB.out rfl).below R1.out rfl) N3.out q3n.out).mono ?_
       rintro e r2 ⟨rfl, hbb⟩
       have HB2 := Lib.hid (HB1.out.trans (hbb.mono HB1.out.size))
       rw [hx3]
       clear hbb p0 p1 p2 p3 p4 p5 hx3
       go_wp2_with fail
       refine ⟨⟨k + 1, by omega, by go_num, HB2⟩, by simp [intOf]; omega⟩
   · obtain rfl : k = nL := by omega
     go_wp2_with fail
     go_ret
     exact ⟨rfl, W8.out.trans (HB.out.mono W8.out.size)⟩
end Go.Proofs.Ytnpiepimajippaa
namespace Go.Proofs.Ytnpiepimajippaa
open Go.ChangeShapes Go.WideShapes Go.ChangeAt Go.RowKit Go.Deep
section
variable {H : Type} {enc : TypeId × Value → H} {P : Program} {w : World} {base : Nat} {held : Bool}
theorem spot_none {a : Addr} {v : Value} (h : w.cell? (a.add 0) = some v) : ∃ b off, a = ⟨b, off, none⟩ := by
 obtain ⟨b, off, spot⟩ := a
 have hs : spot = none := by simpa [Addr.add] using World.cell?_spot h
 subst hs
 exact ⟨b, off, rfl⟩
end
end Go.Proofs.Ytnpiepimajippaa
namespace Go.Proofs.Ytnpiepimajippaa
open Go.ChangeShapes Go.WideShapes Go.ChangeAt Go.RowKit Go.Deep St
section
variable {H : Type} {enc : TypeId × Value → H} {w : World} {base : Nat} {held : Bool}
theorem maxLen_small {n : Nat} (h : n ≤ maxLen) : n ≤ 9223372036854775807 := by unfold maxLen at h; omega
set_option maxRecDepth 100000 in
theorem open_br {fuel : Nat} {cs : List Value} {x : DataW H × List MemPlace} (h : DataW.trod enc Try.prog w base (fun _ => true) held fuel 37 cs = some x) :
   ∃ (r : Int) (l : ByteArray), cs = [.int .i64 r, .string l] ∧ l.size ≤ maxLen := by
 obtain ⟨xs, n, _, _, hlen, hz, hff⟩ := DataW.trod_struct Try.underlying37 h
 rw [show Try.prog.cellsOf 37 = 2 by kernel_rfl] at hlen
 match cs, hlen with
 | [v0, v1], _ =>
   have q0 := hff 0 _ rfl
   have q1 := hff 1 _ rfl
   rw [List.getElem?_eq_getElem (by rw [hz]; decide)] at q0 q1
   change DataW.trod enc _ w base _ held n 3 (List.take (Try.prog.cellsOf 3) [v0, v1]) = _ at q0
   change DataW.trod enc _ w base _ held n 9 (List.take (Try.prog.cellsOf 9) [v1]) = _ at q1
   rw [show Try.prog.cellsOf 3 = 1 by kernel_rfl] at q0
   rw [show Try.prog.cellsOf 9 = 1 by kernel_rfl] at q1
   obtain ⟨r, k0, _⟩ := DataW.trod_int Try.underlying3 q0
   obtain ⟨l, k1, _, k2⟩ := DataW.trod_string Try.underlying9 q1
   simp only [List.take, List.cons.injEq, and_true] at k0 k1
   subst k0 k1
   exact ⟨r, l, rfl, k2⟩
set_option maxRecDepth 100000 in
theorem open_nm {fuel : Nat} {cs : List Value} {x : DataW H × List MemPlace} (h : DataW.trod enc Try.prog w base (fun _ => true) held fuel 39 cs = some x) :
   ∃ (r : Int) (l : ByteArray) (k : Int), cs = [.int .i64 r, .string l, .int .i64 k] ∧ l.size ≤ maxLen := by
 obtain ⟨xs, n, _, _, hlen, hz, hff⟩ := DataW.trod_struct Try.underlying39 h
 rw [show Try.prog.cellsOf 39 = 3 by kernel_rfl] at hlen
 match cs, hlen with
 | [v0, v1, v2], _ =>
   have q0 := hff 0 _ rfl
   have q1 := hff 1 _ rfl
   rw [List.getElem?_eq_getElem (by rw [hz]; decide)] at q0 q1
   change DataW.trod enc _ w base _ held n 37 (List.take (Try.prog.cellsOf 37) [v0, v1, v2]) = _ at q0
   change DataW.trod enc _ w base _ held n 2 (List.take (Try.prog.cellsOf 2) [v2]) = _ at q1
   rw [show Try.prog.cellsOf 37 = 2 by kernel_rfl] at q0
   rw [show Try.prog.cellsOf 2 = 1 by kernel_rfl] at q1
   obtain ⟨r, l, k0, kl⟩ := open_br q0
   obtain ⟨k, k1, _⟩ := DataW.trod_int Try.underlying2 q1
   simp only [List.take, List.cons.injEq, and_true] at k0 k1
   obtain ⟨k0, k0'⟩ := k0
   subst k0 k0' k1
   exact ⟨r, l, k, rfl, kl⟩
set_option maxRecDepth 100000 in
theorem open_sv {fuel : Nat} {cs : List Value} {x : DataW H × List MemPlace} (h : DataW.trod enc Try.prog w base (fun _ => true) held fuel 41 cs = some x) :
   ∃ s : Sv, cs = [.int .i64 s.g, .int .i64 s.r, .string s.l, .int .i64 s.n, .int .i64 s.i] ∧ s.l.size ≤ maxLen := by
 obtain ⟨xs, n, _, _, hlen, hz, hff⟩ := DataW.trod_struct Try.underlying41 h
 rw [show Try.prog.cellsOf 41 = 5 by kernel_rfl] at hlen
 match cs, hlen with
 | [v0, v1, v2, v3, v4], _ =>
   have q0 := hff 0 _ rfl
   have q1 := hff 1 _ rfl
   have q2 := hff 2 _ rfl
   rw [List.getElem?_eq_getElem (by rw [hz]; decide)] at q0 q1 q2
   change DataW.trod enc _ w base _ held n 2 (List.take (Try.prog.cellsOf 2) [v0, v1, v2, v3, v4]) = _ at q0
   change DataW.trod enc _ w base _ held n 39 (List.take (Try.prog.cellsOf 39) [v1, v2, v3, v4]) = _ at q1
   change DataW.trod enc _ w base _ held n 3 (List.take (Try.prog.cellsOf 3) [v4]) = _ at q2
   rw [show Try.prog.cellsOf 2 = 1 by kernel_rfl] at q0
   rw [show Try.prog.cellsOf 39 = 3 by kernel_rfl] at q1
   rw [show Try.prog.cellsOf 3 = 1 by kernel_rfl] at q2
   obtain ⟨g, k0, _⟩ := DataW.trod_int Try.underlying2 q0
   obtain ⟨r, l, k, k1, kl⟩ := open_nm q1
   obtain ⟨i, k2, _⟩ := DataW.trod_int Try.underlying3 q2
   simp only [List.take, List.cons.injEq, and_true] at k0 k1 k2
   obtain ⟨e1, e2, e3⟩ := k1
   subst k0 e1 e2 e3 k2
   exact ⟨⟨g, r, l, k, i⟩, rfl, kl⟩
set_option maxRecDepth 100000 in
theorem open_ev {fuel : Nat} {cs : List Value} {x : DataW H × List MemPlace} (h : DataW.trod enc Try.prog w base (fun _ => true) held fuel 47 cs = some x) :
   ∃ e : Ev, cs = elV e ∧ e.1.l.size ≤ maxLen ∧ e.2.size ≤ maxLen := by
 obtain ⟨xs, n, _, _, hlen, hz, hff⟩ := DataW.trod_struct Try.underlying47 h
 rw [show Try.prog.cellsOf 47 = 6 by kernel_rfl] at hlen
 match cs, hlen with
 | [v0, v1, v2, v3, v4, v5], _ =>
   have q0 := hff 0 _ rfl
   have q1 := hff 1 _ rfl
   rw [List.getElem?_eq_getElem (by rw [hz]; decide)] at q0 q1
   change DataW.trod enc _ w base _ held n 41 (List.take (Try.prog.cellsOf 41) [v0, v1, v2, v3, v4, v5]) = _ at q0
   change DataW.trod enc _ w base _ held n 9 (List.take (Try.prog.cellsOf 9) [v5]) = _ at q1
   rw [show Try.prog.cellsOf 41 = 5 by kernel_rfl] at q0
   rw [show Try.prog.cellsOf 9 = 1 by kernel_rfl] at q1
   obtain ⟨s, k0, kl⟩ := open_sv q0
   obtain ⟨t, k1, _, kt⟩ := DataW.trod_string Try.underlying9 q1
   simp only [List.take, List.cons.injEq, and_true] at k0 k1
   obtain ⟨e1, e2, e3, e4, e5⟩ := k0
   subst e1 e2 e3 e4 e5 k1
   exact ⟨(s, t), rfl, kl, kt⟩
theorem flat_get {α : Type} (f : α → List Value) (m : Nat) (hf : ∀ x, (f x).length = m) (hm : 0 < m) : ∀ (l : List α) (i r : Nat) (hi : i < l.length), r < m → (l.flatMap f)[i * m + r]? = (f l[i])[r]?
 | [], i, r, hi, _ => by simp at hi
 | x :: l, 0, r, _, hr => by
   rw [List.flatMap_cons, Nat.zero_mul, Nat.zero_add, List.getElem?_append_left (by rw [hf]; exact hr)]
   rfl
 | x :: l, i + 1, r, hi, hr => by
   rw [List.flatMap_cons, List.getElem?_append_right (by rw [hf, Nat.succ_mul]; omega), hf, Nat.succ_mul]
   rw [show i * m + m + r - m = i * m + r by omega, flat_get f m hf hm l i r (by simpa using hi) hr]
   rfl
theorem flat_len {α : Type} (f : α → List Value) (m : Nat) (hf : ∀ x, (f x).length = m) : ∀ (l : List α), (l.flatMap f).length = l.length * m
 | [] => by simp
 | x :: l => by rw [List.flatMap_cons, List.length_append, hf, flat_len f m hf l, List.length_cons, Nat.succ_mul]; omega
theorem open_structs {α : Type} [Inhabited α] (f : α → List Value) (m : Nat) (hf : ∀ x, (f x).length = m) (hm : 0 < m) (G : α → Prop) {t e : TypeId} {fuel : Nat} {a0 : Option Addr} {len cap : Nat} {x : DataW H × List MemPlace} (ht : Try.prog.underlying t = some (.slice e)) (ce : Try.prog.cellsOf e = m)
   (each : ∀ {fuel : Nat} {cs : List Value} {x : DataW H × List MemPlace}, DataW.trod enc Try.prog w base (fun _ => true) held fuel e cs = some x → ∃ y : α, cs = f y ∧ G y)
   (h : DataW.trod enc Try.prog w base (fun _ => true) held fuel t (Value.slice a0 len cap).cells.toList = some x) :
   ∃ l : List α, len = l.length ∧ CellsAt w a0 (l.flatMap f) ∧ l.length ≤ maxLen ∧ ∀ y ∈ l, G y := by
 rcases open_slice ht h with ⟨hcs, _⟩ | ⟨a, l, c, k, n, D, Pl, hcs, _, hl, hmx, hmm, hx, hi⟩
 · simp [Value.cells] at hcs
   obtain ⟨rfl, rfl, rfl⟩ := hcs
   exact ⟨[], rfl, CellsAt.nil _ _, Nat.zero_le _, fun y hy => by cases hy⟩
 · simp [Value.cells] at hcs
   obtain ⟨rfl, rfl, rfl⟩ := hcs
   simp only [if_true] at hmm
   subst hmm
   have each2 : ∀ i, i < k → ∃ y : α, (∀ r, r < m → w.cell? ((a.add (i * m)).add r) = (f y)[r]?) ∧ G y := by
     intro i hik
     obtain ⟨cs', hc, htr⟩ := hi i hik
     rw [ce] at hc
     obtain ⟨y, rfl, hg⟩ := each htr
     obtain ⟨_, hcl, hat⟩ := World.cells?_some hc
     refine ⟨y, fun r hr => ?_, hg⟩
     have := hat r hr
     rw [this]
     try rw [List.getElem?_eq_getElem]
     done
   obtain ⟨F, hF⟩ := choose_lt (α := α) (n := k) (p := fun i y => (∀ r, r < m → w.cell? ((a.add (i * m)).add r) = (f y)[r]?) ∧ G y) each2
   refine ⟨(List.range len).map F, by simp, fun q hq => ?_, by simp; omega, fun y hy => ?_⟩
   · have hlenF : (((List.range len).map F).flatMap f).length = len * m := by rw [flat_len f m hf]; simp
     have hq2 : q < len * m := by rw [← hlenF]; exact hq
     have hqm : q / m < len := Nat.div_lt_of_lt_mul (by rw [Nat.mul_comm]; exact hq2)
     have hp : 0 < k := Nat.lt_of_le_of_lt (Nat.zero_le _) (Nat.lt_of_lt_of_le hqm hl)
     have z0 := (hF 0 hp).1 0 hm
     rw [List.getElem?_eq_getElem (by rw [hf]; exact hm), Nat.zero_mul] at z0
     obtain ⟨b, off, rfl⟩ := spot_none (a := a) z0
     refine ⟨b, off, rfl, ?_⟩
     have hr : q % m < m := Nat.mod_lt _ hm
     have hk := (hF (q / m) (Nat.lt_of_lt_of_le hqm hl)).1 (q % m) hr
     have hg := flat_get f m hf hm ((List.range len).map F) (q / m) (q % m) (by simpa using hqm) hr
     simp only [List.getElem_map, List.getElem_range] at hg
     have hqe : q / m * m + q % m = q := by rw [Nat.mul_comm]; exact Nat.div_add_mod q m
     rw [hqe] at hg
     rw [Addr_add, Addr_add, Nat.add_assoc, hqe] at hk
     rw [hk, ← hg, List.getElem?_eq_getElem hq]
   · obtain ⟨i, hi', rfl⟩ := List.mem_map.1 hy
     exact (hF i (by have := List.mem_range.1 hi'; omega)).2
instance : Inhabited Ev := ⟨(⟨0, 0, ⟨#[]⟩, 0, 0⟩, ⟨#[]⟩)⟩
theorem open_els {fuel : Nat} {a0 : Option Addr} {len cap : Nat} {x : DataW H × List MemPlace} (h : DataW.trod enc Try.prog w base (fun _ => true) held fuel 22 (Value.slice a0 len cap).cells.toList = some x) :
   ∃ l : List Ev, len = l.length ∧ CellsAt w a0 (elsV l) ∧ l.length ≤ maxLen ∧ ∀ e ∈ l, e.1.l.size ≤ 9223372036854775807 ∧ e.2.size ≤ maxLen :=
 open_structs (α := Ev) elV 6 (fun _ => rfl) (by omega) (fun e => e.1.l.size ≤ 9223372036854775807 ∧ e.2.size ≤ maxLen) Try.underlying22 (by kernel_rfl) (fun h => by obtain ⟨e, h1, h2, h3⟩ := open_ev h; exact ⟨e, h1, maxLen_small h2, h3⟩) h
end
end Go.Proofs.Ytnpiepimajippaa
