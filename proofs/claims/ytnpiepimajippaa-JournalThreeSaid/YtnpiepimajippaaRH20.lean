/- Words, contracts and walks that the proof stands on (RqT14 OpenC OpenE). -/
import Derived.Deep.Grids
import Derived.Deep.Slices
import Derived.OpenShut
import Derived.ProofKit
import Derived.SliceStrings
import Derived.Test.YtnpiepimajippaaRH16
import Derived.Test.YtnpiepimajippaaRH19
import Derived.Test.YtnpiepimajippaaRH4
namespace Go.Proofs.Ytnpiepimajippaa
open Go.RowKit St Pm
set_option maxRecDepth 100000 in
set_option maxHeartbeats 2000000 in
theorem stamps_14 (l : List Ev) (a b : Option Addr) (n c1 c2 : Nat) (w : World) (hl : CellsAt w a (elsV l)) (hm : CellsAt w b (elsV l)) (hn : n = l.length) (hb : n ≤ 1000000) :
   Calls Try.prog 85 #[.slice a n c1, .slice b n c2] w fun e w' => e = .returned (.bool true) ∧ Below w.heap.size w w' := by
 have HL := Lib.hid hl
 have HM := Lib.hid hm
 have HN := Lib.hid hn
 clear hl hm hn
 go_enter Try.func85, Try.ntmps85
 go_wp2_with fail
 go_loopw [5] (fun i wr => ∃ k : Nat, k ≤ n ∧ i = .int .i64 (k : Int) ∧ Hid (Below w.heap.size w wr)) (fun i _ => n - (intOf i).toNat)
 case atStart => exact ⟨0, Nat.zero_le _, rfl, Lib.hid (Below.refl _ _)⟩
 case round =>
   obtain ⟨k, hk, rfl, HB⟩ := hrel
   by_cases hlt : k < n
   · have hk1 : k < l.length := by have := HN.out; omega
     obtain ⟨ba, oa, rfl, ca⟩ := els_get (HL.out.below HB.out rfl) k hk1
     obtain ⟨bb, ob, rfl, cb⟩ := els_get (HM.out.below HB.out rfl) k hk1
     obtain ⟨p0, p1, p2, p3, p4, p5⟩ := ca
     obtain ⟨q0, q1, q2, q3, q4, q5⟩ := cb
     generalize l[k] = x at *
     have EN : ∀ W, (binOp .neq 41 (.agg #[.int .i64 x.1.g, .int .i64 x.1.r, .string x.1.l, .int .i64 x.1.n, .int .i64 x.1.i]) (.agg #[.int .i64 x.1.g, .int .i64 x.1.r, .string x.1.l, .int .i64 x.1.n, .int .i64 x.1.i])).run Try.prog W = .ok (.bool false) W := fun W => by rw [sv_neq x.1 x.1 W]; simp
     have hki : (k : Int) < (n : Int) := by omega
     go_wp2_with fail
     go_quiet (fail)
     go_wp2_with fail
     refine ⟨⟨k + 1, by omega, by go_num, Lib.hid (below_drews HB.out _)⟩, by simp [intOf]; omega⟩
   · obtain rfl : k = n := by omega
     go_wp2_with fail
     go_ret
     exact ⟨rfl, HB.out⟩
theorem ref_three14 {ls la lo : List Ev} {s a o : Tr ByteArray} (a1 a2 a3 : Option Addr) (n1 n2 n3 c1 c2 c3 : Nat) (w : World) (hs : Reg ls s) (ha : Reg la a) (ho : Reg lo o) (h1 : CellsAt w a1 (elsV ls)) (h2 : CellsAt w a2 (elsV la)) (h3 : CellsAt w a3 (elsV lo)) (hn1 : n1 = ls.length) (hn2 : n2 = la.length) (hn3 : n3 = lo.length)
   (b1 : n1 ≤ 100000) (b2 : n2 ≤ 100000) (b3 : n3 ≤ 100000) :
   Calls Try.prog 84 #[.slice a1 n1 c1, .slice a2 n2 c2, .slice a3 n3 c3] w fun e w' => ∃ v, e = .returned v ∧ w'.ownsRow w.heap.size 47 6 v (thrV ls la lo).length (elsV (thrV ls la lo)) ∧ Below w.heap.size w w' := by
 have C := Lib.hid (ref9_Elements (ls.map toE) (la.map toE) (lo.map toE) a1 a2 a3 n1 n2 n3 c1 c2 c3 w (by rw [map_toV hs.ok]; exact h1) (by rw [map_toV ha.ok]; exact h2) (by rw [map_toV ho.ok]; exact h3) (by rw [List.length_map]; exact hn1) (by rw [List.length_map]; exact hn2) (by rw [List.length_map]; exact hn3) b1 b2 b3 hs.okk ha.okk ho.okk ha.srtE ho.srtE)
 have e : (elsF (ls.map toE) (la.map toE) (lo.map toE) (la.map toE) (lo.map toE)).length = (thrV ls la lo).length := by unfold thrV; rw [List.length_map]
 rw [e] at C
 have C2 : Hid (Calls Try.prog 104 #[.slice a1 n1 c1, .slice a2 n2 c2, .slice a3 n3 c3] w fun e w' => ∃ v, e = .returned v ∧ w'.ownsRow w.heap.size 47 6 v (thrV ls la lo).length (elsV (thrV ls la lo)) ∧ Below w.heap.size w w') := C
 generalize thrV ls la lo = L at *
 clear C e hs ha ho h1 h2 h3 hn1 hn2 hn3 b1 b2 b3
 go_enter Try.func84, Try.ntmps84
 go_wp2_with fail
 refine C2.out.mono ?_
 rintro e w1 ⟨v, rfl, hown, hb⟩
 go_wp2_with fail
 go_ret
 exact ⟨v, rfl, hown, hb⟩
theorem thr_reg14 {ls la lo : List Ev} {s a o : Tr ByteArray} (w : World) (hs : Reg ls s) (ha : Reg la a) (ho : Reg lo o) (ats : AtS w s) (aa : AtS w a) (ao : AtS w o) (zs : ls.length ≤ 100000) (za : la.length ≤ 100000) (zo : lo.length ≤ 100000)
   (hc : Dj s a ∨ ∀ k, (lk (⟨#[]⟩ : ByteArray) (items a) k).2 = true → (lk (⟨#[]⟩ : ByteArray) (items o) k).2 = true → (lk (⟨#[]⟩ : ByteArray) (items a) k).1 = (lk (⟨#[]⟩ : ByteArray) (items o) k).1) :
   Calls Try.prog 74 #[.agg #[.pointer (pa s)], .agg #[.pointer (pa a)], .agg #[.pointer (pa o)]] w fun e w' => ∃ m : Tr ByteArray, e = .returned (.tuple #[.agg #[.pointer (pa m)], .int .i64 0]) ∧ AtS w' m ∧ Below w.heap.size w w' ∧ Reg (thrV ls la lo) m := by
 refine (three_14 s a o w (by rw [hs.len]; exact zs) (by rw [ha.len]; exact za) (by rw [ho.len]; exact zo) (wlk_inS hs.srt ha.srt ho.srt hs.bal ha.bal ho.bal) ats aa ao hs.keys ha.keys ho.keys).mono ?_
 rintro e w' ⟨m, c, rfl, hm, hb, ⟨_, _, _, rfl, asked, hO, _⟩ | ⟨h, _⟩⟩
 · exact ⟨m, rfl, hm, hb, three_reg hs ha ho hO hc⟩
 · rw [hs.good, ha.good, ho.good] at h
   cases h
set_option maxRecDepth 100000 in
set_option maxHeartbeats 4000000 in
theorem law_Three14 (l1 l2 l3 : List Ev) (a1 a2 a3 : Option Addr) (n1 n2 n3 c1 c2 c3 : Nat) (w : World) (h1 : CellsAt w a1 (elsV l1)) (h2 : CellsAt w a2 (elsV l2)) (h3 : CellsAt w a3 (elsV l3)) (hn1 : n1 = l1.length) (hn2 : n2 = l2.length) (hn3 : n3 = l3.length)
   (b1 : n1 ≤ 9223372036854775807) (b2 : n2 ≤ 9223372036854775807) (b3 : n3 ≤ 9223372036854775807) (z1 : ∀ e ∈ l1, e.1.l.size ≤ 9223372036854775807) (z2 : ∀ e ∈ l2, e.1.l.size ≤ 9223372036854775807) (z3 : ∀ e ∈ l3, e.1.l.size ≤ 9223372036854775807) :
   Calls Try.prog 13 #[.slice a1 n1 c1, .slice a2 n2 c2, .slice a3 n3 c3] w fun e w' => e = .returned (.bool true) ∧ Below w.heap.size w w' := by
 have H1 := Lib.hid h1
 have H2 := Lib.hid h2
 have H3 := Lib.hid h3
 have N1 := Lib.hid hn1
 have N2 := Lib.hid hn2
 have N3 := Lib.hid hn3
 have B1 := Lib.hid b1
 have B2 := Lib.hid b2
 have B3 := Lib.hid b3
 have Z1 := Lib.hid z1
 have Z2 := Lib.hid z2
 have Z3 := Lib.hid z3
 clear h1 h2 h3 hn1 hn2 hn3 z1 z2 z3
 have HC : Hid (Chain [w] w) := Lib.hid (Chain.one w)
 go_enter Try.func13, Try.ntmps13
 go_wp2_with fail
 refine (known_14 _).mono ?_
 rintro e w1 ⟨rfl, hb⟩
 replace HC := Lib.hid (HC.out.push hb)
 clear hb
 go_upto_region 3 with (fail)
 by_cases q1 : 60 < n1
 · have q1i : (60 : Int) < (n1 : Int) := by omega
   go_wp2_with fail
   go_ret
   exact ⟨rfl, (HC.out.to w (by simp))⟩
 have q1i : ¬ (60 : Int) < (n1 : Int) := by omega
 have q1d : decide ((60 : Int) < (n1 : Int)) = false := decide_eq_false q1i
 by_cases q2 : 60 < n2
 · have q2i : (60 : Int) < (n2 : Int) := by omega
   go_wp2_with fail
   go_ret
   exact ⟨rfl, (HC.out.to w (by simp))⟩
 have q2i : ¬ (60 : Int) < (n2 : Int) := by omega
 have q2d : decide ((60 : Int) < (n2 : Int)) = false := decide_eq_false q2i
 by_cases q3 : 60 < n3
 · have q3i : (60 : Int) < (n3 : Int) := by omega
   go_wp2_with fail
   go_ret
   exact ⟨rfl, (HC.out.to w (by simp))⟩
 have q3i : ¬ (60 : Int) < (n3 : Int) := by omega
 have q3d : decide ((60 : Int) < (n3 : Int)) = false := decide_eq_false q3i
 go_wp2_with fail
 refine (ref14_May l1 _ n1 c1 _ (H1.out.below (HC.out.to w (by simp)) rfl) N1.out B1.out Z1.out).mono ?_
 rintro e m1 ⟨rfl, hb⟩
 replace HC := Lib.hid (HC.out.push hb)
 clear hb
 cases hm1 : mayV l1
 case false =>
   go_wp2_with fail
   go_ret
   exact ⟨rfl, (HC.out.to w (by simp))⟩
 have HM1 := Lib.hid hm1
 clear hm1
 go_wp2_with fail
 refine (ref14_May l2 _ n2 c2 _ (H2.out.below (HC.out.to w (by simp)) rfl) N2.out B2.out Z2.out).mono ?_
 rintro e m2 ⟨rfl, hb⟩
 replace HC := Lib.hid (HC.out.push hb)
 clear hb
 cases hm2 : mayV l2
 case false =>
   go_wp2_with fail
   go_ret
   exact ⟨rfl, (HC.out.to w (by simp))⟩
 have HM2 := Lib.hid hm2
 clear hm2
 go_wp2_with fail
 refine (ref14_May l3 _ n3 c3 _ (H3.out.below (HC.out.to w (by simp)) rfl) N3.out B3.out Z3.out).mono ?_
 rintro e m3 ⟨rfl, hb⟩
 replace HC := Lib.hid (HC.out.push hb)
 clear hb
 cases hm3 : mayV l3
 case false =>
   go_wp2_with fail
   go_ret
   exact ⟨rfl, (HC.out.to w (by simp))⟩
 have HM3 := Lib.hid hm3
 clear hm3
 go_wp2_with fail
 refine (ref14_Sorted l1 _ n1 c1 _ (H1.out.below (HC.out.to w (by simp)) rfl) N1.out (by omega) Z1.out).mono ?_
 rintro e s1 ⟨v, rfl, hown, hb⟩
 replace HC := Lib.hid (HC.out.push hb)
 clear hb
 obtain ⟨ap1, cp1, rfl, _⟩ := own_slice hown
 have P1 : Hid (CellsAt s1 ap1 (elsV (sortV l1))) := Lib.hid (CellsAt.ownN hown)
 clear hown
 go_wp2_with fail
 refine (ref14_Sorted l2 _ n2 c2 _ (H2.out.below (HC.out.to w (by simp)) rfl) N2.out (by omega) Z2.out).mono ?_
 rintro e s2 ⟨v, rfl, hown, hb⟩
 replace HC := Lib.hid (HC.out.push hb)
 clear hb
 obtain ⟨ap2, cp2, rfl, _⟩ := own_slice hown
 have P2 : Hid (CellsAt s2 ap2 (elsV (sortV l2))) := Lib.hid (CellsAt.ownN hown)
 clear hown
 go_wp2_with fail
 refine (ref14_Sorted l3 _ n3 c3 _ (H3.out.below (HC.out.to w (by simp)) rfl) N3.out (by omega) Z3.out).mono ?_
 rintro e s3 ⟨v, rfl, hown, hb⟩
 replace HC := Lib.hid (HC.out.push hb)
 clear hb
 obtain ⟨ap3, cp3, rfl, _⟩ := own_slice hown
 have P3 : Hid (CellsAt s3 ap3 (elsV (sortV l3))) := Lib.hid (CellsAt.ownN hown)
 clear hown
 go_wp2_with fail
 refine (of_reg14 l1 _ n1 c1 _ (H1.out.below (HC.out.to w (by simp)) rfl) N1.out (by omega) Z1.out).mono ?_
 rintro e o1 ⟨t1, ce, rfl, ht, hb, hbl, hP⟩
 replace HC := Lib.hid (HC.out.push hb)
 clear hb
 obtain ⟨rfl, hr⟩ : ce = 0 ∧ Reg (sortV l1) t1 := by
   rcases hP with ⟨_, h1, h2⟩ | ⟨h, _⟩
   · exact ⟨h1, h2⟩
   · rw [HM1.out] at h; cases h
 have R1 := Lib.hid hr
 have T1 := Lib.hid ht
 have BL1 := Lib.hid hbl
 clear hP hr ht hbl
 go_upto_region 7 with (fail)
 obtain ⟨d1, hd1⟩ : ∃ c, o1.heap.size = c := ⟨_, rfl⟩
 try rw [hd1]
 obtain ⟨x1, hx1⟩ : ∃ X, allocs o1 [.cells #[.pointer (pa t1)] 27] = X := ⟨_, rfl⟩
 rw [show o1.alloc (.cells #[.pointer (pa t1)] 27) = x1 from hx1]
 have hb : Below o1.heap.size o1 x1 := by rw [← hx1]; exact allocs_below _ _
 have HX : Hid (x1.heap[d1]? = some (.cells #[.pointer (pa t1)] 27 (0, 0))) := Lib.hid (by have := allocs_get [.cells #[.pointer (pa t1)] 27] o1 0 _ rfl; rw [hx1, hd1] at this; exact this)
 have Sd1 : Hid (o1.heap.size = d1) := Lib.hid hd1
 replace HC := Lib.hid (HC.out.push hb)
 clear hb hx1 hd1
 have SX1 : Hid (o1.heap.size ≤ x1.heap.size) := Lib.hid (HC.out.to o1 (by simp)).size
 go_wp2_with fail
 refine (of_reg14 l2 _ n2 c2 _ (H2.out.below (HC.out.to w (by simp)) rfl) N2.out (by omega) Z2.out).mono ?_
 rintro e o2 ⟨t2, ce, rfl, ht, hb, hbl, hP⟩
 replace HC := Lib.hid (HC.out.push hb)
 clear hb
 obtain ⟨rfl, hr⟩ : ce = 0 ∧ Reg (sortV l2) t2 := by
   rcases hP with ⟨_, h1, h2⟩ | ⟨h, _⟩
   · exact ⟨h1, h2⟩
   · rw [HM2.out] at h; cases h
 have R2 := Lib.hid hr
 have T2 := Lib.hid ht
 have BL2 := Lib.hid hbl
 clear hP hr ht hbl
 go_upto_region 8 with (fail)
 obtain ⟨d2, hd2⟩ : ∃ c, o2.heap.size = c := ⟨_, rfl⟩
 try rw [hd2]
 obtain ⟨x2, hx2⟩ : ∃ X, allocs o2 [.cells #[.pointer (pa t2)] 27] = X := ⟨_, rfl⟩
 rw [show o2.alloc (.cells #[.pointer (pa t2)] 27) = x2 from hx2]
 have hb : Below o2.heap.size o2 x2 := by rw [← hx2]; exact allocs_below _ _
 have HY : Hid (x2.heap[d2]? = some (.cells #[.pointer (pa t2)] 27 (0, 0))) := Lib.hid (by have := allocs_get [.cells #[.pointer (pa t2)] 27] o2 0 _ rfl; rw [hx2, hd2] at this; exact this)
 have Sd2 : Hid (o2.heap.size = d2) := Lib.hid hd2
 replace HC := Lib.hid (HC.out.push hb)
 clear hb hx2 hd2
 have SX2 : Hid (o1.heap.size ≤ x2.heap.size) := Lib.hid (HC.out.to o1 (by simp)).size
 go_wp2_with fail
 refine (of_reg14 l3 _ n3 c3 _ (H3.out.below (HC.out.to w (by simp)) rfl) N3.out (by omega) Z3.out).mono ?_
 rintro e o3 ⟨t3, ce, rfl, ht, hb, hbl, hP⟩
 replace HC := Lib.hid (HC.out.push hb)
 clear hb
 obtain ⟨rfl, hr⟩ : ce = 0 ∧ Reg (sortV l3) t3 := by
   rcases hP with ⟨_, h1, h2⟩ | ⟨h, _⟩
   · exact ⟨h1, h2⟩
   · rw [HM3.out] at h; cases h
 have R3 := Lib.hid hr
 have T3 := Lib.hid ht
 have BL3 := Lib.hid hbl
 clear hP hr ht hbl
 go_upto_region 9 with (fail)
 obtain ⟨d3, hd3⟩ : ∃ c, o3.heap.size = c := ⟨_, rfl⟩
 try rw [hd3]
 obtain ⟨x3, hx3⟩ : ∃ X, allocs o3 [.cells #[.pointer (pa t3)] 27] = X := ⟨_, rfl⟩
 rw [show o3.alloc (.cells #[.pointer (pa t3)] 27) = x3 from hx3]
 have hb : Below o3.heap.size o3 x3 := by rw [← hx3]; exact allocs_below _ _
 have HZ : Hid (x3.heap[d3]? = some (.cells #[.pointer (pa t3)] 27 (0, 0))) := Lib.hid (by have := allocs_get [.cells #[.pointer (pa t3)] 27] o3 0 _ rfl; rw [hx3, hd3] at this; exact this)
 have Sd3 : Hid (o3.heap.size = d3) := Lib.hid hd3
 replace HC := Lib.hid (HC.out.push hb)
 clear hb hx3 hd3
 have DJ12 : Hid (Dj t1 t2) := Lib.hid (dj_of T1.out.lt fun b hb => Nat.le_trans SX1.out (BL2.out b hb))
 have DJ13 : Hid (Dj t1 t3) := Lib.hid (dj_of T1.out.lt fun b hb => Nat.le_trans SX2.out (BL3.out b hb))
 have L1 : Hid (n1 = (sortV l1).length) := Lib.hid (by rw [sortV_length]; exact N1.out)
 have L2 : Hid (n2 = (sortV l2).length) := Lib.hid (by rw [sortV_length]; exact N2.out)
 have L3 : Hid (n3 = (sortV l3).length) := Lib.hid (by rw [sortV_length]; exact N3.out)
 have K1 : Hid ((sortV l1).length ≤ 100000) := Lib.hid (by rw [← L1.out]; omega)
 have K2 : Hid ((sortV l2).length ≤ 100000) := Lib.hid (by rw [← L2.out]; omega)
 have K3 : Hid ((sortV l3).length ≤ 100000) := Lib.hid (by rw [← L3.out]; omega)
 have K4 : Hid ((thrV (sortV l1) (sortV l2) (sortV l3)).length ≤ 100000) := Lib.hid (by have := thrV_len (ls := sortV l1) (la := sortV l2) (lo := sortV l3); have := L2.out; have := L3.out; omega)
 have K5 : Hid ((thrV (sortV l1) (sortV l3) (sortV l2)).length ≤ 100000) := Lib.hid (by have := thrV_len (ls := sortV l1) (la := sortV l3) (lo := sortV l2); have := L2.out; have := L3.out; omega)
 have SF : Hid (thrV (sortV l1) (sortV l2) (sortV l1) = sortV l2) := Lib.hid (thrV_self R1.out R2.out)
 generalize sortV l1 = p1 at *
 generalize sortV l2 = p2 at *
 generalize sortV l3 = p3 at *
 have kX0 := cell_of_one (boxStays HX.out (HC.out.to x1 (by simp)))
 have kY0 := cell_of_one (boxStays HY.out (HC.out.to x2 (by simp)))
 have kZ0 := cell_of_one HZ.out
 go_wp2_with fail
 refine (thr_reg14 _ R1.out R2.out R3.out (T1.out.below (HC.out.to o1 (by simp)) rfl) (T2.out.below (HC.out.to o2 (by simp)) rfl) (T3.out.below (HC.out.to o3 (by simp)) rfl) K1.out K2.out K3.out (.inl DJ12.out)).mono ?_
 rintro e u1 ⟨m, rfl, hm, hb, hr⟩
 clear kX0 kY0 kZ0
 replace HC := Lib.hid (HC.out.push hb)
 clear hb
 have RM := Lib.hid hr
 have TM := Lib.hid hm
 clear hr hm
 go_upto_region 10 with (fail)
 obtain ⟨g1, hg1⟩ : ∃ c, u1.heap.size = c := ⟨_, rfl⟩
 try rw [hg1]
 obtain ⟨y1, hy1⟩ : ∃ X, allocs u1 [.cells #[.pointer (pa m)] 27] = X := ⟨_, rfl⟩
 rw [show u1.alloc (.cells #[.pointer (pa m)] 27) = y1 from hy1]
 have hb : Below u1.heap.size u1 y1 := by rw [← hy1]; exact allocs_below _ _
 have HM : Hid (y1.heap[g1]? = some (.cells #[.pointer (pa m)] 27 (0, 0))) := Lib.hid (by have := allocs_get [.cells #[.pointer (pa m)] 27] u1 0 _ rfl; rw [hy1, hg1] at this; exact this)
 have Sg1 : Hid (u1.heap.size = g1) := Lib.hid hg1
 replace HC := Lib.hid (HC.out.push hb)
 clear hb hy1 hg1
 have kX0 := cell_of_one (boxStays HX.out (HC.out.to x1 (by simp)))
 have kY0 := cell_of_one (boxStays HY.out (HC.out.to x2 (by simp)))
 have kZ0 := cell_of_one (boxStays HZ.out (HC.out.to x3 (by simp)))
 go_wp2_with fail
 refine (thr_reg14 _ R1.out R3.out R2.out (T1.out.below (HC.out.to o1 (by simp)) rfl) (T3.out.below (HC.out.to o3 (by simp)) rfl) (T2.out.below (HC.out.to o2 (by simp)) rfl) K1.out K3.out K2.out (.inl DJ13.out)).mono ?_
 rintro e u2 ⟨n, rfl, hm, hb, hr⟩
 clear kX0 kY0 kZ0
 replace HC := Lib.hid (HC.out.push hb)
 clear hb
 have RN := Lib.hid hr
 have TN := Lib.hid hm
 clear hr hm
 go_upto_region 11 with (fail)
 obtain ⟨g2, hg2⟩ : ∃ c, u2.heap.size = c := ⟨_, rfl⟩
 try rw [hg2]
 obtain ⟨y2, hy2⟩ : ∃ X, allocs u2 [.cells #[.pointer (pa n)] 27] = X := ⟨_, rfl⟩
 rw [show u2.alloc (.cells #[.pointer (pa n)] 27) = y2 from hy2]
 have hb : Below u2.heap.size u2 y2 := by rw [← hy2]; exact allocs_below _ _
 have HNN : Hid (y2.heap[g2]? = some (.cells #[.pointer (pa n)] 27 (0, 0))) := Lib.hid (by have := allocs_get [.cells #[.pointer (pa n)] 27] u2 0 _ rfl; rw [hy2, hg2] at this; exact this)
 have Sg2 : Hid (u2.heap.size = g2) := Lib.hid hg2
 replace HC := Lib.hid (HC.out.push hb)
 clear hb hy2 hg2
 go_wp2_with fail
 refine (num_14 0 _).mono ?_
 rintro e _ ⟨rfl, rfl⟩
 go_wp2_with fail
 refine (num_14 0 _).mono ?_
 rintro e _ ⟨rfl, rfl⟩
 go_wp2_with fail
 refine (num_14 0 _).mono ?_
 rintro e _ ⟨rfl, rfl⟩
 go_wp2_with fail
 refine (num_14 0 _).mono ?_
 rintro e _ ⟨rfl, rfl⟩
 go_wp2_with fail
 refine (num_14 0 _).mono ?_
 rintro e _ ⟨rfl, rfl⟩
 have kM0 := cell_of_one (boxStays HM.out (HC.out.to y1 (by simp)))
 go_wp2_with fail
 refine (els_reg14 _ (TM.out.below (HC.out.to u1 (by simp)) rfl) RM.out K4.out).mono ?_
 rintro e e1 ⟨v, rfl, hb, hown⟩
 clear kM0
 replace HC := Lib.hid (HC.out.push hb)
 clear hb
 obtain ⟨ae1, ce1, rfl, _⟩ := own_slice hown
 have E1 : Hid (CellsAt e1 ae1 (elsV (thrV p1 p2 p3))) := Lib.hid (CellsAt.ownN hown)
 clear hown
 have kNN0 := cell_of_one (boxStays HNN.out (HC.out.to y2 (by simp)))
 go_wp2_with fail
 refine (els_reg14 _ (TN.out.below (HC.out.to u2 (by simp)) rfl) RN.out K5.out).mono ?_
 rintro e e2 ⟨v, rfl, hb, hown⟩
 clear kNN0
 replace HC := Lib.hid (HC.out.push hb)
 clear hb
 obtain ⟨ae2, ce2, rfl, _⟩ := own_slice hown
 have E2 : Hid (CellsAt e2 ae2 (elsV (thrV p1 p3 p2))) := Lib.hid (CellsAt.ownN hown)
 clear hown
 go_wp2_with fail
 refine (num_14 0 _).mono ?_
 rintro e _ ⟨rfl, rfl⟩
 go_wp2_with fail
 refine (num_14 0 _).mono ?_
 rintro e _ ⟨rfl, rfl⟩
 go_wp2_with fail
 refine (ref_three14 _ _ _ n1 n2 n3 cp1 cp2 cp3 _ R1.out R2.out R3.out (P1.out.below (HC.out.to s1 (by simp)) rfl) (P2.out.below (HC.out.to s2 (by simp)) rfl) (P3.out.below (HC.out.to s3 (by simp)) rfl) L1.out L2.out L3.out (by omega) (by omega) (by omega)).mono ?_
 rintro e f1 ⟨v, rfl, hown, hb⟩
 replace HC := Lib.hid (HC.out.push hb)
 clear hb
 obtain ⟨af1, cf1, rfl, _⟩ := own_slice hown
 have F1 : Hid (CellsAt f1 af1 (elsV (thrV p1 p2 p3))) := Lib.hid (CellsAt.ownN hown)
 clear hown
 go_wp2_with fail
 refine (ref9_SameElements _ _ _ _ _ _ _ _ _ (E1.out.below (HC.out.to e1 (by simp)) rfl) F1.out rfl rfl (by have := K4.out; omega)).mono ?_
 rintro e f2 ⟨rfl, hb⟩
 replace HC := Lib.hid (HC.out.push hb)
 clear hb
 rw [decide_eq_true rfl]
 go_wp2_with fail
 refine (ref_three14 _ _ _ n1 n3 n2 cp1 cp3 cp2 _ R1.out R3.out R2.out (P1.out.below (HC.out.to s1 (by simp)) rfl) (P3.out.below (HC.out.to s3 (by simp)) rfl) (P2.out.below (HC.out.to s2 (by simp)) rfl) L1.out L3.out L2.out (by omega) (by omega) (by omega)).mono ?_
 rintro e f3 ⟨v, rfl, hown, hb⟩
 replace HC := Lib.hid (HC.out.push hb)
 clear hb
 obtain ⟨af3, cf3, rfl, _⟩ := own_slice hown
 have F3 : Hid (CellsAt f3 af3 (elsV (thrV p1 p3 p2))) := Lib.hid (CellsAt.ownN hown)
 clear hown
 go_wp2_with fail
 refine (ref9_SameElements _ _ _ _ _ _ _ _ _ (E2.out.below (HC.out.to e2 (by simp)) rfl) F3.out rfl rfl (by have := K5.out; omega)).mono ?_
 rintro e f4 ⟨rfl, hb⟩
 replace HC := Lib.hid (HC.out.push hb)
 clear hb
 rw [decide_eq_true rfl]
 have kX0 := cell_of_one (boxStays HX.out (HC.out.to x1 (by simp)))
 have kY0 := cell_of_one (boxStays HY.out (HC.out.to x2 (by simp)))
 go_upto_region 17 with (fail)
 go_wp2_with fail
 refine (thr_reg14 _ R1.out R2.out R1.out (T1.out.below (HC.out.to o1 (by simp)) rfl) (T2.out.below (HC.out.to o2 (by simp)) rfl) (T1.out.below (HC.out.to o1 (by simp)) rfl) K1.out K2.out K1.out (.inl DJ12.out)).mono ?_
 rintro e u3 ⟨u, rfl, hm, hb, hr⟩
 clear kX0 kY0
 replace HC := Lib.hid (HC.out.push hb)
 clear hb
 rw [SF.out] at hr
 have RU := Lib.hid hr
 have TU := Lib.hid hm
 clear hr hm
 go_upto_region 18 with (fail)
 obtain ⟨g3, hg3⟩ : ∃ c, u3.heap.size = c := ⟨_, rfl⟩
 try rw [hg3]
 obtain ⟨y3, hy3⟩ : ∃ X, allocs u3 [.cells #[.pointer (pa u)] 27] = X := ⟨_, rfl⟩
 rw [show u3.alloc (.cells #[.pointer (pa u)] 27) = y3 from hy3]
 have hb : Below u3.heap.size u3 y3 := by rw [← hy3]; exact allocs_below _ _
 have HU : Hid (y3.heap[g3]? = some (.cells #[.pointer (pa u)] 27 (0, 0))) := Lib.hid (by have := allocs_get [.cells #[.pointer (pa u)] 27] u3 0 _ rfl; rw [hy3, hg3] at this; exact this)
 have Sg3 : Hid (u3.heap.size = g3) := Lib.hid hg3
 replace HC := Lib.hid (HC.out.push hb)
 clear hb hy3 hg3
 have kU0 := cell_of_one HU.out
 go_wp2_with fail
 refine (els_reg14 _ (TU.out.below (HC.out.to u3 (by simp)) rfl) RU.out K2.out).mono ?_
 rintro e e3 ⟨v, rfl, hb, hown⟩
 clear kU0
 replace HC := Lib.hid (HC.out.push hb)
 clear hb
 obtain ⟨ae3, ce3, rfl, _⟩ := own_slice hown
 have E3 : Hid (CellsAt e3 ae3 (elsV p2)) := Lib.hid (CellsAt.ownN hown)
 clear hown
 rw [← L2.out]
 go_wp2_with fail
 refine (num_14 0 _).mono ?_
 rintro e _ ⟨rfl, rfl⟩
 go_wp2_with fail
 refine (num_14 0 _).mono ?_
 rintro e _ ⟨rfl, rfl⟩
 go_wp2_with fail
 refine (stamps_14 p2 _ _ n2 _ _ _ (E3.out.below (HC.out.to e3 (by simp)) rfl) (P2.out.below (HC.out.to s2 (by simp)) rfl) L2.out (by omega)).mono ?_
 rintro e f5 ⟨rfl, hb⟩
 replace HC := Lib.hid (HC.out.push hb)
 clear hb
 go_wp2_with fail
 refine (known_14 _).mono ?_
 rintro e f6 ⟨rfl, hb⟩
 replace HC := Lib.hid (HC.out.push hb)
 clear hb
 go_wp2_with fail
 go_ret
 exact ⟨rfl, (HC.out.to w (by simp))⟩
end Go.Proofs.Ytnpiepimajippaa
namespace Go.Proofs.Ytnpiepimajippaa
open Go.ChangeShapes Go.WideShapes Go.ChangeAt Go.RowKit Go.Deep
section
variable {H : Type} {enc : TypeId × Value → H} {P : Program} {w : World} {base : Nat} {held : Bool}
theorem spot_none {a : Addr} {v : Value} (h : w.cell? (a.add 0) = some v) : ∃ b off, a = ⟨b, off, none⟩ := by
 obtain ⟨b, off, spot⟩ := a
 have hs : spot = none := by simpa [Addr.add] using World.cell?_spot h
 subst hs
 exact ⟨b, off, rfl⟩
end
end Go.Proofs.Ytnpiepimajippaa
namespace Go.Proofs.Ytnpiepimajippaa
open Go.ChangeShapes Go.WideShapes Go.ChangeAt Go.RowKit Go.Deep St
section
variable {H : Type} {enc : TypeId × Value → H} {w : World} {base : Nat} {held : Bool}
theorem maxLen_small {n : Nat} (h : n ≤ maxLen) : n ≤ 9223372036854775807 := by unfold maxLen at h; omega
set_option maxRecDepth 100000 in
theorem open_br {fuel : Nat} {cs : List Value} {x : DataW H × List MemPlace} (h : DataW.trod enc Try.prog w base (fun _ => true) held fuel 37 cs = some x) :
   ∃ (r : Int) (l : ByteArray), cs = [.int .i64 r, .string l] ∧ l.size ≤ maxLen := by
 obtain ⟨xs, n, _, _, hlen, hz, hff⟩ := DataW.trod_struct Try.underlying37 h
 rw [show Try.prog.cellsOf 37 = 2 by kernel_rfl] at hlen
 match cs, hlen with
 | [v0, v1], _ =>
   have q0 := hff 0 _ rfl
   have q1 := hff 1 _ rfl
   rw [List.getElem?_eq_getElem (by rw [hz]; decide)] at q0 q1
   change DataW.trod enc _ w base _ held n 3 (List.take (Try.prog.cellsOf 3) [v0, v1]) = _ at q0
   change DataW.trod enc _ w base _ held n 9 (List.take (Try.prog.cellsOf 9) [v1]) = _ at q1
   rw [show Try.prog.cellsOf 3 = 1 by kernel_rfl] at q0
   rw [show Try.prog.cellsOf 9 = 1 by kernel_rfl] at q1
   obtain ⟨r, k0, _⟩ := DataW.trod_int Try.underlying3 q0
   obtain ⟨l, k1, _, k2⟩ := DataW.trod_string Try.underlying9 q1
   simp only [List.take, List.cons.injEq, and_true] at k0 k1
   subst k0 k1
   exact ⟨r, l, rfl, k2⟩
set_option maxRecDepth 100000 in
theorem open_nm {fuel : Nat} {cs : List Value} {x : DataW H × List MemPlace} (h : DataW.trod enc Try.prog w base (fun _ => true) held fuel 39 cs = some x) :
   ∃ (r : Int) (l : ByteArray) (k : Int), cs = [.int .i64 r, .string l, .int .i64 k] ∧ l.size ≤ maxLen := by
 obtain ⟨xs, n, _, _, hlen, hz, hff⟩ := DataW.trod_struct Try.underlying39 h
 rw [show Try.prog.cellsOf 39 = 3 by kernel_rfl] at hlen
 match cs, hlen with
 | [v0, v1, v2], _ =>
   have q0 := hff 0 _ rfl
   have q1 := hff 1 _ rfl
   rw [List.getElem?_eq_getElem (by rw [hz]; decide)] at q0 q1
   change DataW.trod enc _ w base _ held n 37 (List.take (Try.prog.cellsOf 37) [v0, v1, v2]) = _ at q0
   change DataW.trod enc _ w base _ held n 2 (List.take (Try.prog.cellsOf 2) [v2]) = _ at q1
   rw [show Try.prog.cellsOf 37 = 2 by kernel_rfl] at q0
   rw [show Try.prog.cellsOf 2 = 1 by kernel_rfl] at q1
   obtain ⟨r, l, k0, kl⟩ := open_br q0
   obtain ⟨k, k1, _⟩ := DataW.trod_int Try.underlying2 q1
   simp only [List.take, List.cons.injEq, and_true] at k0 k1
   obtain ⟨k0, k0'⟩ := k0
   subst k0 k0' k1
   exact ⟨r, l, k, rfl, kl⟩
set_option maxRecDepth 100000 in
theorem open_sv {fuel : Nat} {cs : List Value} {x : DataW H × List MemPlace} (h : DataW.trod enc Try.prog w base (fun _ => true) held fuel 41 cs = some x) :
   ∃ s : Sv, cs = [.int .i64 s.g, .int .i64 s.r, .string s.l, .int .i64 s.n, .int .i64 s.i] ∧ s.l.size ≤ maxLen := by
 obtain ⟨xs, n, _, _, hlen, hz, hff⟩ := DataW.trod_struct Try.underlying41 h
 rw [show Try.prog.cellsOf 41 = 5 by kernel_rfl] at hlen
 match cs, hlen with
 | [v0, v1, v2, v3, v4], _ =>
   have q0 := hff 0 _ rfl
   have q1 := hff 1 _ rfl
   have q2 := hff 2 _ rfl
   rw [List.getElem?_eq_getElem (by rw [hz]; decide)] at q0 q1 q2
   change DataW.trod enc _ w base _ held n 2 (List.take (Try.prog.cellsOf 2) [v0, v1, v2, v3, v4]) = _ at q0
   change DataW.trod enc _ w base _ held n 39 (List.take (Try.prog.cellsOf 39) [v1, v2, v3, v4]) = _ at q1
   change DataW.trod enc _ w base _ held n 3 (List.take (Try.prog.cellsOf 3) [v4]) = _ at q2
   rw [show Try.prog.cellsOf 2 = 1 by kernel_rfl] at q0
   rw [show Try.prog.cellsOf 39 = 3 by kernel_rfl] at q1
   rw [show Try.prog.cellsOf 3 = 1 by kernel_rfl] at q2
   obtain ⟨g, k0, _⟩ := DataW.trod_int Try.underlying2 q0
   obtain ⟨r, l, k, k1, kl⟩ := open_nm q1
   obtain ⟨i, k2, _⟩ := DataW.trod_int Try.underlying3 q2
   simp only [List.take, List.cons.injEq, and_true] at k0 k1 k2
   obtain ⟨e1, e2, e3⟩ := k1
   subst k0 e1 e2 e3 k2
   exact ⟨⟨g, r, l, k, i⟩, rfl, kl⟩
set_option maxRecDepth 100000 in
theorem open_ev {fuel : Nat} {cs : List Value} {x : DataW H × List MemPlace} (h : DataW.trod enc Try.prog w base (fun _ => true) held fuel 47 cs = some x) :
   ∃ e : Ev, cs = elV e ∧ e.1.l.size ≤ maxLen ∧ e.2.size ≤ maxLen := by
 obtain ⟨xs, n, _, _, hlen, hz, hff⟩ := DataW.trod_struct Try.underlying47 h
 rw [show Try.prog.cellsOf 47 = 6 by kernel_rfl] at hlen
 match cs, hlen with
 | [v0, v1, v2, v3, v4, v5], _ =>
   have q0 := hff 0 _ rfl
   have q1 := hff 1 _ rfl
   rw [List.getElem?_eq_getElem (by rw [hz]; decide)] at q0 q1
   change DataW.trod enc _ w base _ held n 41 (List.take (Try.prog.cellsOf 41) [v0, v1, v2, v3, v4, v5]) = _ at q0
   change DataW.trod enc _ w base _ held n 9 (List.take (Try.prog.cellsOf 9) [v5]) = _ at q1
   rw [show Try.prog.cellsOf 41 = 5 by kernel_rfl] at q0
   rw [show Try.prog.cellsOf 9 = 1 by kernel_rfl] at q1
   obtain ⟨s, k0, kl⟩ := open_sv q0
   obtain ⟨t, k1, _, kt⟩ := DataW.trod_string Try.underlying9 q1
   simp only [List.take, List.cons.injEq, and_true] at k0 k1
   obtain ⟨e1, e2, e3, e4, e5⟩ := k0
   subst e1 e2 e3 e4 e5 k1
   exact ⟨(s, t), rfl, kl, kt⟩
theorem flat_get {α : Type} (f : α → List Value) (m : Nat) (hf : ∀ x, (f x).length = m) (hm : 0 < m) : ∀ (l : List α) (i r : Nat) (hi : i < l.length), r < m → (l.flatMap f)[i * m + r]? = (f l[i])[r]?
 | [], i, r, hi, _ => by simp at hi
 | x :: l, 0, r, _, hr => by
   rw [List.flatMap_cons, Nat.zero_mul, Nat.zero_add, List.getElem?_append_left (by rw [hf]; exact hr)]
   rfl
 | x :: l, i + 1, r, hi, hr => by
   rw [List.flatMap_cons, List.getElem?_append_right (by rw [hf, Nat.succ_mul]; omega), hf, Nat.succ_mul]
   rw [show i * m + m + r - m = i * m + r by omega, flat_get f m hf hm l i r (by simpa using hi) hr]
   rfl
theorem flat_len {α : Type} (f : α → List Value) (m : Nat) (hf : ∀ x, (f x).length = m) : ∀ (l : List α), (l.flatMap f).length = l.length * m
 | [] => by simp
 | x :: l => by rw [List.flatMap_cons, List.length_append, hf, flat_len f m hf l, List.length_cons, Nat.succ_mul]; omega
theorem open_structs {α : Type} [Inhabited α] (f : α → List Value) (m : Nat) (hf : ∀ x, (f x).length = m) (hm : 0 < m) (G : α → Prop) {t e : TypeId} {fuel : Nat} {a0 : Option Addr} {len cap : Nat} {x : DataW H × List MemPlace} (ht : Try.prog.underlying t = some (.slice e)) (ce : Try.prog.cellsOf e = m)
   (each : ∀ {fuel : Nat} {cs : List Value} {x : DataW H × List MemPlace}, DataW.trod enc Try.prog w base (fun _ => true) held fuel e cs = some x → ∃ y : α, cs = f y ∧ G y)
   (h : DataW.trod enc Try.prog w base (fun _ => true) held fuel t (Value.slice a0 len cap).cells.toList = some x) :
   ∃ l : List α, len = l.length ∧ CellsAt w a0 (l.flatMap f) ∧ l.length ≤ maxLen ∧ ∀ y ∈ l, G y := by
 rcases open_slice ht h with ⟨hcs, _⟩ | ⟨a, l, c, k, n, D, Pl, hcs, _, hl, hmx, hmm, hx, hi⟩
 · simp [Value.cells] at hcs
   obtain ⟨rfl, rfl, rfl⟩ := hcs
   exact ⟨[], rfl, CellsAt.nil _ _, Nat.zero_le _, fun y hy => by cases hy⟩
 · simp [Value.cells] at hcs
   obtain ⟨rfl, rfl, rfl⟩ := hcs
   simp only [if_true] at hmm
   subst hmm
   have each2 : ∀ i, i < k → ∃ y : α, (∀ r, r < m → w.cell? ((a.add (i * m)).add r) = (f y)[r]?) ∧ G y := by
     intro i hik
     obtain ⟨cs', hc, htr⟩ := hi i hik
     rw [ce] at hc
     obtain ⟨y, rfl, hg⟩ := each htr
     obtain ⟨_, hcl, hat⟩ := World.cells?_some hc
     refine ⟨y, fun r hr => ?_, hg⟩
     have := hat r hr
     rw [this]
     try rw [List.getElem?_eq_getElem]
     done
   obtain ⟨F, hF⟩ := choose_lt (α := α) (n := k) (p := fun i y => (∀ r, r < m → w.cell? ((a.add (i * m)).add r) = (f y)[r]?) ∧ G y) each2
   refine ⟨(List.range len).map F, by simp, fun q hq => ?_, by simp; omega, fun y hy => ?_⟩
   · have hlenF : (((List.range len).map F).flatMap f).length = len * m := by rw [flat_len f m hf]; simp
     have hq2 : q < len * m := by rw [← hlenF]; exact hq
     have hqm : q / m < len := Nat.div_lt_of_lt_mul (by rw [Nat.mul_comm]; exact hq2)
     have hp : 0 < k := Nat.lt_of_le_of_lt (Nat.zero_le _) (Nat.lt_of_lt_of_le hqm hl)
     have z0 := (hF 0 hp).1 0 hm
     rw [List.getElem?_eq_getElem (by rw [hf]; exact hm), Nat.zero_mul] at z0
     obtain ⟨b, off, rfl⟩ := spot_none (a := a) z0
     refine ⟨b, off, rfl, ?_⟩
     have hr : q % m < m := Nat.mod_lt _ hm
     have hk := (hF (q / m) (Nat.lt_of_lt_of_le hqm hl)).1 (q % m) hr
     have hg := flat_get f m hf hm ((List.range len).map F) (q / m) (q % m) (by simpa using hqm) hr
     simp only [List.getElem_map, List.getElem_range] at hg
     have hqe : q / m * m + q % m = q := by rw [Nat.mul_comm]; exact Nat.div_add_mod q m
     rw [hqe] at hg
     rw [Addr_add, Addr_add, Nat.add_assoc, hqe] at hk
     rw [hk, ← hg, List.getElem?_eq_getElem hq]
   · obtain ⟨i, hi', rfl⟩ := List.mem_map.1 hy
     exact (hF i (by have := List.mem_range.1 hi'; omega)).2
instance : Inhabited Ev := ⟨(⟨0, 0, ⟨#[]⟩, 0, 0⟩, ⟨#[]⟩)⟩
theorem open_els {fuel : Nat} {a0 : Option Addr} {len cap : Nat} {x : DataW H × List MemPlace} (h : DataW.trod enc Try.prog w base (fun _ => true) held fuel 22 (Value.slice a0 len cap).cells.toList = some x) :
   ∃ l : List Ev, len = l.length ∧ CellsAt w a0 (elsV l) ∧ l.length ≤ maxLen ∧ ∀ e ∈ l, e.1.l.size ≤ 9223372036854775807 ∧ e.2.size ≤ maxLen :=
 open_structs (α := Ev) elV 6 (fun _ => rfl) (by omega) (fun e => e.1.l.size ≤ 9223372036854775807 ∧ e.2.size ≤ maxLen) Try.underlying22 (by kernel_rfl) (fun h => by obtain ⟨e, h1, h2, h3⟩ := open_ev h; exact ⟨e, h1, maxLen_small h2, h3⟩) h
end
end Go.Proofs.Ytnpiepimajippaa
