/- Words, contracts and walks that the proof stands on (JoS KeepX KpZ Tail Tail2). -/
import Derived.Deep.RegionHeld3
import Derived.Test.YtnpiepimajippaaRI1
import Derived.Test.YtnpiepimajippaaRI10
import Derived.Test.YtnpiepimajippaaRI12
import Derived.Test.YtnpiepimajippaaRI14
import Derived.Test.YtnpiepimajippaaRI4
import Derived.Test.YtnpiepimajippaaRI9
namespace Go.Proofs.Ytnpiepimajippaa
open Go.RowKit St Pm
set_option maxRecDepth 100000 in
set_option maxHeartbeats 8000000 in
theorem stands_14 (l : List Ev) (t : Tr ByteArray) (s : Sv) (a : Option Addr) (n c : Nat) (w : World) (ht : AtS w t) (hr : Reg l t) (hl : CellsAt w a (elsV l)) (hn : n = l.length) (hnc : n ≤ c) (hz : n ≤ 1000) (hs : s.l.size ≤ 9223372036854775807) :
   Calls Try.prog 29 #[.agg #[.pointer (pa t)], .slice a n c, .agg #[.int .i64 s.g, .int .i64 s.r, .string s.l, .int .i64 s.n, .int .i64 s.i]] w fun e w' => e = .returned (.bool true) ∧ Below w.heap.size w w' := by
 have T := Lib.hid ht
 have R := Lib.hid hr
 have CL := Lib.hid hl
 have HN := Lib.hid hn
 have HZ := Lib.hid hz
 have HNC := Lib.hid hnc
 have HSS := Lib.hid hs
 have HK := Lib.hid hr.keys
 have HSZ : Hid (sz t ≤ 100000) := Lib.hid (by rw [hr.len]; omega)
 have HZL : Hid (l.length ≤ 100000) := Lib.hid (by omega)
 have HS0 : Hid (sinceT t zeroS = l) := Lib.hid (by rw [since_reg hr]; exact sinceL_zero l)
 have HS1 : Hid (sinceT t s = sinceL l s) := Lib.hid (since_reg hr s)
 have ET := Lib.hid elT
 clear ht hr hl hn hz hs hnc
 have HC : Hid (Chain [w] w) := Lib.hid (Chain.one w)
 go_enter Try.func29, Try.ntmps29
 go_upto_region 1 with (fail)
 obtain ⟨c1, hc1⟩ : ∃ c, w.heap.size = c := ⟨_, rfl⟩
 try rw [hc1]
 obtain ⟨w1, hw1⟩ : ∃ X, allocs w [.cells #[.pointer (pa t)] 27, .cells #[.int .i64 s.g, .int .i64 s.r, .string s.l, .int .i64 s.n, .int .i64 s.i] 41] = X := ⟨_, rfl⟩
 rw [show (w.alloc (.cells #[.pointer (pa t)] 27)).alloc (.cells #[.int .i64 s.g, .int .i64 s.r, .string s.l, .int .i64 s.n, .int .i64 s.i] 41) = w1 from hw1]
 have hb : Below w.heap.size w w1 := by rw [← hw1]; exact allocs_below _ _
 have HM : Hid (w1.heap[c1]? = some (.cells #[.pointer (pa t)] 27 (0, 0))) := Lib.hid (by have := allocs_get [.cells #[.pointer (pa t)] 27, .cells #[.int .i64 s.g, .int .i64 s.r, .string s.l, .int .i64 s.n, .int .i64 s.i] 41] w 0 _ rfl; rw [hw1, hc1] at this; exact this)
 have HS : Hid (w1.heap[c1 + 1]? = some (.cells #[.int .i64 s.g, .int .i64 s.r, .string s.l, .int .i64 s.n, .int .i64 s.i] 41 (0, 0))) := Lib.hid (by have := allocs_get [.cells #[.pointer (pa t)] 27, .cells #[.int .i64 s.g, .int .i64 s.r, .string s.l, .int .i64 s.n, .int .i64 s.i] 41] w 1 _ rfl; rw [hw1, hc1] at this; exact this)
 have Sc1 : Hid (w.heap.size = c1) := Lib.hid hc1
 replace HC := Lib.hid (HC.out.push hb)
 clear hb hw1 hc1
 have kM0 := cell_of_one HM.out
 go_wp2_with fail
 refine (els_reg14 _ (T.out.below (HC.out.to w (by simp)) rfl) R.out HZL.out).mono ?_
 rintro e w2 ⟨vx, rfl, hb, hown⟩
 clear kM0
 replace HC := Lib.hid (HC.out.push hb)
 clear hb
 obtain ⟨ax, cx, rfl, _⟩ := own_slice hown
 have X2 : Hid (CellsAt w2 ax (elsV l)) := Lib.hid (CellsAt.ownN hown)
 clear hown
 rw [← HN.out]
 go_upto_region 2 with (fail)
 have kM0 := cell_of_one (boxStays HM.out (HC.out.to w1 (by simp)))
 go_wp2_with fail
 refine (txt_reg14 _ (T.out.below (HC.out.to w (by simp)) rfl) R.out HZL.out).mono ?_
 rintro e w3 ⟨vt, rfl, hb, hown⟩
 clear kM0
 replace HC := Lib.hid (HC.out.push hb)
 clear hb
 obtain ⟨at3, ct3, rfl, _⟩ := own_slice hown
 have X3 : Hid (CellsAt w3 at3 (txV (l.map (·.2)))) := Lib.hid (CellsAt.ownN hown)
 clear hown
 rw [← HN.out]
 go_upto_region 3 with (fail)
 go_wp2_with fail
 refine (ref9_SameElements l l ax _ n n cx c _ (X2.out.below (HC.out.to w2 (by simp)) rfl) (CL.out.below (HC.out.to w (by simp)) rfl) HN.out HN.out (by have := HZ.out; omega)).mono ?_
 rintro e u5 ⟨rfl, hb⟩
 replace HC := Lib.hid (HC.out.push hb)
 clear hb
 rw [decide_eq_true rfl]
 go_wp2_with fail
 refine (ltx_14 l _ n c _ (CL.out.below (HC.out.to w (by simp)) rfl) HN.out (by have := HZ.out; omega)).mono ?_
 rintro e u6 ⟨vu, rfl, hb, hown⟩
 replace HC := Lib.hid (HC.out.push hb)
 clear hb
 obtain ⟨au, cu, rfl, _⟩ := own_slice hown
 have X6 : Hid (CellsAt u6 au (txV (l.map (·.2)))) := Lib.hid (CellsAt.ownN hown)
 clear hown
 go_wp2_with fail
 refine (ref9_SameTexts (l.map (·.2)) (l.map (·.2)) at3 au n n ct3 cu _ (X3.out.below (HC.out.to w3 (by simp)) rfl) X6.out (by rw [List.length_map]; exact HN.out) (by rw [List.length_map]; exact HN.out) (by have := HZ.out; omega)).mono ?_
 rintro e u7 ⟨rfl, hb⟩
 replace HC := Lib.hid (HC.out.push hb)
 clear hb
 rw [decide_eq_true rfl]
 go_wp2_with fail
 refine (num_14 0 _).mono ?_
 rintro e _ ⟨rfl, rfl⟩
 go_wp2_with fail
 refine (num_14 0 _).mono ?_
 rintro e _ ⟨rfl, rfl⟩
 have kM0 := cell_of_one (boxStays HM.out (HC.out.to w1 (by simp)))
 go_wp2_with fail
 refine (may_reg14 _ (T.out.below (HC.out.to w (by simp)) rfl) R.out HZL.out).mono ?_
 rintro e u8 ⟨rfl, hb⟩
 clear kM0
 replace HC := Lib.hid (HC.out.push hb)
 clear hb
 have kM0 := cell_of_one (boxStays HM.out (HC.out.to w1 (by simp)))
 go_wp2_with fail
 refine (since_14 t zeroS _).mono ?_
 rintro e u9 ⟨sb, mb, rfl, _, _, hm2, hs2, hb⟩
 clear kM0
 replace HC := Lib.hid (HC.out.push hb)
 clear hb
 have MB := Lib.hid hm2
 have SB := Lib.hid hs2
 clear hm2 hs2
 go_wp2_with fail
 refine (goes_since t zeroS sb mb l _ n c 2 _ SB.out MB.out (T.out.below (HC.out.to w (by simp)) rfl) HSZ.out HK.out (by decide) HS0.out (CL.out.below (HC.out.to w (by simp)) rfl) HN.out (by have := HZ.out; omega)).mono ?_
 rintro e u10 ⟨rfl, hb⟩
 replace HC := Lib.hid (HC.out.push hb)
 clear hb
 have kM0 := cell_of_one (boxStays HM.out (HC.out.to w1 (by simp)))
 go_wp2_with fail
 refine (since_14 t zeroS _).mono ?_
 rintro e u11 ⟨sc, mc, rfl, _, _, hm2, hs2, hb⟩
 clear kM0
 replace HC := Lib.hid (HC.out.push hb)
 clear hb
 have MC := Lib.hid hm2
 have SC := Lib.hid hs2
 clear hm2 hs2
 go_wp2_with fail
 refine (goes_since t zeroS sc mc l _ n c 0 _ SC.out MC.out (T.out.below (HC.out.to w (by simp)) rfl) HSZ.out HK.out (by decide) HS0.out (CL.out.below (HC.out.to w (by simp)) rfl) HN.out (by have := HZ.out; omega)).mono ?_
 rintro e u12 ⟨rfl, hb⟩
 replace HC := Lib.hid (HC.out.push hb)
 clear hb
 go_upto_region 6 with (fail)
 have T5 := Lib.hid (T.out.below (HC.out.to w (by simp)) rfl)
 have CL5 := Lib.hid (CL.out.below (HC.out.to w (by simp)) rfl)
 have HM5 := Lib.hid (boxStays HM.out (HC.out.to w1 (by simp)))
 have HS5 := Lib.hid (boxStays HS.out (HC.out.to w1 (by simp)))
 have BE5 := Lib.hid (HC.out.to w (by simp))
 clear HC HM HS X2 X3 X6 T CL MB SB MC SC
 go_wp2_with fail
 go_loopw [11, 12] (fun rv i wr => ∃ k : Nat, k ≤ n ∧ i = .int .i64 (k : Int) ∧ Hid (wr.ownsRow u12.heap.size 47 6 rv (sinK s (l.take k)).length (elsV (sinK s (l.take k)))) ∧ Hid (Below u12.heap.size u12 wr)) (fun _ i _ => n - (intOf i).toNat)
 case atStart => exact ⟨0, Nat.zero_le _, rfl, Lib.hid ⟨rfl, Or.inl ⟨rfl, rfl⟩⟩, Lib.hid (Below.refl _ _)⟩
 case round =>
   obtain ⟨k, hk, rfl, HO, HB⟩ := hrel
   by_cases hlt : k < n
   · have hk1 : k < l.length := by have := HN.out; omega
     have KL : Hid ((sinK s (l.take k)).length ≤ k) := Lib.hid (sinK_len s l k)
     obtain ⟨ar, cr, hrv, _, _⟩ := own_slice HO.out
     subst hrv
     obtain ⟨ba, oa, rfl, ca⟩ := els_get (CL5.out.below HB.out rfl) k hk1
     have OKX : Hid (okV l[k] = true) := Lib.hid (R.out.ok _ (List.getElem_mem hk1))
     have NX : Hid (sinP s l[k] = true → sinK s (l.take (k + 1)) = sinK s (l.take k) ++ [l[k]]) := Lib.hid (sinK_next hk1)
     have SX : Hid (sinP s l[k] = false → sinK s (l.take (k + 1)) = sinK s (l.take k)) := Lib.hid (sinK_same hk1)
     generalize l[k] = x at *
     obtain ⟨q2, hq2⟩ : ∃ q, sinK s (l.take (k + 1)) = q := ⟨_, rfl⟩
     rw [hq2] at NX SX
     have QE := Lib.hid hq2
     clear hq2
     have hz2 : k ≤ 1000 := by have := HZ.out; omega
     generalize sinK s (l.take k) = q1 at *
     have CA := Lib.hid ca
     have S9 := Lib.hid (boxStays HS5.out HB.out)
     have HKI : Hid ((k : Int) < (n : Int)) := Lib.hid (by omega)
     have HWR : Hid (IntKind.i64.wrap ((k : Int) + 1) = (k : Int) + 1) := Lib.hid (by have := HZ.out; exact i64w (by omega) (by omega))
     have SL : Hid (∀ W, (Instr.slice 22 (.slice (some ⟨ba, oa, none⟩) n c) (some (.int .i64 (k : Int))) (some (.int .i64 ((k : Int) + 1))) none).run Try.prog W = .ok (.slice (some ⟨ba, oa + k * 6, none⟩) 1 (c - k)) W) := Lib.hid (fun W => run_one W 22 47 Try.underlying22 (fun w => by kernel_rfl) ba oa n c k _ rfl (by have := HNC.out; omega))
     have EN : Hid (∀ W, (binOp .neq 41 (.agg #[.int .i64 x.1.g, .int .i64 x.1.r, .string x.1.l, .int .i64 x.1.n, .int .i64 x.1.i]) (.agg #[.int .i64 s.g, .int .i64 s.r, .string s.l, .int .i64 s.n, .int .i64 s.i])).run Try.prog W = .ok (.bool (!decide (x.1 = s))) W) := Lib.hid (fun W => sv_neq x.1 s W)
     have FIT0 : Hid (∀ W, Calls Try.prog 31 #[.agg #[.int .i64 s.g, .int .i64 s.r, .string s.l, .int .i64 s.n, .int .i64 s.i], .string ⟨#[]⟩] W fun e w' => e = .returned (.bool s.ok) ∧ Below W.heap.size W w') := Lib.hid (fun W => by rw [← ok_one s]; exact ref14_Fits s ⟨#[]⟩ W HSS.out)
     have BEH0 : Hid (∀ W, Below wr.heap.size wr W → Calls Try.prog 32 #[.slice (some ⟨ba, oa + k * 6, none⟩) 1 (c - k), .agg #[.int .i64 s.g, .int .i64 s.r, .string s.l, .int .i64 s.n, .int .i64 s.i]] W fun e w' => e = .returned (.bool (behindV [x] s)) ∧ Below W.heap.size W w') := Lib.hid (fun W hW => ref14_Behind [x] s _ 1 (c - k) W ((els_one CA.out).below hW rfl) rfl (by omega) HSS.out (fun e he => by rw [List.mem_singleton.1 he]; have := ok_lab (okV_iff.1 OKX.out).1; omega))
     obtain ⟨sp, hsp⟩ : ∃ q, sinP s x = q := ⟨_, rfl⟩
     have SP := Lib.hid hsp
     clear ca hsp
     go_upto_region 9 with (fail)
     obtain ⟨fo, hfo⟩ : ∃ q, s.ok = q := ⟨_, rfl⟩
     obtain ⟨bv, hbv⟩ : ∃ q, behindV [x] s = q := ⟨_, rfl⟩
     obtain ⟨ev, hev⟩ : ∃ q, (!decide (x.1 = s)) = q := ⟨_, rfl⟩
     have FIT := FIT0
     have BEH := BEH0
     rw [hfo] at FIT
     rw [hbv] at BEH
     rw [hev] at EN
     have SPD : Hid (sinP s x = (fo && (!bv && ev))) := Lib.hid (by unfold sinP; rw [hfo, hbv, ← hev]; simp)
     clear FIT0 BEH0 SP hfo hbv hev
     cases fo
     case false =>
       have SPF : Hid (sinP s x = false) := Lib.hid (by rw [SPD.out]; rfl)
       refine relG_start (slots := [72, 73, 74, 75, 76, 77, 78, 79, 80, 81, 82, 83, 84, 85, 86, 87, 88, 89, 90, 91, 92]) (so := []) (by kernel_rfl) (by kernel_rfl) (by rfl) ?_
       refine relG_pure (i := 0) (o := ⟨some 72, _, _, _, _, _⟩) (v := ?v1) [] [5] rfl rfl (by kernel_rfl) (by kernel_rfl) (fun t w1 hB hf hbf => ?y1) ?n1
       case y1 =>
         simp only [BasF] at hbf
         clear hf
         obtain ⟨⟨b5, k5⟩, _⟩ := hbf
         skip
         have hx := boxStays S9.out hB
         have x0 := cell_of_row _ (c1 + 1) 0 _ _ _ hx
         have x1 := cell_of_row _ (c1 + 1) 1 _ _ _ hx
         have x2 := cell_of_row _ (c1 + 1) 2 _ _ _ hx
         have x3 := cell_of_row _ (c1 + 1) 3 _ _ _ hx
         have x4 := cell_of_row _ (c1 + 1) 4 _ _ _ hx
         clear hx
         refine Or.inl ⟨wanted_none rfl, ?_⟩
         rintro _ rfl
         go_simp <;> with_reducible rfl
       refine relG_call (i := 1) (o := ⟨some 73, _, _, _, _, _⟩) ((fun v _ => v = .bool false)) [(0, 72, 0)] [] rfl rfl (by kernel_rfl) (by kernel_rfl) ((fun _ _ _ h _ => h)) ?_ ?_
       · intro t w1 hB hf hbf K hK
         simp only [DepF, List.getD_cons_zero] at hf
         obtain ⟨⟨_, ⟨e72, i72⟩, rfl⟩, _⟩ := hf
         clear hbf
         skip
         refine ⟨wanted_none rfl, ?_⟩
         go_simp
         refine (FIT.out w1).mono ?_
         rintro e w2 ⟨rfl, hb⟩
         exact hK.out _ w2 (rfl) hb
       refine relG_pure (i := 2) (o := ⟨some 74, _, _, _, _, _⟩) (v := ?v2) [(1, 73, 0)] [] rfl rfl (by kernel_rfl) (by kernel_rfl) (fun t w1 hB hf hbf => ?y2) ?n2
       case y2 =>
         simp only [DepF, List.getD_cons_zero] at hf
         obtain ⟨⟨_, ⟨e73, i73⟩, rfl⟩, _⟩ := hf
         clear hbf
         skip
         refine Or.inl ⟨wanted_none rfl, ?_⟩
         rintro _ rfl
         go_simp <;> with_reducible rfl
       refine relG_pure (i := 3) (o := ⟨some 75, _, _, _, _, _⟩) (v := undef) [(2, 74, 0)] [1] rfl rfl (by kernel_rfl) (by kernel_rfl) (fun t w1 hB hf hbf => ?_) ?_
       · simp only [DepF, List.getD_cons_zero] at hf
         obtain ⟨⟨_, ⟨e74, i74⟩, rfl⟩, _⟩ := hf
         exact Or.inr ⟨(by have hg := getD_some i74; simp [Region.wanted, yielded, hg]), rfl⟩
       refine relG_pure (i := 4) (o := ⟨some 76, _, _, _, _, _⟩) (v := undef) [(2, 74, 1)] [12] rfl rfl (by kernel_rfl) (by kernel_rfl) (fun t w1 hB hf hbf => ?_) ?_
       · simp only [DepF, List.getD_cons_zero, List.getD_cons_succ] at hf
         obtain ⟨⟨_, ⟨e74, i74⟩, rfl⟩, _⟩ := hf
         exact Or.inr ⟨(by have hg := getD_some i74; simp [Region.wanted, yielded, hg]), rfl⟩
       refine relG_pure (i := 5) (o := ⟨some 77, _, _, _, _, _⟩) (v := undef) [(2, 74, 2)] [12] rfl rfl (by kernel_rfl) (by kernel_rfl) (fun t w1 hB hf hbf => ?_) ?_
       · simp only [DepF, List.getD_cons_zero, List.getD_cons_succ] at hf
         obtain ⟨⟨_, ⟨e74, i74⟩, rfl⟩, _⟩ := hf
         exact Or.inr ⟨(by have hg := getD_some i74; simp [Region.wanted, yielded, hg]), rfl⟩
       refine relG_pure (i := 6) (o := ⟨some 78, _, _, _, _, _⟩) (v := undef) [(5, 77, 0), (2, 74, 3)] [] rfl rfl (by kernel_rfl) (by kernel_rfl) (fun t w1 hB hf hbf => ?_) ?_
       · simp only [DepF, List.getD_cons_zero, List.getD_cons_succ] at hf
         obtain ⟨⟨_, ⟨e77, i77⟩, rfl⟩, ⟨_, ⟨e74, i74⟩, rfl⟩, _⟩ := hf
         exact Or.inr ⟨(by have hg := getD_some i74; simp [Region.wanted, yielded, hg]), rfl⟩
       refine relG_pure (i := 7) (o := ⟨some 79, _, _, _, _, _⟩) (v := undef) [(3, 75, 3), (4, 76, 2), (6, 78, 0), (2, 74, 4)] [] rfl rfl (by kernel_rfl) (by kernel_rfl) (fun t w1 hB hf hbf => ?_) ?_
       · simp only [DepF, List.getD_cons_zero, List.getD_cons_succ] at hf
         obtain ⟨⟨_, ⟨e75, i75⟩, rfl⟩, ⟨_, ⟨e76, i76⟩, rfl⟩, ⟨_, ⟨e78, i78⟩, rfl⟩, ⟨_, ⟨e74, i74⟩, rfl⟩, _⟩ := hf
         exact Or.inr ⟨(by have hg := getD_some i74; simp [Region.wanted, yielded, hg]), rfl⟩
       refine relG_pure (i := 8) (o := ⟨some 80, _, _, _, _, _⟩) (v := undef) [(2, 74, 5)] [5] rfl rfl (by kernel_rfl) (by kernel_rfl) (fun t w1 hB hf hbf => ?_) ?_
       · simp only [DepF, List.getD_cons_zero, List.getD_cons_succ] at hf
         obtain ⟨⟨_, ⟨e74, i74⟩, rfl⟩, _⟩ := hf
         exact Or.inr ⟨(by have hg := getD_some i74; simp [Region.wanted, yielded, hg]), rfl⟩
       refine relG_pure (i := 9) (o := ⟨some 81, _, _, _, _, _⟩) (v := undef) [(7, 79, 1), (8, 80, 0), (2, 74, 6)] [] rfl rfl (by kernel_rfl) (by kernel_rfl) (fun t w1 hB hf hbf => ?_) ?_
       · simp only [DepF, List.getD_cons_zero, List.getD_cons_succ] at hf
         obtain ⟨⟨_, ⟨e79, i79⟩, rfl⟩, ⟨_, ⟨e80, i80⟩, rfl⟩, ⟨_, ⟨e74, i74⟩, rfl⟩, _⟩ := hf
         exact Or.inr ⟨(by have hg := getD_some i74; simp [Region.wanted, yielded, hg]), rfl⟩
       refine relG_pure (i := 10) (o := ⟨some 82, _, _, _, _, _⟩) (v := undef) [(9, 81, 0), (2, 74, 7)] [] rfl rfl (by kernel_rfl) (by kernel_rfl) (fun t w1 hB hf hbf => ?_) ?_
       · simp only [DepF, List.getD_cons_zero, List.getD_cons_succ] at hf
         obtain ⟨⟨_, ⟨e81, i81⟩, rfl⟩, ⟨_, ⟨e74, i74⟩, rfl⟩, _⟩ := hf
         exact Or.inr ⟨(by have hg := getD_some i74; simp [Region.wanted, yielded, hg]), rfl⟩
       refine relG_pure (i := 11) (o := ⟨some 83, _, _, _, _, _⟩) (v := ?v3) [(2, 74, 8), (10, 82, 0)] [] rfl rfl (by kernel_rfl) (by kernel_rfl) (fun t w1 hB hf hbf => ?y3) ?n3
       case y3 =>
         simp only [DepF, List.getD_cons_zero, List.getD_cons_succ] at hf
         obtain ⟨⟨_, ⟨e74, i74⟩, rfl⟩, ⟨_, ⟨e82, i82⟩, rfl⟩, _⟩ := hf
         clear hbf
         skip
         refine Or.inl ⟨wanted_none rfl, ?_⟩
         rintro _ rfl
         go_simp <;> with_reducible rfl
       refine relG_pure (i := 12) (o := ⟨some 84, _, _, _, _, _⟩) (v := ?v4) [(11, 83, 0)] [] rfl rfl (by kernel_rfl) (by kernel_rfl) (fun t w1 hB hf hbf => ?y4) ?n4
       case y4 =>
         simp only [DepF, List.getD_cons_zero] at hf
         obtain ⟨⟨_, ⟨e83, i83⟩, rfl⟩, _⟩ := hf
         clear hbf
         skip
         refine Or.inl ⟨wanted_none rfl, ?_⟩
         rintro _ rfl
         go_simp <;> with_reducible rfl
       refine relG_pure (i := 13) (o := ⟨some 85, _, _, _, _, _⟩) (v := undef) [(12, 84, 0)] [1] rfl rfl (by kernel_rfl) (by kernel_rfl) (fun t w1 hB hf hbf => ?_) ?_
       · simp only [DepF, List.getD_cons_zero] at hf
         obtain ⟨⟨_, ⟨e84, i84⟩, rfl⟩, _⟩ := hf
         exact Or.inr ⟨(by have hg := getD_some i84; simp [Region.wanted, yielded, hg]), rfl⟩
       refine relG_pure (i := 14) (o := ⟨some 86, _, _, _, _, _⟩) (v := undef) [(12, 84, 1)] [12] rfl rfl (by kernel_rfl) (by kernel_rfl) (fun t w1 hB hf hbf => ?_) ?_
       · simp only [DepF, List.getD_cons_zero, List.getD_cons_succ] at hf
         obtain ⟨⟨_, ⟨e84, i84⟩, rfl⟩, _⟩ := hf
         exact Or.inr ⟨(by have hg := getD_some i84; simp [Region.wanted, yielded, hg]), rfl⟩
       refine relG_pure (i := 15) (o := ⟨some 87, _, _, _, _, _⟩) (v := undef) [(13, 85, 1), (14, 86, 0), (12, 84, 2)] [] rfl rfl (by kernel_rfl) (by kernel_rfl) (fun t w1 hB hf hbf => ?_) ?_
       · simp only [DepF, List.getD_cons_zero, List.getD_cons_succ] at hf
         obtain ⟨⟨_, ⟨e85, i85⟩, rfl⟩, ⟨_, ⟨e86, i86⟩, rfl⟩, ⟨_, ⟨e84, i84⟩, rfl⟩, _⟩ := hf
         exact Or.inr ⟨(by have hg := getD_some i84; simp [Region.wanted, yielded, hg]), rfl⟩
       refine relG_pure (i := 16) (o := ⟨some 88, _, _, _, _, _⟩) (v := undef) [(15, 87, 0), (12, 84, 3)] [] rfl rfl (by kernel_rfl) (by kernel_rfl) (fun t w1 hB hf hbf => ?_) ?_
       · simp only [DepF, List.getD_cons_zero, List.getD_cons_succ] at hf
         obtain ⟨⟨_, ⟨e87, i87⟩, rfl⟩, ⟨_, ⟨e84, i84⟩, rfl⟩, _⟩ := hf
         exact Or.inr ⟨(by have hg := getD_some i84; simp [Region.wanted, yielded, hg]), rfl⟩
       refine relG_pure (i := 17) (o := ⟨some 89, _, _, _, _, _⟩) (v := undef) [(16, 88, 0), (12, 84, 4)] [] rfl rfl (by kernel_rfl) (by kernel_rfl) (fun t w1 hB hf hbf => ?_) ?_
       · simp only [DepF, List.getD_cons_zero, List.getD_cons_succ] at hf
         obtain ⟨⟨_, ⟨e88, i88⟩, rfl⟩, ⟨_, ⟨e84, i84⟩, rfl⟩, _⟩ := hf
         exact Or.inr ⟨(by have hg := getD_some i84; simp [Region.wanted, yielded, hg]), rfl⟩
       refine relG_pure (i := 18) (o := ⟨some 90, _, _, _, _, _⟩) (v := undef) [(12, 84, 5)] [5] rfl rfl (by kernel_rfl) (by kernel_rfl) (fun t w1 hB hf hbf => ?_) ?_
       · simp only [DepF, List.getD_cons_zero, List.getD_cons_succ] at hf
         obtain ⟨⟨_, ⟨e84, i84⟩, rfl⟩, _⟩ := hf
         exact Or.inr ⟨(by have hg := getD_some i84; simp [Region.wanted, yielded, hg]), rfl⟩
       refine relG_pure (i := 19) (o := ⟨some 91, _, _, _, _, _⟩) (v := undef) [(17, 89, 1), (18, 90, 0), (12, 84, 6)] [] rfl rfl (by kernel_rfl) (by kernel_rfl) (fun t w1 hB hf hbf => ?_) ?_
       · simp only [DepF, List.getD_cons_zero, List.getD_cons_succ] at hf
         obtain ⟨⟨_, ⟨e89, i89⟩, rfl⟩, ⟨_, ⟨e90, i90⟩, rfl⟩, ⟨_, ⟨e84, i84⟩, rfl⟩, _⟩ := hf
         exact Or.inr ⟨(by have hg := getD_some i84; simp [Region.wanted, yielded, hg]), rfl⟩
       refine relG_pure (i := 20) (o := ⟨some 92, _, _, _, _, _⟩) (v := ?v5) [(12, 84, 7), (19, 91, 0)] [] rfl rfl (by kernel_rfl) (by kernel_rfl) (fun t w1 hB hf hbf => ?y5) ?n5
       case y5 =>
         simp only [DepF, List.getD_cons_zero, List.getD_cons_succ] at hf
         obtain ⟨⟨_, ⟨e84, i84⟩, rfl⟩, ⟨_, ⟨e91, i91⟩, rfl⟩, _⟩ := hf
         clear hbf
         skip
         refine Or.inl ⟨wanted_none rfl, ?_⟩
         rintro _ rfl
         go_simp <;> with_reducible rfl
       refine relG_done [(0, 72, 20), (1, 73, 19), (2, 74, 18), (3, 75, 17), (4, 76, 16), (5, 77, 15), (6, 78, 14), (7, 79, 13), (8, 80, 12), (9, 81, 11), (10, 82, 10), (11, 83, 9), (12, 84, 8), (13, 85, 7), (14, 86, 6), (15, 87, 5), (16, 88, 4), (17, 89, 3), (18, 90, 2), (19, 91, 1), (20, 92, 0)] (by kernel_rfl) rfl (by kernel_rfl) (fun f wE hB hf => ?_)
       simp only [FinF, List.getD_cons_zero, List.getD_cons_succ] at hf
       obtain ⟨⟨_, e72, rfl⟩, ⟨_, e73, rfl⟩, ⟨_, e74, rfl⟩, ⟨_, e75, rfl⟩, ⟨_, e76, rfl⟩, ⟨_, e77, rfl⟩, ⟨_, e78, rfl⟩, ⟨_, e79, rfl⟩, ⟨_, e80, rfl⟩, ⟨_, e81, rfl⟩, ⟨_, e82, rfl⟩, ⟨_, e83, rfl⟩, ⟨_, e84, rfl⟩, ⟨_, e85, rfl⟩, ⟨_, e86, rfl⟩, ⟨_, e87, rfl⟩, ⟨_, e88, rfl⟩, ⟨_, e89, rfl⟩, ⟨_, e90, rfl⟩, ⟨_, e91, rfl⟩, ⟨_, e92, rfl⟩, _⟩ := hf
       simp only [regT, List.foldl_cons, List.foldl_nil, List.setIfInBounds_toArray, List.set_cons_zero, List.set_cons_succ, e72, e73, e74, e75, e76, e77, e78, e79, e80, e81, e82, e83, e84, e85, e86, e87, e88, e89, e90, e91, e92]
       clear e72 e73 e74 e75 e76 e77 e78 e79 e80 e81 e82 e83 e84 e85 e86 e87 e88 e89 e90 e91 e92
       have O1 := Lib.hid (own_later HO.out hB (Nat.le_refl _))
       have HWS := Lib.hid (Nat.le_trans HB.out.size hB.size)
       have HB1 := Lib.hid (HB.out.trans (hB.mono HB.out.size))
       clear hB
       go_wp2_with fail
       go_roundw
       case rel => exact ⟨k + 1, by omega, by go_num, Lib.hid (by rw [QE.out, SX.out SPF.out]; exact O1.out), HB1⟩
       case measure => simp [intOf]; omega
     cases bv
     case true =>
       have SPF : Hid (sinP s x = false) := Lib.hid (by rw [SPD.out]; rfl)
       refine relG_start (slots := [72, 73, 74, 75, 76, 77, 78, 79, 80, 81, 82, 83, 84, 85, 86, 87, 88, 89, 90, 91, 92]) (so := []) (by kernel_rfl) (by kernel_rfl) (by rfl) ?_
       refine relG_pure (i := 0) (o := ⟨some 72, _, _, _, _, _⟩) (v := ?v6) [] [5] rfl rfl (by kernel_rfl) (by kernel_rfl) (fun t w1 hB hf hbf => ?y6) ?n6
       case y6 =>
         simp only [BasF] at hbf
         clear hf
         obtain ⟨⟨b5, k5⟩, _⟩ := hbf
         skip
         have hx := boxStays S9.out hB
         have x0 := cell_of_row _ (c1 + 1) 0 _ _ _ hx
         have x1 := cell_of_row _ (c1 + 1) 1 _ _ _ hx
         have x2 := cell_of_row _ (c1 + 1) 2 _ _ _ hx
         have x3 := cell_of_row _ (c1 + 1) 3 _ _ _ hx
         have x4 := cell_of_row _ (c1 + 1) 4 _ _ _ hx
         clear hx
         refine Or.inl ⟨wanted_none rfl, ?_⟩
         rintro _ rfl
         go_simp <;> with_reducible rfl
       refine relG_call (i := 1) (o := ⟨some 73, _, _, _, _, _⟩) ((fun v _ => v = .bool true)) [(0, 72, 0)] [] rfl rfl (by kernel_rfl) (by kernel_rfl) ((fun _ _ _ h _ => h)) ?_ ?_
       · intro t w1 hB hf hbf K hK
         simp only [DepF, List.getD_cons_zero] at hf
         obtain ⟨⟨_, ⟨e72, i72⟩, rfl⟩, _⟩ := hf
         clear hbf
         skip
         refine ⟨wanted_none rfl, ?_⟩
         go_simp
         refine (FIT.out w1).mono ?_
         rintro e w2 ⟨rfl, hb⟩
         exact hK.out _ w2 (rfl) hb
       refine relG_pure (i := 2) (o := ⟨some 74, _, _, _, _, _⟩) (v := ?v7) [(1, 73, 0)] [] rfl rfl (by kernel_rfl) (by kernel_rfl) (fun t w1 hB hf hbf => ?y7) ?n7
       case y7 =>
         simp only [DepF, List.getD_cons_zero] at hf
         obtain ⟨⟨_, ⟨e73, i73⟩, rfl⟩, _⟩ := hf
         clear hbf
         skip
         refine Or.inl ⟨wanted_none rfl, ?_⟩
         rintro _ rfl
         go_simp <;> with_reducible rfl
       refine relG_pure (i := 3) (o := ⟨some 75, _, _, _, _, _⟩) (v := ?v8) [(2, 74, 0)] [1] rfl rfl (by kernel_rfl) (by kernel_rfl) (fun t w1 hB hf hbf => ?y8) ?n8
       case y8 =>
         simp only [DepF, List.getD_cons_zero] at hf
         simp only [BasF] at hbf
         obtain ⟨⟨_, ⟨e74, i74⟩, rfl⟩, _⟩ := hf
         obtain ⟨⟨b1, k1⟩, _⟩ := hbf
         skip
         refine Or.inl ⟨(by have hg := getD_some i74; simp [Region.wanted, yielded, hg]), ?_⟩
         rintro _ rfl
         go_simp <;> with_reducible rfl
       refine relG_pure (i := 4) (o := ⟨some 76, _, _, _, _, _⟩) (v := ?v9) [(2, 74, 1)] [12] rfl rfl (by kernel_rfl) (by kernel_rfl) (fun t w1 hB hf hbf => ?y9) ?n9
       case y9 =>
         simp only [DepF, List.getD_cons_zero, List.getD_cons_succ] at hf
         simp only [BasF] at hbf
         obtain ⟨⟨_, ⟨e74, i74⟩, rfl⟩, _⟩ := hf
         obtain ⟨⟨b12, k12⟩, _⟩ := hbf
         skip
         refine Or.inl ⟨(by have hg := getD_some i74; simp [Region.wanted, yielded, hg]), ?_⟩
         rintro _ rfl
         go_simp <;> with_reducible rfl
       refine relG_pure (i := 5) (o := ⟨some 77, _, _, _, _, _⟩) (v := ?v10) [(2, 74, 2)] [12] rfl rfl (by kernel_rfl) (by kernel_rfl) (fun t w1 hB hf hbf => ?y10) ?n10
       case y10 =>
         simp only [DepF, List.getD_cons_zero, List.getD_cons_succ] at hf
         simp only [BasF] at hbf
         obtain ⟨⟨_, ⟨e74, i74⟩, rfl⟩, _⟩ := hf
         obtain ⟨⟨b12, k12⟩, _⟩ := hbf
         skip
         refine Or.inl ⟨(by have hg := getD_some i74; simp [Region.wanted, yielded, hg]), ?_⟩
         rintro _ rfl
         go_simp <;> with_reducible rfl
       refine relG_pure (i := 6) (o := ⟨some 78, _, _, _, _, _⟩) (v := .int .i64 ((k : Int) + 1)) [(5, 77, 0), (2, 74, 3)] [] rfl rfl (by kernel_rfl) (by kernel_rfl) (fun t w1 hB hf hbf => ?y11) ?n11
       case y11 =>
         simp only [DepF, List.getD_cons_zero, List.getD_cons_succ] at hf
         obtain ⟨⟨_, ⟨e77, i77⟩, rfl⟩, ⟨_, ⟨e74, i74⟩, rfl⟩, _⟩ := hf
         clear hbf
         skip
         have hw := HWR.out
         refine Or.inl ⟨(by have hg := getD_some i74; simp [Region.wanted, yielded, hg]), ?_⟩
         rintro _ rfl
         go_simp <;> with_reducible rfl
       refine relG_pure (i := 7) (o := ⟨some 79, _, _, _, _, _⟩) (v := ?v12) [(3, 75, 3), (4, 76, 2), (6, 78, 0), (2, 74, 4)] [] rfl rfl (by kernel_rfl) (by kernel_rfl) (fun t w1 hB hf hbf => ?y12) ?n12
       case y12 =>
         simp only [DepF, List.getD_cons_zero, List.getD_cons_succ] at hf
         obtain ⟨⟨_, ⟨e75, i75⟩, rfl⟩, ⟨_, ⟨e76, i76⟩, rfl⟩, ⟨_, ⟨e78, i78⟩, rfl⟩, ⟨_, ⟨e74, i74⟩, rfl⟩, _⟩ := hf
         clear hbf
         skip
         have hsl := SL.out
         refine Or.inl ⟨(by have hg := getD_some i74; simp [Region.wanted, yielded, hg]), ?_⟩
         rintro _ rfl
         go_simp <;> with_reducible rfl
       refine relG_pure (i := 8) (o := ⟨some 80, _, _, _, _, _⟩) (v := ?v13) [(2, 74, 5)] [5] rfl rfl (by kernel_rfl) (by kernel_rfl) (fun t w1 hB hf hbf => ?y13) ?n13
       case y13 =>
         simp only [DepF, List.getD_cons_zero, List.getD_cons_succ] at hf
         simp only [BasF] at hbf
         obtain ⟨⟨_, ⟨e74, i74⟩, rfl⟩, _⟩ := hf
         obtain ⟨⟨b5, k5⟩, _⟩ := hbf
         skip
         have hx := boxStays S9.out hB
         have x0 := cell_of_row _ (c1 + 1) 0 _ _ _ hx
         have x1 := cell_of_row _ (c1 + 1) 1 _ _ _ hx
         have x2 := cell_of_row _ (c1 + 1) 2 _ _ _ hx
         have x3 := cell_of_row _ (c1 + 1) 3 _ _ _ hx
         have x4 := cell_of_row _ (c1 + 1) 4 _ _ _ hx
         clear hx
         refine Or.inl ⟨(by have hg := getD_some i74; simp [Region.wanted, yielded, hg]), ?_⟩
         rintro _ rfl
         go_simp <;> with_reducible rfl
       refine relG_call (i := 9) (o := ⟨some 81, _, _, _, _, _⟩) ((fun v _ => v = .bool true)) [(7, 79, 1), (8, 80, 0), (2, 74, 6)] [] rfl rfl (by kernel_rfl) (by kernel_rfl) ((fun _ _ _ h _ => h)) ?_ ?_
       · intro t w1 hB hf hbf K hK
         simp only [DepF, List.getD_cons_zero, List.getD_cons_succ] at hf
         obtain ⟨⟨_, ⟨e79, i79⟩, rfl⟩, ⟨_, ⟨e80, i80⟩, rfl⟩, ⟨_, ⟨e74, i74⟩, rfl⟩, _⟩ := hf
         clear hbf
         skip
         refine ⟨(by have hg := getD_some i74; simp [Region.wanted, yielded, hg]), ?_⟩
         go_simp
         refine (BEH.out w1 hB).mono ?_
         rintro e w2 ⟨rfl, hb⟩
         exact hK.out _ w2 (rfl) hb
       refine relG_pure (i := 10) (o := ⟨some 82, _, _, _, _, _⟩) (v := ?v14) [(9, 81, 0), (2, 74, 7)] [] rfl rfl (by kernel_rfl) (by kernel_rfl) (fun t w1 hB hf hbf => ?y14) ?n14
       case y14 =>
         simp only [DepF, List.getD_cons_zero, List.getD_cons_succ] at hf
         obtain ⟨⟨_, ⟨e81, i81⟩, rfl⟩, ⟨_, ⟨e74, i74⟩, rfl⟩, _⟩ := hf
         clear hbf
         skip
         refine Or.inl ⟨(by have hg := getD_some i74; simp [Region.wanted, yielded, hg]), ?_⟩
         rintro _ rfl
         go_simp <;> with_reducible rfl
       refine relG_pure (i := 11) (o := ⟨some 83, _, _, _, _, _⟩) (v := ?v15) [(2, 74, 8), (10, 82, 0)] [] rfl rfl (by kernel_rfl) (by kernel_rfl) (fun t w1 hB hf hbf => ?y15) ?n15
       case y15 =>
         simp only [DepF, List.getD_cons_zero, List.getD_cons_succ] at hf
         obtain ⟨⟨_, ⟨e74, i74⟩, rfl⟩, ⟨_, ⟨e82, i82⟩, rfl⟩, _⟩ := hf
         clear hbf
         skip
         refine Or.inl ⟨wanted_none rfl, ?_⟩
         rintro _ rfl
         go_simp <;> with_reducible rfl
       refine relG_pure (i := 12) (o := ⟨some 84, _, _, _, _, _⟩) (v := ?v16) [(11, 83, 0)] [] rfl rfl (by kernel_rfl) (by kernel_rfl) (fun t w1 hB hf hbf => ?y16) ?n16
       case y16 =>
         simp only [DepF, List.getD_cons_zero] at hf
         obtain ⟨⟨_, ⟨e83, i83⟩, rfl⟩, _⟩ := hf
         clear hbf
         skip
         refine Or.inl ⟨wanted_none rfl, ?_⟩
         rintro _ rfl
         go_simp <;> with_reducible rfl
       refine relG_pure (i := 13) (o := ⟨some 85, _, _, _, _, _⟩) (v := undef) [(12, 84, 0)] [1] rfl rfl (by kernel_rfl) (by kernel_rfl) (fun t w1 hB hf hbf => ?_) ?_
       · simp only [DepF, List.getD_cons_zero] at hf
         obtain ⟨⟨_, ⟨e84, i84⟩, rfl⟩, _⟩ := hf
         exact Or.inr ⟨(by have hg := getD_some i84; simp [Region.wanted, yielded, hg]), rfl⟩
       refine relG_pure (i := 14) (o := ⟨some 86, _, _, _, _, _⟩) (v := undef) [(12, 84, 1)] [12] rfl rfl (by kernel_rfl) (by kernel_rfl) (fun t w1 hB hf hbf => ?_) ?_
       · simp only [DepF, List.getD_cons_zero, List.getD_cons_succ] at hf
         obtain ⟨⟨_, ⟨e84, i84⟩, rfl⟩, _⟩ := hf
         exact Or.inr ⟨(by have hg := getD_some i84; simp [Region.wanted, yielded, hg]), rfl⟩
       refine relG_pure (i := 15) (o := ⟨some 87, _, _, _, _, _⟩) (v := undef) [(13, 85, 1), (14, 86, 0), (12, 84, 2)] [] rfl rfl (by kernel_rfl) (by kernel_rfl) (fun t w1 hB hf hbf => ?_) ?_
       · simp only [DepF, List.getD_cons_zero, List.getD_cons_succ] at hf
         obtain ⟨⟨_, ⟨e85, i85⟩, rfl⟩, ⟨_, ⟨e86, i86⟩, rfl⟩, ⟨_, ⟨e84, i84⟩, rfl⟩, _⟩ := hf
         exact Or.inr ⟨(by have hg := getD_some i84; simp [Region.wanted, yielded, hg]), rfl⟩
       refine relG_pure (i := 16) (o := ⟨some 88, _, _, _, _, _⟩) (v := undef) [(15, 87, 0), (12, 84, 3)] [] rfl rfl (by kernel_rfl) (by kernel_rfl) (fun t w1 hB hf hbf => ?_) ?_
       · simp only [DepF, List.getD_cons_zero, List.getD_cons_succ] at hf
         obtain ⟨⟨_, ⟨e87, i87⟩, rfl⟩, ⟨_, ⟨e84, i84⟩, rfl⟩, _⟩ := hf
         exact Or.inr ⟨(by have hg := getD_some i84; simp [Region.wanted, yielded, hg]), rfl⟩
       refine relG_pure (i := 17) (o := ⟨some 89, _, _, _, _, _⟩) (v := undef) [(16, 88, 0), (12, 84, 4)] [] rfl rfl (by kernel_rfl) (by kernel_rfl) (fun t w1 hB hf hbf => ?_) ?_
       · simp only [DepF, List.getD_cons_zero, List.getD_cons_succ] at hf
         obtain ⟨⟨_, ⟨e88, i88⟩, rfl⟩, ⟨_, ⟨e84, i84⟩, rfl⟩, _⟩ := hf
         exact Or.inr ⟨(by have hg := getD_some i84; simp [Region.wanted, yielded, hg]), rfl⟩
       refine relG_pure (i := 18) (o := ⟨some 90, _, _, _, _, _⟩) (v := undef) [(12, 84, 5)] [5] rfl rfl (by kernel_rfl) (by kernel_rfl) (fun t w1 hB hf hbf => ?_) ?_
       · simp only [DepF, List.getD_cons_zero, List.getD_cons_succ] at hf
         obtain ⟨⟨_, ⟨e84, i84⟩, rfl⟩, _⟩ := hf
         exact Or.inr ⟨(by have hg := getD_some i84; simp [Region.wanted, yielded, hg]), rfl⟩
       refine relG_pure (i := 19) (o := ⟨some 91, _, _, _, _, _⟩) (v := undef) [(17, 89, 1), (18, 90, 0), (12, 84, 6)] [] rfl rfl (by kernel_rfl) (by kernel_rfl) (fun t w1 hB hf hbf => ?_) ?_
       · simp only [DepF, List.getD_cons_zero, List.getD_cons_succ] at hf
         obtain ⟨⟨_, ⟨e89, i89⟩, rfl⟩, ⟨_, ⟨e90, i90⟩, rfl⟩, ⟨_, ⟨e84, i84⟩, rfl⟩, _⟩ := hf
         exact Or.inr ⟨(by have hg := getD_some i84; simp [Region.wanted, yielded, hg]), rfl⟩
       refine relG_pure (i := 20) (o := ⟨some 92, _, _, _, _, _⟩) (v := ?v17) [(12, 84, 7), (19, 91, 0)] [] rfl rfl (by kernel_rfl) (by kernel_rfl) (fun t w1 hB hf hbf => ?y17) ?n17
       case y17 =>
         simp only [DepF, List.getD_cons_zero, List.getD_cons_succ] at hf
         obtain ⟨⟨_, ⟨e84, i84⟩, rfl⟩, ⟨_, ⟨e91, i91⟩, rfl⟩, _⟩ := hf
         clear hbf
         skip
         refine Or.inl ⟨wanted_none rfl, ?_⟩
         rintro _ rfl
         go_simp <;> with_reducible rfl
       refine relG_done [(0, 72, 20), (1, 73, 19), (2, 74, 18), (3, 75, 17), (4, 76, 16), (5, 77, 15), (6, 78, 14), (7, 79, 13), (8, 80, 12), (9, 81, 11), (10, 82, 10), (11, 83, 9), (12, 84, 8), (13, 85, 7), (14, 86, 6), (15, 87, 5), (16, 88, 4), (17, 89, 3), (18, 90, 2), (19, 91, 1), (20, 92, 0)] (by kernel_rfl) rfl (by kernel_rfl) (fun f wE hB hf => ?_)
       simp only [FinF, List.getD_cons_zero, List.getD_cons_succ] at hf
       obtain ⟨⟨_, e72, rfl⟩, ⟨_, e73, rfl⟩, ⟨_, e74, rfl⟩, ⟨_, e75, rfl⟩, ⟨_, e76, rfl⟩, ⟨_, e77, rfl⟩, ⟨_, e78, rfl⟩, ⟨_, e79, rfl⟩, ⟨_, e80, rfl⟩, ⟨_, e81, rfl⟩, ⟨_, e82, rfl⟩, ⟨_, e83, rfl⟩, ⟨_, e84, rfl⟩, ⟨_, e85, rfl⟩, ⟨_, e86, rfl⟩, ⟨_, e87, rfl⟩, ⟨_, e88, rfl⟩, ⟨_, e89, rfl⟩, ⟨_, e90, rfl⟩, ⟨_, e91, rfl⟩, ⟨_, e92, rfl⟩, _⟩ := hf
       simp only [regT, List.foldl_cons, List.foldl_nil, List.setIfInBounds_toArray, List.set_cons_zero, List.set_cons_succ, e72, e73, e74, e75, e76, e77, e78, e79, e80, e81, e82, e83, e84, e85, e86, e87, e88, e89, e90, e91, e92]
       clear e72 e73 e74 e75 e76 e77 e78 e79 e80 e81 e82 e83 e84 e85 e86 e87 e88 e89 e90 e91 e92
       have O1 := Lib.hid (own_later HO.out hB (Nat.le_refl _))
       have HWS := Lib.hid (Nat.le_trans HB.out.size hB.size)
       have HB1 := Lib.hid (HB.out.trans (hB.mono HB.out.size))
       clear hB
       go_wp2_with fail
       go_roundw
       case rel => exact ⟨k + 1, by omega, by go_num, Lib.hid (by rw [QE.out, SX.out SPF.out]; exact O1.out), HB1⟩
       case measure => simp [intOf]; omega
     refine relG_start (slots := [72, 73, 74, 75, 76, 77, 78, 79, 80, 81, 82, 83, 84, 85, 86, 87, 88, 89, 90, 91, 92]) (so := []) (by kernel_rfl) (by kernel_rfl) (by rfl) ?_
     refine relG_pure (i := 0) (o := ⟨some 72, _, _, _, _, _⟩) (v := ?v18) [] [5] rfl rfl (by kernel_rfl) (by kernel_rfl) (fun t w1 hB hf hbf => ?y18) ?n18
     case y18 =>
       simp only [BasF] at hbf
       clear hf
       obtain ⟨⟨b5, k5⟩, _⟩ := hbf
       skip
       have hx := boxStays S9.out hB
       have x0 := cell_of_row _ (c1 + 1) 0 _ _ _ hx
       have x1 := cell_of_row _ (c1 + 1) 1 _ _ _ hx
       have x2 := cell_of_row _ (c1 + 1) 2 _ _ _ hx
       have x3 := cell_of_row _ (c1 + 1) 3 _ _ _ hx
       have x4 := cell_of_row _ (c1 + 1) 4 _ _ _ hx
       clear hx
       refine Or.inl ⟨wanted_none rfl, ?_⟩
       rintro _ rfl
       go_simp <;> with_reducible rfl
     refine relG_call (i := 1) (o := ⟨some 73, _, _, _, _, _⟩) ((fun v _ => v = .bool true)) [(0, 72, 0)] [] rfl rfl (by kernel_rfl) (by kernel_rfl) ((fun _ _ _ h _ => h)) ?_ ?_
     · intro t w1 hB hf hbf K hK
       simp only [DepF, List.getD_cons_zero] at hf
       obtain ⟨⟨_, ⟨e72, i72⟩, rfl⟩, _⟩ := hf
       clear hbf
       skip
       refine ⟨wanted_none rfl, ?_⟩
       go_simp
       refine (FIT.out w1).mono ?_
       rintro e w2 ⟨rfl, hb⟩
       exact hK.out _ w2 (rfl) hb
     refine relG_pure (i := 2) (o := ⟨some 74, _, _, _, _, _⟩) (v := ?v19) [(1, 73, 0)] [] rfl rfl (by kernel_rfl) (by kernel_rfl) (fun t w1 hB hf hbf => ?y19) ?n19
     case y19 =>
       simp only [DepF, List.getD_cons_zero] at hf
       obtain ⟨⟨_, ⟨e73, i73⟩, rfl⟩, _⟩ := hf
       clear hbf
       skip
       refine Or.inl ⟨wanted_none rfl, ?_⟩
       rintro _ rfl
       go_simp <;> with_reducible rfl
     refine relG_pure (i := 3) (o := ⟨some 75, _, _, _, _, _⟩) (v := ?v20) [(2, 74, 0)] [1] rfl rfl (by kernel_rfl) (by kernel_rfl) (fun t w1 hB hf hbf => ?y20) ?n20
     case y20 =>
       simp only [DepF, List.getD_cons_zero] at hf
       simp only [BasF] at hbf
       obtain ⟨⟨_, ⟨e74, i74⟩, rfl⟩, _⟩ := hf
       obtain ⟨⟨b1, k1⟩, _⟩ := hbf
       skip
       refine Or.inl ⟨(by have hg := getD_some i74; simp [Region.wanted, yielded, hg]), ?_⟩
       rintro _ rfl
       go_simp <;> with_reducible rfl
     refine relG_pure (i := 4) (o := ⟨some 76, _, _, _, _, _⟩) (v := ?v21) [(2, 74, 1)] [12] rfl rfl (by kernel_rfl) (by kernel_rfl) (fun t w1 hB hf hbf => ?y21) ?n21
     case y21 =>
       simp only [DepF, List.getD_cons_zero, List.getD_cons_succ] at hf
       simp only [BasF] at hbf
       obtain ⟨⟨_, ⟨e74, i74⟩, rfl⟩, _⟩ := hf
       obtain ⟨⟨b12, k12⟩, _⟩ := hbf
       skip
       refine Or.inl ⟨(by have hg := getD_some i74; simp [Region.wanted, yielded, hg]), ?_⟩
       rintro _ rfl
       go_simp <;> with_reducible rfl
     refine relG_pure (i := 5) (o := ⟨some 77, _, _, _, _, _⟩) (v := ?v22) [(2, 74, 2)] [12] rfl rfl (by kernel_rfl) (by kernel_rfl) (fun t w1 hB hf hbf => ?y22) ?n22
     case y22 =>
       simp only [DepF, List.getD_cons_zero, List.getD_cons_succ] at hf
       simp only [BasF] at hbf
       obtain ⟨⟨_, ⟨e74, i74⟩, rfl⟩, _⟩ := hf
       obtain ⟨⟨b12, k12⟩, _⟩ := hbf
       skip
       refine Or.inl ⟨(by have hg := getD_some i74; simp [Region.wanted, yielded, hg]), ?_⟩
       rintro _ rfl
       go_simp <;> with_reducible rfl
     refine relG_pure (i := 6) (o := ⟨some 78, _, _, _, _, _⟩) (v := .int .i64 ((k : Int) + 1)) [(5, 77, 0), (2, 74, 3)] [] rfl rfl (by kernel_rfl) (by kernel_rfl) (fun t w1 hB hf hbf => ?y23) ?n23
     case y23 =>
       simp only [DepF, List.getD_cons_zero, List.getD_cons_succ] at hf
       obtain ⟨⟨_, ⟨e77, i77⟩, rfl⟩, ⟨_, ⟨e74, i74⟩, rfl⟩, _⟩ := hf
       clear hbf
       skip
       have hw := HWR.out
       refine Or.inl ⟨(by have hg := getD_some i74; simp [Region.wanted, yielded, hg]), ?_⟩
       rintro _ rfl
       go_simp <;> with_reducible rfl
     refine relG_pure (i := 7) (o := ⟨some 79, _, _, _, _, _⟩) (v := ?v24) [(3, 75, 3), (4, 76, 2), (6, 78, 0), (2, 74, 4)] [] rfl rfl (by kernel_rfl) (by kernel_rfl) (fun t w1 hB hf hbf => ?y24) ?n24
     case y24 =>
       simp only [DepF, List.getD_cons_zero, List.getD_cons_succ] at hf
       obtain ⟨⟨_, ⟨e75, i75⟩, rfl⟩, ⟨_, ⟨e76, i76⟩, rfl⟩, ⟨_, ⟨e78, i78⟩, rfl⟩, ⟨_, ⟨e74, i74⟩, rfl⟩, _⟩ := hf
       clear hbf
       skip
       have hsl := SL.out
       refine Or.inl ⟨(by have hg := getD_some i74; simp [Region.wanted, yielded, hg]), ?_⟩
       rintro _ rfl
       go_simp <;> with_reducible rfl
     refine relG_pure (i := 8) (o := ⟨some 80, _, _, _, _, _⟩) (v := ?v25) [(2, 74, 5)] [5] rfl rfl (by kernel_rfl) (by kernel_rfl) (fun t w1 hB hf hbf => ?y25) ?n25
     case y25 =>
       simp only [DepF, List.getD_cons_zero, List.getD_cons_succ] at hf
       simp only [BasF] at hbf
       obtain ⟨⟨_, ⟨e74, i74⟩, rfl⟩, _⟩ := hf
       obtain ⟨⟨b5, k5⟩, _⟩ := hbf
       skip
       have hx := boxStays S9.out hB
       have x0 := cell_of_row _ (c1 + 1) 0 _ _ _ hx
       have x1 := cell_of_row _ (c1 + 1) 1 _ _ _ hx
       have x2 := cell_of_row _ (c1 + 1) 2 _ _ _ hx
       have x3 := cell_of_row _ (c1 + 1) 3 _ _ _ hx
       have x4 := cell_of_row _ (c1 + 1) 4 _ _ _ hx
       clear hx
       refine Or.inl ⟨(by have hg := getD_some i74; simp [Region.wanted, yielded, hg]), ?_⟩
       rintro _ rfl
       go_simp <;> with_reducible rfl
     refine relG_call (i := 9) (o := ⟨some 81, _, _, _, _, _⟩) ((fun v _ => v = .bool false)) [(7, 79, 1), (8, 80, 0), (2, 74, 6)] [] rfl rfl (by kernel_rfl) (by kernel_rfl) ((fun _ _ _ h _ => h)) ?_ ?_
     · intro t w1 hB hf hbf K hK
       simp only [DepF, List.getD_cons_zero, List.getD_cons_succ] at hf
       obtain ⟨⟨_, ⟨e79, i79⟩, rfl⟩, ⟨_, ⟨e80, i80⟩, rfl⟩, ⟨_, ⟨e74, i74⟩, rfl⟩, _⟩ := hf
       clear hbf
       skip
       refine ⟨(by have hg := getD_some i74; simp [Region.wanted, yielded, hg]), ?_⟩
       go_simp
       refine (BEH.out w1 hB).mono ?_
       rintro e w2 ⟨rfl, hb⟩
       exact hK.out _ w2 (rfl) hb
     refine relG_pure (i := 10) (o := ⟨some 82, _, _, _, _, _⟩) (v := ?v26) [(9, 81, 0), (2, 74, 7)] [] rfl rfl (by kernel_rfl) (by kernel_rfl) (fun t w1 hB hf hbf => ?y26) ?n26
     case y26 =>
       simp only [DepF, List.getD_cons_zero, List.getD_cons_succ] at hf
       obtain ⟨⟨_, ⟨e81, i81⟩, rfl⟩, ⟨_, ⟨e74, i74⟩, rfl⟩, _⟩ := hf
       clear hbf
       skip
       refine Or.inl ⟨(by have hg := getD_some i74; simp [Region.wanted, yielded, hg]), ?_⟩
       rintro _ rfl
       go_simp <;> with_reducible rfl
     refine relG_pure (i := 11) (o := ⟨some 83, _, _, _, _, _⟩) (v := ?v27) [(2, 74, 8), (10, 82, 0)] [] rfl rfl (by kernel_rfl) (by kernel_rfl) (fun t w1 hB hf hbf => ?y27) ?n27
     case y27 =>
       simp only [DepF, List.getD_cons_zero, List.getD_cons_succ] at hf
       obtain ⟨⟨_, ⟨e74, i74⟩, rfl⟩, ⟨_, ⟨e82, i82⟩, rfl⟩, _⟩ := hf
       clear hbf
       skip
       refine Or.inl ⟨wanted_none rfl, ?_⟩
       rintro _ rfl
       go_simp <;> with_reducible rfl
     refine relG_pure (i := 12) (o := ⟨some 84, _, _, _, _, _⟩) (v := ?v28) [(11, 83, 0)] [] rfl rfl (by kernel_rfl) (by kernel_rfl) (fun t w1 hB hf hbf => ?y28) ?n28
     case y28 =>
       simp only [DepF, List.getD_cons_zero] at hf
       obtain ⟨⟨_, ⟨e83, i83⟩, rfl⟩, _⟩ := hf
       clear hbf
       skip
       refine Or.inl ⟨wanted_none rfl, ?_⟩
       rintro _ rfl
       go_simp <;> with_reducible rfl
     refine relG_pure (i := 13) (o := ⟨some 85, _, _, _, _, _⟩) (v := ?v29) [(12, 84, 0)] [1] rfl rfl (by kernel_rfl) (by kernel_rfl) (fun t w1 hB hf hbf => ?y29) ?n29
     case y29 =>
       simp only [DepF, List.getD_cons_zero] at hf
       simp only [BasF] at hbf
       obtain ⟨⟨_, ⟨e84, i84⟩, rfl⟩, _⟩ := hf
       obtain ⟨⟨b1, k1⟩, _⟩ := hbf
       skip
       refine Or.inl ⟨(by have hg := getD_some i84; simp [Region.wanted, yielded, hg]), ?_⟩
       rintro _ rfl
       go_simp <;> with_reducible rfl
     refine relG_pure (i := 14) (o := ⟨some 86, _, _, _, _, _⟩) (v := ?v30) [(12, 84, 1)] [12] rfl rfl (by kernel_rfl) (by kernel_rfl) (fun t w1 hB hf hbf => ?y30) ?n30
     case y30 =>
       simp only [DepF, List.getD_cons_zero, List.getD_cons_succ] at hf
       simp only [BasF] at hbf
       obtain ⟨⟨_, ⟨e84, i84⟩, rfl⟩, _⟩ := hf
       obtain ⟨⟨b12, k12⟩, _⟩ := hbf
       skip
       refine Or.inl ⟨(by have hg := getD_some i84; simp [Region.wanted, yielded, hg]), ?_⟩
       rintro _ rfl
       go_simp <;> with_reducible rfl
     refine relG_pure (i := 15) (o := ⟨some 87, _, _, _, _, _⟩) (v := ?v31) [(13, 85, 1), (14, 86, 0), (12, 84, 2)] [] rfl rfl (by kernel_rfl) (by kernel_rfl) (fun t w1 hB hf hbf => ?y31) ?n31
     case y31 =>
       simp only [DepF, List.getD_cons_zero, List.getD_cons_succ] at hf
       obtain ⟨⟨_, ⟨e85, i85⟩, rfl⟩, ⟨_, ⟨e86, i86⟩, rfl⟩, ⟨_, ⟨e84, i84⟩, rfl⟩, _⟩ := hf
       clear hbf
       skip
       have hki := HKI.out
       refine Or.inl ⟨(by have hg := getD_some i84; simp [Region.wanted, yielded, hg]), ?_⟩
       rintro _ rfl
       go_simp <;> with_reducible rfl
     refine relG_pure (i := 16) (o := ⟨some 88, _, _, _, _, _⟩) (v := ?v32) [(15, 87, 0), (12, 84, 3)] [] rfl rfl (by kernel_rfl) (by kernel_rfl) (fun t w1 hB hf hbf => ?y32) ?n32
     case y32 =>
       simp only [DepF, List.getD_cons_zero, List.getD_cons_succ] at hf
       obtain ⟨⟨_, ⟨e87, i87⟩, rfl⟩, ⟨_, ⟨e84, i84⟩, rfl⟩, _⟩ := hf
       clear hbf
       skip
       refine Or.inl ⟨(by have hg := getD_some i84; simp [Region.wanted, yielded, hg]), ?_⟩
       rintro _ rfl
       go_simp <;> with_reducible rfl
     refine relG_pure (i := 17) (o := ⟨some 89, _, _, _, _, _⟩) (v := ?v33) [(16, 88, 0), (12, 84, 4)] [] rfl rfl (by kernel_rfl) (by kernel_rfl) (fun t w1 hB hf hbf => ?y33) ?n33
     case y33 =>
       simp only [DepF, List.getD_cons_zero, List.getD_cons_succ] at hf
       obtain ⟨⟨_, ⟨e88, i88⟩, rfl⟩, ⟨_, ⟨e84, i84⟩, rfl⟩, _⟩ := hf
       clear hbf
       skip
       obtain ⟨p0, p1, p2, p3, p4, p5⟩ := CA.out.below hB
       refine Or.inl ⟨(by have hg := getD_some i84; simp [Region.wanted, yielded, hg]), ?_⟩
       rintro _ rfl
       go_simp <;> with_reducible rfl
     refine relG_pure (i := 18) (o := ⟨some 90, _, _, _, _, _⟩) (v := ?v34) [(12, 84, 5)] [5] rfl rfl (by kernel_rfl) (by kernel_rfl) (fun t w1 hB hf hbf => ?y34) ?n34
     case y34 =>
       simp only [DepF, List.getD_cons_zero, List.getD_cons_succ] at hf
       simp only [BasF] at hbf
       obtain ⟨⟨_, ⟨e84, i84⟩, rfl⟩, _⟩ := hf
       obtain ⟨⟨b5, k5⟩, _⟩ := hbf
       skip
       have hx := boxStays S9.out hB
       have x0 := cell_of_row _ (c1 + 1) 0 _ _ _ hx
       have x1 := cell_of_row _ (c1 + 1) 1 _ _ _ hx
       have x2 := cell_of_row _ (c1 + 1) 2 _ _ _ hx
       have x3 := cell_of_row _ (c1 + 1) 3 _ _ _ hx
       have x4 := cell_of_row _ (c1 + 1) 4 _ _ _ hx
       clear hx
       refine Or.inl ⟨(by have hg := getD_some i84; simp [Region.wanted, yielded, hg]), ?_⟩
       rintro _ rfl
       go_simp <;> with_reducible rfl
     refine relG_pure (i := 19) (o := ⟨some 91, _, _, _, _, _⟩) (v := ?v35) [(17, 89, 1), (18, 90, 0), (12, 84, 6)] [] rfl rfl (by kernel_rfl) (by kernel_rfl) (fun t w1 hB hf hbf => ?y35) ?n35
     case y35 =>
       simp only [DepF, List.getD_cons_zero, List.getD_cons_succ] at hf
       obtain ⟨⟨_, ⟨e89, i89⟩, rfl⟩, ⟨_, ⟨e90, i90⟩, rfl⟩, ⟨_, ⟨e84, i84⟩, rfl⟩, _⟩ := hf
       clear hbf
       skip
       have en := EN.out
       refine Or.inl ⟨(by have hg := getD_some i84; simp [Region.wanted, yielded, hg]), ?_⟩
       rintro _ rfl
       go_simp <;> with_reducible rfl
     refine relG_pure (i := 20) (o := ⟨some 92, _, _, _, _, _⟩) (v := ?v36) [(12, 84, 7), (19, 91, 0)] [] rfl rfl (by kernel_rfl) (by kernel_rfl) (fun t w1 hB hf hbf => ?y36) ?n36
     case y36 =>
       simp only [DepF, List.getD_cons_zero, List.getD_cons_succ] at hf
       obtain ⟨⟨_, ⟨e84, i84⟩, rfl⟩, ⟨_, ⟨e91, i91⟩, rfl⟩, _⟩ := hf
       clear hbf
       skip
       refine Or.inl ⟨wanted_none rfl, ?_⟩
       rintro _ rfl
       go_simp <;> with_reducible rfl
     refine relG_done [(0, 72, 20), (1, 73, 19), (2, 74, 18), (3, 75, 17), (4, 76, 16), (5, 77, 15), (6, 78, 14), (7, 79, 13), (8, 80, 12), (9, 81, 11), (10, 82, 10), (11, 83, 9), (12, 84, 8), (13, 85, 7), (14, 86, 6), (15, 87, 5), (16, 88, 4), (17, 89, 3), (18, 90, 2), (19, 91, 1), (20, 92, 0)] (by kernel_rfl) rfl (by kernel_rfl) (fun f wE hB hf => ?_)
     simp only [FinF, List.getD_cons_zero, List.getD_cons_succ] at hf
     obtain ⟨⟨_, e72, rfl⟩, ⟨_, e73, rfl⟩, ⟨_, e74, rfl⟩, ⟨_, e75, rfl⟩, ⟨_, e76, rfl⟩, ⟨_, e77, rfl⟩, ⟨_, e78, rfl⟩, ⟨_, e79, rfl⟩, ⟨_, e80, rfl⟩, ⟨_, e81, rfl⟩, ⟨_, e82, rfl⟩, ⟨_, e83, rfl⟩, ⟨_, e84, rfl⟩, ⟨_, e85, rfl⟩, ⟨_, e86, rfl⟩, ⟨_, e87, rfl⟩, ⟨_, e88, rfl⟩, ⟨_, e89, rfl⟩, ⟨_, e90, rfl⟩, ⟨_, e91, rfl⟩, ⟨_, e92, rfl⟩, _⟩ := hf
     simp only [regT, List.foldl_cons, List.foldl_nil, List.setIfInBounds_toArray, List.set_cons_zero, List.set_cons_succ, e72, e73, e74, e75, e76, e77, e78, e79, e80, e81, e82, e83, e84, e85, e86, e87, e88, e89, e90, e91, e92]
     clear e72 e73 e74 e75 e76 e77 e78 e79 e80 e81 e82 e83 e84 e85 e86 e87 e88 e89 e90 e91 e92
     cases ev
     case false =>
       have SPF : Hid (sinP s x = false) := Lib.hid (by rw [SPD.out]; rfl)
       have O1 := Lib.hid (own_later HO.out hB (Nat.le_refl _))
       have HWS := Lib.hid (Nat.le_trans HB.out.size hB.size)
       have HB1 := Lib.hid (HB.out.trans (hB.mono HB.out.size))
       clear hB
       go_wp2_with fail
       go_roundw
       case rel => exact ⟨k + 1, by omega, by go_num, Lib.hid (by rw [QE.out, SX.out SPF.out]; exact O1.out), HB1⟩
       case measure => simp [intOf]; omega
     have SPT : Hid (sinP s x = true) := Lib.hid (by rw [SPD.out]; rfl)
     have O1 := Lib.hid (own_later HO.out hB (Nat.le_refl _))
     have HWS := Lib.hid (Nat.le_trans HB.out.size hB.size)
     have HB1 := Lib.hid (HB.out.trans (hB.mono HB.out.size))
     obtain ⟨p0, p1, p2, p3, p4, p5⟩ := CA.out.below hB
     have hki := HKI.out
     clear hB
     go_wp2_with (at_builtin; go_must (refine wpList_app rfl _ _ 22 22 rfl u12.heap.size 47 _ 6 64 ET.out (.slice ar q1.length cr) q1.length (elsV q1) rfl (O1.out.alloc _) _ 1 (elV x) rfl ((CellsAt.new wE 47 (0, 0) (elV x)).srcN rfl (fun u hu => elsV_one [x] u (by simpa [elsV] using hu)) Try.underlying22 1 (by decide)) (by have := KL.out; have := HZ.out; omega) (by have := KL.out; have := HZ.out; omega) (by have := HWS.out; simp; omega) ?_); go_must (intro v6 w6 hown _ hbel _))
     have HO6 : Hid (w6.ownsRow u12.heap.size 47 6 v6 q2.length (elsV q2)) := Lib.hid (by rw [NX.out SPT.out, List.length_append, els_snoc]; exact hown)
     have HB6 := Lib.hid ((HB1.out.alloc HWS.out _).trans hbel)
     clear hown hbel
     go_wp2_with fail
     go_roundw
     case rel => exact ⟨k + 1, by omega, by go_num, Lib.hid (by rw [QE.out]; exact HO6.out), HB6⟩
     case measure => simp [intOf]; omega
   · obtain rfl : k = n := by omega
     have HO2 := HO
     rw [List.take_of_length_le (by rw [HN.out]; exact Nat.le_refl _)] at HO2
     clear HO
     obtain ⟨ar, cr, hrv, _, _⟩ := own_slice HO2.out
     subst hrv
     obtain ⟨vB, rfl⟩ : ∃ X : World, X = wr := ⟨_, rfl⟩
     have CR : Hid (CellsAt vB ar (elsV (sinK s l))) := Lib.hid (CellsAt.ownN HO2.out)
     have HM := Lib.hid (boxStays HM5.out HB.out)
     have HS := Lib.hid (boxStays HS5.out HB.out)
     have TB := Lib.hid (T5.out.below HB.out rfl)
     have CLB := Lib.hid (CL5.out.below HB.out rfl)
     have BEB := Lib.hid (BE5.out.trans (HB.out.mono BE5.out.size))
     obtain ⟨zb, hzb⟩ : ∃ q, decide (s = zeroS) = q := ⟨_, rfl⟩
     have EZ : ∀ W, (binOp .eql 41 (.agg #[.int .i64 s.g, .int .i64 s.r, .string s.l, .int .i64 s.n, .int .i64 s.i]) (.agg #[.int .i64 0, .int .i64 0, .string ⟨#[]⟩, .int .i64 0, .int .i64 0])).run Try.prog W = .ok (.bool zb) W := fun W => by rw [← hzb]; exact sv_eql s zeroS W
     have HZB := Lib.hid hzb
     clear HO2 HB hzb BE5 T5 CL5 HM5 HS5
     have HC : Hid (Chain [vB] vB) := Lib.hid (Chain.one vB)
     have kS0 := cell_of_row _ _ 0 _ _ _ HS.out
     have kS1 := cell_of_row _ _ 1 _ _ _ HS.out
     have kS2 := cell_of_row _ _ 2 _ _ _ HS.out
     have kS3 := cell_of_row _ _ 3 _ _ _ HS.out
     have kS4 := cell_of_row _ _ 4 _ _ _ HS.out
     cases zb
     case true =>
       have RC : Hid (CellsAt vB a (elsV (sinceL l s))) := Lib.hid (by rw [of_decide_eq_true HZB.out, sinceL_zero]; exact CLB.out)
       have RN : Hid (k = (sinceL l s).length) := Lib.hid (by rw [of_decide_eq_true HZB.out, sinceL_zero]; exact HN.out)
       go_upto_region 13 with (fail)
       clear EZ
       clear kS0 kS1 kS2 kS3 kS4
       have HZ2 := HZ.out
       have SLN : Hid ((sinceL l s).length ≤ 1000) := Lib.hid (by have := sinceL_len l s; have := HN.out; omega)
       go_wp2_with fail
       go_loopw [13] (fun i wr => ∃ j : Nat, j ≤ k + 2 ∧ i = .int .i64 ((j : Int) - 1) ∧ Hid (Below vB.heap.size vB wr)) (fun i _ => k + 2 - (intOf i + 1).toNat)
       case atStart => exact ⟨0, Nat.zero_le _, rfl, Lib.hid (Below.refl _ _)⟩
       case round =>
         obtain ⟨j, hj, rfl, HB2⟩ := hrel
         have HM2 := Lib.hid (boxStays HM.out HB2.out)
         have HS2 := Lib.hid (boxStays HS.out HB2.out)
         have T2 := Lib.hid (TB.out.below HB2.out rfl)
         have hwn : IntKind.i64.wrap ((k : Int) + 1) = (k : Int) + 1 := i64w (by omega) (by omega)
         clear HC
         have HC : Hid (Chain [wr] wr) := Lib.hid (Chain.one wr)
         have HM := HM2
         have HS := HS2
         match j, hj with
         | 0, _ =>
           rw [show (((0 : Nat) : Int) - 1) = -1 from rfl]
           have hneg : (-1 : Int) < (k : Int) + 1 := by omega
           have kM0 := cell_of_one HM.out
           go_wp2_with fail
           refine (at_reg (-1) _ (T2.out.below (HC.out.to wr (by simp)) rfl) R.out HZL.out (by omega) (by omega)).mono ?_
           rintro e y1 ⟨x, rfl, hx, hb⟩
           clear kM0
           replace HC := Lib.hid (HC.out.push hb)
           clear hb
           have e0 : atE l (-1) = (zeroE, false) := if_neg (by omega)
           rw [e0]
           obtain rfl : x = zeroE := by rw [hx, e0]
           simp only [zeroE]
           clear e0 hx
           go_upto_region 17 with (fail)
           obtain ⟨d2, hd2⟩ : ∃ c, y1.heap.size = c := ⟨_, rfl⟩
           try rw [hd2]
           obtain ⟨y2, hy2⟩ : ∃ X, allocs y1 [.cells #[.int .i64 0, .int .i64 0, .string ⟨#[]⟩, .int .i64 0, .int .i64 0, .string ⟨#[]⟩] 47] = X := ⟨_, rfl⟩
           rw [show y1.alloc (.cells #[.int .i64 0, .int .i64 0, .string ⟨#[]⟩, .int .i64 0, .int .i64 0, .string ⟨#[]⟩] 47) = y2 from hy2]
           have hb : Below y1.heap.size y1 y2 := by rw [← hy2]; exact allocs_below _ _
           have HX : Hid (y2.heap[d2]? = some (.cells #[.int .i64 0, .int .i64 0, .string ⟨#[]⟩, .int .i64 0, .int .i64 0, .string ⟨#[]⟩] 47 (0, 0))) := Lib.hid (by have := allocs_get [.cells #[.int .i64 0, .int .i64 0, .string ⟨#[]⟩, .int .i64 0, .int .i64 0, .string ⟨#[]⟩] 47] y1 0 _ rfl; rw [hy2, hd2] at this; exact this)
           have Sd2 : Hid (y1.heap.size = d2) := Lib.hid hd2
           replace HC := Lib.hid (HC.out.push hb)
           clear hb hy2 hd2
           have ENZ : ∀ W, (binOp .neq 47 (.agg #[.int .i64 0, .int .i64 0, .string ⟨#[]⟩, .int .i64 0, .int .i64 0, .string ⟨#[]⟩]) (.agg #[.int .i64 0, .int .i64 0, .string ⟨#[]⟩, .int .i64 0, .int .i64 0, .string ⟨#[]⟩])).run Try.prog W = .ok (.bool false) W := fun W => (ev_neq zeroE zeroE W).trans (by simp)
           have kX0 := cell_of_row _ _ 0 _ _ _ HX.out
           have kX1 := cell_of_row _ _ 1 _ _ _ HX.out
           have kX2 := cell_of_row _ _ 2 _ _ _ HX.out
           have kX3 := cell_of_row _ _ 3 _ _ _ HX.out
           have kX4 := cell_of_row _ _ 4 _ _ _ HX.out
           have kX5 := cell_of_row _ _ 5 _ _ _ HX.out
           go_wp2_with fail
           have HB3 := Lib.hid (HB2.out.trans ((HC.out.to wr (by simp)).mono HB2.out.size))
           go_roundw
           case rel => exact ⟨0 + 1, by omega, by go_num, HB3⟩
           case measure => simp [intOf] <;> omega
         | i + 1, hj =>
           rw [show (((i + 1 : Nat) : Int) - 1) = (i : Int) by omega]
           have hnn : ¬ (i : Int) < 0 := by omega
           by_cases hik : i < k
           · have hi1 : i < l.length := by have := HN.out; omega
             have hik1 : (i : Int) < (k : Int) + 1 := by omega
             have hik2 : (i : Int) < (k : Int) := by omega
             have hne1 : ((i : Int) == (k : Int)) = false := beq_eq_false_iff_ne.2 (by omega)
             have hne2 : ¬ (i : Int) = (k : Int) := by omega
             have kM0 := cell_of_one HM.out
             go_wp2_with fail
             refine (at_reg (i : Int) _ (T2.out.below (HC.out.to wr (by simp)) rfl) R.out HZL.out (by omega) (by omega)).mono ?_
             rintro e y1 ⟨x, rfl, hx, hb⟩
             clear kM0
             replace HC := Lib.hid (HC.out.push hb)
             clear hb
             have e0 : atE l (i : Int) = (l[i], true) := by unfold atE; rw [if_pos (by omega), Int.toNat_natCast, List.getElem?_eq_getElem hi1]
             rw [e0]
             have hxi : x = l[i] := by rw [hx, e0]
             clear e0 hx
             obtain ⟨ba, oa, rfl, ca⟩ := els_get ((CLB.out.below HB2.out rfl).below (HC.out.to wr (by simp)) rfl) i hi1
             rw [← hxi] at ca
             clear hxi
             go_upto_region 17 with (fail)
             obtain ⟨d2, hd2⟩ : ∃ c, y1.heap.size = c := ⟨_, rfl⟩
             try rw [hd2]
             obtain ⟨y2, hy2⟩ : ∃ X, allocs y1 [.cells #[.int .i64 x.1.g, .int .i64 x.1.r, .string x.1.l, .int .i64 x.1.n, .int .i64 x.1.i, .string x.2] 47] = X := ⟨_, rfl⟩
             rw [show y1.alloc (.cells #[.int .i64 x.1.g, .int .i64 x.1.r, .string x.1.l, .int .i64 x.1.n, .int .i64 x.1.i, .string x.2] 47) = y2 from hy2]
             have hb : Below y1.heap.size y1 y2 := by rw [← hy2]; exact allocs_below _ _
             have HX : Hid (y2.heap[d2]? = some (.cells #[.int .i64 x.1.g, .int .i64 x.1.r, .string x.1.l, .int .i64 x.1.n, .int .i64 x.1.i, .string x.2] 47 (0, 0))) := Lib.hid (by have := allocs_get [.cells #[.int .i64 x.1.g, .int .i64 x.1.r, .string x.1.l, .int .i64 x.1.n, .int .i64 x.1.i, .string x.2] 47] y1 0 _ rfl; rw [hy2, hd2] at this; exact this)
             have Sd2 : Hid (y1.heap.size = d2) := Lib.hid hd2
             replace HC := Lib.hid (HC.out.push hb)
             clear hb hy2 hd2
             have ENX : ∀ W, (binOp .neq 47 (.agg #[.int .i64 x.1.g, .int .i64 x.1.r, .string x.1.l, .int .i64 x.1.n, .int .i64 x.1.i, .string x.2]) (.agg #[.int .i64 x.1.g, .int .i64 x.1.r, .string x.1.l, .int .i64 x.1.n, .int .i64 x.1.i, .string x.2])).run Try.prog W = .ok (.bool false) W := fun W => (ev_neq x x W).trans (by simp)
             obtain ⟨p0, p1, p2, p3, p4, p5⟩ := ca.below (HC.out.to y1 (by simp))
             have kX0 := cell_of_row _ _ 0 _ _ _ HX.out
             have kX1 := cell_of_row _ _ 1 _ _ _ HX.out
             have kX2 := cell_of_row _ _ 2 _ _ _ HX.out
             have kX3 := cell_of_row _ _ 3 _ _ _ HX.out
             have kX4 := cell_of_row _ _ 4 _ _ _ HX.out
             have kX5 := cell_of_row _ _ 5 _ _ _ HX.out
             go_upto_region 20 with (fail)
             go_quiet (fail)
             have HB3 := Lib.hid (HB2.out.trans ((HC.out.to wr (by simp)).mono HB2.out.size))
             go_wp2_with fail
             go_roundw
             case rel => exact ⟨i + 1 + 1, by omega, by go_num, Lib.hid (below_drews HB3.out _)⟩
             case measure => simp [intOf] <;> omega
           ·
             by_cases hik3 : i = k
             · subst hik3
               have hik1 : (i : Int) < (i : Int) + 1 := by omega
               have hne1 : ((i : Int) == (i : Int)) = true := by simp
               have kM0 := cell_of_one HM.out
               go_wp2_with fail
               refine (at_reg (i : Int) _ (T2.out.below (HC.out.to wr (by simp)) rfl) R.out HZL.out (by omega) (by omega)).mono ?_
               rintro e y1 ⟨x, rfl, hx, hb⟩
               clear kM0
               replace HC := Lib.hid (HC.out.push hb)
               clear hb
               have e0 : atE l (i : Int) = (zeroE, false) := by unfold atE; rw [if_pos (by omega), Int.toNat_natCast, List.getElem?_eq_none (by rw [← HN.out]; exact Nat.le_refl _)]
               rw [e0]
               obtain rfl : x = zeroE := by rw [hx, e0]
               simp only [zeroE]
               clear e0 hx
               go_upto_region 17 with (fail)
               obtain ⟨d2, hd2⟩ : ∃ c, y1.heap.size = c := ⟨_, rfl⟩
               try rw [hd2]
               obtain ⟨y2, hy2⟩ : ∃ X, allocs y1 [.cells #[.int .i64 0, .int .i64 0, .string ⟨#[]⟩, .int .i64 0, .int .i64 0, .string ⟨#[]⟩] 47] = X := ⟨_, rfl⟩
               rw [show y1.alloc (.cells #[.int .i64 0, .int .i64 0, .string ⟨#[]⟩, .int .i64 0, .int .i64 0, .string ⟨#[]⟩] 47) = y2 from hy2]
               have hb : Below y1.heap.size y1 y2 := by rw [← hy2]; exact allocs_below _ _
               have HX : Hid (y2.heap[d2]? = some (.cells #[.int .i64 0, .int .i64 0, .string ⟨#[]⟩, .int .i64 0, .int .i64 0, .string ⟨#[]⟩] 47 (0, 0))) := Lib.hid (by have := allocs_get [.cells #[.int .i64 0, .int .i64 0, .string ⟨#[]⟩, .int .i64 0, .int .i64 0, .string ⟨#[]⟩] 47] y1 0 _ rfl; rw [hy2, hd2] at this; exact this)
               have Sd2 : Hid (y1.heap.size = d2) := Lib.hid hd2
               replace HC := Lib.hid (HC.out.push hb)
               clear hb hy2 hd2
               have ENZ : ∀ W, (binOp .neq 47 (.agg #[.int .i64 0, .int .i64 0, .string ⟨#[]⟩, .int .i64 0, .int .i64 0, .string ⟨#[]⟩]) (.agg #[.int .i64 0, .int .i64 0, .string ⟨#[]⟩, .int .i64 0, .int .i64 0, .string ⟨#[]⟩])).run Try.prog W = .ok (.bool false) W := fun W => (ev_neq zeroE zeroE W).trans (by simp)
               have kX0 := cell_of_row _ _ 0 _ _ _ HX.out
               have kX1 := cell_of_row _ _ 1 _ _ _ HX.out
               have kX2 := cell_of_row _ _ 2 _ _ _ HX.out
               have kX3 := cell_of_row _ _ 3 _ _ _ HX.out
               have kX4 := cell_of_row _ _ 4 _ _ _ HX.out
               have kX5 := cell_of_row _ _ 5 _ _ _ HX.out
               go_wp2_with fail
               have HB3 := Lib.hid (HB2.out.trans ((HC.out.to wr (by simp)).mono HB2.out.size))
               go_roundw
               case rel => exact ⟨i+1 + 1, by omega, by go_num, HB3⟩
               case measure => simp [intOf] <;> omega
             ·
               obtain rfl : i = k + 1 := by omega
               have hik1 : ¬ ((k : Int) + 1 < (k : Int) + 1) := by omega
               rw [show ((k + 1 : Nat) : Int) = (k : Int) + 1 from by omega]
               have kM0 := cell_of_one HM.out
               have kS0 := cell_of_row _ _ 0 _ _ _ HS.out
               have kS1 := cell_of_row _ _ 1 _ _ _ HS.out
               have kS2 := cell_of_row _ _ 2 _ _ _ HS.out
               have kS3 := cell_of_row _ _ 3 _ _ _ HS.out
               have kS4 := cell_of_row _ _ 4 _ _ _ HS.out
               go_wp2_with fail
               refine (since_14 t s _).mono ?_
               rintro e z1 ⟨sd, md, rfl, _, _, hm2, hs2, hb⟩
               clear kM0 kS0 kS1 kS2 kS3 kS4
               replace HC := Lib.hid (HC.out.push hb)
               clear hb
               have MD := Lib.hid hm2
               have SD := Lib.hid hs2
               clear hm2 hs2
               go_wp2_with fail
               refine (goes_since t s sd md (sinceL l s) _ _ _ 0 _ SD.out MD.out (T2.out.below (HC.out.to wr (by simp)) rfl) HSZ.out HK.out HSS.out HS1.out ((RC.out.below HB2.out rfl).below (HC.out.to wr (by simp)) rfl) RN.out (by have := RN.out; have := SLN.out; omega)).mono ?_
               rintro e z2 ⟨rfl, hb⟩
               replace HC := Lib.hid (HC.out.push hb)
               clear hb
               go_wp2_with fail
               go_ret
               exact ⟨rfl, (BEB.out.trans (HB2.out.mono BEB.out.size)).trans ((HC.out.to wr (by simp)).mono (Nat.le_trans BEB.out.size HB2.out.size))⟩
     case false =>
       have RC : Hid (CellsAt vB ar (elsV (sinceL l s))) := Lib.hid (by rw [← sinK_end (of_decide_eq_false HZB.out)]; exact CR.out)
       have RN : Hid ((sinK s l).length = (sinceL l s).length) := Lib.hid (by rw [← sinK_end (of_decide_eq_false HZB.out)])
       generalize (sinK s l).length = nr at *
       go_upto_region 13 with (fail)
       clear EZ
       clear kS0 kS1 kS2 kS3 kS4
       have HZ2 := HZ.out
       have SLN : Hid ((sinceL l s).length ≤ 1000) := Lib.hid (by have := sinceL_len l s; have := HN.out; omega)
       go_wp2_with fail
       go_loopw [13] (fun i wr => ∃ j : Nat, j ≤ k + 2 ∧ i = .int .i64 ((j : Int) - 1) ∧ Hid (Below vB.heap.size vB wr)) (fun i _ => k + 2 - (intOf i + 1).toNat)
       case atStart => exact ⟨0, Nat.zero_le _, rfl, Lib.hid (Below.refl _ _)⟩
       case round =>
         obtain ⟨j, hj, rfl, HB2⟩ := hrel
         have HM2 := Lib.hid (boxStays HM.out HB2.out)
         have HS2 := Lib.hid (boxStays HS.out HB2.out)
         have T2 := Lib.hid (TB.out.below HB2.out rfl)
         have hwn : IntKind.i64.wrap ((k : Int) + 1) = (k : Int) + 1 := i64w (by omega) (by omega)
         clear HC
         have HC : Hid (Chain [wr] wr) := Lib.hid (Chain.one wr)
         have HM := HM2
         have HS := HS2
         match j, hj with
         | 0, _ =>
           rw [show (((0 : Nat) : Int) - 1) = -1 from rfl]
           have hneg : (-1 : Int) < (k : Int) + 1 := by omega
           have kM0 := cell_of_one HM.out
           go_wp2_with fail
           refine (at_reg (-1) _ (T2.out.below (HC.out.to wr (by simp)) rfl) R.out HZL.out (by omega) (by omega)).mono ?_
           rintro e y1 ⟨x, rfl, hx, hb⟩
           clear kM0
           replace HC := Lib.hid (HC.out.push hb)
           clear hb
           have e0 : atE l (-1) = (zeroE, false) := if_neg (by omega)
           rw [e0]
           obtain rfl : x = zeroE := by rw [hx, e0]
           simp only [zeroE]
           clear e0 hx
           go_upto_region 17 with (fail)
           obtain ⟨d2, hd2⟩ : ∃ c, y1.heap.size = c := ⟨_, rfl⟩
           try rw [hd2]
           obtain ⟨y2, hy2⟩ : ∃ X, allocs y1 [.cells #[.int .i64 0, .int .i64 0, .string ⟨#[]⟩, .int .i64 0, .int .i64 0, .string ⟨#[]⟩] 47] = X := ⟨_, rfl⟩
           rw [show y1.alloc (.cells #[.int .i64 0, .int .i64 0, .string ⟨#[]⟩, .int .i64 0, .int .i64 0, .string ⟨#[]⟩] 47) = y2 from hy2]
           have hb : Below y1.heap.size y1 y2 := by rw [← hy2]; exact allocs_below _ _
           have HX : Hid (y2.heap[d2]? = some (.cells #[.int .i64 0, .int .i64 0, .string ⟨#[]⟩, .int .i64 0, .int .i64 0, .string ⟨#[]⟩] 47 (0, 0))) := Lib.hid (by have := allocs_get [.cells #[.int .i64 0, .int .i64 0, .string ⟨#[]⟩, .int .i64 0, .int .i64 0, .string ⟨#[]⟩] 47] y1 0 _ rfl; rw [hy2, hd2] at this; exact this)
           have Sd2 : Hid (y1.heap.size = d2) := Lib.hid hd2
           replace HC := Lib.hid (HC.out.push hb)
           clear hb hy2 hd2
           have ENZ : ∀ W, (binOp .neq 47 (.agg #[.int .i64 0, .int .i64 0, .string ⟨#[]⟩, .int .i64 0, .int .i64 0, .string ⟨#[]⟩]) (.agg #[.int .i64 0, .int .i64 0, .string ⟨#[]⟩, .int .i64 0, .int .i64 0, .string ⟨#[]⟩])).run Try.prog W = .ok (.bool false) W := fun W => (ev_neq zeroE zeroE W).trans (by simp)
           have kX0 := cell_of_row _ _ 0 _ _ _ HX.out
           have kX1 := cell_of_row _ _ 1 _ _ _ HX.out
           have kX2 := cell_of_row _ _ 2 _ _ _ HX.out
           have kX3 := cell_of_row _ _ 3 _ _ _ HX.out
           have kX4 := cell_of_row _ _ 4 _ _ _ HX.out
           have kX5 := cell_of_row _ _ 5 _ _ _ HX.out
           go_wp2_with fail
           have HB3 := Lib.hid (HB2.out.trans ((HC.out.to wr (by simp)).mono HB2.out.size))
           go_roundw
           case rel => exact ⟨0 + 1, by omega, by go_num, HB3⟩
           case measure => simp [intOf] <;> omega
         | i + 1, hj =>
           rw [show (((i + 1 : Nat) : Int) - 1) = (i : Int) by omega]
           have hnn : ¬ (i : Int) < 0 := by omega
           by_cases hik : i < k
           · have hi1 : i < l.length := by have := HN.out; omega
             have hik1 : (i : Int) < (k : Int) + 1 := by omega
             have hik2 : (i : Int) < (k : Int) := by omega
             have hne1 : ((i : Int) == (k : Int)) = false := beq_eq_false_iff_ne.2 (by omega)
             have hne2 : ¬ (i : Int) = (k : Int) := by omega
             have kM0 := cell_of_one HM.out
             go_wp2_with fail
             refine (at_reg (i : Int) _ (T2.out.below (HC.out.to wr (by simp)) rfl) R.out HZL.out (by omega) (by omega)).mono ?_
             rintro e y1 ⟨x, rfl, hx, hb⟩
             clear kM0
             replace HC := Lib.hid (HC.out.push hb)
             clear hb
             have e0 : atE l (i : Int) = (l[i], true) := by unfold atE; rw [if_pos (by omega), Int.toNat_natCast, List.getElem?_eq_getElem hi1]
             rw [e0]
             have hxi : x = l[i] := by rw [hx, e0]
             clear e0 hx
             obtain ⟨ba, oa, rfl, ca⟩ := els_get ((CLB.out.below HB2.out rfl).below (HC.out.to wr (by simp)) rfl) i hi1
             rw [← hxi] at ca
             clear hxi
             go_upto_region 17 with (fail)
             obtain ⟨d2, hd2⟩ : ∃ c, y1.heap.size = c := ⟨_, rfl⟩
             try rw [hd2]
             obtain ⟨y2, hy2⟩ : ∃ X, allocs y1 [.cells #[.int .i64 x.1.g, .int .i64 x.1.r, .string x.1.l, .int .i64 x.1.n, .int .i64 x.1.i, .string x.2] 47] = X := ⟨_, rfl⟩
             rw [show y1.alloc (.cells #[.int .i64 x.1.g, .int .i64 x.1.r, .string x.1.l, .int .i64 x.1.n, .int .i64 x.1.i, .string x.2] 47) = y2 from hy2]
             have hb : Below y1.heap.size y1 y2 := by rw [← hy2]; exact allocs_below _ _
             have HX : Hid (y2.heap[d2]? = some (.cells #[.int .i64 x.1.g, .int .i64 x.1.r, .string x.1.l, .int .i64 x.1.n, .int .i64 x.1.i, .string x.2] 47 (0, 0))) := Lib.hid (by have := allocs_get [.cells #[.int .i64 x.1.g, .int .i64 x.1.r, .string x.1.l, .int .i64 x.1.n, .int .i64 x.1.i, .string x.2] 47] y1 0 _ rfl; rw [hy2, hd2] at this; exact this)
             have Sd2 : Hid (y1.heap.size = d2) := Lib.hid hd2
             replace HC := Lib.hid (HC.out.push hb)
             clear hb hy2 hd2
             have ENX : ∀ W, (binOp .neq 47 (.agg #[.int .i64 x.1.g, .int .i64 x.1.r, .string x.1.l, .int .i64 x.1.n, .int .i64 x.1.i, .string x.2]) (.agg #[.int .i64 x.1.g, .int .i64 x.1.r, .string x.1.l, .int .i64 x.1.n, .int .i64 x.1.i, .string x.2])).run Try.prog W = .ok (.bool false) W := fun W => (ev_neq x x W).trans (by simp)
             obtain ⟨p0, p1, p2, p3, p4, p5⟩ := ca.below (HC.out.to y1 (by simp))
             have kX0 := cell_of_row _ _ 0 _ _ _ HX.out
             have kX1 := cell_of_row _ _ 1 _ _ _ HX.out
             have kX2 := cell_of_row _ _ 2 _ _ _ HX.out
             have kX3 := cell_of_row _ _ 3 _ _ _ HX.out
             have kX4 := cell_of_row _ _ 4 _ _ _ HX.out
             have kX5 := cell_of_row _ _ 5 _ _ _ HX.out
             go_upto_region 20 with (fail)
             go_quiet (fail)
             have HB3 := Lib.hid (HB2.out.trans ((HC.out.to wr (by simp)).mono HB2.out.size))
             go_wp2_with fail
             go_roundw
             case rel => exact ⟨i + 1 + 1, by omega, by go_num, Lib.hid (below_drews HB3.out _)⟩
             case measure => simp [intOf] <;> omega
           ·
             by_cases hik3 : i = k
             · subst hik3
               have hik1 : (i : Int) < (i : Int) + 1 := by omega
               have hne1 : ((i : Int) == (i : Int)) = true := by simp
               have kM0 := cell_of_one HM.out
               go_wp2_with fail
               refine (at_reg (i : Int) _ (T2.out.below (HC.out.to wr (by simp)) rfl) R.out HZL.out (by omega) (by omega)).mono ?_
               rintro e y1 ⟨x, rfl, hx, hb⟩
               clear kM0
               replace HC := Lib.hid (HC.out.push hb)
               clear hb
               have e0 : atE l (i : Int) = (zeroE, false) := by unfold atE; rw [if_pos (by omega), Int.toNat_natCast, List.getElem?_eq_none (by rw [← HN.out]; exact Nat.le_refl _)]
               rw [e0]
               obtain rfl : x = zeroE := by rw [hx, e0]
               simp only [zeroE]
               clear e0 hx
               go_upto_region 17 with (fail)
               obtain ⟨d2, hd2⟩ : ∃ c, y1.heap.size = c := ⟨_, rfl⟩
               try rw [hd2]
               obtain ⟨y2, hy2⟩ : ∃ X, allocs y1 [.cells #[.int .i64 0, .int .i64 0, .string ⟨#[]⟩, .int .i64 0, .int .i64 0, .string ⟨#[]⟩] 47] = X := ⟨_, rfl⟩
               rw [show y1.alloc (.cells #[.int .i64 0, .int .i64 0, .string ⟨#[]⟩, .int .i64 0, .int .i64 0, .string ⟨#[]⟩] 47) = y2 from hy2]
               have hb : Below y1.heap.size y1 y2 := by rw [← hy2]; exact allocs_below _ _
               have HX : Hid (y2.heap[d2]? = some (.cells #[.int .i64 0, .int .i64 0, .string ⟨#[]⟩, .int .i64 0, .int .i64 0, .string ⟨#[]⟩] 47 (0, 0))) := Lib.hid (by have := allocs_get [.cells #[.int .i64 0, .int .i64 0, .string ⟨#[]⟩, .int .i64 0, .int .i64 0, .string ⟨#[]⟩] 47] y1 0 _ rfl; rw [hy2, hd2] at this; exact this)
               have Sd2 : Hid (y1.heap.size = d2) := Lib.hid hd2
               replace HC := Lib.hid (HC.out.push hb)
               clear hb hy2 hd2
               have ENZ : ∀ W, (binOp .neq 47 (.agg #[.int .i64 0, .int .i64 0, .string ⟨#[]⟩, .int .i64 0, .int .i64 0, .string ⟨#[]⟩]) (.agg #[.int .i64 0, .int .i64 0, .string ⟨#[]⟩, .int .i64 0, .int .i64 0, .string ⟨#[]⟩])).run Try.prog W = .ok (.bool false) W := fun W => (ev_neq zeroE zeroE W).trans (by simp)
               have kX0 := cell_of_row _ _ 0 _ _ _ HX.out
               have kX1 := cell_of_row _ _ 1 _ _ _ HX.out
               have kX2 := cell_of_row _ _ 2 _ _ _ HX.out
               have kX3 := cell_of_row _ _ 3 _ _ _ HX.out
               have kX4 := cell_of_row _ _ 4 _ _ _ HX.out
               have kX5 := cell_of_row _ _ 5 _ _ _ HX.out
               go_wp2_with fail
               have HB3 := Lib.hid (HB2.out.trans ((HC.out.to wr (by simp)).mono HB2.out.size))
               go_roundw
               case rel => exact ⟨i+1 + 1, by omega, by go_num, HB3⟩
               case measure => simp [intOf] <;> omega
             ·
               obtain rfl : i = k + 1 := by omega
               have hik1 : ¬ ((k : Int) + 1 < (k : Int) + 1) := by omega
               rw [show ((k + 1 : Nat) : Int) = (k : Int) + 1 from by omega]
               have kM0 := cell_of_one HM.out
               have kS0 := cell_of_row _ _ 0 _ _ _ HS.out
               have kS1 := cell_of_row _ _ 1 _ _ _ HS.out
               have kS2 := cell_of_row _ _ 2 _ _ _ HS.out
               have kS3 := cell_of_row _ _ 3 _ _ _ HS.out
               have kS4 := cell_of_row _ _ 4 _ _ _ HS.out
               go_wp2_with fail
               refine (since_14 t s _).mono ?_
               rintro e z1 ⟨sd, md, rfl, _, _, hm2, hs2, hb⟩
               clear kM0 kS0 kS1 kS2 kS3 kS4
               replace HC := Lib.hid (HC.out.push hb)
               clear hb
               have MD := Lib.hid hm2
               have SD := Lib.hid hs2
               clear hm2 hs2
               go_wp2_with fail
               refine (goes_since t s sd md (sinceL l s) _ _ _ 0 _ SD.out MD.out (T2.out.below (HC.out.to wr (by simp)) rfl) HSZ.out HK.out HSS.out HS1.out ((RC.out.below HB2.out rfl).below (HC.out.to wr (by simp)) rfl) RN.out (by have := RN.out; have := SLN.out; omega)).mono ?_
               rintro e z2 ⟨rfl, hb⟩
               replace HC := Lib.hid (HC.out.push hb)
               clear hb
               go_wp2_with fail
               go_ret
               exact ⟨rfl, (BEB.out.trans (HB2.out.mono BEB.out.size)).trans ((HC.out.to wr (by simp)).mono (Nat.le_trans BEB.out.size HB2.out.size))⟩
end Go.Proofs.Ytnpiepimajippaa
namespace Go.Proofs.Ytnpiepimajippaa
open Go.RowKit
structure KeepX (Ex : Nat → TypeId → Prop) (A B : World) : Prop where
 os : B.os = A.os
 tape : B.tape = A.tape
 output : B.output = A.output
 size : A.heap.size ≤ B.heap.size
 rest : ∀ k o, A.heap[k]? = some o → (∀ c t fr, o = .cells c t fr → ¬ Ex k t) → B.heap[k]? = some o
theorem KeepX.refl {Ex : Nat → TypeId → Prop} (A : World) : KeepX Ex A A := ⟨rfl, rfl, rfl, Nat.le_refl _, fun _ _ h _ => h⟩
theorem KeepX.trans {Ex : Nat → TypeId → Prop} {A B C : World} (h : KeepX Ex A B) (k : KeepX Ex B C) : KeepX Ex A C :=
 ⟨k.os.trans h.os, k.tape.trans h.tape, k.output.trans h.output, Nat.le_trans h.size k.size, fun i o ho ht => k.rest i o (h.rest i o ho ht) ht⟩
theorem KeepX.ofBelow {Ex : Nat → TypeId → Prop} {A B : World} (h : Below A.heap.size A B) : KeepX Ex A B :=
 ⟨h.os, h.tape, h.output, h.size, fun k _ ho _ => (h.block k (Array.getElem?_eq_some_iff.1 ho).1).trans ho⟩
theorem KeepX.drew {Ex : Nat → TypeId → Prop} {A B : World} (h : KeepX Ex A B) : KeepX Ex A B.drew := h.trans (KeepX.ofBelow (Below.refl _ B).drew)
theorem KeepX.alloc {Ex : Nat → TypeId → Prop} {A B : World} (h : KeepX Ex A B) (o : Obj) : KeepX Ex A (B.alloc o) :=
 h.trans (KeepX.ofBelow ((Below.refl _ B).alloc (Nat.le_refl _) o))
theorem KeepX.row {Ex : Nat → TypeId → Prop} {A B : World} (h : KeepX Ex A B) {b : Nat} {cs : Array Value} {t : TypeId} {fr : Nat × Nat} (hb : A.heap[b]? = some (.cells cs t fr)) (ht : ¬ Ex b t) : B.heap[b]? = some (.cells cs t fr) :=
 h.rest b _ hb fun c t' fr' e => by cases e; exact ht
theorem KeepX.setRow {Ex : Nat → TypeId → Prop} {A B : World} (h : KeepX Ex A B) {X : Nat} {cs : Array Value} {t : TypeId} {fr : Nat × Nat} (hX : B.heap[X]? = some (.cells cs t fr)) (ht : Ex X t) (i : Nat) (v : Value) : KeepX Ex A (B.setCell ⟨X, i, none⟩ v) :=
 ⟨h.os, h.tape, h.output, by simpa [World.setCell] using h.size, fun k o ho hn => (Below.heap_setCell _ _ _ _ (by
   show k ≠ X
   rintro rfl
   have h1 := h.rest k o ho hn
   rw [hX] at h1
   cases h1
   exact hn _ _ _ rfl ht)).trans (h.rest k o ho hn)⟩
def ChE (Ex : Nat → TypeId → Prop) (ws : List World) (w : World) : Prop := ∀ W ∈ ws, KeepX Ex W w
theorem ChE.one {Ex : Nat → TypeId → Prop} (w : World) : ChE Ex [w] w := fun W hW => by
 obtain rfl := List.mem_singleton.1 hW
 exact KeepX.refl _
theorem ChE.push {Ex : Nat → TypeId → Prop} {ws : List World} {w w' : World} (h : ChE Ex ws w) (hb : KeepX Ex w w') : ChE Ex (w' :: ws) w' := fun W hW => by
 rcases List.mem_cons.1 hW with rfl | hW
 · exact KeepX.refl _
 · exact (h W hW).trans hb
theorem ChE.to {Ex : Nat → TypeId → Prop} {ws : List World} {w : World} (h : ChE Ex ws w) (W : World) (hW : W ∈ ws) : KeepX Ex W w := h W hW
section
variable {P : Program} {ops : Array Oper} {Q : Exit → Act → World → Prop} {md : Region.Mode}
end
end Go.Proofs.Ytnpiepimajippaa
namespace Go.Proofs.Ytnpiepimajippaa
open Go.RowKit St Pm
theorem CellsAt.keepX {z : Nat} {A B : World} {a : Option Addr} {vs : List Value} (h : CellsAt A a vs) (hk : KeepX (fun k _ => k = z) A B) (ha : ∀ ad, a = some ad → ad.block ≠ z) : CellsAt B a vs := by
 intro i hi
 obtain ⟨b, off, rfl, hc⟩ := h i hi
 refine ⟨b, off, rfl, ?_⟩
 have hne : b ≠ z := ha _ rfl
 unfold World.cell? at hc ⊢
 cases e : A.heap[b]? with
 | none => simp [e] at hc
 | some o =>
   have e2 := hk.rest b o e (fun _ _ _ _ h => hne h)
   simp only [e] at hc
   simp only [e2]
   exact hc
theorem KeepX.toBelowZ {z : Nat} {A B : World} (h : KeepX (fun k _ => k = z) A B) (hz : z ≤ A.heap.size) : Below z A B :=
 ⟨h.os, h.tape, h.output, h.size, fun k hk => by
   cases e : A.heap[k]? with
   | none => rw [Array.getElem?_eq_none_iff] at e; omega
   | some o => exact h.rest k o e fun _ _ _ _ e => by omega⟩
theorem AtS.keepZ {z : Nat} {A B : World} {t : Tr ByteArray} (h : AtS A t) (hk : KeepX (fun k _ => k = z) A B) {cs : Array Value} {T : TypeId} {fr : Nat × Nat} (hx : A.heap[z]? = some (.cells cs T fr)) (hT : T ≠ 110) : AtS B t :=
 h.keep fun b o ho hm => hk.rest b o ho fun _ _ _ _ e => by subst e; exact h.other hx hT hm
theorem els_keepX {z : Nat} {A B : World} {a : Option Addr} {L : List Ev} {p : Option Addr} {T : TypeId} {fr : Nat × Nat} (h : CellsAt A a (elsV L)) (hk : KeepX (fun k _ => k = z) A B) (hx : A.heap[z]? = some (.cells #[.pointer p] T fr)) : CellsAt B a (elsV L) := by
 cases L with
 | nil => exact CellsAt.nil _ _
 | cons e L =>
   obtain ⟨ba, oa, rfl, ca⟩ := els_get h 0 (by simp)
   refine h.keepX hk fun ad had => ?_
   cases had
   show ba ≠ z
   rintro rfl
   have h1 := ca.c0
   rw [cell_of_row _ _ _ _ _ _ hx] at h1
   cases oa with
   | zero => simp at h1
   | succ oa => simp at h1
end Go.Proofs.Ytnpiepimajippaa
namespace Go.Proofs.Ytnpiepimajippaa
open Go.RowKit
section
variable {P : Program} {md : Region.Mode} {ops : Array Oper} {Q : Exit → Act → World → Prop} {S : World → Prop} {T : List Nat}
def doneB (ops : Array Oper) (T : List Nat) (listed : Array Bool) : Bool := (List.range ops.size).all fun k => T.contains k || listed.getD k false
def anyT (P : Program) (md : Region.Mode) (ops : Array Oper) (Q : Exit → Act → World → Prop) (T : List Nat) (S : World → Prop) : Nat → Array Bool → Act → World → Prop
 | 0, listed, a, w => wpAny P md ops Q 0 listed a w
 | fuel + 1, listed, a, w => if doneB ops T listed = true then wpAny P md ops Q (fuel + 1) listed a w
   else (Region.ready md ops listed = [] → Q .normal a w) ∧ ∀ i ∈ Region.ready md ops listed, wpOp P ops Q i (fun a' w' => S w' ∧ anyT P md ops Q T S fuel (listed.setIfInBounds i true) a' w') a w
def AllReadyT (P : Program) (md : Region.Mode) (ops : Array Oper) (Q : Exit → Act → World → Prop) (T : List Nat) (S : World → Prop) (fuel : Nat) (listed : Array Bool) (a : Act) (w : World) (rs : List Nat) : Prop :=
 ∀ i ∈ rs, wpOp P ops Q i (fun a' w' => S w' ∧ anyT P md ops Q T S fuel (listed.setIfInBounds i true) a' w') a w
theorem AllReadyT.nil {fuel : Nat} {listed : Array Bool} {a : Act} {w : World} : AllReadyT P md ops Q T S fuel listed a w [] := fun _ h => by cases h
theorem AllReadyT.cons {fuel : Nat} {listed : Array Bool} {a : Act} {w : World} {i : Nat} {o : Oper} {rs : List Nat} (ho : ops[i]? = some o) (hw : Region.wanted o (yielded ops a.tmps) = true)
   (h : ∀ K' : Act → World → Prop, Shut (∀ a w, S w → (S w → anyT P md ops Q T S fuel (listed.setIfInBounds i true) a w) → K' a w) → Oper.wp P o a w K' Q)
   (hs : AllReadyT P md ops Q T S fuel listed a w rs) : AllReadyT P md ops Q T S fuel listed a w (i :: rs) := fun j hj => by
 rcases List.mem_cons.1 hj with rfl | hj
 · unfold wpOp
   simp only [ho]
   rw [if_pos hw]
   exact .inl (h _ (fun a w hS hW => ⟨hS, hW hS⟩))
 · exact hs j hj
end
end Go.Proofs.Ytnpiepimajippaa
namespace Go.Proofs.Ytnpiepimajippaa
open Go.RowKit
section
variable {P : Program} {md : Region.Mode} {ops : Array Oper} {Q : Exit → Act → World → Prop} {S : World → Prop} {T : List Nat}
def Closed (md : Region.Mode) (ops : Array Oper) (listed : Array Bool) : Prop :=
 ∀ j oj, ops[j]? = some oj → listed.getD j false = true → ∀ e ∈ oj.after, Region.binds md e = true → listed.getD e.on false = true
theorem Closed.step {listed : Array Bool} (h : Closed md ops listed) {j : Nat} {oj : Oper} (hoj : ops[j]? = some oj) (hall : ∀ e ∈ oj.after, Region.binds md e = true → listed.getD e.on false = true) : Closed md ops (listed.setIfInBounds j true) := by
 intro k ok hok hk e he hb
 have h0 : listed.getD e.on false = true := by
   by_cases hjk : j = k
   · subst hjk; rw [hoj] at hok; cases hok; exact hall e he hb
   · rw [getD_set_ne false hjk] at hk; exact h k ok hok hk e he hb
 by_cases hje : j = e.on
 · rw [← hje] at h0 ⊢
   rcases Nat.lt_or_ge j listed.size with hlt | hge
   · simp [Array.getD, hlt]
   · simp [Array.getD, Nat.not_lt.2 hge] at h0
 · rw [getD_set_ne false hje]; exact h0
end
end Go.Proofs.Ytnpiepimajippaa
