/- Words, contracts and walks that the proof stands on (JoW). -/
import Derived.Test.YtnpiepimajippaaRI13
import Derived.Test.YtnpiepimajippaaRI15
namespace Go.Proofs.Ytnpiepimajippaa
open Go.RowKit St Pm
theorem part_pre (L q : List Ev) : partV L (L ++ q) = true := by
 unfold partV
 rw [List.all_eq_true]
 exact fun x hx => hasEv_iff.2 (List.mem_append_left _ hx)
theorem part_new {L : List Ev} {x : Ev} {m : Tr ByteArray} (h : Reg (L ++ [x]) m) : partV (L ++ [x]) L = false := by
 cases hp : partV (L ++ [x]) L with
 | false => rfl
 | true =>
   unfold partV at hp
   rw [List.all_eq_true] at hp
   have hx := hasEv_iff.1 (hp x (List.mem_append_right _ (List.mem_singleton.2 rfl)))
   have hs := h.srt
   rw [h.it, List.map_append] at hs
   have := (srt_append.1 hs).2.2 (encV x) (List.mem_map.2 ⟨x, hx, rfl⟩) (encV x) (by simp)
   rw [klt_irrefl] at this
   cases this
set_option maxRecDepth 100000 in
set_option maxHeartbeats 16000000 in
theorem law_Appends (l ws : List Ev) (s : Sv) (a b : Option Addr) (n n2 c c2 : Nat) (w : World) (hl : CellsAt w a (elsV l)) (hn : n = l.length) (hb : n ≤ 9223372036854775807) (hs : ∀ e ∈ l, e.1.l.size ≤ 9223372036854775807)
   (hl2 : CellsAt w b (elsV ws)) (hn2 : n2 = ws.length) (hb2 : n2 ≤ 9223372036854775807) (hs2 : ∀ e ∈ ws, e.1.l.size ≤ 9223372036854775807) (hss : s.l.size ≤ 9223372036854775807) :
   Calls Try.prog 4 #[.slice a n c, .slice b n2 c2, .agg #[.int .i64 s.g, .int .i64 s.r, .string s.l, .int .i64 s.n, .int .i64 s.i]] w fun e w' => e = .returned (.bool true) ∧ Below w.heap.size w w' := by
 have HL := Lib.hid hl
 have HN := Lib.hid hn
 have HB := Lib.hid hb
 have HS := Lib.hid hs
 have HL2 := Lib.hid hl2
 have HN2 := Lib.hid hn2
 have HS2 := Lib.hid hs2
 have HSS := Lib.hid hss
 clear hl hn hs hl2 hn2 hs2 hss
 have HC : Hid (Chain [w] w) := Lib.hid (Chain.one w)
 go_enter Try.func4, Try.ntmps4
 go_upto_region 1 with (fail)
 obtain ⟨c0, hc0⟩ : ∃ c, w.heap.size = c := ⟨_, rfl⟩
 try rw [hc0]
 obtain ⟨w0, hw0⟩ : ∃ X, allocs w [.cells #[.int .i64 s.g, .int .i64 s.r, .string s.l, .int .i64 s.n, .int .i64 s.i] 41] = X := ⟨_, rfl⟩
 rw [show w.alloc (.cells #[.int .i64 s.g, .int .i64 s.r, .string s.l, .int .i64 s.n, .int .i64 s.i] 41) = w0 from hw0]
 have hb : Below w.heap.size w w0 := by rw [← hw0]; exact allocs_below _ _
 have HSB : Hid (w0.heap[c0]? = some (.cells #[.int .i64 s.g, .int .i64 s.r, .string s.l, .int .i64 s.n, .int .i64 s.i] 41 (0, 0))) := Lib.hid (by have := allocs_get [.cells #[.int .i64 s.g, .int .i64 s.r, .string s.l, .int .i64 s.n, .int .i64 s.i] 41] w 0 _ rfl; rw [hw0, hc0] at this; exact this)
 have Sc0 : Hid (w.heap.size = c0) := Lib.hid hc0
 replace HC := Lib.hid (HC.out.push hb)
 clear hb hw0 hc0
 by_cases q1 : 60 < n
 ·
   have q1i : (60 : Int) < (n : Int) := by omega
   go_wp2_with fail
   refine (known_14 _).mono ?_
   rintro e w1 ⟨rfl, hb⟩
   replace HC := Lib.hid (HC.out.push hb)
   clear hb
   go_wp2_with fail
   go_ret
   exact ⟨rfl, (HC.out.to w (by simp))⟩
 have q1i : ¬ (60 : Int) < (n : Int) := by omega
 have hn100 : n ≤ 100000 := by omega
 go_wp2_with fail
 refine (of_reg14 l _ n c _ (HL.out.below (HC.out.to w (by simp)) rfl) HN.out hn100 HS.out).mono ?_
 rintro e w1 ⟨t0, ce, rfl, ht, hb, _, hP⟩
 replace HC := Lib.hid (HC.out.push hb)
 clear hb
 have T1 := Lib.hid ht
 clear ht
 go_upto_region 4 with (fail)
 have LW1 : Hid (w.heap.size ≤ w1.heap.size) := Lib.hid (HC.out.to w (by simp)).size
 have LS1 : Hid (c0 < w1.heap.size) := Lib.hid (Array.getElem?_eq_some_iff.1 (boxStays HSB.out (HC.out.to w0 (by simp)))).1
 obtain ⟨z, hz⟩ : ∃ c, w1.heap.size = c := ⟨_, rfl⟩
 try rw [hz]
 obtain ⟨w2, hw2⟩ : ∃ X, allocs w1 [.cells #[.pointer (pa t0)] 27] = X := ⟨_, rfl⟩
 rw [show w1.alloc (.cells #[.pointer (pa t0)] 27) = w2 from hw2]
 have hb : Below w1.heap.size w1 w2 := by rw [← hw2]; exact allocs_below _ _
 have HM : Hid (w2.heap[z]? = some (.cells #[.pointer (pa t0)] 27 (0, 0))) := Lib.hid (by have := allocs_get [.cells #[.pointer (pa t0)] 27] w1 0 _ rfl; rw [hw2, hz] at this; exact this)
 have Sz : Hid (w1.heap.size = z) := Lib.hid hz
 replace HC := Lib.hid (HC.out.push hb)
 clear hb hw2 hz
 have ZM2 : Hid (z < w2.heap.size) := Lib.hid (Array.getElem?_eq_some_iff.1 HM.out).1
 go_wp2_with fail
 refine (ref14_May l _ n c _ (HL.out.below (HC.out.to w (by simp)) rfl) HN.out HB.out HS.out).mono ?_
 rintro e w3 ⟨rfl, hb⟩
 replace HC := Lib.hid (HC.out.push hb)
 clear hb
 cases hm : mayV l
 case false =>
   obtain ⟨rfl, rfl⟩ : ce = 2 ∧ t0 = .nil := by
     rcases hP with ⟨h, _⟩ | ⟨_, h1, h2⟩
     · rw [hm] at h; cases h
     · exact ⟨h1, h2⟩
   clear hP hm
   go_wp2_with fail
   refine (num_14 2 _).mono ?_
   rintro e _ ⟨rfl, rfl⟩
   have kM0 := cell_of_one (boxStays HM.out (HC.out.to w2 (by simp)))
   go_wp2_with fail
   refine (pm_MLenS .nil _ trivial).mono ?_
   rintro e w4 ⟨rfl, hb⟩
   clear kM0
   replace HC := Lib.hid (HC.out.push hb)
   clear hb
   rw [show ((sz (Tr.nil : Tr ByteArray) : Nat) : Int) = 0 from rfl]
   go_wp2_with fail
   refine (known_14 _).mono ?_
   rintro e w5 ⟨rfl, hb⟩
   replace HC := Lib.hid (HC.out.push hb)
   clear hb
   go_wp2_with fail
   go_ret
   exact ⟨rfl, (HC.out.to w (by simp))⟩
 obtain ⟨rfl, hr⟩ : ce = 0 ∧ Reg (sortV l) t0 := by
   rcases hP with ⟨_, h1, h2⟩ | ⟨h, _⟩
   · exact ⟨h1, h2⟩
   · rw [hm] at h; cases h
 have R0 := Lib.hid hr
 have L0 : Hid (n = (sortV l).length) := Lib.hid (by rw [sortV_length]; exact HN.out)
 clear hP hm hr
 have M3 := Lib.hid (boxStays HM.out (HC.out.to w2 (by simp)))
 have HL3 := Lib.hid (HL.out.below (HC.out.to w (by simp)) rfl)
 go_upto_region 6 with (fail)
 refine relG_start (slots := [38, 39, 40, 9, 10]) (so := [4]) (by kernel_rfl) (by kernel_rfl) (by rfl) ?_
 refine relG_pure (i := 0) (o := ⟨some 38, _, _, _, _, _⟩) (v := ?v1) [] [7] rfl rfl (by kernel_rfl) (by kernel_rfl) (fun t w1 hB hf hbf => ?y1) ?n1
 case y1 =>
   simp only [BasF] at hbf
   clear hf
   obtain ⟨⟨b7, k7⟩, _⟩ := hbf
   have m0 := cell_of_one (boxStays M3.out hB)
   refine Or.inl ⟨wanted_none rfl, ?_⟩
   rintro _ rfl
   go_simp <;> with_reducible rfl
 refine relG_pure (i := 1) (o := ⟨some 39, _, _, _, _, _⟩) (v := ?v2) [] [0] rfl rfl (by kernel_rfl) (by kernel_rfl) (fun t w1 hB hf hbf => ?y2) ?n2
 case y2 =>
   simp only [BasF] at hbf
   clear hf
   obtain ⟨⟨b0, k0⟩, _⟩ := hbf
   have m0 := cell_of_one (boxStays M3.out hB)
   refine Or.inl ⟨wanted_none rfl, ?_⟩
   rintro _ rfl
   go_simp <;> with_reducible rfl
 refine relG_call (i := 2) (o := ⟨some 40, _, _, _, _, _⟩) ((fun v w' => ∃ a c, v = .slice a n c ∧ CellsAt w' a (elsV (sortV l)) ∧ n ≤ c)) [(1, 39, 0)] [] rfl rfl (by kernel_rfl) (by kernel_rfl) ((fun v w' w'' h hb => by obtain ⟨a, c, e1, e2, e3⟩ := h; exact ⟨a, c, e1, e2.below hb rfl, e3⟩)) ?_ ?_
 · intro t w1 hB hf hbf K hK
   simp only [DepF, List.getD_cons_zero] at hf
   obtain ⟨⟨_, ⟨e39, i39⟩, rfl⟩, _⟩ := hf
   clear hbf
   have m0 := cell_of_one (boxStays M3.out hB)
   refine ⟨wanted_none rfl, ?_⟩
   go_simp
   refine (ref14_Sorted l _ n c w1 (HL3.out.below hB rfl) HN.out (by omega) HS.out).mono ?_
   rintro e w2 ⟨v, rfl, hown, hb⟩
   exact hK.out _ w2 ((by obtain ⟨a, c, rfl, h2, _⟩ := own_slice hown; exact ⟨a, c, rfl, CellsAt.ownN hown, h2⟩)) hb
 refine relG_call (i := 3) (o := ⟨some 9, _, _, _, _, _⟩) ((fun v w' => ∃ b, v = .pointer (some ⟨b, 0, none⟩) ∧ w3.heap.size ≤ b ∧ w'.heap[b]? = some (.cells #[.pointer none] 27 (0, 0)))) [] [] rfl rfl (by kernel_rfl) (by kernel_rfl) ((fun v w' w'' h hb => by obtain ⟨b, e1, e2, e3⟩ := h; exact ⟨b, e1, e2, boxStays e3 hb⟩)) ?_ ?_
 · intro t w1 hB hf hbf K hK
   clear hf
   clear hbf
   have m0 := cell_of_one (boxStays M3.out hB)
   refine ⟨wanted_none rfl, ?_⟩
   go_simp
   exact hK.out _ _ (⟨_, rfl, hB.size, heap_alloc_new _ _⟩) (below_new _ _)
 refine relG_skip 4 rfl (by rfl) ?_ (by kernel_rfl)
 refine relG_call (i := 5) (o := ⟨some 10, _, _, _, _, _⟩) ((fun v w' => ∃ a c, v = .slice a n c ∧ CellsAt w' a (elsV (sortV l)) ∧ n ≤ c)) [(2, 40, 2)] [] rfl rfl (by kernel_rfl) (by kernel_rfl) ((fun v w' w'' h hb => by obtain ⟨a, c, e1, e2, e3⟩ := h; exact ⟨a, c, e1, e2.below hb rfl, e3⟩)) ?_ ?_
 · intro t w1 hB hf hbf K hK
   simp only [DepF, List.getD_cons_zero, List.getD_cons_succ] at hf
   obtain ⟨⟨_, ⟨e40, i40⟩, ⟨aw, cw, rfl, hca, hcap⟩⟩, _⟩ := hf
   clear hbf
   have m0 := cell_of_one (boxStays M3.out hB)
   refine ⟨wanted_none rfl, ?_⟩
   go_simp
   exact hK.out _ _ (⟨_, _, rfl, hca, hcap⟩) (Below.refl _ _)
 refine relG_own 4 9 3 38 0 [(0, 38, 5), (1, 39, 4), (2, 40, 3), (3, 9, 2), (5, 10, 0)] [(0, 38, 5), (1, 39, 4), (2, 40, 3), (3, 9, 2)] (by kernel_rfl) rfl (by kernel_rfl) (by kernel_rfl) (by kernel_rfl) (by kernel_rfl) ?_ (fun f wE hB hf => ?_)
 · intro f w1 hB hf K hK
   simp only [FinF, List.getD_cons_zero, List.getD_cons_succ] at hf
   obtain ⟨⟨_, e38, rfl⟩, ⟨_, e39, rfl⟩, ⟨_, e40, ⟨aw, cw, rfl, hca, hcap⟩⟩, ⟨_, e9, ⟨zF, rfl, hbb, hbr⟩⟩, _⟩ := hf
   have m0 := cell_of_one (boxStays M3.out hB)
   refine sto_own (i := 4) 27 9 38 zF (#[.pointer (pa t0)]) _ _ rfl rfl rfl rfl (by rfl) (by rfl) e9 (by rfl) (by rfl) e38 (hbr) (by kernel_rfl) rfl (mp_one _) hK
 simp only [FinF, List.getD_cons_zero, List.getD_cons_succ] at hf
 obtain ⟨⟨_, e38, rfl⟩, ⟨_, e39, rfl⟩, ⟨_, e40, ⟨aw, cw, rfl, hca, hcap⟩⟩, ⟨_, e9, ⟨zF, rfl, hbb, hbr⟩⟩, ⟨_, e10, ⟨aw, cw, rfl, hca, hcap⟩⟩, _⟩ := hf
 simp only [blkOf, Value.cells, regT, List.foldl_cons, List.foldl_nil, List.setIfInBounds_toArray, List.set_cons_zero, List.set_cons_succ, e38, e39, e40, e9, e10]
 clear e38 e39 e40 e9 e10
 rw [setRow_one hbr]
 have hk := KeepX.setRow (Ex := fun k _ => k = zF) (KeepX.refl wE) hbr rfl 0 (.pointer (pa t0))
 have hcW := els_keepX hca hk hbr
 have hF := Boxed.set (t := 27) (.pointer (pa t0)) hbr
 have hb8 := hB.setCell (p := ⟨zF, 0, none⟩) hbb (.pointer (pa t0))
 have QD := Lib.hid hb8
 have CAP := Lib.hid hcap
 have ZF4 : Hid (w2.heap.size ≤ zF) := Lib.hid (Nat.le_trans (HC.out.to w2 (by simp)).size hbb)
 have QW := Lib.hid hcW
 have QF := Lib.hid hF
 clear hcap hb8 hB hbb hbr hca hF hcW hk
 generalize wE.setCell ⟨zF, 0, none⟩ (.pointer (pa t0)) = w4 at *
 have hb := QD.out
 have HF : Hid (w4.heap[zF]? = some (.cells #[.pointer (pa t0)] 27 (0, 0))) := Lib.hid QF.out
 replace HC := Lib.hid (HC.out.push hb)
 clear hb
 go_wp2_with fail
 refine (num_14 0 _).mono ?_
 rintro e _ ⟨rfl, rfl⟩
 have kM0 := cell_of_one (boxStays HM.out (HC.out.to w2 (by simp)))
 have kSB0 := cell_of_row _ _ 0 _ _ _ (boxStays HSB.out (HC.out.to w0 (by simp)))
 have kSB1 := cell_of_row _ _ 1 _ _ _ (boxStays HSB.out (HC.out.to w0 (by simp)))
 have kSB2 := cell_of_row _ _ 2 _ _ _ (boxStays HSB.out (HC.out.to w0 (by simp)))
 have kSB3 := cell_of_row _ _ 3 _ _ _ (boxStays HSB.out (HC.out.to w0 (by simp)))
 have kSB4 := cell_of_row _ _ 4 _ _ _ (boxStays HSB.out (HC.out.to w0 (by simp)))
 go_wp2_with fail
 refine (stands_14 (sortV l) t0 s _ n _ _ (T1.out.below (HC.out.to w1 (by simp)) rfl) R0.out (QW.out.below (HC.out.to w4 (by simp)) rfl) L0.out CAP.out (by omega) HSS.out).mono ?_
 rintro e v8 ⟨rfl, hb⟩
 clear kM0 kSB0 kSB1 kSB2 kSB3 kSB4
 replace HC := Lib.hid (HC.out.push hb)
 clear hb
 have M8 := Lib.hid (boxStays HM.out (HC.out.to w2 (by simp)))
 have S8 := Lib.hid (boxStays HSB.out (HC.out.to w0 (by simp)))
 have T8 := Lib.hid (T1.out.below (HC.out.to w1 (by simp)) rfl)
 have F8 := Lib.hid (boxStays HF.out (HC.out.to w4 (by simp)))
 have W8 := Lib.hid (QW.out.below (HC.out.to w4 (by simp)) rfl)
 have A8 := Lib.hid (HL2.out.below (HC.out.to w (by simp)) rfl)
 have B8 := Lib.hid (HC.out.to w (by simp))
 have Z8 : Hid (w.heap.size ≤ z ∧ z < v8.heap.size) := Lib.hid ⟨by rw [← Sz.out]; exact LW1.out, (Array.getElem?_eq_some_iff.1 M8.out).1⟩
 have NE : Hid (zF ≠ z) := Lib.hid (by have := ZF4.out; have := ZM2.out; omega)
 have C0Z : Hid (c0 ≠ z) := Lib.hid (by have := LS1.out; have := Sz.out; omega)
 clear HC
 go_wp2_with fail
 go_loopw [11, 12] (fun now i wr => ∃ (k nL : Nat) (L q : List Ev) (tr : Tr ByteArray) (an : Option Addr) (cn : Nat), k ≤ n2 ∧ k ≤ 30 ∧ i = .int .i64 (k : Int) ∧ now = .slice an nL cn ∧ Hid (L = sortV l ++ q) ∧ Hid (nL = L.length) ∧ Hid (nL ≤ 60 + k) ∧ Hid (nL ≤ cn) ∧ Hid (CellsAt wr an (elsV L)) ∧ Hid (Reg L tr) ∧ Hid (AtS wr tr) ∧ Hid (wr.heap[z]? = some (.cells #[.pointer (pa tr)] 27 (0, 0))) ∧ Hid (KeepX (fun k _ => k = z) v8 wr)) (fun _ i _ => 30 - (intOf i).toNat)
 case atStart => exact ⟨0, n, sortV l, [], t0, aw, cw, Nat.zero_le _, Nat.zero_le _, rfl, rfl, Lib.hid (List.append_nil _).symm, L0, Lib.hid (by omega), CAP, W8, R0, T8, M8, Lib.hid (KeepX.refl _)⟩
 case round =>
   obtain ⟨k, nL, L, q, tr, an, cn, hk, hk30, rfl, rfl, HLQ, HNL, HNB, HNC, HCL, HR, HAt, HM, HKX⟩ := hrel
   have HAT8 : Hid (AtS wr t0) := Lib.hid (T8.out.keepZ HKX.out M8.out (by decide))
   have HA8 : Hid (CellsAt wr b (elsV ws)) := Lib.hid (els_keepX A8.out HKX.out M8.out)
   have HW8 : Hid (CellsAt wr aw (elsV (sortV l))) := Lib.hid (els_keepX W8.out HKX.out M8.out)
   have HF : Hid (wr.heap[zF]? = some (.cells #[.pointer (pa t0)] 27 (0, 0))) := Lib.hid (HKX.out.row F8.out NE.out)
   have HSB : Hid (wr.heap[c0]? = some (.cells #[.int .i64 s.g, .int .i64 s.r, .string s.l, .int .i64 s.n, .int .i64 s.i] 41 (0, 0))) := Lib.hid (HKX.out.row S8.out C0Z.out)
   have HBW : Hid (∀ W, Below wr.heap.size wr W → Below w.heap.size w W) := Lib.hid (fun W hW => by
     have h1 := HKX.out.toBelowZ (by have := Z8.out.2; omega)
     exact (B8.out.trans (h1.mono Z8.out.1)).trans (hW.mono (Nat.le_trans B8.out.size HKX.out.size)))
   have hk100 : nL ≤ 100 := by have := HNB.out; omega
   have HL100 : Hid (L.length ≤ 100) := Lib.hid (by rw [← HNL.out]; exact hk100)
   have HL0 : Hid ((sortV l).length ≤ 100) := Lib.hid (by rw [← L0.out]; omega)
   have HC : Hid (Chain [wr] wr) := Lib.hid (Chain.one wr)
   by_cases hlt : k < n2
   · have hlti : (k : Int) < (n2 : Int) := by omega
     by_cases h30 : k < 30
     · have h30i : (k : Int) < 30 := by omega
       have hk1 : k < ws.length := by have := HN2.out; omega
       obtain ⟨ba, oa, rfl, ca⟩ := els_get HA8.out k hk1
       have HSX : Hid (ws[k].1.l.size ≤ 9223372036854775807) := Lib.hid (HS2.out _ (List.getElem_mem hk1))
       generalize ws[k] = x at *
       have CA := Lib.hid ca
       have HLT := Lib.hid hlti
       clear ca
       have APP : Hid (∀ W, Below wr.heap.size wr W → Calls Try.prog 30 #[.agg #[.pointer (pa tr)], .agg #[.int .i64 x.1.g, .int .i64 x.1.r, .string x.1.l, .int .i64 x.1.n, .int .i64 x.1.i], .string x.2] W fun e w' =>
           ∃ (m : Tr ByteArray) (c : Int), e = .returned (.tuple #[.agg #[.pointer (pa m)], .int .i64 c]) ∧ AtS w' m ∧ Below W.heap.size W w' ∧ (((okV x && behindV L x.1) = true ∧ c = 0 ∧ Reg (L ++ [x]) m) ∨ ((okV x && behindV L x.1) = false ∧ c = 2 ∧ m = .nil))) := Lib.hid (fun W hW => by
         refine (put_reg14 x.1 x.2 W (HAt.out.below hW rfl) HR.out (by have := HL100.out; omega) HSX.out).mono ?_
         rintro e w' ⟨m, c, rfl, hm, hb, hP⟩
         refine ⟨m, c, rfl, hm, hb, ?_⟩
         rcases hP with ⟨h1, h2, h3, _⟩ | h
         · exact .inl ⟨h1, h2, h3⟩
         · exact .inr h)
       have FIT : Hid (∀ W, Calls Try.prog 31 #[.agg #[.int .i64 x.1.g, .int .i64 x.1.r, .string x.1.l, .int .i64 x.1.n, .int .i64 x.1.i], .string x.2] W fun e w' => e = .returned (.bool (okV x)) ∧ Below W.heap.size W w') := Lib.hid (fun W => ref14_Fits x.1 x.2 W HSX.out)
       have BEH : Hid (∀ W, CellsAt W an (elsV L) → Calls Try.prog 32 #[.slice an nL cn, .agg #[.int .i64 x.1.g, .int .i64 x.1.r, .string x.1.l, .int .i64 x.1.n, .int .i64 x.1.i]] W fun e w' => e = .returned (.bool (behindV L x.1)) ∧ Below W.heap.size W w') := Lib.hid (fun W hW => ref14_Behind L x.1 an nL cn W hW HNL.out (by omega) HSX.out (ok_lsz HR.out.ok))
       obtain ⟨fo, hfo⟩ : ∃ r, okV x = r := ⟨_, rfl⟩
       obtain ⟨bv, hbv⟩ : ∃ r, behindV L x.1 = r := ⟨_, rfl⟩
       rw [hfo] at FIT APP
       rw [hbv] at BEH APP
       clear hfo hbv
       go_upto_region 13 with (fail)
       cases fo
       case false =>
         refine relG_start (slots := [63, 64, 65, 66, 67, 68, 69, 70, 71, 72, 73, 74, 62, 75, 76, 13, 14]) (so := [16]) (by kernel_rfl) (by kernel_rfl) (by rfl) ?_
         refine relG_pure (i := 0) (o := ⟨some 63, _, _, _, _, _⟩) (v := ?v3) [] [7] rfl rfl (by kernel_rfl) (by kernel_rfl) (fun t w1 hB hf hbf => ?y3) ?n3
         case y3 =>
           simp only [BasF] at hbf
           clear hf
           obtain ⟨⟨b7, k7⟩, _⟩ := hbf
           skip
           have m0 := cell_of_one (boxStays HM.out hB)
           refine Or.inl ⟨wanted_none rfl, ?_⟩
           rintro _ rfl
           go_simp <;> with_reducible rfl
         refine relG_pure (i := 1) (o := ⟨some 64, _, _, _, _, _⟩) (v := ?v4) [] [1] rfl rfl (by kernel_rfl) (by kernel_rfl) (fun t w1 hB hf hbf => ?y4) ?n4
         case y4 =>
           simp only [BasF] at hbf
           clear hf
           obtain ⟨⟨b1, k1⟩, _⟩ := hbf
           skip
           refine Or.inl ⟨wanted_none rfl, ?_⟩
           rintro _ rfl
           go_simp <;> with_reducible rfl
         refine relG_pure (i := 2) (o := ⟨some 65, _, _, _, _, _⟩) (v := ?v5) [] [12] rfl rfl (by kernel_rfl) (by kernel_rfl) (fun t w1 hB hf hbf => ?y5) ?n5
         case y5 =>
           simp only [BasF] at hbf
           clear hf
           obtain ⟨⟨b12, k12⟩, _⟩ := hbf
           skip
           refine Or.inl ⟨wanted_none rfl, ?_⟩
           rintro _ rfl
           go_simp <;> with_reducible rfl
         refine relG_pure (i := 3) (o := ⟨some 66, _, _, _, _, _⟩) (v := ?v6) [(1, 64, 1), (2, 65, 0)] [] rfl rfl (by kernel_rfl) (by kernel_rfl) (fun t w1 hB hf hbf => ?y6) ?n6
         case y6 =>
           simp only [DepF, List.getD_cons_zero, List.getD_cons_succ] at hf
           obtain ⟨⟨_, ⟨e64, i64⟩, rfl⟩, ⟨_, ⟨e65, i65⟩, rfl⟩, _⟩ := hf
           clear hbf
           skip
           have hlti := HLT.out
           refine Or.inl ⟨wanted_none rfl, ?_⟩
           rintro _ rfl
           go_simp <;> with_reducible rfl
         refine relG_pure (i := 4) (o := ⟨some 67, _, _, _, _, _⟩) (v := ?v7) [(3, 66, 0)] [] rfl rfl (by kernel_rfl) (by kernel_rfl) (fun t w1 hB hf hbf => ?y7) ?n7
         case y7 =>
           simp only [DepF, List.getD_cons_zero] at hf
           obtain ⟨⟨_, ⟨e66, i66⟩, rfl⟩, _⟩ := hf
           clear hbf
           skip
           refine Or.inl ⟨wanted_none rfl, ?_⟩
           rintro _ rfl
           go_simp <;> with_reducible rfl
         refine relG_pure (i := 5) (o := ⟨some 68, _, _, _, _, _⟩) (v := ?v8) [(4, 67, 0)] [] rfl rfl (by kernel_rfl) (by kernel_rfl) (fun t w1 hB hf hbf => ?y8) ?n8
         case y8 =>
           simp only [DepF, List.getD_cons_zero] at hf
           obtain ⟨⟨_, ⟨e67, i67⟩, rfl⟩, _⟩ := hf
           clear hbf
           skip
           obtain ⟨p0, p1, p2, p3, p4, p5⟩ := CA.out.below hB
           refine Or.inl ⟨wanted_none rfl, ?_⟩
           rintro _ rfl
           go_simp <;> with_reducible rfl
         refine relG_pure (i := 6) (o := ⟨some 69, _, _, _, _, _⟩) (v := ?v9) [] [1] rfl rfl (by kernel_rfl) (by kernel_rfl) (fun t w1 hB hf hbf => ?y9) ?n9
         case y9 =>
           simp only [BasF] at hbf
           clear hf
           obtain ⟨⟨b1, k1⟩, _⟩ := hbf
           skip
           refine Or.inl ⟨wanted_none rfl, ?_⟩
           rintro _ rfl
           go_simp <;> with_reducible rfl
         refine relG_pure (i := 7) (o := ⟨some 70, _, _, _, _, _⟩) (v := ?v10) [] [12] rfl rfl (by kernel_rfl) (by kernel_rfl) (fun t w1 hB hf hbf => ?y10) ?n10
         case y10 =>
           simp only [BasF] at hbf
           clear hf
           obtain ⟨⟨b12, k12⟩, _⟩ := hbf
           skip
           refine Or.inl ⟨wanted_none rfl, ?_⟩
           rintro _ rfl
           go_simp <;> with_reducible rfl
         refine relG_pure (i := 8) (o := ⟨some 71, _, _, _, _, _⟩) (v := ?v11) [(6, 69, 1), (7, 70, 0)] [] rfl rfl (by kernel_rfl) (by kernel_rfl) (fun t w1 hB hf hbf => ?y11) ?n11
         case y11 =>
           simp only [DepF, List.getD_cons_zero, List.getD_cons_succ] at hf
           obtain ⟨⟨_, ⟨e69, i69⟩, rfl⟩, ⟨_, ⟨e70, i70⟩, rfl⟩, _⟩ := hf
           clear hbf
           skip
           have hlti := HLT.out
           refine Or.inl ⟨wanted_none rfl, ?_⟩
           rintro _ rfl
           go_simp <;> with_reducible rfl
         refine relG_pure (i := 9) (o := ⟨some 72, _, _, _, _, _⟩) (v := ?v12) [(8, 71, 0)] [] rfl rfl (by kernel_rfl) (by kernel_rfl) (fun t w1 hB hf hbf => ?y12) ?n12
         case y12 =>
           simp only [DepF, List.getD_cons_zero] at hf
           obtain ⟨⟨_, ⟨e71, i71⟩, rfl⟩, _⟩ := hf
           clear hbf
           skip
           refine Or.inl ⟨wanted_none rfl, ?_⟩
           rintro _ rfl
           go_simp <;> with_reducible rfl
         refine relG_pure (i := 10) (o := ⟨some 73, _, _, _, _, _⟩) (v := ?v13) [(9, 72, 0)] [] rfl rfl (by kernel_rfl) (by kernel_rfl) (fun t w1 hB hf hbf => ?y13) ?n13
         case y13 =>
           simp only [DepF, List.getD_cons_zero] at hf
           obtain ⟨⟨_, ⟨e72, i72⟩, rfl⟩, _⟩ := hf
           clear hbf
           skip
           obtain ⟨p0, p1, p2, p3, p4, p5⟩ := CA.out.below hB
           refine Or.inl ⟨wanted_none rfl, ?_⟩
           rintro _ rfl
           go_simp <;> with_reducible rfl
         refine relG_call (i := 11) (o := ⟨some 74, _, _, _, _, _⟩) ((fun v w' => v = .tuple #[.agg #[.pointer none], .int .i64 2])) [(0, 63, 10), (5, 68, 5), (10, 73, 0)] [] rfl rfl (by kernel_rfl) (by kernel_rfl) ((fun v w' w'' h hb => h)) ?_ ?_
         · intro t w1 hB hf hbf K hK
           simp only [DepF, List.getD_cons_zero, List.getD_cons_succ] at hf
           obtain ⟨⟨_, ⟨e63, i63⟩, rfl⟩, ⟨_, ⟨e68, i68⟩, rfl⟩, ⟨_, ⟨e73, i73⟩, rfl⟩, _⟩ := hf
           clear hbf
           skip
           refine ⟨wanted_none rfl, ?_⟩
           go_simp
           refine (APP.out w1 hB).mono ?_
           rintro e w2 ⟨m, ce, rfl, hm, hb, hP⟩
           exact hK.out _ w2 ((by rcases hP with ⟨h, _⟩ | ⟨_, h1, h2⟩; cases h; rw [h1, h2]; rfl)) hb
         refine relG_pure (i := 12) (o := ⟨some 62, _, _, _, _, _⟩) (v := ?v14) [(11, 74, 0)] [] rfl rfl (by kernel_rfl) (by kernel_rfl) (fun t w1 hB hf hbf => ?y14) ?n14
         case y14 =>
           simp only [DepF, List.getD_cons_zero] at hf
           obtain ⟨⟨_, ⟨e74, i74⟩, rfl⟩, _⟩ := hf
           clear hbf
           skip
           refine Or.inl ⟨wanted_none rfl, ?_⟩
           rintro _ rfl
           go_simp <;> with_reducible rfl
         refine relG_pure (i := 13) (o := ⟨some 75, _, _, _, _, _⟩) (v := ?v15) [(12, 62, 0)] [] rfl rfl (by kernel_rfl) (by kernel_rfl) (fun t w1 hB hf hbf => ?y15) ?n15
         case y15 =>
           simp only [DepF, List.getD_cons_zero] at hf
           obtain ⟨⟨_, ⟨e62, i62⟩, rfl⟩, _⟩ := hf
           clear hbf
           skip
           refine Or.inl ⟨wanted_none rfl, ?_⟩
           rintro _ rfl
           go_simp <;> with_reducible rfl
         refine relG_pure (i := 14) (o := ⟨some 76, _, _, _, _, _⟩) (v := ?v16) [(12, 62, 1)] [] rfl rfl (by kernel_rfl) (by kernel_rfl) (fun t w1 hB hf hbf => ?y16) ?n16
         case y16 =>
           simp only [DepF, List.getD_cons_zero, List.getD_cons_succ] at hf
           obtain ⟨⟨_, ⟨e62, i62⟩, rfl⟩, _⟩ := hf
           clear hbf
           skip
           refine Or.inl ⟨wanted_none rfl, ?_⟩
           rintro _ rfl
           go_simp <;> with_reducible rfl
         refine relG_call (i := 15) (o := ⟨some 13, _, _, _, _, _⟩) ((fun v w' => ∃ b, v = .pointer (some ⟨b, 0, none⟩) ∧ wr.heap.size ≤ b ∧ w'.heap[b]? = some (.cells #[.pointer none] 27 (0, 0)))) [] [] rfl rfl (by kernel_rfl) (by kernel_rfl) ((fun v w' w'' h hb => by obtain ⟨b, e1, e2, e3⟩ := h; exact ⟨b, e1, e2, boxStays e3 hb⟩)) ?_ ?_
         · intro t w1 hB hf hbf K hK
           clear hf
           clear hbf
           skip
           refine ⟨wanted_none rfl, ?_⟩
           go_simp
           exact hK.out _ _ (⟨_, rfl, hB.size, heap_alloc_new _ _⟩) (below_new _ _)
         refine relG_skip 16 rfl (by rfl) ?_ (by kernel_rfl)
         refine relG_pure (i := 17) (o := ⟨some 14, _, _, _, _, _⟩) (v := ?v17) [(14, 76, 2)] [] rfl rfl (by kernel_rfl) (by kernel_rfl) (fun t w1 hB hf hbf => ?y17) ?n17
         case y17 =>
           simp only [DepF, List.getD_cons_zero, List.getD_cons_succ] at hf
           obtain ⟨⟨_, ⟨e76, i76⟩, rfl⟩, _⟩ := hf
           clear hbf
           skip
           refine Or.inl ⟨wanted_none rfl, ?_⟩
           rintro _ rfl
           go_simp <;> with_reducible rfl
         refine relG_own 16 13 15 75 13 [(0, 63, 17), (1, 64, 16), (2, 65, 15), (3, 66, 14), (4, 67, 13), (5, 68, 12), (6, 69, 11), (7, 70, 10), (8, 71, 9), (9, 72, 8), (10, 73, 7), (11, 74, 6), (12, 62, 5), (13, 75, 4), (14, 76, 3), (15, 13, 2), (17, 14, 0)] [(0, 63, 17), (1, 64, 16), (2, 65, 15), (3, 66, 14), (4, 67, 13), (5, 68, 12), (6, 69, 11), (7, 70, 10), (8, 71, 9), (9, 72, 8), (10, 73, 7), (11, 74, 6), (12, 62, 5), (13, 75, 4), (15, 13, 2)] (by kernel_rfl) rfl (by kernel_rfl) (by kernel_rfl) (by kernel_rfl) (by kernel_rfl) ?_ (fun f wE hB hf => ?_)
         · intro f w1 hB hf K hK
           simp only [FinF, List.getD_cons_zero, List.getD_cons_succ] at hf
           obtain ⟨⟨_, e63, rfl⟩, ⟨_, e64, rfl⟩, ⟨_, e65, rfl⟩, ⟨_, e66, rfl⟩, ⟨_, e67, rfl⟩, ⟨_, e68, rfl⟩, ⟨_, e69, rfl⟩, ⟨_, e70, rfl⟩, ⟨_, e71, rfl⟩, ⟨_, e72, rfl⟩, ⟨_, e73, rfl⟩, ⟨_, e74, rfl⟩, ⟨_, e62, rfl⟩, ⟨_, e75, rfl⟩, ⟨_, e13, ⟨zN, rfl, hbb, hbr⟩⟩, _⟩ := hf
           skip
           refine sto_own (i := 16) 27 13 75 zN (#[.pointer none]) _ _ rfl rfl rfl rfl (by rfl) (by rfl) e13 (by rfl) (by rfl) e75 (hbr) (by kernel_rfl) rfl (mp_one _) hK
         simp only [FinF, List.getD_cons_zero, List.getD_cons_succ] at hf
         obtain ⟨⟨_, e63, rfl⟩, ⟨_, e64, rfl⟩, ⟨_, e65, rfl⟩, ⟨_, e66, rfl⟩, ⟨_, e67, rfl⟩, ⟨_, e68, rfl⟩, ⟨_, e69, rfl⟩, ⟨_, e70, rfl⟩, ⟨_, e71, rfl⟩, ⟨_, e72, rfl⟩, ⟨_, e73, rfl⟩, ⟨_, e74, rfl⟩, ⟨_, e62, rfl⟩, ⟨_, e75, rfl⟩, ⟨_, e76, rfl⟩, ⟨_, e13, ⟨zN, rfl, hbb, hbr⟩⟩, ⟨_, e14, rfl⟩, _⟩ := hf
         simp only [blkOf, Value.cells, regT, List.foldl_cons, List.foldl_nil, List.setIfInBounds_toArray, List.set_cons_zero, List.set_cons_succ, e63, e64, e65, e66, e67, e68, e69, e70, e71, e72, e73, e74, e62, e75, e76, e13, e14]
         clear e63 e64 e65 e66 e67 e68 e69 e70 e71 e72 e73 e74 e62 e75 e76 e13 e14
         rw [setRow_one hbr]
         have hN := Boxed.set (t := 27) (.pointer none) hbr
         have hb8 := hB.setCell (p := ⟨zN, 0, none⟩) hbb (.pointer none)
         have QD9 := Lib.hid hb8
         have QN9 := Lib.hid hN
         clear hb8 hB hbb hbr hN
         generalize wE.setCell ⟨zN, 0, none⟩ (.pointer none) = r9 at *
         have hb := QD9.out
         have HQN : Hid (r9.heap[zN]? = some (.cells #[.pointer none] 27 (0, 0))) := Lib.hid QN9.out
         replace HC := Lib.hid (HC.out.push hb)
         clear hb
         have CA9 := Lib.hid (CA.out.below QD9.out)
         have CL9 := Lib.hid (HCL.out.below QD9.out rfl)
         go_upto_region 14 with (fail)
         refine relG_start (slots := [77, 78, 79, 80, 81, 82, 83, 84, 85, 86, 87, 88, 89, 90, 91, 92, 93, 94, 95, 96, 97, 98]) (so := []) (by kernel_rfl) (by kernel_rfl) (by rfl) ?_
         refine relG_pure (i := 0) (o := ⟨some 77, _, _, _, _, _⟩) (v := ?v18) [] [1] rfl rfl (by kernel_rfl) (by kernel_rfl) (fun t w1 hB hf hbf => ?y18) ?n18
         case y18 =>
           simp only [BasF] at hbf
           clear hf
           obtain ⟨⟨b1, k1⟩, _⟩ := hbf
           skip
           refine Or.inl ⟨wanted_none rfl, ?_⟩
           rintro _ rfl
           go_simp <;> with_reducible rfl
         refine relG_pure (i := 1) (o := ⟨some 78, _, _, _, _, _⟩) (v := ?v19) [] [12] rfl rfl (by kernel_rfl) (by kernel_rfl) (fun t w1 hB hf hbf => ?y19) ?n19
         case y19 =>
           simp only [BasF] at hbf
           clear hf
           obtain ⟨⟨b12, k12⟩, _⟩ := hbf
           skip
           refine Or.inl ⟨wanted_none rfl, ?_⟩
           rintro _ rfl
           go_simp <;> with_reducible rfl
         refine relG_pure (i := 2) (o := ⟨some 79, _, _, _, _, _⟩) (v := ?v20) [(0, 77, 1), (1, 78, 0)] [] rfl rfl (by kernel_rfl) (by kernel_rfl) (fun t w1 hB hf hbf => ?y20) ?n20
         case y20 =>
           simp only [DepF, List.getD_cons_zero, List.getD_cons_succ] at hf
           obtain ⟨⟨_, ⟨e77, i77⟩, rfl⟩, ⟨_, ⟨e78, i78⟩, rfl⟩, _⟩ := hf
           clear hbf
           skip
           have hlti := HLT.out
           refine Or.inl ⟨wanted_none rfl, ?_⟩
           rintro _ rfl
           go_simp <;> with_reducible rfl
         refine relG_pure (i := 3) (o := ⟨some 80, _, _, _, _, _⟩) (v := ?v21) [(2, 79, 0)] [] rfl rfl (by kernel_rfl) (by kernel_rfl) (fun t w1 hB hf hbf => ?y21) ?n21
         case y21 =>
           simp only [DepF, List.getD_cons_zero] at hf
           obtain ⟨⟨_, ⟨e79, i79⟩, rfl⟩, _⟩ := hf
           clear hbf
           skip
           refine Or.inl ⟨wanted_none rfl, ?_⟩
           rintro _ rfl
           go_simp <;> with_reducible rfl
         refine relG_pure (i := 4) (o := ⟨some 81, _, _, _, _, _⟩) (v := ?v22) [(3, 80, 0)] [] rfl rfl (by kernel_rfl) (by kernel_rfl) (fun t w1 hB hf hbf => ?y22) ?n22
         case y22 =>
           simp only [DepF, List.getD_cons_zero] at hf
           obtain ⟨⟨_, ⟨e80, i80⟩, rfl⟩, _⟩ := hf
           clear hbf
           skip
           obtain ⟨p0, p1, p2, p3, p4, p5⟩ := CA9.out.below hB
           refine Or.inl ⟨wanted_none rfl, ?_⟩
           rintro _ rfl
           go_simp <;> with_reducible rfl
         refine relG_pure (i := 5) (o := ⟨some 82, _, _, _, _, _⟩) (v := ?v23) [] [1] rfl rfl (by kernel_rfl) (by kernel_rfl) (fun t w1 hB hf hbf => ?y23) ?n23
         case y23 =>
           simp only [BasF] at hbf
           clear hf
           obtain ⟨⟨b1, k1⟩, _⟩ := hbf
           skip
           refine Or.inl ⟨wanted_none rfl, ?_⟩
           rintro _ rfl
           go_simp <;> with_reducible rfl
         refine relG_pure (i := 6) (o := ⟨some 83, _, _, _, _, _⟩) (v := ?v24) [] [12] rfl rfl (by kernel_rfl) (by kernel_rfl) (fun t w1 hB hf hbf => ?y24) ?n24
         case y24 =>
           simp only [BasF] at hbf
           clear hf
           obtain ⟨⟨b12, k12⟩, _⟩ := hbf
           skip
           refine Or.inl ⟨wanted_none rfl, ?_⟩
           rintro _ rfl
           go_simp <;> with_reducible rfl
         refine relG_pure (i := 7) (o := ⟨some 84, _, _, _, _, _⟩) (v := ?v25) [(5, 82, 1), (6, 83, 0)] [] rfl rfl (by kernel_rfl) (by kernel_rfl) (fun t w1 hB hf hbf => ?y25) ?n25
         case y25 =>
           simp only [DepF, List.getD_cons_zero, List.getD_cons_succ] at hf
           obtain ⟨⟨_, ⟨e82, i82⟩, rfl⟩, ⟨_, ⟨e83, i83⟩, rfl⟩, _⟩ := hf
           clear hbf
           skip
           have hlti := HLT.out
           refine Or.inl ⟨wanted_none rfl, ?_⟩
           rintro _ rfl
           go_simp <;> with_reducible rfl
         refine relG_pure (i := 8) (o := ⟨some 85, _, _, _, _, _⟩) (v := ?v26) [(7, 84, 0)] [] rfl rfl (by kernel_rfl) (by kernel_rfl) (fun t w1 hB hf hbf => ?y26) ?n26
         case y26 =>
           simp only [DepF, List.getD_cons_zero] at hf
           obtain ⟨⟨_, ⟨e84, i84⟩, rfl⟩, _⟩ := hf
           clear hbf
           skip
           refine Or.inl ⟨wanted_none rfl, ?_⟩
           rintro _ rfl
           go_simp <;> with_reducible rfl
         refine relG_pure (i := 9) (o := ⟨some 86, _, _, _, _, _⟩) (v := ?v27) [(8, 85, 0)] [] rfl rfl (by kernel_rfl) (by kernel_rfl) (fun t w1 hB hf hbf => ?y27) ?n27
         case y27 =>
           simp only [DepF, List.getD_cons_zero] at hf
           obtain ⟨⟨_, ⟨e85, i85⟩, rfl⟩, _⟩ := hf
           clear hbf
           skip
           obtain ⟨p0, p1, p2, p3, p4, p5⟩ := CA9.out.below hB
           refine Or.inl ⟨wanted_none rfl, ?_⟩
           rintro _ rfl
           go_simp <;> with_reducible rfl
         refine relG_call (i := 10) (o := ⟨some 87, _, _, _, _, _⟩) ((fun v _ => v = .bool false)) [(4, 81, 5), (9, 86, 0)] [] rfl rfl (by kernel_rfl) (by kernel_rfl) ((fun _ _ _ h _ => h)) ?_ ?_
         · intro t w1 hB hf hbf K hK
           simp only [DepF, List.getD_cons_zero, List.getD_cons_succ] at hf
           obtain ⟨⟨_, ⟨e81, i81⟩, rfl⟩, ⟨_, ⟨e86, i86⟩, rfl⟩, _⟩ := hf
           clear hbf
           skip
           refine ⟨wanted_none rfl, ?_⟩
           go_simp
           refine (FIT.out w1).mono ?_
           rintro e w2 ⟨rfl, hb⟩
           exact hK.out _ w2 (rfl) hb
         refine relG_pure (i := 11) (o := ⟨some 88, _, _, _, _, _⟩) (v := ?v28) [(10, 87, 0)] [] rfl rfl (by kernel_rfl) (by kernel_rfl) (fun t w1 hB hf hbf => ?y28) ?n28
         case y28 =>
           simp only [DepF, List.getD_cons_zero] at hf
           obtain ⟨⟨_, ⟨e87, i87⟩, rfl⟩, _⟩ := hf
           clear hbf
           skip
           refine Or.inl ⟨wanted_none rfl, ?_⟩
           rintro _ rfl
           go_simp <;> with_reducible rfl
         refine relG_pure (i := 12) (o := ⟨some 89, _, _, _, _, _⟩) (v := ?v29) [(11, 88, 0)] [] rfl rfl (by kernel_rfl) (by kernel_rfl) (fun t w1 hB hf hbf => ?y29) ?n29
         case y29 =>
           simp only [DepF, List.getD_cons_zero] at hf
           obtain ⟨⟨_, ⟨e88, i88⟩, rfl⟩, _⟩ := hf
           clear hbf
           skip
           refine Or.inl ⟨wanted_none rfl, ?_⟩
           rintro _ rfl
           go_simp <;> with_reducible rfl
         refine relG_pure (i := 13) (o := ⟨some 90, _, _, _, _, _⟩) (v := undef) [(12, 89, 0)] [11] rfl rfl (by kernel_rfl) (by kernel_rfl) (fun t w1 hB hf hbf => ?_) ?_
         · simp only [DepF, List.getD_cons_zero] at hf
           obtain ⟨⟨_, ⟨e89, i89⟩, rfl⟩, _⟩ := hf
           exact Or.inr ⟨(by have hg := getD_some i89; simp [Region.wanted, yielded, hg]), rfl⟩
         refine relG_pure (i := 14) (o := ⟨some 91, _, _, _, _, _⟩) (v := undef) [(12, 89, 1)] [1] rfl rfl (by kernel_rfl) (by kernel_rfl) (fun t w1 hB hf hbf => ?_) ?_
         · simp only [DepF, List.getD_cons_zero, List.getD_cons_succ] at hf
           obtain ⟨⟨_, ⟨e89, i89⟩, rfl⟩, _⟩ := hf
           exact Or.inr ⟨(by have hg := getD_some i89; simp [Region.wanted, yielded, hg]), rfl⟩
         refine relG_pure (i := 15) (o := ⟨some 92, _, _, _, _, _⟩) (v := undef) [(12, 89, 2)] [12] rfl rfl (by kernel_rfl) (by kernel_rfl) (fun t w1 hB hf hbf => ?_) ?_
         · simp only [DepF, List.getD_cons_zero, List.getD_cons_succ] at hf
           obtain ⟨⟨_, ⟨e89, i89⟩, rfl⟩, _⟩ := hf
           exact Or.inr ⟨(by have hg := getD_some i89; simp [Region.wanted, yielded, hg]), rfl⟩
         refine relG_pure (i := 16) (o := ⟨some 93, _, _, _, _, _⟩) (v := undef) [(14, 91, 1), (15, 92, 0), (12, 89, 3)] [] rfl rfl (by kernel_rfl) (by kernel_rfl) (fun t w1 hB hf hbf => ?_) ?_
         · simp only [DepF, List.getD_cons_zero, List.getD_cons_succ] at hf
           obtain ⟨⟨_, ⟨e91, i91⟩, rfl⟩, ⟨_, ⟨e92, i92⟩, rfl⟩, ⟨_, ⟨e89, i89⟩, rfl⟩, _⟩ := hf
           exact Or.inr ⟨(by have hg := getD_some i89; simp [Region.wanted, yielded, hg]), rfl⟩
         refine relG_pure (i := 17) (o := ⟨some 94, _, _, _, _, _⟩) (v := undef) [(16, 93, 0), (12, 89, 4)] [] rfl rfl (by kernel_rfl) (by kernel_rfl) (fun t w1 hB hf hbf => ?_) ?_
         · simp only [DepF, List.getD_cons_zero, List.getD_cons_succ] at hf
           obtain ⟨⟨_, ⟨e93, i93⟩, rfl⟩, ⟨_, ⟨e89, i89⟩, rfl⟩, _⟩ := hf
           exact Or.inr ⟨(by have hg := getD_some i89; simp [Region.wanted, yielded, hg]), rfl⟩
         refine relG_pure (i := 18) (o := ⟨some 95, _, _, _, _, _⟩) (v := undef) [(17, 94, 0), (12, 89, 5)] [] rfl rfl (by kernel_rfl) (by kernel_rfl) (fun t w1 hB hf hbf => ?_) ?_
         · simp only [DepF, List.getD_cons_zero, List.getD_cons_succ] at hf
           obtain ⟨⟨_, ⟨e94, i94⟩, rfl⟩, ⟨_, ⟨e89, i89⟩, rfl⟩, _⟩ := hf
           exact Or.inr ⟨(by have hg := getD_some i89; simp [Region.wanted, yielded, hg]), rfl⟩
         refine relG_pure (i := 19) (o := ⟨some 96, _, _, _, _, _⟩) (v := undef) [(13, 90, 5), (18, 95, 0), (12, 89, 6)] [] rfl rfl (by kernel_rfl) (by kernel_rfl) (fun t w1 hB hf hbf => ?_) ?_
         · simp only [DepF, List.getD_cons_zero, List.getD_cons_succ] at hf
           obtain ⟨⟨_, ⟨e90, i90⟩, rfl⟩, ⟨_, ⟨e95, i95⟩, rfl⟩, ⟨_, ⟨e89, i89⟩, rfl⟩, _⟩ := hf
           exact Or.inr ⟨(by have hg := getD_some i89; simp [Region.wanted, yielded, hg]), rfl⟩
         refine relG_pure (i := 20) (o := ⟨some 97, _, _, _, _, _⟩) (v := undef) [(19, 96, 0), (12, 89, 7)] [] rfl rfl (by kernel_rfl) (by kernel_rfl) (fun t w1 hB hf hbf => ?_) ?_
         · simp only [DepF, List.getD_cons_zero, List.getD_cons_succ] at hf
           obtain ⟨⟨_, ⟨e96, i96⟩, rfl⟩, ⟨_, ⟨e89, i89⟩, rfl⟩, _⟩ := hf
           exact Or.inr ⟨(by have hg := getD_some i89; simp [Region.wanted, yielded, hg]), rfl⟩
         refine relG_pure (i := 21) (o := ⟨some 98, _, _, _, _, _⟩) (v := ?v30) [(12, 89, 8), (20, 97, 0)] [] rfl rfl (by kernel_rfl) (by kernel_rfl) (fun t w1 hB hf hbf => ?y30) ?n30
         case y30 =>
           simp only [DepF, List.getD_cons_zero, List.getD_cons_succ] at hf
           obtain ⟨⟨_, ⟨e89, i89⟩, rfl⟩, ⟨_, ⟨e97, i97⟩, rfl⟩, _⟩ := hf
           clear hbf
           skip
           refine Or.inl ⟨wanted_none rfl, ?_⟩
           rintro _ rfl
           go_simp <;> with_reducible rfl
         refine relG_done [(0, 77, 21), (1, 78, 20), (2, 79, 19), (3, 80, 18), (4, 81, 17), (5, 82, 16), (6, 83, 15), (7, 84, 14), (8, 85, 13), (9, 86, 12), (10, 87, 11), (11, 88, 10), (12, 89, 9), (13, 90, 8), (14, 91, 7), (15, 92, 6), (16, 93, 5), (17, 94, 4), (18, 95, 3), (19, 96, 2), (20, 97, 1), (21, 98, 0)] (by kernel_rfl) rfl (by kernel_rfl) (fun f wE hB hf => ?_)
         simp only [FinF, List.getD_cons_zero, List.getD_cons_succ] at hf
         obtain ⟨⟨_, e77, rfl⟩, ⟨_, e78, rfl⟩, ⟨_, e79, rfl⟩, ⟨_, e80, rfl⟩, ⟨_, e81, rfl⟩, ⟨_, e82, rfl⟩, ⟨_, e83, rfl⟩, ⟨_, e84, rfl⟩, ⟨_, e85, rfl⟩, ⟨_, e86, rfl⟩, ⟨_, e87, rfl⟩, ⟨_, e88, rfl⟩, ⟨_, e89, rfl⟩, ⟨_, e90, rfl⟩, ⟨_, e91, rfl⟩, ⟨_, e92, rfl⟩, ⟨_, e93, rfl⟩, ⟨_, e94, rfl⟩, ⟨_, e95, rfl⟩, ⟨_, e96, rfl⟩, ⟨_, e97, rfl⟩, ⟨_, e98, rfl⟩, _⟩ := hf
         simp only [regT, List.foldl_cons, List.foldl_nil, List.setIfInBounds_toArray, List.set_cons_zero, List.set_cons_succ, e77, e78, e79, e80, e81, e82, e83, e84, e85, e86, e87, e88, e89, e90, e91, e92, e93, e94, e95, e96, e97, e98]
         clear e77 e78 e79 e80 e81 e82 e83 e84 e85 e86 e87 e88 e89 e90 e91 e92 e93 e94 e95 e96 e97 e98
         have hb := hB
         clear hB
         replace HC := Lib.hid (HC.out.push hb)
         clear hb
         go_wp2_with fail
         refine (num_14 2 _).mono ?_
         rintro e _ ⟨rfl, rfl⟩
         have kQN0 := cell_of_one (boxStays HQN.out (HC.out.to r9 (by simp)))
         go_wp2_with fail
         refine (pm_MLenS .nil _ trivial).mono ?_
         rintro e r10 ⟨rfl, hb⟩
         clear kQN0
         replace HC := Lib.hid (HC.out.push hb)
         clear hb
         rw [show ((sz (Tr.nil : Tr ByteArray) : Nat) : Int) = 0 from rfl]
         have FA := Lib.hid (HAt.out.below (HC.out.to wr (by simp)) rfl)
         have FM := Lib.hid (boxStays HM.out (HC.out.to wr (by simp)))
         have FC := Lib.hid (HCL.out.below (HC.out.to wr (by simp)) rfl)
         have FK := Lib.hid (HKX.out.trans (KeepX.ofBelow (HC.out.to wr (by simp))))
         go_wp2_with fail
         go_roundw
         case rel => exact ⟨k + 1, nL, L, q, tr, an, cn, by omega, by omega, by go_num, rfl, HLQ, HNL, Lib.hid (by have := HNB.out; omega), HNC, FC, HR, FA, FM, FK⟩
         case measure => simp [intOf]; omega
       case true =>
         cases bv
         case false =>
           refine relG_start (slots := [63, 64, 65, 66, 67, 68, 69, 70, 71, 72, 73, 74, 62, 75, 76, 13, 14]) (so := [16]) (by kernel_rfl) (by kernel_rfl) (by rfl) ?_
           refine relG_pure (i := 0) (o := ⟨some 63, _, _, _, _, _⟩) (v := ?v31) [] [7] rfl rfl (by kernel_rfl) (by kernel_rfl) (fun t w1 hB hf hbf => ?y31) ?n31
           case y31 =>
             simp only [BasF] at hbf
             clear hf
             obtain ⟨⟨b7, k7⟩, _⟩ := hbf
             skip
             have m0 := cell_of_one (boxStays HM.out hB)
             refine Or.inl ⟨wanted_none rfl, ?_⟩
             rintro _ rfl
             go_simp <;> with_reducible rfl
           refine relG_pure (i := 1) (o := ⟨some 64, _, _, _, _, _⟩) (v := ?v32) [] [1] rfl rfl (by kernel_rfl) (by kernel_rfl) (fun t w1 hB hf hbf => ?y32) ?n32
           case y32 =>
             simp only [BasF] at hbf
             clear hf
             obtain ⟨⟨b1, k1⟩, _⟩ := hbf
             skip
             refine Or.inl ⟨wanted_none rfl, ?_⟩
             rintro _ rfl
             go_simp <;> with_reducible rfl
           refine relG_pure (i := 2) (o := ⟨some 65, _, _, _, _, _⟩) (v := ?v33) [] [12] rfl rfl (by kernel_rfl) (by kernel_rfl) (fun t w1 hB hf hbf => ?y33) ?n33
           case y33 =>
             simp only [BasF] at hbf
             clear hf
             obtain ⟨⟨b12, k12⟩, _⟩ := hbf
             skip
             refine Or.inl ⟨wanted_none rfl, ?_⟩
             rintro _ rfl
             go_simp <;> with_reducible rfl
           refine relG_pure (i := 3) (o := ⟨some 66, _, _, _, _, _⟩) (v := ?v34) [(1, 64, 1), (2, 65, 0)] [] rfl rfl (by kernel_rfl) (by kernel_rfl) (fun t w1 hB hf hbf => ?y34) ?n34
           case y34 =>
             simp only [DepF, List.getD_cons_zero, List.getD_cons_succ] at hf
             obtain ⟨⟨_, ⟨e64, i64⟩, rfl⟩, ⟨_, ⟨e65, i65⟩, rfl⟩, _⟩ := hf
             clear hbf
             skip
             have hlti := HLT.out
             refine Or.inl ⟨wanted_none rfl, ?_⟩
             rintro _ rfl
             go_simp <;> with_reducible rfl
           refine relG_pure (i := 4) (o := ⟨some 67, _, _, _, _, _⟩) (v := ?v35) [(3, 66, 0)] [] rfl rfl (by kernel_rfl) (by kernel_rfl) (fun t w1 hB hf hbf => ?y35) ?n35
           case y35 =>
             simp only [DepF, List.getD_cons_zero] at hf
             obtain ⟨⟨_, ⟨e66, i66⟩, rfl⟩, _⟩ := hf
             clear hbf
             skip
             refine Or.inl ⟨wanted_none rfl, ?_⟩
             rintro _ rfl
             go_simp <;> with_reducible rfl
           refine relG_pure (i := 5) (o := ⟨some 68, _, _, _, _, _⟩) (v := ?v36) [(4, 67, 0)] [] rfl rfl (by kernel_rfl) (by kernel_rfl) (fun t w1 hB hf hbf => ?y36) ?n36
           case y36 =>
             simp only [DepF, List.getD_cons_zero] at hf
             obtain ⟨⟨_, ⟨e67, i67⟩, rfl⟩, _⟩ := hf
             clear hbf
             skip
             obtain ⟨p0, p1, p2, p3, p4, p5⟩ := CA.out.below hB
             refine Or.inl ⟨wanted_none rfl, ?_⟩
             rintro _ rfl
             go_simp <;> with_reducible rfl
           refine relG_pure (i := 6) (o := ⟨some 69, _, _, _, _, _⟩) (v := ?v37) [] [1] rfl rfl (by kernel_rfl) (by kernel_rfl) (fun t w1 hB hf hbf => ?y37) ?n37
           case y37 =>
             simp only [BasF] at hbf
             clear hf
             obtain ⟨⟨b1, k1⟩, _⟩ := hbf
             skip
             refine Or.inl ⟨wanted_none rfl, ?_⟩
             rintro _ rfl
             go_simp <;> with_reducible rfl
           refine relG_pure (i := 7) (o := ⟨some 70, _, _, _, _, _⟩) (v := ?v38) [] [12] rfl rfl (by kernel_rfl) (by kernel_rfl) (fun t w1 hB hf hbf => ?y38) ?n38
           case y38 =>
             simp only [BasF] at hbf
             clear hf
             obtain ⟨⟨b12, k12⟩, _⟩ := hbf
             skip
             refine Or.inl ⟨wanted_none rfl, ?_⟩
             rintro _ rfl
             go_simp <;> with_reducible rfl
           refine relG_pure (i := 8) (o := ⟨some 71, _, _, _, _, _⟩) (v := ?v39) [(6, 69, 1), (7, 70, 0)] [] rfl rfl (by kernel_rfl) (by kernel_rfl) (fun t w1 hB hf hbf => ?y39) ?n39
           case y39 =>
             simp only [DepF, List.getD_cons_zero, List.getD_cons_succ] at hf
             obtain ⟨⟨_, ⟨e69, i69⟩, rfl⟩, ⟨_, ⟨e70, i70⟩, rfl⟩, _⟩ := hf
             clear hbf
             skip
             have hlti := HLT.out
             refine Or.inl ⟨wanted_none rfl, ?_⟩
             rintro _ rfl
             go_simp <;> with_reducible rfl
           refine relG_pure (i := 9) (o := ⟨some 72, _, _, _, _, _⟩) (v := ?v40) [(8, 71, 0)] [] rfl rfl (by kernel_rfl) (by kernel_rfl) (fun t w1 hB hf hbf => ?y40) ?n40
           case y40 =>
             simp only [DepF, List.getD_cons_zero] at hf
             obtain ⟨⟨_, ⟨e71, i71⟩, rfl⟩, _⟩ := hf
             clear hbf
             skip
             refine Or.inl ⟨wanted_none rfl, ?_⟩
             rintro _ rfl
             go_simp <;> with_reducible rfl
           refine relG_pure (i := 10) (o := ⟨some 73, _, _, _, _, _⟩) (v := ?v41) [(9, 72, 0)] [] rfl rfl (by kernel_rfl) (by kernel_rfl) (fun t w1 hB hf hbf => ?y41) ?n41
           case y41 =>
             simp only [DepF, List.getD_cons_zero] at hf
             obtain ⟨⟨_, ⟨e72, i72⟩, rfl⟩, _⟩ := hf
             clear hbf
             skip
             obtain ⟨p0, p1, p2, p3, p4, p5⟩ := CA.out.below hB
             refine Or.inl ⟨wanted_none rfl, ?_⟩
             rintro _ rfl
             go_simp <;> with_reducible rfl
           refine relG_call (i := 11) (o := ⟨some 74, _, _, _, _, _⟩) ((fun v w' => v = .tuple #[.agg #[.pointer none], .int .i64 2])) [(0, 63, 10), (5, 68, 5), (10, 73, 0)] [] rfl rfl (by kernel_rfl) (by kernel_rfl) ((fun v w' w'' h hb => h)) ?_ ?_
           · intro t w1 hB hf hbf K hK
             simp only [DepF, List.getD_cons_zero, List.getD_cons_succ] at hf
             obtain ⟨⟨_, ⟨e63, i63⟩, rfl⟩, ⟨_, ⟨e68, i68⟩, rfl⟩, ⟨_, ⟨e73, i73⟩, rfl⟩, _⟩ := hf
             clear hbf
             skip
             refine ⟨wanted_none rfl, ?_⟩
             go_simp
             refine (APP.out w1 hB).mono ?_
             rintro e w2 ⟨m, ce, rfl, hm, hb, hP⟩
             exact hK.out _ w2 ((by rcases hP with ⟨h, _⟩ | ⟨_, h1, h2⟩; cases h; rw [h1, h2]; rfl)) hb
           refine relG_pure (i := 12) (o := ⟨some 62, _, _, _, _, _⟩) (v := ?v42) [(11, 74, 0)] [] rfl rfl (by kernel_rfl) (by kernel_rfl) (fun t w1 hB hf hbf => ?y42) ?n42
           case y42 =>
             simp only [DepF, List.getD_cons_zero] at hf
             obtain ⟨⟨_, ⟨e74, i74⟩, rfl⟩, _⟩ := hf
             clear hbf
             skip
             refine Or.inl ⟨wanted_none rfl, ?_⟩
             rintro _ rfl
             go_simp <;> with_reducible rfl
           refine relG_pure (i := 13) (o := ⟨some 75, _, _, _, _, _⟩) (v := ?v43) [(12, 62, 0)] [] rfl rfl (by kernel_rfl) (by kernel_rfl) (fun t w1 hB hf hbf => ?y43) ?n43
           case y43 =>
             simp only [DepF, List.getD_cons_zero] at hf
             obtain ⟨⟨_, ⟨e62, i62⟩, rfl⟩, _⟩ := hf
             clear hbf
             skip
             refine Or.inl ⟨wanted_none rfl, ?_⟩
             rintro _ rfl
             go_simp <;> with_reducible rfl
           refine relG_pure (i := 14) (o := ⟨some 76, _, _, _, _, _⟩) (v := ?v44) [(12, 62, 1)] [] rfl rfl (by kernel_rfl) (by kernel_rfl) (fun t w1 hB hf hbf => ?y44) ?n44
           case y44 =>
             simp only [DepF, List.getD_cons_zero, List.getD_cons_succ] at hf
             obtain ⟨⟨_, ⟨e62, i62⟩, rfl⟩, _⟩ := hf
             clear hbf
             skip
             refine Or.inl ⟨wanted_none rfl, ?_⟩
             rintro _ rfl
             go_simp <;> with_reducible rfl
           refine relG_call (i := 15) (o := ⟨some 13, _, _, _, _, _⟩) ((fun v w' => ∃ b, v = .pointer (some ⟨b, 0, none⟩) ∧ wr.heap.size ≤ b ∧ w'.heap[b]? = some (.cells #[.pointer none] 27 (0, 0)))) [] [] rfl rfl (by kernel_rfl) (by kernel_rfl) ((fun v w' w'' h hb => by obtain ⟨b, e1, e2, e3⟩ := h; exact ⟨b, e1, e2, boxStays e3 hb⟩)) ?_ ?_
           · intro t w1 hB hf hbf K hK
             clear hf
             clear hbf
             skip
             refine ⟨wanted_none rfl, ?_⟩
             go_simp
             exact hK.out _ _ (⟨_, rfl, hB.size, heap_alloc_new _ _⟩) (below_new _ _)
           refine relG_skip 16 rfl (by rfl) ?_ (by kernel_rfl)
           refine relG_pure (i := 17) (o := ⟨some 14, _, _, _, _, _⟩) (v := ?v45) [(14, 76, 2)] [] rfl rfl (by kernel_rfl) (by kernel_rfl) (fun t w1 hB hf hbf => ?y45) ?n45
           case y45 =>
             simp only [DepF, List.getD_cons_zero, List.getD_cons_succ] at hf
             obtain ⟨⟨_, ⟨e76, i76⟩, rfl⟩, _⟩ := hf
             clear hbf
             skip
             refine Or.inl ⟨wanted_none rfl, ?_⟩
             rintro _ rfl
             go_simp <;> with_reducible rfl
           refine relG_own 16 13 15 75 13 [(0, 63, 17), (1, 64, 16), (2, 65, 15), (3, 66, 14), (4, 67, 13), (5, 68, 12), (6, 69, 11), (7, 70, 10), (8, 71, 9), (9, 72, 8), (10, 73, 7), (11, 74, 6), (12, 62, 5), (13, 75, 4), (14, 76, 3), (15, 13, 2), (17, 14, 0)] [(0, 63, 17), (1, 64, 16), (2, 65, 15), (3, 66, 14), (4, 67, 13), (5, 68, 12), (6, 69, 11), (7, 70, 10), (8, 71, 9), (9, 72, 8), (10, 73, 7), (11, 74, 6), (12, 62, 5), (13, 75, 4), (15, 13, 2)] (by kernel_rfl) rfl (by kernel_rfl) (by kernel_rfl) (by kernel_rfl) (by kernel_rfl) ?_ (fun f wE hB hf => ?_)
           · intro f w1 hB hf K hK
             simp only [FinF, List.getD_cons_zero, List.getD_cons_succ] at hf
             obtain ⟨⟨_, e63, rfl⟩, ⟨_, e64, rfl⟩, ⟨_, e65, rfl⟩, ⟨_, e66, rfl⟩, ⟨_, e67, rfl⟩, ⟨_, e68, rfl⟩, ⟨_, e69, rfl⟩, ⟨_, e70, rfl⟩, ⟨_, e71, rfl⟩, ⟨_, e72, rfl⟩, ⟨_, e73, rfl⟩, ⟨_, e74, rfl⟩, ⟨_, e62, rfl⟩, ⟨_, e75, rfl⟩, ⟨_, e13, ⟨zN, rfl, hbb, hbr⟩⟩, _⟩ := hf
             skip
             refine sto_own (i := 16) 27 13 75 zN (#[.pointer none]) _ _ rfl rfl rfl rfl (by rfl) (by rfl) e13 (by rfl) (by rfl) e75 (hbr) (by kernel_rfl) rfl (mp_one _) hK
           simp only [FinF, List.getD_cons_zero, List.getD_cons_succ] at hf
           obtain ⟨⟨_, e63, rfl⟩, ⟨_, e64, rfl⟩, ⟨_, e65, rfl⟩, ⟨_, e66, rfl⟩, ⟨_, e67, rfl⟩, ⟨_, e68, rfl⟩, ⟨_, e69, rfl⟩, ⟨_, e70, rfl⟩, ⟨_, e71, rfl⟩, ⟨_, e72, rfl⟩, ⟨_, e73, rfl⟩, ⟨_, e74, rfl⟩, ⟨_, e62, rfl⟩, ⟨_, e75, rfl⟩, ⟨_, e76, rfl⟩, ⟨_, e13, ⟨zN, rfl, hbb, hbr⟩⟩, ⟨_, e14, rfl⟩, _⟩ := hf
           simp only [blkOf, Value.cells, regT, List.foldl_cons, List.foldl_nil, List.setIfInBounds_toArray, List.set_cons_zero, List.set_cons_succ, e63, e64, e65, e66, e67, e68, e69, e70, e71, e72, e73, e74, e62, e75, e76, e13, e14]
           clear e63 e64 e65 e66 e67 e68 e69 e70 e71 e72 e73 e74 e62 e75 e76 e13 e14
           rw [setRow_one hbr]
           have hN := Boxed.set (t := 27) (.pointer none) hbr
           have hb8 := hB.setCell (p := ⟨zN, 0, none⟩) hbb (.pointer none)
           have QD9 := Lib.hid hb8
           have QN9 := Lib.hid hN
           clear hb8 hB hbb hbr hN
           generalize wE.setCell ⟨zN, 0, none⟩ (.pointer none) = r9 at *
           have hb := QD9.out
           have HQN : Hid (r9.heap[zN]? = some (.cells #[.pointer none] 27 (0, 0))) := Lib.hid QN9.out
           replace HC := Lib.hid (HC.out.push hb)
           clear hb
           have CA9 := Lib.hid (CA.out.below QD9.out)
           have CL9 := Lib.hid (HCL.out.below QD9.out rfl)
           go_upto_region 14 with (fail)
           refine relG_start (slots := [77, 78, 79, 80, 81, 82, 83, 84, 85, 86, 87, 88, 89, 90, 91, 92, 93, 94, 95, 96, 97, 98]) (so := []) (by kernel_rfl) (by kernel_rfl) (by rfl) ?_
           refine relG_pure (i := 0) (o := ⟨some 77, _, _, _, _, _⟩) (v := ?v46) [] [1] rfl rfl (by kernel_rfl) (by kernel_rfl) (fun t w1 hB hf hbf => ?y46) ?n46
           case y46 =>
             simp only [BasF] at hbf
             clear hf
             obtain ⟨⟨b1, k1⟩, _⟩ := hbf
             skip
             refine Or.inl ⟨wanted_none rfl, ?_⟩
             rintro _ rfl
             go_simp <;> with_reducible rfl
           refine relG_pure (i := 1) (o := ⟨some 78, _, _, _, _, _⟩) (v := ?v47) [] [12] rfl rfl (by kernel_rfl) (by kernel_rfl) (fun t w1 hB hf hbf => ?y47) ?n47
           case y47 =>
             simp only [BasF] at hbf
             clear hf
             obtain ⟨⟨b12, k12⟩, _⟩ := hbf
             skip
             refine Or.inl ⟨wanted_none rfl, ?_⟩
             rintro _ rfl
             go_simp <;> with_reducible rfl
           refine relG_pure (i := 2) (o := ⟨some 79, _, _, _, _, _⟩) (v := ?v48) [(0, 77, 1), (1, 78, 0)] [] rfl rfl (by kernel_rfl) (by kernel_rfl) (fun t w1 hB hf hbf => ?y48) ?n48
           case y48 =>
             simp only [DepF, List.getD_cons_zero, List.getD_cons_succ] at hf
             obtain ⟨⟨_, ⟨e77, i77⟩, rfl⟩, ⟨_, ⟨e78, i78⟩, rfl⟩, _⟩ := hf
             clear hbf
             skip
             have hlti := HLT.out
             refine Or.inl ⟨wanted_none rfl, ?_⟩
             rintro _ rfl
             go_simp <;> with_reducible rfl
           refine relG_pure (i := 3) (o := ⟨some 80, _, _, _, _, _⟩) (v := ?v49) [(2, 79, 0)] [] rfl rfl (by kernel_rfl) (by kernel_rfl) (fun t w1 hB hf hbf => ?y49) ?n49
           case y49 =>
             simp only [DepF, List.getD_cons_zero] at hf
             obtain ⟨⟨_, ⟨e79, i79⟩, rfl⟩, _⟩ := hf
             clear hbf
             skip
             refine Or.inl ⟨wanted_none rfl, ?_⟩
             rintro _ rfl
             go_simp <;> with_reducible rfl
           refine relG_pure (i := 4) (o := ⟨some 81, _, _, _, _, _⟩) (v := ?v50) [(3, 80, 0)] [] rfl rfl (by kernel_rfl) (by kernel_rfl) (fun t w1 hB hf hbf => ?y50) ?n50
           case y50 =>
             simp only [DepF, List.getD_cons_zero] at hf
             obtain ⟨⟨_, ⟨e80, i80⟩, rfl⟩, _⟩ := hf
             clear hbf
             skip
             obtain ⟨p0, p1, p2, p3, p4, p5⟩ := CA9.out.below hB
             refine Or.inl ⟨wanted_none rfl, ?_⟩
             rintro _ rfl
             go_simp <;> with_reducible rfl
           refine relG_pure (i := 5) (o := ⟨some 82, _, _, _, _, _⟩) (v := ?v51) [] [1] rfl rfl (by kernel_rfl) (by kernel_rfl) (fun t w1 hB hf hbf => ?y51) ?n51
           case y51 =>
             simp only [BasF] at hbf
             clear hf
             obtain ⟨⟨b1, k1⟩, _⟩ := hbf
             skip
             refine Or.inl ⟨wanted_none rfl, ?_⟩
             rintro _ rfl
             go_simp <;> with_reducible rfl
           refine relG_pure (i := 6) (o := ⟨some 83, _, _, _, _, _⟩) (v := ?v52) [] [12] rfl rfl (by kernel_rfl) (by kernel_rfl) (fun t w1 hB hf hbf => ?y52) ?n52
           case y52 =>
             simp only [BasF] at hbf
             clear hf
             obtain ⟨⟨b12, k12⟩, _⟩ := hbf
             skip
             refine Or.inl ⟨wanted_none rfl, ?_⟩
             rintro _ rfl
             go_simp <;> with_reducible rfl
           refine relG_pure (i := 7) (o := ⟨some 84, _, _, _, _, _⟩) (v := ?v53) [(5, 82, 1), (6, 83, 0)] [] rfl rfl (by kernel_rfl) (by kernel_rfl) (fun t w1 hB hf hbf => ?y53) ?n53
           case y53 =>
             simp only [DepF, List.getD_cons_zero, List.getD_cons_succ] at hf
             obtain ⟨⟨_, ⟨e82, i82⟩, rfl⟩, ⟨_, ⟨e83, i83⟩, rfl⟩, _⟩ := hf
             clear hbf
             skip
             have hlti := HLT.out
             refine Or.inl ⟨wanted_none rfl, ?_⟩
             rintro _ rfl
             go_simp <;> with_reducible rfl
           refine relG_pure (i := 8) (o := ⟨some 85, _, _, _, _, _⟩) (v := ?v54) [(7, 84, 0)] [] rfl rfl (by kernel_rfl) (by kernel_rfl) (fun t w1 hB hf hbf => ?y54) ?n54
           case y54 =>
             simp only [DepF, List.getD_cons_zero] at hf
             obtain ⟨⟨_, ⟨e84, i84⟩, rfl⟩, _⟩ := hf
             clear hbf
             skip
             refine Or.inl ⟨wanted_none rfl, ?_⟩
             rintro _ rfl
             go_simp <;> with_reducible rfl
           refine relG_pure (i := 9) (o := ⟨some 86, _, _, _, _, _⟩) (v := ?v55) [(8, 85, 0)] [] rfl rfl (by kernel_rfl) (by kernel_rfl) (fun t w1 hB hf hbf => ?y55) ?n55
           case y55 =>
             simp only [DepF, List.getD_cons_zero] at hf
             obtain ⟨⟨_, ⟨e85, i85⟩, rfl⟩, _⟩ := hf
             clear hbf
             skip
             obtain ⟨p0, p1, p2, p3, p4, p5⟩ := CA9.out.below hB
             refine Or.inl ⟨wanted_none rfl, ?_⟩
             rintro _ rfl
             go_simp <;> with_reducible rfl
           refine relG_call (i := 10) (o := ⟨some 87, _, _, _, _, _⟩) ((fun v _ => v = .bool true)) [(4, 81, 5), (9, 86, 0)] [] rfl rfl (by kernel_rfl) (by kernel_rfl) ((fun _ _ _ h _ => h)) ?_ ?_
           · intro t w1 hB hf hbf K hK
             simp only [DepF, List.getD_cons_zero, List.getD_cons_succ] at hf
             obtain ⟨⟨_, ⟨e81, i81⟩, rfl⟩, ⟨_, ⟨e86, i86⟩, rfl⟩, _⟩ := hf
             clear hbf
             skip
             refine ⟨wanted_none rfl, ?_⟩
             go_simp
             refine (FIT.out w1).mono ?_
             rintro e w2 ⟨rfl, hb⟩
             exact hK.out _ w2 (rfl) hb
           refine relG_pure (i := 11) (o := ⟨some 88, _, _, _, _, _⟩) (v := ?v56) [(10, 87, 0)] [] rfl rfl (by kernel_rfl) (by kernel_rfl) (fun t w1 hB hf hbf => ?y56) ?n56
           case y56 =>
             simp only [DepF, List.getD_cons_zero] at hf
             obtain ⟨⟨_, ⟨e87, i87⟩, rfl⟩, _⟩ := hf
             clear hbf
             skip
             refine Or.inl ⟨wanted_none rfl, ?_⟩
             rintro _ rfl
             go_simp <;> with_reducible rfl
           refine relG_pure (i := 12) (o := ⟨some 89, _, _, _, _, _⟩) (v := ?v57) [(11, 88, 0)] [] rfl rfl (by kernel_rfl) (by kernel_rfl) (fun t w1 hB hf hbf => ?y57) ?n57
           case y57 =>
             simp only [DepF, List.getD_cons_zero] at hf
             obtain ⟨⟨_, ⟨e88, i88⟩, rfl⟩, _⟩ := hf
             clear hbf
             skip
             refine Or.inl ⟨wanted_none rfl, ?_⟩
             rintro _ rfl
             go_simp <;> with_reducible rfl
           refine relG_pure (i := 13) (o := ⟨some 90, _, _, _, _, _⟩) (v := ?v58) [(12, 89, 0)] [11] rfl rfl (by kernel_rfl) (by kernel_rfl) (fun t w1 hB hf hbf => ?y58) ?n58
           case y58 =>
             simp only [DepF, List.getD_cons_zero] at hf
             simp only [BasF] at hbf
             obtain ⟨⟨_, ⟨e89, i89⟩, rfl⟩, _⟩ := hf
             obtain ⟨⟨b11, k11⟩, _⟩ := hbf
             skip
             refine Or.inl ⟨(by have hg := getD_some i89; simp [Region.wanted, yielded, hg]), ?_⟩
             rintro _ rfl
             go_simp <;> with_reducible rfl
           refine relG_pure (i := 14) (o := ⟨some 91, _, _, _, _, _⟩) (v := ?v59) [(12, 89, 1)] [1] rfl rfl (by kernel_rfl) (by kernel_rfl) (fun t w1 hB hf hbf => ?y59) ?n59
           case y59 =>
             simp only [DepF, List.getD_cons_zero, List.getD_cons_succ] at hf
             simp only [BasF] at hbf
             obtain ⟨⟨_, ⟨e89, i89⟩, rfl⟩, _⟩ := hf
             obtain ⟨⟨b1, k1⟩, _⟩ := hbf
             skip
             refine Or.inl ⟨(by have hg := getD_some i89; simp [Region.wanted, yielded, hg]), ?_⟩
             rintro _ rfl
             go_simp <;> with_reducible rfl
           refine relG_pure (i := 15) (o := ⟨some 92, _, _, _, _, _⟩) (v := ?v60) [(12, 89, 2)] [12] rfl rfl (by kernel_rfl) (by kernel_rfl) (fun t w1 hB hf hbf => ?y60) ?n60
           case y60 =>
             simp only [DepF, List.getD_cons_zero, List.getD_cons_succ] at hf
             simp only [BasF] at hbf
             obtain ⟨⟨_, ⟨e89, i89⟩, rfl⟩, _⟩ := hf
             obtain ⟨⟨b12, k12⟩, _⟩ := hbf
             skip
             refine Or.inl ⟨(by have hg := getD_some i89; simp [Region.wanted, yielded, hg]), ?_⟩
             rintro _ rfl
             go_simp <;> with_reducible rfl
           refine relG_pure (i := 16) (o := ⟨some 93, _, _, _, _, _⟩) (v := ?v61) [(14, 91, 1), (15, 92, 0), (12, 89, 3)] [] rfl rfl (by kernel_rfl) (by kernel_rfl) (fun t w1 hB hf hbf => ?y61) ?n61
           case y61 =>
             simp only [DepF, List.getD_cons_zero, List.getD_cons_succ] at hf
             obtain ⟨⟨_, ⟨e91, i91⟩, rfl⟩, ⟨_, ⟨e92, i92⟩, rfl⟩, ⟨_, ⟨e89, i89⟩, rfl⟩, _⟩ := hf
             clear hbf
             skip
             have hlti := HLT.out
             refine Or.inl ⟨(by have hg := getD_some i89; simp [Region.wanted, yielded, hg]), ?_⟩
             rintro _ rfl
             go_simp <;> with_reducible rfl
           refine relG_pure (i := 17) (o := ⟨some 94, _, _, _, _, _⟩) (v := ?v62) [(16, 93, 0), (12, 89, 4)] [] rfl rfl (by kernel_rfl) (by kernel_rfl) (fun t w1 hB hf hbf => ?y62) ?n62
           case y62 =>
             simp only [DepF, List.getD_cons_zero, List.getD_cons_succ] at hf
             obtain ⟨⟨_, ⟨e93, i93⟩, rfl⟩, ⟨_, ⟨e89, i89⟩, rfl⟩, _⟩ := hf
             clear hbf
             skip
             refine Or.inl ⟨(by have hg := getD_some i89; simp [Region.wanted, yielded, hg]), ?_⟩
             rintro _ rfl
             go_simp <;> with_reducible rfl
           refine relG_pure (i := 18) (o := ⟨some 95, _, _, _, _, _⟩) (v := ?v63) [(17, 94, 0), (12, 89, 5)] [] rfl rfl (by kernel_rfl) (by kernel_rfl) (fun t w1 hB hf hbf => ?y63) ?n63
           case y63 =>
             simp only [DepF, List.getD_cons_zero, List.getD_cons_succ] at hf
             obtain ⟨⟨_, ⟨e94, i94⟩, rfl⟩, ⟨_, ⟨e89, i89⟩, rfl⟩, _⟩ := hf
             clear hbf
             skip
             obtain ⟨p0, p1, p2, p3, p4, p5⟩ := CA9.out.below hB
             refine Or.inl ⟨(by have hg := getD_some i89; simp [Region.wanted, yielded, hg]), ?_⟩
             rintro _ rfl
             go_simp <;> with_reducible rfl
           refine relG_call (i := 19) (o := ⟨some 96, _, _, _, _, _⟩) ((fun v _ => v = .bool false)) [(13, 90, 5), (18, 95, 0), (12, 89, 6)] [] rfl rfl (by kernel_rfl) (by kernel_rfl) ((fun _ _ _ h _ => h)) ?_ ?_
           · intro t w1 hB hf hbf K hK
             simp only [DepF, List.getD_cons_zero, List.getD_cons_succ] at hf
             obtain ⟨⟨_, ⟨e90, i90⟩, rfl⟩, ⟨_, ⟨e95, i95⟩, rfl⟩, ⟨_, ⟨e89, i89⟩, rfl⟩, _⟩ := hf
             clear hbf
             skip
             refine ⟨(by have hg := getD_some i89; simp [Region.wanted, yielded, hg]), ?_⟩
             go_simp
             refine (BEH.out w1 (CL9.out.below hB rfl)).mono ?_
             rintro e w2 ⟨rfl, hb⟩
             exact hK.out _ w2 (rfl) hb
           refine relG_pure (i := 20) (o := ⟨some 97, _, _, _, _, _⟩) (v := ?v64) [(19, 96, 0), (12, 89, 7)] [] rfl rfl (by kernel_rfl) (by kernel_rfl) (fun t w1 hB hf hbf => ?y64) ?n64
           case y64 =>
             simp only [DepF, List.getD_cons_zero, List.getD_cons_succ] at hf
             obtain ⟨⟨_, ⟨e96, i96⟩, rfl⟩, ⟨_, ⟨e89, i89⟩, rfl⟩, _⟩ := hf
             clear hbf
             skip
             refine Or.inl ⟨(by have hg := getD_some i89; simp [Region.wanted, yielded, hg]), ?_⟩
             rintro _ rfl
             go_simp <;> with_reducible rfl
           refine relG_pure (i := 21) (o := ⟨some 98, _, _, _, _, _⟩) (v := ?v65) [(12, 89, 8), (20, 97, 0)] [] rfl rfl (by kernel_rfl) (by kernel_rfl) (fun t w1 hB hf hbf => ?y65) ?n65
           case y65 =>
             simp only [DepF, List.getD_cons_zero, List.getD_cons_succ] at hf
             obtain ⟨⟨_, ⟨e89, i89⟩, rfl⟩, ⟨_, ⟨e97, i97⟩, rfl⟩, _⟩ := hf
             clear hbf
             skip
             refine Or.inl ⟨wanted_none rfl, ?_⟩
             rintro _ rfl
             go_simp <;> with_reducible rfl
           refine relG_done [(0, 77, 21), (1, 78, 20), (2, 79, 19), (3, 80, 18), (4, 81, 17), (5, 82, 16), (6, 83, 15), (7, 84, 14), (8, 85, 13), (9, 86, 12), (10, 87, 11), (11, 88, 10), (12, 89, 9), (13, 90, 8), (14, 91, 7), (15, 92, 6), (16, 93, 5), (17, 94, 4), (18, 95, 3), (19, 96, 2), (20, 97, 1), (21, 98, 0)] (by kernel_rfl) rfl (by kernel_rfl) (fun f wE hB hf => ?_)
           simp only [FinF, List.getD_cons_zero, List.getD_cons_succ] at hf
           obtain ⟨⟨_, e77, rfl⟩, ⟨_, e78, rfl⟩, ⟨_, e79, rfl⟩, ⟨_, e80, rfl⟩, ⟨_, e81, rfl⟩, ⟨_, e82, rfl⟩, ⟨_, e83, rfl⟩, ⟨_, e84, rfl⟩, ⟨_, e85, rfl⟩, ⟨_, e86, rfl⟩, ⟨_, e87, rfl⟩, ⟨_, e88, rfl⟩, ⟨_, e89, rfl⟩, ⟨_, e90, rfl⟩, ⟨_, e91, rfl⟩, ⟨_, e92, rfl⟩, ⟨_, e93, rfl⟩, ⟨_, e94, rfl⟩, ⟨_, e95, rfl⟩, ⟨_, e96, rfl⟩, ⟨_, e97, rfl⟩, ⟨_, e98, rfl⟩, _⟩ := hf
           simp only [regT, List.foldl_cons, List.foldl_nil, List.setIfInBounds_toArray, List.set_cons_zero, List.set_cons_succ, e77, e78, e79, e80, e81, e82, e83, e84, e85, e86, e87, e88, e89, e90, e91, e92, e93, e94, e95, e96, e97, e98]
           clear e77 e78 e79 e80 e81 e82 e83 e84 e85 e86 e87 e88 e89 e90 e91 e92 e93 e94 e95 e96 e97 e98
           have hb := hB
           clear hB
           replace HC := Lib.hid (HC.out.push hb)
           clear hb
           go_wp2_with fail
           refine (num_14 2 _).mono ?_
           rintro e _ ⟨rfl, rfl⟩
           have kQN0 := cell_of_one (boxStays HQN.out (HC.out.to r9 (by simp)))
           go_wp2_with fail
           refine (pm_MLenS .nil _ trivial).mono ?_
           rintro e r10 ⟨rfl, hb⟩
           clear kQN0
           replace HC := Lib.hid (HC.out.push hb)
           clear hb
           rw [show ((sz (Tr.nil : Tr ByteArray) : Nat) : Int) = 0 from rfl]
           have FA := Lib.hid (HAt.out.below (HC.out.to wr (by simp)) rfl)
           have FM := Lib.hid (boxStays HM.out (HC.out.to wr (by simp)))
           have FC := Lib.hid (HCL.out.below (HC.out.to wr (by simp)) rfl)
           have FK := Lib.hid (HKX.out.trans (KeepX.ofBelow (HC.out.to wr (by simp))))
           go_wp2_with fail
           go_roundw
           case rel => exact ⟨k + 1, nL, L, q, tr, an, cn, by omega, by omega, by go_num, rfl, HLQ, HNL, Lib.hid (by have := HNB.out; omega), HNC, FC, HR, FA, FM, FK⟩
           case measure => simp [intOf]; omega
         case true =>
           refine relG_start (slots := [63, 64, 65, 66, 67, 68, 69, 70, 71, 72, 73, 74, 62, 75, 76, 13, 14]) (so := [16]) (by kernel_rfl) (by kernel_rfl) (by rfl) ?_
           refine relG_pure (i := 0) (o := ⟨some 63, _, _, _, _, _⟩) (v := ?v66) [] [7] rfl rfl (by kernel_rfl) (by kernel_rfl) (fun t w1 hB hf hbf => ?y66) ?n66
           case y66 =>
             simp only [BasF] at hbf
             clear hf
             obtain ⟨⟨b7, k7⟩, _⟩ := hbf
             skip
             have m0 := cell_of_one (boxStays HM.out hB)
             refine Or.inl ⟨wanted_none rfl, ?_⟩
             rintro _ rfl
             go_simp <;> with_reducible rfl
           refine relG_pure (i := 1) (o := ⟨some 64, _, _, _, _, _⟩) (v := ?v67) [] [1] rfl rfl (by kernel_rfl) (by kernel_rfl) (fun t w1 hB hf hbf => ?y67) ?n67
           case y67 =>
             simp only [BasF] at hbf
             clear hf
             obtain ⟨⟨b1, k1⟩, _⟩ := hbf
             skip
             refine Or.inl ⟨wanted_none rfl, ?_⟩
             rintro _ rfl
             go_simp <;> with_reducible rfl
           refine relG_pure (i := 2) (o := ⟨some 65, _, _, _, _, _⟩) (v := ?v68) [] [12] rfl rfl (by kernel_rfl) (by kernel_rfl) (fun t w1 hB hf hbf => ?y68) ?n68
           case y68 =>
             simp only [BasF] at hbf
             clear hf
             obtain ⟨⟨b12, k12⟩, _⟩ := hbf
             skip
             refine Or.inl ⟨wanted_none rfl, ?_⟩
             rintro _ rfl
             go_simp <;> with_reducible rfl
           refine relG_pure (i := 3) (o := ⟨some 66, _, _, _, _, _⟩) (v := ?v69) [(1, 64, 1), (2, 65, 0)] [] rfl rfl (by kernel_rfl) (by kernel_rfl) (fun t w1 hB hf hbf => ?y69) ?n69
           case y69 =>
             simp only [DepF, List.getD_cons_zero, List.getD_cons_succ] at hf
             obtain ⟨⟨_, ⟨e64, i64⟩, rfl⟩, ⟨_, ⟨e65, i65⟩, rfl⟩, _⟩ := hf
             clear hbf
             skip
             have hlti := HLT.out
             refine Or.inl ⟨wanted_none rfl, ?_⟩
             rintro _ rfl
             go_simp <;> with_reducible rfl
           refine relG_pure (i := 4) (o := ⟨some 67, _, _, _, _, _⟩) (v := ?v70) [(3, 66, 0)] [] rfl rfl (by kernel_rfl) (by kernel_rfl) (fun t w1 hB hf hbf => ?y70) ?n70
           case y70 =>
             simp only [DepF, List.getD_cons_zero] at hf
             obtain ⟨⟨_, ⟨e66, i66⟩, rfl⟩, _⟩ := hf
             clear hbf
             skip
             refine Or.inl ⟨wanted_none rfl, ?_⟩
             rintro _ rfl
             go_simp <;> with_reducible rfl
           refine relG_pure (i := 5) (o := ⟨some 68, _, _, _, _, _⟩) (v := ?v71) [(4, 67, 0)] [] rfl rfl (by kernel_rfl) (by kernel_rfl) (fun t w1 hB hf hbf => ?y71) ?n71
           case y71 =>
             simp only [DepF, List.getD_cons_zero] at hf
             obtain ⟨⟨_, ⟨e67, i67⟩, rfl⟩, _⟩ := hf
             clear hbf
             skip
             obtain ⟨p0, p1, p2, p3, p4, p5⟩ := CA.out.below hB
             refine Or.inl ⟨wanted_none rfl, ?_⟩
             rintro _ rfl
             go_simp <;> with_reducible rfl
           refine relG_pure (i := 6) (o := ⟨some 69, _, _, _, _, _⟩) (v := ?v72) [] [1] rfl rfl (by kernel_rfl) (by kernel_rfl) (fun t w1 hB hf hbf => ?y72) ?n72
           case y72 =>
             simp only [BasF] at hbf
             clear hf
             obtain ⟨⟨b1, k1⟩, _⟩ := hbf
             skip
             refine Or.inl ⟨wanted_none rfl, ?_⟩
             rintro _ rfl
             go_simp <;> with_reducible rfl
           refine relG_pure (i := 7) (o := ⟨some 70, _, _, _, _, _⟩) (v := ?v73) [] [12] rfl rfl (by kernel_rfl) (by kernel_rfl) (fun t w1 hB hf hbf => ?y73) ?n73
           case y73 =>
             simp only [BasF] at hbf
             clear hf
             obtain ⟨⟨b12, k12⟩, _⟩ := hbf
             skip
             refine Or.inl ⟨wanted_none rfl, ?_⟩
             rintro _ rfl
             go_simp <;> with_reducible rfl
           refine relG_pure (i := 8) (o := ⟨some 71, _, _, _, _, _⟩) (v := ?v74) [(6, 69, 1), (7, 70, 0)] [] rfl rfl (by kernel_rfl) (by kernel_rfl) (fun t w1 hB hf hbf => ?y74) ?n74
           case y74 =>
             simp only [DepF, List.getD_cons_zero, List.getD_cons_succ] at hf
             obtain ⟨⟨_, ⟨e69, i69⟩, rfl⟩, ⟨_, ⟨e70, i70⟩, rfl⟩, _⟩ := hf
             clear hbf
             skip
             have hlti := HLT.out
             refine Or.inl ⟨wanted_none rfl, ?_⟩
             rintro _ rfl
             go_simp <;> with_reducible rfl
           refine relG_pure (i := 9) (o := ⟨some 72, _, _, _, _, _⟩) (v := ?v75) [(8, 71, 0)] [] rfl rfl (by kernel_rfl) (by kernel_rfl) (fun t w1 hB hf hbf => ?y75) ?n75
           case y75 =>
             simp only [DepF, List.getD_cons_zero] at hf
             obtain ⟨⟨_, ⟨e71, i71⟩, rfl⟩, _⟩ := hf
             clear hbf
             skip
             refine Or.inl ⟨wanted_none rfl, ?_⟩
             rintro _ rfl
             go_simp <;> with_reducible rfl
           refine relG_pure (i := 10) (o := ⟨some 73, _, _, _, _, _⟩) (v := ?v76) [(9, 72, 0)] [] rfl rfl (by kernel_rfl) (by kernel_rfl) (fun t w1 hB hf hbf => ?y76) ?n76
           case y76 =>
             simp only [DepF, List.getD_cons_zero] at hf
             obtain ⟨⟨_, ⟨e72, i72⟩, rfl⟩, _⟩ := hf
             clear hbf
             skip
             obtain ⟨p0, p1, p2, p3, p4, p5⟩ := CA.out.below hB
             refine Or.inl ⟨wanted_none rfl, ?_⟩
             rintro _ rfl
             go_simp <;> with_reducible rfl
           refine relG_call (i := 11) (o := ⟨some 74, _, _, _, _, _⟩) ((fun v w' => ∃ m : Tr ByteArray, v = .tuple #[.agg #[.pointer (pa m)], .int .i64 0] ∧ AtS w' m ∧ Reg (L ++ [x]) m)) [(0, 63, 10), (5, 68, 5), (10, 73, 0)] [] rfl rfl (by kernel_rfl) (by kernel_rfl) ((fun v w' w'' h hb => by obtain ⟨m, e1, e2, e3⟩ := h; exact ⟨m, e1, e2.below hb rfl, e3⟩)) ?_ ?_
           · intro t w1 hB hf hbf K hK
             simp only [DepF, List.getD_cons_zero, List.getD_cons_succ] at hf
             obtain ⟨⟨_, ⟨e63, i63⟩, rfl⟩, ⟨_, ⟨e68, i68⟩, rfl⟩, ⟨_, ⟨e73, i73⟩, rfl⟩, _⟩ := hf
             clear hbf
             skip
             refine ⟨wanted_none rfl, ?_⟩
             go_simp
             refine (APP.out w1 hB).mono ?_
             rintro e w2 ⟨m, ce, rfl, hm, hb, hP⟩
             exact hK.out _ w2 ((by rcases hP with ⟨_, rfl, h3⟩ | ⟨h, _⟩; exact ⟨m, rfl, hm, h3⟩; cases h)) hb
           refine relG_call (i := 12) (o := ⟨some 62, _, _, _, _, _⟩) ((fun v w' => ∃ m : Tr ByteArray, v = .tuple #[.agg #[.pointer (pa m)], .int .i64 0] ∧ AtS w' m ∧ Reg (L ++ [x]) m)) [(11, 74, 0)] [] rfl rfl (by kernel_rfl) (by kernel_rfl) ((fun v w' w'' h hb => by obtain ⟨m, e1, e2, e3⟩ := h; exact ⟨m, e1, e2.below hb rfl, e3⟩)) ?_ ?_
           · intro t w1 hB hf hbf K hK
             simp only [DepF, List.getD_cons_zero] at hf
             obtain ⟨⟨_, ⟨e74, i74⟩, ⟨m, rfl, hm, hmr⟩⟩, _⟩ := hf
             clear hbf
             skip
             refine ⟨wanted_none rfl, ?_⟩
             go_simp
             exact hK.out _ _ (⟨m, rfl, hm, hmr⟩) (Below.refl _ _)
           refine relG_call (i := 13) (o := ⟨some 75, _, _, _, _, _⟩) ((fun v w' => ∃ m : Tr ByteArray, v = .agg #[.pointer (pa m)] ∧ AtS w' m ∧ Reg (L ++ [x]) m)) [(12, 62, 0)] [] rfl rfl (by kernel_rfl) (by kernel_rfl) ((fun v w' w'' h hb => by obtain ⟨m, e1, e2, e3⟩ := h; exact ⟨m, e1, e2.below hb rfl, e3⟩)) ?_ ?_
           · intro t w1 hB hf hbf K hK
             simp only [DepF, List.getD_cons_zero] at hf
             obtain ⟨⟨_, ⟨e62, i62⟩, ⟨m, rfl, hm, hmr⟩⟩, _⟩ := hf
             clear hbf
             skip
             refine ⟨wanted_none rfl, ?_⟩
             go_simp
             exact hK.out _ _ (⟨m, rfl, hm, hmr⟩) (Below.refl _ _)
           refine relG_pure (i := 14) (o := ⟨some 76, _, _, _, _, _⟩) (v := ?v77) [(12, 62, 1)] [] rfl rfl (by kernel_rfl) (by kernel_rfl) (fun t w1 hB hf hbf => ?y77) ?n77
           case y77 =>
             simp only [DepF, List.getD_cons_zero, List.getD_cons_succ] at hf
             obtain ⟨⟨_, ⟨e62, i62⟩, ⟨m, rfl, hm, hmr⟩⟩, _⟩ := hf
             clear hbf
             skip
             refine Or.inl ⟨wanted_none rfl, ?_⟩
             rintro _ rfl
             go_simp <;> with_reducible rfl
           refine relG_call (i := 15) (o := ⟨some 13, _, _, _, _, _⟩) ((fun v w' => ∃ b, v = .pointer (some ⟨b, 0, none⟩) ∧ wr.heap.size ≤ b ∧ w'.heap[b]? = some (.cells #[.pointer none] 27 (0, 0)))) [] [] rfl rfl (by kernel_rfl) (by kernel_rfl) ((fun v w' w'' h hb => by obtain ⟨b, e1, e2, e3⟩ := h; exact ⟨b, e1, e2, boxStays e3 hb⟩)) ?_ ?_
           · intro t w1 hB hf hbf K hK
             clear hf
             clear hbf
             skip
             refine ⟨wanted_none rfl, ?_⟩
             go_simp
             exact hK.out _ _ (⟨_, rfl, hB.size, heap_alloc_new _ _⟩) (below_new _ _)
           refine relG_skip 16 rfl (by rfl) ?_ (by kernel_rfl)
           refine relG_pure (i := 17) (o := ⟨some 14, _, _, _, _, _⟩) (v := ?v78) [(14, 76, 2)] [] rfl rfl (by kernel_rfl) (by kernel_rfl) (fun t w1 hB hf hbf => ?y78) ?n78
           case y78 =>
             simp only [DepF, List.getD_cons_zero, List.getD_cons_succ] at hf
             obtain ⟨⟨_, ⟨e76, i76⟩, rfl⟩, _⟩ := hf
             clear hbf
             skip
             refine Or.inl ⟨wanted_none rfl, ?_⟩
             rintro _ rfl
             go_simp <;> with_reducible rfl
           refine relG_own 16 13 15 75 13 [(0, 63, 17), (1, 64, 16), (2, 65, 15), (3, 66, 14), (4, 67, 13), (5, 68, 12), (6, 69, 11), (7, 70, 10), (8, 71, 9), (9, 72, 8), (10, 73, 7), (11, 74, 6), (12, 62, 5), (13, 75, 4), (14, 76, 3), (15, 13, 2), (17, 14, 0)] [(0, 63, 17), (1, 64, 16), (2, 65, 15), (3, 66, 14), (4, 67, 13), (5, 68, 12), (6, 69, 11), (7, 70, 10), (8, 71, 9), (9, 72, 8), (10, 73, 7), (11, 74, 6), (12, 62, 5), (13, 75, 4), (15, 13, 2)] (by kernel_rfl) rfl (by kernel_rfl) (by kernel_rfl) (by kernel_rfl) (by kernel_rfl) ?_ (fun f wE hB hf => ?_)
           · intro f w1 hB hf K hK
             simp only [FinF, List.getD_cons_zero, List.getD_cons_succ] at hf
             obtain ⟨⟨_, e63, rfl⟩, ⟨_, e64, rfl⟩, ⟨_, e65, rfl⟩, ⟨_, e66, rfl⟩, ⟨_, e67, rfl⟩, ⟨_, e68, rfl⟩, ⟨_, e69, rfl⟩, ⟨_, e70, rfl⟩, ⟨_, e71, rfl⟩, ⟨_, e72, rfl⟩, ⟨_, e73, rfl⟩, ⟨_, e74, ⟨m, rfl, hm, hmr⟩⟩, ⟨_, e62, ⟨m, rfl, hm, hmr⟩⟩, ⟨_, e75, ⟨nn, rfl, hn, hnr⟩⟩, ⟨_, e13, ⟨zN, rfl, hbb, hbr⟩⟩, _⟩ := hf
             skip
             refine sto_own (i := 16) 27 13 75 zN (#[.pointer (pa nn)]) _ _ rfl rfl rfl rfl (by rfl) (by rfl) e13 (by rfl) (by rfl) e75 (hbr) (by kernel_rfl) rfl (mp_one _) hK
           simp only [FinF, List.getD_cons_zero, List.getD_cons_succ] at hf
           obtain ⟨⟨_, e63, rfl⟩, ⟨_, e64, rfl⟩, ⟨_, e65, rfl⟩, ⟨_, e66, rfl⟩, ⟨_, e67, rfl⟩, ⟨_, e68, rfl⟩, ⟨_, e69, rfl⟩, ⟨_, e70, rfl⟩, ⟨_, e71, rfl⟩, ⟨_, e72, rfl⟩, ⟨_, e73, rfl⟩, ⟨_, e74, ⟨m, rfl, hm, hmr⟩⟩, ⟨_, e62, ⟨m, rfl, hm, hmr⟩⟩, ⟨_, e75, ⟨nn, rfl, hn, hnr⟩⟩, ⟨_, e76, rfl⟩, ⟨_, e13, ⟨zN, rfl, hbb, hbr⟩⟩, ⟨_, e14, rfl⟩, _⟩ := hf
           simp only [blkOf, Value.cells, regT, List.foldl_cons, List.foldl_nil, List.setIfInBounds_toArray, List.set_cons_zero, List.set_cons_succ, e63, e64, e65, e66, e67, e68, e69, e70, e71, e72, e73, e74, e62, e75, e76, e13, e14]
           clear e63 e64 e65 e66 e67 e68 e69 e70 e71 e72 e73 e74 e62 e75 e76 e13 e14
           rw [setRow_one hbr]
           have RN := Lib.hid hnr
           have hn8 := hn.setBox hbr (by decide) 0 (.pointer (pa nn))
           have hN8 := Boxed.set (t := 27) (.pointer (pa nn)) hbr
           have hb8 := hB.setCell (p := ⟨zN, 0, none⟩) hbb (.pointer (pa nn))
           have QA := Lib.hid hn8
           have QB := Lib.hid hN8
           have QC := Lib.hid hb8
           clear hn8 hN8 hb8 hB hn hnr hm hmr hbb hbr
           generalize wE.setCell ⟨zN, 0, none⟩ (.pointer (pa nn)) = r5 at *
           have hb := QC.out
           have HQN : Hid (r5.heap[zN]? = some (.cells #[.pointer (pa nn)] 27 (0, 0))) := Lib.hid QB.out
           replace HC := Lib.hid (HC.out.push hb)
           clear hb
           have CA9 := Lib.hid (CA.out.below QC.out)
           have CL9 := Lib.hid (HCL.out.below QC.out rfl)
           go_upto_region 14 with (fail)
           refine relG_start (slots := [77, 78, 79, 80, 81, 82, 83, 84, 85, 86, 87, 88, 89, 90, 91, 92, 93, 94, 95, 96, 97, 98]) (so := []) (by kernel_rfl) (by kernel_rfl) (by rfl) ?_
           refine relG_pure (i := 0) (o := ⟨some 77, _, _, _, _, _⟩) (v := ?v79) [] [1] rfl rfl (by kernel_rfl) (by kernel_rfl) (fun t w1 hB hf hbf => ?y79) ?n79
           case y79 =>
             simp only [BasF] at hbf
             clear hf
             obtain ⟨⟨b1, k1⟩, _⟩ := hbf
             skip
             refine Or.inl ⟨wanted_none rfl, ?_⟩
             rintro _ rfl
             go_simp <;> with_reducible rfl
           refine relG_pure (i := 1) (o := ⟨some 78, _, _, _, _, _⟩) (v := ?v80) [] [12] rfl rfl (by kernel_rfl) (by kernel_rfl) (fun t w1 hB hf hbf => ?y80) ?n80
           case y80 =>
             simp only [BasF] at hbf
             clear hf
             obtain ⟨⟨b12, k12⟩, _⟩ := hbf
             skip
             refine Or.inl ⟨wanted_none rfl, ?_⟩
             rintro _ rfl
             go_simp <;> with_reducible rfl
           refine relG_pure (i := 2) (o := ⟨some 79, _, _, _, _, _⟩) (v := ?v81) [(0, 77, 1), (1, 78, 0)] [] rfl rfl (by kernel_rfl) (by kernel_rfl) (fun t w1 hB hf hbf => ?y81) ?n81
           case y81 =>
             simp only [DepF, List.getD_cons_zero, List.getD_cons_succ] at hf
             obtain ⟨⟨_, ⟨e77, i77⟩, rfl⟩, ⟨_, ⟨e78, i78⟩, rfl⟩, _⟩ := hf
             clear hbf
             skip
             have hlti := HLT.out
             refine Or.inl ⟨wanted_none rfl, ?_⟩
             rintro _ rfl
             go_simp <;> with_reducible rfl
           refine relG_pure (i := 3) (o := ⟨some 80, _, _, _, _, _⟩) (v := ?v82) [(2, 79, 0)] [] rfl rfl (by kernel_rfl) (by kernel_rfl) (fun t w1 hB hf hbf => ?y82) ?n82
           case y82 =>
             simp only [DepF, List.getD_cons_zero] at hf
             obtain ⟨⟨_, ⟨e79, i79⟩, rfl⟩, _⟩ := hf
             clear hbf
             skip
             refine Or.inl ⟨wanted_none rfl, ?_⟩
             rintro _ rfl
             go_simp <;> with_reducible rfl
           refine relG_pure (i := 4) (o := ⟨some 81, _, _, _, _, _⟩) (v := ?v83) [(3, 80, 0)] [] rfl rfl (by kernel_rfl) (by kernel_rfl) (fun t w1 hB hf hbf => ?y83) ?n83
           case y83 =>
             simp only [DepF, List.getD_cons_zero] at hf
             obtain ⟨⟨_, ⟨e80, i80⟩, rfl⟩, _⟩ := hf
             clear hbf
             skip
             obtain ⟨p0, p1, p2, p3, p4, p5⟩ := CA9.out.below hB
             refine Or.inl ⟨wanted_none rfl, ?_⟩
             rintro _ rfl
             go_simp <;> with_reducible rfl
           refine relG_pure (i := 5) (o := ⟨some 82, _, _, _, _, _⟩) (v := ?v84) [] [1] rfl rfl (by kernel_rfl) (by kernel_rfl) (fun t w1 hB hf hbf => ?y84) ?n84
           case y84 =>
             simp only [BasF] at hbf
             clear hf
             obtain ⟨⟨b1, k1⟩, _⟩ := hbf
             skip
             refine Or.inl ⟨wanted_none rfl, ?_⟩
             rintro _ rfl
             go_simp <;> with_reducible rfl
           refine relG_pure (i := 6) (o := ⟨some 83, _, _, _, _, _⟩) (v := ?v85) [] [12] rfl rfl (by kernel_rfl) (by kernel_rfl) (fun t w1 hB hf hbf => ?y85) ?n85
           case y85 =>
             simp only [BasF] at hbf
             clear hf
             obtain ⟨⟨b12, k12⟩, _⟩ := hbf
             skip
             refine Or.inl ⟨wanted_none rfl, ?_⟩
             rintro _ rfl
             go_simp <;> with_reducible rfl
           refine relG_pure (i := 7) (o := ⟨some 84, _, _, _, _, _⟩) (v := ?v86) [(5, 82, 1), (6, 83, 0)] [] rfl rfl (by kernel_rfl) (by kernel_rfl) (fun t w1 hB hf hbf => ?y86) ?n86
           case y86 =>
             simp only [DepF, List.getD_cons_zero, List.getD_cons_succ] at hf
             obtain ⟨⟨_, ⟨e82, i82⟩, rfl⟩, ⟨_, ⟨e83, i83⟩, rfl⟩, _⟩ := hf
             clear hbf
             skip
             have hlti := HLT.out
             refine Or.inl ⟨wanted_none rfl, ?_⟩
             rintro _ rfl
             go_simp <;> with_reducible rfl
           refine relG_pure (i := 8) (o := ⟨some 85, _, _, _, _, _⟩) (v := ?v87) [(7, 84, 0)] [] rfl rfl (by kernel_rfl) (by kernel_rfl) (fun t w1 hB hf hbf => ?y87) ?n87
           case y87 =>
             simp only [DepF, List.getD_cons_zero] at hf
             obtain ⟨⟨_, ⟨e84, i84⟩, rfl⟩, _⟩ := hf
             clear hbf
             skip
             refine Or.inl ⟨wanted_none rfl, ?_⟩
             rintro _ rfl
             go_simp <;> with_reducible rfl
           refine relG_pure (i := 9) (o := ⟨some 86, _, _, _, _, _⟩) (v := ?v88) [(8, 85, 0)] [] rfl rfl (by kernel_rfl) (by kernel_rfl) (fun t w1 hB hf hbf => ?y88) ?n88
           case y88 =>
             simp only [DepF, List.getD_cons_zero] at hf
             obtain ⟨⟨_, ⟨e85, i85⟩, rfl⟩, _⟩ := hf
             clear hbf
             skip
             obtain ⟨p0, p1, p2, p3, p4, p5⟩ := CA9.out.below hB
             refine Or.inl ⟨wanted_none rfl, ?_⟩
             rintro _ rfl
             go_simp <;> with_reducible rfl
           refine relG_call (i := 10) (o := ⟨some 87, _, _, _, _, _⟩) ((fun v _ => v = .bool true)) [(4, 81, 5), (9, 86, 0)] [] rfl rfl (by kernel_rfl) (by kernel_rfl) ((fun _ _ _ h _ => h)) ?_ ?_
           · intro t w1 hB hf hbf K hK
             simp only [DepF, List.getD_cons_zero, List.getD_cons_succ] at hf
             obtain ⟨⟨_, ⟨e81, i81⟩, rfl⟩, ⟨_, ⟨e86, i86⟩, rfl⟩, _⟩ := hf
             clear hbf
             skip
             refine ⟨wanted_none rfl, ?_⟩
             go_simp
             refine (FIT.out w1).mono ?_
             rintro e w2 ⟨rfl, hb⟩
             exact hK.out _ w2 (rfl) hb
           refine relG_pure (i := 11) (o := ⟨some 88, _, _, _, _, _⟩) (v := ?v89) [(10, 87, 0)] [] rfl rfl (by kernel_rfl) (by kernel_rfl) (fun t w1 hB hf hbf => ?y89) ?n89
           case y89 =>
             simp only [DepF, List.getD_cons_zero] at hf
             obtain ⟨⟨_, ⟨e87, i87⟩, rfl⟩, _⟩ := hf
             clear hbf
             skip
             refine Or.inl ⟨wanted_none rfl, ?_⟩
             rintro _ rfl
             go_simp <;> with_reducible rfl
           refine relG_pure (i := 12) (o := ⟨some 89, _, _, _, _, _⟩) (v := ?v90) [(11, 88, 0)] [] rfl rfl (by kernel_rfl) (by kernel_rfl) (fun t w1 hB hf hbf => ?y90) ?n90
           case y90 =>
             simp only [DepF, List.getD_cons_zero] at hf
             obtain ⟨⟨_, ⟨e88, i88⟩, rfl⟩, _⟩ := hf
             clear hbf
             skip
             refine Or.inl ⟨wanted_none rfl, ?_⟩
             rintro _ rfl
             go_simp <;> with_reducible rfl
           refine relG_pure (i := 13) (o := ⟨some 90, _, _, _, _, _⟩) (v := ?v91) [(12, 89, 0)] [11] rfl rfl (by kernel_rfl) (by kernel_rfl) (fun t w1 hB hf hbf => ?y91) ?n91
           case y91 =>
             simp only [DepF, List.getD_cons_zero] at hf
             simp only [BasF] at hbf
             obtain ⟨⟨_, ⟨e89, i89⟩, rfl⟩, _⟩ := hf
             obtain ⟨⟨b11, k11⟩, _⟩ := hbf
             skip
             refine Or.inl ⟨(by have hg := getD_some i89; simp [Region.wanted, yielded, hg]), ?_⟩
             rintro _ rfl
             go_simp <;> with_reducible rfl
           refine relG_pure (i := 14) (o := ⟨some 91, _, _, _, _, _⟩) (v := ?v92) [(12, 89, 1)] [1] rfl rfl (by kernel_rfl) (by kernel_rfl) (fun t w1 hB hf hbf => ?y92) ?n92
           case y92 =>
             simp only [DepF, List.getD_cons_zero, List.getD_cons_succ] at hf
             simp only [BasF] at hbf
             obtain ⟨⟨_, ⟨e89, i89⟩, rfl⟩, _⟩ := hf
             obtain ⟨⟨b1, k1⟩, _⟩ := hbf
             skip
             refine Or.inl ⟨(by have hg := getD_some i89; simp [Region.wanted, yielded, hg]), ?_⟩
             rintro _ rfl
             go_simp <;> with_reducible rfl
           refine relG_pure (i := 15) (o := ⟨some 92, _, _, _, _, _⟩) (v := ?v93) [(12, 89, 2)] [12] rfl rfl (by kernel_rfl) (by kernel_rfl) (fun t w1 hB hf hbf => ?y93) ?n93
           case y93 =>
             simp only [DepF, List.getD_cons_zero, List.getD_cons_succ] at hf
             simp only [BasF] at hbf
             obtain ⟨⟨_, ⟨e89, i89⟩, rfl⟩, _⟩ := hf
             obtain ⟨⟨b12, k12⟩, _⟩ := hbf
             skip
             refine Or.inl ⟨(by have hg := getD_some i89; simp [Region.wanted, yielded, hg]), ?_⟩
             rintro _ rfl
             go_simp <;> with_reducible rfl
           refine relG_pure (i := 16) (o := ⟨some 93, _, _, _, _, _⟩) (v := ?v94) [(14, 91, 1), (15, 92, 0), (12, 89, 3)] [] rfl rfl (by kernel_rfl) (by kernel_rfl) (fun t w1 hB hf hbf => ?y94) ?n94
           case y94 =>
             simp only [DepF, List.getD_cons_zero, List.getD_cons_succ] at hf
             obtain ⟨⟨_, ⟨e91, i91⟩, rfl⟩, ⟨_, ⟨e92, i92⟩, rfl⟩, ⟨_, ⟨e89, i89⟩, rfl⟩, _⟩ := hf
             clear hbf
             skip
             have hlti := HLT.out
             refine Or.inl ⟨(by have hg := getD_some i89; simp [Region.wanted, yielded, hg]), ?_⟩
             rintro _ rfl
             go_simp <;> with_reducible rfl
           refine relG_pure (i := 17) (o := ⟨some 94, _, _, _, _, _⟩) (v := ?v95) [(16, 93, 0), (12, 89, 4)] [] rfl rfl (by kernel_rfl) (by kernel_rfl) (fun t w1 hB hf hbf => ?y95) ?n95
           case y95 =>
             simp only [DepF, List.getD_cons_zero, List.getD_cons_succ] at hf
             obtain ⟨⟨_, ⟨e93, i93⟩, rfl⟩, ⟨_, ⟨e89, i89⟩, rfl⟩, _⟩ := hf
             clear hbf
             skip
             refine Or.inl ⟨(by have hg := getD_some i89; simp [Region.wanted, yielded, hg]), ?_⟩
             rintro _ rfl
             go_simp <;> with_reducible rfl
           refine relG_pure (i := 18) (o := ⟨some 95, _, _, _, _, _⟩) (v := ?v96) [(17, 94, 0), (12, 89, 5)] [] rfl rfl (by kernel_rfl) (by kernel_rfl) (fun t w1 hB hf hbf => ?y96) ?n96
           case y96 =>
             simp only [DepF, List.getD_cons_zero, List.getD_cons_succ] at hf
             obtain ⟨⟨_, ⟨e94, i94⟩, rfl⟩, ⟨_, ⟨e89, i89⟩, rfl⟩, _⟩ := hf
             clear hbf
             skip
             obtain ⟨p0, p1, p2, p3, p4, p5⟩ := CA9.out.below hB
             refine Or.inl ⟨(by have hg := getD_some i89; simp [Region.wanted, yielded, hg]), ?_⟩
             rintro _ rfl
             go_simp <;> with_reducible rfl
           refine relG_call (i := 19) (o := ⟨some 96, _, _, _, _, _⟩) ((fun v _ => v = .bool true)) [(13, 90, 5), (18, 95, 0), (12, 89, 6)] [] rfl rfl (by kernel_rfl) (by kernel_rfl) ((fun _ _ _ h _ => h)) ?_ ?_
           · intro t w1 hB hf hbf K hK
             simp only [DepF, List.getD_cons_zero, List.getD_cons_succ] at hf
             obtain ⟨⟨_, ⟨e90, i90⟩, rfl⟩, ⟨_, ⟨e95, i95⟩, rfl⟩, ⟨_, ⟨e89, i89⟩, rfl⟩, _⟩ := hf
             clear hbf
             skip
             refine ⟨(by have hg := getD_some i89; simp [Region.wanted, yielded, hg]), ?_⟩
             go_simp
             refine (BEH.out w1 (CL9.out.below hB rfl)).mono ?_
             rintro e w2 ⟨rfl, hb⟩
             exact hK.out _ w2 (rfl) hb
           refine relG_pure (i := 20) (o := ⟨some 97, _, _, _, _, _⟩) (v := ?v97) [(19, 96, 0), (12, 89, 7)] [] rfl rfl (by kernel_rfl) (by kernel_rfl) (fun t w1 hB hf hbf => ?y97) ?n97
           case y97 =>
             simp only [DepF, List.getD_cons_zero, List.getD_cons_succ] at hf
             obtain ⟨⟨_, ⟨e96, i96⟩, rfl⟩, ⟨_, ⟨e89, i89⟩, rfl⟩, _⟩ := hf
             clear hbf
             skip
             refine Or.inl ⟨(by have hg := getD_some i89; simp [Region.wanted, yielded, hg]), ?_⟩
             rintro _ rfl
             go_simp <;> with_reducible rfl
           refine relG_pure (i := 21) (o := ⟨some 98, _, _, _, _, _⟩) (v := ?v98) [(12, 89, 8), (20, 97, 0)] [] rfl rfl (by kernel_rfl) (by kernel_rfl) (fun t w1 hB hf hbf => ?y98) ?n98
           case y98 =>
             simp only [DepF, List.getD_cons_zero, List.getD_cons_succ] at hf
             obtain ⟨⟨_, ⟨e89, i89⟩, rfl⟩, ⟨_, ⟨e97, i97⟩, rfl⟩, _⟩ := hf
             clear hbf
             skip
             refine Or.inl ⟨wanted_none rfl, ?_⟩
             rintro _ rfl
             go_simp <;> with_reducible rfl
           refine relG_done [(0, 77, 21), (1, 78, 20), (2, 79, 19), (3, 80, 18), (4, 81, 17), (5, 82, 16), (6, 83, 15), (7, 84, 14), (8, 85, 13), (9, 86, 12), (10, 87, 11), (11, 88, 10), (12, 89, 9), (13, 90, 8), (14, 91, 7), (15, 92, 6), (16, 93, 5), (17, 94, 4), (18, 95, 3), (19, 96, 2), (20, 97, 1), (21, 98, 0)] (by kernel_rfl) rfl (by kernel_rfl) (fun f wE hB hf => ?_)
           simp only [FinF, List.getD_cons_zero, List.getD_cons_succ] at hf
           obtain ⟨⟨_, e77, rfl⟩, ⟨_, e78, rfl⟩, ⟨_, e79, rfl⟩, ⟨_, e80, rfl⟩, ⟨_, e81, rfl⟩, ⟨_, e82, rfl⟩, ⟨_, e83, rfl⟩, ⟨_, e84, rfl⟩, ⟨_, e85, rfl⟩, ⟨_, e86, rfl⟩, ⟨_, e87, rfl⟩, ⟨_, e88, rfl⟩, ⟨_, e89, rfl⟩, ⟨_, e90, rfl⟩, ⟨_, e91, rfl⟩, ⟨_, e92, rfl⟩, ⟨_, e93, rfl⟩, ⟨_, e94, rfl⟩, ⟨_, e95, rfl⟩, ⟨_, e96, rfl⟩, ⟨_, e97, rfl⟩, ⟨_, e98, rfl⟩, _⟩ := hf
           simp only [regT, List.foldl_cons, List.foldl_nil, List.setIfInBounds_toArray, List.set_cons_zero, List.set_cons_succ, e77, e78, e79, e80, e81, e82, e83, e84, e85, e86, e87, e88, e89, e90, e91, e92, e93, e94, e95, e96, e97, e98]
           clear e77 e78 e79 e80 e81 e82 e83 e84 e85 e86 e87 e88 e89 e90 e91 e92 e93 e94 e95 e96 e97 e98
           obtain ⟨r6, rfl⟩ : ∃ X : World, X = wE := ⟨_, rfl⟩
           have hb := hB
           clear hB
           replace HC := Lib.hid (HC.out.push hb)
           clear hb
           have CAe := Lib.hid (CA.out.below (HC.out.to wr (by simp)))
           have CLe := Lib.hid (HCL.out.below (HC.out.to wr (by simp)) rfl)
           have ME := Lib.hid (boxStays HM.out (HC.out.to wr (by simp)))
           have SBE := Lib.hid (boxStays HSB.out (HC.out.to wr (by simp)))
           have QNE := Lib.hid (boxStays HQN.out (HC.out.to r5 (by simp)))
           have TE := Lib.hid (HAt.out.below (HC.out.to wr (by simp)) rfl)
           have TNE := Lib.hid (QA.out.below (HC.out.to r5 (by simp)) rfl)
           have BWE := Lib.hid (HC.out.to wr (by simp))
           have hlt1 : (elsV L).length = nL * 6 := by rw [elsV_length, HNL.out]
           have ET := Lib.hid elT
           have HL101 : Hid ((L ++ [x]).length ≤ 100) := Lib.hid (by rw [List.length_append, ← HNL.out]; have := HNB.out; simp; omega)
           go_upto_region 17 with (fail)
           clear HC
           refine wp_region_noPanic ?_
           refine wp_region_held_drew (S := fun w' => Below r6.heap.size r6 w') (by kernel_rfl) (Below.refl _ _).drew (fun hS => ?_)
           refine wpAnyH_take (i := 0) (oi := ⟨some 107, _, _, _, _, _⟩) (v := ?_) rfl (by kernel_rfl) (by kernel_rfl) (by kernel_rfl) (fun _ _ _ h => h) (Or.inl ⟨by rfl, ?_⟩) hS ?_
           rotate_left 1
           · intro w' hB; have hlti := HLT.out; obtain ⟨p0, p1, p2, p3, p4, p5⟩ := CAe.out.below hB; (go_simp <;> with_reducible rfl)
           try simp only [Act.put, List.setIfInBounds_toArray, List.set_cons_zero, List.set_cons_succ]
           refine wpAnyH_take (i := 2) (oi := ⟨some 109, _, _, _, _, _⟩) (v := ?_) rfl (by kernel_rfl) (by kernel_rfl) (by kernel_rfl) (fun _ _ _ h => h) (Or.inl ⟨by rfl, ?_⟩) hS ?_
           rotate_left 1
           · intro w' hB; have hlti := HLT.out; obtain ⟨p0, p1, p2, p3, p4, p5⟩ := CAe.out.below hB; (go_simp <;> with_reducible rfl)
           try simp only [Act.put, List.setIfInBounds_toArray, List.set_cons_zero, List.set_cons_succ]
           refine wpAnyH_take (i := 3) (oi := ⟨some 110, _, _, _, _, _⟩) (v := ?_) rfl (by kernel_rfl) (by kernel_rfl) (by kernel_rfl) (fun _ _ _ h => h) (Or.inl ⟨by rfl, ?_⟩) hS ?_
           rotate_left 1
           · intro w' hB; have hlti := HLT.out; obtain ⟨p0, p1, p2, p3, p4, p5⟩ := CAe.out.below hB; (go_simp <;> with_reducible rfl)
           try simp only [Act.put, List.setIfInBounds_toArray, List.set_cons_zero, List.set_cons_succ]
           refine wpAnyH_take (i := 4) (oi := ⟨some 111, _, _, _, _, _⟩) (v := ?_) rfl (by kernel_rfl) (by kernel_rfl) (by kernel_rfl) (fun _ _ _ h => h) (Or.inl ⟨by rfl, ?_⟩) hS ?_
           rotate_left 1
           · intro w' hB; have hlti := HLT.out; obtain ⟨p0, p1, p2, p3, p4, p5⟩ := CAe.out.below hB; (go_simp <;> with_reducible rfl)
           try simp only [Act.put, List.setIfInBounds_toArray, List.set_cons_zero, List.set_cons_succ]
           refine wpAnyH_take (i := 5) (oi := ⟨some 112, _, _, _, _, _⟩) (v := ?_) rfl (by kernel_rfl) (by kernel_rfl) (by kernel_rfl) (fun _ _ _ h => h) (Or.inl ⟨by rfl, ?_⟩) hS ?_
           rotate_left 1
           · intro w' hB; have hlti := HLT.out; obtain ⟨p0, p1, p2, p3, p4, p5⟩ := CAe.out.below hB; (go_simp <;> with_reducible rfl)
           try simp only [Act.put, List.setIfInBounds_toArray, List.set_cons_zero, List.set_cons_succ]
           refine wpAnyH_ready (rs := [1, 6]) (by kernel_rfl) (by simp) (AllReadyH.cons (o := ⟨some 108, _, _, _, _, _⟩) rfl (fun K hK => ?way100) (AllReadyH.cons (o := ⟨some 113, _, _, _, _, _⟩) rfl (fun K hK => ?way99) AllReadyH.nil))
           case' way100 =>
             refine step_app rfl _ _ _ _ rfl r6.heap.size 47 _ 6 64 ET.out (.slice none 0 0) 0 [] rfl ⟨rfl, Or.inl ⟨rfl, rfl⟩⟩ _ nL (elsV L) rfl ((CLe.out.below hS rfl).srcN hlt1 (elsV_one _) Try.underlying22 cn (by decide)) (by unfold maxLen; omega) (by omega) hS.size ?_
             intro u3 g3 hown hgr hb _
             refine hK.out _ _ (hS.trans hb) (fun _ => ?_)
             clear hK K
             replace hS := hS.trans hb
             have H3 : Hid (World.ownsRow _ r6.heap.size 47 6 u3 nL (elsV L)) := Lib.hid (by simpa using hown)
             (try (replace H8 := Lib.hid (H8.out.below (grown_none hgr) rfl)))
             clear hb hgr
             try simp only [Act.put, List.setIfInBounds_toArray, List.set_cons_zero, List.set_cons_succ]
             refine wpAnyH_ready (rs := [6]) (by kernel_rfl) (by simp) (AllReadyH.cons (o := ⟨some 113, _, _, _, _, _⟩) rfl (fun K hK => ?_) AllReadyH.nil)
             go_simp
             refine hK.out _ _ (hS.alloc hS.size _) (fun _ => ?_)
             clear hK K
             refine wpAnyH_madeK hS hS.size ?_
             have hS0 := hS
             clear hS
             rintro g8 hw hS
             (try (replace H3 := Lib.hid (show World.ownsRow g8 r6.heap.size 47 6 u3 nL (elsV L) from by rw [hw]; exact H3.out.alloc _)))
             have H8 := Lib.hid (cellsAt_made (vs := elV x) hw)
             clear hw hS0
             try simp only [Act.put, List.setIfInBounds_toArray, List.set_cons_zero, List.set_cons_succ]
             refine wpAnyH_ready (rs := [7]) (by kernel_rfl) (by simp) (AllReadyH.cons (o := ⟨some 114, _, _, _, _, _⟩) rfl (fun K hK => ?_) AllReadyH.nil)
             refine step_app rfl _ _ _ _ rfl r6.heap.size 47 _ 6 64 ET.out u3 nL (elsV L) rfl H3.out _ 1 (elV x) rfl (H8.out.srcN rfl (fun u hu => elsV_one [x] u (by simpa [elsV] using hu)) Try.underlying22 1 (by decide)) (by unfold maxLen; omega) (by omega) hS.size ?_
             intro u9 g9 hown hgr hb _
             refine hK.out _ _ (hS.trans hb) (fun _ => ?_)
             clear hK K
             replace hS := hS.trans hb
             have H9 := Lib.hid hown
             clear hb hgr
             try simp only [Act.put, List.setIfInBounds_toArray, List.set_cons_zero, List.set_cons_succ]
             refine wpAnyH_take (i := 8) (oi := ⟨some 11, _, _, _, _, _⟩) (v := ?_) rfl (by kernel_rfl) (by kernel_rfl) (by kernel_rfl) (fun _ _ _ h => h) (Or.inl ⟨by rfl, ?_⟩) hS ?_
             rotate_left 1
             · intro w' hB; have hlti := HLT.out; obtain ⟨p0, p1, p2, p3, p4, p5⟩ := CAe.out.below hB; (go_simp <;> with_reducible rfl)
             try simp only [Act.put, List.setIfInBounds_toArray, List.set_cons_zero, List.set_cons_succ]
             refine wpAnyH_done (by kernel_rfl) (NoPanic.normal ?_) _
           case' way99 =>
             go_simp
             refine hK.out _ _ (hS.alloc hS.size _) (fun _ => ?_)
             clear hK K
             refine wpAnyH_madeK hS hS.size ?_
             have hS0 := hS
             clear hS
             rintro g8 hw hS
             (try (replace H3 := Lib.hid (show World.ownsRow g8 r6.heap.size 47 6 u3 nL (elsV L) from by rw [hw]; exact H3.out.alloc _)))
             have H8 := Lib.hid (cellsAt_made (vs := elV x) hw)
             clear hw hS0
             try simp only [Act.put, List.setIfInBounds_toArray, List.set_cons_zero, List.set_cons_succ]
             refine wpAnyH_ready (rs := [1]) (by kernel_rfl) (by simp) (AllReadyH.cons (o := ⟨some 108, _, _, _, _, _⟩) rfl (fun K hK => ?_) AllReadyH.nil)
             refine step_app rfl _ _ _ _ rfl r6.heap.size 47 _ 6 64 ET.out (.slice none 0 0) 0 [] rfl ⟨rfl, Or.inl ⟨rfl, rfl⟩⟩ _ nL (elsV L) rfl ((CLe.out.below hS rfl).srcN hlt1 (elsV_one _) Try.underlying22 cn (by decide)) (by unfold maxLen; omega) (by omega) hS.size ?_
             intro u3 g3 hown hgr hb _
             refine hK.out _ _ (hS.trans hb) (fun _ => ?_)
             clear hK K
             replace hS := hS.trans hb
             have H3 : Hid (World.ownsRow _ r6.heap.size 47 6 u3 nL (elsV L)) := Lib.hid (by simpa using hown)
             (try (replace H8 := Lib.hid (H8.out.below (grown_none hgr) rfl)))
             clear hb hgr
             try simp only [Act.put, List.setIfInBounds_toArray, List.set_cons_zero, List.set_cons_succ]
             refine wpAnyH_ready (rs := [7]) (by kernel_rfl) (by simp) (AllReadyH.cons (o := ⟨some 114, _, _, _, _, _⟩) rfl (fun K hK => ?_) AllReadyH.nil)
             refine step_app rfl _ _ _ _ rfl r6.heap.size 47 _ 6 64 ET.out u3 nL (elsV L) rfl H3.out _ 1 (elV x) rfl (H8.out.srcN rfl (fun u hu => elsV_one [x] u (by simpa [elsV] using hu)) Try.underlying22 1 (by decide)) (by unfold maxLen; omega) (by omega) hS.size ?_
             intro u9 g9 hown hgr hb _
             refine hK.out _ _ (hS.trans hb) (fun _ => ?_)
             clear hK K
             replace hS := hS.trans hb
             have H9 := Lib.hid hown
             clear hb hgr
             try simp only [Act.put, List.setIfInBounds_toArray, List.set_cons_zero, List.set_cons_succ]
             refine wpAnyH_take (i := 8) (oi := ⟨some 11, _, _, _, _, _⟩) (v := ?_) rfl (by kernel_rfl) (by kernel_rfl) (by kernel_rfl) (fun _ _ _ h => h) (Or.inl ⟨by rfl, ?_⟩) hS ?_
             rotate_left 1
             · intro w' hB; have hlti := HLT.out; obtain ⟨p0, p1, p2, p3, p4, p5⟩ := CAe.out.below hB; (go_simp <;> with_reducible rfl)
             try simp only [Act.put, List.setIfInBounds_toArray, List.set_cons_zero, List.set_cons_succ]
             refine wpAnyH_done (by kernel_rfl) (NoPanic.normal ?_) _
           all_goals
             have O9 := H9.out
             rw [show elsV L ++ elV x = elsV (L ++ [x]) from (els_snoc L x).symm] at O9
             obtain ⟨a9, k9, rfl, hnk, _⟩ := own_slice O9
             have C9 : Hid (CellsAt g9 a9 (elsV (L ++ [x]))) := Lib.hid (CellsAt.ownN O9)
             have N9 : Hid (nL + 1 = (L ++ [x]).length) := Lib.hid (by rw [List.length_append, HNL.out]; rfl)
             have NK := Lib.hid hnk
             have S9 := Lib.hid hS
             clear H9 H3 H8 O9 hS hnk
             have HC : Hid (Chain [r6] r6) := Lib.hid (Chain.one r6)
             have hb := S9.out
             replace HC := Lib.hid (HC.out.push hb)
             clear hb
             have HM := ME
             have HSB := SBE
             have HQN := QNE
             go_wp2_with fail
             refine (num_14 0 _).mono ?_
             rintro e _ ⟨rfl, rfl⟩
             have kQN0 := cell_of_one (boxStays HQN.out (HC.out.to r6 (by simp)))
             have kSB0 := cell_of_row _ _ 0 _ _ _ (boxStays HSB.out (HC.out.to r6 (by simp)))
             have kSB1 := cell_of_row _ _ 1 _ _ _ (boxStays HSB.out (HC.out.to r6 (by simp)))
             have kSB2 := cell_of_row _ _ 2 _ _ _ (boxStays HSB.out (HC.out.to r6 (by simp)))
             have kSB3 := cell_of_row _ _ 3 _ _ _ (boxStays HSB.out (HC.out.to r6 (by simp)))
             have kSB4 := cell_of_row _ _ 4 _ _ _ (boxStays HSB.out (HC.out.to r6 (by simp)))
             go_wp2_with fail
             refine (stands_14 (L ++ [x]) nn s _ (nL + 1) _ _ (TNE.out.below (HC.out.to r6 (by simp)) rfl) RN.out (C9.out.below (HC.out.to g9 (by simp)) rfl) N9.out NK.out (by omega) HSS.out).mono ?_
             rintro e g10 ⟨rfl, hb⟩
             clear kQN0 kSB0 kSB1 kSB2 kSB3 kSB4
             replace HC := Lib.hid (HC.out.push hb)
             clear hb
             have kM0 := cell_of_one (boxStays HM.out (HC.out.to r6 (by simp)))
             have kQN0 := cell_of_one (boxStays HQN.out (HC.out.to r6 (by simp)))
             go_wp2_with fail
             refine (part_k (v := true) _ (TE.out.below (HC.out.to r6 (by simp)) rfl) (TNE.out.below (HC.out.to r6 (by simp)) rfl) HR.out RN.out HL100.out HL101.out (part_pre L [x])).mono ?_
             rintro e g11 ⟨rfl, hb⟩
             clear kM0 kQN0
             replace HC := Lib.hid (HC.out.push hb)
             clear hb
             have kM0 := cell_of_one (boxStays HM.out (HC.out.to r6 (by simp)))
             have kQN0 := cell_of_one (boxStays HQN.out (HC.out.to r6 (by simp)))
             go_wp2_with fail
             refine (part_k (v := false) _ (TNE.out.below (HC.out.to r6 (by simp)) rfl) (TE.out.below (HC.out.to r6 (by simp)) rfl) RN.out HR.out HL101.out HL100.out (part_new RN.out)).mono ?_
             rintro e g12 ⟨rfl, hb⟩
             clear kM0 kQN0
             replace HC := Lib.hid (HC.out.push hb)
             clear hb
             have hx := boxStays HM.out (HC.out.to r6 (by simp))
             have k0 := cell_of_one hx
             have f0 := frozen_of_row _ z 0 _ _ hx
             have FA := Lib.hid ((TNE.out.below (HC.out.to r6 (by simp)) rfl).setBox hx (by decide) 0 (.pointer (pa nn)))
             have FM := Lib.hid (Boxed.set (t := 27) (.pointer (pa nn)) hx)
             have FC := Lib.hid (els_keepX (C9.out.below (HC.out.to g9 (by simp)) rfl) (KeepX.setRow (KeepX.refl _) hx rfl 0 (Value.pointer (pa nn))) hx)
             have FK := Lib.hid (KeepX.setRow (HKX.out.trans ((KeepX.ofBelow BWE.out).trans (KeepX.ofBelow (HC.out.to r6 (by simp))))) hx rfl 0 (Value.pointer (pa nn)))
             clear hx
             have kQN0 := cell_of_one (boxStays HQN.out (HC.out.to r6 (by simp)))
             go_wp2_with fail
             go_roundw
             case rel => exact ⟨k + 1, nL + 1, L ++ [x], q ++ [x], nn, a9, k9, by omega, by omega, by go_num, rfl, Lib.hid (by rw [HLQ.out, List.append_assoc]), N9, Lib.hid (by have := HNB.out; omega), NK, FC, RN, FA, FM, FK⟩
             case measure => simp [intOf]; omega
     ·
       have h30i : ¬ (k : Int) < 30 := by omega
       have kF0 := cell_of_one HF.out
       have kSB0 := cell_of_row _ _ 0 _ _ _ HSB.out
       have kSB1 := cell_of_row _ _ 1 _ _ _ HSB.out
       have kSB2 := cell_of_row _ _ 2 _ _ _ HSB.out
       have kSB3 := cell_of_row _ _ 3 _ _ _ HSB.out
       have kSB4 := cell_of_row _ _ 4 _ _ _ HSB.out
       go_wp2_with fail
       refine (stands_14 (sortV l) t0 s _ n _ _ (HAT8.out.below (HC.out.to wr (by simp)) rfl) R0.out (HW8.out.below (HC.out.to wr (by simp)) rfl) L0.out CAP.out (by omega) HSS.out).mono ?_
       rintro e y1 ⟨rfl, hb⟩
       clear kF0 kSB0 kSB1 kSB2 kSB3 kSB4
       replace HC := Lib.hid (HC.out.push hb)
       clear hb
       have kF0 := cell_of_one (boxStays HF.out (HC.out.to wr (by simp)))
       have kM0 := cell_of_one (boxStays HM.out (HC.out.to wr (by simp)))
       go_wp2_with fail
       refine (part_k (v := true) _ (HAT8.out.below (HC.out.to wr (by simp)) rfl) (HAt.out.below (HC.out.to wr (by simp)) rfl) R0.out HR.out HL0.out HL100.out (by rw [HLQ.out]; exact part_pre _ _)).mono ?_
       rintro e y2 ⟨rfl, hb⟩
       clear kF0 kM0
       replace HC := Lib.hid (HC.out.push hb)
       clear hb
       go_wp2_with fail
       refine (known_14 _).mono ?_
       rintro e y3 ⟨rfl, hb⟩
       replace HC := Lib.hid (HC.out.push hb)
       clear hb
       go_wp2_with fail
       go_ret
       exact ⟨rfl, HBW.out _ (HC.out.to wr (by simp))⟩
   ·
     have hlti : ¬ (k : Int) < (n2 : Int) := by omega
     have kF0 := cell_of_one HF.out
     have kSB0 := cell_of_row _ _ 0 _ _ _ HSB.out
     have kSB1 := cell_of_row _ _ 1 _ _ _ HSB.out
     have kSB2 := cell_of_row _ _ 2 _ _ _ HSB.out
     have kSB3 := cell_of_row _ _ 3 _ _ _ HSB.out
     have kSB4 := cell_of_row _ _ 4 _ _ _ HSB.out
     go_wp2_with fail
     refine (stands_14 (sortV l) t0 s _ n _ _ (HAT8.out.below (HC.out.to wr (by simp)) rfl) R0.out (HW8.out.below (HC.out.to wr (by simp)) rfl) L0.out CAP.out (by omega) HSS.out).mono ?_
     rintro e y1 ⟨rfl, hb⟩
     clear kF0 kSB0 kSB1 kSB2 kSB3 kSB4
     replace HC := Lib.hid (HC.out.push hb)
     clear hb
     have kF0 := cell_of_one (boxStays HF.out (HC.out.to wr (by simp)))
     have kM0 := cell_of_one (boxStays HM.out (HC.out.to wr (by simp)))
     go_wp2_with fail
     refine (part_k (v := true) _ (HAT8.out.below (HC.out.to wr (by simp)) rfl) (HAt.out.below (HC.out.to wr (by simp)) rfl) R0.out HR.out HL0.out HL100.out (by rw [HLQ.out]; exact part_pre _ _)).mono ?_
     rintro e y2 ⟨rfl, hb⟩
     clear kF0 kM0
     replace HC := Lib.hid (HC.out.push hb)
     clear hb
     go_wp2_with fail
     refine (known_14 _).mono ?_
     rintro e y3 ⟨rfl, hb⟩
     replace HC := Lib.hid (HC.out.push hb)
     clear hb
     go_wp2_with fail
     go_ret
     exact ⟨rfl, HBW.out _ (HC.out.to wr (by simp))⟩
end Go.Proofs.Ytnpiepimajippaa
