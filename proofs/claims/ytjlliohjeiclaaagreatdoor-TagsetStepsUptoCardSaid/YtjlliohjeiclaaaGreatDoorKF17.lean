/- Words, contracts and walks that the proof stands on (TgDo). -/
import Derived.Test.YtjlliohjeiclaaaGreatDoorKF1
import Derived.Test.YtjlliohjeiclaaaGreatDoorKF12
import Derived.Test.YtjlliohjeiclaaaGreatDoorKF13
import Derived.Test.YtjlliohjeiclaaaGreatDoorKF15
import Derived.Test.YtjlliohjeiclaaaGreatDoorKF16
import Derived.Test.YtjlliohjeiclaaaGreatDoorKF5
import Derived.Test.YtjlliohjeiclaaaGreatDoorKF6
namespace Go.Proofs.YtjlliohjeiclaaaGreatDoor
open Go.RowKit St Pm
def DoOutT (N : Nat) (w : World) (e : Ending) (w' : World) : Prop :=
 ∃ (m : Tr ByteArray) (lm : List Ev) (a : Option Addr) (n c : Nat), e = .returned (.tuple #[.agg #[.pointer (pa m)], .slice a n c, .bool true]) ∧ AtS w' m ∧ Tag lm m ∧ CellsAt w' a (elsV (sortV lm)) ∧ n = lm.length ∧ n ≤ N + 1 ∧ Below w.heap.size w w'
theorem do_endT {N : Nat} {w w1 w2 : World} {z : Nat} {m : Tr ByteArray} {lm : List Ev} {a : Option Addr} {n c : Nat} (hb : Below w.heap.size w w1) (hz : w.heap.size ≤ z) (hz1 : z ≤ w1.heap.size) (hk : KeepX (fun k _ => k = z) w1 w2) (hm : AtS w2 m) (hT : Tag lm m) (hc : CellsAt w2 a (elsV (sortV lm))) (hn : n = lm.length) (hN : n ≤ N + 1) :
 DoOutT N w (.returned (.tuple #[.agg #[.pointer (pa m)], .slice a n c, .bool true])) w2 :=
 ⟨m, lm, a, n, c, rfl, hm, hT, hc, hn, hN, hb.trans ((hk.toBelowZ hz1).mono hz)⟩
theorem insA_tag {l : List Ev} (tr : Tr ByteArray) (s : Sv) (x : ByteArray) (w : World) (h : AtS w tr) (hT : Tag l tr) (hz : l.length ≤ 100000) (hs : s.l.size ≤ 9223372036854775807) (hG : Glob w) :
 Calls Tryz.prog 21 #[.agg #[.pointer (pa tr)], .agg #[.int .i64 s.g, .int .i64 s.r, .string s.l, .int .i64 s.n, .int .i64 s.i], .string x] w fun e w' => ∃ (t : Tr ByteArray) (ce : Int), e = .returned (.tuple #[.agg #[.pointer (pa t)], .int .i64 ce]) ∧ AtS w' t ∧ Below w.heap.size w w' ∧ ((okV (s, x) = true ∧ ce = 0 ∧ Tag (insT (s, x) l) t) ∨ (okV (s, x) = false ∧ ce = 2 ∧ t = .nil)) := by
 by_cases hok : okV (s, x) = true
 · refine (ins_tag tr s x w h hT hz hok hG).mono ?_
   rintro e w' ⟨t, h1, h2, h3, h4⟩
   exact ⟨t, 0, h1, h2, h4, .inl ⟨hok, rfl, h3⟩⟩
 · refine (ts_Insert tr s x w h (by rw [hT.len]; exact hz) hT.keysT hs hG).mono ?_
   intro e w' h
   unfold InsOut at h
   rw [if_neg (fun h' => hok h'.1)] at h
   exact ⟨.nil, 2, h.1, trivial, h.2, .inr ⟨by simpa using hok, rfl, rfl⟩⟩
theorem remA_tag {l : List Ev} (tr : Tr ByteArray) (x : ByteArray) (w : World) (h : AtS w tr) (hT : Tag l tr) (hz : l.length ≤ 100000) (hG : Glob w) :
 Calls Tryz.prog 23 #[.agg #[.pointer (pa tr)], .string x] w fun e w' => ∃ (t : Tr ByteArray) (kf ce : Int), e = .returned (.tuple #[.agg #[.pointer (pa t)], .int .i64 kf, .int .i64 ce]) ∧ AtS w' t ∧ Below w.heap.size w w' ∧ ((x.size ≤ 256 ∧ ce = 0 ∧ kf = ((l.filter (ofX x)).length : Int) ∧ Tag (l.filter fun e => !ofX x e) t ∧ (l.filter (ofX x) = [] → t = tr)) ∨ (¬ x.size ≤ 256 ∧ ce = 2 ∧ kf = 0 ∧ t = .nil)) := by
 by_cases hx : x.size ≤ 256
 · refine (rem_tag tr x w h hT hz hx hG).mono ?_
   rintro e w' ⟨t, h1, h2, h3, h4, h5⟩
   exact ⟨t, _, 0, h1, h2, h5, .inl ⟨hx, rfl, rfl, h3, h4⟩⟩
 · refine (ts_Remove tr x w h hT.bal hT.srt (by rw [hT.len]; exact hz) hT.keysT hG).mono ?_
   intro e w' h
   unfold RemOut at h
   rw [if_neg (fun h' => hx h'.1)] at h
   exact ⟨.nil, 0, 2, h.1, trivial, h.2, .inr ⟨hx, rfl, rfl, rfl⟩⟩
set_option maxRecDepth 100000 in
set_option maxHeartbeats 32000000 in
theorem do_11 {lt : List Ev} (t : Tr ByteArray) (a : Option Addr) (n c : Nat) (k : Int) (x : ByteArray) (s : Sv) (w : World) (ht : AtS w t) (hT : Tag lt t) (hl : CellsAt w a (elsV (sortV lt))) (hn : n = lt.length) (hz : n ≤ 900) (hss : s.l.size ≤ 9223372036854775807) (hx : x.size ≤ 4294967280) (hG : Glob w) :
 Calls Tryz.prog 15 #[.agg #[.pointer (pa t)], .slice a n c, .agg #[.int .i64 k, .string x, .int .i64 s.g, .int .i64 s.r, .string s.l, .int .i64 s.n, .int .i64 s.i]] w (DoOutT n w) := by
 have T := Lib.hid ht
 have R := Lib.hid hT
 have CL := Lib.hid hl
 have HNL := Lib.hid hn
 have HN : Hid (n = (sortV lt).length) := Lib.hid (by rw [sortV_length]; exact hn)
 have HZ := Lib.hid hz
 have HSS := Lib.hid hss
 have HX := Lib.hid hx
 have HG := Lib.hid hG
 have HZL : Hid (lt.length ≤ 100000) := Lib.hid (by omega)
 have HLS : Hid (∀ e ∈ sortV lt, e.1.l.size ≤ 9223372036854775807) := Lib.hid (fun e he => by have := ok_lab (okV_iff.1 (hT.ok e (sortV_mem.1 he))).1; omega)
 have HND : Hid lt.Nodup := Lib.hid hT.stb.nd
 clear ht hT hl hn hz hss hx hG
 obtain ⟨LL, hLL⟩ : ∃ L, sortV lt = L := ⟨_, rfl⟩
 rw [hLL] at CL HN HLS
 have HLL := Lib.hid hLL
 clear hLL
 have HNUM : Hid (∀ (v : Int) (W : World), Calls Tryz.prog 11 #[.int .i64 v] W fun e w' => e = .returned (.int .i64 v) ∧ Below W.heap.size W w' ∧ ∀ {Ex : Nat → TypeId → Prop}, KeepX Ex W w') := Lib.hid (fun v W => (num_11b v W).mono fun _ _ ⟨h1, h2⟩ => ⟨h1, h2, KeepX.ofBelow h2⟩)
 have HLEN : Hid (∀ W, Calls Tryz.prog 12 #[.agg #[.pointer none]] W fun e w' => e = .returned (.int .i64 0) ∧ Below W.heap.size W w' ∧ ∀ {Ex : Nat → TypeId → Prop}, KeepX Ex W w') := Lib.hid (fun W => (pm_MLenS .nil W trivial).mono fun _ _ ⟨h1, h2⟩ => ⟨h1, h2, KeepX.ofBelow h2⟩)
 have ELT := Lib.hid elT
 obtain ⟨tv, htv⟩ : ∃ b, decide (x.size ≤ 256) = b := ⟨_, rfl⟩
 have HTV := Lib.hid htv
 have TXT : Hid (∀ W, Calls Tryz.prog 48 #[.string x] W fun e w' => e = .returned (.bool tv) ∧ W = w') := Lib.hid (fun W => by rw [← htv]; exact ref5_Text x W)
 clear htv
 have HC : Hid (Chain [w] w) := Lib.hid (Chain.one w)
 go_enter Tryz.func15, Tryz.ntmps15
 go_upto_region 1 with (fail)
 obtain ⟨z, hz⟩ : ∃ c, w.heap.size = c := ⟨_, rfl⟩
 try rw [hz]
 obtain ⟨w3, hw3⟩ : ∃ X, allocs w [.cells #[.pointer (pa t)] 27, .cells #[.int .i64 k, .string x, .int .i64 s.g, .int .i64 s.r, .string s.l, .int .i64 s.n, .int .i64 s.i] 45, .cells #[.pointer none] 27] = X := ⟨_, rfl⟩
 rw [show ((w.alloc (.cells #[.pointer (pa t)] 27)).alloc (.cells #[.int .i64 k, .string x, .int .i64 s.g, .int .i64 s.r, .string s.l, .int .i64 s.n, .int .i64 s.i] 45)).alloc (.cells #[.pointer none] 27) = w3 from hw3]
 have hb : Below w.heap.size w w3 := by rw [← hw3]; exact allocs_below _ _
 have HM : Hid (w3.heap[z]? = some (.cells #[.pointer (pa t)] 27 (0, 0))) := Lib.hid (by have := allocs_get [.cells #[.pointer (pa t)] 27, .cells #[.int .i64 k, .string x, .int .i64 s.g, .int .i64 s.r, .string s.l, .int .i64 s.n, .int .i64 s.i] 45, .cells #[.pointer none] 27] w 0 _ rfl; rw [hw3, hz] at this; exact this)
 have HS : Hid (w3.heap[z + 1]? = some (.cells #[.int .i64 k, .string x, .int .i64 s.g, .int .i64 s.r, .string s.l, .int .i64 s.n, .int .i64 s.i] 45 (0, 0))) := Lib.hid (by have := allocs_get [.cells #[.pointer (pa t)] 27, .cells #[.int .i64 k, .string x, .int .i64 s.g, .int .i64 s.r, .string s.l, .int .i64 s.n, .int .i64 s.i] 45, .cells #[.pointer none] 27] w 1 _ rfl; rw [hw3, hz] at this; exact this)
 have HP : Hid (w3.heap[z + 1 + 1]? = some (.cells #[.pointer none] 27 (0, 0))) := Lib.hid (by have := allocs_get [.cells #[.pointer (pa t)] 27, .cells #[.int .i64 k, .string x, .int .i64 s.g, .int .i64 s.r, .string s.l, .int .i64 s.n, .int .i64 s.i] 45, .cells #[.pointer none] 27] w 2 _ rfl; rw [hw3, hz] at this; exact this)
 have Sz : Hid (w.heap.size = z) := Lib.hid hz
 replace HC := Lib.hid (HC.out.push hb)
 clear hb hw3 hz
 have S0 := HS
 have Z0 : Hid (w.heap.size ≤ z + 1 + 1 ∧ z + 1 + 1 < w3.heap.size) := Lib.hid ⟨by have := Sz.out; omega, (Array.getElem?_eq_some_iff.1 HP.out).1⟩
 have kS0 := cell_of_row _ _ 0 _ _ _ HS.out
 have kS1 := cell_of_row _ _ 1 _ _ _ HS.out
 have kS2 := cell_of_row _ _ 2 _ _ _ HS.out
 have kS3 := cell_of_row _ _ 3 _ _ _ HS.out
 have kS4 := cell_of_row _ _ 4 _ _ _ HS.out
 have kS5 := cell_of_row _ _ 5 _ _ _ HS.out
 have kS6 := cell_of_row _ _ 6 _ _ _ HS.out
 go_wp2_with fail
 refine (TXT.out _).mono ?_
 rintro e _ ⟨rfl, rfl⟩
 go_upto_region 3 with (fail)
 clear kS0 kS1 kS2 kS3 kS4 kS5 kS6
 by_cases k1 : k = 1
 · subst k1
   go_upto_region 4 with (fail)
   have kM0 := cell_of_one HM.out
   have kS0 := cell_of_row _ _ 0 _ _ _ HS.out
   have kS1 := cell_of_row _ _ 1 _ _ _ HS.out
   have kS2 := cell_of_row _ _ 2 _ _ _ HS.out
   have kS3 := cell_of_row _ _ 3 _ _ _ HS.out
   have kS4 := cell_of_row _ _ 4 _ _ _ HS.out
   have kS5 := cell_of_row _ _ 5 _ _ _ HS.out
   have kS6 := cell_of_row _ _ 6 _ _ _ HS.out
   go_wp2_with fail
   refine (insA_tag t s x _ (T.out.below (HC.out.to w (by simp)) rfl) R.out HZL.out HSS.out (HG.out.below (HC.out.to w (by simp)))).mono ?_
   rintro e w4 ⟨m, ce, rfl, hm, hb, hP⟩
   clear kM0 kS0 kS1 kS2 kS3 kS4 kS5 kS6
   replace HC := Lib.hid (HC.out.push hb)
   clear hb
   have PP := Lib.hid hP
   have TM := Lib.hid hm
   clear hP hm
   have N50 : Hid (w3.heap.size ≤ w4.heap.size) := Lib.hid (HC.out.to w3 (by simp)).size
   go_upto_region 5 with (fail)
   obtain ⟨c5, hc5⟩ : ∃ c, w4.heap.size = c := ⟨_, rfl⟩
   try rw [hc5]
   obtain ⟨w5, hw5⟩ : ∃ X, allocs w4 [.cells #[.pointer (pa m)] 27] = X := ⟨_, rfl⟩
   rw [show w4.alloc (.cells #[.pointer (pa m)] 27) = w5 from hw5]
   have hb : Below w4.heap.size w4 w5 := by rw [← hw5]; exact allocs_below _ _
   have HN5 : Hid (w5.heap[c5]? = some (.cells #[.pointer (pa m)] 27 (0, 0))) := Lib.hid (by have := allocs_get [.cells #[.pointer (pa m)] 27] w4 0 _ rfl; rw [hw5, hc5] at this; exact this)
   have Sc5 : Hid (w4.heap.size = c5) := Lib.hid hc5
   replace HC := Lib.hid (HC.out.push hb)
   clear hb hw5 hc5
   have N5Z : Hid (w3.heap.size ≤ c5) := Lib.hid (by rw [← Sc5.out]; exact N50.out)
   have NE : Hid (c5 ≠ z + 1 + 1) := Lib.hid (by have := N5Z.out; have := Z0.out.2; omega)
   cases tv
   case false =>
    have OKF : Hid (okV (s, x) = false) := Lib.hid (by unfold okV; rw [HTV.out]; simp)
    obtain ⟨rfl, rfl⟩ : ce = 2 ∧ m = .nil := by
     rcases PP.out with ⟨h, _⟩ | ⟨_, h1, h2⟩
     · rw [OKF.out] at h; cases h
     · exact ⟨h1, h2⟩
    have XM := Lib.hid (boxStays HM.out (HC.out.to w3 (by simp)))
    have XN := Lib.hid (boxStays HN5.out (HC.out.to w5 (by simp)))
    have XP := Lib.hid (boxStays HP.out (HC.out.to w3 (by simp)))
    have XT := Lib.hid (T.out.below (HC.out.to w (by simp)) rfl)
    have XC := Lib.hid (CL.out.below (HC.out.to w (by simp)) rfl)
    have BW := Lib.hid (HC.out.to w (by simp))
    have ZW : Hid (z + 1 + 1 ≤ w5.heap.size) := Lib.hid (by have := (Array.getElem?_eq_some_iff.1 XP.out).1; omega)
    go_upto_region 6 with (fail)
    have YP : Hid (w5.drew.heap[z + 1 + 1]? = some (.cells #[.pointer none] 27 (0, 0))) := XP
    refine wp_region_noPanic ?_
    refine wp_region_held_drew (S := fun w' => KeepX (fun k _ => k = z + 1 + 1) w5 w') (by kernel_rfl) (KeepX.refl _).drew (fun hS => ?_)
    refine tk (i := 0) (oi := ⟨some 44, _, _, _, _, _⟩) (v := ?_) rfl (Or.inl ⟨by rfl, ?_⟩) hS ?_
    rotate_left 1
    · intro w' hB; have m0 := cell_of_one (hB.row XM.out (by omega)); have n0 := cell_of_one (hB.row XN.out NE.out); (go_simp <;> with_reducible rfl)
    try simp only [Act.put, zA, zB, zC]
    refine tk (i := 1) (oi := ⟨some 45, _, _, _, _, _⟩) (v := ?_) rfl (Or.inl ⟨by rfl, ?_⟩) hS ?_
    rotate_left 1
    · intro w' hB; (go_simp <;> with_reducible rfl)
    try simp only [Act.put, zA, zB, zC]
    refine tk (i := 2) (oi := ⟨some 46, _, _, _, _, _⟩) (v := ?_) rfl (Or.inl ⟨by rfl, ?_⟩) hS ?_
    rotate_left 1
    · intro w' hB; (go_simp <;> with_reducible rfl)
    try simp only [Act.put, zA, zB, zC]
    refine wpAnyH_ready (rs := [3]) (by kernel_rfl) (by simp) (AllReadyH.cons (o := ⟨some 47, _, _, _, _, _⟩) rfl (fun K hK => ?_) AllReadyH.nil)
    go_simp
    refine (HNUM.out 2 _).mono ?_
    rintro e r1 ⟨rfl, hb', hb⟩
    refine hK.out _ _ (hS.trans (hb)) (fun _ => ?_)
    clear hK K
    replace hS := hS.trans (hb)
    replace YP := Lib.hid (boxStays YP.out hb')
    clear hb'
    clear hb
    try simp only [Act.put, zA, zB, zC]
    refine tk (i := 4) (oi := ⟨some 48, _, _, _, _, _⟩) (v := ?_) rfl (Or.inl ⟨by rfl, ?_⟩) hS ?_
    rotate_left 1
    · intro w' hB; have m0 := cell_of_one (hB.row XM.out (by omega)); have n0 := cell_of_one (hB.row XN.out NE.out); (go_simp <;> with_reducible rfl)
    try simp only [Act.put, zA, zB, zC]
    refine tk (i := 5) (oi := ⟨some 49, _, _, _, _, _⟩) (v := ?_) rfl (Or.inl ⟨by rfl, ?_⟩) hS ?_
    rotate_left 1
    · intro w' hB; (go_simp <;> with_reducible rfl)
    try simp only [Act.put, zA, zB, zC]
    refine tk (i := 6) (oi := ⟨some 50, _, _, _, _, _⟩) (v := ?_) rfl (Or.inl ⟨by rfl, ?_⟩) hS ?_
    rotate_left 1
    · intro w' hB; have m0 := cell_of_one (hB.row XM.out (by omega)); have n0 := cell_of_one (hB.row XN.out NE.out); (go_simp <;> with_reducible rfl)
    try simp only [Act.put, zA, zB, zC]
    refine wpAnyH_ready (rs := [7]) (by kernel_rfl) (by simp) (AllReadyH.cons (o := ⟨some 51, _, _, _, _, _⟩) rfl (fun K hK => ?_) AllReadyH.nil)
    go_simp
    refine (HLEN.out _).mono ?_
    rintro e r2 ⟨rfl, hb', hb⟩
    refine hK.out _ _ (hS.trans (hb)) (fun _ => ?_)
    clear hK K
    replace hS := hS.trans (hb)
    replace YP := Lib.hid (boxStays YP.out hb')
    clear hb'
    clear hb
    try simp only [Act.put, zA, zB, zC]
    refine tk (i := 8) (oi := ⟨some 52, _, _, _, _, _⟩) (v := ?_) rfl (Or.inl ⟨by rfl, ?_⟩) hS ?_
    rotate_left 1
    · intro w' hB; have m0 := cell_of_one (hB.row XM.out (by omega)); have n0 := cell_of_one (hB.row XN.out NE.out); (go_simp <;> with_reducible rfl)
    try simp only [Act.put, zA, zB, zC]
    refine tk (i := 9) (oi := ⟨some 53, _, _, _, _, _⟩) (v := ?_) rfl (Or.inl ⟨by rfl, ?_⟩) hS ?_
    rotate_left 1
    · intro w' hB; (go_simp <;> with_reducible rfl)
    try simp only [Act.put, zA, zB, zC]
    refine wpAnyH_ready (rs := [10]) (by kernel_rfl) (by simp) (AllReadyH.cons (o := ⟨none, _, _, _, _, _⟩) rfl (fun K hK => ?_) AllReadyH.nil)
    have y1 := cell_of_one YP.out
    have f1 := frozen_of_row _ (z + 1 + 1) 0 _ _ YP.out
    replace hS := KeepX.setRow hS YP.out rfl 0 (Value.pointer (pa t))
    replace YP := Lib.hid (Boxed.set (t := 27) (.pointer (pa t)) YP.out)
    go_simp
    refine hK.out _ _ hS (fun _ => ?_)
    clear hK K y1 f1
    try simp only [Act.put, zA, zB, zC]
    refine tk (i := 11) (oi := ⟨some 7, _, _, _, _, _⟩) (v := ?_) rfl (Or.inl ⟨by rfl, ?_⟩) hS ?_
    rotate_left 1
    · intro w' hB; have m0 := cell_of_one (hB.row XM.out (by omega)); have n0 := cell_of_one (hB.row XN.out NE.out); (go_simp <;> with_reducible rfl)
    try simp only [Act.put, zA, zB, zC]
    refine tk (i := 12) (oi := ⟨some 8, _, _, _, _, _⟩) (v := ?_) rfl (Or.inl ⟨by rfl, ?_⟩) hS ?_
    rotate_left 1
    · intro w' hB; have m0 := cell_of_one (hB.row XM.out (by omega)); have n0 := cell_of_one (hB.row XN.out NE.out); (go_simp <;> with_reducible rfl)
    try simp only [Act.put, zA, zB, zC]
    refine wpAnyH_done (by kernel_rfl) (NoPanic.normal ?_) _
    generalize r2.setCell ⟨z + 1 + 1, 0, none⟩ (.pointer (pa t)) = r3 at *
    have q := cell_of_one YP.out
    go_wp2_with fail
    refine bodyPost_ret (v := .tuple #[.agg #[.pointer (pa t)], .slice a n c, .bool true]) (by simp [results, Tryz.results15, go_sem, q]) rfl ?_
    exact do_endT BW.out Z0.out.1 ZW.out hS (XT.out.keepZ hS XP.out (by decide)) R.out (by rw [HLL.out]; exact els_keepX XC.out hS XP.out) HNL.out (by omega)
   case true =>
    obtain ⟨sv, hsv⟩ : ∃ b, s.ok = b := ⟨_, rfl⟩
    have HSV := Lib.hid hsv
    have STM : Hid (∀ W, Calls Tryz.prog 49 #[.agg #[.int .i64 s.g, .int .i64 s.r, .string s.l, .int .i64 s.n, .int .i64 s.i]] W fun e w' => e = .returned (.bool sv) ∧ Below W.heap.size W w') := Lib.hid (fun W => by rw [← hsv]; exact ref6_Stamp s W HSS.out)
    clear hsv
    have kS0 := cell_of_row _ _ 0 _ _ _ (boxStays HS.out (HC.out.to w3 (by simp)))
    have kS1 := cell_of_row _ _ 1 _ _ _ (boxStays HS.out (HC.out.to w3 (by simp)))
    have kS2 := cell_of_row _ _ 2 _ _ _ (boxStays HS.out (HC.out.to w3 (by simp)))
    have kS3 := cell_of_row _ _ 3 _ _ _ (boxStays HS.out (HC.out.to w3 (by simp)))
    have kS4 := cell_of_row _ _ 4 _ _ _ (boxStays HS.out (HC.out.to w3 (by simp)))
    have kS5 := cell_of_row _ _ 5 _ _ _ (boxStays HS.out (HC.out.to w3 (by simp)))
    have kS6 := cell_of_row _ _ 6 _ _ _ (boxStays HS.out (HC.out.to w3 (by simp)))
    go_wp2_with fail
    refine (STM.out _).mono ?_
    rintro e w6 ⟨rfl, hb⟩
    clear kS0 kS1 kS2 kS3 kS4 kS5 kS6
    replace HC := Lib.hid (HC.out.push hb)
    clear hb
    cases sv
    case false =>
     have OKF : Hid (okV (s, x) = false) := Lib.hid (by unfold okV; rw [HSV.out]; simp)
     obtain ⟨rfl, rfl⟩ : ce = 2 ∧ m = .nil := by
      rcases PP.out with ⟨h, _⟩ | ⟨_, h1, h2⟩
      · rw [OKF.out] at h; cases h
      · exact ⟨h1, h2⟩
     have XM := Lib.hid (boxStays HM.out (HC.out.to w3 (by simp)))
     have XN := Lib.hid (boxStays HN5.out (HC.out.to w5 (by simp)))
     have XP := Lib.hid (boxStays HP.out (HC.out.to w3 (by simp)))
     have XT := Lib.hid (T.out.below (HC.out.to w (by simp)) rfl)
     have XC := Lib.hid (CL.out.below (HC.out.to w (by simp)) rfl)
     have BW := Lib.hid (HC.out.to w (by simp))
     have ZW : Hid (z + 1 + 1 ≤ w6.heap.size) := Lib.hid (by have := (Array.getElem?_eq_some_iff.1 XP.out).1; omega)
     go_upto_region 6 with (fail)
     have YP : Hid (w6.drew.heap[z + 1 + 1]? = some (.cells #[.pointer none] 27 (0, 0))) := XP
     refine wp_region_noPanic ?_
     refine wp_region_held_drew (S := fun w' => KeepX (fun k _ => k = z + 1 + 1) w6 w') (by kernel_rfl) (KeepX.refl _).drew (fun hS => ?_)
     refine tk (i := 0) (oi := ⟨some 44, _, _, _, _, _⟩) (v := ?_) rfl (Or.inl ⟨by rfl, ?_⟩) hS ?_
     rotate_left 1
     · intro w' hB; have m0 := cell_of_one (hB.row XM.out (by omega)); have n0 := cell_of_one (hB.row XN.out NE.out); (go_simp <;> with_reducible rfl)
     try simp only [Act.put, zA, zB, zC]
     refine tk (i := 1) (oi := ⟨some 45, _, _, _, _, _⟩) (v := ?_) rfl (Or.inl ⟨by rfl, ?_⟩) hS ?_
     rotate_left 1
     · intro w' hB; (go_simp <;> with_reducible rfl)
     try simp only [Act.put, zA, zB, zC]
     refine tk (i := 2) (oi := ⟨some 46, _, _, _, _, _⟩) (v := ?_) rfl (Or.inl ⟨by rfl, ?_⟩) hS ?_
     rotate_left 1
     · intro w' hB; (go_simp <;> with_reducible rfl)
     try simp only [Act.put, zA, zB, zC]
     refine wpAnyH_ready (rs := [3]) (by kernel_rfl) (by simp) (AllReadyH.cons (o := ⟨some 47, _, _, _, _, _⟩) rfl (fun K hK => ?_) AllReadyH.nil)
     go_simp
     refine (HNUM.out 2 _).mono ?_
     rintro e r1 ⟨rfl, hb', hb⟩
     refine hK.out _ _ (hS.trans (hb)) (fun _ => ?_)
     clear hK K
     replace hS := hS.trans (hb)
     replace YP := Lib.hid (boxStays YP.out hb')
     clear hb'
     clear hb
     try simp only [Act.put, zA, zB, zC]
     refine tk (i := 4) (oi := ⟨some 48, _, _, _, _, _⟩) (v := ?_) rfl (Or.inl ⟨by rfl, ?_⟩) hS ?_
     rotate_left 1
     · intro w' hB; have m0 := cell_of_one (hB.row XM.out (by omega)); have n0 := cell_of_one (hB.row XN.out NE.out); (go_simp <;> with_reducible rfl)
     try simp only [Act.put, zA, zB, zC]
     refine tk (i := 5) (oi := ⟨some 49, _, _, _, _, _⟩) (v := ?_) rfl (Or.inl ⟨by rfl, ?_⟩) hS ?_
     rotate_left 1
     · intro w' hB; (go_simp <;> with_reducible rfl)
     try simp only [Act.put, zA, zB, zC]
     refine tk (i := 6) (oi := ⟨some 50, _, _, _, _, _⟩) (v := ?_) rfl (Or.inl ⟨by rfl, ?_⟩) hS ?_
     rotate_left 1
     · intro w' hB; have m0 := cell_of_one (hB.row XM.out (by omega)); have n0 := cell_of_one (hB.row XN.out NE.out); (go_simp <;> with_reducible rfl)
     try simp only [Act.put, zA, zB, zC]
     refine wpAnyH_ready (rs := [7]) (by kernel_rfl) (by simp) (AllReadyH.cons (o := ⟨some 51, _, _, _, _, _⟩) rfl (fun K hK => ?_) AllReadyH.nil)
     go_simp
     refine (HLEN.out _).mono ?_
     rintro e r2 ⟨rfl, hb', hb⟩
     refine hK.out _ _ (hS.trans (hb)) (fun _ => ?_)
     clear hK K
     replace hS := hS.trans (hb)
     replace YP := Lib.hid (boxStays YP.out hb')
     clear hb'
     clear hb
     try simp only [Act.put, zA, zB, zC]
     refine tk (i := 8) (oi := ⟨some 52, _, _, _, _, _⟩) (v := ?_) rfl (Or.inl ⟨by rfl, ?_⟩) hS ?_
     rotate_left 1
     · intro w' hB; have m0 := cell_of_one (hB.row XM.out (by omega)); have n0 := cell_of_one (hB.row XN.out NE.out); (go_simp <;> with_reducible rfl)
     try simp only [Act.put, zA, zB, zC]
     refine tk (i := 9) (oi := ⟨some 53, _, _, _, _, _⟩) (v := ?_) rfl (Or.inl ⟨by rfl, ?_⟩) hS ?_
     rotate_left 1
     · intro w' hB; (go_simp <;> with_reducible rfl)
     try simp only [Act.put, zA, zB, zC]
     refine wpAnyH_ready (rs := [10]) (by kernel_rfl) (by simp) (AllReadyH.cons (o := ⟨none, _, _, _, _, _⟩) rfl (fun K hK => ?_) AllReadyH.nil)
     have y1 := cell_of_one YP.out
     have f1 := frozen_of_row _ (z + 1 + 1) 0 _ _ YP.out
     replace hS := KeepX.setRow hS YP.out rfl 0 (Value.pointer (pa t))
     replace YP := Lib.hid (Boxed.set (t := 27) (.pointer (pa t)) YP.out)
     go_simp
     refine hK.out _ _ hS (fun _ => ?_)
     clear hK K y1 f1
     try simp only [Act.put, zA, zB, zC]
     refine tk (i := 11) (oi := ⟨some 7, _, _, _, _, _⟩) (v := ?_) rfl (Or.inl ⟨by rfl, ?_⟩) hS ?_
     rotate_left 1
     · intro w' hB; have m0 := cell_of_one (hB.row XM.out (by omega)); have n0 := cell_of_one (hB.row XN.out NE.out); (go_simp <;> with_reducible rfl)
     try simp only [Act.put, zA, zB, zC]
     refine tk (i := 12) (oi := ⟨some 8, _, _, _, _, _⟩) (v := ?_) rfl (Or.inl ⟨by rfl, ?_⟩) hS ?_
     rotate_left 1
     · intro w' hB; have m0 := cell_of_one (hB.row XM.out (by omega)); have n0 := cell_of_one (hB.row XN.out NE.out); (go_simp <;> with_reducible rfl)
     try simp only [Act.put, zA, zB, zC]
     refine wpAnyH_done (by kernel_rfl) (NoPanic.normal ?_) _
     generalize r2.setCell ⟨z + 1 + 1, 0, none⟩ (.pointer (pa t)) = r3 at *
     have q := cell_of_one YP.out
     go_wp2_with fail
     refine bodyPost_ret (v := .tuple #[.agg #[.pointer (pa t)], .slice a n c, .bool true]) (by simp [results, Tryz.results15, go_sem, q]) rfl ?_
     exact do_endT BW.out Z0.out.1 ZW.out hS (XT.out.keepZ hS XP.out (by decide)) R.out (by rw [HLL.out]; exact els_keepX XC.out hS XP.out) HNL.out (by omega)
    case true =>
     have OKT : Hid (okV (s, x) = true) := Lib.hid (by unfold okV; rw [HSV.out, HTV.out]; rfl)
     obtain ⟨rfl, hr⟩ : ce = 0 ∧ Tag (insT (s, x) lt) m := by
      rcases PP.out with ⟨_, h1, h2⟩ | ⟨h, _⟩
      · exact ⟨h1, h2⟩
      · rw [OKT.out] at h; cases h
     have RM := Lib.hid hr
     clear hr
     have kS0 := cell_of_row _ _ 0 _ _ _ (boxStays HS.out (HC.out.to w3 (by simp)))
     have kS1 := cell_of_row _ _ 1 _ _ _ (boxStays HS.out (HC.out.to w3 (by simp)))
     have kS2 := cell_of_row _ _ 2 _ _ _ (boxStays HS.out (HC.out.to w3 (by simp)))
     have kS3 := cell_of_row _ _ 3 _ _ _ (boxStays HS.out (HC.out.to w3 (by simp)))
     have kS4 := cell_of_row _ _ 4 _ _ _ (boxStays HS.out (HC.out.to w3 (by simp)))
     have kS5 := cell_of_row _ _ 5 _ _ _ (boxStays HS.out (HC.out.to w3 (by simp)))
     have kS6 := cell_of_row _ _ 6 _ _ _ (boxStays HS.out (HC.out.to w3 (by simp)))
     have N70 : Hid (w3.heap.size ≤ w6.heap.size) := Lib.hid (HC.out.to w3 (by simp)).size
     go_upto_region 8 with (fail)
     clear kS0 kS1 kS2 kS3 kS4 kS5 kS6
     obtain ⟨c7, hc7⟩ : ∃ c, w6.heap.size = c := ⟨_, rfl⟩
     try rw [hc7]
     obtain ⟨w7, hw7⟩ : ∃ X, allocs w6 [.cells #[.int .i64 s.g, .int .i64 s.r, .string s.l, .int .i64 s.n, .int .i64 s.i, .string x] 53] = X := ⟨_, rfl⟩
     rw [show w6.alloc (.cells #[.int .i64 s.g, .int .i64 s.r, .string s.l, .int .i64 s.n, .int .i64 s.i, .string x] 53) = w7 from hw7]
     have hb : Below w6.heap.size w6 w7 := by rw [← hw7]; exact allocs_below _ _
     have HY : Hid (w7.heap[c7]? = some (.cells #[.int .i64 s.g, .int .i64 s.r, .string s.l, .int .i64 s.n, .int .i64 s.i, .string x] 53 (0, 0))) := Lib.hid (by have := allocs_get [.cells #[.int .i64 s.g, .int .i64 s.r, .string s.l, .int .i64 s.n, .int .i64 s.i, .string x] 53] w6 0 _ rfl; rw [hw7, hc7] at this; exact this)
     have Sc7 : Hid (w6.heap.size = c7) := Lib.hid hc7
     replace HC := Lib.hid (HC.out.push hb)
     clear hb hw7 hc7
     have N7Z : Hid (w3.heap.size ≤ c7) := Lib.hid (by rw [← Sc7.out]; exact N70.out)
     have B7 := Lib.hid (HC.out.to w (by simp))
     have XS := Lib.hid (boxStays HS.out (HC.out.to w3 (by simp)))
     have XN := Lib.hid (boxStays HN5.out (HC.out.to w5 (by simp)))
     have XP := Lib.hid (boxStays HP.out (HC.out.to w3 (by simp)))
     have XM4 := Lib.hid (TM.out.below (HC.out.to w4 (by simp)) rfl)
     have XC := Lib.hid (CL.out.below (HC.out.to w (by simp)) rfl)
     have XY := HY
     have NE7 : Hid (c7 ≠ z + 1 + 1) := Lib.hid (by have := N7Z.out; have := Z0.out.2; omega)
     obtain ⟨Pf, hPf⟩ : ∃ P : Ev → Bool, (fun y => !decide (y = (s, x))) = P := ⟨_, rfl⟩
     have PF : Hid (∀ y, Pf y = !decide (y = (s, x))) := Lib.hid (fun y => by rw [← hPf])
     have HPF := Lib.hid hPf
     clear hPf
     clear HC
     go_wp2_with fail
     go_loopw [13, 14] (fun ov i wr => ∃ (k : Nat) (wq : World) (av : Option Addr) (an ac : Nat), wq = wr ∧ i = .int .i64 (k : Int) ∧ k ≤ n ∧ ov = .slice av an ac ∧ Hid (an = ((LL.take k).filter Pf).length) ∧ Hid (wq.ownsRow w7.heap.size 53 6 (.slice av an ac) an (elsV ((LL.take k).filter Pf))) ∧ Hid (Below w7.heap.size w7 wq)) (fun _ i _ => n - (intOf i).toNat)
     case atStart => exact ⟨0, _, none, 0, 0, rfl, rfl, Nat.zero_le _, rfl, Lib.hid rfl, Lib.hid ⟨rfl, Or.inl ⟨rfl, rfl⟩⟩, Lib.hid (Below.refl _ _)⟩
     case round =>
      obtain ⟨j, wq, av, an, ac, rfl, rfl, hj, rfl, HAN, HO, HB⟩ := hrel
      have hn9 : n ≤ 900 := HZ.out
      by_cases hlt : j < n
      · have hji : (j : Int) < (n : Int) := by omega
        have hj1 : j < LL.length := by have := HN.out; omega
        obtain ⟨ba, oa, ha, ca⟩ := els_get (XC.out.below HB.out rfl) j hj1
        subst ha
        have FT : Hid (Pf LL[j] = true → (LL.take (j + 1)).filter Pf = (LL.take j).filter Pf ++ [LL[j]]) := Lib.hid (filter_next hj1).1
        have FF : Hid (Pf LL[j] = false → (LL.take (j + 1)).filter Pf = (LL.take j).filter Pf) := Lib.hid (filter_next hj1).2
        have HE := Lib.hid ca
        have AN : Hid (an ≤ 1000) := Lib.hid (by rw [HAN.out]; have h1 := List.length_filter_le Pf (LL.take j); have h2 := List.length_take (i := j) (l := LL); omega)
        clear ca
        generalize LL[j] = y at *
        obtain ⟨out, hout⟩ : ∃ o, (LL.take j).filter Pf = o := ⟨_, rfl⟩
        rw [hout] at HAN HO FT FF
        clear hout
        obtain ⟨bb, hbb⟩ : ∃ b, Pf y = b := ⟨_, rfl⟩
        rw [hbb] at FT FF
        have EN : ∀ W, (binOp .neq 53 (.agg #[.int .i64 y.1.g, .int .i64 y.1.r, .string y.1.l, .int .i64 y.1.n, .int .i64 y.1.i, .string y.2]) (.agg #[.int .i64 s.g, .int .i64 s.r, .string s.l, .int .i64 s.n, .int .i64 s.i, .string x])).run Tryz.prog W = .ok (.bool bb) W := fun W => by rw [ev_neq y (s, x) W, ← PF.out y, hbb]
        clear hbb
        go_upto_region 12 with (fail)
        go_cut [70] (fun u70 wx => u70 = .bool bb ∧ Hid (Below wq.heap.size wq wx))
        case first =>
         obtain ⟨p0, p1, p2, p3, p4, p5⟩ := HE.out
         have hy := boxStays XY.out HB.out
         have q0 := cell_of_row _ c7 0 _ _ _ hy
         have q1 := cell_of_row _ c7 1 _ _ _ hy
         have q2 := cell_of_row _ c7 2 _ _ _ hy
         have q3 := cell_of_row _ c7 3 _ _ _ hy
         have q4 := cell_of_row _ c7 4 _ _ _ hy
         have q5 := cell_of_row _ c7 5 _ _ _ hy
         clear hy
         go_wp2_with fail
         go_quiet (fail)
         go_wp2_with fail
         go_meet
         exact ⟨rfl, Lib.hid (below_drews (Below.refl _ _) _)⟩
        case rest =>
        obtain ⟨rfl, HBC⟩ := hcut
        obtain ⟨w9, rfl⟩ : ∃ q : World, q = wc := ⟨_, rfl⟩
        have HO2 := Lib.hid (own_later HO.out HBC.out (Nat.le_refl _))
        have HB2 := Lib.hid (HB.out.trans (HBC.out.mono HB.out.size))
        have HE2 := Lib.hid (HE.out.below HBC.out)
        clear HO HBC HE EN
        cases bb
        case false =>
         have SN := Lib.hid (FF.out rfl)
         go_wp2_with fail
         go_roundw
         case rel => exact ⟨j + 1, _, av, an, ac, rfl, by go_num, by omega, rfl, by rw [SN.out]; exact HAN, by rw [SN.out]; exact HO2, HB2⟩
         case measure => simp [intOf]; omega
        case true =>
         have SN := Lib.hid (FT.out rfl)
         have BB := Lib.hid HB2.out.size
         obtain ⟨p0, p1, p2, p3, p4, p5⟩ := HE2.out
         go_wp2_with (at_builtin; go_must (refine wpList_app rfl _ _ 22 22 rfl w7.heap.size 53 _ 6 64 ELT.out (.slice av an ac) an (elsV out) rfl (HO2.out.alloc _) _ 1 (elV y) rfl ((CellsAt.new _ 53 (0, 0) (elV y)).srcN rfl (fun u hu => elsV_one [y] u (by simpa [elsV] using hu)) Tryz.underlying22 1 (by decide)) (by have := AN.out; omega) (by have := AN.out; omega) (by have := BB.out; simp; omega) ?_); go_must (intro v10 w10 hown hgr10 hbel hor); go_must (obtain ⟨a10, c10, rfl, _⟩ := own_slice hown); have OW10 := Lib.hid hown; have B10 : Hid (Below w7.heap.size w7 w10) := Lib.hid (HB2.out.trans (((below_new w9 (.cells #[.int .i64 y.1.g, .int .i64 y.1.r, .string y.1.l, .int .i64 y.1.n, .int .i64 y.1.i, .string y.2] 53)).mono HB2.out.size).trans hbel)); clear hown hgr10 hbel hor p0 p1 p2 p3 p4 p5)
         go_roundw
         case rel => exact ⟨j + 1, _, a10, an + 1, c10, rfl, by go_num, by omega, rfl, Lib.hid (by rw [SN.out, List.length_append, ← HAN.out]; rfl), Lib.hid (by rw [SN.out, elsV_append]; simpa [elsV] using OW10.out), B10⟩
         case measure => simp [intOf]; omega
      · obtain rfl : j = n := by omega
        have hji : ¬ (j : Int) < (j : Int) := by omega
        have e : LL.take j = LL := List.take_of_length_le (by rw [HN.out]; exact Nat.le_refl _)
        rw [e] at HAN HO
        clear e
        obtain ⟨O, hO⟩ : ∃ o, LL.filter Pf = o := ⟨_, rfl⟩
        rw [hO] at HAN HO
        have HOe := Lib.hid hO
        clear hO
        have FL : Hid (sortV (insT (s, x) lt) = sortV (O ++ [(s, x)])) := Lib.hid (by
         have h := tag_ins R.out.ok HND.out OKT.out RM.out
         rw [HLL.out, HPF.out, HOe.out] at h
         exact h)
        have HOL : Hid (O.length ≤ j) := Lib.hid (by rw [← HOe.out, HN.out]; exact List.length_filter_le _ _)
        have LNI : Hid ((insT (s, x) lt).length = an + 1) := Lib.hid (by rw [← sortV_length, FL.out, sortV_length, List.length_append, ← HAN.out]; rfl)
        have HZF : Hid (∀ e ∈ O ++ [(s, x)], e.1.l.size ≤ 9223372036854775807) := Lib.hid (fun e he => by
         rcases List.mem_append.1 he with h | h
         · exact HLS.out e ((List.mem_filter.1 (by rw [← HOe.out] at h; exact h)).1)
         · rw [List.mem_singleton.1 h]; exact HSS.out)
        have SRT : Hid (∀ (W : World) (av : Option Addr) (ac : Nat), CellsAt W av (elsV (O ++ [(s, x)])) → Calls Tryz.prog 13 #[.slice av (an + 1) ac] W fun e w' => ∃ (a5 : Option Addr) (c5 : Nat), e = .returned (.slice a5 (an + 1) c5) ∧ CellsAt w' a5 (elsV (sortV (insT (s, x) lt))) ∧ (∀ ad, a5 = some ad → W.heap.size ≤ ad.block) ∧ Below W.heap.size W w' ∧ ∀ {Ex : Nat → TypeId → Prop}, KeepX Ex W w') := Lib.hid (fun W av ac h => by
         refine (ref11_Sorted (O ++ [(s, x)]) av (an + 1) ac W h (by rw [List.length_append, ← HAN.out]; rfl) (by have := HAN.out; have := HOL.out; have := HZ.out; omega) HZF.out).mono ?_
         rintro e w' ⟨v, rfl, hown, hb⟩
         obtain ⟨a5, c5, rfl, _⟩ := own_slice hown
         refine ⟨a5, c5, rfl, by rw [FL.out]; exact CellsAt.ownN hown, fun ad had => ?_, hb, KeepX.ofBelow hb⟩
         subst had
         exact (hown.lt ad.block rfl).1)
        have HASM : Hid (∀ W, AtS W m → Glob W → Calls Tryz.prog 27 #[.agg #[.pointer (pa m)], .string x] W fun e w' => e = .returned (.bool true) ∧ Below W.heap.size W w' ∧ ∀ {Ex : Nat → TypeId → Prop}, KeepX Ex W w') := Lib.hid (fun W h hg => (has_tag m x W h RM.out (by rw [LNI.out]; have := HAN.out; have := HOL.out; have := HZ.out; omega) HX.out hg).mono fun _ _ ⟨h1, h2⟩ => ⟨by
         have h3 : (s, x) ∈ (insT (s, x) lt).filter (ofX x) := List.mem_filter.2 ⟨(insT_has OKT.out R.out.ok _).2 (.inl rfl), decide_eq_true rfl⟩
         rw [h1, decide_eq_true (List.length_pos_of_mem h3)], h2, KeepX.ofBelow h2⟩)
        have ZL : Hid (z + 1 + 1 < w7.heap.size) := Lib.hid (Array.getElem?_eq_some_iff.1 XP.out).1
        have ANB : an ≤ 900 := by have := HAN.out; have := HOL.out; have := HZ.out; omega
        have GLB : Hid (∀ W, KeepX (fun k _ => k = z + 1 + 1) w7 W → Glob W) := Lib.hid (fun W hk => HG.out.below (B7.out.trans ((hk.toBelowZ (Nat.le_of_lt ZL.out)).mono Z0.out.1)))
        have hSd : KeepX (fun k _ => k = z + 1 + 1) w7 wq.drew := KeepX.ofBelow HB.out.drew
        have YP : Hid (wq.drew.heap[z + 1 + 1]? = some (.cells #[.pointer none] 27 (0, 0))) := Lib.hid (boxStays XP.out HB.out.drew)
        have HOW : Hid (World.ownsRow wq.drew w7.heap.size 53 6 (.slice av an ac) an (elsV O)) := HO
        go_upto_region 14 with (fail)
        refine wp_region_noPanic ?_
        refine wp_region_held_drew (S := (fun w' => KeepX (fun k _ => k = z + 1 + 1) w7 w')) (by kernel_rfl) hSd (fun hS => ?_)
        refine tk (i := 0) (oi := ⟨some 78, _, _, _, _, _⟩) (v := ?_) rfl (Or.inl ⟨by rfl, ?_⟩) hS ?_
        rotate_left 1
        · intro w' hB; have n0 := cell_of_one (hB.row XN.out NE.out); have hyy := hB.row XY.out NE7.out; have y0 := cell_of_row _ c7 0 _ _ _ hyy; have y1 := cell_of_row _ c7 1 _ _ _ hyy; have y2 := cell_of_row _ c7 2 _ _ _ hyy; have y3 := cell_of_row _ c7 3 _ _ _ hyy; have y4 := cell_of_row _ c7 4 _ _ _ hyy; have y5 := cell_of_row _ c7 5 _ _ _ hyy; have hs1 := cell_of_row _ (z + 1) 1 _ _ _ (hB.row XS.out (by omega)); clear hyy; (go_simp <;> with_reducible rfl)
        try simp only [Act.put, zA, zB, zC]
        refine tk (i := 1) (oi := ⟨some 79, _, _, _, _, _⟩) (v := ?_) rfl (Or.inl ⟨by rfl, ?_⟩) hS ?_
        rotate_left 1
        · intro w' hB; (go_simp <;> with_reducible rfl)
        try simp only [Act.put, zA, zB, zC]
        refine tk (i := 2) (oi := ⟨some 80, _, _, _, _, _⟩) (v := ?_) rfl (Or.inl ⟨by rfl, ?_⟩) hS ?_
        rotate_left 1
        · intro w' hB; have n0 := cell_of_one (hB.row XN.out NE.out); have hyy := hB.row XY.out NE7.out; have y0 := cell_of_row _ c7 0 _ _ _ hyy; have y1 := cell_of_row _ c7 1 _ _ _ hyy; have y2 := cell_of_row _ c7 2 _ _ _ hyy; have y3 := cell_of_row _ c7 3 _ _ _ hyy; have y4 := cell_of_row _ c7 4 _ _ _ hyy; have y5 := cell_of_row _ c7 5 _ _ _ hyy; have hs1 := cell_of_row _ (z + 1) 1 _ _ _ (hB.row XS.out (by omega)); clear hyy; (go_simp <;> with_reducible rfl)
        try simp only [Act.put, zA, zB, zC]
        refine tk (i := 6) (oi := ⟨some 84, _, _, _, _, _⟩) (v := ?_) rfl (Or.inl ⟨by rfl, ?_⟩) hS ?_
        rotate_left 1
        · intro w' hB; (go_simp <;> with_reducible rfl)
        try simp only [Act.put, zA, zB, zC]
        refine wpAnyH_ready (rs := [3]) (by kernel_rfl) (by simp) (AllReadyH.cons (o := ⟨some 81, _, _, _, _, _⟩) rfl (fun K hK => ?_) AllReadyH.nil)
        go_simp
        refine hK.out _ _ (hS.alloc _) (fun _ => ?_)
        clear hK K
        refine wpAnyH_madeX hS ?_
        have hS0 := hS
        clear hS
        rintro r3 hw hS
        replace HOW := Lib.hid (show World.ownsRow r3 w7.heap.size 53 6 (.slice av an ac) an (elsV O) from by rw [hw]; exact HOW.out.alloc _)
        have H3 := Lib.hid (cellsAt_made (vs := elV (s, x)) hw)
        replace YP := Lib.hid (boxStays YP.out (show Below _ _ r3 from by rw [hw]; exact below_new _ _))
        clear hw hS0
        try simp only [Act.put, zA, zB, zC]
        refine wpAnyH_ready (rs := [4]) (by kernel_rfl) (by simp) (AllReadyH.cons (o := ⟨some 82, _, _, _, _, _⟩) rfl (fun K hK => ?_) AllReadyH.nil)
        refine step_app rfl _ _ _ _ rfl w7.heap.size 53 _ 6 64 ELT.out (.slice av an ac) an (elsV O) rfl HOW.out _ 1 (elV (s, x)) rfl (H3.out.srcN rfl (fun u hu => elsV_one [(s, x)] u (by simpa [elsV] using hu)) Tryz.underlying22 1 (by decide)) (by unfold maxLen; omega) (by omega) hS.size ?_
        intro v4 r4 hown hgr hb hor
        refine hK.out _ _ (hS.thenB hb) (fun _ => ?_)
        clear hK K
        replace hS := hS.thenB hb
        have H4 := hown
        rw [show elsV O ++ elV (s, x) = elsV (O ++ [(s, x)]) from by rw [elsV_append]; rfl] at H4
        obtain ⟨a4, c4, rfl, _⟩ := own_slice H4
        have C4 : Hid (CellsAt r4 a4 (elsV (O ++ [(s, x)]))) := Lib.hid (CellsAt.ownN H4)
        clear H4 H3 HOW
        replace YP := Lib.hid ((hb.block _ ZL.out).trans YP.out)
        clear hb hgr hor
        try simp only [Act.put, zA, zB, zC]
        refine wpAnyH_ready (rs := [5]) (by kernel_rfl) (by simp) (AllReadyH.cons (o := ⟨some 83, _, _, _, _, _⟩) rfl (fun K hK => ?_) AllReadyH.nil)
        go_simp
        refine (SRT.out _ _ _ C4.out).mono ?_
        rintro e r5 ⟨a5, c5, rfl, hc5, hlt5, hb', hb⟩
        refine hK.out _ _ (hS.trans (hb)) (fun _ => ?_)
        clear hK K
        replace hS := hS.trans (hb)
        have C5 := Lib.hid hc5
        have G5 : Hid (∀ ad, a5 = some ad → ad.block ≠ z + 1 + 1) := Lib.hid (fun ad had e => by have h1 := hlt5 ad had; have h2 := (Array.getElem?_eq_some_iff.1 YP.out).1; omega)
        replace YP := Lib.hid (boxStays YP.out hb')
        clear hb' hc5 hlt5
        clear hb
        try simp only [Act.put, zA, zB, zC]
        refine wpAnyH_ready (rs := [7]) (by kernel_rfl) (by simp) (AllReadyH.cons (o := ⟨some 85, _, _, _, _, _⟩) rfl (fun K hK => ?_) AllReadyH.nil)
        go_simp
        refine (HNUM.out 0 _).mono ?_
        rintro e r7 ⟨rfl, hb', hb⟩
        refine hK.out _ _ (hS.trans (hb)) (fun _ => ?_)
        clear hK K
        replace hS := hS.trans (hb)
        replace YP := Lib.hid (boxStays YP.out hb')
        replace C5 := Lib.hid (C5.out.below hb' rfl)
        clear hb'
        clear hb
        try simp only [Act.put, zA, zB, zC]
        refine tk (i := 8) (oi := ⟨some 86, _, _, _, _, _⟩) (v := ?_) rfl (Or.inl ⟨by rfl, ?_⟩) hS ?_
        rotate_left 1
        · intro w' hB; have n0 := cell_of_one (hB.row XN.out NE.out); have hyy := hB.row XY.out NE7.out; have y0 := cell_of_row _ c7 0 _ _ _ hyy; have y1 := cell_of_row _ c7 1 _ _ _ hyy; have y2 := cell_of_row _ c7 2 _ _ _ hyy; have y3 := cell_of_row _ c7 3 _ _ _ hyy; have y4 := cell_of_row _ c7 4 _ _ _ hyy; have y5 := cell_of_row _ c7 5 _ _ _ hyy; have hs1 := cell_of_row _ (z + 1) 1 _ _ _ (hB.row XS.out (by omega)); clear hyy; (go_simp <;> with_reducible rfl)
        try simp only [Act.put, zA, zB, zC]
        refine tk (i := 9) (oi := ⟨some 87, _, _, _, _, _⟩) (v := ?_) rfl (Or.inl ⟨by rfl, ?_⟩) hS ?_
        rotate_left 1
        · intro w' hB; (go_simp <;> with_reducible rfl)
        try simp only [Act.put, zA, zB, zC]
        refine tk (i := 10) (oi := ⟨some 88, _, _, _, _, _⟩) (v := ?_) rfl (Or.inl ⟨by rfl, ?_⟩) hS ?_
        rotate_left 1
        · intro w' hB; have n0 := cell_of_one (hB.row XN.out NE.out); have hyy := hB.row XY.out NE7.out; have y0 := cell_of_row _ c7 0 _ _ _ hyy; have y1 := cell_of_row _ c7 1 _ _ _ hyy; have y2 := cell_of_row _ c7 2 _ _ _ hyy; have y3 := cell_of_row _ c7 3 _ _ _ hyy; have y4 := cell_of_row _ c7 4 _ _ _ hyy; have y5 := cell_of_row _ c7 5 _ _ _ hyy; have hs1 := cell_of_row _ (z + 1) 1 _ _ _ (hB.row XS.out (by omega)); clear hyy; (go_simp <;> with_reducible rfl)
        try simp only [Act.put, zA, zB, zC]
        refine tk (i := 11) (oi := ⟨some 89, _, _, _, _, _⟩) (v := ?_) rfl (Or.inl ⟨by rfl, ?_⟩) hS ?_
        rotate_left 1
        · intro w' hB; (go_simp <;> with_reducible rfl)
        try simp only [Act.put, zA, zB, zC]
        refine tk (i := 12) (oi := ⟨some 90, _, _, _, _, _⟩) (v := ?_) rfl (Or.inl ⟨by rfl, ?_⟩) hS ?_
        rotate_left 1
        · intro w' hB; have n0 := cell_of_one (hB.row XN.out NE.out); have hyy := hB.row XY.out NE7.out; have y0 := cell_of_row _ c7 0 _ _ _ hyy; have y1 := cell_of_row _ c7 1 _ _ _ hyy; have y2 := cell_of_row _ c7 2 _ _ _ hyy; have y3 := cell_of_row _ c7 3 _ _ _ hyy; have y4 := cell_of_row _ c7 4 _ _ _ hyy; have y5 := cell_of_row _ c7 5 _ _ _ hyy; have hs1 := cell_of_row _ (z + 1) 1 _ _ _ (hB.row XS.out (by omega)); clear hyy; (go_simp <;> with_reducible rfl)
        try simp only [Act.put, zA, zB, zC]
        refine wpAnyH_ready (rs := [13]) (by kernel_rfl) (by simp) (AllReadyH.cons (o := ⟨some 91, _, _, _, _, _⟩) rfl (fun K hK => ?_) AllReadyH.nil)
        go_simp
        refine (HASM.out _ (XM4.out.keepZ hS XP.out (by decide)) (GLB.out _ hS)).mono ?_
        rintro e r13 ⟨rfl, hb', hb⟩
        refine hK.out _ _ (hS.trans (hb)) (fun _ => ?_)
        clear hK K
        replace hS := hS.trans (hb)
        replace YP := Lib.hid (boxStays YP.out hb')
        replace C5 := Lib.hid (C5.out.below hb' rfl)
        clear hb'
        clear hb
        try simp only [Act.put, zA, zB, zC]
        refine tk (i := 14) (oi := ⟨some 92, _, _, _, _, _⟩) (v := ?_) rfl (Or.inl ⟨by rfl, ?_⟩) hS ?_
        rotate_left 1
        · intro w' hB; (go_simp <;> with_reducible rfl)
        try simp only [Act.put, zA, zB, zC]
        refine wpAnyH_ready (rs := [15]) (by kernel_rfl) (by simp) (AllReadyH.cons (o := ⟨none, _, _, _, _, _⟩) rfl (fun K hK => ?_) AllReadyH.nil)
        have y1 := cell_of_one YP.out
        have f1 := frozen_of_row _ (z + 1 + 1) 0 _ _ YP.out
        replace hS := KeepX.setRow hS YP.out rfl 0 (Value.pointer (pa m))
        replace C5 := Lib.hid (C5.out.keepX (KeepX.setRow (KeepX.refl _) YP.out rfl 0 (Value.pointer (pa m))) G5.out)
        replace YP := Lib.hid (Boxed.set (t := 27) (.pointer (pa m)) YP.out)
        go_simp
        refine hK.out _ _ hS (fun _ => ?_)
        clear hK K y1 f1
        try simp only [Act.put, zA, zB, zC]
        refine tk (i := 16) (oi := ⟨some 7, _, _, _, _, _⟩) (v := ?_) rfl (Or.inl ⟨by rfl, ?_⟩) hS ?_
        rotate_left 1
        · intro w' hB; have n0 := cell_of_one (hB.row XN.out NE.out); have hyy := hB.row XY.out NE7.out; have y0 := cell_of_row _ c7 0 _ _ _ hyy; have y1 := cell_of_row _ c7 1 _ _ _ hyy; have y2 := cell_of_row _ c7 2 _ _ _ hyy; have y3 := cell_of_row _ c7 3 _ _ _ hyy; have y4 := cell_of_row _ c7 4 _ _ _ hyy; have y5 := cell_of_row _ c7 5 _ _ _ hyy; have hs1 := cell_of_row _ (z + 1) 1 _ _ _ (hB.row XS.out (by omega)); clear hyy; (go_simp <;> with_reducible rfl)
        try simp only [Act.put, zA, zB, zC]
        refine tk (i := 17) (oi := ⟨some 8, _, _, _, _, _⟩) (v := ?_) rfl (Or.inl ⟨by rfl, ?_⟩) hS ?_
        rotate_left 1
        · intro w' hB; have n0 := cell_of_one (hB.row XN.out NE.out); have hyy := hB.row XY.out NE7.out; have y0 := cell_of_row _ c7 0 _ _ _ hyy; have y1 := cell_of_row _ c7 1 _ _ _ hyy; have y2 := cell_of_row _ c7 2 _ _ _ hyy; have y3 := cell_of_row _ c7 3 _ _ _ hyy; have y4 := cell_of_row _ c7 4 _ _ _ hyy; have y5 := cell_of_row _ c7 5 _ _ _ hyy; have hs1 := cell_of_row _ (z + 1) 1 _ _ _ (hB.row XS.out (by omega)); clear hyy; (go_simp <;> with_reducible rfl)
        try simp only [Act.put, zA, zB, zC]
        refine wpAnyH_done (by kernel_rfl) (NoPanic.normal ?_) _
        all_goals
         generalize r13.setCell ⟨z + 1 + 1, 0, none⟩ (.pointer (pa m)) = r14 at *
         have q := cell_of_one YP.out
         go_wp2_with fail
         refine bodyPost_ret (v := .tuple #[.agg #[.pointer (pa m)], .slice a5 (an + 1) c5, .bool true]) (by simp [results, Tryz.results15, go_sem, q]) rfl ?_
         exact do_endT B7.out Z0.out.1 (Nat.le_of_lt ZL.out) hS (XM4.out.keepZ hS XP.out (by decide)) RM.out C5.out LNI.out.symm (by have := HAN.out; have := HOL.out; omega)
 ·
  by_cases k2 : k = 2
  · subst k2
    go_upto_region 16 with (fail)
    have kM0 := cell_of_one HM.out
    have kS0 := cell_of_row _ _ 0 _ _ _ HS.out
    have kS1 := cell_of_row _ _ 1 _ _ _ HS.out
    have kS2 := cell_of_row _ _ 2 _ _ _ HS.out
    have kS3 := cell_of_row _ _ 3 _ _ _ HS.out
    have kS4 := cell_of_row _ _ 4 _ _ _ HS.out
    have kS5 := cell_of_row _ _ 5 _ _ _ HS.out
    have kS6 := cell_of_row _ _ 6 _ _ _ HS.out
    go_wp2_with fail
    refine (remA_tag t x _ (T.out.below (HC.out.to w (by simp)) rfl) R.out HZL.out (HG.out.below (HC.out.to w (by simp)))).mono ?_
    rintro e w4 ⟨m, kf, ce, rfl, hm, hb, hP⟩
    clear kM0 kS0 kS1 kS2 kS3 kS4 kS5 kS6
    replace HC := Lib.hid (HC.out.push hb)
    clear hb
    have PP := Lib.hid hP
    have TM := Lib.hid hm
    clear hP hm
    have N50 : Hid (w3.heap.size ≤ w4.heap.size) := Lib.hid (HC.out.to w3 (by simp)).size
    go_upto_region 17 with (fail)
    obtain ⟨c5, hc5⟩ : ∃ c, w4.heap.size = c := ⟨_, rfl⟩
    try rw [hc5]
    obtain ⟨w7, hw7⟩ : ∃ X, allocs w4 [.cells #[.pointer (pa m)] 27] = X := ⟨_, rfl⟩
    rw [show w4.alloc (.cells #[.pointer (pa m)] 27) = w7 from hw7]
    have hb : Below w4.heap.size w4 w7 := by rw [← hw7]; exact allocs_below _ _
    have HN5 : Hid (w7.heap[c5]? = some (.cells #[.pointer (pa m)] 27 (0, 0))) := Lib.hid (by have := allocs_get [.cells #[.pointer (pa m)] 27] w4 0 _ rfl; rw [hw7, hc5] at this; exact this)
    have Sc5 : Hid (w4.heap.size = c5) := Lib.hid hc5
    replace HC := Lib.hid (HC.out.push hb)
    clear hb hw7 hc5
    have N5Z : Hid (w3.heap.size ≤ c5) := Lib.hid (by rw [← Sc5.out]; exact N50.out)
    have NE : Hid (c5 ≠ z + 1 + 1) := Lib.hid (by have := N5Z.out; have := Z0.out.2; omega)
    have B7 := Lib.hid (HC.out.to w (by simp))
    have XM := Lib.hid (boxStays HM.out (HC.out.to w3 (by simp)))
    have XS := Lib.hid (boxStays HS.out (HC.out.to w3 (by simp)))
    have XN := HN5
    have XP := Lib.hid (boxStays HP.out (HC.out.to w3 (by simp)))
    have XT := Lib.hid (T.out.below (HC.out.to w (by simp)) rfl)
    have XM4 := Lib.hid (TM.out.below (HC.out.to w4 (by simp)) rfl)
    have XC := Lib.hid (CL.out.below (HC.out.to w (by simp)) rfl)
    have ZL : Hid (z + 1 + 1 < w7.heap.size) := Lib.hid (Array.getElem?_eq_some_iff.1 XP.out).1
    have GLB : Hid (∀ W, KeepX (fun k _ => k = z + 1 + 1) w7 W → Glob W) := Lib.hid (fun W hk => HG.out.below (B7.out.trans ((hk.toBelowZ (Nat.le_of_lt ZL.out)).mono Z0.out.1)))
    clear HC
    cases tv
    case false =>
     obtain ⟨rfl, rfl, rfl⟩ : ce = 2 ∧ kf = 0 ∧ m = .nil := by
      rcases PP.out with ⟨h, _⟩ | ⟨_, h1, h2, h3⟩
      · rw [decide_eq_true h] at HTV; have := HTV.out; cases this
      · exact ⟨h1, h2, h3⟩
     go_upto_region 18 with (fail)
     have YP : Hid (w7.drew.heap[z + 1 + 1]? = some (.cells #[.pointer none] 27 (0, 0))) := XP
     refine wp_region_noPanic ?_
     refine wp_region_held_drew (S := fun w' => KeepX (fun k _ => k = z + 1 + 1) w7 w') (by kernel_rfl) (KeepX.refl _).drew (fun hS => ?_)
     refine tk (i := 0) (oi := ⟨some 105, _, _, _, _, _⟩) (v := ?_) rfl (Or.inl ⟨by rfl, ?_⟩) hS ?_
     rotate_left 1
     · intro w' hB; have m0 := cell_of_one (hB.row XM.out (by omega)); have n0 := cell_of_one (hB.row XN.out NE.out); (go_simp <;> with_reducible rfl)
     try simp only [Act.put, zA, zB, zC]
     refine tk (i := 1) (oi := ⟨some 106, _, _, _, _, _⟩) (v := ?_) rfl (Or.inl ⟨by rfl, ?_⟩) hS ?_
     rotate_left 1
     · intro w' hB; (go_simp <;> with_reducible rfl)
     try simp only [Act.put, zA, zB, zC]
     refine tk (i := 2) (oi := ⟨some 107, _, _, _, _, _⟩) (v := ?_) rfl (Or.inl ⟨by rfl, ?_⟩) hS ?_
     rotate_left 1
     · intro w' hB; (go_simp <;> with_reducible rfl)
     try simp only [Act.put, zA, zB, zC]
     refine wpAnyH_ready (rs := [3]) (by kernel_rfl) (by simp) (AllReadyH.cons (o := ⟨some 108, _, _, _, _, _⟩) rfl (fun K hK => ?_) AllReadyH.nil)
     go_simp
     refine (HNUM.out 2 _).mono ?_
     rintro e r1 ⟨rfl, hb', hb⟩
     refine hK.out _ _ (hS.trans (hb)) (fun _ => ?_)
     clear hK K
     replace hS := hS.trans (hb)
     replace YP := Lib.hid (boxStays YP.out hb')
     clear hb'
     clear hb
     try simp only [Act.put, zA, zB, zC]
     refine tk (i := 4) (oi := ⟨some 109, _, _, _, _, _⟩) (v := ?_) rfl (Or.inl ⟨by rfl, ?_⟩) hS ?_
     rotate_left 1
     · intro w' hB; have m0 := cell_of_one (hB.row XM.out (by omega)); have n0 := cell_of_one (hB.row XN.out NE.out); (go_simp <;> with_reducible rfl)
     try simp only [Act.put, zA, zB, zC]
     refine tk (i := 5) (oi := ⟨some 110, _, _, _, _, _⟩) (v := ?_) rfl (Or.inl ⟨by rfl, ?_⟩) hS ?_
     rotate_left 1
     · intro w' hB; (go_simp <;> with_reducible rfl)
     try simp only [Act.put, zA, zB, zC]
     refine tk (i := 6) (oi := ⟨some 111, _, _, _, _, _⟩) (v := ?_) rfl (Or.inl ⟨by rfl, ?_⟩) hS ?_
     rotate_left 1
     · intro w' hB; (go_simp <;> with_reducible rfl)
     try simp only [Act.put, zA, zB, zC]
     refine tk (i := 7) (oi := ⟨some 112, _, _, _, _, _⟩) (v := ?_) rfl (Or.inl ⟨by rfl, ?_⟩) hS ?_
     rotate_left 1
     · intro w' hB; have m0 := cell_of_one (hB.row XM.out (by omega)); have n0 := cell_of_one (hB.row XN.out NE.out); (go_simp <;> with_reducible rfl)
     try simp only [Act.put, zA, zB, zC]
     refine tk (i := 8) (oi := ⟨some 113, _, _, _, _, _⟩) (v := ?_) rfl (Or.inl ⟨by rfl, ?_⟩) hS ?_
     rotate_left 1
     · intro w' hB; (go_simp <;> with_reducible rfl)
     try simp only [Act.put, zA, zB, zC]
     refine tk (i := 9) (oi := ⟨some 114, _, _, _, _, _⟩) (v := ?_) rfl (Or.inl ⟨by rfl, ?_⟩) hS ?_
     rotate_left 1
     · intro w' hB; (go_simp <;> with_reducible rfl)
     try simp only [Act.put, zA, zB, zC]
     refine tk (i := 10) (oi := ⟨some 115, _, _, _, _, _⟩) (v := ?_) rfl (Or.inl ⟨by rfl, ?_⟩) hS ?_
     rotate_left 1
     · intro w' hB; have m0 := cell_of_one (hB.row XM.out (by omega)); have n0 := cell_of_one (hB.row XN.out NE.out); (go_simp <;> with_reducible rfl)
     try simp only [Act.put, zA, zB, zC]
     refine wpAnyH_ready (rs := [11]) (by kernel_rfl) (by simp) (AllReadyH.cons (o := ⟨some 116, _, _, _, _, _⟩) rfl (fun K hK => ?_) AllReadyH.nil)
     go_simp
     refine (HLEN.out _).mono ?_
     rintro e r2 ⟨rfl, hb', hb⟩
     refine hK.out _ _ (hS.trans (hb)) (fun _ => ?_)
     clear hK K
     replace hS := hS.trans (hb)
     replace YP := Lib.hid (boxStays YP.out hb')
     clear hb'
     clear hb
     try simp only [Act.put, zA, zB, zC]
     refine tk (i := 12) (oi := ⟨some 117, _, _, _, _, _⟩) (v := ?_) rfl (Or.inl ⟨by rfl, ?_⟩) hS ?_
     rotate_left 1
     · intro w' hB; have m0 := cell_of_one (hB.row XM.out (by omega)); have n0 := cell_of_one (hB.row XN.out NE.out); (go_simp <;> with_reducible rfl)
     try simp only [Act.put, zA, zB, zC]
     refine tk (i := 13) (oi := ⟨some 118, _, _, _, _, _⟩) (v := ?_) rfl (Or.inl ⟨by rfl, ?_⟩) hS ?_
     rotate_left 1
     · intro w' hB; (go_simp <;> with_reducible rfl)
     try simp only [Act.put, zA, zB, zC]
     refine wpAnyH_ready (rs := [14]) (by kernel_rfl) (by simp) (AllReadyH.cons (o := ⟨none, _, _, _, _, _⟩) rfl (fun K hK => ?_) AllReadyH.nil)
     have y1 := cell_of_one YP.out
     have f1 := frozen_of_row _ (z + 1 + 1) 0 _ _ YP.out
     replace hS := KeepX.setRow hS YP.out rfl 0 (Value.pointer (pa t))
     replace YP := Lib.hid (Boxed.set (t := 27) (.pointer (pa t)) YP.out)
     go_simp
     refine hK.out _ _ hS (fun _ => ?_)
     clear hK K y1 f1
     try simp only [Act.put, zA, zB, zC]
     refine tk (i := 15) (oi := ⟨some 7, _, _, _, _, _⟩) (v := ?_) rfl (Or.inl ⟨by rfl, ?_⟩) hS ?_
     rotate_left 1
     · intro w' hB; have m0 := cell_of_one (hB.row XM.out (by omega)); have n0 := cell_of_one (hB.row XN.out NE.out); (go_simp <;> with_reducible rfl)
     try simp only [Act.put, zA, zB, zC]
     refine tk (i := 16) (oi := ⟨some 8, _, _, _, _, _⟩) (v := ?_) rfl (Or.inl ⟨by rfl, ?_⟩) hS ?_
     rotate_left 1
     · intro w' hB; have m0 := cell_of_one (hB.row XM.out (by omega)); have n0 := cell_of_one (hB.row XN.out NE.out); (go_simp <;> with_reducible rfl)
     try simp only [Act.put, zA, zB, zC]
     refine wpAnyH_done (by kernel_rfl) (NoPanic.normal ?_) _
     all_goals
      generalize r2.setCell ⟨z + 1 + 1, 0, none⟩ (.pointer (pa t)) = r3 at *
      have q := cell_of_one YP.out
      go_wp2_with fail
      refine bodyPost_ret (v := .tuple #[.agg #[.pointer (pa t)], .slice a n c, .bool true]) (by simp [results, Tryz.results15, go_sem, q]) rfl ?_
      exact do_endT B7.out Z0.out.1 (Nat.le_of_lt ZL.out) hS (XT.out.keepZ hS XP.out (by decide)) R.out (by rw [HLL.out]; exact els_keepX XC.out hS XP.out) HNL.out (by omega)
    case true =>
     obtain ⟨rfl, hkf, hr, hsame⟩ : ce = 0 ∧ kf = (((lt.filter (ofX x)).length : Nat) : Int) ∧ Tag (lt.filter fun e => !ofX x e) m ∧ (lt.filter (ofX x) = [] → m = t) := by
      rcases PP.out with ⟨_, h1, h2, h3, h4⟩ | ⟨h, _⟩
      · exact ⟨h1, h2, h3, h4⟩
      · rw [decide_eq_false h] at HTV; have := HTV.out; cases this
     have RM := Lib.hid hr
     have SAMEM := Lib.hid hsame
     obtain ⟨kn, hkn⟩ : ∃ q, (lt.filter (ofX x)).length = q := ⟨_, rfl⟩
     rw [hkn] at hkf
     subst hkf
     have HKN := Lib.hid hkn
     clear hr hsame hkn PP
     obtain ⟨Pf, hPf⟩ : ∃ P : Ev → Bool, (fun e => !ofX x e) = P := ⟨_, rfl⟩
     have PF : Hid (∀ y, Pf y = !ofX x y) := Lib.hid (fun y => by rw [← hPf])
     have HPF := Lib.hid hPf
     clear hPf
     go_wp2_with fail
     go_loopw [18, 19] (fun ov i wr => ∃ (k : Nat) (wq : World) (av : Option Addr) (an ac : Nat), wq = wr ∧ i = .int .i64 (k : Int) ∧ k ≤ n ∧ ov = .slice av an ac ∧ Hid (an = ((LL.take k).filter Pf).length) ∧ Hid (wq.ownsRow w7.heap.size 53 6 (.slice av an ac) an (elsV ((LL.take k).filter Pf))) ∧ Hid (Below w7.heap.size w7 wq)) (fun _ i _ => n - (intOf i).toNat)
     case atStart => exact ⟨0, _, none, 0, 0, rfl, rfl, Nat.zero_le _, rfl, Lib.hid rfl, Lib.hid ⟨rfl, Or.inl ⟨rfl, rfl⟩⟩, Lib.hid (Below.refl _ _)⟩
     case round =>
      obtain ⟨j, wq, av, an, ac, rfl, rfl, hj, rfl, HAN, HO, HB⟩ := hrel
      have hn9 : n ≤ 900 := HZ.out
      by_cases hlt : j < n
      · have hji : (j : Int) < (n : Int) := by omega
        have hj1 : j < LL.length := by have := HN.out; omega
        obtain ⟨ba, oa, ha, ca⟩ := els_get (XC.out.below HB.out rfl) j hj1
        subst ha
        have FT : Hid (Pf LL[j] = true → (LL.take (j + 1)).filter Pf = (LL.take j).filter Pf ++ [LL[j]]) := Lib.hid (filter_next hj1).1
        have FF : Hid (Pf LL[j] = false → (LL.take (j + 1)).filter Pf = (LL.take j).filter Pf) := Lib.hid (filter_next hj1).2
        have HE := Lib.hid ca
        have AN : Hid (an ≤ 1000) := Lib.hid (by rw [HAN.out]; have h1 := List.length_filter_le Pf (LL.take j); have h2 := List.length_take (i := j) (l := LL); omega)
        clear ca
        generalize LL[j] = y at *
        obtain ⟨out, hout⟩ : ∃ o, (LL.take j).filter Pf = o := ⟨_, rfl⟩
        rw [hout] at HAN HO FT FF
        clear hout
        obtain ⟨bb, hbb⟩ : ∃ b, Pf y = b := ⟨_, rfl⟩
        rw [hbb] at FT FF
        have hnb : (y.2.toList == x.toList) = !bb := by
         rw [← hbb, PF.out y, Pm.eq_iff]
         unfold ofX
         simp
        clear hbb
        go_upto_region 23 with (fail)
        go_cut [132] (fun u132 wx => u132 = .bool bb ∧ Hid (Below wq.heap.size wq wx))
        case first =>
         obtain ⟨p0, p1, p2, p3, p4, p5⟩ := HE.out
         have q1 := cell_of_row _ (z + 1) 1 _ _ _ (boxStays XS.out HB.out)
         go_wp2_with fail
         go_quiet (fail)
         go_wp2_with fail
         go_meet
         exact ⟨by first | rfl | (simp [hnb]), Lib.hid (below_drews (Below.refl _ _) _)⟩
        case rest =>
        obtain ⟨rfl, HBC⟩ := hcut
        obtain ⟨w9, rfl⟩ : ∃ q : World, q = wc := ⟨_, rfl⟩
        have HO2 := Lib.hid (own_later HO.out HBC.out (Nat.le_refl _))
        have HB2 := Lib.hid (HB.out.trans (HBC.out.mono HB.out.size))
        have HE2 := Lib.hid (HE.out.below HBC.out)
        clear HO HBC HE hnb
        cases bb
        case false =>
         have SN := Lib.hid (FF.out rfl)
         go_wp2_with fail
         go_roundw
         case rel => exact ⟨j + 1, _, av, an, ac, rfl, by go_num, by omega, rfl, by rw [SN.out]; exact HAN, by rw [SN.out]; exact HO2, HB2⟩
         case measure => simp [intOf]; omega
        case true =>
         have SN := Lib.hid (FT.out rfl)
         have BB := Lib.hid HB2.out.size
         obtain ⟨p0, p1, p2, p3, p4, p5⟩ := HE2.out
         go_wp2_with (at_builtin; go_must (refine wpList_app rfl _ _ 22 22 rfl w7.heap.size 53 _ 6 64 ELT.out (.slice av an ac) an (elsV out) rfl (HO2.out.alloc _) _ 1 (elV y) rfl ((CellsAt.new _ 53 (0, 0) (elV y)).srcN rfl (fun u hu => elsV_one [y] u (by simpa [elsV] using hu)) Tryz.underlying22 1 (by decide)) (by have := AN.out; omega) (by have := AN.out; omega) (by have := BB.out; simp; omega) ?_); go_must (intro v10 w10 hown hgr10 hbel hor); go_must (obtain ⟨a10, c10, rfl, _⟩ := own_slice hown); have OW10 := Lib.hid hown; have B10 : Hid (Below w7.heap.size w7 w10) := Lib.hid (HB2.out.trans (((below_new w9 (.cells #[.int .i64 y.1.g, .int .i64 y.1.r, .string y.1.l, .int .i64 y.1.n, .int .i64 y.1.i, .string y.2] 53)).mono HB2.out.size).trans hbel)); clear hown hgr10 hbel hor p0 p1 p2 p3 p4 p5)
         go_roundw
         case rel => exact ⟨j + 1, _, a10, an + 1, c10, rfl, by go_num, by omega, rfl, Lib.hid (by rw [SN.out, List.length_append, ← HAN.out]; rfl), Lib.hid (by rw [SN.out, elsV_append]; simpa [elsV] using OW10.out), B10⟩
         case measure => simp [intOf]; omega
      · obtain rfl : j = n := by omega
        have hji : ¬ (j : Int) < (j : Int) := by omega
        have e : LL.take j = LL := List.take_of_length_le (by rw [HN.out]; exact Nat.le_refl _)
        rw [e] at HAN HO
        clear e
        have FL : Hid (sortV (lt.filter fun e => !ofX x e) = LL.filter Pf) := Lib.hid (by rw [tag_drop HND.out x, HLL.out, HPF.out])
        have LNI : Hid ((lt.filter fun e => !ofX x e).length = an) := Lib.hid (by rw [← sortV_length, FL.out]; exact HAN.out.symm)
        have SUM : Hid (kn + an = j) := Lib.hid (by rw [← HKN.out, ← LNI.out, HNL.out]; exact filter_len (ofX x) lt)
        have C9 : Hid (CellsAt wq.drew av (elsV (sortV (lt.filter fun e => !ofX x e)))) := Lib.hid (by rw [FL.out]; exact CellsAt.ownN HO.out)
        have G9 : Hid (∀ ad, av = some ad → ad.block ≠ z + 1 + 1) := Lib.hid (fun ad had e => by subst had; have h1 := (HO.out.lt ad.block rfl).1; have h2 := ZL.out; omega)
        have HASM : Hid (∀ W, AtS W m → Glob W → Calls Tryz.prog 27 #[.agg #[.pointer (pa m)], .string x] W fun e w' => e = .returned (.bool false) ∧ Below W.heap.size W w' ∧ ∀ {Ex : Nat → TypeId → Prop}, KeepX Ex W w') := Lib.hid (fun W h hg => (has_tag m x W h RM.out (by rw [LNI.out]; have := SUM.out; omega) HX.out hg).mono fun _ _ ⟨h1, h2⟩ => ⟨by
         have h3 : (lt.filter fun e => !ofX x e).filter (ofX x) = [] := List.filter_eq_nil_iff.2 fun y hy => by
          have h4 := (List.mem_filter.1 hy).2
          intro h5
          rw [h5] at h4
          cases h4
         rw [h1, h3]; rfl, h2, KeepX.ofBelow h2⟩)
        have hSd : KeepX (fun k _ => k = z + 1 + 1) w7 wq.drew := KeepX.ofBelow HB.out.drew
        have YP : Hid (wq.drew.heap[z + 1 + 1]? = some (.cells #[.pointer none] 27 (0, 0))) := Lib.hid (boxStays XP.out HB.out.drew)
        have HWR : Hid (IntKind.i64.wrap ((j : Int) - (an : Int)) = (kn : Int)) := Lib.hid (by rw [show (j : Int) - (an : Int) = (kn : Int) from by have := SUM.out; omega, IntKind.wrap_i64]; have := SUM.out; omega)
        by_cases hk0 : 0 < kn
        · have hki : (0 : Int) < (kn : Int) := by omega
          have hkd : decide ((0 : Int) < (kn : Int)) = true := decide_eq_true hki
          have hkd2 : decide (0 < kn) = true := decide_eq_true hk0
          clear hk0
          go_upto_region 25 with (fail)
          refine wp_region_noPanic ?_
          refine wp_region_held_drew (S := (fun w' => KeepX (fun k _ => k = z + 1 + 1) w7 w')) (by kernel_rfl) hSd (fun hS => ?_)
          refine tk (i := 0) (oi := ⟨some 140, _, _, _, _, _⟩) (v := ?_) rfl (Or.inl ⟨by rfl, ?_⟩) hS ?_
          rotate_left 1
          · intro w' hB; have n0 := cell_of_one (hB.row XN.out NE.out); have m0 := cell_of_one (hB.row XM.out (by omega)); have hs1 := cell_of_row _ (z + 1) 1 _ _ _ (hB.row XS.out (by omega)); have hwr := HWR.out; (go_simp <;> with_reducible rfl)
          try simp only [Act.put, zA, zB, zC]
          refine tk (i := 1) (oi := ⟨some 141, _, _, _, _, _⟩) (v := ?_) rfl (Or.inl ⟨by rfl, ?_⟩) hS ?_
          rotate_left 1
          · intro w' hB; (go_simp <;> with_reducible rfl)
          try simp only [Act.put, zA, zB, zC]
          refine tk (i := 2) (oi := ⟨some 142, _, _, _, _, _⟩) (v := ?_) rfl (Or.inl ⟨by rfl, ?_⟩) hS ?_
          rotate_left 1
          · intro w' hB; (go_simp <;> with_reducible rfl)
          try simp only [Act.put, zA, zB, zC]
          refine wpAnyH_ready (rs := [3]) (by kernel_rfl) (by simp) (AllReadyH.cons (o := ⟨some 143, _, _, _, _, _⟩) rfl (fun K hK => ?_) AllReadyH.nil)
          go_simp
          refine (HNUM.out 0 _).mono ?_
          rintro e r3 ⟨rfl, hb', hb⟩
          refine hK.out _ _ (hS.trans (hb)) (fun _ => ?_)
          clear hK K
          replace hS := hS.trans (hb)
          replace YP := Lib.hid (boxStays YP.out hb')
          replace C9 := Lib.hid (C9.out.below hb' rfl)
          clear hb'
          clear hb
          try simp only [Act.put, zA, zB, zC]
          refine tk (i := 4) (oi := ⟨some 144, _, _, _, _, _⟩) (v := ?_) rfl (Or.inl ⟨by rfl, ?_⟩) hS ?_
          rotate_left 1
          · intro w' hB; have n0 := cell_of_one (hB.row XN.out NE.out); have m0 := cell_of_one (hB.row XM.out (by omega)); have hs1 := cell_of_row _ (z + 1) 1 _ _ _ (hB.row XS.out (by omega)); have hwr := HWR.out; (go_simp <;> with_reducible rfl)
          try simp only [Act.put, zA, zB, zC]
          refine tk (i := 5) (oi := ⟨some 145, _, _, _, _, _⟩) (v := ?_) rfl (Or.inl ⟨by rfl, ?_⟩) hS ?_
          rotate_left 1
          · intro w' hB; (go_simp <;> with_reducible rfl)
          try simp only [Act.put, zA, zB, zC]
          refine tk (i := 6) (oi := ⟨some 146, _, _, _, _, _⟩) (v := ?_) rfl (Or.inl ⟨by rfl, ?_⟩) hS ?_
          rotate_left 1
          · intro w' hB; (go_simp <;> with_reducible rfl)
          try simp only [Act.put, zA, zB, zC]
          refine tk (i := 7) (oi := ⟨some 147, _, _, _, _, _⟩) (v := ?_) rfl (Or.inl ⟨by rfl, ?_⟩) hS ?_
          rotate_left 1
          · intro w' hB; (go_simp <;> with_reducible rfl)
          try simp only [Act.put, zA, zB, zC]
          refine tk (i := 8) (oi := ⟨some 148, _, _, _, _, _⟩) (v := ?_) rfl (Or.inl ⟨by rfl, ?_⟩) hS ?_
          rotate_left 1
          · intro w' hB; (go_simp <;> with_reducible rfl)
          try simp only [Act.put, zA, zB, zC]
          refine tk (i := 9) (oi := ⟨some 149, _, _, _, _, _⟩) (v := ?_) rfl (Or.inl ⟨by rfl, ?_⟩) hS ?_
          rotate_left 1
          · intro w' hB; (go_simp <;> with_reducible rfl)
          try simp only [Act.put, zA, zB, zC]
          refine tk (i := 10) (oi := ⟨some 150, _, _, _, _, _⟩) (v := ?_) rfl (Or.inl ⟨by rfl, ?_⟩) hS ?_
          rotate_left 1
          · intro w' hB; (go_simp <;> with_reducible rfl)
          try simp only [Act.put, zA, zB, zC]
          refine tk (i := 11) (oi := ⟨some 151, _, _, _, _, _⟩) (v := ?_) rfl (Or.inl ⟨by rfl, ?_⟩) hS ?_
          rotate_left 1
          · intro w' hB; have n0 := cell_of_one (hB.row XN.out NE.out); have m0 := cell_of_one (hB.row XM.out (by omega)); have hs1 := cell_of_row _ (z + 1) 1 _ _ _ (hB.row XS.out (by omega)); have hwr := HWR.out; (go_simp <;> with_reducible rfl)
          try simp only [Act.put, zA, zB, zC]
          refine tk (i := 12) (oi := ⟨some 152, _, _, _, _, _⟩) (v := ?_) rfl (Or.inl ⟨by rfl, ?_⟩) hS ?_
          rotate_left 1
          · intro w' hB; have n0 := cell_of_one (hB.row XN.out NE.out); have m0 := cell_of_one (hB.row XM.out (by omega)); have hs1 := cell_of_row _ (z + 1) 1 _ _ _ (hB.row XS.out (by omega)); have hwr := HWR.out; (go_simp <;> with_reducible rfl)
          try simp only [Act.put, zA, zB, zC]
          refine tk (i := 13) (oi := ⟨some 153, _, _, _, _, _⟩) (v := ?_) rfl (Or.inl ⟨by rfl, ?_⟩) hS ?_
          rotate_left 1
          · intro w' hB; (go_simp <;> with_reducible rfl)
          try simp only [Act.put, zA, zB, zC]
          refine tk (i := 14) (oi := ⟨some 154, _, _, _, _, _⟩) (v := ?_) rfl (Or.inl ⟨by rfl, ?_⟩) hS ?_
          rotate_left 1
          · intro w' hB; (go_simp <;> with_reducible rfl)
          try simp only [Act.put, zA, zB, zC]
          refine tk (i := 15) (oi := ⟨some 155, _, _, _, _, _⟩) (v := ?_) rfl (Or.inl ⟨by rfl, ?_⟩) hS ?_
          rotate_left 1
          · intro w' hB; have n0 := cell_of_one (hB.row XN.out NE.out); have m0 := cell_of_one (hB.row XM.out (by omega)); have hs1 := cell_of_row _ (z + 1) 1 _ _ _ (hB.row XS.out (by omega)); have hwr := HWR.out; (go_simp <;> with_reducible rfl)
          try simp only [Act.put, zA, zB, zC]
          refine tk (i := 16) (oi := ⟨some 156, _, _, _, _, _⟩) (v := ?_) rfl (Or.inl ⟨by rfl, ?_⟩) hS ?_
          rotate_left 1
          · intro w' hB; (go_simp <;> with_reducible rfl)
          try simp only [Act.put, zA, zB, zC]
          refine tk (i := 17) (oi := ⟨some 157, _, _, _, _, _⟩) (v := ?_) rfl (Or.inl ⟨by rfl, ?_⟩) hS ?_
          rotate_left 1
          · intro w' hB; have n0 := cell_of_one (hB.row XN.out NE.out); have m0 := cell_of_one (hB.row XM.out (by omega)); have hs1 := cell_of_row _ (z + 1) 1 _ _ _ (hB.row XS.out (by omega)); have hwr := HWR.out; (go_simp <;> with_reducible rfl)
          try simp only [Act.put, zA, zB, zC]
          refine wpAnyH_ready (rs := [18]) (by kernel_rfl) (by simp) (AllReadyH.cons (o := ⟨some 158, _, _, _, _, _⟩) rfl (fun K hK => ?_) AllReadyH.nil)
          go_simp
          refine (HASM.out _ (XM4.out.keepZ hS XP.out (by decide)) (GLB.out _ hS)).mono ?_
          rintro e r13 ⟨rfl, hb', hb⟩
          refine hK.out _ _ (hS.trans (hb)) (fun _ => ?_)
          clear hK K
          replace hS := hS.trans (hb)
          replace YP := Lib.hid (boxStays YP.out hb')
          replace C9 := Lib.hid (C9.out.below hb' rfl)
          clear hb'
          clear hb
          try simp only [Act.put, zA, zB, zC]
          refine tk (i := 19) (oi := ⟨some 159, _, _, _, _, _⟩) (v := ?_) rfl (Or.inl ⟨by rfl, ?_⟩) hS ?_
          rotate_left 1
          · intro w' hB; (go_simp <;> with_reducible rfl)
          try simp only [Act.put, zA, zB, zC]
          refine tk (i := 20) (oi := ⟨some 160, _, _, _, _, _⟩) (v := ?_) rfl (Or.inl ⟨by rfl, ?_⟩) hS ?_
          rotate_left 1
          · intro w' hB; (go_simp <;> with_reducible rfl)
          try simp only [Act.put, zA, zB, zC]
          refine tk (i := 21) (oi := ⟨some 161, _, _, _, _, _⟩) (v := ?_) rfl (Or.inl ⟨by rfl, ?_⟩) hS ?_
          rotate_left 1
          · intro w' hB; (go_simp <;> with_reducible rfl)
          try simp only [Act.put, zA, zB, zC]
          refine tk (i := 22) (oi := ⟨some 162, _, _, _, _, _⟩) (v := ?_) rfl (Or.inl ⟨by rfl, ?_⟩) hS ?_
          rotate_left 1
          · intro w' hB; (go_simp <;> with_reducible rfl)
          try simp only [Act.put, zA, zB, zC]
          refine tk (i := 23) (oi := ⟨some 163, _, _, _, _, _⟩) (v := ?_) rfl (Or.inl ⟨by rfl, ?_⟩) hS ?_
          rotate_left 1
          · intro w' hB; have n0 := cell_of_one (hB.row XN.out NE.out); have m0 := cell_of_one (hB.row XM.out (by omega)); have hs1 := cell_of_row _ (z + 1) 1 _ _ _ (hB.row XS.out (by omega)); have hwr := HWR.out; (go_simp <;> with_reducible rfl)
          try simp only [Act.put, zA, zB, zC]
          refine tk (i := 24) (oi := ⟨some 164, _, _, _, _, _⟩) (v := ?_) rfl (Or.inl ⟨by rfl, ?_⟩) hS ?_
          rotate_left 1
          · intro w' hB; (go_simp <;> with_reducible rfl)
          try simp only [Act.put, zA, zB, zC]
          refine tk (i := 25) (oi := ⟨some 165, _, _, _, _, _⟩) rfl (Or.inr ⟨by rfl, rfl⟩) hS ?_
          try simp only [Act.put, zA, zB, zC]
          refine tk (i := 26) (oi := ⟨some 166, _, _, _, _, _⟩) rfl (Or.inr ⟨by rfl, rfl⟩) hS ?_
          try simp only [Act.put, zA, zB, zC]
          refine tk (i := 27) (oi := ⟨some 167, _, _, _, _, _⟩) rfl (Or.inr ⟨by rfl, rfl⟩) hS ?_
          try simp only [Act.put, zA, zB, zC]
          refine tk (i := 28) (oi := ⟨some 168, _, _, _, _, _⟩) (v := ?_) rfl (Or.inl ⟨by rfl, ?_⟩) hS ?_
          rotate_left 1
          · intro w' hB; (go_simp <;> with_reducible rfl)
          try simp only [Act.put, zA, zB, zC]
          refine tk (i := 29) (oi := ⟨some 169, _, _, _, _, _⟩) (v := ?_) rfl (Or.inl ⟨by rfl, ?_⟩) hS ?_
          rotate_left 1
          · intro w' hB; (go_simp <;> with_reducible rfl)
          try simp only [Act.put, zA, zB, zC]
          refine wpAnyH_ready (rs := [30]) (by kernel_rfl) (by simp) (AllReadyH.cons (o := ⟨none, _, _, _, _, _⟩) rfl (fun K hK => ?_) AllReadyH.nil)
          have y1 := cell_of_one YP.out
          have f1 := frozen_of_row _ (z + 1 + 1) 0 _ _ YP.out
          replace hS := KeepX.setRow hS YP.out rfl 0 (Value.pointer (pa m))
          replace C9 := Lib.hid (C9.out.keepX (KeepX.setRow (KeepX.refl _) YP.out rfl 0 (Value.pointer (pa m))) G9.out)
          replace YP := Lib.hid (Boxed.set (t := 27) (.pointer (pa m)) YP.out)
          go_simp
          refine hK.out _ _ hS (fun _ => ?_)
          clear hK K y1 f1
          try simp only [Act.put, zA, zB, zC]
          refine tk (i := 31) (oi := ⟨some 7, _, _, _, _, _⟩) (v := ?_) rfl (Or.inl ⟨by rfl, ?_⟩) hS ?_
          rotate_left 1
          · intro w' hB; have n0 := cell_of_one (hB.row XN.out NE.out); have m0 := cell_of_one (hB.row XM.out (by omega)); have hs1 := cell_of_row _ (z + 1) 1 _ _ _ (hB.row XS.out (by omega)); have hwr := HWR.out; (go_simp <;> with_reducible rfl)
          try simp only [Act.put, zA, zB, zC]
          refine tk (i := 32) (oi := ⟨some 8, _, _, _, _, _⟩) (v := ?_) rfl (Or.inl ⟨by rfl, ?_⟩) hS ?_
          rotate_left 1
          · intro w' hB; have n0 := cell_of_one (hB.row XN.out NE.out); have m0 := cell_of_one (hB.row XM.out (by omega)); have hs1 := cell_of_row _ (z + 1) 1 _ _ _ (hB.row XS.out (by omega)); have hwr := HWR.out; (go_simp <;> with_reducible rfl)
          try simp only [Act.put, zA, zB, zC]
          refine wpAnyH_done (by kernel_rfl) (NoPanic.normal ?_) _
          all_goals
           generalize r13.setCell ⟨z + 1 + 1, 0, none⟩ (.pointer (pa m)) = r14 at *
           have q := cell_of_one YP.out
           go_wp2_with fail
           refine bodyPost_ret (v := .tuple #[.agg #[.pointer (pa m)], .slice av an ac, .bool true]) (by simp [results, Tryz.results15, go_sem, q]) rfl ?_
           exact do_endT B7.out Z0.out.1 (Nat.le_of_lt ZL.out) hS (XM4.out.keepZ hS XP.out (by decide)) RM.out C9.out LNI.out.symm (by have := SUM.out; omega)
        · obtain rfl : kn = 0 := by omega
          obtain rfl : m = t := SAMEM.out (List.length_eq_zero_iff.1 HKN.out)
          have SAM : Hid (∀ W, AtS W m → Calls Tryz.prog 55 #[.agg #[.pointer (pa m)], .agg #[.pointer (pa m)]] W fun e w' => e = .returned (.bool true) ∧ Below W.heap.size W w' ∧ ∀ {Ex : Nat → TypeId → Prop}, KeepX Ex W w') := Lib.hid (fun W h => (pm_MSameS m m W h h).mono fun _ _ ⟨h1, h2⟩ => ⟨by rw [h1]; simp, h2, KeepX.ofBelow h2⟩)
          clear hk0
          go_upto_region 25 with (fail)
          refine wp_region_noPanic ?_
          refine wp_region_held_drew (S := (fun w' => KeepX (fun k _ => k = z + 1 + 1) w7 w')) (by kernel_rfl) hSd (fun hS => ?_)
          refine tk (i := 0) (oi := ⟨some 140, _, _, _, _, _⟩) (v := ?_) rfl (Or.inl ⟨by rfl, ?_⟩) hS ?_
          rotate_left 1
          · intro w' hB; have n0 := cell_of_one (hB.row XN.out NE.out); have m0 := cell_of_one (hB.row XM.out (by omega)); have hs1 := cell_of_row _ (z + 1) 1 _ _ _ (hB.row XS.out (by omega)); have hwr := HWR.out; (go_simp <;> with_reducible rfl)
          try simp only [Act.put, zA, zB, zC]
          refine tk (i := 1) (oi := ⟨some 141, _, _, _, _, _⟩) (v := ?_) rfl (Or.inl ⟨by rfl, ?_⟩) hS ?_
          rotate_left 1
          · intro w' hB; (go_simp <;> with_reducible rfl)
          try simp only [Act.put, zA, zB, zC]
          refine tk (i := 2) (oi := ⟨some 142, _, _, _, _, _⟩) (v := ?_) rfl (Or.inl ⟨by rfl, ?_⟩) hS ?_
          rotate_left 1
          · intro w' hB; (go_simp <;> with_reducible rfl)
          try simp only [Act.put, zA, zB, zC]
          refine wpAnyH_ready (rs := [3]) (by kernel_rfl) (by simp) (AllReadyH.cons (o := ⟨some 143, _, _, _, _, _⟩) rfl (fun K hK => ?_) AllReadyH.nil)
          go_simp
          refine (HNUM.out 0 _).mono ?_
          rintro e r3 ⟨rfl, hb', hb⟩
          refine hK.out _ _ (hS.trans (hb)) (fun _ => ?_)
          clear hK K
          replace hS := hS.trans (hb)
          replace YP := Lib.hid (boxStays YP.out hb')
          replace C9 := Lib.hid (C9.out.below hb' rfl)
          clear hb'
          clear hb
          try simp only [Act.put, zA, zB, zC]
          refine tk (i := 4) (oi := ⟨some 144, _, _, _, _, _⟩) (v := ?_) rfl (Or.inl ⟨by rfl, ?_⟩) hS ?_
          rotate_left 1
          · intro w' hB; have n0 := cell_of_one (hB.row XN.out NE.out); have m0 := cell_of_one (hB.row XM.out (by omega)); have hs1 := cell_of_row _ (z + 1) 1 _ _ _ (hB.row XS.out (by omega)); have hwr := HWR.out; (go_simp <;> with_reducible rfl)
          try simp only [Act.put, zA, zB, zC]
          refine tk (i := 5) (oi := ⟨some 145, _, _, _, _, _⟩) (v := ?_) rfl (Or.inl ⟨by rfl, ?_⟩) hS ?_
          rotate_left 1
          · intro w' hB; (go_simp <;> with_reducible rfl)
          try simp only [Act.put, zA, zB, zC]
          refine tk (i := 6) (oi := ⟨some 146, _, _, _, _, _⟩) (v := ?_) rfl (Or.inl ⟨by rfl, ?_⟩) hS ?_
          rotate_left 1
          · intro w' hB; (go_simp <;> with_reducible rfl)
          try simp only [Act.put, zA, zB, zC]
          refine tk (i := 7) (oi := ⟨some 147, _, _, _, _, _⟩) (v := ?_) rfl (Or.inl ⟨by rfl, ?_⟩) hS ?_
          rotate_left 1
          · intro w' hB; (go_simp <;> with_reducible rfl)
          try simp only [Act.put, zA, zB, zC]
          refine tk (i := 8) (oi := ⟨some 148, _, _, _, _, _⟩) (v := ?_) rfl (Or.inl ⟨by rfl, ?_⟩) hS ?_
          rotate_left 1
          · intro w' hB; (go_simp <;> with_reducible rfl)
          try simp only [Act.put, zA, zB, zC]
          refine tk (i := 9) (oi := ⟨some 149, _, _, _, _, _⟩) (v := ?_) rfl (Or.inl ⟨by rfl, ?_⟩) hS ?_
          rotate_left 1
          · intro w' hB; (go_simp <;> with_reducible rfl)
          try simp only [Act.put, zA, zB, zC]
          refine tk (i := 10) (oi := ⟨some 150, _, _, _, _, _⟩) (v := ?_) rfl (Or.inl ⟨by rfl, ?_⟩) hS ?_
          rotate_left 1
          · intro w' hB; (go_simp <;> with_reducible rfl)
          try simp only [Act.put, zA, zB, zC]
          refine tk (i := 11) (oi := ⟨some 151, _, _, _, _, _⟩) (v := ?_) rfl (Or.inl ⟨by rfl, ?_⟩) hS ?_
          rotate_left 1
          · intro w' hB; have n0 := cell_of_one (hB.row XN.out NE.out); have m0 := cell_of_one (hB.row XM.out (by omega)); have hs1 := cell_of_row _ (z + 1) 1 _ _ _ (hB.row XS.out (by omega)); have hwr := HWR.out; (go_simp <;> with_reducible rfl)
          try simp only [Act.put, zA, zB, zC]
          refine tk (i := 12) (oi := ⟨some 152, _, _, _, _, _⟩) (v := ?_) rfl (Or.inl ⟨by rfl, ?_⟩) hS ?_
          rotate_left 1
          · intro w' hB; have n0 := cell_of_one (hB.row XN.out NE.out); have m0 := cell_of_one (hB.row XM.out (by omega)); have hs1 := cell_of_row _ (z + 1) 1 _ _ _ (hB.row XS.out (by omega)); have hwr := HWR.out; (go_simp <;> with_reducible rfl)
          try simp only [Act.put, zA, zB, zC]
          refine tk (i := 13) (oi := ⟨some 153, _, _, _, _, _⟩) (v := ?_) rfl (Or.inl ⟨by rfl, ?_⟩) hS ?_
          rotate_left 1
          · intro w' hB; (go_simp <;> with_reducible rfl)
          try simp only [Act.put, zA, zB, zC]
          refine tk (i := 14) (oi := ⟨some 154, _, _, _, _, _⟩) (v := ?_) rfl (Or.inl ⟨by rfl, ?_⟩) hS ?_
          rotate_left 1
          · intro w' hB; (go_simp <;> with_reducible rfl)
          try simp only [Act.put, zA, zB, zC]
          refine tk (i := 15) (oi := ⟨some 155, _, _, _, _, _⟩) (v := ?_) rfl (Or.inl ⟨by rfl, ?_⟩) hS ?_
          rotate_left 1
          · intro w' hB; have n0 := cell_of_one (hB.row XN.out NE.out); have m0 := cell_of_one (hB.row XM.out (by omega)); have hs1 := cell_of_row _ (z + 1) 1 _ _ _ (hB.row XS.out (by omega)); have hwr := HWR.out; (go_simp <;> with_reducible rfl)
          try simp only [Act.put, zA, zB, zC]
          refine tk (i := 16) (oi := ⟨some 156, _, _, _, _, _⟩) (v := ?_) rfl (Or.inl ⟨by rfl, ?_⟩) hS ?_
          rotate_left 1
          · intro w' hB; (go_simp <;> with_reducible rfl)
          try simp only [Act.put, zA, zB, zC]
          refine tk (i := 17) (oi := ⟨some 157, _, _, _, _, _⟩) (v := ?_) rfl (Or.inl ⟨by rfl, ?_⟩) hS ?_
          rotate_left 1
          · intro w' hB; have n0 := cell_of_one (hB.row XN.out NE.out); have m0 := cell_of_one (hB.row XM.out (by omega)); have hs1 := cell_of_row _ (z + 1) 1 _ _ _ (hB.row XS.out (by omega)); have hwr := HWR.out; (go_simp <;> with_reducible rfl)
          try simp only [Act.put, zA, zB, zC]
          refine wpAnyH_ready (rs := [18]) (by kernel_rfl) (by simp) (AllReadyH.cons (o := ⟨some 158, _, _, _, _, _⟩) rfl (fun K hK => ?_) AllReadyH.nil)
          go_simp
          refine (HASM.out _ (XM4.out.keepZ hS XP.out (by decide)) (GLB.out _ hS)).mono ?_
          rintro e r13 ⟨rfl, hb', hb⟩
          refine hK.out _ _ (hS.trans (hb)) (fun _ => ?_)
          clear hK K
          replace hS := hS.trans (hb)
          replace YP := Lib.hid (boxStays YP.out hb')
          replace C9 := Lib.hid (C9.out.below hb' rfl)
          clear hb'
          clear hb
          try simp only [Act.put, zA, zB, zC]
          refine tk (i := 19) (oi := ⟨some 159, _, _, _, _, _⟩) (v := ?_) rfl (Or.inl ⟨by rfl, ?_⟩) hS ?_
          rotate_left 1
          · intro w' hB; (go_simp <;> with_reducible rfl)
          try simp only [Act.put, zA, zB, zC]
          refine tk (i := 20) (oi := ⟨some 160, _, _, _, _, _⟩) (v := ?_) rfl (Or.inl ⟨by rfl, ?_⟩) hS ?_
          rotate_left 1
          · intro w' hB; (go_simp <;> with_reducible rfl)
          try simp only [Act.put, zA, zB, zC]
          refine tk (i := 21) (oi := ⟨some 161, _, _, _, _, _⟩) (v := ?_) rfl (Or.inl ⟨by rfl, ?_⟩) hS ?_
          rotate_left 1
          · intro w' hB; (go_simp <;> with_reducible rfl)
          try simp only [Act.put, zA, zB, zC]
          refine tk (i := 22) (oi := ⟨some 162, _, _, _, _, _⟩) (v := ?_) rfl (Or.inl ⟨by rfl, ?_⟩) hS ?_
          rotate_left 1
          · intro w' hB; (go_simp <;> with_reducible rfl)
          try simp only [Act.put, zA, zB, zC]
          refine tk (i := 23) (oi := ⟨some 163, _, _, _, _, _⟩) (v := ?_) rfl (Or.inl ⟨by rfl, ?_⟩) hS ?_
          rotate_left 1
          · intro w' hB; have n0 := cell_of_one (hB.row XN.out NE.out); have m0 := cell_of_one (hB.row XM.out (by omega)); have hs1 := cell_of_row _ (z + 1) 1 _ _ _ (hB.row XS.out (by omega)); have hwr := HWR.out; (go_simp <;> with_reducible rfl)
          try simp only [Act.put, zA, zB, zC]
          refine tk (i := 24) (oi := ⟨some 164, _, _, _, _, _⟩) (v := ?_) rfl (Or.inl ⟨by rfl, ?_⟩) hS ?_
          rotate_left 1
          · intro w' hB; (go_simp <;> with_reducible rfl)
          try simp only [Act.put, zA, zB, zC]
          refine tk (i := 25) (oi := ⟨some 165, _, _, _, _, _⟩) (v := ?_) rfl (Or.inl ⟨by rfl, ?_⟩) hS ?_
          rotate_left 1
          · intro w' hB; have n0 := cell_of_one (hB.row XN.out NE.out); have m0 := cell_of_one (hB.row XM.out (by omega)); have hs1 := cell_of_row _ (z + 1) 1 _ _ _ (hB.row XS.out (by omega)); have hwr := HWR.out; (go_simp <;> with_reducible rfl)
          try simp only [Act.put, zA, zB, zC]
          refine tk (i := 26) (oi := ⟨some 166, _, _, _, _, _⟩) (v := ?_) rfl (Or.inl ⟨by rfl, ?_⟩) hS ?_
          rotate_left 1
          · intro w' hB; have n0 := cell_of_one (hB.row XN.out NE.out); have m0 := cell_of_one (hB.row XM.out (by omega)); have hs1 := cell_of_row _ (z + 1) 1 _ _ _ (hB.row XS.out (by omega)); have hwr := HWR.out; (go_simp <;> with_reducible rfl)
          try simp only [Act.put, zA, zB, zC]
          refine wpAnyH_ready (rs := [27]) (by kernel_rfl) (by simp) (AllReadyH.cons (o := ⟨some 167, _, _, _, _, _⟩) rfl (fun K hK => ?_) AllReadyH.nil)
          go_simp
          refine (SAM.out _ (XT.out.keepZ hS XP.out (by decide))).mono ?_
          rintro e r13 ⟨rfl, hb', hb⟩
          refine hK.out _ _ (hS.trans (hb)) (fun _ => ?_)
          clear hK K
          replace hS := hS.trans (hb)
          replace YP := Lib.hid (boxStays YP.out hb')
          replace C9 := Lib.hid (C9.out.below hb' rfl)
          clear hb'
          clear hb
          try simp only [Act.put, zA, zB, zC]
          refine tk (i := 28) (oi := ⟨some 168, _, _, _, _, _⟩) (v := ?_) rfl (Or.inl ⟨by rfl, ?_⟩) hS ?_
          rotate_left 1
          · intro w' hB; (go_simp <;> with_reducible rfl)
          try simp only [Act.put, zA, zB, zC]
          refine tk (i := 29) (oi := ⟨some 169, _, _, _, _, _⟩) (v := ?_) rfl (Or.inl ⟨by rfl, ?_⟩) hS ?_
          rotate_left 1
          · intro w' hB; (go_simp <;> with_reducible rfl)
          try simp only [Act.put, zA, zB, zC]
          refine wpAnyH_ready (rs := [30]) (by kernel_rfl) (by simp) (AllReadyH.cons (o := ⟨none, _, _, _, _, _⟩) rfl (fun K hK => ?_) AllReadyH.nil)
          have y1 := cell_of_one YP.out
          have f1 := frozen_of_row _ (z + 1 + 1) 0 _ _ YP.out
          replace hS := KeepX.setRow hS YP.out rfl 0 (Value.pointer (pa m))
          replace C9 := Lib.hid (C9.out.keepX (KeepX.setRow (KeepX.refl _) YP.out rfl 0 (Value.pointer (pa m))) G9.out)
          replace YP := Lib.hid (Boxed.set (t := 27) (.pointer (pa m)) YP.out)
          go_simp
          refine hK.out _ _ hS (fun _ => ?_)
          clear hK K y1 f1
          try simp only [Act.put, zA, zB, zC]
          refine tk (i := 31) (oi := ⟨some 7, _, _, _, _, _⟩) (v := ?_) rfl (Or.inl ⟨by rfl, ?_⟩) hS ?_
          rotate_left 1
          · intro w' hB; have n0 := cell_of_one (hB.row XN.out NE.out); have m0 := cell_of_one (hB.row XM.out (by omega)); have hs1 := cell_of_row _ (z + 1) 1 _ _ _ (hB.row XS.out (by omega)); have hwr := HWR.out; (go_simp <;> with_reducible rfl)
          try simp only [Act.put, zA, zB, zC]
          refine tk (i := 32) (oi := ⟨some 8, _, _, _, _, _⟩) (v := ?_) rfl (Or.inl ⟨by rfl, ?_⟩) hS ?_
          rotate_left 1
          · intro w' hB; have n0 := cell_of_one (hB.row XN.out NE.out); have m0 := cell_of_one (hB.row XM.out (by omega)); have hs1 := cell_of_row _ (z + 1) 1 _ _ _ (hB.row XS.out (by omega)); have hwr := HWR.out; (go_simp <;> with_reducible rfl)
          try simp only [Act.put, zA, zB, zC]
          refine wpAnyH_done (by kernel_rfl) (NoPanic.normal ?_) _
          all_goals
           generalize r13.setCell ⟨z + 1 + 1, 0, none⟩ (.pointer (pa m)) = r14 at *
           have q := cell_of_one YP.out
           go_wp2_with fail
           refine bodyPost_ret (v := .tuple #[.agg #[.pointer (pa m)], .slice av an ac, .bool true]) (by simp [results, Tryz.results15, go_sem, q]) rfl ?_
           exact do_endT B7.out Z0.out.1 (Nat.le_of_lt ZL.out) hS (XM4.out.keepZ hS XP.out (by decide)) RM.out C9.out LNI.out.symm (by have := SUM.out; omega)
  ·
   have XM := Lib.hid (boxStays HM.out (HC.out.to w3 (by simp)))
   have XS := Lib.hid (boxStays HS.out (HC.out.to w3 (by simp)))
   have XP := Lib.hid (boxStays HP.out (HC.out.to w3 (by simp)))
   have XT := Lib.hid (T.out.below (HC.out.to w (by simp)) rfl)
   have XC := Lib.hid (CL.out.below (HC.out.to w (by simp)) rfl)
   have B7 := Lib.hid (HC.out.to w (by simp))
   obtain ⟨w7, hw7⟩ : ∃ W, W = w3 := ⟨_, rfl⟩
   have ZL : Hid (z + 1 + 1 < w3.heap.size) := Lib.hid (Array.getElem?_eq_some_iff.1 XP.out).1
   have GLB : Hid (∀ W, KeepX (fun k _ => k = z + 1 + 1) w3 W → Glob W) := Lib.hid (fun W hk => HG.out.below (B7.out.trans ((hk.toBelowZ (Nat.le_of_lt ZL.out)).mono Z0.out.1)))
   obtain ⟨nX, hnX⟩ : ∃ q, (lt.filter (ofX x)).length = q := ⟨_, rfl⟩
   have HNX := Lib.hid hnX
   have LSX : Hid ((stsX x LL).length = nX) := Lib.hid (by rw [← HLL.out, R.out.stsX, stsX, List.length_map]; exact HNX.out)
   have RTG : Hid (∀ W, CellsAt W a (elsV LL) → Calls Tryz.prog 54 #[.slice a n c, .string x] W fun e w' => ∃ (a5 : Option Addr) (c5 : Nat), e = .returned (.slice a5 nX c5) ∧ CellsAt w' a5 (stsV (stsX x LL)) ∧ Below W.heap.size W w' ∧ ∀ {Ex : Nat → TypeId → Prop}, KeepX Ex W w') := Lib.hid (fun W h => by
    refine (ref11_Tags LL x a n c W h HN.out (by have := HZ.out; omega)).mono ?_
    rintro e w' ⟨v, rfl, hown, hb⟩
    rw [LSX.out] at hown
    obtain ⟨a5, c5, rfl, _⟩ := own_slice hown
    exact ⟨a5, c5, rfl, CellsAt.ownN hown, hb, KeepX.ofBelow hb⟩)
   clear hnX hw7 HC
   by_cases k3 : k = 3
   · subst k3
     have HAST : Hid (∀ W, AtS W t → Glob W → Calls Tryz.prog 27 #[.agg #[.pointer (pa t)], .string x] W fun e w' => e = .returned (.bool (decide (0 < nX))) ∧ Below W.heap.size W w' ∧ ∀ {Ex : Nat → TypeId → Prop}, KeepX Ex W w') := Lib.hid (fun W h hg => (has_tag t x W h R.out HZL.out HX.out hg).mono fun _ _ ⟨h1, h2⟩ => ⟨by rw [h1, HNX.out], h2, KeepX.ofBelow h2⟩)
     go_upto_region 27 with (fail)
     have YP : Hid (w3.drew.heap[z + 1 + 1]? = some (.cells #[.pointer none] 27 (0, 0))) := XP
     refine wp_region_noPanic ?_
     refine wp_region_held_drew (S := fun w' => KeepX (fun k _ => k = z + 1 + 1) w3 w') (by kernel_rfl) (KeepX.refl _).drew (fun hS => ?_)
     refine tk (i := 0) (oi := ⟨some 172, _, _, _, _, _⟩) (v := ?_) rfl (Or.inl ⟨by rfl, ?_⟩) hS ?_
     rotate_left 1
     · intro w' hB; have m0 := cell_of_one (hB.row XM.out (by omega)); have hs1 := cell_of_row _ (z + 1) 1 _ _ _ (hB.row XS.out (by omega)); (go_simp <;> with_reducible rfl)
     try simp only [Act.put, zA, zB, zC]
     refine tk (i := 1) (oi := ⟨some 173, _, _, _, _, _⟩) (v := ?_) rfl (Or.inl ⟨by rfl, ?_⟩) hS ?_
     rotate_left 1
     · intro w' hB; (go_simp <;> with_reducible rfl)
     try simp only [Act.put, zA, zB, zC]
     refine tk (i := 2) (oi := ⟨some 174, _, _, _, _, _⟩) (v := ?_) rfl (Or.inl ⟨by rfl, ?_⟩) hS ?_
     rotate_left 1
     · intro w' hB; have m0 := cell_of_one (hB.row XM.out (by omega)); have hs1 := cell_of_row _ (z + 1) 1 _ _ _ (hB.row XS.out (by omega)); (go_simp <;> with_reducible rfl)
     try simp only [Act.put, zA, zB, zC]
     refine tk (i := 3) (oi := ⟨some 175, _, _, _, _, _⟩) (v := ?_) rfl (Or.inl ⟨by rfl, ?_⟩) hS ?_
     rotate_left 1
     · intro w' hB; (go_simp <;> with_reducible rfl)
     try simp only [Act.put, zA, zB, zC]
     refine tk (i := 4) (oi := ⟨some 176, _, _, _, _, _⟩) (v := ?_) rfl (Or.inl ⟨by rfl, ?_⟩) hS ?_
     rotate_left 1
     · intro w' hB; have m0 := cell_of_one (hB.row XM.out (by omega)); have hs1 := cell_of_row _ (z + 1) 1 _ _ _ (hB.row XS.out (by omega)); (go_simp <;> with_reducible rfl)
     try simp only [Act.put, zA, zB, zC]
     refine tk (i := 6) (oi := ⟨some 178, _, _, _, _, _⟩) (v := ?_) rfl (Or.inl ⟨by rfl, ?_⟩) hS ?_
     rotate_left 1
     · intro w' hB; (go_simp <;> with_reducible rfl)
     try simp only [Act.put, zA, zB, zC]
     refine tk (i := 7) (oi := ⟨some 179, _, _, _, _, _⟩) (v := ?_) rfl (Or.inl ⟨by rfl, ?_⟩) hS ?_
     rotate_left 1
     · intro w' hB; (go_simp <;> with_reducible rfl)
     try simp only [Act.put, zA, zB, zC]
     refine tk (i := 8) (oi := ⟨some 180, _, _, _, _, _⟩) (v := ?_) rfl (Or.inl ⟨by rfl, ?_⟩) hS ?_
     rotate_left 1
     · intro w' hB; have m0 := cell_of_one (hB.row XM.out (by omega)); have hs1 := cell_of_row _ (z + 1) 1 _ _ _ (hB.row XS.out (by omega)); (go_simp <;> with_reducible rfl)
     try simp only [Act.put, zA, zB, zC]
     refine wpAnyH_ready (rs := [5]) (by kernel_rfl) (by simp) (AllReadyH.cons (o := ⟨some 177, _, _, _, _, _⟩) rfl (fun K hK => ?_) AllReadyH.nil)
     go_simp
     refine (HAST.out _ (XT.out.keepZ hS XP.out (by decide)) (GLB.out _ hS)).mono ?_
     rintro e r5 ⟨rfl, hb', hb⟩
     refine hK.out _ _ (hS.trans (hb)) (fun _ => ?_)
     clear hK K
     replace hS := hS.trans (hb)
     replace YP := Lib.hid (boxStays YP.out hb')
     clear hb'
     clear hb
     try simp only [Act.put, zA, zB, zC]
     refine wpAnyH_ready (rs := [9]) (by kernel_rfl) (by simp) (AllReadyH.cons (o := ⟨some 181, _, _, _, _, _⟩) rfl (fun K hK => ?_) AllReadyH.nil)
     go_simp
     refine (RTG.out _ (els_keepX XC.out hS XP.out)).mono ?_
     rintro e r9 ⟨a5, c5, rfl, _, hb', hb⟩
     refine hK.out _ _ (hS.trans (hb)) (fun _ => ?_)
     clear hK K
     replace hS := hS.trans (hb)
     replace YP := Lib.hid (boxStays YP.out hb')
     clear hb'
     clear hb
     try simp only [Act.put, zA, zB, zC]
     refine tk (i := 10) (oi := ⟨some 182, _, _, _, _, _⟩) (v := ?_) rfl (Or.inl ⟨by rfl, ?_⟩) hS ?_
     rotate_left 1
     · intro w' hB; (go_simp <;> with_reducible rfl)
     try simp only [Act.put, zA, zB, zC]
     refine tk (i := 11) (oi := ⟨some 183, _, _, _, _, _⟩) (v := ?_) rfl (Or.inl ⟨by rfl, ?_⟩) hS ?_
     rotate_left 1
     · intro w' hB; have m0 := cell_of_one (hB.row XM.out (by omega)); have hs1 := cell_of_row _ (z + 1) 1 _ _ _ (hB.row XS.out (by omega)); (go_simp <;> with_reducible rfl)
     try simp only [Act.put, zA, zB, zC]
     refine tk (i := 12) (oi := ⟨some 184, _, _, _, _, _⟩) (v := ?_) rfl (Or.inl ⟨by rfl, ?_⟩) hS ?_
     rotate_left 1
     · intro w' hB; have m0 := cell_of_one (hB.row XM.out (by omega)); have hs1 := cell_of_row _ (z + 1) 1 _ _ _ (hB.row XS.out (by omega)); (go_simp <;> with_reducible rfl)
     try simp only [Act.put, zA, zB, zC]
     refine wpAnyH_ready (rs := [13]) (by kernel_rfl) (by simp) (AllReadyH.cons (o := ⟨none, _, _, _, _, _⟩) rfl (fun K hK => ?_) AllReadyH.nil)
     have y1 := cell_of_one YP.out
     have f1 := frozen_of_row _ (z + 1 + 1) 0 _ _ YP.out
     replace hS := KeepX.setRow hS YP.out rfl 0 (Value.pointer (pa t))
     replace YP := Lib.hid (Boxed.set (t := 27) (.pointer (pa t)) YP.out)
     go_simp
     refine hK.out _ _ hS (fun _ => ?_)
     clear hK K y1 f1
     try simp only [Act.put, zA, zB, zC]
     refine tk (i := 14) (oi := ⟨some 7, _, _, _, _, _⟩) (v := ?_) rfl (Or.inl ⟨by rfl, ?_⟩) hS ?_
     rotate_left 1
     · intro w' hB; have m0 := cell_of_one (hB.row XM.out (by omega)); have hs1 := cell_of_row _ (z + 1) 1 _ _ _ (hB.row XS.out (by omega)); (go_simp <;> with_reducible rfl)
     try simp only [Act.put, zA, zB, zC]
     refine tk (i := 15) (oi := ⟨some 8, _, _, _, _, _⟩) (v := ?_) rfl (Or.inl ⟨by rfl, ?_⟩) hS ?_
     rotate_left 1
     · intro w' hB; have m0 := cell_of_one (hB.row XM.out (by omega)); have hs1 := cell_of_row _ (z + 1) 1 _ _ _ (hB.row XS.out (by omega)); (go_simp <;> with_reducible rfl)
     try simp only [Act.put, zA, zB, zC]
     refine wpAnyH_done (by kernel_rfl) (NoPanic.normal ?_) _
     all_goals
      generalize r9.setCell ⟨z + 1 + 1, 0, none⟩ (.pointer (pa t)) = r14 at *
      have q := cell_of_one YP.out
      go_wp2_with fail
      refine bodyPost_ret (v := .tuple #[.agg #[.pointer (pa t)], .slice a n c, .bool true]) (by simp [results, Tryz.results15, go_sem, q]) rfl ?_
      exact do_endT B7.out Z0.out.1 (Nat.le_of_lt ZL.out) hS (XT.out.keepZ hS XP.out (by decide)) R.out (by rw [HLL.out]; exact els_keepX XC.out hS XP.out) HNL.out (by omega)
   ·
    by_cases k4 : k = 4
    · subst k4
      have TGS : Hid (∀ W, AtS W t → Glob W → Calls Tryz.prog 28 #[.agg #[.pointer (pa t)], .string x] W fun e w' => ∃ (a4 : Option Addr) (c4 : Nat), e = .returned (.slice a4 nX c4) ∧ CellsAt w' a4 (stsV (stsX x LL)) ∧ Below W.heap.size W w' ∧ ∀ {Ex : Nat → TypeId → Prop}, KeepX Ex W w') := Lib.hid (fun W h hg => by
       refine (tags_tag t x W h R.out HZL.out HX.out hg).mono ?_
       rintro e w' ⟨v, rfl, hb, hown⟩
       rw [HNX.out] at hown
       obtain ⟨a4, c4, rfl, _⟩ := own_slice hown
       refine ⟨a4, c4, rfl, ?_, hb, KeepX.ofBelow hb⟩
       rw [← HLL.out, R.out.stsX]
       exact CellsAt.ownN hown)
      have SST : Hid (∀ (W : World) (a4 a5 : Option Addr) (c4 c5 : Nat), CellsAt W a4 (stsV (stsX x LL)) → CellsAt W a5 (stsV (stsX x LL)) → Calls Tryz.prog 53 #[.slice a4 nX c4, .slice a5 nX c5] W fun e w' => e = .returned (.bool true) ∧ Below W.heap.size W w' ∧ ∀ {Ex : Nat → TypeId → Prop}, KeepX Ex W w') := Lib.hid (fun W a4 a5 c4 c5 h1 h2 => (ref11_SameStamps _ _ a4 a5 nX nX c4 c5 W h1 h2 LSX.out.symm LSX.out.symm (by rw [← HNX.out]; have h3 := List.length_filter_le (ofX x) lt; have := HZL.out; omega)).mono fun _ _ ⟨h1, h2⟩ => ⟨by rw [h1, decide_eq_true rfl], h2, KeepX.ofBelow h2⟩)
      go_upto_region 29 with (fail)
      have YP : Hid (w3.drew.heap[z + 1 + 1]? = some (.cells #[.pointer none] 27 (0, 0))) := XP
      refine wp_region_noPanic ?_
      refine wp_region_held_drew (S := fun w' => KeepX (fun k _ => k = z + 1 + 1) w3 w') (by kernel_rfl) (KeepX.refl _).drew (fun hS => ?_)
      refine tk (i := 0) (oi := ⟨some 187, _, _, _, _, _⟩) (v := ?_) rfl (Or.inl ⟨by rfl, ?_⟩) hS ?_
      rotate_left 1
      · intro w' hB; have m0 := cell_of_one (hB.row XM.out (by omega)); have hs1 := cell_of_row _ (z + 1) 1 _ _ _ (hB.row XS.out (by omega)); (go_simp <;> with_reducible rfl)
      try simp only [Act.put, zA, zB, zC]
      refine tk (i := 1) (oi := ⟨some 188, _, _, _, _, _⟩) (v := ?_) rfl (Or.inl ⟨by rfl, ?_⟩) hS ?_
      rotate_left 1
      · intro w' hB; (go_simp <;> with_reducible rfl)
      try simp only [Act.put, zA, zB, zC]
      refine tk (i := 2) (oi := ⟨some 189, _, _, _, _, _⟩) (v := ?_) rfl (Or.inl ⟨by rfl, ?_⟩) hS ?_
      rotate_left 1
      · intro w' hB; have m0 := cell_of_one (hB.row XM.out (by omega)); have hs1 := cell_of_row _ (z + 1) 1 _ _ _ (hB.row XS.out (by omega)); (go_simp <;> with_reducible rfl)
      try simp only [Act.put, zA, zB, zC]
      refine tk (i := 3) (oi := ⟨some 190, _, _, _, _, _⟩) (v := ?_) rfl (Or.inl ⟨by rfl, ?_⟩) hS ?_
      rotate_left 1
      · intro w' hB; (go_simp <;> with_reducible rfl)
      try simp only [Act.put, zA, zB, zC]
      refine tk (i := 4) (oi := ⟨some 191, _, _, _, _, _⟩) (v := ?_) rfl (Or.inl ⟨by rfl, ?_⟩) hS ?_
      rotate_left 1
      · intro w' hB; have m0 := cell_of_one (hB.row XM.out (by omega)); have hs1 := cell_of_row _ (z + 1) 1 _ _ _ (hB.row XS.out (by omega)); (go_simp <;> with_reducible rfl)
      try simp only [Act.put, zA, zB, zC]
      refine tk (i := 6) (oi := ⟨some 193, _, _, _, _, _⟩) (v := ?_) rfl (Or.inl ⟨by rfl, ?_⟩) hS ?_
      rotate_left 1
      · intro w' hB; (go_simp <;> with_reducible rfl)
      try simp only [Act.put, zA, zB, zC]
      refine tk (i := 7) (oi := ⟨some 194, _, _, _, _, _⟩) (v := ?_) rfl (Or.inl ⟨by rfl, ?_⟩) hS ?_
      rotate_left 1
      · intro w' hB; (go_simp <;> with_reducible rfl)
      try simp only [Act.put, zA, zB, zC]
      refine tk (i := 8) (oi := ⟨some 195, _, _, _, _, _⟩) (v := ?_) rfl (Or.inl ⟨by rfl, ?_⟩) hS ?_
      rotate_left 1
      · intro w' hB; have m0 := cell_of_one (hB.row XM.out (by omega)); have hs1 := cell_of_row _ (z + 1) 1 _ _ _ (hB.row XS.out (by omega)); (go_simp <;> with_reducible rfl)
      try simp only [Act.put, zA, zB, zC]
      refine wpAnyH_ready (rs := [5]) (by kernel_rfl) (by simp) (AllReadyH.cons (o := ⟨some 192, _, _, _, _, _⟩) rfl (fun K hK => ?_) AllReadyH.nil)
      go_simp
      refine (TGS.out _ (XT.out.keepZ hS XP.out (by decide)) (GLB.out _ hS)).mono ?_
      rintro e r5 ⟨a4, c4, rfl, hc4, hb', hb⟩
      refine hK.out _ _ (hS.trans (hb)) (fun _ => ?_)
      clear hK K
      replace hS := hS.trans (hb)
      have C4 := Lib.hid hc4
      replace YP := Lib.hid (boxStays YP.out hb')
      clear hb' hc4
      clear hb
      try simp only [Act.put, zA, zB, zC]
      refine wpAnyH_ready (rs := [9]) (by kernel_rfl) (by simp) (AllReadyH.cons (o := ⟨some 196, _, _, _, _, _⟩) rfl (fun K hK => ?_) AllReadyH.nil)
      go_simp
      refine (RTG.out _ (els_keepX XC.out hS XP.out)).mono ?_
      rintro e r9 ⟨a5, c5, rfl, hc5, hb', hb⟩
      refine hK.out _ _ (hS.trans (hb)) (fun _ => ?_)
      clear hK K
      replace hS := hS.trans (hb)
      have C5 := Lib.hid hc5
      replace C4 := Lib.hid (C4.out.below hb' rfl)
      replace YP := Lib.hid (boxStays YP.out hb')
      clear hb' hc5
      clear hb
      try simp only [Act.put, zA, zB, zC]
      refine wpAnyH_ready (rs := [10]) (by kernel_rfl) (by simp) (AllReadyH.cons (o := ⟨some 197, _, _, _, _, _⟩) rfl (fun K hK => ?_) AllReadyH.nil)
      go_simp
      refine (SST.out _ _ _ _ _ C4.out C5.out).mono ?_
      rintro e r10 ⟨rfl, hb', hb⟩
      refine hK.out _ _ (hS.trans (hb)) (fun _ => ?_)
      clear hK K
      replace hS := hS.trans (hb)
      replace YP := Lib.hid (boxStays YP.out hb')
      clear hb'
      clear hb
      try simp only [Act.put, zA, zB, zC]
      refine wpAnyH_ready (rs := [11]) (by kernel_rfl) (by simp) (AllReadyH.cons (o := ⟨none, _, _, _, _, _⟩) rfl (fun K hK => ?_) AllReadyH.nil)
      have y1 := cell_of_one YP.out
      have f1 := frozen_of_row _ (z + 1 + 1) 0 _ _ YP.out
      replace hS := KeepX.setRow hS YP.out rfl 0 (Value.pointer (pa t))
      replace YP := Lib.hid (Boxed.set (t := 27) (.pointer (pa t)) YP.out)
      go_simp
      refine hK.out _ _ hS (fun _ => ?_)
      clear hK K y1 f1
      try simp only [Act.put, zA, zB, zC]
      refine tk (i := 12) (oi := ⟨some 7, _, _, _, _, _⟩) (v := ?_) rfl (Or.inl ⟨by rfl, ?_⟩) hS ?_
      rotate_left 1
      · intro w' hB; have m0 := cell_of_one (hB.row XM.out (by omega)); have hs1 := cell_of_row _ (z + 1) 1 _ _ _ (hB.row XS.out (by omega)); (go_simp <;> with_reducible rfl)
      try simp only [Act.put, zA, zB, zC]
      refine tk (i := 13) (oi := ⟨some 8, _, _, _, _, _⟩) (v := ?_) rfl (Or.inl ⟨by rfl, ?_⟩) hS ?_
      rotate_left 1
      · intro w' hB; have m0 := cell_of_one (hB.row XM.out (by omega)); have hs1 := cell_of_row _ (z + 1) 1 _ _ _ (hB.row XS.out (by omega)); (go_simp <;> with_reducible rfl)
      try simp only [Act.put, zA, zB, zC]
      refine wpAnyH_done (by kernel_rfl) (NoPanic.normal ?_) _
      all_goals
       generalize r10.setCell ⟨z + 1 + 1, 0, none⟩ (.pointer (pa t)) = r14 at *
       have q := cell_of_one YP.out
       go_wp2_with fail
       refine bodyPost_ret (v := .tuple #[.agg #[.pointer (pa t)], .slice a n c, .bool true]) (by simp [results, Tryz.results15, go_sem, q]) rfl ?_
       exact do_endT B7.out Z0.out.1 (Nat.le_of_lt ZL.out) hS (XT.out.keepZ hS XP.out (by decide)) R.out (by rw [HLL.out]; exact els_keepX XC.out hS XP.out) HNL.out (by omega)
    ·
     go_upto_region 30 with (fail)
     have kM0 := cell_of_one HM.out
     have kP0 := cell_of_one HP.out
     have fP0 := frozen_of_row _ (z + 1 + 1) 0 _ _ HP.out
     have hS := KeepX.setRow (KeepX.refl w3) XP.out (Ex := fun k _ => k = z + 1 + 1) rfl 0 (Value.pointer (pa t))
     have YP := Boxed.set (t := 27) (.pointer (pa t)) XP.out
     go_wp2_with fail
     generalize w3.setCell ⟨z + 1 + 1, 0, none⟩ (.pointer (pa t)) = r3 at *
     have q := cell_of_one YP
     refine bodyPost_ret (v := .tuple #[.agg #[.pointer (pa t)], .slice a n c, .bool true]) (by simp [results, Tryz.results15, go_sem, q]) rfl ?_
     exact do_endT B7.out Z0.out.1 (Nat.le_of_lt ZL.out) hS (XT.out.keepZ hS XP.out (by decide)) R.out (by rw [HLL.out]; exact els_keepX XC.out hS XP.out) HNL.out (by omega)
end Go.Proofs.YtjlliohjeiclaaaGreatDoor
