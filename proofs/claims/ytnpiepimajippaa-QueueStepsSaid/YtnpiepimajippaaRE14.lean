/- Words, contracts and walks that the proof stands on (QuD). -/
import Derived.Test.YtnpiepimajippaaRE1
import Derived.Test.YtnpiepimajippaaRE11
import Derived.Test.YtnpiepimajippaaRE13
import Derived.Test.YtnpiepimajippaaRE5
namespace Go.Proofs.Ytnpiepimajippaa
open Go.RowKit St Pm
def doQ (l : List Ev) (k : Int) (s : Sv) (x : ByteArray) (d : Int) : List Ev :=
  if k = 1 then (if okV (s, x) && behindV l s then l ++ [(s, x)] else l) else if k = 2 then l.tail else if k = 3 then l.drop d.toNat else l
def DoOut (L : List Ev) (w : World) (e : Ending) (w' : World) : Prop :=
  ∃ (m : Tr ByteArray) (a : Option Addr) (n c : Nat), e = .returned (.tuple #[.agg #[.pointer (pa m)], .slice a n c, .bool true]) ∧ AtS w' m ∧ Reg L m ∧ CellsAt w' a (elsV L) ∧ n = L.length ∧ n ≤ c ∧ Below w.heap.size w w'
theorem do_end {L L2 : List Ev} {w w1 w2 : World} {z : Nat} {m : Tr ByteArray} {a : Option Addr} {n c : Nat} (hb : Below w.heap.size w w1) (hz : w.heap.size ≤ z) (hz1 : z ≤ w1.heap.size) (hk : KeepX (fun k _ => k = z) w1 w2) (he : L = L2) (hm : AtS w2 m) (hr : Reg L m) (hc : CellsAt w2 a (elsV L)) (hn : n = L.length) (hnc : n ≤ c) :
    DoOut L2 w (.returned (.tuple #[.agg #[.pointer (pa m)], .slice a n c, .bool true])) w2 := by
  subst he
  exact ⟨m, a, n, c, rfl, hm, hr, hc, hn, hnc, hb.trans ((hk.toBelowZ hz1).mono hz)⟩
theorem els_at {w : World} {b off : Nat} {l : List Ev} (h : CellsAt w (some ⟨b, off, none⟩) (elsV l)) (k : Nat) (hk : k < l.length) : ElCell w b (off + k * 6) l[k] := by
  obtain ⟨_, _, e, c⟩ := els_get h k hk
  cases e
  exact c
set_option maxRecDepth 100000 in
set_option maxHeartbeats 16000000 in
theorem do_13 (l : List Ev) (t : Tr ByteArray) (a : Option Addr) (n c : Nat) (k : Int) (s : Sv) (x : ByteArray) (d : Int) (w : World) (ht : AtS w t) (hr : Reg l t) (hl : CellsAt w a (elsV l)) (hn : n = l.length) (hnc : n ≤ c) (hz : n ≤ 1000) (hss : s.l.size ≤ 9223372036854775807) :
    Calls Try.prog 40 #[.agg #[.pointer (pa t)], .slice a n c, .agg #[.int .i64 k, .int .i64 s.g, .int .i64 s.r, .string s.l, .int .i64 s.n, .int .i64 s.i, .string x, .int .i64 d]] w (DoOut (doQ l k s x d) w) := by
  have T := Lib.hid ht
  have R := Lib.hid hr
  have CL := Lib.hid hl
  have HN := Lib.hid hn
  have HNC := Lib.hid hnc
  have HZ := Lib.hid hz
  have HSS := Lib.hid hss
  have HLS : Hid (∀ e ∈ l, e.1.l.size ≤ 9223372036854775807) := Lib.hid (fun e he => ok_lsz hr.ok e he)
  have HZL : Hid (l.length ≤ 100000) := Lib.hid (by omega)
  clear ht hr hl hn hnc hz hss
  have HNUM : Hid (∀ (v : Int) (W : World), Calls Try.prog 37 #[.int .i64 v] W fun e w' => e = .returned (.int .i64 v) ∧ Below W.heap.size W w' ∧ ∀ {Ex : Nat → TypeId → Prop}, KeepX Ex W w') := Lib.hid (fun v W => (num_13b v W).mono fun _ _ ⟨h1, h2⟩ => ⟨h1, h2, KeepX.ofBelow h2⟩)
  have HLEN : Hid (∀ W, Calls Try.prog 18 #[.agg #[.pointer none]] W fun e w' => e = .returned (.int .i64 0) ∧ Below W.heap.size W w' ∧ ∀ {Ex : Nat → TypeId → Prop}, KeepX Ex W w') := Lib.hid (fun W => (pm_MLenS .nil W trivial).mono fun _ _ ⟨h1, h2⟩ => ⟨h1, h2, KeepX.ofBelow h2⟩)
  have HC : Hid (Chain [w] w) := Lib.hid (Chain.one w)
  go_enter Try.func40, Try.ntmps40
  go_upto_region 1 with (fail)
  obtain ⟨z, hz⟩ : ∃ c, w.heap.size = c := ⟨_, rfl⟩
  try rw [hz]
  obtain ⟨w3, hw3⟩ : ∃ X, allocs w [.cells #[.pointer (pa t)] 27, .cells #[.int .i64 k, .int .i64 s.g, .int .i64 s.r, .string s.l, .int .i64 s.n, .int .i64 s.i, .string x, .int .i64 d] 56, .cells #[.pointer none] 27] = X := ⟨_, rfl⟩
  rw [show ((w.alloc (.cells #[.pointer (pa t)] 27)).alloc (.cells #[.int .i64 k, .int .i64 s.g, .int .i64 s.r, .string s.l, .int .i64 s.n, .int .i64 s.i, .string x, .int .i64 d] 56)).alloc (.cells #[.pointer none] 27) = w3 from hw3]
  have hb : Below w.heap.size w w3 := by rw [← hw3]; exact allocs_below _ _
  have HM : Hid (w3.heap[z]? = some (.cells #[.pointer (pa t)] 27 (0, 0))) := Lib.hid (by have := allocs_get [.cells #[.pointer (pa t)] 27, .cells #[.int .i64 k, .int .i64 s.g, .int .i64 s.r, .string s.l, .int .i64 s.n, .int .i64 s.i, .string x, .int .i64 d] 56, .cells #[.pointer none] 27] w 0 _ rfl; rw [hw3, hz] at this; exact this)
  have HS : Hid (w3.heap[z + 1]? = some (.cells #[.int .i64 k, .int .i64 s.g, .int .i64 s.r, .string s.l, .int .i64 s.n, .int .i64 s.i, .string x, .int .i64 d] 56 (0, 0))) := Lib.hid (by have := allocs_get [.cells #[.pointer (pa t)] 27, .cells #[.int .i64 k, .int .i64 s.g, .int .i64 s.r, .string s.l, .int .i64 s.n, .int .i64 s.i, .string x, .int .i64 d] 56, .cells #[.pointer none] 27] w 1 _ rfl; rw [hw3, hz] at this; exact this)
  have HP : Hid (w3.heap[z + 1 + 1]? = some (.cells #[.pointer none] 27 (0, 0))) := Lib.hid (by have := allocs_get [.cells #[.pointer (pa t)] 27, .cells #[.int .i64 k, .int .i64 s.g, .int .i64 s.r, .string s.l, .int .i64 s.n, .int .i64 s.i, .string x, .int .i64 d] 56, .cells #[.pointer none] 27] w 2 _ rfl; rw [hw3, hz] at this; exact this)
  have Sz : Hid (w.heap.size = z) := Lib.hid hz
  replace HC := Lib.hid (HC.out.push hb)
  clear hb hw3 hz
  have S0 := HS
  have Z0 : Hid (w.heap.size ≤ z + 1 + 1 ∧ z + 1 + 1 < w3.heap.size) := Lib.hid ⟨by have := Sz.out; omega, (Array.getElem?_eq_some_iff.1 HP.out).1⟩
  have kS0 := cell_of_row _ _ 0 _ _ _ HS.out
  have kS1 := cell_of_row _ _ 1 _ _ _ HS.out
  have kS2 := cell_of_row _ _ 2 _ _ _ HS.out
  have kS3 := cell_of_row _ _ 3 _ _ _ HS.out
  have kS4 := cell_of_row _ _ 4 _ _ _ HS.out
  have kS5 := cell_of_row _ _ 5 _ _ _ HS.out
  have kS6 := cell_of_row _ _ 6 _ _ _ HS.out
  have kS7 := cell_of_row _ _ 7 _ _ _ HS.out
  go_upto_region 2 with (fail)
  clear kS0 kS1 kS2 kS3 kS4 kS5 kS6 kS7
  by_cases k1 : k = 1
  · subst k1
    go_upto_region 3 with (fail)
    have kM0 := cell_of_one HM.out
    have kS0 := cell_of_row _ _ 0 _ _ _ HS.out
    have kS1 := cell_of_row _ _ 1 _ _ _ HS.out
    have kS2 := cell_of_row _ _ 2 _ _ _ HS.out
    have kS3 := cell_of_row _ _ 3 _ _ _ HS.out
    have kS4 := cell_of_row _ _ 4 _ _ _ HS.out
    have kS5 := cell_of_row _ _ 5 _ _ _ HS.out
    have kS6 := cell_of_row _ _ 6 _ _ _ HS.out
    have kS7 := cell_of_row _ _ 7 _ _ _ HS.out
    go_wp2_with fail
    refine (put_reg13 s x _ (T.out.below (HC.out.to w (by simp)) rfl) R.out HZL.out HSS.out).mono ?_
    rintro e w4 ⟨m, ce, rfl, hm, hb, hP⟩
    clear kM0 kS0 kS1 kS2 kS3 kS4 kS5 kS6 kS7
    replace HC := Lib.hid (HC.out.push hb)
    clear hb
    have PP := Lib.hid hP
    have TM := Lib.hid hm
    clear hP hm
    have N50 : Hid (w3.heap.size ≤ w4.heap.size) := Lib.hid (HC.out.to w3 (by simp)).size
    go_upto_region 4 with (fail)
    obtain ⟨c5, hc5⟩ : ∃ c, w4.heap.size = c := ⟨_, rfl⟩
    try rw [hc5]
    obtain ⟨w5, hw5⟩ : ∃ X, allocs w4 [.cells #[.pointer (pa m)] 27] = X := ⟨_, rfl⟩
    rw [show w4.alloc (.cells #[.pointer (pa m)] 27) = w5 from hw5]
    have hb : Below w4.heap.size w4 w5 := by rw [← hw5]; exact allocs_below _ _
    have HN5 : Hid (w5.heap[c5]? = some (.cells #[.pointer (pa m)] 27 (0, 0))) := Lib.hid (by have := allocs_get [.cells #[.pointer (pa m)] 27] w4 0 _ rfl; rw [hw5, hc5] at this; exact this)
    have Sc5 : Hid (w4.heap.size = c5) := Lib.hid hc5
    replace HC := Lib.hid (HC.out.push hb)
    clear hb hw5 hc5
    have N5Z : Hid (w3.heap.size ≤ c5) := Lib.hid (by rw [← Sc5.out]; exact N50.out)
    have FIT := Lib.hid (fun W => ref13_Fits s x W HSS.out)
    have BEH := Lib.hid (fun W hW => ref13_Behind l s a n c W (CL.out.below hW rfl) HN.out (by have := HZ.out; omega) HSS.out HLS.out)
    obtain ⟨fv, hfv⟩ : ∃ q, okV (s, x) = q := ⟨_, rfl⟩
    obtain ⟨bv, hbv⟩ : ∃ q, behindV l s = q := ⟨_, rfl⟩
    rw [hfv] at FIT
    rw [hbv] at BEH
    have FV := Lib.hid hfv
    have BV := Lib.hid hbv
    clear hfv hbv
    have kS0 := cell_of_row _ _ 0 _ _ _ (boxStays HS.out (HC.out.to w3 (by simp)))
    have kS1 := cell_of_row _ _ 1 _ _ _ (boxStays HS.out (HC.out.to w3 (by simp)))
    have kS2 := cell_of_row _ _ 2 _ _ _ (boxStays HS.out (HC.out.to w3 (by simp)))
    have kS3 := cell_of_row _ _ 3 _ _ _ (boxStays HS.out (HC.out.to w3 (by simp)))
    have kS4 := cell_of_row _ _ 4 _ _ _ (boxStays HS.out (HC.out.to w3 (by simp)))
    have kS5 := cell_of_row _ _ 5 _ _ _ (boxStays HS.out (HC.out.to w3 (by simp)))
    have kS6 := cell_of_row _ _ 6 _ _ _ (boxStays HS.out (HC.out.to w3 (by simp)))
    have kS7 := cell_of_row _ _ 7 _ _ _ (boxStays HS.out (HC.out.to w3 (by simp)))
    go_wp2_with fail
    refine (FIT.out _).mono ?_
    rintro e w6 ⟨rfl, hb⟩
    clear kS0 kS1 kS2 kS3 kS4 kS5 kS6 kS7
    replace HC := Lib.hid (HC.out.push hb)
    clear hb
    cases fv
    case false =>
      obtain ⟨rfl, rfl⟩ : ce = 2 ∧ m = .nil := by
        rcases PP.out with ⟨h, _⟩ | ⟨_, h1, h2⟩
        · rw [FV.out, BV.out] at h; cases h
        · exact ⟨h1, h2⟩
      have DQ : Hid (l = doQ l 1 s x d) := Lib.hid (by unfold doQ; rw [if_pos rfl, FV.out, BV.out]; rfl)
      have XM := Lib.hid (boxStays HM.out (HC.out.to w3 (by simp)))
      have XN := Lib.hid (boxStays HN5.out (HC.out.to w5 (by simp)))
      have XP := Lib.hid (boxStays HP.out (HC.out.to w3 (by simp)))
      have XT := Lib.hid (T.out.below (HC.out.to w (by simp)) rfl)
      have XC := Lib.hid (CL.out.below (HC.out.to w (by simp)) rfl)
      have BW := Lib.hid (HC.out.to w (by simp))
      have NE : Hid (c5 ≠ z + 1 + 1) := Lib.hid (by have := N5Z.out; have := Z0.out.2; omega)
      have ZW : Hid (z + 1 + 1 ≤ w6.heap.size) := Lib.hid (by have := (Array.getElem?_eq_some_iff.1 XP.out).1; omega)
      go_upto_region 5 with (fail)
      have YP : Hid (w6.drew.heap[z + 1 + 1]? = some (.cells #[.pointer none] 27 (0, 0))) := XP
      refine wp_region_noPanic ?_
      refine wp_region_held_drew (S := fun w' => KeepX (fun k _ => k = z + 1 + 1) w6 w') (by kernel_rfl) (KeepX.refl _).drew (fun hS => ?_)
      refine wpAnyH_take (i := 0) (oi := ⟨some 43, _, _, _, _, _⟩) (v := ?_) rfl (by kernel_rfl) (by kernel_rfl) (by kernel_rfl) (fun _ _ _ h => h) (Or.inl ⟨by rfl, ?_⟩) hS ?_
      rotate_left 1
      · intro w' hB; have m0 := cell_of_one (hB.row XM.out (by omega)); have n0 := cell_of_one (hB.row XN.out NE.out); (go_simp <;> with_reducible rfl)
      try simp only [Act.put, List.setIfInBounds_toArray, List.set_cons_zero, List.set_cons_succ]
      refine wpAnyH_take (i := 1) (oi := ⟨some 44, _, _, _, _, _⟩) (v := ?_) rfl (by kernel_rfl) (by kernel_rfl) (by kernel_rfl) (fun _ _ _ h => h) (Or.inl ⟨by rfl, ?_⟩) hS ?_
      rotate_left 1
      · intro w' hB; have m0 := cell_of_one (hB.row XM.out (by omega)); have n0 := cell_of_one (hB.row XN.out NE.out); (go_simp <;> with_reducible rfl)
      try simp only [Act.put, List.setIfInBounds_toArray, List.set_cons_zero, List.set_cons_succ]
      refine wpAnyH_take (i := 2) (oi := ⟨some 45, _, _, _, _, _⟩) (v := ?_) rfl (by kernel_rfl) (by kernel_rfl) (by kernel_rfl) (fun _ _ _ h => h) (Or.inl ⟨by rfl, ?_⟩) hS ?_
      rotate_left 1
      · intro w' hB; have m0 := cell_of_one (hB.row XM.out (by omega)); have n0 := cell_of_one (hB.row XN.out NE.out); (go_simp <;> with_reducible rfl)
      try simp only [Act.put, List.setIfInBounds_toArray, List.set_cons_zero, List.set_cons_succ]
      refine wpAnyH_ready (rs := [3]) (by kernel_rfl) (by simp) (AllReadyH.cons (o := ⟨some 46, _, _, _, _, _⟩) rfl (fun K hK => ?_) AllReadyH.nil)
      go_simp
      refine (HNUM.out 2 _).mono ?_
      rintro e r1 ⟨rfl, hb', hb⟩
      refine hK.out _ _ (hS.trans (hb)) (fun _ => ?_)
      clear hK K
      replace hS := hS.trans (hb)
      replace YP := Lib.hid (boxStays YP.out hb')
      clear hb'
      clear hb
      try simp only [Act.put, List.setIfInBounds_toArray, List.set_cons_zero, List.set_cons_succ]
      refine wpAnyH_take (i := 4) (oi := ⟨some 47, _, _, _, _, _⟩) (v := ?_) rfl (by kernel_rfl) (by kernel_rfl) (by kernel_rfl) (fun _ _ _ h => h) (Or.inl ⟨by rfl, ?_⟩) hS ?_
      rotate_left 1
      · intro w' hB; have m0 := cell_of_one (hB.row XM.out (by omega)); have n0 := cell_of_one (hB.row XN.out NE.out); (go_simp <;> with_reducible rfl)
      try simp only [Act.put, List.setIfInBounds_toArray, List.set_cons_zero, List.set_cons_succ]
      refine wpAnyH_take (i := 5) (oi := ⟨some 48, _, _, _, _, _⟩) (v := ?_) rfl (by kernel_rfl) (by kernel_rfl) (by kernel_rfl) (fun _ _ _ h => h) (Or.inl ⟨by rfl, ?_⟩) hS ?_
      rotate_left 1
      · intro w' hB; have m0 := cell_of_one (hB.row XM.out (by omega)); have n0 := cell_of_one (hB.row XN.out NE.out); (go_simp <;> with_reducible rfl)
      try simp only [Act.put, List.setIfInBounds_toArray, List.set_cons_zero, List.set_cons_succ]
      refine wpAnyH_take (i := 6) (oi := ⟨some 49, _, _, _, _, _⟩) (v := ?_) rfl (by kernel_rfl) (by kernel_rfl) (by kernel_rfl) (fun _ _ _ h => h) (Or.inl ⟨by rfl, ?_⟩) hS ?_
      rotate_left 1
      · intro w' hB; have m0 := cell_of_one (hB.row XM.out (by omega)); have n0 := cell_of_one (hB.row XN.out NE.out); (go_simp <;> with_reducible rfl)
      try simp only [Act.put, List.setIfInBounds_toArray, List.set_cons_zero, List.set_cons_succ]
      refine wpAnyH_ready (rs := [7]) (by kernel_rfl) (by simp) (AllReadyH.cons (o := ⟨some 50, _, _, _, _, _⟩) rfl (fun K hK => ?_) AllReadyH.nil)
      go_simp
      refine (HLEN.out _).mono ?_
      rintro e r2 ⟨rfl, hb', hb⟩
      refine hK.out _ _ (hS.trans (hb)) (fun _ => ?_)
      clear hK K
      replace hS := hS.trans (hb)
      replace YP := Lib.hid (boxStays YP.out hb')
      clear hb'
      clear hb
      try simp only [Act.put, List.setIfInBounds_toArray, List.set_cons_zero, List.set_cons_succ]
      refine wpAnyH_take (i := 8) (oi := ⟨some 51, _, _, _, _, _⟩) (v := ?_) rfl (by kernel_rfl) (by kernel_rfl) (by kernel_rfl) (fun _ _ _ h => h) (Or.inl ⟨by rfl, ?_⟩) hS ?_
      rotate_left 1
      · intro w' hB; have m0 := cell_of_one (hB.row XM.out (by omega)); have n0 := cell_of_one (hB.row XN.out NE.out); (go_simp <;> with_reducible rfl)
      try simp only [Act.put, List.setIfInBounds_toArray, List.set_cons_zero, List.set_cons_succ]
      refine wpAnyH_take (i := 9) (oi := ⟨some 52, _, _, _, _, _⟩) (v := ?_) rfl (by kernel_rfl) (by kernel_rfl) (by kernel_rfl) (fun _ _ _ h => h) (Or.inl ⟨by rfl, ?_⟩) hS ?_
      rotate_left 1
      · intro w' hB; have m0 := cell_of_one (hB.row XM.out (by omega)); have n0 := cell_of_one (hB.row XN.out NE.out); (go_simp <;> with_reducible rfl)
      try simp only [Act.put, List.setIfInBounds_toArray, List.set_cons_zero, List.set_cons_succ]
      refine wpAnyH_ready (rs := [10]) (by kernel_rfl) (by simp) (AllReadyH.cons (o := ⟨none, _, _, _, _, _⟩) rfl (fun K hK => ?_) AllReadyH.nil)
      have y1 := cell_of_one YP.out
      have f1 := frozen_of_row _ (z + 1 + 1) 0 _ _ YP.out
      replace hS := KeepX.setRow hS YP.out rfl 0 (Value.pointer (pa t))
      replace YP := Lib.hid (Boxed.set (t := 27) (.pointer (pa t)) YP.out)
      go_simp
      refine hK.out _ _ hS (fun _ => ?_)
      clear hK K y1 f1
      try simp only [Act.put, List.setIfInBounds_toArray, List.set_cons_zero, List.set_cons_succ]
      refine wpAnyH_take (i := 11) (oi := ⟨some 7, _, _, _, _, _⟩) (v := ?_) rfl (by kernel_rfl) (by kernel_rfl) (by kernel_rfl) (fun _ _ _ h => h) (Or.inl ⟨by rfl, ?_⟩) hS ?_
      rotate_left 1
      · intro w' hB; have m0 := cell_of_one (hB.row XM.out (by omega)); have n0 := cell_of_one (hB.row XN.out NE.out); (go_simp <;> with_reducible rfl)
      try simp only [Act.put, List.setIfInBounds_toArray, List.set_cons_zero, List.set_cons_succ]
      refine wpAnyH_take (i := 12) (oi := ⟨some 8, _, _, _, _, _⟩) (v := ?_) rfl (by kernel_rfl) (by kernel_rfl) (by kernel_rfl) (fun _ _ _ h => h) (Or.inl ⟨by rfl, ?_⟩) hS ?_
      rotate_left 1
      · intro w' hB; have m0 := cell_of_one (hB.row XM.out (by omega)); have n0 := cell_of_one (hB.row XN.out NE.out); (go_simp <;> with_reducible rfl)
      try simp only [Act.put, List.setIfInBounds_toArray, List.set_cons_zero, List.set_cons_succ]
      refine wpAnyH_done (by kernel_rfl) (NoPanic.normal ?_) _
      generalize r2.setCell ⟨z + 1 + 1, 0, none⟩ (.pointer (pa t)) = r3 at *
      have q := cell_of_one YP.out
      go_wp2_with fail
      refine bodyPost_ret (v := .tuple #[.agg #[.pointer (pa t)], .slice a n c, .bool true]) (by simp [results, Try.results40, go_sem, q]) rfl ?_
      exact do_end BW.out Z0.out.1 ZW.out hS DQ.out (XT.out.keepZ hS XP.out (by decide)) R.out (els_keepX XC.out hS XP.out) HN.out HNC.out
    case true =>
      have kS0 := cell_of_row _ _ 0 _ _ _ (boxStays HS.out (HC.out.to w3 (by simp)))
      have kS1 := cell_of_row _ _ 1 _ _ _ (boxStays HS.out (HC.out.to w3 (by simp)))
      have kS2 := cell_of_row _ _ 2 _ _ _ (boxStays HS.out (HC.out.to w3 (by simp)))
      have kS3 := cell_of_row _ _ 3 _ _ _ (boxStays HS.out (HC.out.to w3 (by simp)))
      have kS4 := cell_of_row _ _ 4 _ _ _ (boxStays HS.out (HC.out.to w3 (by simp)))
      have kS5 := cell_of_row _ _ 5 _ _ _ (boxStays HS.out (HC.out.to w3 (by simp)))
      have kS6 := cell_of_row _ _ 6 _ _ _ (boxStays HS.out (HC.out.to w3 (by simp)))
      have kS7 := cell_of_row _ _ 7 _ _ _ (boxStays HS.out (HC.out.to w3 (by simp)))
      go_wp2_with fail
      refine (BEH.out _ (HC.out.to w (by simp))).mono ?_
      rintro e w7 ⟨rfl, hb⟩
      clear kS0 kS1 kS2 kS3 kS4 kS5 kS6 kS7
      replace HC := Lib.hid (HC.out.push hb)
      clear hb
      cases bv
      case false =>
        obtain ⟨rfl, rfl⟩ : ce = 2 ∧ m = .nil := by
          rcases PP.out with ⟨h, _⟩ | ⟨_, h1, h2⟩
          · rw [FV.out, BV.out] at h; cases h
          · exact ⟨h1, h2⟩
        have DQ : Hid (l = doQ l 1 s x d) := Lib.hid (by unfold doQ; rw [if_pos rfl, FV.out, BV.out]; rfl)
        have XM := Lib.hid (boxStays HM.out (HC.out.to w3 (by simp)))
        have XN := Lib.hid (boxStays HN5.out (HC.out.to w5 (by simp)))
        have XP := Lib.hid (boxStays HP.out (HC.out.to w3 (by simp)))
        have XT := Lib.hid (T.out.below (HC.out.to w (by simp)) rfl)
        have XC := Lib.hid (CL.out.below (HC.out.to w (by simp)) rfl)
        have BW := Lib.hid (HC.out.to w (by simp))
        have NE : Hid (c5 ≠ z + 1 + 1) := Lib.hid (by have := N5Z.out; have := Z0.out.2; omega)
        have ZW : Hid (z + 1 + 1 ≤ w7.heap.size) := Lib.hid (by have := (Array.getElem?_eq_some_iff.1 XP.out).1; omega)
        go_upto_region 5 with (fail)
        have YP : Hid (w7.drew.heap[z + 1 + 1]? = some (.cells #[.pointer none] 27 (0, 0))) := XP
        refine wp_region_noPanic ?_
        refine wp_region_held_drew (S := fun w' => KeepX (fun k _ => k = z + 1 + 1) w7 w') (by kernel_rfl) (KeepX.refl _).drew (fun hS => ?_)
        refine wpAnyH_take (i := 0) (oi := ⟨some 43, _, _, _, _, _⟩) (v := ?_) rfl (by kernel_rfl) (by kernel_rfl) (by kernel_rfl) (fun _ _ _ h => h) (Or.inl ⟨by rfl, ?_⟩) hS ?_
        rotate_left 1
        · intro w' hB; have m0 := cell_of_one (hB.row XM.out (by omega)); have n0 := cell_of_one (hB.row XN.out NE.out); (go_simp <;> with_reducible rfl)
        try simp only [Act.put, List.setIfInBounds_toArray, List.set_cons_zero, List.set_cons_succ]
        refine wpAnyH_take (i := 1) (oi := ⟨some 44, _, _, _, _, _⟩) (v := ?_) rfl (by kernel_rfl) (by kernel_rfl) (by kernel_rfl) (fun _ _ _ h => h) (Or.inl ⟨by rfl, ?_⟩) hS ?_
        rotate_left 1
        · intro w' hB; have m0 := cell_of_one (hB.row XM.out (by omega)); have n0 := cell_of_one (hB.row XN.out NE.out); (go_simp <;> with_reducible rfl)
        try simp only [Act.put, List.setIfInBounds_toArray, List.set_cons_zero, List.set_cons_succ]
        refine wpAnyH_take (i := 2) (oi := ⟨some 45, _, _, _, _, _⟩) (v := ?_) rfl (by kernel_rfl) (by kernel_rfl) (by kernel_rfl) (fun _ _ _ h => h) (Or.inl ⟨by rfl, ?_⟩) hS ?_
        rotate_left 1
        · intro w' hB; have m0 := cell_of_one (hB.row XM.out (by omega)); have n0 := cell_of_one (hB.row XN.out NE.out); (go_simp <;> with_reducible rfl)
        try simp only [Act.put, List.setIfInBounds_toArray, List.set_cons_zero, List.set_cons_succ]
        refine wpAnyH_ready (rs := [3]) (by kernel_rfl) (by simp) (AllReadyH.cons (o := ⟨some 46, _, _, _, _, _⟩) rfl (fun K hK => ?_) AllReadyH.nil)
        go_simp
        refine (HNUM.out 2 _).mono ?_
        rintro e r1 ⟨rfl, hb', hb⟩
        refine hK.out _ _ (hS.trans (hb)) (fun _ => ?_)
        clear hK K
        replace hS := hS.trans (hb)
        replace YP := Lib.hid (boxStays YP.out hb')
        clear hb'
        clear hb
        try simp only [Act.put, List.setIfInBounds_toArray, List.set_cons_zero, List.set_cons_succ]
        refine wpAnyH_take (i := 4) (oi := ⟨some 47, _, _, _, _, _⟩) (v := ?_) rfl (by kernel_rfl) (by kernel_rfl) (by kernel_rfl) (fun _ _ _ h => h) (Or.inl ⟨by rfl, ?_⟩) hS ?_
        rotate_left 1
        · intro w' hB; have m0 := cell_of_one (hB.row XM.out (by omega)); have n0 := cell_of_one (hB.row XN.out NE.out); (go_simp <;> with_reducible rfl)
        try simp only [Act.put, List.setIfInBounds_toArray, List.set_cons_zero, List.set_cons_succ]
        refine wpAnyH_take (i := 5) (oi := ⟨some 48, _, _, _, _, _⟩) (v := ?_) rfl (by kernel_rfl) (by kernel_rfl) (by kernel_rfl) (fun _ _ _ h => h) (Or.inl ⟨by rfl, ?_⟩) hS ?_
        rotate_left 1
        · intro w' hB; have m0 := cell_of_one (hB.row XM.out (by omega)); have n0 := cell_of_one (hB.row XN.out NE.out); (go_simp <;> with_reducible rfl)
        try simp only [Act.put, List.setIfInBounds_toArray, List.set_cons_zero, List.set_cons_succ]
        refine wpAnyH_take (i := 6) (oi := ⟨some 49, _, _, _, _, _⟩) (v := ?_) rfl (by kernel_rfl) (by kernel_rfl) (by kernel_rfl) (fun _ _ _ h => h) (Or.inl ⟨by rfl, ?_⟩) hS ?_
        rotate_left 1
        · intro w' hB; have m0 := cell_of_one (hB.row XM.out (by omega)); have n0 := cell_of_one (hB.row XN.out NE.out); (go_simp <;> with_reducible rfl)
        try simp only [Act.put, List.setIfInBounds_toArray, List.set_cons_zero, List.set_cons_succ]
        refine wpAnyH_ready (rs := [7]) (by kernel_rfl) (by simp) (AllReadyH.cons (o := ⟨some 50, _, _, _, _, _⟩) rfl (fun K hK => ?_) AllReadyH.nil)
        go_simp
        refine (HLEN.out _).mono ?_
        rintro e r2 ⟨rfl, hb', hb⟩
        refine hK.out _ _ (hS.trans (hb)) (fun _ => ?_)
        clear hK K
        replace hS := hS.trans (hb)
        replace YP := Lib.hid (boxStays YP.out hb')
        clear hb'
        clear hb
        try simp only [Act.put, List.setIfInBounds_toArray, List.set_cons_zero, List.set_cons_succ]
        refine wpAnyH_take (i := 8) (oi := ⟨some 51, _, _, _, _, _⟩) (v := ?_) rfl (by kernel_rfl) (by kernel_rfl) (by kernel_rfl) (fun _ _ _ h => h) (Or.inl ⟨by rfl, ?_⟩) hS ?_
        rotate_left 1
        · intro w' hB; have m0 := cell_of_one (hB.row XM.out (by omega)); have n0 := cell_of_one (hB.row XN.out NE.out); (go_simp <;> with_reducible rfl)
        try simp only [Act.put, List.setIfInBounds_toArray, List.set_cons_zero, List.set_cons_succ]
        refine wpAnyH_take (i := 9) (oi := ⟨some 52, _, _, _, _, _⟩) (v := ?_) rfl (by kernel_rfl) (by kernel_rfl) (by kernel_rfl) (fun _ _ _ h => h) (Or.inl ⟨by rfl, ?_⟩) hS ?_
        rotate_left 1
        · intro w' hB; have m0 := cell_of_one (hB.row XM.out (by omega)); have n0 := cell_of_one (hB.row XN.out NE.out); (go_simp <;> with_reducible rfl)
        try simp only [Act.put, List.setIfInBounds_toArray, List.set_cons_zero, List.set_cons_succ]
        refine wpAnyH_ready (rs := [10]) (by kernel_rfl) (by simp) (AllReadyH.cons (o := ⟨none, _, _, _, _, _⟩) rfl (fun K hK => ?_) AllReadyH.nil)
        have y1 := cell_of_one YP.out
        have f1 := frozen_of_row _ (z + 1 + 1) 0 _ _ YP.out
        replace hS := KeepX.setRow hS YP.out rfl 0 (Value.pointer (pa t))
        replace YP := Lib.hid (Boxed.set (t := 27) (.pointer (pa t)) YP.out)
        go_simp
        refine hK.out _ _ hS (fun _ => ?_)
        clear hK K y1 f1
        try simp only [Act.put, List.setIfInBounds_toArray, List.set_cons_zero, List.set_cons_succ]
        refine wpAnyH_take (i := 11) (oi := ⟨some 7, _, _, _, _, _⟩) (v := ?_) rfl (by kernel_rfl) (by kernel_rfl) (by kernel_rfl) (fun _ _ _ h => h) (Or.inl ⟨by rfl, ?_⟩) hS ?_
        rotate_left 1
        · intro w' hB; have m0 := cell_of_one (hB.row XM.out (by omega)); have n0 := cell_of_one (hB.row XN.out NE.out); (go_simp <;> with_reducible rfl)
        try simp only [Act.put, List.setIfInBounds_toArray, List.set_cons_zero, List.set_cons_succ]
        refine wpAnyH_take (i := 12) (oi := ⟨some 8, _, _, _, _, _⟩) (v := ?_) rfl (by kernel_rfl) (by kernel_rfl) (by kernel_rfl) (fun _ _ _ h => h) (Or.inl ⟨by rfl, ?_⟩) hS ?_
        rotate_left 1
        · intro w' hB; have m0 := cell_of_one (hB.row XM.out (by omega)); have n0 := cell_of_one (hB.row XN.out NE.out); (go_simp <;> with_reducible rfl)
        try simp only [Act.put, List.setIfInBounds_toArray, List.set_cons_zero, List.set_cons_succ]
        refine wpAnyH_done (by kernel_rfl) (NoPanic.normal ?_) _
        generalize r2.setCell ⟨z + 1 + 1, 0, none⟩ (.pointer (pa t)) = r3 at *
        have q := cell_of_one YP.out
        go_wp2_with fail
        refine bodyPost_ret (v := .tuple #[.agg #[.pointer (pa t)], .slice a n c, .bool true]) (by simp [results, Try.results40, go_sem, q]) rfl ?_
        exact do_end BW.out Z0.out.1 ZW.out hS DQ.out (XT.out.keepZ hS XP.out (by decide)) R.out (els_keepX XC.out hS XP.out) HN.out HNC.out
      case true =>
        obtain ⟨rfl, hr⟩ : ce = 0 ∧ Reg (l ++ [(s, x)]) m := by
          rcases PP.out with ⟨_, h1, h2, _⟩ | ⟨h, _⟩
          · exact ⟨h1, h2⟩
          · rw [FV.out, BV.out] at h; cases h
        have RM := Lib.hid hr
        have DQ : Hid (l ++ [(s, x)] = doQ l 1 s x d) := Lib.hid (by unfold doQ; rw [if_pos rfl, FV.out, BV.out]; rfl)
        have XS := Lib.hid (boxStays S0.out (HC.out.to w3 (by simp)))
        have XN := Lib.hid (boxStays HN5.out (HC.out.to w5 (by simp)))
        have XP := Lib.hid (boxStays HP.out (HC.out.to w3 (by simp)))
        have XT := Lib.hid (TM.out.below (HC.out.to w4 (by simp)) rfl)
        have XC := Lib.hid (CL.out.below (HC.out.to w (by simp)) rfl)
        have BW := Lib.hid (HC.out.to w (by simp))
        have NE : Hid (c5 ≠ z + 1 + 1) := Lib.hid (by have := N5Z.out; have := Z0.out.2; omega)
        have ZL : Hid (z + 1 + 1 < w7.heap.size) := Lib.hid (Array.getElem?_eq_some_iff.1 XP.out).1
        have ET := Lib.hid elT
        have hlt1 : (elsV l).length = n * 6 := by rw [elsV_length, HN.out]
        have hn1 : n ≤ 1000 := HZ.out
        clear hr
        go_upto_region 6 with (fail)
        have YP : Hid (w7.drew.heap[z + 1 + 1]? = some (.cells #[.pointer none] 27 (0, 0))) := XP
        refine wp_region_noPanic ?_
        refine wp_region_held_drew (S := fun w' => KeepX (fun k _ => k = z + 1 + 1) w7 w') (by kernel_rfl) (KeepX.refl _).drew (fun hS => ?_)
        refine wpAnyH_take (i := 0) (oi := ⟨some 53, _, _, _, _, _⟩) (v := ?_) rfl (by kernel_rfl) (by kernel_rfl) (by kernel_rfl) (fun _ _ _ h => h) (Or.inl ⟨by rfl, ?_⟩) hS ?_
        rotate_left 1
        · intro w' hB; have hss := hB.row XS.out (by omega); have s1 := cell_of_row _ (z + 1) 1 _ _ _ hss; have s2 := cell_of_row _ (z + 1) 2 _ _ _ hss; have s3 := cell_of_row _ (z + 1) 3 _ _ _ hss; have s4 := cell_of_row _ (z + 1) 4 _ _ _ hss; have s5 := cell_of_row _ (z + 1) 5 _ _ _ hss; have s6 := cell_of_row _ (z + 1) 6 _ _ _ hss; have n0 := cell_of_one (hB.row XN.out NE.out); clear hss; (go_simp <;> with_reducible rfl)
        try simp only [Act.put, List.setIfInBounds_toArray, List.set_cons_zero, List.set_cons_succ]
        refine wpAnyH_take (i := 1) (oi := ⟨some 54, _, _, _, _, _⟩) (v := ?_) rfl (by kernel_rfl) (by kernel_rfl) (by kernel_rfl) (fun _ _ _ h => h) (Or.inl ⟨by rfl, ?_⟩) hS ?_
        rotate_left 1
        · intro w' hB; have hss := hB.row XS.out (by omega); have s1 := cell_of_row _ (z + 1) 1 _ _ _ hss; have s2 := cell_of_row _ (z + 1) 2 _ _ _ hss; have s3 := cell_of_row _ (z + 1) 3 _ _ _ hss; have s4 := cell_of_row _ (z + 1) 4 _ _ _ hss; have s5 := cell_of_row _ (z + 1) 5 _ _ _ hss; have s6 := cell_of_row _ (z + 1) 6 _ _ _ hss; have n0 := cell_of_one (hB.row XN.out NE.out); clear hss; (go_simp <;> with_reducible rfl)
        try simp only [Act.put, List.setIfInBounds_toArray, List.set_cons_zero, List.set_cons_succ]
        refine wpAnyH_take (i := 3) (oi := ⟨some 56, _, _, _, _, _⟩) (v := ?_) rfl (by kernel_rfl) (by kernel_rfl) (by kernel_rfl) (fun _ _ _ h => h) (Or.inl ⟨by rfl, ?_⟩) hS ?_
        rotate_left 1
        · intro w' hB; have hss := hB.row XS.out (by omega); have s1 := cell_of_row _ (z + 1) 1 _ _ _ hss; have s2 := cell_of_row _ (z + 1) 2 _ _ _ hss; have s3 := cell_of_row _ (z + 1) 3 _ _ _ hss; have s4 := cell_of_row _ (z + 1) 4 _ _ _ hss; have s5 := cell_of_row _ (z + 1) 5 _ _ _ hss; have s6 := cell_of_row _ (z + 1) 6 _ _ _ hss; have n0 := cell_of_one (hB.row XN.out NE.out); clear hss; (go_simp <;> with_reducible rfl)
        try simp only [Act.put, List.setIfInBounds_toArray, List.set_cons_zero, List.set_cons_succ]
        refine wpAnyH_take (i := 4) (oi := ⟨some 57, _, _, _, _, _⟩) (v := ?_) rfl (by kernel_rfl) (by kernel_rfl) (by kernel_rfl) (fun _ _ _ h => h) (Or.inl ⟨by rfl, ?_⟩) hS ?_
        rotate_left 1
        · intro w' hB; have hss := hB.row XS.out (by omega); have s1 := cell_of_row _ (z + 1) 1 _ _ _ hss; have s2 := cell_of_row _ (z + 1) 2 _ _ _ hss; have s3 := cell_of_row _ (z + 1) 3 _ _ _ hss; have s4 := cell_of_row _ (z + 1) 4 _ _ _ hss; have s5 := cell_of_row _ (z + 1) 5 _ _ _ hss; have s6 := cell_of_row _ (z + 1) 6 _ _ _ hss; have n0 := cell_of_one (hB.row XN.out NE.out); clear hss; (go_simp <;> with_reducible rfl)
        try simp only [Act.put, List.setIfInBounds_toArray, List.set_cons_zero, List.set_cons_succ]
        refine wpAnyH_take (i := 5) (oi := ⟨some 58, _, _, _, _, _⟩) (v := ?_) rfl (by kernel_rfl) (by kernel_rfl) (by kernel_rfl) (fun _ _ _ h => h) (Or.inl ⟨by rfl, ?_⟩) hS ?_
        rotate_left 1
        · intro w' hB; have hss := hB.row XS.out (by omega); have s1 := cell_of_row _ (z + 1) 1 _ _ _ hss; have s2 := cell_of_row _ (z + 1) 2 _ _ _ hss; have s3 := cell_of_row _ (z + 1) 3 _ _ _ hss; have s4 := cell_of_row _ (z + 1) 4 _ _ _ hss; have s5 := cell_of_row _ (z + 1) 5 _ _ _ hss; have s6 := cell_of_row _ (z + 1) 6 _ _ _ hss; have n0 := cell_of_one (hB.row XN.out NE.out); clear hss; (go_simp <;> with_reducible rfl)
        try simp only [Act.put, List.setIfInBounds_toArray, List.set_cons_zero, List.set_cons_succ]
        refine wpAnyH_take (i := 6) (oi := ⟨some 59, _, _, _, _, _⟩) (v := ?_) rfl (by kernel_rfl) (by kernel_rfl) (by kernel_rfl) (fun _ _ _ h => h) (Or.inl ⟨by rfl, ?_⟩) hS ?_
        rotate_left 1
        · intro w' hB; have hss := hB.row XS.out (by omega); have s1 := cell_of_row _ (z + 1) 1 _ _ _ hss; have s2 := cell_of_row _ (z + 1) 2 _ _ _ hss; have s3 := cell_of_row _ (z + 1) 3 _ _ _ hss; have s4 := cell_of_row _ (z + 1) 4 _ _ _ hss; have s5 := cell_of_row _ (z + 1) 5 _ _ _ hss; have s6 := cell_of_row _ (z + 1) 6 _ _ _ hss; have n0 := cell_of_one (hB.row XN.out NE.out); clear hss; (go_simp <;> with_reducible rfl)
        try simp only [Act.put, List.setIfInBounds_toArray, List.set_cons_zero, List.set_cons_succ]
        refine wpAnyH_take (i := 7) (oi := ⟨some 60, _, _, _, _, _⟩) (v := ?_) rfl (by kernel_rfl) (by kernel_rfl) (by kernel_rfl) (fun _ _ _ h => h) (Or.inl ⟨by rfl, ?_⟩) hS ?_
        rotate_left 1
        · intro w' hB; have hss := hB.row XS.out (by omega); have s1 := cell_of_row _ (z + 1) 1 _ _ _ hss; have s2 := cell_of_row _ (z + 1) 2 _ _ _ hss; have s3 := cell_of_row _ (z + 1) 3 _ _ _ hss; have s4 := cell_of_row _ (z + 1) 4 _ _ _ hss; have s5 := cell_of_row _ (z + 1) 5 _ _ _ hss; have s6 := cell_of_row _ (z + 1) 6 _ _ _ hss; have n0 := cell_of_one (hB.row XN.out NE.out); clear hss; (go_simp <;> with_reducible rfl)
        try simp only [Act.put, List.setIfInBounds_toArray, List.set_cons_zero, List.set_cons_succ]
        refine wpAnyH_take (i := 10) (oi := ⟨some 63, _, _, _, _, _⟩) (v := ?_) rfl (by kernel_rfl) (by kernel_rfl) (by kernel_rfl) (fun _ _ _ h => h) (Or.inl ⟨by rfl, ?_⟩) hS ?_
        rotate_left 1
        · intro w' hB; have hss := hB.row XS.out (by omega); have s1 := cell_of_row _ (z + 1) 1 _ _ _ hss; have s2 := cell_of_row _ (z + 1) 2 _ _ _ hss; have s3 := cell_of_row _ (z + 1) 3 _ _ _ hss; have s4 := cell_of_row _ (z + 1) 4 _ _ _ hss; have s5 := cell_of_row _ (z + 1) 5 _ _ _ hss; have s6 := cell_of_row _ (z + 1) 6 _ _ _ hss; have n0 := cell_of_one (hB.row XN.out NE.out); clear hss; (go_simp <;> with_reducible rfl)
        try simp only [Act.put, List.setIfInBounds_toArray, List.set_cons_zero, List.set_cons_succ]
        refine wpAnyH_ready (rs := [2, 8]) (by kernel_rfl) (by simp) (AllReadyH.cons (o := ⟨some 55, _, _, _, _, _⟩) rfl (fun K hK => ?way2) (AllReadyH.cons (o := ⟨some 61, _, _, _, _, _⟩) rfl (fun K hK => ?way1) AllReadyH.nil))
        case' way2 =>
          refine step_app rfl _ _ _ _ rfl w7.heap.size 47 _ 6 64 ET.out (.slice none 0 0) 0 [] rfl ⟨rfl, Or.inl ⟨rfl, rfl⟩⟩ _ n (elsV l) rfl ((els_keepX XC.out hS XP.out).srcN hlt1 (elsV_one _) Try.underlying22 c (by decide)) (by unfold maxLen; omega) (by omega) hS.size ?_
          intro u3 r3 hown hgr hb _
          refine hK.out _ _ (hS.thenB hb) (fun _ => ?_)
          clear hK K
          replace hS := hS.thenB hb
          have H3 : Hid (World.ownsRow _ w7.heap.size 47 6 u3 n (elsV l)) := Lib.hid (by simpa using hown)
          (try (replace H8 := Lib.hid (H8.out.below (grown_none hgr) rfl)))
          replace YP := Lib.hid ((hb.block _ ZL.out).trans YP.out)
          clear hb hgr
          try simp only [Act.put, List.setIfInBounds_toArray, List.set_cons_zero, List.set_cons_succ]
          refine wpAnyH_ready (rs := [8]) (by kernel_rfl) (by simp) (AllReadyH.cons (o := ⟨some 61, _, _, _, _, _⟩) rfl (fun K hK => ?_) AllReadyH.nil)
          go_simp
          refine hK.out _ _ (hS.alloc _) (fun _ => ?_)
          clear hK K
          refine wpAnyH_madeX hS ?_
          have hS0 := hS
          clear hS
          rintro r8 hw hS
          (try (replace H3 := Lib.hid (show World.ownsRow r8 w7.heap.size 47 6 u3 n (elsV l) from by rw [hw]; exact H3.out.alloc _)))
          have H8 := Lib.hid (cellsAt_made (vs := elV (s, x)) hw)
          replace YP := Lib.hid (boxStays YP.out (show Below _ _ r8 from by rw [hw]; exact below_new _ _))
          clear hw hS0
          try simp only [Act.put, List.setIfInBounds_toArray, List.set_cons_zero, List.set_cons_succ]
          refine wpAnyH_ready (rs := [9]) (by kernel_rfl) (by simp) (AllReadyH.cons (o := ⟨some 62, _, _, _, _, _⟩) rfl (fun K hK => ?_) AllReadyH.nil)
          refine step_app rfl _ _ _ _ rfl w7.heap.size 47 _ 6 64 ET.out u3 n (elsV l) rfl H3.out _ 1 (elV (s, x)) rfl (H8.out.srcN rfl (fun u hu => elsV_one [(s, x)] u (by simpa [elsV] using hu)) Try.underlying22 1 (by decide)) (by unfold maxLen; omega) (by omega) hS.size ?_
          intro u9 r9 hown hgr hb _
          refine hK.out _ _ (hS.thenB hb) (fun _ => ?_)
          clear hK K
          replace hS := hS.thenB hb
          have H9 := hown
          rw [show elsV l ++ elV (s, x) = elsV (l ++ [(s, x)]) from by rw [elsV_append]; rfl] at H9
          obtain ⟨g9, k9, rfl, hg9, _, hnk, _⟩ := own_form H9 (by omega)
          have G9 : Hid (g9 ≠ z + 1 + 1 ∧ n + 1 ≤ k9) := Lib.hid ⟨by have := ZL.out; omega, hnk⟩
          have C9 : Hid (CellsAt r9 (some ⟨g9, 0, none⟩) (elsV (l ++ [(s, x)]))) := Lib.hid (CellsAt.ownN H9)
          clear H9 hg9 hnk H3 H8
          replace YP := Lib.hid ((hb.block _ ZL.out).trans YP.out)
          clear hb hgr
          try simp only [Act.put, List.setIfInBounds_toArray, List.set_cons_zero, List.set_cons_succ]
          refine wpAnyH_ready (rs := [11]) (by kernel_rfl) (by simp) (AllReadyH.cons (o := ⟨some 64, _, _, _, _, _⟩) rfl (fun K hK => ?_) AllReadyH.nil)
          go_simp
          refine (HNUM.out 0 _).mono ?_
          rintro e r11 ⟨rfl, hb', hb⟩
          refine hK.out _ _ (hS.trans (hb)) (fun _ => ?_)
          clear hK K
          replace hS := hS.trans (hb)
          replace YP := Lib.hid (boxStays YP.out hb')
          replace C9 := Lib.hid (C9.out.below hb' rfl)
          clear hb'
          clear hb
          try simp only [Act.put, List.setIfInBounds_toArray, List.set_cons_zero, List.set_cons_succ]
          refine wpAnyH_take (i := 12) (oi := ⟨some 65, _, _, _, _, _⟩) (v := ?_) rfl (by kernel_rfl) (by kernel_rfl) (by kernel_rfl) (fun _ _ _ h => h) (Or.inl ⟨by rfl, ?_⟩) hS ?_
          rotate_left 1
          · intro w' hB; have hss := hB.row XS.out (by omega); have s1 := cell_of_row _ (z + 1) 1 _ _ _ hss; have s2 := cell_of_row _ (z + 1) 2 _ _ _ hss; have s3 := cell_of_row _ (z + 1) 3 _ _ _ hss; have s4 := cell_of_row _ (z + 1) 4 _ _ _ hss; have s5 := cell_of_row _ (z + 1) 5 _ _ _ hss; have s6 := cell_of_row _ (z + 1) 6 _ _ _ hss; have n0 := cell_of_one (hB.row XN.out NE.out); clear hss; (go_simp <;> with_reducible rfl)
          try simp only [Act.put, List.setIfInBounds_toArray, List.set_cons_zero, List.set_cons_succ]
          refine wpAnyH_ready (rs := [13]) (by kernel_rfl) (by simp) (AllReadyH.cons (o := ⟨none, _, _, _, _, _⟩) rfl (fun K hK => ?_) AllReadyH.nil)
          have y1 := cell_of_one YP.out
          have f1 := frozen_of_row _ (z + 1 + 1) 0 _ _ YP.out
          replace hS := KeepX.setRow hS YP.out rfl 0 (Value.pointer (pa m))
          replace C9 := Lib.hid (C9.out.keepX (KeepX.setRow (KeepX.refl _) YP.out rfl 0 (Value.pointer (pa m))) (fun ad h => by cases h; exact G9.out.1))
          replace YP := Lib.hid (Boxed.set (t := 27) (.pointer (pa m)) YP.out)
          go_simp
          refine hK.out _ _ hS (fun _ => ?_)
          clear hK K y1 f1
          try simp only [Act.put, List.setIfInBounds_toArray, List.set_cons_zero, List.set_cons_succ]
          refine wpAnyH_take (i := 14) (oi := ⟨some 7, _, _, _, _, _⟩) (v := ?_) rfl (by kernel_rfl) (by kernel_rfl) (by kernel_rfl) (fun _ _ _ h => h) (Or.inl ⟨by rfl, ?_⟩) hS ?_
          rotate_left 1
          · intro w' hB; have hss := hB.row XS.out (by omega); have s1 := cell_of_row _ (z + 1) 1 _ _ _ hss; have s2 := cell_of_row _ (z + 1) 2 _ _ _ hss; have s3 := cell_of_row _ (z + 1) 3 _ _ _ hss; have s4 := cell_of_row _ (z + 1) 4 _ _ _ hss; have s5 := cell_of_row _ (z + 1) 5 _ _ _ hss; have s6 := cell_of_row _ (z + 1) 6 _ _ _ hss; have n0 := cell_of_one (hB.row XN.out NE.out); clear hss; (go_simp <;> with_reducible rfl)
          try simp only [Act.put, List.setIfInBounds_toArray, List.set_cons_zero, List.set_cons_succ]
          refine wpAnyH_take (i := 15) (oi := ⟨some 8, _, _, _, _, _⟩) (v := ?_) rfl (by kernel_rfl) (by kernel_rfl) (by kernel_rfl) (fun _ _ _ h => h) (Or.inl ⟨by rfl, ?_⟩) hS ?_
          rotate_left 1
          · intro w' hB; have hss := hB.row XS.out (by omega); have s1 := cell_of_row _ (z + 1) 1 _ _ _ hss; have s2 := cell_of_row _ (z + 1) 2 _ _ _ hss; have s3 := cell_of_row _ (z + 1) 3 _ _ _ hss; have s4 := cell_of_row _ (z + 1) 4 _ _ _ hss; have s5 := cell_of_row _ (z + 1) 5 _ _ _ hss; have s6 := cell_of_row _ (z + 1) 6 _ _ _ hss; have n0 := cell_of_one (hB.row XN.out NE.out); clear hss; (go_simp <;> with_reducible rfl)
          try simp only [Act.put, List.setIfInBounds_toArray, List.set_cons_zero, List.set_cons_succ]
          refine wpAnyH_done (by kernel_rfl) (NoPanic.normal ?_) _
        case' way1 =>
          go_simp
          refine hK.out _ _ (hS.alloc _) (fun _ => ?_)
          clear hK K
          refine wpAnyH_madeX hS ?_
          have hS0 := hS
          clear hS
          rintro r8 hw hS
          (try (replace H3 := Lib.hid (show World.ownsRow r8 w7.heap.size 47 6 u3 n (elsV l) from by rw [hw]; exact H3.out.alloc _)))
          have H8 := Lib.hid (cellsAt_made (vs := elV (s, x)) hw)
          replace YP := Lib.hid (boxStays YP.out (show Below _ _ r8 from by rw [hw]; exact below_new _ _))
          clear hw hS0
          try simp only [Act.put, List.setIfInBounds_toArray, List.set_cons_zero, List.set_cons_succ]
          refine wpAnyH_ready (rs := [2]) (by kernel_rfl) (by simp) (AllReadyH.cons (o := ⟨some 55, _, _, _, _, _⟩) rfl (fun K hK => ?_) AllReadyH.nil)
          refine step_app rfl _ _ _ _ rfl w7.heap.size 47 _ 6 64 ET.out (.slice none 0 0) 0 [] rfl ⟨rfl, Or.inl ⟨rfl, rfl⟩⟩ _ n (elsV l) rfl ((els_keepX XC.out hS XP.out).srcN hlt1 (elsV_one _) Try.underlying22 c (by decide)) (by unfold maxLen; omega) (by omega) hS.size ?_
          intro u3 r3 hown hgr hb _
          refine hK.out _ _ (hS.thenB hb) (fun _ => ?_)
          clear hK K
          replace hS := hS.thenB hb
          have H3 : Hid (World.ownsRow _ w7.heap.size 47 6 u3 n (elsV l)) := Lib.hid (by simpa using hown)
          (try (replace H8 := Lib.hid (H8.out.below (grown_none hgr) rfl)))
          replace YP := Lib.hid ((hb.block _ ZL.out).trans YP.out)
          clear hb hgr
          try simp only [Act.put, List.setIfInBounds_toArray, List.set_cons_zero, List.set_cons_succ]
          refine wpAnyH_ready (rs := [9]) (by kernel_rfl) (by simp) (AllReadyH.cons (o := ⟨some 62, _, _, _, _, _⟩) rfl (fun K hK => ?_) AllReadyH.nil)
          refine step_app rfl _ _ _ _ rfl w7.heap.size 47 _ 6 64 ET.out u3 n (elsV l) rfl H3.out _ 1 (elV (s, x)) rfl (H8.out.srcN rfl (fun u hu => elsV_one [(s, x)] u (by simpa [elsV] using hu)) Try.underlying22 1 (by decide)) (by unfold maxLen; omega) (by omega) hS.size ?_
          intro u9 r9 hown hgr hb _
          refine hK.out _ _ (hS.thenB hb) (fun _ => ?_)
          clear hK K
          replace hS := hS.thenB hb
          have H9 := hown
          rw [show elsV l ++ elV (s, x) = elsV (l ++ [(s, x)]) from by rw [elsV_append]; rfl] at H9
          obtain ⟨g9, k9, rfl, hg9, _, hnk, _⟩ := own_form H9 (by omega)
          have G9 : Hid (g9 ≠ z + 1 + 1 ∧ n + 1 ≤ k9) := Lib.hid ⟨by have := ZL.out; omega, hnk⟩
          have C9 : Hid (CellsAt r9 (some ⟨g9, 0, none⟩) (elsV (l ++ [(s, x)]))) := Lib.hid (CellsAt.ownN H9)
          clear H9 hg9 hnk H3 H8
          replace YP := Lib.hid ((hb.block _ ZL.out).trans YP.out)
          clear hb hgr
          try simp only [Act.put, List.setIfInBounds_toArray, List.set_cons_zero, List.set_cons_succ]
          refine wpAnyH_ready (rs := [11]) (by kernel_rfl) (by simp) (AllReadyH.cons (o := ⟨some 64, _, _, _, _, _⟩) rfl (fun K hK => ?_) AllReadyH.nil)
          go_simp
          refine (HNUM.out 0 _).mono ?_
          rintro e r11 ⟨rfl, hb', hb⟩
          refine hK.out _ _ (hS.trans (hb)) (fun _ => ?_)
          clear hK K
          replace hS := hS.trans (hb)
          replace YP := Lib.hid (boxStays YP.out hb')
          replace C9 := Lib.hid (C9.out.below hb' rfl)
          clear hb'
          clear hb
          try simp only [Act.put, List.setIfInBounds_toArray, List.set_cons_zero, List.set_cons_succ]
          refine wpAnyH_take (i := 12) (oi := ⟨some 65, _, _, _, _, _⟩) (v := ?_) rfl (by kernel_rfl) (by kernel_rfl) (by kernel_rfl) (fun _ _ _ h => h) (Or.inl ⟨by rfl, ?_⟩) hS ?_
          rotate_left 1
          · intro w' hB; have hss := hB.row XS.out (by omega); have s1 := cell_of_row _ (z + 1) 1 _ _ _ hss; have s2 := cell_of_row _ (z + 1) 2 _ _ _ hss; have s3 := cell_of_row _ (z + 1) 3 _ _ _ hss; have s4 := cell_of_row _ (z + 1) 4 _ _ _ hss; have s5 := cell_of_row _ (z + 1) 5 _ _ _ hss; have s6 := cell_of_row _ (z + 1) 6 _ _ _ hss; have n0 := cell_of_one (hB.row XN.out NE.out); clear hss; (go_simp <;> with_reducible rfl)
          try simp only [Act.put, List.setIfInBounds_toArray, List.set_cons_zero, List.set_cons_succ]
          refine wpAnyH_ready (rs := [13]) (by kernel_rfl) (by simp) (AllReadyH.cons (o := ⟨none, _, _, _, _, _⟩) rfl (fun K hK => ?_) AllReadyH.nil)
          have y1 := cell_of_one YP.out
          have f1 := frozen_of_row _ (z + 1 + 1) 0 _ _ YP.out
          replace hS := KeepX.setRow hS YP.out rfl 0 (Value.pointer (pa m))
          replace C9 := Lib.hid (C9.out.keepX (KeepX.setRow (KeepX.refl _) YP.out rfl 0 (Value.pointer (pa m))) (fun ad h => by cases h; exact G9.out.1))
          replace YP := Lib.hid (Boxed.set (t := 27) (.pointer (pa m)) YP.out)
          go_simp
          refine hK.out _ _ hS (fun _ => ?_)
          clear hK K y1 f1
          try simp only [Act.put, List.setIfInBounds_toArray, List.set_cons_zero, List.set_cons_succ]
          refine wpAnyH_take (i := 14) (oi := ⟨some 7, _, _, _, _, _⟩) (v := ?_) rfl (by kernel_rfl) (by kernel_rfl) (by kernel_rfl) (fun _ _ _ h => h) (Or.inl ⟨by rfl, ?_⟩) hS ?_
          rotate_left 1
          · intro w' hB; have hss := hB.row XS.out (by omega); have s1 := cell_of_row _ (z + 1) 1 _ _ _ hss; have s2 := cell_of_row _ (z + 1) 2 _ _ _ hss; have s3 := cell_of_row _ (z + 1) 3 _ _ _ hss; have s4 := cell_of_row _ (z + 1) 4 _ _ _ hss; have s5 := cell_of_row _ (z + 1) 5 _ _ _ hss; have s6 := cell_of_row _ (z + 1) 6 _ _ _ hss; have n0 := cell_of_one (hB.row XN.out NE.out); clear hss; (go_simp <;> with_reducible rfl)
          try simp only [Act.put, List.setIfInBounds_toArray, List.set_cons_zero, List.set_cons_succ]
          refine wpAnyH_take (i := 15) (oi := ⟨some 8, _, _, _, _, _⟩) (v := ?_) rfl (by kernel_rfl) (by kernel_rfl) (by kernel_rfl) (fun _ _ _ h => h) (Or.inl ⟨by rfl, ?_⟩) hS ?_
          rotate_left 1
          · intro w' hB; have hss := hB.row XS.out (by omega); have s1 := cell_of_row _ (z + 1) 1 _ _ _ hss; have s2 := cell_of_row _ (z + 1) 2 _ _ _ hss; have s3 := cell_of_row _ (z + 1) 3 _ _ _ hss; have s4 := cell_of_row _ (z + 1) 4 _ _ _ hss; have s5 := cell_of_row _ (z + 1) 5 _ _ _ hss; have s6 := cell_of_row _ (z + 1) 6 _ _ _ hss; have n0 := cell_of_one (hB.row XN.out NE.out); clear hss; (go_simp <;> with_reducible rfl)
          try simp only [Act.put, List.setIfInBounds_toArray, List.set_cons_zero, List.set_cons_succ]
          refine wpAnyH_done (by kernel_rfl) (NoPanic.normal ?_) _
        all_goals
          generalize r11.setCell ⟨z + 1 + 1, 0, none⟩ (.pointer (pa m)) = r12 at *
          have q := cell_of_one YP.out
          go_wp2_with fail
          refine bodyPost_ret (v := .tuple #[.agg #[.pointer (pa m)], .slice (some ⟨g9, 0, none⟩) (n + 1) k9, .bool true]) (by simp [results, Try.results40, go_sem, q]) rfl ?_
          exact do_end BW.out Z0.out.1 (Nat.le_of_lt ZL.out) hS DQ.out (XT.out.keepZ hS XP.out (by decide)) RM.out C9.out (by rw [List.length_append, HN.out]; rfl) G9.out.2
  ·
    by_cases k2 : k = 2
    · subst k2
      by_cases hn0 : n = 0
      · obtain rfl : l = [] := List.length_eq_zero_iff.1 (by rw [← HN.out]; exact hn0)
        subst hn0
        have DQ : Hid (([] : List Ev) = doQ [] 2 s x d) := Lib.hid rfl
        go_upto_region 8 with (fail)
        have kM0 := cell_of_one HM.out
        go_wp2_with fail
        refine (qu_PopNo t _ (T.out.below (HC.out.to w (by simp)) rfl) (by rw [R.out.len]; exact HZL.out) R.out.keys R.out.shown).mono ?_
        rintro e w4 ⟨rfl, hb⟩
        clear kM0
        replace HC := Lib.hid (HC.out.push hb)
        clear hb
        have N50 : Hid (w3.heap.size ≤ w4.heap.size) := Lib.hid (HC.out.to w3 (by simp)).size
        go_upto_region 9 with (fail)
        obtain ⟨c5, hc5⟩ : ∃ c, w4.heap.size = c := ⟨_, rfl⟩
        try rw [hc5]
        obtain ⟨w5, hw5⟩ : ∃ X, allocs w4 [.cells #[.pointer (pa t)] 27, .cells #[.int .i64 0, .int .i64 0, .string ⟨#[]⟩, .int .i64 0, .int .i64 0, .string ⟨#[]⟩] 47] = X := ⟨_, rfl⟩
        rw [show (w4.alloc (.cells #[.pointer (pa t)] 27)).alloc (.cells #[.int .i64 0, .int .i64 0, .string ⟨#[]⟩, .int .i64 0, .int .i64 0, .string ⟨#[]⟩] 47) = w5 from hw5]
        have hb : Below w4.heap.size w4 w5 := by rw [← hw5]; exact allocs_below _ _
        have HN5 : Hid (w5.heap[c5]? = some (.cells #[.pointer (pa t)] 27 (0, 0))) := Lib.hid (by have := allocs_get [.cells #[.pointer (pa t)] 27, .cells #[.int .i64 0, .int .i64 0, .string ⟨#[]⟩, .int .i64 0, .int .i64 0, .string ⟨#[]⟩] 47] w4 0 _ rfl; rw [hw5, hc5] at this; exact this)
        have HY : Hid (w5.heap[c5 + 1]? = some (.cells #[.int .i64 0, .int .i64 0, .string ⟨#[]⟩, .int .i64 0, .int .i64 0, .string ⟨#[]⟩] 47 (0, 0))) := Lib.hid (by have := allocs_get [.cells #[.pointer (pa t)] 27, .cells #[.int .i64 0, .int .i64 0, .string ⟨#[]⟩, .int .i64 0, .int .i64 0, .string ⟨#[]⟩] 47] w4 1 _ rfl; rw [hw5, hc5] at this; exact this)
        have Sc5 : Hid (w4.heap.size = c5) := Lib.hid hc5
        replace HC := Lib.hid (HC.out.push hb)
        clear hb hw5 hc5
        have N5Z : Hid (w3.heap.size ≤ c5) := Lib.hid (by rw [← Sc5.out]; exact N50.out)
        have XM := Lib.hid (boxStays HM.out (HC.out.to w3 (by simp)))
        have XN := HN5
        have XY := HY
        have XP := Lib.hid (boxStays HP.out (HC.out.to w3 (by simp)))
        have XT := Lib.hid (T.out.below (HC.out.to w (by simp)) rfl)
        have XC := Lib.hid (CL.out.below (HC.out.to w (by simp)) rfl)
        have BW := Lib.hid (HC.out.to w (by simp))
        have NE : Hid (c5 ≠ z + 1 + 1 ∧ c5 + 1 ≠ z + 1 + 1) := Lib.hid (by have := N5Z.out; have := Z0.out.2; omega)
        have ZL : Hid (z + 1 + 1 < w5.heap.size) := Lib.hid (Array.getElem?_eq_some_iff.1 XP.out).1
        have EQ : Hid (∀ W, (binOp .eql 47 (.agg #[.int .i64 0, .int .i64 0, .string ⟨#[]⟩, .int .i64 0, .int .i64 0, .string ⟨#[]⟩]) (.agg #[.int .i64 0, .int .i64 0, .string ⟨#[]⟩, .int .i64 0, .int .i64 0, .string ⟨#[]⟩])).run Try.prog W = .ok (.bool true) W) := Lib.hid (fun W => (ev_eql zeroE zeroE W).trans (by simp))
        have HSM : Hid (∀ W, AtS W t → Calls Try.prog 67 #[.agg #[.pointer (pa t)], .agg #[.pointer (pa t)]] W fun e w' => e = .returned (.bool true) ∧ Below W.heap.size W w' ∧ ∀ {Ex : Nat → TypeId → Prop}, KeepX Ex W w') := Lib.hid (fun W h => (pm_MSameS t t W h h).mono fun _ _ ⟨h1, h2⟩ => ⟨by rw [h1]; simp, h2, KeepX.ofBelow h2⟩)
        go_upto_region 10 with (fail)
        have YP : Hid (w5.drew.heap[z + 1 + 1]? = some (.cells #[.pointer none] 27 (0, 0))) := XP
        refine wp_region_noPanic ?_
        refine wp_region_held_drew (S := fun w' => KeepX (fun k _ => k = z + 1 + 1) w5 w') (by kernel_rfl) (KeepX.refl _).drew (fun hS => ?_)
        refine wpAnyH_take (i := 0) (oi := ⟨some 77, _, _, _, _, _⟩) (v := ?_) rfl (by kernel_rfl) (by kernel_rfl) (by kernel_rfl) (fun _ _ _ h => h) (Or.inl ⟨by rfl, ?_⟩) hS ?_
        rotate_left 1
        · intro w' hB; have m0 := cell_of_one (hB.row XM.out (by omega)); have n0 := cell_of_one (hB.row XN.out NE.out.1); have hyy := hB.row XY.out NE.out.2; have y0 := cell_of_row _ (c5 + 1) 0 _ _ _ hyy; have y1 := cell_of_row _ (c5 + 1) 1 _ _ _ hyy; have y2 := cell_of_row _ (c5 + 1) 2 _ _ _ hyy; have y3 := cell_of_row _ (c5 + 1) 3 _ _ _ hyy; have y4 := cell_of_row _ (c5 + 1) 4 _ _ _ hyy; have y5 := cell_of_row _ (c5 + 1) 5 _ _ _ hyy; clear hyy; have eq := EQ.out w'; (go_simp <;> with_reducible rfl)
        try simp only [Act.put, List.setIfInBounds_toArray, List.set_cons_zero, List.set_cons_succ]
        refine wpAnyH_take (i := 1) (oi := ⟨some 78, _, _, _, _, _⟩) (v := ?_) rfl (by kernel_rfl) (by kernel_rfl) (by kernel_rfl) (fun _ _ _ h => h) (Or.inl ⟨by rfl, ?_⟩) hS ?_
        rotate_left 1
        · intro w' hB; have m0 := cell_of_one (hB.row XM.out (by omega)); have n0 := cell_of_one (hB.row XN.out NE.out.1); have hyy := hB.row XY.out NE.out.2; have y0 := cell_of_row _ (c5 + 1) 0 _ _ _ hyy; have y1 := cell_of_row _ (c5 + 1) 1 _ _ _ hyy; have y2 := cell_of_row _ (c5 + 1) 2 _ _ _ hyy; have y3 := cell_of_row _ (c5 + 1) 3 _ _ _ hyy; have y4 := cell_of_row _ (c5 + 1) 4 _ _ _ hyy; have y5 := cell_of_row _ (c5 + 1) 5 _ _ _ hyy; clear hyy; have eq := EQ.out w'; (go_simp <;> with_reducible rfl)
        try simp only [Act.put, List.setIfInBounds_toArray, List.set_cons_zero, List.set_cons_succ]
        refine wpAnyH_take (i := 2) (oi := ⟨some 79, _, _, _, _, _⟩) (v := ?_) rfl (by kernel_rfl) (by kernel_rfl) (by kernel_rfl) (fun _ _ _ h => h) (Or.inl ⟨by rfl, ?_⟩) hS ?_
        rotate_left 1
        · intro w' hB; have m0 := cell_of_one (hB.row XM.out (by omega)); have n0 := cell_of_one (hB.row XN.out NE.out.1); have hyy := hB.row XY.out NE.out.2; have y0 := cell_of_row _ (c5 + 1) 0 _ _ _ hyy; have y1 := cell_of_row _ (c5 + 1) 1 _ _ _ hyy; have y2 := cell_of_row _ (c5 + 1) 2 _ _ _ hyy; have y3 := cell_of_row _ (c5 + 1) 3 _ _ _ hyy; have y4 := cell_of_row _ (c5 + 1) 4 _ _ _ hyy; have y5 := cell_of_row _ (c5 + 1) 5 _ _ _ hyy; clear hyy; have eq := EQ.out w'; (go_simp <;> with_reducible rfl)
        try simp only [Act.put, List.setIfInBounds_toArray, List.set_cons_zero, List.set_cons_succ]
        refine wpAnyH_take (i := 3) (oi := ⟨some 80, _, _, _, _, _⟩) (v := ?_) rfl (by kernel_rfl) (by kernel_rfl) (by kernel_rfl) (fun _ _ _ h => h) (Or.inl ⟨by rfl, ?_⟩) hS ?_
        rotate_left 1
        · intro w' hB; have m0 := cell_of_one (hB.row XM.out (by omega)); have n0 := cell_of_one (hB.row XN.out NE.out.1); have hyy := hB.row XY.out NE.out.2; have y0 := cell_of_row _ (c5 + 1) 0 _ _ _ hyy; have y1 := cell_of_row _ (c5 + 1) 1 _ _ _ hyy; have y2 := cell_of_row _ (c5 + 1) 2 _ _ _ hyy; have y3 := cell_of_row _ (c5 + 1) 3 _ _ _ hyy; have y4 := cell_of_row _ (c5 + 1) 4 _ _ _ hyy; have y5 := cell_of_row _ (c5 + 1) 5 _ _ _ hyy; clear hyy; have eq := EQ.out w'; (go_simp <;> with_reducible rfl)
        try simp only [Act.put, List.setIfInBounds_toArray, List.set_cons_zero, List.set_cons_succ]
        refine wpAnyH_take (i := 4) (oi := ⟨some 81, _, _, _, _, _⟩) (v := ?_) rfl (by kernel_rfl) (by kernel_rfl) (by kernel_rfl) (fun _ _ _ h => h) (Or.inl ⟨by rfl, ?_⟩) hS ?_
        rotate_left 1
        · intro w' hB; have m0 := cell_of_one (hB.row XM.out (by omega)); have n0 := cell_of_one (hB.row XN.out NE.out.1); have hyy := hB.row XY.out NE.out.2; have y0 := cell_of_row _ (c5 + 1) 0 _ _ _ hyy; have y1 := cell_of_row _ (c5 + 1) 1 _ _ _ hyy; have y2 := cell_of_row _ (c5 + 1) 2 _ _ _ hyy; have y3 := cell_of_row _ (c5 + 1) 3 _ _ _ hyy; have y4 := cell_of_row _ (c5 + 1) 4 _ _ _ hyy; have y5 := cell_of_row _ (c5 + 1) 5 _ _ _ hyy; clear hyy; have eq := EQ.out w'; (go_simp <;> with_reducible rfl)
        try simp only [Act.put, List.setIfInBounds_toArray, List.set_cons_zero, List.set_cons_succ]
        refine wpAnyH_take (i := 5) (oi := ⟨some 82, _, _, _, _, _⟩) (v := ?_) rfl (by kernel_rfl) (by kernel_rfl) (by kernel_rfl) (fun _ _ _ h => h) (Or.inl ⟨by rfl, ?_⟩) hS ?_
        rotate_left 1
        · intro w' hB; have m0 := cell_of_one (hB.row XM.out (by omega)); have n0 := cell_of_one (hB.row XN.out NE.out.1); have hyy := hB.row XY.out NE.out.2; have y0 := cell_of_row _ (c5 + 1) 0 _ _ _ hyy; have y1 := cell_of_row _ (c5 + 1) 1 _ _ _ hyy; have y2 := cell_of_row _ (c5 + 1) 2 _ _ _ hyy; have y3 := cell_of_row _ (c5 + 1) 3 _ _ _ hyy; have y4 := cell_of_row _ (c5 + 1) 4 _ _ _ hyy; have y5 := cell_of_row _ (c5 + 1) 5 _ _ _ hyy; clear hyy; have eq := EQ.out w'; (go_simp <;> with_reducible rfl)
        try simp only [Act.put, List.setIfInBounds_toArray, List.set_cons_zero, List.set_cons_succ]
        refine wpAnyH_take (i := 6) (oi := ⟨some 83, _, _, _, _, _⟩) (v := ?_) rfl (by kernel_rfl) (by kernel_rfl) (by kernel_rfl) (fun _ _ _ h => h) (Or.inl ⟨by rfl, ?_⟩) hS ?_
        rotate_left 1
        · intro w' hB; have m0 := cell_of_one (hB.row XM.out (by omega)); have n0 := cell_of_one (hB.row XN.out NE.out.1); have hyy := hB.row XY.out NE.out.2; have y0 := cell_of_row _ (c5 + 1) 0 _ _ _ hyy; have y1 := cell_of_row _ (c5 + 1) 1 _ _ _ hyy; have y2 := cell_of_row _ (c5 + 1) 2 _ _ _ hyy; have y3 := cell_of_row _ (c5 + 1) 3 _ _ _ hyy; have y4 := cell_of_row _ (c5 + 1) 4 _ _ _ hyy; have y5 := cell_of_row _ (c5 + 1) 5 _ _ _ hyy; clear hyy; have eq := EQ.out w'; (go_simp <;> with_reducible rfl)
        try simp only [Act.put, List.setIfInBounds_toArray, List.set_cons_zero, List.set_cons_succ]
        refine wpAnyH_take (i := 7) (oi := ⟨some 84, _, _, _, _, _⟩) (v := ?_) rfl (by kernel_rfl) (by kernel_rfl) (by kernel_rfl) (fun _ _ _ h => h) (Or.inl ⟨by rfl, ?_⟩) hS ?_
        rotate_left 1
        · intro w' hB; have m0 := cell_of_one (hB.row XM.out (by omega)); have n0 := cell_of_one (hB.row XN.out NE.out.1); have hyy := hB.row XY.out NE.out.2; have y0 := cell_of_row _ (c5 + 1) 0 _ _ _ hyy; have y1 := cell_of_row _ (c5 + 1) 1 _ _ _ hyy; have y2 := cell_of_row _ (c5 + 1) 2 _ _ _ hyy; have y3 := cell_of_row _ (c5 + 1) 3 _ _ _ hyy; have y4 := cell_of_row _ (c5 + 1) 4 _ _ _ hyy; have y5 := cell_of_row _ (c5 + 1) 5 _ _ _ hyy; clear hyy; have eq := EQ.out w'; (go_simp <;> with_reducible rfl)
        try simp only [Act.put, List.setIfInBounds_toArray, List.set_cons_zero, List.set_cons_succ]
        refine wpAnyH_take (i := 8) (oi := ⟨some 85, _, _, _, _, _⟩) (v := ?_) rfl (by kernel_rfl) (by kernel_rfl) (by kernel_rfl) (fun _ _ _ h => h) (Or.inl ⟨by rfl, ?_⟩) hS ?_
        rotate_left 1
        · intro w' hB; have m0 := cell_of_one (hB.row XM.out (by omega)); have n0 := cell_of_one (hB.row XN.out NE.out.1); have hyy := hB.row XY.out NE.out.2; have y0 := cell_of_row _ (c5 + 1) 0 _ _ _ hyy; have y1 := cell_of_row _ (c5 + 1) 1 _ _ _ hyy; have y2 := cell_of_row _ (c5 + 1) 2 _ _ _ hyy; have y3 := cell_of_row _ (c5 + 1) 3 _ _ _ hyy; have y4 := cell_of_row _ (c5 + 1) 4 _ _ _ hyy; have y5 := cell_of_row _ (c5 + 1) 5 _ _ _ hyy; clear hyy; have eq := EQ.out w'; (go_simp <;> with_reducible rfl)
        try simp only [Act.put, List.setIfInBounds_toArray, List.set_cons_zero, List.set_cons_succ]
        refine wpAnyH_take (i := 9) (oi := ⟨some 86, _, _, _, _, _⟩) (v := ?_) rfl (by kernel_rfl) (by kernel_rfl) (by kernel_rfl) (fun _ _ _ h => h) (Or.inl ⟨by rfl, ?_⟩) hS ?_
        rotate_left 1
        · intro w' hB; have m0 := cell_of_one (hB.row XM.out (by omega)); have n0 := cell_of_one (hB.row XN.out NE.out.1); have hyy := hB.row XY.out NE.out.2; have y0 := cell_of_row _ (c5 + 1) 0 _ _ _ hyy; have y1 := cell_of_row _ (c5 + 1) 1 _ _ _ hyy; have y2 := cell_of_row _ (c5 + 1) 2 _ _ _ hyy; have y3 := cell_of_row _ (c5 + 1) 3 _ _ _ hyy; have y4 := cell_of_row _ (c5 + 1) 4 _ _ _ hyy; have y5 := cell_of_row _ (c5 + 1) 5 _ _ _ hyy; clear hyy; have eq := EQ.out w'; (go_simp <;> with_reducible rfl)
        try simp only [Act.put, List.setIfInBounds_toArray, List.set_cons_zero, List.set_cons_succ]
        refine wpAnyH_take (i := 10) (oi := ⟨some 87, _, _, _, _, _⟩) (v := ?_) rfl (by kernel_rfl) (by kernel_rfl) (by kernel_rfl) (fun _ _ _ h => h) (Or.inl ⟨by rfl, ?_⟩) hS ?_
        rotate_left 1
        · intro w' hB; have m0 := cell_of_one (hB.row XM.out (by omega)); have n0 := cell_of_one (hB.row XN.out NE.out.1); have hyy := hB.row XY.out NE.out.2; have y0 := cell_of_row _ (c5 + 1) 0 _ _ _ hyy; have y1 := cell_of_row _ (c5 + 1) 1 _ _ _ hyy; have y2 := cell_of_row _ (c5 + 1) 2 _ _ _ hyy; have y3 := cell_of_row _ (c5 + 1) 3 _ _ _ hyy; have y4 := cell_of_row _ (c5 + 1) 4 _ _ _ hyy; have y5 := cell_of_row _ (c5 + 1) 5 _ _ _ hyy; clear hyy; have eq := EQ.out w'; (go_simp <;> with_reducible rfl)
        try simp only [Act.put, List.setIfInBounds_toArray, List.set_cons_zero, List.set_cons_succ]
        refine wpAnyH_take (i := 11) (oi := ⟨some 88, _, _, _, _, _⟩) (v := ?_) rfl (by kernel_rfl) (by kernel_rfl) (by kernel_rfl) (fun _ _ _ h => h) (Or.inl ⟨by rfl, ?_⟩) hS ?_
        rotate_left 1
        · intro w' hB; have m0 := cell_of_one (hB.row XM.out (by omega)); have n0 := cell_of_one (hB.row XN.out NE.out.1); have hyy := hB.row XY.out NE.out.2; have y0 := cell_of_row _ (c5 + 1) 0 _ _ _ hyy; have y1 := cell_of_row _ (c5 + 1) 1 _ _ _ hyy; have y2 := cell_of_row _ (c5 + 1) 2 _ _ _ hyy; have y3 := cell_of_row _ (c5 + 1) 3 _ _ _ hyy; have y4 := cell_of_row _ (c5 + 1) 4 _ _ _ hyy; have y5 := cell_of_row _ (c5 + 1) 5 _ _ _ hyy; clear hyy; have eq := EQ.out w'; (go_simp <;> with_reducible rfl)
        try simp only [Act.put, List.setIfInBounds_toArray, List.set_cons_zero, List.set_cons_succ]
        refine wpAnyH_ready (rs := [12]) (by kernel_rfl) (by simp) (AllReadyH.cons (o := ⟨some 89, _, _, _, _, _⟩) rfl (fun K hK => ?_) AllReadyH.nil)
        go_simp
        refine (HSM.out _ (XT.out.keepZ hS XP.out (by decide))).mono ?_
        rintro e r2 ⟨rfl, hb', hb⟩
        refine hK.out _ _ (hS.trans (hb)) (fun _ => ?_)
        clear hK K
        replace hS := hS.trans (hb)
        replace YP := Lib.hid (boxStays YP.out hb')
        clear hb'
        clear hb
        try simp only [Act.put, List.setIfInBounds_toArray, List.set_cons_zero, List.set_cons_succ]
        refine wpAnyH_take (i := 13) (oi := ⟨some 90, _, _, _, _, _⟩) (v := ?_) rfl (by kernel_rfl) (by kernel_rfl) (by kernel_rfl) (fun _ _ _ h => h) (Or.inl ⟨by rfl, ?_⟩) hS ?_
        rotate_left 1
        · intro w' hB; have m0 := cell_of_one (hB.row XM.out (by omega)); have n0 := cell_of_one (hB.row XN.out NE.out.1); have hyy := hB.row XY.out NE.out.2; have y0 := cell_of_row _ (c5 + 1) 0 _ _ _ hyy; have y1 := cell_of_row _ (c5 + 1) 1 _ _ _ hyy; have y2 := cell_of_row _ (c5 + 1) 2 _ _ _ hyy; have y3 := cell_of_row _ (c5 + 1) 3 _ _ _ hyy; have y4 := cell_of_row _ (c5 + 1) 4 _ _ _ hyy; have y5 := cell_of_row _ (c5 + 1) 5 _ _ _ hyy; clear hyy; have eq := EQ.out w'; (go_simp <;> with_reducible rfl)
        try simp only [Act.put, List.setIfInBounds_toArray, List.set_cons_zero, List.set_cons_succ]
        refine wpAnyH_ready (rs := [14]) (by kernel_rfl) (by simp) (AllReadyH.cons (o := ⟨none, _, _, _, _, _⟩) rfl (fun K hK => ?_) AllReadyH.nil)
        have y1 := cell_of_one YP.out
        have f1 := frozen_of_row _ (z + 1 + 1) 0 _ _ YP.out
        replace hS := KeepX.setRow hS YP.out rfl 0 (Value.pointer (pa t))
        replace YP := Lib.hid (Boxed.set (t := 27) (.pointer (pa t)) YP.out)
        go_simp
        refine hK.out _ _ hS (fun _ => ?_)
        clear hK K y1 f1
        try simp only [Act.put, List.setIfInBounds_toArray, List.set_cons_zero, List.set_cons_succ]
        refine wpAnyH_take (i := 15) (oi := ⟨some 7, _, _, _, _, _⟩) (v := ?_) rfl (by kernel_rfl) (by kernel_rfl) (by kernel_rfl) (fun _ _ _ h => h) (Or.inl ⟨by rfl, ?_⟩) hS ?_
        rotate_left 1
        · intro w' hB; have m0 := cell_of_one (hB.row XM.out (by omega)); have n0 := cell_of_one (hB.row XN.out NE.out.1); have hyy := hB.row XY.out NE.out.2; have y0 := cell_of_row _ (c5 + 1) 0 _ _ _ hyy; have y1 := cell_of_row _ (c5 + 1) 1 _ _ _ hyy; have y2 := cell_of_row _ (c5 + 1) 2 _ _ _ hyy; have y3 := cell_of_row _ (c5 + 1) 3 _ _ _ hyy; have y4 := cell_of_row _ (c5 + 1) 4 _ _ _ hyy; have y5 := cell_of_row _ (c5 + 1) 5 _ _ _ hyy; clear hyy; have eq := EQ.out w'; (go_simp <;> with_reducible rfl)
        try simp only [Act.put, List.setIfInBounds_toArray, List.set_cons_zero, List.set_cons_succ]
        refine wpAnyH_take (i := 16) (oi := ⟨some 8, _, _, _, _, _⟩) (v := ?_) rfl (by kernel_rfl) (by kernel_rfl) (by kernel_rfl) (fun _ _ _ h => h) (Or.inl ⟨by rfl, ?_⟩) hS ?_
        rotate_left 1
        · intro w' hB; have m0 := cell_of_one (hB.row XM.out (by omega)); have n0 := cell_of_one (hB.row XN.out NE.out.1); have hyy := hB.row XY.out NE.out.2; have y0 := cell_of_row _ (c5 + 1) 0 _ _ _ hyy; have y1 := cell_of_row _ (c5 + 1) 1 _ _ _ hyy; have y2 := cell_of_row _ (c5 + 1) 2 _ _ _ hyy; have y3 := cell_of_row _ (c5 + 1) 3 _ _ _ hyy; have y4 := cell_of_row _ (c5 + 1) 4 _ _ _ hyy; have y5 := cell_of_row _ (c5 + 1) 5 _ _ _ hyy; clear hyy; have eq := EQ.out w'; (go_simp <;> with_reducible rfl)
        try simp only [Act.put, List.setIfInBounds_toArray, List.set_cons_zero, List.set_cons_succ]
        refine wpAnyH_done (by kernel_rfl) (NoPanic.normal ?_) _
        generalize r2.setCell ⟨z + 1 + 1, 0, none⟩ (.pointer (pa t)) = r3 at *
        have q := cell_of_one YP.out
        go_wp2_with fail
        refine bodyPost_ret (v := .tuple #[.agg #[.pointer (pa t)], .slice a 0 c, .bool true]) (by simp [results, Try.results40, go_sem, q]) rfl ?_
        exact do_end BW.out Z0.out.1 (Nat.le_of_lt ZL.out) hS DQ.out (XT.out.keepZ hS XP.out (by decide)) R.out (CellsAt.nil _ _) rfl (Nat.zero_le _)
      ·
        obtain ⟨x0, l0, rfl⟩ : ∃ x0 l0, l = x0 :: l0 := by
          cases l with
          | nil => exact absurd HN.out hn0
          | cons y l => exact ⟨_, _, rfl⟩
        have hn1 : 0 < n := by omega
        have hni : ((n : Int) == 0) = false := by simp; omega
        have DQ : Hid (l0 = doQ (x0 :: l0) 2 s x d) := Lib.hid rfl
        have HZT : Hid (l0.length < 100000) := Lib.hid (by have h1 := HN.out; rw [List.length_cons] at h1; have := HZ.out; omega)
        go_upto_region 8 with (fail)
        have kM0 := cell_of_one HM.out
        go_wp2_with fail
        refine (qu_Pop x0 l0 t _ (T.out.below (HC.out.to w (by simp)) rfl) R.out HZT.out).mono ?_
        rintro e w4 ⟨m, rfl, hm, hr, hb⟩
        clear kM0
        replace HC := Lib.hid (HC.out.push hb)
        clear hb
        have N50 : Hid (w3.heap.size ≤ w4.heap.size) := Lib.hid (HC.out.to w3 (by simp)).size
        have TM := Lib.hid hm
        have RM := Lib.hid hr
        clear hm hr
        go_upto_region 9 with (fail)
        obtain ⟨c5, hc5⟩ : ∃ c, w4.heap.size = c := ⟨_, rfl⟩
        try rw [hc5]
        obtain ⟨w5, hw5⟩ : ∃ X, allocs w4 [.cells #[.pointer (pa m)] 27, .cells #[.int .i64 x0.1.g, .int .i64 x0.1.r, .string x0.1.l, .int .i64 x0.1.n, .int .i64 x0.1.i, .string x0.2] 47] = X := ⟨_, rfl⟩
        rw [show (w4.alloc (.cells #[.pointer (pa m)] 27)).alloc (.cells #[.int .i64 x0.1.g, .int .i64 x0.1.r, .string x0.1.l, .int .i64 x0.1.n, .int .i64 x0.1.i, .string x0.2] 47) = w5 from hw5]
        have hb : Below w4.heap.size w4 w5 := by rw [← hw5]; exact allocs_below _ _
        have HN5 : Hid (w5.heap[c5]? = some (.cells #[.pointer (pa m)] 27 (0, 0))) := Lib.hid (by have := allocs_get [.cells #[.pointer (pa m)] 27, .cells #[.int .i64 x0.1.g, .int .i64 x0.1.r, .string x0.1.l, .int .i64 x0.1.n, .int .i64 x0.1.i, .string x0.2] 47] w4 0 _ rfl; rw [hw5, hc5] at this; exact this)
        have HY : Hid (w5.heap[c5 + 1]? = some (.cells #[.int .i64 x0.1.g, .int .i64 x0.1.r, .string x0.1.l, .int .i64 x0.1.n, .int .i64 x0.1.i, .string x0.2] 47 (0, 0))) := Lib.hid (by have := allocs_get [.cells #[.pointer (pa m)] 27, .cells #[.int .i64 x0.1.g, .int .i64 x0.1.r, .string x0.1.l, .int .i64 x0.1.n, .int .i64 x0.1.i, .string x0.2] 47] w4 1 _ rfl; rw [hw5, hc5] at this; exact this)
        have Sc5 : Hid (w4.heap.size = c5) := Lib.hid hc5
        replace HC := Lib.hid (HC.out.push hb)
        clear hb hw5 hc5
        have N5Z : Hid (w3.heap.size ≤ c5) := Lib.hid (by rw [← Sc5.out]; exact N50.out)
        obtain ⟨ba, oa, rfl, _⟩ := els_get CL.out 0 (by simp)
        have XN := HN5
        have XY := HY
        have XP := Lib.hid (boxStays HP.out (HC.out.to w3 (by simp)))
        have XT := Lib.hid (TM.out.below (HC.out.to w4 (by simp)) rfl)
        have XC := Lib.hid (CL.out.below (HC.out.to w (by simp)) rfl)
        have BW := Lib.hid (HC.out.to w (by simp))
        have NE : Hid (c5 ≠ z + 1 + 1 ∧ c5 + 1 ≠ z + 1 + 1) := Lib.hid (by have := N5Z.out; have := Z0.out.2; omega)
        have ZL : Hid (z + 1 + 1 < w5.heap.size) := Lib.hid (Array.getElem?_eq_some_iff.1 XP.out).1
        have EQ : Hid (∀ W, (binOp .eql 47 (.agg #[.int .i64 x0.1.g, .int .i64 x0.1.r, .string x0.1.l, .int .i64 x0.1.n, .int .i64 x0.1.i, .string x0.2]) (.agg #[.int .i64 x0.1.g, .int .i64 x0.1.r, .string x0.1.l, .int .i64 x0.1.n, .int .i64 x0.1.i, .string x0.2])).run Try.prog W = .ok (.bool true) W) := Lib.hid (fun W => (ev_eql x0 x0 W).trans (by simp))
        have SL := Lib.hid (fun w' => run_from (P := Try.prog) w' 22 47 Try.underlying22 6 Try.sizeOf47 (some ⟨ba, oa, none⟩) n c 1 (1 : Int) rfl (by omega))
        have CS : Hid (CellsAt w5 (subN (some ⟨ba, oa, none⟩) c 1 6) (elsV l0)) := Lib.hid (by
          rw [show l0 = (x0 :: l0).drop 1 from rfl, elsV_drop]
          exact XC.out.subN c 1 6 (fun e => by rw [elsV_length]; have := HN.out; have := HNC.out; omega))
        obtain ⟨sb, hsb⟩ : ∃ a, subN (some ⟨ba, oa, none⟩) c 1 6 = a := ⟨_, rfl⟩
        obtain ⟨nW, hnW⟩ : ∃ k, n - 1 = k := ⟨_, rfl⟩
        obtain ⟨cW, hcW⟩ : ∃ k, c - 1 = k := ⟨_, rfl⟩
        rw [hsb, hnW, hcW] at SL
        rw [hsb] at CS
        have NW : Hid (nW = l0.length ∧ nW ≤ cW) := Lib.hid (by have h1 := HN.out; rw [List.length_cons] at h1; have := HNC.out; omega)
        clear hsb hnW hcW
        go_upto_region 11 with (fail)
        have YP : Hid (w5.drew.heap[z + 1 + 1]? = some (.cells #[.pointer none] 27 (0, 0))) := XP
        refine wp_region_noPanic ?_
        refine wp_region_held_drew (S := fun w' => KeepX (fun k _ => k = z + 1 + 1) w5 w') (by kernel_rfl) (KeepX.refl _).drew (fun hS => ?_)
        refine wpAnyH_take (i := 0) (oi := ⟨some 91, _, _, _, _, _⟩) (v := ?_) rfl (by kernel_rfl) (by kernel_rfl) (by kernel_rfl) (fun _ _ _ h => h) (Or.inl ⟨by rfl, ?_⟩) hS ?_
        rotate_left 1
        · intro w' hB; have n0 := cell_of_one (hB.row XN.out NE.out.1); have hyy := hB.row XY.out NE.out.2; have y0 := cell_of_row _ (c5 + 1) 0 _ _ _ hyy; have y1 := cell_of_row _ (c5 + 1) 1 _ _ _ hyy; have y2 := cell_of_row _ (c5 + 1) 2 _ _ _ hyy; have y3 := cell_of_row _ (c5 + 1) 3 _ _ _ hyy; have y4 := cell_of_row _ (c5 + 1) 4 _ _ _ hyy; have y5 := cell_of_row _ (c5 + 1) 5 _ _ _ hyy; clear hyy; have eq := EQ.out w'; have sl := SL.out w'; obtain ⟨p0, p1, p2, p3, p4, p5⟩ := els_at (els_keepX XC.out hB XP.out) 0 (by simp); simp only [Nat.zero_mul, Nat.add_zero, List.getElem_cons_zero] at p0 p1 p2 p3 p4 p5; have hn1 := hn1; (go_simp <;> with_reducible rfl)
        try simp only [Act.put, List.setIfInBounds_toArray, List.set_cons_zero, List.set_cons_succ]
        refine wpAnyH_take (i := 1) (oi := ⟨some 92, _, _, _, _, _⟩) (v := ?_) rfl (by kernel_rfl) (by kernel_rfl) (by kernel_rfl) (fun _ _ _ h => h) (Or.inl ⟨by rfl, ?_⟩) hS ?_
        rotate_left 1
        · intro w' hB; have n0 := cell_of_one (hB.row XN.out NE.out.1); have hyy := hB.row XY.out NE.out.2; have y0 := cell_of_row _ (c5 + 1) 0 _ _ _ hyy; have y1 := cell_of_row _ (c5 + 1) 1 _ _ _ hyy; have y2 := cell_of_row _ (c5 + 1) 2 _ _ _ hyy; have y3 := cell_of_row _ (c5 + 1) 3 _ _ _ hyy; have y4 := cell_of_row _ (c5 + 1) 4 _ _ _ hyy; have y5 := cell_of_row _ (c5 + 1) 5 _ _ _ hyy; clear hyy; have eq := EQ.out w'; have sl := SL.out w'; obtain ⟨p0, p1, p2, p3, p4, p5⟩ := els_at (els_keepX XC.out hB XP.out) 0 (by simp); simp only [Nat.zero_mul, Nat.add_zero, List.getElem_cons_zero] at p0 p1 p2 p3 p4 p5; have hn1 := hn1; (go_simp <;> with_reducible rfl)
        try simp only [Act.put, List.setIfInBounds_toArray, List.set_cons_zero, List.set_cons_succ]
        refine wpAnyH_take (i := 2) (oi := ⟨some 93, _, _, _, _, _⟩) (v := ?_) rfl (by kernel_rfl) (by kernel_rfl) (by kernel_rfl) (fun _ _ _ h => h) (Or.inl ⟨by rfl, ?_⟩) hS ?_
        rotate_left 1
        · intro w' hB; have n0 := cell_of_one (hB.row XN.out NE.out.1); have hyy := hB.row XY.out NE.out.2; have y0 := cell_of_row _ (c5 + 1) 0 _ _ _ hyy; have y1 := cell_of_row _ (c5 + 1) 1 _ _ _ hyy; have y2 := cell_of_row _ (c5 + 1) 2 _ _ _ hyy; have y3 := cell_of_row _ (c5 + 1) 3 _ _ _ hyy; have y4 := cell_of_row _ (c5 + 1) 4 _ _ _ hyy; have y5 := cell_of_row _ (c5 + 1) 5 _ _ _ hyy; clear hyy; have eq := EQ.out w'; have sl := SL.out w'; obtain ⟨p0, p1, p2, p3, p4, p5⟩ := els_at (els_keepX XC.out hB XP.out) 0 (by simp); simp only [Nat.zero_mul, Nat.add_zero, List.getElem_cons_zero] at p0 p1 p2 p3 p4 p5; have hn1 := hn1; (go_simp <;> with_reducible rfl)
        try simp only [Act.put, List.setIfInBounds_toArray, List.set_cons_zero, List.set_cons_succ]
        refine wpAnyH_take (i := 3) (oi := ⟨some 94, _, _, _, _, _⟩) (v := ?_) rfl (by kernel_rfl) (by kernel_rfl) (by kernel_rfl) (fun _ _ _ h => h) (Or.inl ⟨by rfl, ?_⟩) hS ?_
        rotate_left 1
        · intro w' hB; have n0 := cell_of_one (hB.row XN.out NE.out.1); have hyy := hB.row XY.out NE.out.2; have y0 := cell_of_row _ (c5 + 1) 0 _ _ _ hyy; have y1 := cell_of_row _ (c5 + 1) 1 _ _ _ hyy; have y2 := cell_of_row _ (c5 + 1) 2 _ _ _ hyy; have y3 := cell_of_row _ (c5 + 1) 3 _ _ _ hyy; have y4 := cell_of_row _ (c5 + 1) 4 _ _ _ hyy; have y5 := cell_of_row _ (c5 + 1) 5 _ _ _ hyy; clear hyy; have eq := EQ.out w'; have sl := SL.out w'; obtain ⟨p0, p1, p2, p3, p4, p5⟩ := els_at (els_keepX XC.out hB XP.out) 0 (by simp); simp only [Nat.zero_mul, Nat.add_zero, List.getElem_cons_zero] at p0 p1 p2 p3 p4 p5; have hn1 := hn1; (go_simp <;> with_reducible rfl)
        try simp only [Act.put, List.setIfInBounds_toArray, List.set_cons_zero, List.set_cons_succ]
        refine wpAnyH_take (i := 4) (oi := ⟨some 95, _, _, _, _, _⟩) (v := ?_) rfl (by kernel_rfl) (by kernel_rfl) (by kernel_rfl) (fun _ _ _ h => h) (Or.inl ⟨by rfl, ?_⟩) hS ?_
        rotate_left 1
        · intro w' hB; have n0 := cell_of_one (hB.row XN.out NE.out.1); have hyy := hB.row XY.out NE.out.2; have y0 := cell_of_row _ (c5 + 1) 0 _ _ _ hyy; have y1 := cell_of_row _ (c5 + 1) 1 _ _ _ hyy; have y2 := cell_of_row _ (c5 + 1) 2 _ _ _ hyy; have y3 := cell_of_row _ (c5 + 1) 3 _ _ _ hyy; have y4 := cell_of_row _ (c5 + 1) 4 _ _ _ hyy; have y5 := cell_of_row _ (c5 + 1) 5 _ _ _ hyy; clear hyy; have eq := EQ.out w'; have sl := SL.out w'; obtain ⟨p0, p1, p2, p3, p4, p5⟩ := els_at (els_keepX XC.out hB XP.out) 0 (by simp); simp only [Nat.zero_mul, Nat.add_zero, List.getElem_cons_zero] at p0 p1 p2 p3 p4 p5; have hn1 := hn1; (go_simp <;> with_reducible rfl)
        try simp only [Act.put, List.setIfInBounds_toArray, List.set_cons_zero, List.set_cons_succ]
        refine wpAnyH_take (i := 5) (oi := ⟨some 96, _, _, _, _, _⟩) (v := ?_) rfl (by kernel_rfl) (by kernel_rfl) (by kernel_rfl) (fun _ _ _ h => h) (Or.inl ⟨by rfl, ?_⟩) hS ?_
        rotate_left 1
        · intro w' hB; have n0 := cell_of_one (hB.row XN.out NE.out.1); have hyy := hB.row XY.out NE.out.2; have y0 := cell_of_row _ (c5 + 1) 0 _ _ _ hyy; have y1 := cell_of_row _ (c5 + 1) 1 _ _ _ hyy; have y2 := cell_of_row _ (c5 + 1) 2 _ _ _ hyy; have y3 := cell_of_row _ (c5 + 1) 3 _ _ _ hyy; have y4 := cell_of_row _ (c5 + 1) 4 _ _ _ hyy; have y5 := cell_of_row _ (c5 + 1) 5 _ _ _ hyy; clear hyy; have eq := EQ.out w'; have sl := SL.out w'; obtain ⟨p0, p1, p2, p3, p4, p5⟩ := els_at (els_keepX XC.out hB XP.out) 0 (by simp); simp only [Nat.zero_mul, Nat.add_zero, List.getElem_cons_zero] at p0 p1 p2 p3 p4 p5; have hn1 := hn1; (go_simp <;> with_reducible rfl)
        try simp only [Act.put, List.setIfInBounds_toArray, List.set_cons_zero, List.set_cons_succ]
        refine wpAnyH_take (i := 6) (oi := ⟨some 97, _, _, _, _, _⟩) (v := ?_) rfl (by kernel_rfl) (by kernel_rfl) (by kernel_rfl) (fun _ _ _ h => h) (Or.inl ⟨by rfl, ?_⟩) hS ?_
        rotate_left 1
        · intro w' hB; have n0 := cell_of_one (hB.row XN.out NE.out.1); have hyy := hB.row XY.out NE.out.2; have y0 := cell_of_row _ (c5 + 1) 0 _ _ _ hyy; have y1 := cell_of_row _ (c5 + 1) 1 _ _ _ hyy; have y2 := cell_of_row _ (c5 + 1) 2 _ _ _ hyy; have y3 := cell_of_row _ (c5 + 1) 3 _ _ _ hyy; have y4 := cell_of_row _ (c5 + 1) 4 _ _ _ hyy; have y5 := cell_of_row _ (c5 + 1) 5 _ _ _ hyy; clear hyy; have eq := EQ.out w'; have sl := SL.out w'; obtain ⟨p0, p1, p2, p3, p4, p5⟩ := els_at (els_keepX XC.out hB XP.out) 0 (by simp); simp only [Nat.zero_mul, Nat.add_zero, List.getElem_cons_zero] at p0 p1 p2 p3 p4 p5; have hn1 := hn1; (go_simp <;> with_reducible rfl)
        try simp only [Act.put, List.setIfInBounds_toArray, List.set_cons_zero, List.set_cons_succ]
        refine wpAnyH_take (i := 7) (oi := ⟨some 98, _, _, _, _, _⟩) (v := ?_) rfl (by kernel_rfl) (by kernel_rfl) (by kernel_rfl) (fun _ _ _ h => h) (Or.inl ⟨by rfl, ?_⟩) hS ?_
        rotate_left 1
        · intro w' hB; have n0 := cell_of_one (hB.row XN.out NE.out.1); have hyy := hB.row XY.out NE.out.2; have y0 := cell_of_row _ (c5 + 1) 0 _ _ _ hyy; have y1 := cell_of_row _ (c5 + 1) 1 _ _ _ hyy; have y2 := cell_of_row _ (c5 + 1) 2 _ _ _ hyy; have y3 := cell_of_row _ (c5 + 1) 3 _ _ _ hyy; have y4 := cell_of_row _ (c5 + 1) 4 _ _ _ hyy; have y5 := cell_of_row _ (c5 + 1) 5 _ _ _ hyy; clear hyy; have eq := EQ.out w'; have sl := SL.out w'; obtain ⟨p0, p1, p2, p3, p4, p5⟩ := els_at (els_keepX XC.out hB XP.out) 0 (by simp); simp only [Nat.zero_mul, Nat.add_zero, List.getElem_cons_zero] at p0 p1 p2 p3 p4 p5; have hn1 := hn1; (go_simp <;> with_reducible rfl)
        try simp only [Act.put, List.setIfInBounds_toArray, List.set_cons_zero, List.set_cons_succ]
        refine wpAnyH_take (i := 8) (oi := ⟨some 99, _, _, _, _, _⟩) (v := ?_) rfl (by kernel_rfl) (by kernel_rfl) (by kernel_rfl) (fun _ _ _ h => h) (Or.inl ⟨by rfl, ?_⟩) hS ?_
        rotate_left 1
        · intro w' hB; have n0 := cell_of_one (hB.row XN.out NE.out.1); have hyy := hB.row XY.out NE.out.2; have y0 := cell_of_row _ (c5 + 1) 0 _ _ _ hyy; have y1 := cell_of_row _ (c5 + 1) 1 _ _ _ hyy; have y2 := cell_of_row _ (c5 + 1) 2 _ _ _ hyy; have y3 := cell_of_row _ (c5 + 1) 3 _ _ _ hyy; have y4 := cell_of_row _ (c5 + 1) 4 _ _ _ hyy; have y5 := cell_of_row _ (c5 + 1) 5 _ _ _ hyy; clear hyy; have eq := EQ.out w'; have sl := SL.out w'; obtain ⟨p0, p1, p2, p3, p4, p5⟩ := els_at (els_keepX XC.out hB XP.out) 0 (by simp); simp only [Nat.zero_mul, Nat.add_zero, List.getElem_cons_zero] at p0 p1 p2 p3 p4 p5; have hn1 := hn1; (go_simp <;> with_reducible rfl)
        try simp only [Act.put, List.setIfInBounds_toArray, List.set_cons_zero, List.set_cons_succ]
        refine wpAnyH_take (i := 9) (oi := ⟨some 100, _, _, _, _, _⟩) (v := ?_) rfl (by kernel_rfl) (by kernel_rfl) (by kernel_rfl) (fun _ _ _ h => h) (Or.inl ⟨by rfl, ?_⟩) hS ?_
        rotate_left 1
        · intro w' hB; have n0 := cell_of_one (hB.row XN.out NE.out.1); have hyy := hB.row XY.out NE.out.2; have y0 := cell_of_row _ (c5 + 1) 0 _ _ _ hyy; have y1 := cell_of_row _ (c5 + 1) 1 _ _ _ hyy; have y2 := cell_of_row _ (c5 + 1) 2 _ _ _ hyy; have y3 := cell_of_row _ (c5 + 1) 3 _ _ _ hyy; have y4 := cell_of_row _ (c5 + 1) 4 _ _ _ hyy; have y5 := cell_of_row _ (c5 + 1) 5 _ _ _ hyy; clear hyy; have eq := EQ.out w'; have sl := SL.out w'; obtain ⟨p0, p1, p2, p3, p4, p5⟩ := els_at (els_keepX XC.out hB XP.out) 0 (by simp); simp only [Nat.zero_mul, Nat.add_zero, List.getElem_cons_zero] at p0 p1 p2 p3 p4 p5; have hn1 := hn1; (go_simp <;> with_reducible rfl)
        try simp only [Act.put, List.setIfInBounds_toArray, List.set_cons_zero, List.set_cons_succ]
        refine wpAnyH_take (i := 10) (oi := ⟨some 101, _, _, _, _, _⟩) (v := ?_) rfl (by kernel_rfl) (by kernel_rfl) (by kernel_rfl) (fun _ _ _ h => h) (Or.inl ⟨by rfl, ?_⟩) hS ?_
        rotate_left 1
        · intro w' hB; have n0 := cell_of_one (hB.row XN.out NE.out.1); have hyy := hB.row XY.out NE.out.2; have y0 := cell_of_row _ (c5 + 1) 0 _ _ _ hyy; have y1 := cell_of_row _ (c5 + 1) 1 _ _ _ hyy; have y2 := cell_of_row _ (c5 + 1) 2 _ _ _ hyy; have y3 := cell_of_row _ (c5 + 1) 3 _ _ _ hyy; have y4 := cell_of_row _ (c5 + 1) 4 _ _ _ hyy; have y5 := cell_of_row _ (c5 + 1) 5 _ _ _ hyy; clear hyy; have eq := EQ.out w'; have sl := SL.out w'; obtain ⟨p0, p1, p2, p3, p4, p5⟩ := els_at (els_keepX XC.out hB XP.out) 0 (by simp); simp only [Nat.zero_mul, Nat.add_zero, List.getElem_cons_zero] at p0 p1 p2 p3 p4 p5; have hn1 := hn1; (go_simp <;> with_reducible rfl)
        try simp only [Act.put, List.setIfInBounds_toArray, List.set_cons_zero, List.set_cons_succ]
        refine wpAnyH_ready (rs := [11]) (by kernel_rfl) (by simp) (AllReadyH.cons (o := ⟨none, _, _, _, _, _⟩) rfl (fun K hK => ?_) AllReadyH.nil)
        have y1 := cell_of_one YP.out
        have f1 := frozen_of_row _ (z + 1 + 1) 0 _ _ YP.out
        replace hS := KeepX.setRow hS YP.out rfl 0 (Value.pointer (pa m))
        replace YP := Lib.hid (Boxed.set (t := 27) (.pointer (pa m)) YP.out)
        go_simp
        refine hK.out _ _ hS (fun _ => ?_)
        clear hK K y1 f1
        try simp only [Act.put, List.setIfInBounds_toArray, List.set_cons_zero, List.set_cons_succ]
        refine wpAnyH_take (i := 12) (oi := ⟨some 7, _, _, _, _, _⟩) (v := ?_) rfl (by kernel_rfl) (by kernel_rfl) (by kernel_rfl) (fun _ _ _ h => h) (Or.inl ⟨by rfl, ?_⟩) hS ?_
        rotate_left 1
        · intro w' hB; have n0 := cell_of_one (hB.row XN.out NE.out.1); have hyy := hB.row XY.out NE.out.2; have y0 := cell_of_row _ (c5 + 1) 0 _ _ _ hyy; have y1 := cell_of_row _ (c5 + 1) 1 _ _ _ hyy; have y2 := cell_of_row _ (c5 + 1) 2 _ _ _ hyy; have y3 := cell_of_row _ (c5 + 1) 3 _ _ _ hyy; have y4 := cell_of_row _ (c5 + 1) 4 _ _ _ hyy; have y5 := cell_of_row _ (c5 + 1) 5 _ _ _ hyy; clear hyy; have eq := EQ.out w'; have sl := SL.out w'; obtain ⟨p0, p1, p2, p3, p4, p5⟩ := els_at (els_keepX XC.out hB XP.out) 0 (by simp); simp only [Nat.zero_mul, Nat.add_zero, List.getElem_cons_zero] at p0 p1 p2 p3 p4 p5; have hn1 := hn1; (go_simp <;> with_reducible rfl)
        try simp only [Act.put, List.setIfInBounds_toArray, List.set_cons_zero, List.set_cons_succ]
        refine wpAnyH_take (i := 13) (oi := ⟨some 8, _, _, _, _, _⟩) (v := ?_) rfl (by kernel_rfl) (by kernel_rfl) (by kernel_rfl) (fun _ _ _ h => h) (Or.inl ⟨by rfl, ?_⟩) hS ?_
        rotate_left 1
        · intro w' hB; have n0 := cell_of_one (hB.row XN.out NE.out.1); have hyy := hB.row XY.out NE.out.2; have y0 := cell_of_row _ (c5 + 1) 0 _ _ _ hyy; have y1 := cell_of_row _ (c5 + 1) 1 _ _ _ hyy; have y2 := cell_of_row _ (c5 + 1) 2 _ _ _ hyy; have y3 := cell_of_row _ (c5 + 1) 3 _ _ _ hyy; have y4 := cell_of_row _ (c5 + 1) 4 _ _ _ hyy; have y5 := cell_of_row _ (c5 + 1) 5 _ _ _ hyy; clear hyy; have eq := EQ.out w'; have sl := SL.out w'; obtain ⟨p0, p1, p2, p3, p4, p5⟩ := els_at (els_keepX XC.out hB XP.out) 0 (by simp); simp only [Nat.zero_mul, Nat.add_zero, List.getElem_cons_zero] at p0 p1 p2 p3 p4 p5; have hn1 := hn1; (go_simp <;> with_reducible rfl)
        try simp only [Act.put, List.setIfInBounds_toArray, List.set_cons_zero, List.set_cons_succ]
        refine wpAnyH_done (by kernel_rfl) (NoPanic.normal ?_) _
        all_goals
          obtain ⟨r3, hr3⟩ : ∃ r, (w5.setCell ⟨z + 1 + 1, 0, none⟩ (.pointer (pa m))).drew = r := ⟨_, rfl⟩
          rw [hr3]
          replace hS : KeepX (fun k _ => k = z + 1 + 1) w5 r3 := by rw [← hr3]; exact hS
          have q : r3.cell? ⟨z + 1 + 1, 0, none⟩ = some (.pointer (pa m)) := by rw [← hr3]; exact cell_of_one YP.out
          clear hr3 YP
          go_wp2_with fail
          refine bodyPost_ret (v := .tuple #[.agg #[.pointer (pa m)], .slice sb nW cW, .bool true]) (by simp [results, Try.results40, go_sem, q]) rfl ?_
          exact do_end BW.out Z0.out.1 (Nat.le_of_lt ZL.out) hS DQ.out (XT.out.keepZ hS XP.out (by decide)) RM.out (els_keepX CS.out hS XP.out) NW.out.1 NW.out.2
    ·
      have DQ3 : Hid (∀ (_ : k = 3) (j : Nat), j = min d.toNat l.length → l.drop j = doQ l k s x d) := Lib.hid (fun h3 j hj => by
        subst h3
        unfold doQ
        rw [if_neg k1, if_neg k2, if_pos rfl, hj]
        rcases Nat.le_total d.toNat l.length with h | h
        · rw [Nat.min_eq_left h]
        · rw [Nat.min_eq_right h, List.drop_of_length_le (Nat.le_refl _), List.drop_of_length_le h])
      have DQ4 : Hid (∀ _ : ¬ k = 3, l = doQ l k s x d) := Lib.hid (fun h3 => by unfold doQ; rw [if_neg k1, if_neg k2, if_neg h3])
      by_cases k3 : k = 3
      · have D3 := Lib.hid (DQ3.out k3)
        subst k3
        go_upto_region 13 with (fail)
        have kM0 := cell_of_one HM.out
        have kS0 := cell_of_row _ _ 0 _ _ _ HS.out
        have kS1 := cell_of_row _ _ 1 _ _ _ HS.out
        have kS2 := cell_of_row _ _ 2 _ _ _ HS.out
        have kS3 := cell_of_row _ _ 3 _ _ _ HS.out
        have kS4 := cell_of_row _ _ 4 _ _ _ HS.out
        have kS5 := cell_of_row _ _ 5 _ _ _ HS.out
        have kS6 := cell_of_row _ _ 6 _ _ _ HS.out
        have kS7 := cell_of_row _ _ 7 _ _ _ HS.out
        go_wp2_with fail
        refine (qu_Drop l t d _ (T.out.below (HC.out.to w (by simp)) rfl) (R.out.qs HZL.out) (by have := HN.out; have := HZ.out; omega)).mono ?_
        rintro e w4 ⟨m, j, hj, rfl, hm, ho, hb⟩
        clear kM0 kS0 kS1 kS2 kS3 kS4 kS5 kS6 kS7
        replace HC := Lib.hid (HC.out.push hb)
        clear hb
        have N50 : Hid (w3.heap.size ≤ w4.heap.size) := Lib.hid (HC.out.to w3 (by simp)).size
        have TM := Lib.hid hm
        have RM : Hid (Reg (l.drop j) m) := Lib.hid (by
          by_cases h0 : j = 0
          · rw [h0, List.drop_zero, ho.1 h0]; exact R.out
          · exact ho.2 h0)
        have DQ := Lib.hid (D3.out j hj)
        have JN : Hid (j ≤ n ∧ j = min d.toNat n) := Lib.hid (by rw [HN.out]; exact ⟨by omega, hj⟩)
        clear hm ho hj D3 DQ3 DQ4
        go_upto_region 14 with (fail)
        obtain ⟨c5, hc5⟩ : ∃ c, w4.heap.size = c := ⟨_, rfl⟩
        try rw [hc5]
        obtain ⟨w5, hw5⟩ : ∃ X, allocs w4 [.cells #[.pointer (pa m)] 27] = X := ⟨_, rfl⟩
        rw [show w4.alloc (.cells #[.pointer (pa m)] 27) = w5 from hw5]
        have hb : Below w4.heap.size w4 w5 := by rw [← hw5]; exact allocs_below _ _
        have HN5 : Hid (w5.heap[c5]? = some (.cells #[.pointer (pa m)] 27 (0, 0))) := Lib.hid (by have := allocs_get [.cells #[.pointer (pa m)] 27] w4 0 _ rfl; rw [hw5, hc5] at this; exact this)
        have Sc5 : Hid (w4.heap.size = c5) := Lib.hid hc5
        replace HC := Lib.hid (HC.out.push hb)
        clear hb hw5 hc5
        have N5Z : Hid (w3.heap.size ≤ c5) := Lib.hid (by rw [← Sc5.out]; exact N50.out)
        have XN := HN5
        have XP := Lib.hid (boxStays HP.out (HC.out.to w3 (by simp)))
        have XT := Lib.hid (TM.out.below (HC.out.to w4 (by simp)) rfl)
        have XC := Lib.hid (CL.out.below (HC.out.to w (by simp)) rfl)
        have BW := Lib.hid (HC.out.to w (by simp))
        have NE : Hid (c5 ≠ z + 1 + 1) := Lib.hid (by have := N5Z.out; have := Z0.out.2; omega)
        have ZL : Hid (z + 1 + 1 < w5.heap.size) := Lib.hid (Array.getElem?_eq_some_iff.1 XP.out).1
        have SL := Lib.hid (fun w' => run_from (P := Try.prog) w' 22 47 Try.underlying22 6 Try.sizeOf47 a n c j (j : Int) rfl JN.out.1)
        have CS : Hid (CellsAt w5 (subN a c j 6) (elsV (l.drop j))) := Lib.hid (by
          rw [elsV_drop]
          exact XC.out.subN c j 6 (fun e => by rw [elsV_length]; have := HN.out; have := HNC.out; have := JN.out.1; omega))
        obtain ⟨sb, hsb⟩ : ∃ q, subN a c j 6 = q := ⟨_, rfl⟩
        obtain ⟨nW, hnW⟩ : ∃ k, n - j = k := ⟨_, rfl⟩
        obtain ⟨cW, hcW⟩ : ∃ k, c - j = k := ⟨_, rfl⟩
        rw [hsb, hnW, hcW] at SL
        rw [hsb] at CS
        have NW : Hid (nW = (l.drop j).length ∧ nW ≤ cW) := Lib.hid (by have h1 := HN.out; rw [List.length_drop]; have := HNC.out; omega)
        clear hsb hnW hcW
        have kS0 := cell_of_row _ _ 0 _ _ _ (boxStays HS.out (HC.out.to w3 (by simp)))
        have kS1 := cell_of_row _ _ 1 _ _ _ (boxStays HS.out (HC.out.to w3 (by simp)))
        have kS2 := cell_of_row _ _ 2 _ _ _ (boxStays HS.out (HC.out.to w3 (by simp)))
        have kS3 := cell_of_row _ _ 3 _ _ _ (boxStays HS.out (HC.out.to w3 (by simp)))
        have kS4 := cell_of_row _ _ 4 _ _ _ (boxStays HS.out (HC.out.to w3 (by simp)))
        have kS5 := cell_of_row _ _ 5 _ _ _ (boxStays HS.out (HC.out.to w3 (by simp)))
        have kS6 := cell_of_row _ _ 6 _ _ _ (boxStays HS.out (HC.out.to w3 (by simp)))
        have kS7 := cell_of_row _ _ 7 _ _ _ (boxStays HS.out (HC.out.to w3 (by simp)))
        go_upto_region 15 with (fail)
        clear kS0 kS1 kS2 kS3 kS4 kS5 kS6 kS7
        rw [show max 0 (min d (n : Int)) = (j : Int) by have := JN.out.2; omega]
        have YP : Hid (w5.drew.heap[z + 1 + 1]? = some (.cells #[.pointer none] 27 (0, 0))) := XP
        refine wp_region_noPanic ?_
        refine wp_region_held_drew (S := fun w' => KeepX (fun k _ => k = z + 1 + 1) w5 w') (by kernel_rfl) (KeepX.refl _).drew (fun hS => ?_)
        refine wpAnyH_take (i := 0) (oi := ⟨some 117, _, _, _, _, _⟩) (v := ?_) rfl (by kernel_rfl) (by kernel_rfl) (by kernel_rfl) (fun _ _ _ h => h) (Or.inl ⟨by rfl, ?_⟩) hS ?_
        rotate_left 1
        · intro w' hB; have n0 := cell_of_one (hB.row XN.out NE.out); have sl := SL.out w'; (go_simp <;> with_reducible rfl)
        try simp only [Act.put, List.setIfInBounds_toArray, List.set_cons_zero, List.set_cons_succ]
        refine wpAnyH_take (i := 1) (oi := ⟨some 118, _, _, _, _, _⟩) (v := ?_) rfl (by kernel_rfl) (by kernel_rfl) (by kernel_rfl) (fun _ _ _ h => h) (Or.inl ⟨by rfl, ?_⟩) hS ?_
        rotate_left 1
        · intro w' hB; have n0 := cell_of_one (hB.row XN.out NE.out); have sl := SL.out w'; (go_simp <;> with_reducible rfl)
        try simp only [Act.put, List.setIfInBounds_toArray, List.set_cons_zero, List.set_cons_succ]
        refine wpAnyH_take (i := 2) (oi := ⟨some 119, _, _, _, _, _⟩) (v := ?_) rfl (by kernel_rfl) (by kernel_rfl) (by kernel_rfl) (fun _ _ _ h => h) (Or.inl ⟨by rfl, ?_⟩) hS ?_
        rotate_left 1
        · intro w' hB; have n0 := cell_of_one (hB.row XN.out NE.out); have sl := SL.out w'; (go_simp <;> with_reducible rfl)
        try simp only [Act.put, List.setIfInBounds_toArray, List.set_cons_zero, List.set_cons_succ]
        refine wpAnyH_take (i := 3) (oi := ⟨some 120, _, _, _, _, _⟩) (v := ?_) rfl (by kernel_rfl) (by kernel_rfl) (by kernel_rfl) (fun _ _ _ h => h) (Or.inl ⟨by rfl, ?_⟩) hS ?_
        rotate_left 1
        · intro w' hB; have n0 := cell_of_one (hB.row XN.out NE.out); have sl := SL.out w'; (go_simp <;> with_reducible rfl)
        try simp only [Act.put, List.setIfInBounds_toArray, List.set_cons_zero, List.set_cons_succ]
        refine wpAnyH_take (i := 4) (oi := ⟨some 121, _, _, _, _, _⟩) (v := ?_) rfl (by kernel_rfl) (by kernel_rfl) (by kernel_rfl) (fun _ _ _ h => h) (Or.inl ⟨by rfl, ?_⟩) hS ?_
        rotate_left 1
        · intro w' hB; have n0 := cell_of_one (hB.row XN.out NE.out); have sl := SL.out w'; (go_simp <;> with_reducible rfl)
        try simp only [Act.put, List.setIfInBounds_toArray, List.set_cons_zero, List.set_cons_succ]
        refine wpAnyH_take (i := 5) (oi := ⟨some 122, _, _, _, _, _⟩) (v := ?_) rfl (by kernel_rfl) (by kernel_rfl) (by kernel_rfl) (fun _ _ _ h => h) (Or.inl ⟨by rfl, ?_⟩) hS ?_
        rotate_left 1
        · intro w' hB; have n0 := cell_of_one (hB.row XN.out NE.out); have sl := SL.out w'; (go_simp <;> with_reducible rfl)
        try simp only [Act.put, List.setIfInBounds_toArray, List.set_cons_zero, List.set_cons_succ]
        refine wpAnyH_take (i := 6) (oi := ⟨some 123, _, _, _, _, _⟩) (v := ?_) rfl (by kernel_rfl) (by kernel_rfl) (by kernel_rfl) (fun _ _ _ h => h) (Or.inl ⟨by rfl, ?_⟩) hS ?_
        rotate_left 1
        · intro w' hB; have n0 := cell_of_one (hB.row XN.out NE.out); have sl := SL.out w'; (go_simp <;> with_reducible rfl)
        try simp only [Act.put, List.setIfInBounds_toArray, List.set_cons_zero, List.set_cons_succ]
        refine wpAnyH_ready (rs := [7]) (by kernel_rfl) (by simp) (AllReadyH.cons (o := ⟨none, _, _, _, _, _⟩) rfl (fun K hK => ?_) AllReadyH.nil)
        have y1 := cell_of_one YP.out
        have f1 := frozen_of_row _ (z + 1 + 1) 0 _ _ YP.out
        replace hS := KeepX.setRow hS YP.out rfl 0 (Value.pointer (pa m))
        replace YP := Lib.hid (Boxed.set (t := 27) (.pointer (pa m)) YP.out)
        go_simp
        refine hK.out _ _ hS (fun _ => ?_)
        clear hK K y1 f1
        try simp only [Act.put, List.setIfInBounds_toArray, List.set_cons_zero, List.set_cons_succ]
        refine wpAnyH_take (i := 8) (oi := ⟨some 7, _, _, _, _, _⟩) (v := ?_) rfl (by kernel_rfl) (by kernel_rfl) (by kernel_rfl) (fun _ _ _ h => h) (Or.inl ⟨by rfl, ?_⟩) hS ?_
        rotate_left 1
        · intro w' hB; have n0 := cell_of_one (hB.row XN.out NE.out); have sl := SL.out w'; (go_simp <;> with_reducible rfl)
        try simp only [Act.put, List.setIfInBounds_toArray, List.set_cons_zero, List.set_cons_succ]
        refine wpAnyH_take (i := 9) (oi := ⟨some 8, _, _, _, _, _⟩) (v := ?_) rfl (by kernel_rfl) (by kernel_rfl) (by kernel_rfl) (fun _ _ _ h => h) (Or.inl ⟨by rfl, ?_⟩) hS ?_
        rotate_left 1
        · intro w' hB; have n0 := cell_of_one (hB.row XN.out NE.out); have sl := SL.out w'; (go_simp <;> with_reducible rfl)
        try simp only [Act.put, List.setIfInBounds_toArray, List.set_cons_zero, List.set_cons_succ]
        refine wpAnyH_done (by kernel_rfl) (NoPanic.normal ?_) _
        all_goals
          obtain ⟨r3, hr3⟩ : ∃ r, (w5.setCell ⟨z + 1 + 1, 0, none⟩ (.pointer (pa m))).drew = r := ⟨_, rfl⟩
          rw [hr3]
          replace hS : KeepX (fun k _ => k = z + 1 + 1) w5 r3 := by rw [← hr3]; exact hS
          have q : r3.cell? ⟨z + 1 + 1, 0, none⟩ = some (.pointer (pa m)) := by rw [← hr3]; exact cell_of_one YP.out
          clear hr3 YP
          go_wp2_with fail
          refine bodyPost_ret (v := .tuple #[.agg #[.pointer (pa m)], .slice sb nW cW, .bool true]) (by simp [results, Try.results40, go_sem, q]) rfl ?_
          exact do_end BW.out Z0.out.1 (Nat.le_of_lt ZL.out) hS DQ.out (XT.out.keepZ hS XP.out (by decide)) RM.out (els_keepX CS.out hS XP.out) NW.out.1 NW.out.2
      ·
        have D4 := Lib.hid (DQ4.out k3)
        go_upto_region 16 with (fail)
        have XP := HP
        have XT := Lib.hid (T.out.below (HC.out.to w (by simp)) rfl)
        have XC := Lib.hid (CL.out.below (HC.out.to w (by simp)) rfl)
        have BW := Lib.hid (HC.out.to w (by simp))
        have kM0 := cell_of_one HM.out
        have kP0 := cell_of_one HP.out
        have fP0 := frozen_of_row _ (z + 1 + 1) 0 _ _ HP.out
        have hS := KeepX.setRow (KeepX.refl w3) XP.out (Ex := fun k _ => k = z + 1 + 1) rfl 0 (Value.pointer (pa t))
        have YP := Boxed.set (t := 27) (.pointer (pa t)) XP.out
        go_wp2_with fail
        generalize w3.setCell ⟨z + 1 + 1, 0, none⟩ (.pointer (pa t)) = r3 at *
        have q := cell_of_one YP
        refine bodyPost_ret (v := .tuple #[.agg #[.pointer (pa t)], .slice a n c, .bool true]) (by simp [results, Try.results40, go_sem, q]) rfl ?_
        exact do_end BW.out Z0.out.1 (Nat.le_of_lt Z0.out.2) hS D4.out (XT.out.keepZ hS XP.out (by decide)) R.out (els_keepX XC.out hS XP.out) HN.out HNC.out
end Go.Proofs.Ytnpiepimajippaa
