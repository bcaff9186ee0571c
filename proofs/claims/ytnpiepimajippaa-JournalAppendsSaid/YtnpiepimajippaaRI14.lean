/- Words, contracts and walks that the proof stands on (RfA14). -/
import Derived.Test.YtnpiepimajippaaRI6
namespace Go.Proofs.Ytnpiepimajippaa
open Go.RowKit St
theorem ref14_May (l : List Ev) (a : Option Addr) (n c : Nat) (w : World) (hl : CellsAt w a (elsV l)) (hn : n = l.length) (hb : n ≤ 9223372036854775807) (hsz : ∀ e ∈ l, e.1.l.size ≤ 9223372036854775807) :
   Calls Try.prog 26 #[.slice a n c] w fun e w' => e = .returned (.bool (mayV l)) ∧ Below w.heap.size w w' := by
 have C := Lib.hid (ref11_May l a n c w hl hn hb hsz)
 clear hl hn hb hsz
 go_enter Try.func26, Try.ntmps26
 go_wp2_with fail
 refine C.out.mono ?_
 rintro e w' ⟨rfl, hb⟩
 have HB := Lib.hid hb
 clear hb
 go_wp2_with fail
 go_ret
 exact ⟨rfl, HB.out⟩
theorem ref14_Sorted (l : List Ev) (a : Option Addr) (n c : Nat) (w : World) (hl : CellsAt w a (elsV l)) (hn : n = l.length) (hb : n ≤ 1000000) (hsz : ∀ e ∈ l, e.1.l.size ≤ 9223372036854775807) :
   Calls Try.prog 28 #[.slice a n c] w fun e w' => ∃ v, e = .returned v ∧ w'.ownsRow w.heap.size 47 6 v n (elsV (sortV l)) ∧ Below w.heap.size w w' := by
 have C := Lib.hid (ref11_Sorted l a n c w hl hn hb hsz)
 clear hl hn hb hsz
 go_enter Try.func28, Try.ntmps28
 go_wp2_with fail
 refine C.out.mono ?_
 rintro e w' ⟨v, rfl, hown, hb⟩
 have HB := Lib.hid hb
 have HO := Lib.hid hown
 clear hb hown
 go_wp2_with fail
 go_ret
 exact ⟨_, rfl, HO.out, HB.out⟩
theorem ref14_Fits (s : Sv) (t : ByteArray) (w : World) (hs : s.l.size ≤ 9223372036854775807) : Calls Try.prog 31 #[.agg #[.int .i64 s.g, .int .i64 s.r, .string s.l, .int .i64 s.n, .int .i64 s.i], .string t] w fun e w' => e = .returned (.bool (okV (s, t))) ∧ Below w.heap.size w w' := by
 have HV : Hid (okV (s, t) = (s.ok && decide (t.size ≤ 256))) := Lib.hid rfl
 have HS := Lib.hid (fun w' => ref6_Stamp s w' hs)
 generalize okV (s, t) = res at *
 go_enter Try.func31, Try.ntmps31
 go_wp2_with fail
 refine (HS.out _).mono ?_
 rintro e w' ⟨rfl, hb⟩
 have HB : Hid (Below w.heap.size w w') := Lib.hid ((below_new w _).trans (hb.mono (by simp)))
 clear hb HS
 generalize s.ok = q at *
 cases q with
 | false =>
   go_wp2_with fail
   go_ret
   rw [HV.out]
   exact ⟨rfl, HB.out⟩
 | true =>
   go_wp2_with fail
   refine (ref5_Text t _).mono ?_
   rintro e w' ⟨rfl, rfl⟩
   go_wp2_with fail
   go_ret
   rw [HV.out]
   exact ⟨rfl, HB.out⟩
set_option maxRecDepth 100000 in
set_option maxHeartbeats 2000000 in
theorem ref14_Behind (l : List Ev) (s : Sv) (a : Option Addr) (n c : Nat) (w : World) (hl : CellsAt w a (elsV l)) (hn : n = l.length) (hb : n ≤ 1000000) (hs : s.l.size ≤ 9223372036854775807) (hsz : ∀ e ∈ l, e.1.l.size ≤ 9223372036854775807) :
   Calls Try.prog 32 #[.slice a n c, .agg #[.int .i64 s.g, .int .i64 s.r, .string s.l, .int .i64 s.n, .int .i64 s.i]] w fun e w' => e = .returned (.bool (behindV l s)) ∧ Below w.heap.size w w' := by
 have X := heap_alloc_new w (.cells #[.int .i64 s.g, .int .i64 s.r, .string s.l, .int .i64 s.n, .int .i64 s.i] 41)
 have B0 := below_new w (.cells #[.int .i64 s.g, .int .i64 s.r, .string s.l, .int .i64 s.n, .int .i64 s.i] 41)
 have HL := hl.below B0 rfl
 clear hl
 obtain ⟨res, hres⟩ : ∃ r, behindV l s = r := ⟨_, rfl⟩
 rw [hres]
 go_enter Try.func32, Try.ntmps32
 go_upto_region 1 with (fail)
 generalize w.alloc (.cells #[.int .i64 s.g, .int .i64 s.r, .string s.l, .int .i64 s.n, .int .i64 s.i] 41) = W at *
 cases n with
 | zero =>
   have E : Hid (res = true) := Lib.hid (by
     rw [← hres]
     obtain rfl : l = [] := List.eq_nil_of_length_eq_zero hn.symm
     rfl)
   have B1 := Lib.hid B0
   clear B0 X HL hn hsz hres
   go_quiet (fail)
   go_wp2_with fail
   go_ret
   rw [E.out]
   exact ⟨rfl, below_drews B1.out _⟩
 | succ n =>
   have hk : n < l.length := by omega
   have E : res = decide (svC l[n].1 s < 0) := by
     rw [← hres]
     unfold behindV
     rw [List.getLast?_eq_getElem?, show l.length - 1 = n by omega, List.getElem?_eq_getElem hk]
   clear hres
   obtain ⟨b, off, rfl, cx⟩ := els_get HL n hk
   have CX := Lib.hid cx
   have HZ := hsz _ (List.getElem_mem hk)
   generalize l[n] = x at *
   have HC1 := Lib.hid (fun w' => ref6_Cmp x.1 s w' HZ hs)
   obtain ⟨cv, hcv⟩ : ∃ cv, svC x.1 s = cv := ⟨_, rfl⟩
   rw [hcv] at HC1 E
   have E1 := Lib.hid E
   have X1 := Lib.hid X
   have B1 := Lib.hid B0
   have W1 : Hid (IntKind.i64.wrap (((n + 1 : Nat) : Int) - 1) = (n : Int)) := Lib.hid (by rw [wr64 (by omega) (by omega)]; omega)
   have hne : (((n + 1 : Nat) : Int) == 0) = false := by simp; omega
   have L1 : Hid ((n : Int) < ((n + 1 : Nat) : Int)) := Lib.hid (by omega)
   clear X B0 HL cx hcv E hn hsz HZ
   generalize n + 1 = N at *
   have HC : Hid (Chain [W] W) := Lib.hid (Chain.one W)
   refine wp_region_noPanic ?_
   refine wp_region_held_drew (S := fun w' => Below W.heap.size W w') (by kernel_rfl) (Below.refl _ _).drew (fun hS => ?_)
   refine wpAnyH_take (i := 0) (oi := ⟨some 5, _, _, _, _, _⟩) (v := ?_) rfl (by kernel_rfl) (by kernel_rfl) (by kernel_rfl) (fun _ _ _ h => h) (Or.inl ⟨by rfl, ?_⟩) hS ?_
   rotate_left 1
   · intro w' hB; obtain ⟨p0, p1, p2, p3, p4, p5⟩ := CX.out.below ((HC.out.to W (by simp)).trans (hB.mono (HC.out.to W (by simp)).size)); have xw := boxStays X1.out ((HC.out.to W (by simp)).trans (hB.mono (HC.out.to W (by simp)).size)); have q0 := cell_of_row _ _ 0 _ _ _ xw; have q1 := cell_of_row _ _ 1 _ _ _ xw; have q2 := cell_of_row _ _ 2 _ _ _ xw; have q3 := cell_of_row _ _ 3 _ _ _ xw; have q4 := cell_of_row _ _ 4 _ _ _ xw; clear xw; have w1 := W1.out; have l1 := L1.out; (go_simp <;> with_reducible rfl)
   try simp only [Act.put, List.setIfInBounds_toArray, List.set_cons_zero, List.set_cons_succ]
   refine wpAnyH_take (i := 1) (oi := ⟨some 6, _, _, _, _, _⟩) (v := ?_) rfl (by kernel_rfl) (by kernel_rfl) (by kernel_rfl) (fun _ _ _ h => h) (Or.inl ⟨by rfl, ?_⟩) hS ?_
   rotate_left 1
   · intro w' hB; obtain ⟨p0, p1, p2, p3, p4, p5⟩ := CX.out.below ((HC.out.to W (by simp)).trans (hB.mono (HC.out.to W (by simp)).size)); have xw := boxStays X1.out ((HC.out.to W (by simp)).trans (hB.mono (HC.out.to W (by simp)).size)); have q0 := cell_of_row _ _ 0 _ _ _ xw; have q1 := cell_of_row _ _ 1 _ _ _ xw; have q2 := cell_of_row _ _ 2 _ _ _ xw; have q3 := cell_of_row _ _ 3 _ _ _ xw; have q4 := cell_of_row _ _ 4 _ _ _ xw; clear xw; have w1 := W1.out; have l1 := L1.out; (go_simp <;> with_reducible rfl)
   try simp only [Act.put, List.setIfInBounds_toArray, List.set_cons_zero, List.set_cons_succ]
   refine wpAnyH_take (i := 2) (oi := ⟨some 7, _, _, _, _, _⟩) (v := ?_) rfl (by kernel_rfl) (by kernel_rfl) (by kernel_rfl) (fun _ _ _ h => h) (Or.inl ⟨by rfl, ?_⟩) hS ?_
   rotate_left 1
   · intro w' hB; obtain ⟨p0, p1, p2, p3, p4, p5⟩ := CX.out.below ((HC.out.to W (by simp)).trans (hB.mono (HC.out.to W (by simp)).size)); have xw := boxStays X1.out ((HC.out.to W (by simp)).trans (hB.mono (HC.out.to W (by simp)).size)); have q0 := cell_of_row _ _ 0 _ _ _ xw; have q1 := cell_of_row _ _ 1 _ _ _ xw; have q2 := cell_of_row _ _ 2 _ _ _ xw; have q3 := cell_of_row _ _ 3 _ _ _ xw; have q4 := cell_of_row _ _ 4 _ _ _ xw; clear xw; have w1 := W1.out; have l1 := L1.out; (go_simp <;> with_reducible rfl)
   try simp only [Act.put, List.setIfInBounds_toArray, List.set_cons_zero, List.set_cons_succ]
   refine wpAnyH_take (i := 3) (oi := ⟨some 8, _, _, _, _, _⟩) (v := ?_) rfl (by kernel_rfl) (by kernel_rfl) (by kernel_rfl) (fun _ _ _ h => h) (Or.inl ⟨by rfl, ?_⟩) hS ?_
   rotate_left 1
   · intro w' hB; obtain ⟨p0, p1, p2, p3, p4, p5⟩ := CX.out.below ((HC.out.to W (by simp)).trans (hB.mono (HC.out.to W (by simp)).size)); have xw := boxStays X1.out ((HC.out.to W (by simp)).trans (hB.mono (HC.out.to W (by simp)).size)); have q0 := cell_of_row _ _ 0 _ _ _ xw; have q1 := cell_of_row _ _ 1 _ _ _ xw; have q2 := cell_of_row _ _ 2 _ _ _ xw; have q3 := cell_of_row _ _ 3 _ _ _ xw; have q4 := cell_of_row _ _ 4 _ _ _ xw; clear xw; have w1 := W1.out; have l1 := L1.out; (go_simp <;> with_reducible rfl)
   try simp only [Act.put, List.setIfInBounds_toArray, List.set_cons_zero, List.set_cons_succ]
   refine wpAnyH_take (i := 4) (oi := ⟨some 9, _, _, _, _, _⟩) (v := ?_) rfl (by kernel_rfl) (by kernel_rfl) (by kernel_rfl) (fun _ _ _ h => h) (Or.inl ⟨by rfl, ?_⟩) hS ?_
   rotate_left 1
   · intro w' hB; obtain ⟨p0, p1, p2, p3, p4, p5⟩ := CX.out.below ((HC.out.to W (by simp)).trans (hB.mono (HC.out.to W (by simp)).size)); have xw := boxStays X1.out ((HC.out.to W (by simp)).trans (hB.mono (HC.out.to W (by simp)).size)); have q0 := cell_of_row _ _ 0 _ _ _ xw; have q1 := cell_of_row _ _ 1 _ _ _ xw; have q2 := cell_of_row _ _ 2 _ _ _ xw; have q3 := cell_of_row _ _ 3 _ _ _ xw; have q4 := cell_of_row _ _ 4 _ _ _ xw; clear xw; have w1 := W1.out; have l1 := L1.out; (go_simp <;> with_reducible rfl)
   try simp only [Act.put, List.setIfInBounds_toArray, List.set_cons_zero, List.set_cons_succ]
   refine wpAnyH_take (i := 5) (oi := ⟨some 10, _, _, _, _, _⟩) (v := ?_) rfl (by kernel_rfl) (by kernel_rfl) (by kernel_rfl) (fun _ _ _ h => h) (Or.inl ⟨by rfl, ?_⟩) hS ?_
   rotate_left 1
   · intro w' hB; obtain ⟨p0, p1, p2, p3, p4, p5⟩ := CX.out.below ((HC.out.to W (by simp)).trans (hB.mono (HC.out.to W (by simp)).size)); have xw := boxStays X1.out ((HC.out.to W (by simp)).trans (hB.mono (HC.out.to W (by simp)).size)); have q0 := cell_of_row _ _ 0 _ _ _ xw; have q1 := cell_of_row _ _ 1 _ _ _ xw; have q2 := cell_of_row _ _ 2 _ _ _ xw; have q3 := cell_of_row _ _ 3 _ _ _ xw; have q4 := cell_of_row _ _ 4 _ _ _ xw; clear xw; have w1 := W1.out; have l1 := L1.out; (go_simp <;> with_reducible rfl)
   try simp only [Act.put, List.setIfInBounds_toArray, List.set_cons_zero, List.set_cons_succ]
   refine wpAnyH_take (i := 6) (oi := ⟨some 11, _, _, _, _, _⟩) (v := ?_) rfl (by kernel_rfl) (by kernel_rfl) (by kernel_rfl) (fun _ _ _ h => h) (Or.inl ⟨by rfl, ?_⟩) hS ?_
   rotate_left 1
   · intro w' hB; obtain ⟨p0, p1, p2, p3, p4, p5⟩ := CX.out.below ((HC.out.to W (by simp)).trans (hB.mono (HC.out.to W (by simp)).size)); have xw := boxStays X1.out ((HC.out.to W (by simp)).trans (hB.mono (HC.out.to W (by simp)).size)); have q0 := cell_of_row _ _ 0 _ _ _ xw; have q1 := cell_of_row _ _ 1 _ _ _ xw; have q2 := cell_of_row _ _ 2 _ _ _ xw; have q3 := cell_of_row _ _ 3 _ _ _ xw; have q4 := cell_of_row _ _ 4 _ _ _ xw; clear xw; have w1 := W1.out; have l1 := L1.out; (go_simp <;> with_reducible rfl)
   try simp only [Act.put, List.setIfInBounds_toArray, List.set_cons_zero, List.set_cons_succ]
   refine wpAnyH_take (i := 7) (oi := ⟨some 12, _, _, _, _, _⟩) (v := ?_) rfl (by kernel_rfl) (by kernel_rfl) (by kernel_rfl) (fun _ _ _ h => h) (Or.inl ⟨by rfl, ?_⟩) hS ?_
   rotate_left 1
   · intro w' hB; obtain ⟨p0, p1, p2, p3, p4, p5⟩ := CX.out.below ((HC.out.to W (by simp)).trans (hB.mono (HC.out.to W (by simp)).size)); have xw := boxStays X1.out ((HC.out.to W (by simp)).trans (hB.mono (HC.out.to W (by simp)).size)); have q0 := cell_of_row _ _ 0 _ _ _ xw; have q1 := cell_of_row _ _ 1 _ _ _ xw; have q2 := cell_of_row _ _ 2 _ _ _ xw; have q3 := cell_of_row _ _ 3 _ _ _ xw; have q4 := cell_of_row _ _ 4 _ _ _ xw; clear xw; have w1 := W1.out; have l1 := L1.out; (go_simp <;> with_reducible rfl)
   try simp only [Act.put, List.setIfInBounds_toArray, List.set_cons_zero, List.set_cons_succ]
   refine wpAnyH_take (i := 8) (oi := ⟨some 13, _, _, _, _, _⟩) (v := ?_) rfl (by kernel_rfl) (by kernel_rfl) (by kernel_rfl) (fun _ _ _ h => h) (Or.inl ⟨by rfl, ?_⟩) hS ?_
   rotate_left 1
   · intro w' hB; obtain ⟨p0, p1, p2, p3, p4, p5⟩ := CX.out.below ((HC.out.to W (by simp)).trans (hB.mono (HC.out.to W (by simp)).size)); have xw := boxStays X1.out ((HC.out.to W (by simp)).trans (hB.mono (HC.out.to W (by simp)).size)); have q0 := cell_of_row _ _ 0 _ _ _ xw; have q1 := cell_of_row _ _ 1 _ _ _ xw; have q2 := cell_of_row _ _ 2 _ _ _ xw; have q3 := cell_of_row _ _ 3 _ _ _ xw; have q4 := cell_of_row _ _ 4 _ _ _ xw; clear xw; have w1 := W1.out; have l1 := L1.out; (go_simp <;> with_reducible rfl)
   try simp only [Act.put, List.setIfInBounds_toArray, List.set_cons_zero, List.set_cons_succ]
   refine wpAnyH_take (i := 9) (oi := ⟨some 14, _, _, _, _, _⟩) (v := ?_) rfl (by kernel_rfl) (by kernel_rfl) (by kernel_rfl) (fun _ _ _ h => h) (Or.inl ⟨by rfl, ?_⟩) hS ?_
   rotate_left 1
   · intro w' hB; obtain ⟨p0, p1, p2, p3, p4, p5⟩ := CX.out.below ((HC.out.to W (by simp)).trans (hB.mono (HC.out.to W (by simp)).size)); have xw := boxStays X1.out ((HC.out.to W (by simp)).trans (hB.mono (HC.out.to W (by simp)).size)); have q0 := cell_of_row _ _ 0 _ _ _ xw; have q1 := cell_of_row _ _ 1 _ _ _ xw; have q2 := cell_of_row _ _ 2 _ _ _ xw; have q3 := cell_of_row _ _ 3 _ _ _ xw; have q4 := cell_of_row _ _ 4 _ _ _ xw; clear xw; have w1 := W1.out; have l1 := L1.out; (go_simp <;> with_reducible rfl)
   try simp only [Act.put, List.setIfInBounds_toArray, List.set_cons_zero, List.set_cons_succ]
   refine wpAnyH_take (i := 10) (oi := ⟨some 15, _, _, _, _, _⟩) (v := ?_) rfl (by kernel_rfl) (by kernel_rfl) (by kernel_rfl) (fun _ _ _ h => h) (Or.inl ⟨by rfl, ?_⟩) hS ?_
   rotate_left 1
   · intro w' hB; obtain ⟨p0, p1, p2, p3, p4, p5⟩ := CX.out.below ((HC.out.to W (by simp)).trans (hB.mono (HC.out.to W (by simp)).size)); have xw := boxStays X1.out ((HC.out.to W (by simp)).trans (hB.mono (HC.out.to W (by simp)).size)); have q0 := cell_of_row _ _ 0 _ _ _ xw; have q1 := cell_of_row _ _ 1 _ _ _ xw; have q2 := cell_of_row _ _ 2 _ _ _ xw; have q3 := cell_of_row _ _ 3 _ _ _ xw; have q4 := cell_of_row _ _ 4 _ _ _ xw; clear xw; have w1 := W1.out; have l1 := L1.out; (go_simp <;> with_reducible rfl)
   try simp only [Act.put, List.setIfInBounds_toArray, List.set_cons_zero, List.set_cons_succ]
   refine wpAnyH_take (i := 11) (oi := ⟨some 16, _, _, _, _, _⟩) (v := ?_) rfl (by kernel_rfl) (by kernel_rfl) (by kernel_rfl) (fun _ _ _ h => h) (Or.inl ⟨by rfl, ?_⟩) hS ?_
   rotate_left 1
   · intro w' hB; obtain ⟨p0, p1, p2, p3, p4, p5⟩ := CX.out.below ((HC.out.to W (by simp)).trans (hB.mono (HC.out.to W (by simp)).size)); have xw := boxStays X1.out ((HC.out.to W (by simp)).trans (hB.mono (HC.out.to W (by simp)).size)); have q0 := cell_of_row _ _ 0 _ _ _ xw; have q1 := cell_of_row _ _ 1 _ _ _ xw; have q2 := cell_of_row _ _ 2 _ _ _ xw; have q3 := cell_of_row _ _ 3 _ _ _ xw; have q4 := cell_of_row _ _ 4 _ _ _ xw; clear xw; have w1 := W1.out; have l1 := L1.out; (go_simp <;> with_reducible rfl)
   try simp only [Act.put, List.setIfInBounds_toArray, List.set_cons_zero, List.set_cons_succ]
   refine wpAnyH_ready (rs := [12]) (by kernel_rfl) (by simp) (AllReadyH.cons (o := ⟨some 17, _, _, _, _, _⟩) rfl (fun K hK => ?_) AllReadyH.nil)
   go_simp
   refine (HC1.out _).mono ?_
   rintro e w3 ⟨rfl, hb⟩
   refine hK.out _ _ (hS.trans (hb.mono hS.size)) (fun _ => ?_)
   clear hK K
   have hB := hS.trans (hb.mono hS.size)
   refine wpAnyH_now hB ?_
   clear hS
   have hS := Below.refl w3.heap.size w3
   replace HC := Lib.hid (HC.out.push hB)
   clear hB hb
   try simp only [Act.put, List.setIfInBounds_toArray, List.set_cons_zero, List.set_cons_succ]
   refine wpAnyH_take (i := 13) (oi := ⟨some 18, _, _, _, _, _⟩) (v := ?_) rfl (by kernel_rfl) (by kernel_rfl) (by kernel_rfl) (fun _ _ _ h => h) (Or.inl ⟨by rfl, ?_⟩) hS ?_
   rotate_left 1
   · intro w' hB; obtain ⟨p0, p1, p2, p3, p4, p5⟩ := CX.out.below ((HC.out.to W (by simp)).trans (hB.mono (HC.out.to W (by simp)).size)); have xw := boxStays X1.out ((HC.out.to W (by simp)).trans (hB.mono (HC.out.to W (by simp)).size)); have q0 := cell_of_row _ _ 0 _ _ _ xw; have q1 := cell_of_row _ _ 1 _ _ _ xw; have q2 := cell_of_row _ _ 2 _ _ _ xw; have q3 := cell_of_row _ _ 3 _ _ _ xw; have q4 := cell_of_row _ _ 4 _ _ _ xw; clear xw; have w1 := W1.out; have l1 := L1.out; (go_simp <;> with_reducible rfl)
   try simp only [Act.put, List.setIfInBounds_toArray, List.set_cons_zero, List.set_cons_succ]
   refine wpAnyH_take (i := 14) (oi := ⟨some 19, _, _, _, _, _⟩) (v := ?_) rfl (by kernel_rfl) (by kernel_rfl) (by kernel_rfl) (fun _ _ _ h => h) (Or.inl ⟨by rfl, ?_⟩) hS ?_
   rotate_left 1
   · intro w' hB; obtain ⟨p0, p1, p2, p3, p4, p5⟩ := CX.out.below ((HC.out.to W (by simp)).trans (hB.mono (HC.out.to W (by simp)).size)); have xw := boxStays X1.out ((HC.out.to W (by simp)).trans (hB.mono (HC.out.to W (by simp)).size)); have q0 := cell_of_row _ _ 0 _ _ _ xw; have q1 := cell_of_row _ _ 1 _ _ _ xw; have q2 := cell_of_row _ _ 2 _ _ _ xw; have q3 := cell_of_row _ _ 3 _ _ _ xw; have q4 := cell_of_row _ _ 4 _ _ _ xw; clear xw; have w1 := W1.out; have l1 := L1.out; (go_simp <;> with_reducible rfl)
   try simp only [Act.put, List.setIfInBounds_toArray, List.set_cons_zero, List.set_cons_succ]
   refine wpAnyH_take (i := 15) (oi := ⟨some 4, _, _, _, _, _⟩) (v := ?_) rfl (by kernel_rfl) (by kernel_rfl) (by kernel_rfl) (fun _ _ _ h => h) (Or.inl ⟨by rfl, ?_⟩) hS ?_
   rotate_left 1
   · intro w' hB; obtain ⟨p0, p1, p2, p3, p4, p5⟩ := CX.out.below ((HC.out.to W (by simp)).trans (hB.mono (HC.out.to W (by simp)).size)); have xw := boxStays X1.out ((HC.out.to W (by simp)).trans (hB.mono (HC.out.to W (by simp)).size)); have q0 := cell_of_row _ _ 0 _ _ _ xw; have q1 := cell_of_row _ _ 1 _ _ _ xw; have q2 := cell_of_row _ _ 2 _ _ _ xw; have q3 := cell_of_row _ _ 3 _ _ _ xw; have q4 := cell_of_row _ _ 4 _ _ _ xw; clear xw; have w1 := W1.out; have l1 := L1.out; (go_simp <;> with_reducible rfl)
   try simp only [Act.put, List.setIfInBounds_toArray, List.set_cons_zero, List.set_cons_succ]
   refine wpAnyH_done (by kernel_rfl) (NoPanic.normal ?_) _
   have HB3 := Lib.hid (B1.out.trans ((HC.out.to W (by simp)).mono B1.out.size))
   clear hS HC
   go_wp2_with fail
   go_ret
   rw [E1.out]
   exact ⟨rfl, HB3.out⟩
end Go.Proofs.Ytnpiepimajippaa
