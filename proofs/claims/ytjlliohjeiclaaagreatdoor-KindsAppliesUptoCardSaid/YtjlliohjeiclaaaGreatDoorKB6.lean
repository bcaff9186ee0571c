/- Words, contracts and walks that the proof stands on (KnC ElS). -/
import Derived.Test.YtjlliohjeiclaaaGreatDoorKB2
import Derived.Test.YtjlliohjeiclaaaGreatDoorKB5
namespace Go.Proofs.YtjlliohjeiclaaaGreatDoor
open Go.RowKit St Pm Ku Kn
theorem key_CmpW (a b : ByteArray) (w : World) : Calls Tryz.prog 180 #[.string a, .string b] w fun e w' => e = .returned (.int .i64 (txtC a b)) ∧ Grw w w' := by
 go_enter Tryz.func180, Tryz.ntmps180
 go_wp2_with fail
 refine (ks_Compare a b w).mono ?_
 rintro e _ ⟨rfl, rfl⟩
 go_wp2_with fail
 go_ret
 rw [cmpB_txt]
 exact ⟨rfl, Grw.refl _⟩
theorem stp_number (a b : Int) (w : World) : Calls Tryz.prog 107 #[.int .i64 a, .int .i64 b] w fun e w' => e = .returned (.int .i64 (numC a b)) ∧ Grw w w' := by
 rcases (by omega : a < b ∨ b < a ∨ a = b) with h | h | h
 · rw [numC_lt h]
   go_enter Tryz.func107, Tryz.ntmps107
   go_wp2
   go_ret
   exact ⟨rfl, Grw.refl _⟩
 · rw [numC_gt h]
   have h2 : ¬ a < b := by omega
   go_enter Tryz.func107, Tryz.ntmps107
   go_wp2
   go_ret
   exact ⟨rfl, Grw.refl _⟩
 · subst h
   rw [numC_eq rfl]
   have h2 : ¬ a < a := by omega
   go_enter Tryz.func107, Tryz.ntmps107
   go_wp2
   go_ret
   exact ⟨rfl, Grw.refl _⟩
set_option maxRecDepth 100000 in
theorem stp_first (x y z : Int) (w : World) : Calls Tryz.prog 106 #[.agg #[.int .i64 x, .int .i64 y, .int .i64 z]] w fun e w' => e = .returned (.int .i64 (firstC x (firstC y z))) ∧ Grw w w' := by
 have i0 : ∀ W, (Instr.index 163 (.agg #[.int .i64 x, .int .i64 y, .int .i64 z]) (.int .i64 0)).run Tryz.prog W = .ok (.int .i64 x) W := fun W => by kernel_rfl
 have i1 : ∀ W, (Instr.index 163 (.agg #[.int .i64 x, .int .i64 y, .int .i64 z]) (.int .i64 1)).run Tryz.prog W = .ok (.int .i64 y) W := fun W => by kernel_rfl
 have i2 : ∀ W, (Instr.index 163 (.agg #[.int .i64 x, .int .i64 y, .int .i64 z]) (.int .i64 2)).run Tryz.prog W = .ok (.int .i64 z) W := fun W => by kernel_rfl
 obtain ⟨re, hre⟩ : ∃ r, firstC x (firstC y z) = r := ⟨_, rfl⟩
 have RE := Lib.hid hre
 rw [hre]
 clear hre
 go_enter Tryz.func106, Tryz.ntmps106
 go_upto_region 1 with (fail)
 go_step3
 go_wp2_with fail
 go_step3
 go_wp2_with fail
 have HG : Hid (Grw w (w.alloc (.cells #[.int .i64 x, .int .i64 y, .int .i64 z] 163))) := Lib.hid ((Grw.refl w).alloc _)
 generalize w.alloc (.cells #[.int .i64 x, .int .i64 y, .int .i64 z] 163) = w1 at *
 go_loopw [3, 5, 7] (fun o _ i wr => ∃ j : Nat, o = .int .i64 0 ∧ i = .int .i64 (j : Int) ∧ w1 = wr ∧ ((j = 0 ∧ Hid (firstC x (firstC y z) = re)) ∨ (j = 1 ∧ Hid (firstC y z = re)) ∨ (j = 2 ∧ Hid (z = re)) ∨ (j = 3 ∧ Hid ((0 : Int) = re)))) (fun _ _ i _ => 3 - (intOf i).toNat)
 case atStart => exact ⟨0, rfl, rfl, rfl, .inl ⟨rfl, RE⟩⟩
 case round =>
  obtain ⟨j, rfl, rfl, rfl, hj⟩ := hrel
  clear RE
  rcases hj with ⟨rfl, RE⟩ | ⟨rfl, RE⟩ | ⟨rfl, RE⟩ | ⟨rfl, RE⟩
  · by_cases hx : x = 0
    · subst hx
      go_wp2_with fail
      go_roundw
      case rel => exact ⟨1, rfl, rfl, by first | trivial | rfl, .inr (.inl ⟨rfl, RE⟩)⟩
      case measure => simp [intOf]
    · have hb : (x == 0) = false := by simpa using hx
      obtain rfl : x = re := by rw [← RE.out]; unfold firstC; rw [if_neg hx]
      go_wp2_with fail
      try rw [Exit.noGoto_ret]
      go_ret
      exact ⟨rfl, HG.out⟩
  · by_cases hx : y = 0
    · subst hx
      go_wp2_with fail
      go_roundw
      case rel => exact ⟨2, rfl, rfl, by first | trivial | rfl, .inr (.inr (.inl ⟨rfl, RE⟩))⟩
      case measure => simp [intOf]
    · have hb : (y == 0) = false := by simpa using hx
      obtain rfl : y = re := by rw [← RE.out]; unfold firstC; rw [if_neg hx]
      go_wp2_with fail
      try rw [Exit.noGoto_ret]
      go_ret
      exact ⟨rfl, HG.out⟩
  · by_cases hx : z = 0
    · subst hx
      go_wp2_with fail
      go_roundw
      case rel => exact ⟨3, rfl, rfl, by first | trivial | rfl, .inr (.inr (.inr ⟨rfl, RE⟩))⟩
      case measure => simp [intOf]
    · have hb : (z == 0) = false := by simpa using hx
      obtain rfl : z = re := RE.out
      go_wp2_with fail
      try rw [Exit.noGoto_ret]
      go_ret
      exact ⟨rfl, HG.out⟩
  · obtain rfl : (0 : Int) = re := RE.out
    go_wp2_with fail
    try rw [Exit.noGoto_ret]
    go_ret
    exact ⟨rfl, HG.out⟩
set_option maxRecDepth 100000 in
set_option maxHeartbeats 1000000 in
theorem stp_CmpBranch (r1 : Int) (l1 : ByteArray) (r2 : Int) (l2 : ByteArray) (w : World) :
 Calls Tryz.prog 140 #[.agg #[.int .i64 r1, .string l1], .agg #[.int .i64 r2, .string l2]] w fun e w' => e = .returned (.int .i64 (brC r1 l1 r2 l2)) ∧ Grw w w' := by
 have HV : Hid (firstC (numC r1 r2) (firstC (txtC l1 l2) 0) = brC r1 l1 r2 l2) := Lib.hid (by unfold brC; congr 1; unfold firstC; split <;> simp_all)
 go_enter Tryz.func140, Tryz.ntmps140
 go_upto_region 1 with (fail)
 have GW : Hid (Grw w ((w.alloc (.cells #[.int .i64 r1, .string l1] 39)).alloc (.cells #[.int .i64 r2, .string l2] 39))) := Lib.hid (((Grw.refl w).alloc _).alloc _)
 have x1 := boxStays (heap_alloc_new w (.cells #[.int .i64 r1, .string l1] 39)) (below_new _ (.cells #[.int .i64 r2, .string l2] 39))
 have x2 := heap_alloc_new (w.alloc (.cells #[.int .i64 r1, .string l1] 39)) (.cells #[.int .i64 r2, .string l2] 39)
 rw [World.size_alloc] at x2
 have X1 := Lib.hid x1
 have X2 := Lib.hid x2
 clear x1 x2
 generalize (w.alloc (.cells #[.int .i64 r1, .string l1] 39)).alloc (.cells #[.int .i64 r2, .string l2] 39) = w1 at *
 refine wp_region_noPanic ?_
 refine wp_region_held_drew (S := fun w' => Grw w1 w') (by kernel_rfl) (Grw.refl _).drew (fun hS => ?_)
 refine wpAnyH_take (i := 0) (oi := ⟨some 5, _, _, _, _, _⟩) (v := ?_) rfl (by kernel_rfl) (by kernel_rfl) (by kernel_rfl) (fun _ _ _ h => h) (Or.inl ⟨by rfl, ?_⟩) hS ?_
 rotate_left 1
 · intro w' hB; have h1 := boxStays X1.out hB.below; have h2 := boxStays X2.out hB.below; have k0 := cell_of_row _ _ 0 _ _ _ h1; have k1 := cell_of_row _ _ 1 _ _ _ h1; have q0 := cell_of_row _ _ 0 _ _ _ h2; have q1 := cell_of_row _ _ 1 _ _ _ h2; clear h1 h2; (go_simp <;> with_reducible rfl)
 try simp only [Act.put, List.setIfInBounds_toArray, List.set_cons_zero, List.set_cons_succ]
 refine wpAnyH_take (i := 1) (oi := ⟨some 6, _, _, _, _, _⟩) (v := ?_) rfl (by kernel_rfl) (by kernel_rfl) (by kernel_rfl) (fun _ _ _ h => h) (Or.inl ⟨by rfl, ?_⟩) hS ?_
 rotate_left 1
 · intro w' hB; have h1 := boxStays X1.out hB.below; have h2 := boxStays X2.out hB.below; have k0 := cell_of_row _ _ 0 _ _ _ h1; have k1 := cell_of_row _ _ 1 _ _ _ h1; have q0 := cell_of_row _ _ 0 _ _ _ h2; have q1 := cell_of_row _ _ 1 _ _ _ h2; clear h1 h2; (go_simp <;> with_reducible rfl)
 try simp only [Act.put, List.setIfInBounds_toArray, List.set_cons_zero, List.set_cons_succ]
 refine wpAnyH_take (i := 2) (oi := ⟨some 7, _, _, _, _, _⟩) (v := ?_) rfl (by kernel_rfl) (by kernel_rfl) (by kernel_rfl) (fun _ _ _ h => h) (Or.inl ⟨by rfl, ?_⟩) hS ?_
 rotate_left 1
 · intro w' hB; have h1 := boxStays X1.out hB.below; have h2 := boxStays X2.out hB.below; have k0 := cell_of_row _ _ 0 _ _ _ h1; have k1 := cell_of_row _ _ 1 _ _ _ h1; have q0 := cell_of_row _ _ 0 _ _ _ h2; have q1 := cell_of_row _ _ 1 _ _ _ h2; clear h1 h2; (go_simp <;> with_reducible rfl)
 try simp only [Act.put, List.setIfInBounds_toArray, List.set_cons_zero, List.set_cons_succ]
 refine wpAnyH_take (i := 3) (oi := ⟨some 8, _, _, _, _, _⟩) (v := ?_) rfl (by kernel_rfl) (by kernel_rfl) (by kernel_rfl) (fun _ _ _ h => h) (Or.inl ⟨by rfl, ?_⟩) hS ?_
 rotate_left 1
 · intro w' hB; have h1 := boxStays X1.out hB.below; have h2 := boxStays X2.out hB.below; have k0 := cell_of_row _ _ 0 _ _ _ h1; have k1 := cell_of_row _ _ 1 _ _ _ h1; have q0 := cell_of_row _ _ 0 _ _ _ h2; have q1 := cell_of_row _ _ 1 _ _ _ h2; clear h1 h2; (go_simp <;> with_reducible rfl)
 try simp only [Act.put, List.setIfInBounds_toArray, List.set_cons_zero, List.set_cons_succ]
 refine wpAnyH_take (i := 5) (oi := ⟨some 10, _, _, _, _, _⟩) (v := ?_) rfl (by kernel_rfl) (by kernel_rfl) (by kernel_rfl) (fun _ _ _ h => h) (Or.inl ⟨by rfl, ?_⟩) hS ?_
 rotate_left 1
 · intro w' hB; have h1 := boxStays X1.out hB.below; have h2 := boxStays X2.out hB.below; have k0 := cell_of_row _ _ 0 _ _ _ h1; have k1 := cell_of_row _ _ 1 _ _ _ h1; have q0 := cell_of_row _ _ 0 _ _ _ h2; have q1 := cell_of_row _ _ 1 _ _ _ h2; clear h1 h2; (go_simp <;> with_reducible rfl)
 try simp only [Act.put, List.setIfInBounds_toArray, List.set_cons_zero, List.set_cons_succ]
 refine wpAnyH_take (i := 6) (oi := ⟨some 11, _, _, _, _, _⟩) (v := ?_) rfl (by kernel_rfl) (by kernel_rfl) (by kernel_rfl) (fun _ _ _ h => h) (Or.inl ⟨by rfl, ?_⟩) hS ?_
 rotate_left 1
 · intro w' hB; have h1 := boxStays X1.out hB.below; have h2 := boxStays X2.out hB.below; have k0 := cell_of_row _ _ 0 _ _ _ h1; have k1 := cell_of_row _ _ 1 _ _ _ h1; have q0 := cell_of_row _ _ 0 _ _ _ h2; have q1 := cell_of_row _ _ 1 _ _ _ h2; clear h1 h2; (go_simp <;> with_reducible rfl)
 try simp only [Act.put, List.setIfInBounds_toArray, List.set_cons_zero, List.set_cons_succ]
 refine wpAnyH_take (i := 7) (oi := ⟨some 12, _, _, _, _, _⟩) (v := ?_) rfl (by kernel_rfl) (by kernel_rfl) (by kernel_rfl) (fun _ _ _ h => h) (Or.inl ⟨by rfl, ?_⟩) hS ?_
 rotate_left 1
 · intro w' hB; have h1 := boxStays X1.out hB.below; have h2 := boxStays X2.out hB.below; have k0 := cell_of_row _ _ 0 _ _ _ h1; have k1 := cell_of_row _ _ 1 _ _ _ h1; have q0 := cell_of_row _ _ 0 _ _ _ h2; have q1 := cell_of_row _ _ 1 _ _ _ h2; clear h1 h2; (go_simp <;> with_reducible rfl)
 try simp only [Act.put, List.setIfInBounds_toArray, List.set_cons_zero, List.set_cons_succ]
 refine wpAnyH_take (i := 8) (oi := ⟨some 13, _, _, _, _, _⟩) (v := ?_) rfl (by kernel_rfl) (by kernel_rfl) (by kernel_rfl) (fun _ _ _ h => h) (Or.inl ⟨by rfl, ?_⟩) hS ?_
 rotate_left 1
 · intro w' hB; have h1 := boxStays X1.out hB.below; have h2 := boxStays X2.out hB.below; have k0 := cell_of_row _ _ 0 _ _ _ h1; have k1 := cell_of_row _ _ 1 _ _ _ h1; have q0 := cell_of_row _ _ 0 _ _ _ h2; have q1 := cell_of_row _ _ 1 _ _ _ h2; clear h1 h2; (go_simp <;> with_reducible rfl)
 try simp only [Act.put, List.setIfInBounds_toArray, List.set_cons_zero, List.set_cons_succ]
 refine wpAnyH_ready (rs := [4]) (by kernel_rfl) (by simp) (AllReadyH.cons (o := ⟨some 9, _, _, _, _, _⟩) rfl (fun K hK => ?_) AllReadyH.nil)
 go_simp
 refine (stp_number r1 r2 _).mono ?_
 rintro e w2 ⟨rfl, hb⟩
 refine hK.out _ _ (hS.trans (hb)) (fun _ => ?_)
 clear hK K
 replace hS := hS.trans (hb)
 clear hb
 try simp only [Act.put, List.setIfInBounds_toArray, List.set_cons_zero, List.set_cons_succ]
 refine wpAnyH_ready (rs := [9]) (by kernel_rfl) (by simp) (AllReadyH.cons (o := ⟨some 14, _, _, _, _, _⟩) rfl (fun K hK => ?_) AllReadyH.nil)
 go_simp
 refine (key_CmpW l1 l2 _).mono ?_
 rintro e w3 ⟨rfl, hb⟩
 refine hK.out _ _ (hS.trans (hb)) (fun _ => ?_)
 clear hK K
 replace hS := hS.trans (hb)
 clear hb
 try simp only [Act.put, List.setIfInBounds_toArray, List.set_cons_zero, List.set_cons_succ]
 refine wpAnyH_take (i := 10) (oi := ⟨some 15, _, _, _, _, _⟩) (v := ?_) rfl (by kernel_rfl) (by kernel_rfl) (by kernel_rfl) (fun _ _ _ h => h) (Or.inl ⟨by rfl, ?_⟩) hS ?_
 rotate_left 1
 · intro w' hB; have h1 := boxStays X1.out hB.below; have h2 := boxStays X2.out hB.below; have k0 := cell_of_row _ _ 0 _ _ _ h1; have k1 := cell_of_row _ _ 1 _ _ _ h1; have q0 := cell_of_row _ _ 0 _ _ _ h2; have q1 := cell_of_row _ _ 1 _ _ _ h2; clear h1 h2; (go_simp <;> with_reducible rfl)
 try simp only [Act.put, List.setIfInBounds_toArray, List.set_cons_zero, List.set_cons_succ]
 refine wpAnyH_ready (rs := [11]) (by kernel_rfl) (by simp) (AllReadyH.cons (o := ⟨some 16, _, _, _, _, _⟩) rfl (fun K hK => ?_) AllReadyH.nil)
 go_simp
 refine (stp_first (numC r1 r2) (txtC l1 l2) 0 _).mono ?_
 rintro e w4 ⟨rfl, hb⟩
 refine hK.out _ _ (hS.trans (hb)) (fun _ => ?_)
 clear hK K
 replace hS := hS.trans (hb)
 clear hb
 try simp only [Act.put, List.setIfInBounds_toArray, List.set_cons_zero, List.set_cons_succ]
 refine wpAnyH_take (i := 12) (oi := ⟨some 4, _, _, _, _, _⟩) (v := ?_) rfl (by kernel_rfl) (by kernel_rfl) (by kernel_rfl) (fun _ _ _ h => h) (Or.inl ⟨by rfl, ?_⟩) hS ?_
 rotate_left 1
 · intro w' hB; have h1 := boxStays X1.out hB.below; have h2 := boxStays X2.out hB.below; have k0 := cell_of_row _ _ 0 _ _ _ h1; have k1 := cell_of_row _ _ 1 _ _ _ h1; have q0 := cell_of_row _ _ 0 _ _ _ h2; have q1 := cell_of_row _ _ 1 _ _ _ h2; clear h1 h2; (go_simp <;> with_reducible rfl)
 try simp only [Act.put, List.setIfInBounds_toArray, List.set_cons_zero, List.set_cons_succ]
 refine wpAnyH_done (by kernel_rfl) (NoPanic.normal ?_) _
 have HS := Lib.hid (GW.out.trans hS)
 clear hS
 go_wp2_with fail
 go_ret
 exact ⟨by rw [HV.out]; rfl, HS.out⟩
set_option maxRecDepth 100000 in
set_option maxHeartbeats 1000000 in
theorem stp_CmpName (r1 : Int) (l1 : ByteArray) (n1 : Int) (r2 : Int) (l2 : ByteArray) (n2 : Int) (w : World) :
 Calls Tryz.prog 108 #[.agg #[.int .i64 r1, .string l1, .int .i64 n1], .agg #[.int .i64 r2, .string l2, .int .i64 n2]] w fun e w' => e = .returned (.int .i64 (nmC r1 l1 n1 r2 l2 n2)) ∧ Grw w w' := by
 have HV : Hid (firstC (brC r1 l1 r2 l2) (firstC (numC n1 n2) 0) = nmC r1 l1 n1 r2 l2 n2) := Lib.hid (by unfold nmC; congr 1; unfold firstC; split <;> simp_all)
 go_enter Tryz.func108, Tryz.ntmps108
 go_upto_region 1 with (fail)
 have GW : Hid (Grw w ((w.alloc (.cells #[.int .i64 r1, .string l1, .int .i64 n1] 41)).alloc (.cells #[.int .i64 r2, .string l2, .int .i64 n2] 41))) := Lib.hid (((Grw.refl w).alloc _).alloc _)
 have x1 := boxStays (heap_alloc_new w (.cells #[.int .i64 r1, .string l1, .int .i64 n1] 41)) (below_new _ (.cells #[.int .i64 r2, .string l2, .int .i64 n2] 41))
 have x2 := heap_alloc_new (w.alloc (.cells #[.int .i64 r1, .string l1, .int .i64 n1] 41)) (.cells #[.int .i64 r2, .string l2, .int .i64 n2] 41)
 rw [World.size_alloc] at x2
 have X1 := Lib.hid x1
 have X2 := Lib.hid x2
 clear x1 x2
 generalize (w.alloc (.cells #[.int .i64 r1, .string l1, .int .i64 n1] 41)).alloc (.cells #[.int .i64 r2, .string l2, .int .i64 n2] 41) = w1 at *
 refine wp_region_noPanic ?_
 refine wp_region_held_drew (S := fun w' => Grw w1 w') (by kernel_rfl) (Grw.refl _).drew (fun hS => ?_)
 refine wpAnyH_take (i := 0) (oi := ⟨some 5, _, _, _, _, _⟩) (v := ?_) rfl (by kernel_rfl) (by kernel_rfl) (by kernel_rfl) (fun _ _ _ h => h) (Or.inl ⟨by rfl, ?_⟩) hS ?_
 rotate_left 1
 · intro w' hB; have h1 := boxStays X1.out hB.below; have h2 := boxStays X2.out hB.below; have k0 := cell_of_row _ _ 0 _ _ _ h1; have k1 := cell_of_row _ _ 1 _ _ _ h1; have k2 := cell_of_row _ _ 2 _ _ _ h1; have q0 := cell_of_row _ _ 0 _ _ _ h2; have q1 := cell_of_row _ _ 1 _ _ _ h2; have q2 := cell_of_row _ _ 2 _ _ _ h2; clear h1 h2; (go_simp <;> with_reducible rfl)
 try simp only [Act.put, List.setIfInBounds_toArray, List.set_cons_zero, List.set_cons_succ]
 refine wpAnyH_take (i := 1) (oi := ⟨some 6, _, _, _, _, _⟩) (v := ?_) rfl (by kernel_rfl) (by kernel_rfl) (by kernel_rfl) (fun _ _ _ h => h) (Or.inl ⟨by rfl, ?_⟩) hS ?_
 rotate_left 1
 · intro w' hB; have h1 := boxStays X1.out hB.below; have h2 := boxStays X2.out hB.below; have k0 := cell_of_row _ _ 0 _ _ _ h1; have k1 := cell_of_row _ _ 1 _ _ _ h1; have k2 := cell_of_row _ _ 2 _ _ _ h1; have q0 := cell_of_row _ _ 0 _ _ _ h2; have q1 := cell_of_row _ _ 1 _ _ _ h2; have q2 := cell_of_row _ _ 2 _ _ _ h2; clear h1 h2; (go_simp <;> with_reducible rfl)
 try simp only [Act.put, List.setIfInBounds_toArray, List.set_cons_zero, List.set_cons_succ]
 refine wpAnyH_take (i := 2) (oi := ⟨some 7, _, _, _, _, _⟩) (v := ?_) rfl (by kernel_rfl) (by kernel_rfl) (by kernel_rfl) (fun _ _ _ h => h) (Or.inl ⟨by rfl, ?_⟩) hS ?_
 rotate_left 1
 · intro w' hB; have h1 := boxStays X1.out hB.below; have h2 := boxStays X2.out hB.below; have k0 := cell_of_row _ _ 0 _ _ _ h1; have k1 := cell_of_row _ _ 1 _ _ _ h1; have k2 := cell_of_row _ _ 2 _ _ _ h1; have q0 := cell_of_row _ _ 0 _ _ _ h2; have q1 := cell_of_row _ _ 1 _ _ _ h2; have q2 := cell_of_row _ _ 2 _ _ _ h2; clear h1 h2; (go_simp <;> with_reducible rfl)
 try simp only [Act.put, List.setIfInBounds_toArray, List.set_cons_zero, List.set_cons_succ]
 refine wpAnyH_take (i := 3) (oi := ⟨some 8, _, _, _, _, _⟩) (v := ?_) rfl (by kernel_rfl) (by kernel_rfl) (by kernel_rfl) (fun _ _ _ h => h) (Or.inl ⟨by rfl, ?_⟩) hS ?_
 rotate_left 1
 · intro w' hB; have h1 := boxStays X1.out hB.below; have h2 := boxStays X2.out hB.below; have k0 := cell_of_row _ _ 0 _ _ _ h1; have k1 := cell_of_row _ _ 1 _ _ _ h1; have k2 := cell_of_row _ _ 2 _ _ _ h1; have q0 := cell_of_row _ _ 0 _ _ _ h2; have q1 := cell_of_row _ _ 1 _ _ _ h2; have q2 := cell_of_row _ _ 2 _ _ _ h2; clear h1 h2; (go_simp <;> with_reducible rfl)
 try simp only [Act.put, List.setIfInBounds_toArray, List.set_cons_zero, List.set_cons_succ]
 refine wpAnyH_take (i := 5) (oi := ⟨some 10, _, _, _, _, _⟩) (v := ?_) rfl (by kernel_rfl) (by kernel_rfl) (by kernel_rfl) (fun _ _ _ h => h) (Or.inl ⟨by rfl, ?_⟩) hS ?_
 rotate_left 1
 · intro w' hB; have h1 := boxStays X1.out hB.below; have h2 := boxStays X2.out hB.below; have k0 := cell_of_row _ _ 0 _ _ _ h1; have k1 := cell_of_row _ _ 1 _ _ _ h1; have k2 := cell_of_row _ _ 2 _ _ _ h1; have q0 := cell_of_row _ _ 0 _ _ _ h2; have q1 := cell_of_row _ _ 1 _ _ _ h2; have q2 := cell_of_row _ _ 2 _ _ _ h2; clear h1 h2; (go_simp <;> with_reducible rfl)
 try simp only [Act.put, List.setIfInBounds_toArray, List.set_cons_zero, List.set_cons_succ]
 refine wpAnyH_take (i := 6) (oi := ⟨some 11, _, _, _, _, _⟩) (v := ?_) rfl (by kernel_rfl) (by kernel_rfl) (by kernel_rfl) (fun _ _ _ h => h) (Or.inl ⟨by rfl, ?_⟩) hS ?_
 rotate_left 1
 · intro w' hB; have h1 := boxStays X1.out hB.below; have h2 := boxStays X2.out hB.below; have k0 := cell_of_row _ _ 0 _ _ _ h1; have k1 := cell_of_row _ _ 1 _ _ _ h1; have k2 := cell_of_row _ _ 2 _ _ _ h1; have q0 := cell_of_row _ _ 0 _ _ _ h2; have q1 := cell_of_row _ _ 1 _ _ _ h2; have q2 := cell_of_row _ _ 2 _ _ _ h2; clear h1 h2; (go_simp <;> with_reducible rfl)
 try simp only [Act.put, List.setIfInBounds_toArray, List.set_cons_zero, List.set_cons_succ]
 refine wpAnyH_take (i := 7) (oi := ⟨some 12, _, _, _, _, _⟩) (v := ?_) rfl (by kernel_rfl) (by kernel_rfl) (by kernel_rfl) (fun _ _ _ h => h) (Or.inl ⟨by rfl, ?_⟩) hS ?_
 rotate_left 1
 · intro w' hB; have h1 := boxStays X1.out hB.below; have h2 := boxStays X2.out hB.below; have k0 := cell_of_row _ _ 0 _ _ _ h1; have k1 := cell_of_row _ _ 1 _ _ _ h1; have k2 := cell_of_row _ _ 2 _ _ _ h1; have q0 := cell_of_row _ _ 0 _ _ _ h2; have q1 := cell_of_row _ _ 1 _ _ _ h2; have q2 := cell_of_row _ _ 2 _ _ _ h2; clear h1 h2; (go_simp <;> with_reducible rfl)
 try simp only [Act.put, List.setIfInBounds_toArray, List.set_cons_zero, List.set_cons_succ]
 refine wpAnyH_take (i := 8) (oi := ⟨some 13, _, _, _, _, _⟩) (v := ?_) rfl (by kernel_rfl) (by kernel_rfl) (by kernel_rfl) (fun _ _ _ h => h) (Or.inl ⟨by rfl, ?_⟩) hS ?_
 rotate_left 1
 · intro w' hB; have h1 := boxStays X1.out hB.below; have h2 := boxStays X2.out hB.below; have k0 := cell_of_row _ _ 0 _ _ _ h1; have k1 := cell_of_row _ _ 1 _ _ _ h1; have k2 := cell_of_row _ _ 2 _ _ _ h1; have q0 := cell_of_row _ _ 0 _ _ _ h2; have q1 := cell_of_row _ _ 1 _ _ _ h2; have q2 := cell_of_row _ _ 2 _ _ _ h2; clear h1 h2; (go_simp <;> with_reducible rfl)
 try simp only [Act.put, List.setIfInBounds_toArray, List.set_cons_zero, List.set_cons_succ]
 refine wpAnyH_ready (rs := [4]) (by kernel_rfl) (by simp) (AllReadyH.cons (o := ⟨some 9, _, _, _, _, _⟩) rfl (fun K hK => ?_) AllReadyH.nil)
 go_simp
 refine (stp_CmpBranch r1 l1 r2 l2 _).mono ?_
 rintro e w2 ⟨rfl, hb⟩
 refine hK.out _ _ (hS.trans (hb)) (fun _ => ?_)
 clear hK K
 replace hS := hS.trans (hb)
 clear hb
 try simp only [Act.put, List.setIfInBounds_toArray, List.set_cons_zero, List.set_cons_succ]
 refine wpAnyH_ready (rs := [9]) (by kernel_rfl) (by simp) (AllReadyH.cons (o := ⟨some 14, _, _, _, _, _⟩) rfl (fun K hK => ?_) AllReadyH.nil)
 go_simp
 refine (stp_number n1 n2 _).mono ?_
 rintro e w3 ⟨rfl, hb⟩
 refine hK.out _ _ (hS.trans (hb)) (fun _ => ?_)
 clear hK K
 replace hS := hS.trans (hb)
 clear hb
 try simp only [Act.put, List.setIfInBounds_toArray, List.set_cons_zero, List.set_cons_succ]
 refine wpAnyH_take (i := 10) (oi := ⟨some 15, _, _, _, _, _⟩) (v := ?_) rfl (by kernel_rfl) (by kernel_rfl) (by kernel_rfl) (fun _ _ _ h => h) (Or.inl ⟨by rfl, ?_⟩) hS ?_
 rotate_left 1
 · intro w' hB; have h1 := boxStays X1.out hB.below; have h2 := boxStays X2.out hB.below; have k0 := cell_of_row _ _ 0 _ _ _ h1; have k1 := cell_of_row _ _ 1 _ _ _ h1; have k2 := cell_of_row _ _ 2 _ _ _ h1; have q0 := cell_of_row _ _ 0 _ _ _ h2; have q1 := cell_of_row _ _ 1 _ _ _ h2; have q2 := cell_of_row _ _ 2 _ _ _ h2; clear h1 h2; (go_simp <;> with_reducible rfl)
 try simp only [Act.put, List.setIfInBounds_toArray, List.set_cons_zero, List.set_cons_succ]
 refine wpAnyH_ready (rs := [11]) (by kernel_rfl) (by simp) (AllReadyH.cons (o := ⟨some 16, _, _, _, _, _⟩) rfl (fun K hK => ?_) AllReadyH.nil)
 go_simp
 refine (stp_first (brC r1 l1 r2 l2) (numC n1 n2) 0 _).mono ?_
 rintro e w4 ⟨rfl, hb⟩
 refine hK.out _ _ (hS.trans (hb)) (fun _ => ?_)
 clear hK K
 replace hS := hS.trans (hb)
 clear hb
 try simp only [Act.put, List.setIfInBounds_toArray, List.set_cons_zero, List.set_cons_succ]
 refine wpAnyH_take (i := 12) (oi := ⟨some 4, _, _, _, _, _⟩) (v := ?_) rfl (by kernel_rfl) (by kernel_rfl) (by kernel_rfl) (fun _ _ _ h => h) (Or.inl ⟨by rfl, ?_⟩) hS ?_
 rotate_left 1
 · intro w' hB; have h1 := boxStays X1.out hB.below; have h2 := boxStays X2.out hB.below; have k0 := cell_of_row _ _ 0 _ _ _ h1; have k1 := cell_of_row _ _ 1 _ _ _ h1; have k2 := cell_of_row _ _ 2 _ _ _ h1; have q0 := cell_of_row _ _ 0 _ _ _ h2; have q1 := cell_of_row _ _ 1 _ _ _ h2; have q2 := cell_of_row _ _ 2 _ _ _ h2; clear h1 h2; (go_simp <;> with_reducible rfl)
 try simp only [Act.put, List.setIfInBounds_toArray, List.set_cons_zero, List.set_cons_succ]
 refine wpAnyH_done (by kernel_rfl) (NoPanic.normal ?_) _
 have HS := Lib.hid (GW.out.trans hS)
 clear hS
 go_wp2_with fail
 go_ret
 exact ⟨by rw [HV.out]; rfl, HS.out⟩
theorem numC_refl (a : Int) : numC a a = 0 := numC_eq rfl
theorem txtC_refl2 (a : ByteArray) : txtC a a = 0 := txt_eq rfl
theorem svC_refl (s : Sv) : svC s s = 0 := by unfold svC nmC brC; rw [numC_refl, txtC_refl2, numC_refl, numC_refl, numC_refl]; rfl
theorem firstC_assoc (a b c : Int) : firstC a (firstC b c) = firstC (firstC a b) c := by unfold firstC; split <;> simp_all
set_option maxRecDepth 100000 in
set_option maxHeartbeats 1000000 in
theorem stp_CmpS (s t : Sv) (w : World) :
 Calls Tryz.prog 63 #[.agg #[.int .i64 s.g, .int .i64 s.r, .string s.l, .int .i64 s.n, .int .i64 s.i], .agg #[.int .i64 t.g, .int .i64 t.r, .string t.l, .int .i64 t.n, .int .i64 t.i]] w fun e w' => e = .returned (.int .i64 (svC s t)) ∧ Grw w w' := by
 have HV : Hid (firstC (numC s.g t.g) (firstC (nmC s.r s.l s.n t.r t.l t.n) (numC s.i t.i)) = svC s t) := Lib.hid (by unfold svC; rw [firstC_assoc])
 have HR : Hid (s = t → svC s t = 0) := Lib.hid (fun e => by rw [e]; exact svC_refl t)
 have EN := fun W => sv_eql s t W
 obtain ⟨d, hd⟩ : ∃ d, decide (s = t) = d := ⟨_, rfl⟩
 rw [hd] at EN
 have HD := Lib.hid hd
 clear hd
 obtain ⟨g1, r1, l1, n1, i1⟩ := s
 obtain ⟨g2, r2, l2, n2, i2⟩ := t
 simp only at HV EN ⊢
 go_enter Tryz.func63, Tryz.ntmps63
 go_upto_region 1 with (fail)
 have GW : Hid (Grw w ((w.alloc (.cells #[.int .i64 g1, .int .i64 r1, .string l1, .int .i64 n1, .int .i64 i1] 43)).alloc (.cells #[.int .i64 g2, .int .i64 r2, .string l2, .int .i64 n2, .int .i64 i2] 43))) := Lib.hid (((Grw.refl w).alloc _).alloc _)
 have x1 := boxStays (heap_alloc_new w (.cells #[.int .i64 g1, .int .i64 r1, .string l1, .int .i64 n1, .int .i64 i1] 43)) (below_new _ (.cells #[.int .i64 g2, .int .i64 r2, .string l2, .int .i64 n2, .int .i64 i2] 43))
 have x2 := heap_alloc_new (w.alloc (.cells #[.int .i64 g1, .int .i64 r1, .string l1, .int .i64 n1, .int .i64 i1] 43)) (.cells #[.int .i64 g2, .int .i64 r2, .string l2, .int .i64 n2, .int .i64 i2] 43)
 rw [World.size_alloc] at x2
 have X1 := Lib.hid x1
 have X2 := Lib.hid x2
 clear x1 x2
 generalize (w.alloc (.cells #[.int .i64 g1, .int .i64 r1, .string l1, .int .i64 n1, .int .i64 i1] 43)).alloc (.cells #[.int .i64 g2, .int .i64 r2, .string l2, .int .i64 n2, .int .i64 i2] 43) = w1 at *
 have k0 := cell_of_row _ _ 0 _ _ _ X1.out
 have k1 := cell_of_row _ _ 1 _ _ _ X1.out
 have k2 := cell_of_row _ _ 2 _ _ _ X1.out
 have k3 := cell_of_row _ _ 3 _ _ _ X1.out
 have k4 := cell_of_row _ _ 4 _ _ _ X1.out
 have q0 := cell_of_row _ _ 0 _ _ _ X2.out
 have q1 := cell_of_row _ _ 1 _ _ _ X2.out
 have q2 := cell_of_row _ _ 2 _ _ _ X2.out
 have q3 := cell_of_row _ _ 3 _ _ _ X2.out
 have q4 := cell_of_row _ _ 4 _ _ _ X2.out
 cases d
 case true =>
  have hz : svC ⟨g1, r1, l1, n1, i1⟩ ⟨g2, r2, l2, n2, i2⟩ = 0 := HR.out (of_decide_eq_true HD.out)
  have HZ := Lib.hid hz
  clear hz
  go_wp2_with fail
  go_ret
  exact ⟨by rw [HZ.out]; rfl, GW.out⟩
 go_upto_region 3 with (fail)
 clear k0 k1 k2 k3 k4 q0 q1 q2 q3 q4 EN
 refine wp_region_noPanic ?_
 refine wp_region_held_drew (S := fun w' => Grw w1 w') (by kernel_rfl) (Grw.refl _).drew (fun hS => ?_)
 refine wpAnyH_take (i := 0) (oi := ⟨some 8, _, _, _, _, _⟩) (v := ?_) rfl (by kernel_rfl) (by kernel_rfl) (by kernel_rfl) (fun _ _ _ h => h) (Or.inl ⟨by rfl, ?_⟩) hS ?_
 rotate_left 1
 · intro w' hB; have h1 := boxStays X1.out hB.below; have h2 := boxStays X2.out hB.below; have k0 := cell_of_row _ _ 0 _ _ _ h1; have k1 := cell_of_row _ _ 1 _ _ _ h1; have k2 := cell_of_row _ _ 2 _ _ _ h1; have k3 := cell_of_row _ _ 3 _ _ _ h1; have k4 := cell_of_row _ _ 4 _ _ _ h1; have q0 := cell_of_row _ _ 0 _ _ _ h2; have q1 := cell_of_row _ _ 1 _ _ _ h2; have q2 := cell_of_row _ _ 2 _ _ _ h2; have q3 := cell_of_row _ _ 3 _ _ _ h2; have q4 := cell_of_row _ _ 4 _ _ _ h2; clear h1 h2; (go_simp <;> with_reducible rfl)
 try simp only [Act.put, List.setIfInBounds_toArray, List.set_cons_zero, List.set_cons_succ]
 refine wpAnyH_take (i := 1) (oi := ⟨some 9, _, _, _, _, _⟩) (v := ?_) rfl (by kernel_rfl) (by kernel_rfl) (by kernel_rfl) (fun _ _ _ h => h) (Or.inl ⟨by rfl, ?_⟩) hS ?_
 rotate_left 1
 · intro w' hB; have h1 := boxStays X1.out hB.below; have h2 := boxStays X2.out hB.below; have k0 := cell_of_row _ _ 0 _ _ _ h1; have k1 := cell_of_row _ _ 1 _ _ _ h1; have k2 := cell_of_row _ _ 2 _ _ _ h1; have k3 := cell_of_row _ _ 3 _ _ _ h1; have k4 := cell_of_row _ _ 4 _ _ _ h1; have q0 := cell_of_row _ _ 0 _ _ _ h2; have q1 := cell_of_row _ _ 1 _ _ _ h2; have q2 := cell_of_row _ _ 2 _ _ _ h2; have q3 := cell_of_row _ _ 3 _ _ _ h2; have q4 := cell_of_row _ _ 4 _ _ _ h2; clear h1 h2; (go_simp <;> with_reducible rfl)
 try simp only [Act.put, List.setIfInBounds_toArray, List.set_cons_zero, List.set_cons_succ]
 refine wpAnyH_take (i := 2) (oi := ⟨some 10, _, _, _, _, _⟩) (v := ?_) rfl (by kernel_rfl) (by kernel_rfl) (by kernel_rfl) (fun _ _ _ h => h) (Or.inl ⟨by rfl, ?_⟩) hS ?_
 rotate_left 1
 · intro w' hB; have h1 := boxStays X1.out hB.below; have h2 := boxStays X2.out hB.below; have k0 := cell_of_row _ _ 0 _ _ _ h1; have k1 := cell_of_row _ _ 1 _ _ _ h1; have k2 := cell_of_row _ _ 2 _ _ _ h1; have k3 := cell_of_row _ _ 3 _ _ _ h1; have k4 := cell_of_row _ _ 4 _ _ _ h1; have q0 := cell_of_row _ _ 0 _ _ _ h2; have q1 := cell_of_row _ _ 1 _ _ _ h2; have q2 := cell_of_row _ _ 2 _ _ _ h2; have q3 := cell_of_row _ _ 3 _ _ _ h2; have q4 := cell_of_row _ _ 4 _ _ _ h2; clear h1 h2; (go_simp <;> with_reducible rfl)
 try simp only [Act.put, List.setIfInBounds_toArray, List.set_cons_zero, List.set_cons_succ]
 refine wpAnyH_take (i := 3) (oi := ⟨some 11, _, _, _, _, _⟩) (v := ?_) rfl (by kernel_rfl) (by kernel_rfl) (by kernel_rfl) (fun _ _ _ h => h) (Or.inl ⟨by rfl, ?_⟩) hS ?_
 rotate_left 1
 · intro w' hB; have h1 := boxStays X1.out hB.below; have h2 := boxStays X2.out hB.below; have k0 := cell_of_row _ _ 0 _ _ _ h1; have k1 := cell_of_row _ _ 1 _ _ _ h1; have k2 := cell_of_row _ _ 2 _ _ _ h1; have k3 := cell_of_row _ _ 3 _ _ _ h1; have k4 := cell_of_row _ _ 4 _ _ _ h1; have q0 := cell_of_row _ _ 0 _ _ _ h2; have q1 := cell_of_row _ _ 1 _ _ _ h2; have q2 := cell_of_row _ _ 2 _ _ _ h2; have q3 := cell_of_row _ _ 3 _ _ _ h2; have q4 := cell_of_row _ _ 4 _ _ _ h2; clear h1 h2; (go_simp <;> with_reducible rfl)
 try simp only [Act.put, List.setIfInBounds_toArray, List.set_cons_zero, List.set_cons_succ]
 refine wpAnyH_take (i := 5) (oi := ⟨some 13, _, _, _, _, _⟩) (v := ?_) rfl (by kernel_rfl) (by kernel_rfl) (by kernel_rfl) (fun _ _ _ h => h) (Or.inl ⟨by rfl, ?_⟩) hS ?_
 rotate_left 1
 · intro w' hB; have h1 := boxStays X1.out hB.below; have h2 := boxStays X2.out hB.below; have k0 := cell_of_row _ _ 0 _ _ _ h1; have k1 := cell_of_row _ _ 1 _ _ _ h1; have k2 := cell_of_row _ _ 2 _ _ _ h1; have k3 := cell_of_row _ _ 3 _ _ _ h1; have k4 := cell_of_row _ _ 4 _ _ _ h1; have q0 := cell_of_row _ _ 0 _ _ _ h2; have q1 := cell_of_row _ _ 1 _ _ _ h2; have q2 := cell_of_row _ _ 2 _ _ _ h2; have q3 := cell_of_row _ _ 3 _ _ _ h2; have q4 := cell_of_row _ _ 4 _ _ _ h2; clear h1 h2; (go_simp <;> with_reducible rfl)
 try simp only [Act.put, List.setIfInBounds_toArray, List.set_cons_zero, List.set_cons_succ]
 refine wpAnyH_take (i := 6) (oi := ⟨some 14, _, _, _, _, _⟩) (v := ?_) rfl (by kernel_rfl) (by kernel_rfl) (by kernel_rfl) (fun _ _ _ h => h) (Or.inl ⟨by rfl, ?_⟩) hS ?_
 rotate_left 1
 · intro w' hB; have h1 := boxStays X1.out hB.below; have h2 := boxStays X2.out hB.below; have k0 := cell_of_row _ _ 0 _ _ _ h1; have k1 := cell_of_row _ _ 1 _ _ _ h1; have k2 := cell_of_row _ _ 2 _ _ _ h1; have k3 := cell_of_row _ _ 3 _ _ _ h1; have k4 := cell_of_row _ _ 4 _ _ _ h1; have q0 := cell_of_row _ _ 0 _ _ _ h2; have q1 := cell_of_row _ _ 1 _ _ _ h2; have q2 := cell_of_row _ _ 2 _ _ _ h2; have q3 := cell_of_row _ _ 3 _ _ _ h2; have q4 := cell_of_row _ _ 4 _ _ _ h2; clear h1 h2; (go_simp <;> with_reducible rfl)
 try simp only [Act.put, List.setIfInBounds_toArray, List.set_cons_zero, List.set_cons_succ]
 refine wpAnyH_take (i := 7) (oi := ⟨some 15, _, _, _, _, _⟩) (v := ?_) rfl (by kernel_rfl) (by kernel_rfl) (by kernel_rfl) (fun _ _ _ h => h) (Or.inl ⟨by rfl, ?_⟩) hS ?_
 rotate_left 1
 · intro w' hB; have h1 := boxStays X1.out hB.below; have h2 := boxStays X2.out hB.below; have k0 := cell_of_row _ _ 0 _ _ _ h1; have k1 := cell_of_row _ _ 1 _ _ _ h1; have k2 := cell_of_row _ _ 2 _ _ _ h1; have k3 := cell_of_row _ _ 3 _ _ _ h1; have k4 := cell_of_row _ _ 4 _ _ _ h1; have q0 := cell_of_row _ _ 0 _ _ _ h2; have q1 := cell_of_row _ _ 1 _ _ _ h2; have q2 := cell_of_row _ _ 2 _ _ _ h2; have q3 := cell_of_row _ _ 3 _ _ _ h2; have q4 := cell_of_row _ _ 4 _ _ _ h2; clear h1 h2; (go_simp <;> with_reducible rfl)
 try simp only [Act.put, List.setIfInBounds_toArray, List.set_cons_zero, List.set_cons_succ]
 refine wpAnyH_take (i := 8) (oi := ⟨some 16, _, _, _, _, _⟩) (v := ?_) rfl (by kernel_rfl) (by kernel_rfl) (by kernel_rfl) (fun _ _ _ h => h) (Or.inl ⟨by rfl, ?_⟩) hS ?_
 rotate_left 1
 · intro w' hB; have h1 := boxStays X1.out hB.below; have h2 := boxStays X2.out hB.below; have k0 := cell_of_row _ _ 0 _ _ _ h1; have k1 := cell_of_row _ _ 1 _ _ _ h1; have k2 := cell_of_row _ _ 2 _ _ _ h1; have k3 := cell_of_row _ _ 3 _ _ _ h1; have k4 := cell_of_row _ _ 4 _ _ _ h1; have q0 := cell_of_row _ _ 0 _ _ _ h2; have q1 := cell_of_row _ _ 1 _ _ _ h2; have q2 := cell_of_row _ _ 2 _ _ _ h2; have q3 := cell_of_row _ _ 3 _ _ _ h2; have q4 := cell_of_row _ _ 4 _ _ _ h2; clear h1 h2; (go_simp <;> with_reducible rfl)
 try simp only [Act.put, List.setIfInBounds_toArray, List.set_cons_zero, List.set_cons_succ]
 refine wpAnyH_take (i := 10) (oi := ⟨some 18, _, _, _, _, _⟩) (v := ?_) rfl (by kernel_rfl) (by kernel_rfl) (by kernel_rfl) (fun _ _ _ h => h) (Or.inl ⟨by rfl, ?_⟩) hS ?_
 rotate_left 1
 · intro w' hB; have h1 := boxStays X1.out hB.below; have h2 := boxStays X2.out hB.below; have k0 := cell_of_row _ _ 0 _ _ _ h1; have k1 := cell_of_row _ _ 1 _ _ _ h1; have k2 := cell_of_row _ _ 2 _ _ _ h1; have k3 := cell_of_row _ _ 3 _ _ _ h1; have k4 := cell_of_row _ _ 4 _ _ _ h1; have q0 := cell_of_row _ _ 0 _ _ _ h2; have q1 := cell_of_row _ _ 1 _ _ _ h2; have q2 := cell_of_row _ _ 2 _ _ _ h2; have q3 := cell_of_row _ _ 3 _ _ _ h2; have q4 := cell_of_row _ _ 4 _ _ _ h2; clear h1 h2; (go_simp <;> with_reducible rfl)
 try simp only [Act.put, List.setIfInBounds_toArray, List.set_cons_zero, List.set_cons_succ]
 refine wpAnyH_take (i := 11) (oi := ⟨some 19, _, _, _, _, _⟩) (v := ?_) rfl (by kernel_rfl) (by kernel_rfl) (by kernel_rfl) (fun _ _ _ h => h) (Or.inl ⟨by rfl, ?_⟩) hS ?_
 rotate_left 1
 · intro w' hB; have h1 := boxStays X1.out hB.below; have h2 := boxStays X2.out hB.below; have k0 := cell_of_row _ _ 0 _ _ _ h1; have k1 := cell_of_row _ _ 1 _ _ _ h1; have k2 := cell_of_row _ _ 2 _ _ _ h1; have k3 := cell_of_row _ _ 3 _ _ _ h1; have k4 := cell_of_row _ _ 4 _ _ _ h1; have q0 := cell_of_row _ _ 0 _ _ _ h2; have q1 := cell_of_row _ _ 1 _ _ _ h2; have q2 := cell_of_row _ _ 2 _ _ _ h2; have q3 := cell_of_row _ _ 3 _ _ _ h2; have q4 := cell_of_row _ _ 4 _ _ _ h2; clear h1 h2; (go_simp <;> with_reducible rfl)
 try simp only [Act.put, List.setIfInBounds_toArray, List.set_cons_zero, List.set_cons_succ]
 refine wpAnyH_take (i := 12) (oi := ⟨some 20, _, _, _, _, _⟩) (v := ?_) rfl (by kernel_rfl) (by kernel_rfl) (by kernel_rfl) (fun _ _ _ h => h) (Or.inl ⟨by rfl, ?_⟩) hS ?_
 rotate_left 1
 · intro w' hB; have h1 := boxStays X1.out hB.below; have h2 := boxStays X2.out hB.below; have k0 := cell_of_row _ _ 0 _ _ _ h1; have k1 := cell_of_row _ _ 1 _ _ _ h1; have k2 := cell_of_row _ _ 2 _ _ _ h1; have k3 := cell_of_row _ _ 3 _ _ _ h1; have k4 := cell_of_row _ _ 4 _ _ _ h1; have q0 := cell_of_row _ _ 0 _ _ _ h2; have q1 := cell_of_row _ _ 1 _ _ _ h2; have q2 := cell_of_row _ _ 2 _ _ _ h2; have q3 := cell_of_row _ _ 3 _ _ _ h2; have q4 := cell_of_row _ _ 4 _ _ _ h2; clear h1 h2; (go_simp <;> with_reducible rfl)
 try simp only [Act.put, List.setIfInBounds_toArray, List.set_cons_zero, List.set_cons_succ]
 refine wpAnyH_take (i := 13) (oi := ⟨some 21, _, _, _, _, _⟩) (v := ?_) rfl (by kernel_rfl) (by kernel_rfl) (by kernel_rfl) (fun _ _ _ h => h) (Or.inl ⟨by rfl, ?_⟩) hS ?_
 rotate_left 1
 · intro w' hB; have h1 := boxStays X1.out hB.below; have h2 := boxStays X2.out hB.below; have k0 := cell_of_row _ _ 0 _ _ _ h1; have k1 := cell_of_row _ _ 1 _ _ _ h1; have k2 := cell_of_row _ _ 2 _ _ _ h1; have k3 := cell_of_row _ _ 3 _ _ _ h1; have k4 := cell_of_row _ _ 4 _ _ _ h1; have q0 := cell_of_row _ _ 0 _ _ _ h2; have q1 := cell_of_row _ _ 1 _ _ _ h2; have q2 := cell_of_row _ _ 2 _ _ _ h2; have q3 := cell_of_row _ _ 3 _ _ _ h2; have q4 := cell_of_row _ _ 4 _ _ _ h2; clear h1 h2; (go_simp <;> with_reducible rfl)
 try simp only [Act.put, List.setIfInBounds_toArray, List.set_cons_zero, List.set_cons_succ]
 refine wpAnyH_ready (rs := [4]) (by kernel_rfl) (by simp) (AllReadyH.cons (o := ⟨some 12, _, _, _, _, _⟩) rfl (fun K hK => ?_) AllReadyH.nil)
 go_simp
 refine (stp_number g1 g2 _).mono ?_
 rintro e w2 ⟨rfl, hb⟩
 refine hK.out _ _ (hS.trans (hb)) (fun _ => ?_)
 clear hK K
 replace hS := hS.trans (hb)
 clear hb
 try simp only [Act.put, List.setIfInBounds_toArray, List.set_cons_zero, List.set_cons_succ]
 refine wpAnyH_ready (rs := [9]) (by kernel_rfl) (by simp) (AllReadyH.cons (o := ⟨some 17, _, _, _, _, _⟩) rfl (fun K hK => ?_) AllReadyH.nil)
 go_simp
 refine (stp_CmpName r1 l1 n1 r2 l2 n2 _).mono ?_
 rintro e w3 ⟨rfl, hb⟩
 refine hK.out _ _ (hS.trans (hb)) (fun _ => ?_)
 clear hK K
 replace hS := hS.trans (hb)
 clear hb
 try simp only [Act.put, List.setIfInBounds_toArray, List.set_cons_zero, List.set_cons_succ]
 refine wpAnyH_ready (rs := [14]) (by kernel_rfl) (by simp) (AllReadyH.cons (o := ⟨some 22, _, _, _, _, _⟩) rfl (fun K hK => ?_) AllReadyH.nil)
 go_simp
 refine (stp_number i1 i2 _).mono ?_
 rintro e w4 ⟨rfl, hb⟩
 refine hK.out _ _ (hS.trans (hb)) (fun _ => ?_)
 clear hK K
 replace hS := hS.trans (hb)
 clear hb
 try simp only [Act.put, List.setIfInBounds_toArray, List.set_cons_zero, List.set_cons_succ]
 refine wpAnyH_take (i := 15) (oi := ⟨some 23, _, _, _, _, _⟩) (v := ?_) rfl (by kernel_rfl) (by kernel_rfl) (by kernel_rfl) (fun _ _ _ h => h) (Or.inl ⟨by rfl, ?_⟩) hS ?_
 rotate_left 1
 · intro w' hB; have h1 := boxStays X1.out hB.below; have h2 := boxStays X2.out hB.below; have k0 := cell_of_row _ _ 0 _ _ _ h1; have k1 := cell_of_row _ _ 1 _ _ _ h1; have k2 := cell_of_row _ _ 2 _ _ _ h1; have k3 := cell_of_row _ _ 3 _ _ _ h1; have k4 := cell_of_row _ _ 4 _ _ _ h1; have q0 := cell_of_row _ _ 0 _ _ _ h2; have q1 := cell_of_row _ _ 1 _ _ _ h2; have q2 := cell_of_row _ _ 2 _ _ _ h2; have q3 := cell_of_row _ _ 3 _ _ _ h2; have q4 := cell_of_row _ _ 4 _ _ _ h2; clear h1 h2; (go_simp <;> with_reducible rfl)
 try simp only [Act.put, List.setIfInBounds_toArray, List.set_cons_zero, List.set_cons_succ]
 refine wpAnyH_ready (rs := [16]) (by kernel_rfl) (by simp) (AllReadyH.cons (o := ⟨some 24, _, _, _, _, _⟩) rfl (fun K hK => ?_) AllReadyH.nil)
 go_simp
 refine (stp_first (numC g1 g2) (nmC r1 l1 n1 r2 l2 n2) (numC i1 i2) _).mono ?_
 rintro e w5 ⟨rfl, hb⟩
 refine hK.out _ _ (hS.trans (hb)) (fun _ => ?_)
 clear hK K
 replace hS := hS.trans (hb)
 clear hb
 try simp only [Act.put, List.setIfInBounds_toArray, List.set_cons_zero, List.set_cons_succ]
 refine wpAnyH_take (i := 17) (oi := ⟨some 4, _, _, _, _, _⟩) (v := ?_) rfl (by kernel_rfl) (by kernel_rfl) (by kernel_rfl) (fun _ _ _ h => h) (Or.inl ⟨by rfl, ?_⟩) hS ?_
 rotate_left 1
 · intro w' hB; have h1 := boxStays X1.out hB.below; have h2 := boxStays X2.out hB.below; have k0 := cell_of_row _ _ 0 _ _ _ h1; have k1 := cell_of_row _ _ 1 _ _ _ h1; have k2 := cell_of_row _ _ 2 _ _ _ h1; have k3 := cell_of_row _ _ 3 _ _ _ h1; have k4 := cell_of_row _ _ 4 _ _ _ h1; have q0 := cell_of_row _ _ 0 _ _ _ h2; have q1 := cell_of_row _ _ 1 _ _ _ h2; have q2 := cell_of_row _ _ 2 _ _ _ h2; have q3 := cell_of_row _ _ 3 _ _ _ h2; have q4 := cell_of_row _ _ 4 _ _ _ h2; clear h1 h2; (go_simp <;> with_reducible rfl)
 try simp only [Act.put, List.setIfInBounds_toArray, List.set_cons_zero, List.set_cons_succ]
 refine wpAnyH_done (by kernel_rfl) (NoPanic.normal ?_) _
 have HS := Lib.hid (GW.out.trans hS)
 clear hS
 go_wp2_with fail
 go_ret
 exact ⟨by rw [← HV.out]; rfl, HS.out⟩
theorem stp_Cmp (s t : Sv) (w : World) :
 Calls Tryz.prog 63 #[.agg #[.int .i64 s.g, .int .i64 s.r, .string s.l, .int .i64 s.n, .int .i64 s.i], .agg #[.int .i64 t.g, .int .i64 t.r, .string t.l, .int .i64 t.n, .int .i64 t.i]] w fun e w' => e = .returned (.int .i64 (svC s t)) ∧ Below w.heap.size w w' := (stp_CmpS s t w).mono fun _ _ ⟨h1, h2⟩ => ⟨h1, h2.below⟩
end Go.Proofs.YtjlliohjeiclaaaGreatDoor
namespace Go.Proofs.YtjlliohjeiclaaaGreatDoor
namespace St
open Pm
theorem numC_neg (a b : Int) : numC b a = - numC a b := by
 unfold numC
 split <;> split <;> first | omega | (split <;> omega) | skip
theorem txtC_neg (a b : ByteArray) : txtC b a = - txtC a b := by
 unfold txtC
 cases h : klt a b with
 | true => rw [klt_asymm h]; simp
 | false => cases h' : klt b a <;> simp
theorem firstC_neg (a b : Int) : firstC (-a) (-b) = - firstC a b := by
 unfold firstC
 by_cases h : a = 0
 · rw [if_pos (by omega), if_pos h]
 · rw [if_neg (by omega), if_neg h]
theorem svC_neg (s t : Sv) : svC t s = - svC s t := by
 unfold svC nmC brC
 rw [numC_neg s.g t.g, numC_neg s.r t.r, txtC_neg s.l t.l, numC_neg s.n t.n, numC_neg s.i t.i, firstC_neg, firstC_neg, firstC_neg, firstC_neg]
theorem left_start (A B : List El) : Left A B A B := ⟨⟨[], rfl, fun x hx => by cases hx⟩, ⟨[], rfl, fun x hx => by cases hx⟩⟩
section
variable {A B a b : List El} {x y : El}
end
end St
end Go.Proofs.YtjlliohjeiclaaaGreatDoor
