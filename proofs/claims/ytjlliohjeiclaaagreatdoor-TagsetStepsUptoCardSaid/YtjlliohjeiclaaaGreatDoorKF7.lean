/- Words, contracts and walks that the proof stands on (StC GrowN GrowM StbU KyM). -/
import Derived.Deep.MidRow
import Derived.Lib.SliceRun
import Derived.Test.YtjlliohjeiclaaaGreatDoorKF1
import Derived.Test.YtjlliohjeiclaaaGreatDoorKF4
import Derived.Test.YtjlliohjeiclaaaGreatDoorKF5
import Derived.Test.YtjlliohjeiclaaaGreatDoorKF6
namespace Go.Proofs.YtjlliohjeiclaaaGreatDoor
open Go.RowKit St Pm Ku Kn
theorem key_CmpW (a b : ByteArray) (w : World) : Calls Tryz.prog 180 #[.string a, .string b] w fun e w' => e = .returned (.int .i64 (txtC a b)) ∧ Grw w w' := by
 go_enter Tryz.func180, Tryz.ntmps180
 go_wp2_with fail
 refine (ks_Compare a b w).mono ?_
 rintro e _ ⟨rfl, rfl⟩
 go_wp2_with fail
 go_ret
 rw [cmpB_txt]
 exact ⟨rfl, Grw.refl _⟩
theorem stp_number (a b : Int) (w : World) : Calls Tryz.prog 107 #[.int .i64 a, .int .i64 b] w fun e w' => e = .returned (.int .i64 (numC a b)) ∧ Grw w w' := by
 rcases (by omega : a < b ∨ b < a ∨ a = b) with h | h | h
 · rw [numC_lt h]
   go_enter Tryz.func107, Tryz.ntmps107
   go_wp2
   go_ret
   exact ⟨rfl, Grw.refl _⟩
 · rw [numC_gt h]
   have h2 : ¬ a < b := by omega
   go_enter Tryz.func107, Tryz.ntmps107
   go_wp2
   go_ret
   exact ⟨rfl, Grw.refl _⟩
 · subst h
   rw [numC_eq rfl]
   have h2 : ¬ a < a := by omega
   go_enter Tryz.func107, Tryz.ntmps107
   go_wp2
   go_ret
   exact ⟨rfl, Grw.refl _⟩
set_option maxRecDepth 100000 in
theorem stp_first (x y z : Int) (w : World) : Calls Tryz.prog 106 #[.agg #[.int .i64 x, .int .i64 y, .int .i64 z]] w fun e w' => e = .returned (.int .i64 (firstC x (firstC y z))) ∧ Grw w w' := by
 have i0 : ∀ W, (Instr.index 163 (.agg #[.int .i64 x, .int .i64 y, .int .i64 z]) (.int .i64 0)).run Tryz.prog W = .ok (.int .i64 x) W := fun W => by kernel_rfl
 have i1 : ∀ W, (Instr.index 163 (.agg #[.int .i64 x, .int .i64 y, .int .i64 z]) (.int .i64 1)).run Tryz.prog W = .ok (.int .i64 y) W := fun W => by kernel_rfl
 have i2 : ∀ W, (Instr.index 163 (.agg #[.int .i64 x, .int .i64 y, .int .i64 z]) (.int .i64 2)).run Tryz.prog W = .ok (.int .i64 z) W := fun W => by kernel_rfl
 obtain ⟨re, hre⟩ : ∃ r, firstC x (firstC y z) = r := ⟨_, rfl⟩
 have RE := Lib.hid hre
 rw [hre]
 clear hre
 go_enter Tryz.func106, Tryz.ntmps106
 go_upto_region 1 with (fail)
 go_step3
 go_wp2_with fail
 go_step3
 go_wp2_with fail
 have HG : Hid (Grw w (w.alloc (.cells #[.int .i64 x, .int .i64 y, .int .i64 z] 163))) := Lib.hid ((Grw.refl w).alloc _)
 generalize w.alloc (.cells #[.int .i64 x, .int .i64 y, .int .i64 z] 163) = w1 at *
 go_loopw [3, 5, 7] (fun o _ i wr => ∃ j : Nat, o = .int .i64 0 ∧ i = .int .i64 (j : Int) ∧ w1 = wr ∧ ((j = 0 ∧ Hid (firstC x (firstC y z) = re)) ∨ (j = 1 ∧ Hid (firstC y z = re)) ∨ (j = 2 ∧ Hid (z = re)) ∨ (j = 3 ∧ Hid ((0 : Int) = re)))) (fun _ _ i _ => 3 - (intOf i).toNat)
 case atStart => exact ⟨0, rfl, rfl, rfl, .inl ⟨rfl, RE⟩⟩
 case round =>
  obtain ⟨j, rfl, rfl, rfl, hj⟩ := hrel
  clear RE
  rcases hj with ⟨rfl, RE⟩ | ⟨rfl, RE⟩ | ⟨rfl, RE⟩ | ⟨rfl, RE⟩
  · by_cases hx : x = 0
    · subst hx
      go_wp2_with fail
      go_roundw
      case rel => exact ⟨1, rfl, rfl, by first | trivial | rfl, .inr (.inl ⟨rfl, RE⟩)⟩
      case measure => simp [intOf]
    · have hb : (x == 0) = false := by simpa using hx
      obtain rfl : x = re := by rw [← RE.out]; unfold firstC; rw [if_neg hx]
      go_wp2_with fail
      try rw [Exit.noGoto_ret]
      go_ret
      exact ⟨rfl, HG.out⟩
  · by_cases hx : y = 0
    · subst hx
      go_wp2_with fail
      go_roundw
      case rel => exact ⟨2, rfl, rfl, by first | trivial | rfl, .inr (.inr (.inl ⟨rfl, RE⟩))⟩
      case measure => simp [intOf]
    · have hb : (y == 0) = false := by simpa using hx
      obtain rfl : y = re := by rw [← RE.out]; unfold firstC; rw [if_neg hx]
      go_wp2_with fail
      try rw [Exit.noGoto_ret]
      go_ret
      exact ⟨rfl, HG.out⟩
  · by_cases hx : z = 0
    · subst hx
      go_wp2_with fail
      go_roundw
      case rel => exact ⟨3, rfl, rfl, by first | trivial | rfl, .inr (.inr (.inr ⟨rfl, RE⟩))⟩
      case measure => simp [intOf]
    · have hb : (z == 0) = false := by simpa using hx
      obtain rfl : z = re := RE.out
      go_wp2_with fail
      try rw [Exit.noGoto_ret]
      go_ret
      exact ⟨rfl, HG.out⟩
  · obtain rfl : (0 : Int) = re := RE.out
    go_wp2_with fail
    try rw [Exit.noGoto_ret]
    go_ret
    exact ⟨rfl, HG.out⟩
set_option maxRecDepth 100000 in
set_option maxHeartbeats 1000000 in
theorem stp_CmpBranch (r1 : Int) (l1 : ByteArray) (r2 : Int) (l2 : ByteArray) (w : World) :
 Calls Tryz.prog 140 #[.agg #[.int .i64 r1, .string l1], .agg #[.int .i64 r2, .string l2]] w fun e w' => e = .returned (.int .i64 (brC r1 l1 r2 l2)) ∧ Grw w w' := by
 have HV : Hid (firstC (numC r1 r2) (firstC (txtC l1 l2) 0) = brC r1 l1 r2 l2) := Lib.hid (by unfold brC; congr 1; unfold firstC; split <;> simp_all)
 go_enter Tryz.func140, Tryz.ntmps140
 go_upto_region 1 with (fail)
 have GW : Hid (Grw w ((w.alloc (.cells #[.int .i64 r1, .string l1] 39)).alloc (.cells #[.int .i64 r2, .string l2] 39))) := Lib.hid (((Grw.refl w).alloc _).alloc _)
 have x1 := boxStays (heap_alloc_new w (.cells #[.int .i64 r1, .string l1] 39)) (below_new _ (.cells #[.int .i64 r2, .string l2] 39))
 have x2 := heap_alloc_new (w.alloc (.cells #[.int .i64 r1, .string l1] 39)) (.cells #[.int .i64 r2, .string l2] 39)
 rw [World.size_alloc] at x2
 have X1 := Lib.hid x1
 have X2 := Lib.hid x2
 clear x1 x2
 generalize (w.alloc (.cells #[.int .i64 r1, .string l1] 39)).alloc (.cells #[.int .i64 r2, .string l2] 39) = w1 at *
 refine wp_region_noPanic ?_
 refine wp_region_held_drew (S := fun w' => Grw w1 w') (by kernel_rfl) (Grw.refl _).drew (fun hS => ?_)
 refine tk (i := 0) (oi := ⟨some 5, _, _, _, _, _⟩) (v := ?_) rfl (Or.inl ⟨by rfl, ?_⟩) hS ?_
 rotate_left 1
 · intro w' hB; (go_simp <;> with_reducible rfl)
 try simp only [Act.put, zA, zB, zC]
 refine tk (i := 1) (oi := ⟨some 6, _, _, _, _, _⟩) (v := ?_) rfl (Or.inl ⟨by rfl, ?_⟩) hS ?_
 rotate_left 1
 · intro w' hB; have h1 := boxStays X1.out hB.below; have h2 := boxStays X2.out hB.below; have k0 := cell_of_row _ _ 0 _ _ _ h1; have k1 := cell_of_row _ _ 1 _ _ _ h1; have q0 := cell_of_row _ _ 0 _ _ _ h2; have q1 := cell_of_row _ _ 1 _ _ _ h2; clear h1 h2; (go_simp <;> with_reducible rfl)
 try simp only [Act.put, zA, zB, zC]
 refine tk (i := 2) (oi := ⟨some 7, _, _, _, _, _⟩) (v := ?_) rfl (Or.inl ⟨by rfl, ?_⟩) hS ?_
 rotate_left 1
 · intro w' hB; (go_simp <;> with_reducible rfl)
 try simp only [Act.put, zA, zB, zC]
 refine tk (i := 3) (oi := ⟨some 8, _, _, _, _, _⟩) (v := ?_) rfl (Or.inl ⟨by rfl, ?_⟩) hS ?_
 rotate_left 1
 · intro w' hB; have h1 := boxStays X1.out hB.below; have h2 := boxStays X2.out hB.below; have k0 := cell_of_row _ _ 0 _ _ _ h1; have k1 := cell_of_row _ _ 1 _ _ _ h1; have q0 := cell_of_row _ _ 0 _ _ _ h2; have q1 := cell_of_row _ _ 1 _ _ _ h2; clear h1 h2; (go_simp <;> with_reducible rfl)
 try simp only [Act.put, zA, zB, zC]
 refine tk (i := 5) (oi := ⟨some 10, _, _, _, _, _⟩) (v := ?_) rfl (Or.inl ⟨by rfl, ?_⟩) hS ?_
 rotate_left 1
 · intro w' hB; (go_simp <;> with_reducible rfl)
 try simp only [Act.put, zA, zB, zC]
 refine tk (i := 6) (oi := ⟨some 11, _, _, _, _, _⟩) (v := ?_) rfl (Or.inl ⟨by rfl, ?_⟩) hS ?_
 rotate_left 1
 · intro w' hB; have h1 := boxStays X1.out hB.below; have h2 := boxStays X2.out hB.below; have k0 := cell_of_row _ _ 0 _ _ _ h1; have k1 := cell_of_row _ _ 1 _ _ _ h1; have q0 := cell_of_row _ _ 0 _ _ _ h2; have q1 := cell_of_row _ _ 1 _ _ _ h2; clear h1 h2; (go_simp <;> with_reducible rfl)
 try simp only [Act.put, zA, zB, zC]
 refine tk (i := 7) (oi := ⟨some 12, _, _, _, _, _⟩) (v := ?_) rfl (Or.inl ⟨by rfl, ?_⟩) hS ?_
 rotate_left 1
 · intro w' hB; (go_simp <;> with_reducible rfl)
 try simp only [Act.put, zA, zB, zC]
 refine tk (i := 8) (oi := ⟨some 13, _, _, _, _, _⟩) (v := ?_) rfl (Or.inl ⟨by rfl, ?_⟩) hS ?_
 rotate_left 1
 · intro w' hB; have h1 := boxStays X1.out hB.below; have h2 := boxStays X2.out hB.below; have k0 := cell_of_row _ _ 0 _ _ _ h1; have k1 := cell_of_row _ _ 1 _ _ _ h1; have q0 := cell_of_row _ _ 0 _ _ _ h2; have q1 := cell_of_row _ _ 1 _ _ _ h2; clear h1 h2; (go_simp <;> with_reducible rfl)
 try simp only [Act.put, zA, zB, zC]
 refine wpAnyH_ready (rs := [4]) (by kernel_rfl) (by simp) (AllReadyH.cons (o := ⟨some 9, _, _, _, _, _⟩) rfl (fun K hK => ?_) AllReadyH.nil)
 go_simp
 refine (stp_number r1 r2 _).mono ?_
 rintro e w2 ⟨rfl, hb⟩
 refine hK.out _ _ (hS.trans (hb)) (fun _ => ?_)
 clear hK K
 replace hS := hS.trans (hb)
 clear hb
 try simp only [Act.put, zA, zB, zC]
 refine wpAnyH_ready (rs := [9]) (by kernel_rfl) (by simp) (AllReadyH.cons (o := ⟨some 14, _, _, _, _, _⟩) rfl (fun K hK => ?_) AllReadyH.nil)
 go_simp
 refine (key_CmpW l1 l2 _).mono ?_
 rintro e w3 ⟨rfl, hb⟩
 refine hK.out _ _ (hS.trans (hb)) (fun _ => ?_)
 clear hK K
 replace hS := hS.trans (hb)
 clear hb
 try simp only [Act.put, zA, zB, zC]
 refine tk (i := 10) (oi := ⟨some 15, _, _, _, _, _⟩) (v := ?_) rfl (Or.inl ⟨by rfl, ?_⟩) hS ?_
 rotate_left 1
 · intro w' hB; have h1 := boxStays X1.out hB.below; have h2 := boxStays X2.out hB.below; have k0 := cell_of_row _ _ 0 _ _ _ h1; have k1 := cell_of_row _ _ 1 _ _ _ h1; have q0 := cell_of_row _ _ 0 _ _ _ h2; have q1 := cell_of_row _ _ 1 _ _ _ h2; clear h1 h2; (go_simp <;> with_reducible rfl)
 try simp only [Act.put, zA, zB, zC]
 refine wpAnyH_ready (rs := [11]) (by kernel_rfl) (by simp) (AllReadyH.cons (o := ⟨some 16, _, _, _, _, _⟩) rfl (fun K hK => ?_) AllReadyH.nil)
 go_simp
 refine (stp_first (numC r1 r2) (txtC l1 l2) 0 _).mono ?_
 rintro e w4 ⟨rfl, hb⟩
 refine hK.out _ _ (hS.trans (hb)) (fun _ => ?_)
 clear hK K
 replace hS := hS.trans (hb)
 clear hb
 try simp only [Act.put, zA, zB, zC]
 refine tk (i := 12) (oi := ⟨some 4, _, _, _, _, _⟩) (v := ?_) rfl (Or.inl ⟨by rfl, ?_⟩) hS ?_
 rotate_left 1
 · intro w' hB; have h1 := boxStays X1.out hB.below; have h2 := boxStays X2.out hB.below; have k0 := cell_of_row _ _ 0 _ _ _ h1; have k1 := cell_of_row _ _ 1 _ _ _ h1; have q0 := cell_of_row _ _ 0 _ _ _ h2; have q1 := cell_of_row _ _ 1 _ _ _ h2; clear h1 h2; (go_simp <;> with_reducible rfl)
 try simp only [Act.put, zA, zB, zC]
 refine wpAnyH_done (by kernel_rfl) (NoPanic.normal ?_) _
 have HS := Lib.hid (GW.out.trans hS)
 clear hS
 go_wp2_with fail
 go_ret
 exact ⟨by rw [HV.out]; rfl, HS.out⟩
set_option maxRecDepth 100000 in
set_option maxHeartbeats 1000000 in
theorem stp_CmpName (r1 : Int) (l1 : ByteArray) (n1 : Int) (r2 : Int) (l2 : ByteArray) (n2 : Int) (w : World) :
 Calls Tryz.prog 108 #[.agg #[.int .i64 r1, .string l1, .int .i64 n1], .agg #[.int .i64 r2, .string l2, .int .i64 n2]] w fun e w' => e = .returned (.int .i64 (nmC r1 l1 n1 r2 l2 n2)) ∧ Grw w w' := by
 have HV : Hid (firstC (brC r1 l1 r2 l2) (firstC (numC n1 n2) 0) = nmC r1 l1 n1 r2 l2 n2) := Lib.hid (by unfold nmC; congr 1; unfold firstC; split <;> simp_all)
 go_enter Tryz.func108, Tryz.ntmps108
 go_upto_region 1 with (fail)
 have GW : Hid (Grw w ((w.alloc (.cells #[.int .i64 r1, .string l1, .int .i64 n1] 41)).alloc (.cells #[.int .i64 r2, .string l2, .int .i64 n2] 41))) := Lib.hid (((Grw.refl w).alloc _).alloc _)
 have x1 := boxStays (heap_alloc_new w (.cells #[.int .i64 r1, .string l1, .int .i64 n1] 41)) (below_new _ (.cells #[.int .i64 r2, .string l2, .int .i64 n2] 41))
 have x2 := heap_alloc_new (w.alloc (.cells #[.int .i64 r1, .string l1, .int .i64 n1] 41)) (.cells #[.int .i64 r2, .string l2, .int .i64 n2] 41)
 rw [World.size_alloc] at x2
 have X1 := Lib.hid x1
 have X2 := Lib.hid x2
 clear x1 x2
 generalize (w.alloc (.cells #[.int .i64 r1, .string l1, .int .i64 n1] 41)).alloc (.cells #[.int .i64 r2, .string l2, .int .i64 n2] 41) = w1 at *
 refine wp_region_noPanic ?_
 refine wp_region_held_drew (S := fun w' => Grw w1 w') (by kernel_rfl) (Grw.refl _).drew (fun hS => ?_)
 refine tk (i := 0) (oi := ⟨some 5, _, _, _, _, _⟩) (v := ?_) rfl (Or.inl ⟨by rfl, ?_⟩) hS ?_
 rotate_left 1
 · intro w' hB; (go_simp <;> with_reducible rfl)
 try simp only [Act.put, zA, zB, zC]
 refine tk (i := 1) (oi := ⟨some 6, _, _, _, _, _⟩) (v := ?_) rfl (Or.inl ⟨by rfl, ?_⟩) hS ?_
 rotate_left 1
 · intro w' hB; have h1 := boxStays X1.out hB.below; have h2 := boxStays X2.out hB.below; have k0 := cell_of_row _ _ 0 _ _ _ h1; have k1 := cell_of_row _ _ 1 _ _ _ h1; have k2 := cell_of_row _ _ 2 _ _ _ h1; have q0 := cell_of_row _ _ 0 _ _ _ h2; have q1 := cell_of_row _ _ 1 _ _ _ h2; have q2 := cell_of_row _ _ 2 _ _ _ h2; clear h1 h2; (go_simp <;> with_reducible rfl)
 try simp only [Act.put, zA, zB, zC]
 refine tk (i := 2) (oi := ⟨some 7, _, _, _, _, _⟩) (v := ?_) rfl (Or.inl ⟨by rfl, ?_⟩) hS ?_
 rotate_left 1
 · intro w' hB; (go_simp <;> with_reducible rfl)
 try simp only [Act.put, zA, zB, zC]
 refine tk (i := 3) (oi := ⟨some 8, _, _, _, _, _⟩) (v := ?_) rfl (Or.inl ⟨by rfl, ?_⟩) hS ?_
 rotate_left 1
 · intro w' hB; have h1 := boxStays X1.out hB.below; have h2 := boxStays X2.out hB.below; have k0 := cell_of_row _ _ 0 _ _ _ h1; have k1 := cell_of_row _ _ 1 _ _ _ h1; have k2 := cell_of_row _ _ 2 _ _ _ h1; have q0 := cell_of_row _ _ 0 _ _ _ h2; have q1 := cell_of_row _ _ 1 _ _ _ h2; have q2 := cell_of_row _ _ 2 _ _ _ h2; clear h1 h2; (go_simp <;> with_reducible rfl)
 try simp only [Act.put, zA, zB, zC]
 refine tk (i := 5) (oi := ⟨some 10, _, _, _, _, _⟩) (v := ?_) rfl (Or.inl ⟨by rfl, ?_⟩) hS ?_
 rotate_left 1
 · intro w' hB; (go_simp <;> with_reducible rfl)
 try simp only [Act.put, zA, zB, zC]
 refine tk (i := 6) (oi := ⟨some 11, _, _, _, _, _⟩) (v := ?_) rfl (Or.inl ⟨by rfl, ?_⟩) hS ?_
 rotate_left 1
 · intro w' hB; have h1 := boxStays X1.out hB.below; have h2 := boxStays X2.out hB.below; have k0 := cell_of_row _ _ 0 _ _ _ h1; have k1 := cell_of_row _ _ 1 _ _ _ h1; have k2 := cell_of_row _ _ 2 _ _ _ h1; have q0 := cell_of_row _ _ 0 _ _ _ h2; have q1 := cell_of_row _ _ 1 _ _ _ h2; have q2 := cell_of_row _ _ 2 _ _ _ h2; clear h1 h2; (go_simp <;> with_reducible rfl)
 try simp only [Act.put, zA, zB, zC]
 refine tk (i := 7) (oi := ⟨some 12, _, _, _, _, _⟩) (v := ?_) rfl (Or.inl ⟨by rfl, ?_⟩) hS ?_
 rotate_left 1
 · intro w' hB; (go_simp <;> with_reducible rfl)
 try simp only [Act.put, zA, zB, zC]
 refine tk (i := 8) (oi := ⟨some 13, _, _, _, _, _⟩) (v := ?_) rfl (Or.inl ⟨by rfl, ?_⟩) hS ?_
 rotate_left 1
 · intro w' hB; have h1 := boxStays X1.out hB.below; have h2 := boxStays X2.out hB.below; have k0 := cell_of_row _ _ 0 _ _ _ h1; have k1 := cell_of_row _ _ 1 _ _ _ h1; have k2 := cell_of_row _ _ 2 _ _ _ h1; have q0 := cell_of_row _ _ 0 _ _ _ h2; have q1 := cell_of_row _ _ 1 _ _ _ h2; have q2 := cell_of_row _ _ 2 _ _ _ h2; clear h1 h2; (go_simp <;> with_reducible rfl)
 try simp only [Act.put, zA, zB, zC]
 refine wpAnyH_ready (rs := [4]) (by kernel_rfl) (by simp) (AllReadyH.cons (o := ⟨some 9, _, _, _, _, _⟩) rfl (fun K hK => ?_) AllReadyH.nil)
 go_simp
 refine (stp_CmpBranch r1 l1 r2 l2 _).mono ?_
 rintro e w2 ⟨rfl, hb⟩
 refine hK.out _ _ (hS.trans (hb)) (fun _ => ?_)
 clear hK K
 replace hS := hS.trans (hb)
 clear hb
 try simp only [Act.put, zA, zB, zC]
 refine wpAnyH_ready (rs := [9]) (by kernel_rfl) (by simp) (AllReadyH.cons (o := ⟨some 14, _, _, _, _, _⟩) rfl (fun K hK => ?_) AllReadyH.nil)
 go_simp
 refine (stp_number n1 n2 _).mono ?_
 rintro e w3 ⟨rfl, hb⟩
 refine hK.out _ _ (hS.trans (hb)) (fun _ => ?_)
 clear hK K
 replace hS := hS.trans (hb)
 clear hb
 try simp only [Act.put, zA, zB, zC]
 refine tk (i := 10) (oi := ⟨some 15, _, _, _, _, _⟩) (v := ?_) rfl (Or.inl ⟨by rfl, ?_⟩) hS ?_
 rotate_left 1
 · intro w' hB; have h1 := boxStays X1.out hB.below; have h2 := boxStays X2.out hB.below; have k0 := cell_of_row _ _ 0 _ _ _ h1; have k1 := cell_of_row _ _ 1 _ _ _ h1; have k2 := cell_of_row _ _ 2 _ _ _ h1; have q0 := cell_of_row _ _ 0 _ _ _ h2; have q1 := cell_of_row _ _ 1 _ _ _ h2; have q2 := cell_of_row _ _ 2 _ _ _ h2; clear h1 h2; (go_simp <;> with_reducible rfl)
 try simp only [Act.put, zA, zB, zC]
 refine wpAnyH_ready (rs := [11]) (by kernel_rfl) (by simp) (AllReadyH.cons (o := ⟨some 16, _, _, _, _, _⟩) rfl (fun K hK => ?_) AllReadyH.nil)
 go_simp
 refine (stp_first (brC r1 l1 r2 l2) (numC n1 n2) 0 _).mono ?_
 rintro e w4 ⟨rfl, hb⟩
 refine hK.out _ _ (hS.trans (hb)) (fun _ => ?_)
 clear hK K
 replace hS := hS.trans (hb)
 clear hb
 try simp only [Act.put, zA, zB, zC]
 refine tk (i := 12) (oi := ⟨some 4, _, _, _, _, _⟩) (v := ?_) rfl (Or.inl ⟨by rfl, ?_⟩) hS ?_
 rotate_left 1
 · intro w' hB; have h1 := boxStays X1.out hB.below; have h2 := boxStays X2.out hB.below; have k0 := cell_of_row _ _ 0 _ _ _ h1; have k1 := cell_of_row _ _ 1 _ _ _ h1; have k2 := cell_of_row _ _ 2 _ _ _ h1; have q0 := cell_of_row _ _ 0 _ _ _ h2; have q1 := cell_of_row _ _ 1 _ _ _ h2; have q2 := cell_of_row _ _ 2 _ _ _ h2; clear h1 h2; (go_simp <;> with_reducible rfl)
 try simp only [Act.put, zA, zB, zC]
 refine wpAnyH_done (by kernel_rfl) (NoPanic.normal ?_) _
 have HS := Lib.hid (GW.out.trans hS)
 clear hS
 go_wp2_with fail
 go_ret
 exact ⟨by rw [HV.out]; rfl, HS.out⟩
theorem numC_refl (a : Int) : numC a a = 0 := numC_eq rfl
theorem txtC_refl2 (a : ByteArray) : txtC a a = 0 := txt_eq rfl
theorem svC_refl (s : Sv) : svC s s = 0 := by unfold svC nmC brC; rw [numC_refl, txtC_refl2, numC_refl, numC_refl, numC_refl]; rfl
theorem firstC_assoc (a b c : Int) : firstC a (firstC b c) = firstC (firstC a b) c := by unfold firstC; split <;> simp_all
set_option maxRecDepth 100000 in
set_option maxHeartbeats 1000000 in
theorem stp_CmpS (s t : Sv) (w : World) :
 Calls Tryz.prog 63 #[.agg #[.int .i64 s.g, .int .i64 s.r, .string s.l, .int .i64 s.n, .int .i64 s.i], .agg #[.int .i64 t.g, .int .i64 t.r, .string t.l, .int .i64 t.n, .int .i64 t.i]] w fun e w' => e = .returned (.int .i64 (svC s t)) ∧ Grw w w' := by
 have HV : Hid (firstC (numC s.g t.g) (firstC (nmC s.r s.l s.n t.r t.l t.n) (numC s.i t.i)) = svC s t) := Lib.hid (by unfold svC; rw [firstC_assoc])
 have HR : Hid (s = t → svC s t = 0) := Lib.hid (fun e => by rw [e]; exact svC_refl t)
 have EN := fun W => sv_eql s t W
 obtain ⟨d, hd⟩ : ∃ d, decide (s = t) = d := ⟨_, rfl⟩
 rw [hd] at EN
 have HD := Lib.hid hd
 clear hd
 obtain ⟨g1, r1, l1, n1, i1⟩ := s
 obtain ⟨g2, r2, l2, n2, i2⟩ := t
 simp only at HV EN ⊢
 go_enter Tryz.func63, Tryz.ntmps63
 go_upto_region 1 with (fail)
 have GW : Hid (Grw w ((w.alloc (.cells #[.int .i64 g1, .int .i64 r1, .string l1, .int .i64 n1, .int .i64 i1] 43)).alloc (.cells #[.int .i64 g2, .int .i64 r2, .string l2, .int .i64 n2, .int .i64 i2] 43))) := Lib.hid (((Grw.refl w).alloc _).alloc _)
 have x1 := boxStays (heap_alloc_new w (.cells #[.int .i64 g1, .int .i64 r1, .string l1, .int .i64 n1, .int .i64 i1] 43)) (below_new _ (.cells #[.int .i64 g2, .int .i64 r2, .string l2, .int .i64 n2, .int .i64 i2] 43))
 have x2 := heap_alloc_new (w.alloc (.cells #[.int .i64 g1, .int .i64 r1, .string l1, .int .i64 n1, .int .i64 i1] 43)) (.cells #[.int .i64 g2, .int .i64 r2, .string l2, .int .i64 n2, .int .i64 i2] 43)
 rw [World.size_alloc] at x2
 have X1 := Lib.hid x1
 have X2 := Lib.hid x2
 clear x1 x2
 generalize (w.alloc (.cells #[.int .i64 g1, .int .i64 r1, .string l1, .int .i64 n1, .int .i64 i1] 43)).alloc (.cells #[.int .i64 g2, .int .i64 r2, .string l2, .int .i64 n2, .int .i64 i2] 43) = w1 at *
 have k0 := cell_of_row _ _ 0 _ _ _ X1.out
 have k1 := cell_of_row _ _ 1 _ _ _ X1.out
 have k2 := cell_of_row _ _ 2 _ _ _ X1.out
 have k3 := cell_of_row _ _ 3 _ _ _ X1.out
 have k4 := cell_of_row _ _ 4 _ _ _ X1.out
 have q0 := cell_of_row _ _ 0 _ _ _ X2.out
 have q1 := cell_of_row _ _ 1 _ _ _ X2.out
 have q2 := cell_of_row _ _ 2 _ _ _ X2.out
 have q3 := cell_of_row _ _ 3 _ _ _ X2.out
 have q4 := cell_of_row _ _ 4 _ _ _ X2.out
 cases d
 case true =>
  have hz : svC ⟨g1, r1, l1, n1, i1⟩ ⟨g2, r2, l2, n2, i2⟩ = 0 := HR.out (of_decide_eq_true HD.out)
  have HZ := Lib.hid hz
  clear hz
  go_wp2_with fail
  go_ret
  exact ⟨by rw [HZ.out]; rfl, GW.out⟩
 go_upto_region 3 with (fail)
 clear k0 k1 k2 k3 k4 q0 q1 q2 q3 q4 EN
 refine wp_region_noPanic ?_
 refine wp_region_held_drew (S := fun w' => Grw w1 w') (by kernel_rfl) (Grw.refl _).drew (fun hS => ?_)
 refine tk (i := 0) (oi := ⟨some 8, _, _, _, _, _⟩) (v := ?_) rfl (Or.inl ⟨by rfl, ?_⟩) hS ?_
 rotate_left 1
 · intro w' hB; (go_simp <;> with_reducible rfl)
 try simp only [Act.put, zA, zB, zC]
 refine tk (i := 1) (oi := ⟨some 9, _, _, _, _, _⟩) (v := ?_) rfl (Or.inl ⟨by rfl, ?_⟩) hS ?_
 rotate_left 1
 · intro w' hB; have h1 := boxStays X1.out hB.below; have h2 := boxStays X2.out hB.below; have k0 := cell_of_row _ _ 0 _ _ _ h1; have k1 := cell_of_row _ _ 1 _ _ _ h1; have k2 := cell_of_row _ _ 2 _ _ _ h1; have k3 := cell_of_row _ _ 3 _ _ _ h1; have k4 := cell_of_row _ _ 4 _ _ _ h1; have q0 := cell_of_row _ _ 0 _ _ _ h2; have q1 := cell_of_row _ _ 1 _ _ _ h2; have q2 := cell_of_row _ _ 2 _ _ _ h2; have q3 := cell_of_row _ _ 3 _ _ _ h2; have q4 := cell_of_row _ _ 4 _ _ _ h2; clear h1 h2; (go_simp <;> with_reducible rfl)
 try simp only [Act.put, zA, zB, zC]
 refine tk (i := 2) (oi := ⟨some 10, _, _, _, _, _⟩) (v := ?_) rfl (Or.inl ⟨by rfl, ?_⟩) hS ?_
 rotate_left 1
 · intro w' hB; (go_simp <;> with_reducible rfl)
 try simp only [Act.put, zA, zB, zC]
 refine tk (i := 3) (oi := ⟨some 11, _, _, _, _, _⟩) (v := ?_) rfl (Or.inl ⟨by rfl, ?_⟩) hS ?_
 rotate_left 1
 · intro w' hB; have h1 := boxStays X1.out hB.below; have h2 := boxStays X2.out hB.below; have k0 := cell_of_row _ _ 0 _ _ _ h1; have k1 := cell_of_row _ _ 1 _ _ _ h1; have k2 := cell_of_row _ _ 2 _ _ _ h1; have k3 := cell_of_row _ _ 3 _ _ _ h1; have k4 := cell_of_row _ _ 4 _ _ _ h1; have q0 := cell_of_row _ _ 0 _ _ _ h2; have q1 := cell_of_row _ _ 1 _ _ _ h2; have q2 := cell_of_row _ _ 2 _ _ _ h2; have q3 := cell_of_row _ _ 3 _ _ _ h2; have q4 := cell_of_row _ _ 4 _ _ _ h2; clear h1 h2; (go_simp <;> with_reducible rfl)
 try simp only [Act.put, zA, zB, zC]
 refine tk (i := 5) (oi := ⟨some 13, _, _, _, _, _⟩) (v := ?_) rfl (Or.inl ⟨by rfl, ?_⟩) hS ?_
 rotate_left 1
 · intro w' hB; (go_simp <;> with_reducible rfl)
 try simp only [Act.put, zA, zB, zC]
 refine tk (i := 6) (oi := ⟨some 14, _, _, _, _, _⟩) (v := ?_) rfl (Or.inl ⟨by rfl, ?_⟩) hS ?_
 rotate_left 1
 · intro w' hB; have h1 := boxStays X1.out hB.below; have h2 := boxStays X2.out hB.below; have k0 := cell_of_row _ _ 0 _ _ _ h1; have k1 := cell_of_row _ _ 1 _ _ _ h1; have k2 := cell_of_row _ _ 2 _ _ _ h1; have k3 := cell_of_row _ _ 3 _ _ _ h1; have k4 := cell_of_row _ _ 4 _ _ _ h1; have q0 := cell_of_row _ _ 0 _ _ _ h2; have q1 := cell_of_row _ _ 1 _ _ _ h2; have q2 := cell_of_row _ _ 2 _ _ _ h2; have q3 := cell_of_row _ _ 3 _ _ _ h2; have q4 := cell_of_row _ _ 4 _ _ _ h2; clear h1 h2; (go_simp <;> with_reducible rfl)
 try simp only [Act.put, zA, zB, zC]
 refine tk (i := 7) (oi := ⟨some 15, _, _, _, _, _⟩) (v := ?_) rfl (Or.inl ⟨by rfl, ?_⟩) hS ?_
 rotate_left 1
 · intro w' hB; (go_simp <;> with_reducible rfl)
 try simp only [Act.put, zA, zB, zC]
 refine tk (i := 8) (oi := ⟨some 16, _, _, _, _, _⟩) (v := ?_) rfl (Or.inl ⟨by rfl, ?_⟩) hS ?_
 rotate_left 1
 · intro w' hB; have h1 := boxStays X1.out hB.below; have h2 := boxStays X2.out hB.below; have k0 := cell_of_row _ _ 0 _ _ _ h1; have k1 := cell_of_row _ _ 1 _ _ _ h1; have k2 := cell_of_row _ _ 2 _ _ _ h1; have k3 := cell_of_row _ _ 3 _ _ _ h1; have k4 := cell_of_row _ _ 4 _ _ _ h1; have q0 := cell_of_row _ _ 0 _ _ _ h2; have q1 := cell_of_row _ _ 1 _ _ _ h2; have q2 := cell_of_row _ _ 2 _ _ _ h2; have q3 := cell_of_row _ _ 3 _ _ _ h2; have q4 := cell_of_row _ _ 4 _ _ _ h2; clear h1 h2; (go_simp <;> with_reducible rfl)
 try simp only [Act.put, zA, zB, zC]
 refine tk (i := 10) (oi := ⟨some 18, _, _, _, _, _⟩) (v := ?_) rfl (Or.inl ⟨by rfl, ?_⟩) hS ?_
 rotate_left 1
 · intro w' hB; (go_simp <;> with_reducible rfl)
 try simp only [Act.put, zA, zB, zC]
 refine tk (i := 11) (oi := ⟨some 19, _, _, _, _, _⟩) (v := ?_) rfl (Or.inl ⟨by rfl, ?_⟩) hS ?_
 rotate_left 1
 · intro w' hB; have h1 := boxStays X1.out hB.below; have h2 := boxStays X2.out hB.below; have k0 := cell_of_row _ _ 0 _ _ _ h1; have k1 := cell_of_row _ _ 1 _ _ _ h1; have k2 := cell_of_row _ _ 2 _ _ _ h1; have k3 := cell_of_row _ _ 3 _ _ _ h1; have k4 := cell_of_row _ _ 4 _ _ _ h1; have q0 := cell_of_row _ _ 0 _ _ _ h2; have q1 := cell_of_row _ _ 1 _ _ _ h2; have q2 := cell_of_row _ _ 2 _ _ _ h2; have q3 := cell_of_row _ _ 3 _ _ _ h2; have q4 := cell_of_row _ _ 4 _ _ _ h2; clear h1 h2; (go_simp <;> with_reducible rfl)
 try simp only [Act.put, zA, zB, zC]
 refine tk (i := 12) (oi := ⟨some 20, _, _, _, _, _⟩) (v := ?_) rfl (Or.inl ⟨by rfl, ?_⟩) hS ?_
 rotate_left 1
 · intro w' hB; (go_simp <;> with_reducible rfl)
 try simp only [Act.put, zA, zB, zC]
 refine tk (i := 13) (oi := ⟨some 21, _, _, _, _, _⟩) (v := ?_) rfl (Or.inl ⟨by rfl, ?_⟩) hS ?_
 rotate_left 1
 · intro w' hB; have h1 := boxStays X1.out hB.below; have h2 := boxStays X2.out hB.below; have k0 := cell_of_row _ _ 0 _ _ _ h1; have k1 := cell_of_row _ _ 1 _ _ _ h1; have k2 := cell_of_row _ _ 2 _ _ _ h1; have k3 := cell_of_row _ _ 3 _ _ _ h1; have k4 := cell_of_row _ _ 4 _ _ _ h1; have q0 := cell_of_row _ _ 0 _ _ _ h2; have q1 := cell_of_row _ _ 1 _ _ _ h2; have q2 := cell_of_row _ _ 2 _ _ _ h2; have q3 := cell_of_row _ _ 3 _ _ _ h2; have q4 := cell_of_row _ _ 4 _ _ _ h2; clear h1 h2; (go_simp <;> with_reducible rfl)
 try simp only [Act.put, zA, zB, zC]
 refine wpAnyH_ready (rs := [4]) (by kernel_rfl) (by simp) (AllReadyH.cons (o := ⟨some 12, _, _, _, _, _⟩) rfl (fun K hK => ?_) AllReadyH.nil)
 go_simp
 refine (stp_number g1 g2 _).mono ?_
 rintro e w2 ⟨rfl, hb⟩
 refine hK.out _ _ (hS.trans (hb)) (fun _ => ?_)
 clear hK K
 replace hS := hS.trans (hb)
 clear hb
 try simp only [Act.put, zA, zB, zC]
 refine wpAnyH_ready (rs := [9]) (by kernel_rfl) (by simp) (AllReadyH.cons (o := ⟨some 17, _, _, _, _, _⟩) rfl (fun K hK => ?_) AllReadyH.nil)
 go_simp
 refine (stp_CmpName r1 l1 n1 r2 l2 n2 _).mono ?_
 rintro e w3 ⟨rfl, hb⟩
 refine hK.out _ _ (hS.trans (hb)) (fun _ => ?_)
 clear hK K
 replace hS := hS.trans (hb)
 clear hb
 try simp only [Act.put, zA, zB, zC]
 refine wpAnyH_ready (rs := [14]) (by kernel_rfl) (by simp) (AllReadyH.cons (o := ⟨some 22, _, _, _, _, _⟩) rfl (fun K hK => ?_) AllReadyH.nil)
 go_simp
 refine (stp_number i1 i2 _).mono ?_
 rintro e w4 ⟨rfl, hb⟩
 refine hK.out _ _ (hS.trans (hb)) (fun _ => ?_)
 clear hK K
 replace hS := hS.trans (hb)
 clear hb
 try simp only [Act.put, zA, zB, zC]
 refine tk (i := 15) (oi := ⟨some 23, _, _, _, _, _⟩) (v := ?_) rfl (Or.inl ⟨by rfl, ?_⟩) hS ?_
 rotate_left 1
 · intro w' hB; have h1 := boxStays X1.out hB.below; have h2 := boxStays X2.out hB.below; have k0 := cell_of_row _ _ 0 _ _ _ h1; have k1 := cell_of_row _ _ 1 _ _ _ h1; have k2 := cell_of_row _ _ 2 _ _ _ h1; have k3 := cell_of_row _ _ 3 _ _ _ h1; have k4 := cell_of_row _ _ 4 _ _ _ h1; have q0 := cell_of_row _ _ 0 _ _ _ h2; have q1 := cell_of_row _ _ 1 _ _ _ h2; have q2 := cell_of_row _ _ 2 _ _ _ h2; have q3 := cell_of_row _ _ 3 _ _ _ h2; have q4 := cell_of_row _ _ 4 _ _ _ h2; clear h1 h2; (go_simp <;> with_reducible rfl)
 try simp only [Act.put, zA, zB, zC]
 refine wpAnyH_ready (rs := [16]) (by kernel_rfl) (by simp) (AllReadyH.cons (o := ⟨some 24, _, _, _, _, _⟩) rfl (fun K hK => ?_) AllReadyH.nil)
 go_simp
 refine (stp_first (numC g1 g2) (nmC r1 l1 n1 r2 l2 n2) (numC i1 i2) _).mono ?_
 rintro e w5 ⟨rfl, hb⟩
 refine hK.out _ _ (hS.trans (hb)) (fun _ => ?_)
 clear hK K
 replace hS := hS.trans (hb)
 clear hb
 try simp only [Act.put, zA, zB, zC]
 refine tk (i := 17) (oi := ⟨some 4, _, _, _, _, _⟩) (v := ?_) rfl (Or.inl ⟨by rfl, ?_⟩) hS ?_
 rotate_left 1
 · intro w' hB; have h1 := boxStays X1.out hB.below; have h2 := boxStays X2.out hB.below; have k0 := cell_of_row _ _ 0 _ _ _ h1; have k1 := cell_of_row _ _ 1 _ _ _ h1; have k2 := cell_of_row _ _ 2 _ _ _ h1; have k3 := cell_of_row _ _ 3 _ _ _ h1; have k4 := cell_of_row _ _ 4 _ _ _ h1; have q0 := cell_of_row _ _ 0 _ _ _ h2; have q1 := cell_of_row _ _ 1 _ _ _ h2; have q2 := cell_of_row _ _ 2 _ _ _ h2; have q3 := cell_of_row _ _ 3 _ _ _ h2; have q4 := cell_of_row _ _ 4 _ _ _ h2; clear h1 h2; (go_simp <;> with_reducible rfl)
 try simp only [Act.put, zA, zB, zC]
 refine wpAnyH_done (by kernel_rfl) (NoPanic.normal ?_) _
 have HS := Lib.hid (GW.out.trans hS)
 clear hS
 go_wp2_with fail
 go_ret
 exact ⟨by rw [← HV.out]; rfl, HS.out⟩
end Go.Proofs.YtjlliohjeiclaaaGreatDoor
namespace Go.Proofs.YtjlliohjeiclaaaGreatDoor
open Go.RowKit
theorem grown_tr {A B C : World} {r : Option Nat} (h : A.grownBy B r) (k : B.grownBy C r) : A.grownBy C r :=
 ⟨k.os.trans h.os, k.tape.trans h.tape, k.output.trans h.output, Nat.le_trans h.size k.size, fun i hi he => (k.block i (Nat.lt_of_lt_of_le hi h.size) he).trans (h.block i hi he)⟩
theorem grown_set (w : World) (X o : Nat) (v : Value) : w.grownBy (w.setCell ⟨X, o, none⟩ v) (some X) := ⟨rfl, rfl, rfl, by simp [World.setCell], fun k hk hne => Below.heap_setCell _ _ _ _ (fun e => hne (by rw [e]))⟩
end Go.Proofs.YtjlliohjeiclaaaGreatDoor
namespace Go.Proofs.YtjlliohjeiclaaaGreatDoor
open Go.RowKit
theorem own_setM {w : World} {base size n g cap : Nat} {e : TypeId} {xs : List Value} (h : w.ownsRow base e size (.slice (some ⟨g, 0, none⟩) n cap) n xs) (i : Nat) (u : Value) :
 (w.setCell ⟨g, i, none⟩ u).ownsRow base e size (.slice (some ⟨g, 0, none⟩) n cap) n (xs.set i u) := by
 refine ⟨by simpa using h.1, ?_⟩
 rcases h.2 with ⟨hv, _⟩ | ⟨g', cap', cur, hv, h1, h2, h3, h4, h5, h6⟩
 · cases hv
 · simp only [Value.slice.injEq, Option.some.injEq, Addr.mk.injEq] at hv
   obtain ⟨⟨rfl, _⟩, _, rfl⟩ := hv
   refine .inr ⟨g, cap, cur.setIfInBounds i u, rfl, h1, heap_setCell_same w g i cur e u h2, h3, h4, by simpa using h5, ?_⟩
   rw [Array.toList_setIfInBounds, List.take_set, h6]
theorem own_mid {base size n g cap : Nat} {e : TypeId} : ∀ (vs : List Value) (o : Nat) (w : World) (xs : List Value), w.ownsRow base e size (.slice (some ⟨g, 0, none⟩) n cap) n xs → o + vs.length ≤ xs.length →
 (w.setCells g o vs).ownsRow base e size (.slice (some ⟨g, 0, none⟩) n cap) n (xs.take o ++ vs ++ xs.drop (o + vs.length))
 | [], o, w, xs, h, _ => by simpa [World.setCells] using h
 | v :: r, o, w, xs, h, ho => by
  have h1 := own_mid r (o + 1) _ _ (own_setM h o v) (by simp at ho ⊢; omega)
  rw [World.setCells]
  have e1 : (xs.set o v).take (o + 1) ++ r ++ (xs.set o v).drop (o + 1 + r.length) = xs.take o ++ v :: r ++ xs.drop (o + (v :: r).length) := by
   have hlt : o < xs.length := by simp at ho; omega
   rw [List.take_succ_eq_append_getElem (by simpa using hlt), List.take_set_of_le (Nat.le_refl _), List.drop_set_of_lt (by omega)]
   simp
   congr 1
   omega
  rw [e1] at h1
  exact h1
theorem grown_setCells (g : Nat) : ∀ (vs : List Value) (o : Nat) (w : World), w.grownBy (w.setCells g o vs) (some g)
 | [], _, _ => ⟨rfl, rfl, rfl, Nat.le_refl _, fun _ _ _ => rfl⟩
 | v :: r, o, w => grown_tr (grown_set w g o v) (grown_setCells g r (o + 1) _)
theorem own_cellM {w : World} {base size n g cap : Nat} {e : TypeId} {xs : List Value} (h : w.ownsRow base e size (.slice (some ⟨g, 0, none⟩) n cap) n xs) (i : Nat) (hi : i < xs.length) :
 w.cell? ⟨g, i, none⟩ = some xs[i] ∧ w.frozen? ⟨g, i, none⟩ = false := by
 rcases h.2 with ⟨hv, _⟩ | ⟨g', cap', cur, hv, hb, hg, hnc, _, hcs, ht⟩
 · cases hv
 · simp only [Value.slice.injEq, Option.some.injEq, Addr.mk.injEq] at hv
   obtain ⟨⟨rfl, _⟩, _, rfl⟩ := hv
   refine ⟨?_, frozen_of_row w g i cur e hg⟩
   rw [cell_of_row w g i cur e _ hg]
   have h2 : cur.toList.take xs.length = xs := by have := h.1; first | exact ht | (rw [this]; exact ht)
   have h3 : (cur.toList.take xs.length)[i]? = some xs[i] := by rw [h2]; simp [hi]
   rw [List.getElem?_take_of_lt hi] at h3
   simpa using h3
theorem own_there {w : World} {base size n g cap : Nat} {e : TypeId} {xs : List Value} (h : w.ownsRow base e size (.slice (some ⟨g, 0, none⟩) n cap) n xs) (o m : Nat) (hm : o + m ≤ xs.length) : w.there g o m := fun j hj => by
 obtain ⟨h1, h2⟩ := own_cellM h (o + j) (by omega)
 exact ⟨by rw [h1]; rfl, h2⟩
end Go.Proofs.YtjlliohjeiclaaaGreatDoor
namespace Go.Proofs.YtjlliohjeiclaaaGreatDoor
open Go.RowKit Go.Sort St Pm Kn
attribute [local go_sem] Oper.semAt_some
theorem flat_els (d : Array Ev) : flatK elV 6 d = (elsV d.toList).toArray := by
 have hs : (flatK elV 6 d).size = (elsV d.toList).toArray.size := by simp [elsV_length]
 refine ext_get! hs fun t ht => ?_
 rw [size_flatK] at ht
 rw [get_flatK _ _ _ _ ht]
 have h1 : t / 6 < d.toList.length := by rw [Array.length_toList]; omega
 have h2 := elsV_get d.toList (t / 6) (t % 6) h1 (by omega)
 have e : t / 6 * 6 + t % 6 = t := by omega
 rw [e] at h2
 have h3 : d[t / 6]! = d.toList[t / 6] := by rw [getElem!_pos d (t / 6) (by simpa using h1)]; rfl
 have hl : t < (elsV d.toList).length := by rw [elsV_length, Array.length_toList]; exact ht
 have h5 : (elV d.toList[t / 6]).length = 6 := rfl
 rw [h3, getElem!_pos _ (t % 6) (by rw [h5]; omega), getElem!_pos _ t (by simpa using hl)]
 rw [List.getElem?_eq_getElem hl, List.getElem?_eq_getElem (by rw [h5]; omega)] at h2
 exact (Option.some.inj h2).symm
theorem holds_own {w : World} {base n g c : Nat} {e : TypeId} {l : List Ev} (h : w.ownsRow base e 6 (.slice (some ⟨g, 0, none⟩) n c) n (elsV l)) : HoldsK elV 6 w g 0 l.toArray := by
 intro j hj
 rw [flat_els] at hj ⊢
 have hl : j < (elsV l).length := by simpa using hj
 obtain ⟨h1, h2⟩ := own_cellM h j hl
 rw [Nat.zero_add]
 refine ⟨?_, h2⟩
 rw [h1, getElem!_pos _ j (by simpa using hl)]
 rfl
theorem cells_holds {w : World} {g : Nat} {d : Array Ev} (h : HoldsK elV 6 w g 0 d) : CellsAt w (some ⟨g, 0, none⟩) (elsV d.toList) := by
 intro j hj
 have h1 := (h j (by rw [flat_els]; simpa using hj)).1
 refine ⟨g, 0, rfl, ?_⟩
 rw [h1, flat_els, getElem!_pos _ j (by simpa using hj)]
 rfl
theorem sortWorld_grown (w : World) (g n : Nat) (d : Array Ev) (os : Array Obj) : w.grownBy (sortWorldK elV 6 w g 0 n d os) (some g) := by
 refine ⟨rfl, rfl, rfl, ?_, fun k hk hne => ?_⟩
 · simp [sortWorldK, Sort.grow, putRowK, putRow, mapBlock]
 · have hne' : g ≠ k := fun e => hne (by rw [e])
   show (((Sort.ahead w n).heap.modify g _) ++ os)[k]? = _
   rw [Array.getElem?_append_left (by simpa using hk), Array.getElem?_modify, if_neg hne']
   rfl
theorem ts_Cmp1 (x y : Ev) (w : World) :
 Calls Tryz.prog 62 #[.agg #[.int .i64 x.1.g, .int .i64 x.1.r, .string x.1.l, .int .i64 x.1.n, .int .i64 x.1.i, .string x.2], .agg #[.int .i64 y.1.g, .int .i64 y.1.r, .string y.1.l, .int .i64 y.1.n, .int .i64 y.1.i, .string y.2]] w fun e w' => e = .returned (.int .i64 (svC x.1 y.1)) ∧ Grw w w' := by
 obtain ⟨s, t⟩ := x
 obtain ⟨s2, t2⟩ := y
 have SC := Lib.hid (fun W => stp_CmpS s s2 W)
 simp only at SC ⊢
 generalize svC s s2 = c at SC ⊢
 obtain ⟨g1, r1, l1, n1, i1⟩ := s
 obtain ⟨g2, r2, l2, n2, i2⟩ := s2
 go_enter Tryz.func62, Tryz.ntmps62
 go_wp2_with fail
 refine (SC.out _).mono ?_
 rintro e w' ⟨rfl, hg⟩
 have HG := Lib.hid ((((Grw.refl w).alloc _).alloc _).trans hg)
 clear hg
 go_wp2_with fail
 go_ret
 exact ⟨rfl, HG.out⟩
theorem sl_SortStable (l : List Ev) (g n c base : Nat) (e0 : TypeId) (w : World) (hn : n = l.length) (hb : n ≤ 1000000) (hL : Stb l) (hown : w.ownsRow base e0 6 (.slice (some ⟨g, 0, none⟩) n c) n (elsV l)) :
 Calls Tryz.prog 61 #[.slice (some ⟨g, 0, none⟩) n c, .func (.func 62) #[] #[]] w fun e w' => e = .returned (.tuple #[]) ∧
  CellsAt w' (some ⟨g, 0, none⟩) (elsV (sortV l)) ∧ w.grownBy w' (some g) := by
 subst hn
 have hH := holds_own hown
 have hblk : g < w.heap.size := (hown.lt _ rfl).2
 have hC : CmpLays Tryz.prog 62 #[] elV 6 evC g 0 l.length w := by
  intro m os dk _ x y
  refine (ts_Cmp1 x y _).mono ?_
  rintro e w' ⟨h1, q, os', h2⟩
  exact ⟨h1, q, os', h2⟩
 have R : RowK elV 6 w g 0 l.toArray := ⟨fun _ => rfl, fun x v hv => elsV_one [x] v (by simpa [elsV] using hv), hH, hblk⟩
 have ST := Lib.hid (sl_stable 62 #[] g 0 c l.length l.toArray w R (by simp) hC (enters_of Tryz.func62 (by kernel_rfl) rfl) hb l w rfl (SWK.start hH) hL)
 have FIN : Hid (∀ w', SWK elV 6 w g 0 (sortV l).toArray w' → CellsAt w' (some ⟨g, 0, none⟩) (elsV (sortV l)) ∧ w.grownBy w' (some g)) := Lib.hid (fun w' h => ⟨by
  have := cells_holds (h.holds hblk hH (by simp [sortV_length]))
  simpa using this, by obtain ⟨m, os, rfl⟩ := h; exact sortWorld_grown w g m _ os⟩)
 generalize hln : l.length = n at *
 clear hC R hH hown hblk hb
 go_enter Tryz.func61, Tryz.ntmps61
 go_wp2_with fail
 refine ST.out.mono ?_
 rintro e w' ⟨rfl, h⟩
 have F := Lib.hid (FIN.out w' h)
 clear h
 go_wp2_with fail
 go_end0
 exact ⟨rfl, F.out⟩
end Go.Proofs.YtjlliohjeiclaaaGreatDoor
namespace Go.Proofs.YtjlliohjeiclaaaGreatDoor
open Go.RowKit St
theorem take_none {α : Type} {l : List α} {k : Nat} {p : α → Prop} (hk : k < l.length) (h : ∀ y ∈ l.take k, p y) (hx : p l[k]) : ∀ y ∈ l.take (k + 1), p y := by
 intro y hy
 rw [List.take_succ_eq_append_getElem hk, List.mem_append, List.mem_singleton] at hy
 rcases hy with hy | rfl
 · exact h y hy
 · exact hx
theorem mayV_bad {l : List Ev} {k : Nat} (h : mayV (l.take k) = false) : mayV l = false := by
 cases e : mayV l with
 | false => rfl
 | true =>
  rw [← List.take_append_drop k l] at e
  rw [mayV_left e] at h
  exact h
theorem mayV_next {l : List Ev} {k : Nat} (hk : k < l.length) : mayV (l.take (k + 1)) = true ↔ mayV (l.take k) = true ∧ okV l[k] = true ∧ ∀ y ∈ l.take k, y.1 ≠ l[k].1 := by
 rw [List.take_succ_eq_append_getElem hk, mayV_snoc]
set_option maxRecDepth 100000 in
set_option maxHeartbeats 4000000 in
theorem ref11_May (l : List Ev) (a : Option Addr) (n c : Nat) (w : World) (hl : CellsAt w a (elsV l)) (hn : n = l.length) (hb : n ≤ 9223372036854775807) (hsz : ∀ e ∈ l, e.1.l.size ≤ 9223372036854775807) :
 Calls Tryz.prog 10 #[.slice a n c] w fun e w' => e = .returned (.bool (mayV l)) ∧ Below w.heap.size w w' := by
 have HL := Lib.hid hl
 have HSZ := Lib.hid hsz
 clear hl hsz
 have EN := sv_eql
 have F0 : Hid (∀ k (hk : k < l.length), (okV l[k] = false ∨ ∃ y ∈ l.take k, y.1 = l[k].1) → mayV l = false) := Lib.hid (fun k hk h => mayV_bad (k := k + 1) (by
  cases e : mayV (l.take (k + 1)) with
  | false => rfl
  | true =>
   obtain ⟨_, h2, h3⟩ := (mayV_next hk).1 e
   rcases h with h | ⟨y, hy, h⟩
   · rw [h2] at h; cases h
   · exact absurd h (h3 y hy)))
 have F1 : Hid (∀ k (hk : k < l.length), mayV (l.take k) = true → okV l[k] = true → (∀ y ∈ l.take k, y.1 ≠ l[k].1) → mayV (l.take (k + 1)) = true) := Lib.hid (fun k hk h1 h2 h3 => (mayV_next hk).2 ⟨h1, h2, h3⟩)
 have F2 : Hid (mayV (l.take n) = true → mayV l = true) := Lib.hid (fun h => by rw [hn, List.take_length] at h; exact h)
 generalize mayV l = res at *
 have HNN := Lib.hid hn
 clear hn
 go_enter Tryz.func10, Tryz.ntmps10
 go_wp2_with fail
 go_loopw [3] (fun i wr => ∃ k : Nat, k ≤ n ∧ i = .int .i64 (k : Int) ∧ Hid (mayV (l.take k) = true) ∧ Hid (Below w.heap.size w wr)) (fun i _ => n - (intOf i).toNat)
 case atStart => exact ⟨0, Nat.zero_le _, rfl, Lib.hid (by rw [List.take_zero]; exact mayV_nil), Lib.hid (Below.refl _ _)⟩
 case round =>
  obtain ⟨i, hi, rfl, HT, HB⟩ := hrel
  by_cases hlt : i < n
  · have hk1 : i < l.length := by have := HNN.out; omega
    have HC := Lib.hid (HL.out.below HB.out rfl)
    obtain ⟨ba, oa, rfl, ca⟩ := els_get HC.out i hk1
    obtain ⟨p0, p1, p2, p3, p4, p5⟩ := ca
    have GB := Lib.hid (F0.out i hk1)
    have GS := Lib.hid (F1.out i hk1 HT.out)
    have HZ : Hid (l[i].1.l.size ≤ 9223372036854775807) := Lib.hid (HSZ.out _ (List.getElem_mem hk1))
    have hki : (i : Int) < (n : Int) := by omega
    have hget : ∀ k (hk : k < i), l[k]'(by omega) ∈ l.take i := fun k hk => by rw [List.mem_take_iff_getElem]; exact ⟨k, by omega, rfl⟩
    have OKX : Hid (okV l[i] = (l[i].1.ok && decide (l[i].2.size ≤ 256))) := Lib.hid rfl
    have HG := Lib.hid hget
    clear hget
    generalize hx : l[i] = x at *
    have HX := Lib.hid hx
    clear hx
    go_wp2_with fail
    refine (ref5_Text x.2 _).mono ?_
    rintro e w1 ⟨rfl, rfl⟩
    by_cases hfit : x.2.size ≤ 256
    · have hd : decide (x.2.size ≤ 256) = true := decide_eq_true hfit
      go_wp2_with fail
      refine (ref6_Stamp x.1 _ HZ.out).mono ?_
      rintro e w2 ⟨rfl, hbb⟩
      have HC2 := Lib.hid (HC.out.below hbb rfl)
      have HB2 := Lib.hid (HB.out.trans (hbb.mono HB.out.size))
      clear p0 p1 p2 p3 p4 p5 hbb HC HB
      cases hok : x.1.ok with
      | false =>
       have hr := Lib.hid (GB.out (.inl (by rw [OKX.out, hok]; rfl)))
       clear hok
       go_wp2_with fail
       go_ret
       rw [hr.out]
       exact ⟨rfl, HB2.out⟩
      | true =>
       have hokx := Lib.hid (show okV x = true by rw [OKX.out, hok, hd]; rfl)
       clear hok OKX hd hfit
       go_wp2_with fail
       go_loopw [4] (fun j wr => ∃ k : Nat, k ≤ i ∧ j = .int .i64 (k : Int) ∧ Hid (∀ y ∈ l.take k, y.1 ≠ x.1) ∧ Hid (CellsAt wr (some ⟨ba, oa, none⟩) (elsV l)) ∧ Hid (Below w.heap.size w wr)) (fun j _ => i - (intOf j).toNat)
       case atStart => exact ⟨0, Nat.zero_le _, rfl, Lib.hid (fun y hy => (by cases hy)), HC2, HB2⟩
       clear HC2 HB2
       case round =>
        obtain ⟨k, hk, rfl, HT2, HC, HB⟩ := hrel
        by_cases hlt2 : k < i
        · obtain ⟨_, _, e1, ca⟩ := els_get HC.out i hk1
          cases e1
          obtain ⟨_, _, e2, cb⟩ := els_get HC.out k (by omega)
          cases e2
          rw [HX.out] at ca
          obtain ⟨p0, p1, p2, p3, p4, p5⟩ := ca
          obtain ⟨q0, q1, q2, q3, q4, q5⟩ := cb
          have hki2 : (k : Int) < (n : Int) := by omega
          have hkl : k < l.length := by omega
          have G1 : Hid (l[k].1 = x.1 → res = false) := Lib.hid (fun h => GB.out (.inr ⟨l[k], HG.out k hlt2, h⟩))
          have G2 : Hid (l[k].1 ≠ x.1 → ∀ y ∈ l.take (k + 1), y.1 ≠ x.1) := Lib.hid (fun h => take_none hkl HT2.out h)
          generalize l[k] = y at *
          by_cases hxy : y.1 = x.1
          · have hr := Lib.hid (G1.out hxy)
            have hd : decide (y.1 = x.1) = true := decide_eq_true hxy
            clear hxy
            go_wp2_with fail
            go_quiet (fail)
            go_wp2_with fail
            go_ret
            rw [hr.out]
            exact ⟨rfl, below_drews HB.out _⟩
          · have H := Lib.hid (G2.out hxy)
            have hd : decide (y.1 = x.1) = false := decide_eq_false hxy
            clear hxy
            go_wp2_with fail
            go_quiet (fail)
            go_wp2_with fail
            go_roundw
            case rel => exact ⟨k + 1, by omega, by go_num, H, Lib.hid (HC.out.below ((Below.refl _ _) |> fun h => below_drews h _) rfl), Lib.hid (below_drews HB.out _)⟩
            case measure => simp [intOf]; omega
        · obtain rfl : k = i := by omega
          have H := Lib.hid (GS.out hokx.out HT2.out)
          go_wp2_with fail
          go_roundw
          case rel => exact ⟨k + 1, by omega, by go_num, H, HB⟩
          case measure => simp [intOf]; omega
    · have hd : decide (x.2.size ≤ 256) = false := decide_eq_false hfit
      have hr := Lib.hid (GB.out (.inl (by rw [OKX.out, hd]; simp)))
      go_wp2_with fail
      go_ret
      rw [hr.out]
      exact ⟨rfl, HB.out⟩
  · obtain rfl : i = n := by omega
    have hr := Lib.hid (F2.out HT.out)
    go_wp2_with fail
    go_ret
    rw [hr.out]
    exact ⟨rfl, HB.out⟩
end Go.Proofs.YtjlliohjeiclaaaGreatDoor
