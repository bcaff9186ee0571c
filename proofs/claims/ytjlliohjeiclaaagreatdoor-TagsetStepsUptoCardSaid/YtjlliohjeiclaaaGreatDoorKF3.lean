/- Words, contracts and walks that the proof stands on (StbY). -/
import Derived.Test.YtjlliohjeiclaaaGreatDoorKF1
import Derived.Deep.Cut
import Derived.Test.YtjlliohjeiclaaaGreatDoorKF2
namespace Go.Proofs.YtjlliohjeiclaaaGreatDoor
open Go.Shelf Go.RowKit Go.Lib Go.Sort Go.Proofs St Pm Kn
variable {P : Program}
set_option maxHeartbeats 40000000 in
set_option maxRecDepth 1000000 in
theorem sw_symMerge {k : Nat} (L : StL P k) (enc : Ev → List Value) (g : Nat) (cb : Array Value) (blk off cap N : Nat) (d0 : Array Ev) (w0 : World)
 (R : RowK enc k w0 blk off d0) (hs : d0.size = N) (hC : CmpLays P g cb enc k evC blk off N w0) (eg : ∀ args w, (callFunc g args).run P w = .ok (.enter g args) w) (hsz : N < 4611686018427387904) :
 ∀ (z : Nat) (Q A B S : List Ev) (a m b : Nat) (w : World), A.length + B.length ≤ z → MrA Q A B S a m b N → SWK enc k w0 blk off (Q ++ (A ++ (B ++ S))).toArray w →
 Calls P 139 #[.slice (some ⟨blk, off, none⟩) N cap, .int .i64 a, .int .i64 m, .int .i64 b, .func (.func g) #[] cb] w fun e w' => e = .returned (.tuple #[]) ∧ SWK enc k w0 blk off (Q ++ (sortV (A ++ B) ++ S)).toArray w' := by
 have HC : Aside _ := hC
 clear hC
 intro z
 induction z with
 | zero => intro Q A B S a m b w hz M _; have := M.hA; omega
 | succ z ih =>
  intro Q A B S a m b w hz M H
  have IH : Aside _ := ih
  clear ih
  have mixed := L.mixed; have t0 := L.t0; have a0 := L.a0; have z0 := L.z0; have v0 := L.v0; have t3 := L.t3; have a3 := L.a3; have z3 := L.z3; have v3 := L.v3; have t4 := L.t4; have a4 := L.a4; have z4 := L.z4; have v4 := L.v4; have t22 := L.t22; have a22 := L.a22; have z22 := L.z22; have v22 := L.v22; have t25 := L.t25; have a25 := L.a25; have z25 := L.z25; have v25 := L.v25; have t39 := L.t39; have a39 := L.a39; have z39 := L.z39; have v39 := L.v39; have aE := L.aE; have zE := L.zE
  obtain ⟨p, hp⟩ : ∃ x, A.length = x := ⟨_, rfl⟩
  obtain ⟨q, hq⟩ : ∃ y, B.length = y := ⟨_, rfl⟩
  have hN2 : a + (p + (q + S.length)) = N := by rw [← M.hN, ← M.ea, ← hp, ← hq]; simp
  have hle : a + (p + q) ≤ N := by omega
  have em : a + p = m := by rw [← hp]; exact M.em
  have eb : m + q = b := by rw [← hq]; exact M.eb
  have hp0 : 0 < p := by rw [← hp]; exact M.hA
  have hq0 : 0 < q := by rw [← hq]; exact M.hB
  have MM : Hid (MrA Q A B S a m b N) := M
  have S0 : Aside (SWK enc k w0 blk off (Q ++ (A ++ (B ++ S))).toArray w) := H
  have HP : Hid (A.length = p) := hp
  have HQ : Hid (B.length = q) := hq
  have HZ : Hid (p + q ≤ z + 1) := by show p + q ≤ z + 1; omega
  have HNN : Hid (a + (p + (q + S.length)) = N) := hN2
  have e5 : ∀ args w, (callFunc 179 args).run P w = .ok (.enter 179 args) w := enters_of L.fR (by kernel_rfl) rfl
  have e6 : ∀ args w, (callFunc 139 args).run P w = .ok (.enter 139 args) w := enters_of L.fM (by kernel_rfl) rfl
  have FG := L.fM
  have rp : IntKind.i64.wrap ((m : Int) - (a : Int)) = (p : Int) := by rw [IntKind.wrap_i64]; omega
  have rq : IntKind.i64.wrap ((b : Int) - (m : Int)) = (q : Int) := by rw [IntKind.wrap_i64]; omega
  have hDS : (Q ++ (A ++ (B ++ S))).toArray.size = N := by simpa using M.hN
  have HDS : Aside ((Q ++ (A ++ (B ++ S))).toArray.size = N) := hDS
  clear hp hq hN2 H M hDS hz
  go_enter FG, Tryz.ntmps139
  by_cases hp1 : p = 1
  · subst hp1
    obtain ⟨x, rfl⟩ : ∃ x, A = [x] := List.length_eq_one_iff.1 HP.out
    have rp1 : (m : Int) - (a : Int) = 1 := by omega
    go_wp2
    go_loopg [10, 11] q (fun kx s10 s11 wr => ∃ I J : Nat, s10 = .int .i64 (I : Int) ∧ s11 = .int .i64 (J : Int) ∧ m ≤ I ∧ I ≤ J ∧ J ≤ b ∧ J - I ≤ kx ∧ Hid (SrL B x (I - m) (J - m)) ∧ Aside (SWK enc k w0 blk off (Q ++ ([x] ++ (B ++ S))).toArray wr))
    case atStart => exact ⟨m, b, rfl, rfl, Nat.le_refl _, by omega, Nat.le_refl _, by omega, Lib.hid (by rw [Nat.sub_self, ← eb, Nat.add_sub_cancel_left, ← HQ.out]; exact SrL.start B x), S0⟩
    case round =>
     clear S0
     obtain ⟨I, J, rfl, rfl, hmI, hIJ, hJb, hkx, HS, S1⟩ := hrel
     by_cases hlt : I < J
     · have hltz : (I : Int) < (J : Int) := by omega
       obtain ⟨c, hc⟩ : ∃ c, (I + J) / 2 = c := ⟨_, rfl⟩
       have ec : ((I : Int) + (J : Int)) / 2 = (c : Int) := by omega
       have hcl : c - m < B.length := by have := HQ.out; omega
       have hIc : I ≤ c := by omega
       have hcJ : c < J := by omega
       obtain ⟨y, hy⟩ : ∃ y, B[c - m] = y := ⟨_, rfl⟩
       have HY : Hid (B[c - m] = y) := hy
       have G1 : (Q ++ ([x] ++ (B ++ S))).toArray[c]! = y := by
        have h := arr_app (Q ++ [x]) S B (c - m) c hcl (by have := MM.out.ea; simp; omega)
        simp only [List.append_assoc] at h
        rw [h, hy]
       have G2 : (Q ++ ([x] ++ (B ++ S))).toArray[a]! = x := by
        have h := arr_app Q (B ++ S) [x] 0 a (by simp) (by have := MM.out.ea; simp; omega)
        rw [h]
        rfl
       have CM : Hid ((evC y x < 0 ↔ RE y x) ∧ x ≠ y) := by
        have hm : y ∈ B := by rw [← hy]; exact List.getElem_mem hcl
        exact ⟨MM.out.cm x (by simp) y hm, MM.out.ne x (by simp) y hm⟩
       clear hc hy
       go_wp2_with fail
       try rw [ec]
       clear ec
       by_cases hr : RE y x
       · have hv : evC y x < 0 := CM.out.1.2 hr
         have hd : decide (evC y x < 0) = true := decide_eq_true hv
         have HR : Hid (SrL B x (c + 1 - m) (J - m)) := by
          have h := HS.out.up MM.out.uB (h := c - m) (by omega) (by omega) hcl (by rw [HY.out]; exact hr)
          have e1 : c - m + 1 = c + 1 - m := by omega
          rw [e1] at h
          exact h
         clear hr HS
         have ea1 : ((c : Int)).toNat = c := by omega
         have pa1 : (0 : Int) ≤ (c : Int) := by omega
         have ba1 : (c : Int) < (N : Int) := by omega
         have ra1 : IntKind.i64.wrap ((c : Int)) = (c : Int) := by rw [IntKind.wrap_i64]; omega
         have eb1 : ((a : Int)).toNat = a := by omega
         have pb1 : (0 : Int) ≤ (a : Int) := by omega
         have bb1 : (a : Int) < (N : Int) := by omega
         have rb1 : IntKind.i64.wrap ((a : Int)) = (a : Int) := by rw [IntKind.wrap_i64]; omega
         have la := S1.out.ld R (HDS.out.trans hs.symm) P c (by rw [HDS.out]; omega)
         have lb := S1.out.ld R (HDS.out.trans hs.symm) P a (by rw [HDS.out]; omega)
         rw [G1] at la
         rw [G2] at lb
         have hcc := S1.out.cmp HC.out HDS.out y x
         clear G1 G2
         go_wp2_with fail
         go_quiet_grown (first | (go_at_fn g; refine Calls.grown_of (hcc _ _)))
         have SV : Aside (SWK enc k w0 blk off (Q ++ ([x] ++ (B ++ S))).toArray (grow (wr.drewN nq) osq)) := S1.out.grown nq osq
         clear la lb hcc S1
         generalize grow (wr.drewN nq) osq = wv at SV ⊢
         clear nq osq
         go_wp2
         go_roundg (J - (c + 1))
         case measure => omega
         case rel => exact ⟨c + 1, J, by first | rfl | go_num, rfl, by omega, by omega, hJb, Nat.le_refl _, HR, SV⟩
       · have hv : ¬ evC y x < 0 := fun h => hr (CM.out.1.1 h)
         have hd : decide (evC y x < 0) = false := decide_eq_false hv
         have HR : Hid (SrL B x (I - m) (c - m)) := HS.out.down MM.out.uB (by omega) (by omega) hcl (by rw [HY.out]; exact (re_tri CM.out.2).resolve_right hr)
         clear hr HS
         have ea1 : ((c : Int)).toNat = c := by omega
         have pa1 : (0 : Int) ≤ (c : Int) := by omega
         have ba1 : (c : Int) < (N : Int) := by omega
         have ra1 : IntKind.i64.wrap ((c : Int)) = (c : Int) := by rw [IntKind.wrap_i64]; omega
         have eb1 : ((a : Int)).toNat = a := by omega
         have pb1 : (0 : Int) ≤ (a : Int) := by omega
         have bb1 : (a : Int) < (N : Int) := by omega
         have rb1 : IntKind.i64.wrap ((a : Int)) = (a : Int) := by rw [IntKind.wrap_i64]; omega
         have la := S1.out.ld R (HDS.out.trans hs.symm) P c (by rw [HDS.out]; omega)
         have lb := S1.out.ld R (HDS.out.trans hs.symm) P a (by rw [HDS.out]; omega)
         rw [G1] at la
         rw [G2] at lb
         have hcc := S1.out.cmp HC.out HDS.out y x
         clear G1 G2
         go_wp2_with fail
         go_quiet_grown (first | (go_at_fn g; refine Calls.grown_of (hcc _ _)))
         have SV : Aside (SWK enc k w0 blk off (Q ++ ([x] ++ (B ++ S))).toArray (grow (wr.drewN nq) osq)) := S1.out.grown nq osq
         clear la lb hcc S1
         generalize grow (wr.drewN nq) osq = wv at SV ⊢
         clear nq osq
         go_wp2
         go_roundg (c - I)
         case measure => omega
         case rel => exact ⟨I, c, rfl, rfl, hmI, hIc, by omega, Nat.le_refl _, HR, SV⟩
     · obtain rfl : I = J := by omega
       have HR : Hid (B.take (I - m) ++ x :: B.drop (I - m) = sortV ([x] ++ B)) := HS.out.fin MM.out.uB
       have S2 : Aside (SWK enc k w0 blk off (Q ++ ((B.take 0 ++ x :: B.drop 0) ++ S)).toArray wr) := by
        have h := S1.out
        rw [show Q ++ ([x] ++ (B ++ S)) = Q ++ ((B.take 0 ++ x :: B.drop 0) ++ S) from by simp] at h
        exact h
       have rI : IntKind.i64.wrap ((I : Int) - 1) = (I : Int) - 1 := by rw [IntKind.wrap_i64]; omega
       clear S1 HS
       go_wp2
       go_loopg [13] (I - m) (fun kx s13 wr => ∃ t K : Nat, s13 = .int .i64 (K : Int) ∧ a + t = K ∧ t ≤ I - m ∧ I - m - t ≤ kx ∧ Aside (SWK enc k w0 blk off (Q ++ ((B.take t ++ x :: B.drop t) ++ S)).toArray wr))
       case atStart => exact ⟨0, a, rfl, rfl, Nat.zero_le _, Nat.le_refl _, S2⟩
       case round =>
        clear S2
        obtain ⟨t, K, rfl, hK, htI, hkt, S1⟩ := hrel
        by_cases hlt2 : t < I - m
        · have hltz : (K : Int) < (I : Int) - 1 := by omega
          have htl : t < B.length := by have := HQ.out; omega
          obtain ⟨dk, hdk⟩ : ∃ d, (Q ++ ((B.take t ++ x :: B.drop t) ++ S)).toArray = d := ⟨_, rfl⟩
          have hds : dk.size = N := by
           have h := HDS.out
           rw [← hdk]
           simp only [List.size_toArray, List.length_append, List.length_cons, List.length_take, List.length_drop, List.length_nil] at h ⊢
           omega
          have HDK : Aside (swp dk K (K + 1) = (Q ++ ((B.take (t + 1) ++ x :: B.drop (t + 1)) ++ S)).toArray) := by
           rw [← hdk]
           exact swp_up Q B S x t K (K + 1) htl (by rw [← hK, ← MM.out.ea]) rfl
          rw [hdk] at S1
          clear hdk
          go_wp2_with fail
          have ea1 : ((K : Int)).toNat = K := by omega
          have pa1 : (0 : Int) ≤ (K : Int) := by omega
          have ba1 : (K : Int) < (N : Int) := by omega
          have ra1 : IntKind.i64.wrap ((K : Int)) = (K : Int) := by rw [IntKind.wrap_i64]; omega
          have eb1 : (((K : Int) + 1)).toNat = (K + 1) := by omega
          have pb1 : (0 : Int) ≤ ((K : Int) + 1) := by omega
          have bb1 : ((K : Int) + 1) < (N : Int) := by omega
          have rb1 : IntKind.i64.wrap (((K : Int) + 1)) = ((K : Int) + 1) := by rw [IntKind.wrap_i64]; omega
          have S2 : Aside (SWK enc k w0 blk off (swp dk (K) ((K + 1))) ((wr.drew.setCells blk (off + (K) * k) (enc dk[(K + 1)]!)).setCells blk (off + ((K + 1)) * k) (enc dk[K]!))) := S1.out.swapped R (K) ((K + 1)) (by omega) (by omega)
          have la := S1.out.ld1 R (by omega) P (K) (by omega)
          have lb := S1.out.ld1 R (by omega) P ((K + 1)) (by omega)
          have sa := S1.out.st1 R (by omega) P (K) (by omega) dk[(K + 1)]!
          have sb := S1.out.st2 R (by omega) P (K) ((K + 1)) (by omega) (by omega) dk[(K + 1)]! dk[K]!
          have na : (enc dk[K]!).length = k := R.hk _
          have nb : (enc dk[(K + 1)]!).length = k := R.hk _
          generalize enc dk[K]! = cI at S2 la sb na
          generalize enc dk[(K + 1)]! = cJ at S2 lb sa sb nb
          clear S1
          go_wp2_with fail
          go_big_region_o
          clear la lb sa sb
          generalize (wr.drew.setCells blk (off + (K) * k) cJ).setCells blk (off + ((K + 1)) * k) cI = w2 at S2 ⊢
          go_wp2
          go_roundg (I - m - (t + 1))
          case measure => omega
          case rel => exact ⟨t + 1, K + 1, by first | rfl | go_num, by omega, by omega, Nat.le_refl _, by rw [← HDK]; exact S2⟩
        · have hltz : ¬ (K : Int) < (I : Int) - 1 := by omega
          obtain rfl : t = I - m := by omega
          have e1 : (Q ++ ((B.take (I - m) ++ x :: B.drop (I - m)) ++ S)).toArray = (Q ++ (sortV ([x] ++ B) ++ S)).toArray := by rw [HR.out]
          have h := S1.out
          rw [e1] at h
          clear e1
          go_wp2
          refine bodyPost_ret (results_none rfl _ _ _) rfl ?_
          exact ⟨rfl, h⟩
  · have np1 : ¬ (m : Int) - (a : Int) = 1 := by omega
    have np1b : ((p : Int) == 1) = false := beq_eq_false_iff_ne.2 (by omega)
    by_cases hq1 : q = 1
    · subst hq1
      obtain ⟨y, rfl⟩ : ∃ y, B = [y] := List.length_eq_one_iff.1 HQ.out
      have rq1 : (b : Int) - (m : Int) = 1 := by omega
      go_wp2
      go_loopg [14, 15] p (fun kx s14 s15 wr => ∃ I J : Nat, s14 = .int .i64 (I : Int) ∧ s15 = .int .i64 (J : Int) ∧ a ≤ I ∧ I ≤ J ∧ J ≤ m ∧ J - I ≤ kx ∧ Hid (SrL A y (I - a) (J - a)) ∧ Aside (SWK enc k w0 blk off (Q ++ (A ++ ([y] ++ S))).toArray wr))
      case atStart => exact ⟨a, m, rfl, rfl, Nat.le_refl _, by omega, Nat.le_refl _, by omega, Lib.hid (by rw [Nat.sub_self, ← em, Nat.add_sub_cancel_left, ← HP.out]; exact SrL.start A y), S0⟩
      case round =>
       clear S0
       obtain ⟨I, J, rfl, rfl, hmI, hIJ, hJb, hkx, HS, S1⟩ := hrel
       by_cases hlt : I < J
       · have hltz : (I : Int) < (J : Int) := by omega
         obtain ⟨c, hc⟩ : ∃ c, (I + J) / 2 = c := ⟨_, rfl⟩
         have ec : ((I : Int) + (J : Int)) / 2 = (c : Int) := by omega
         have hcl : c - a < A.length := by have := HP.out; omega
         have hIc : I ≤ c := by omega
         have hcJ : c < J := by omega
         obtain ⟨x, hx⟩ : ∃ x, A[c - a] = x := ⟨_, rfl⟩
         have HX : Hid (A[c - a] = x) := hx
         have G1 : (Q ++ (A ++ ([y] ++ S))).toArray[m]! = y := by
          have h := arr_app (Q ++ A) S [y] 0 m (by simp) (by have := MM.out.ea; have := MM.out.em; simp; omega)
          simp only [List.append_assoc] at h
          rw [h]
          rfl
         have G2 : (Q ++ (A ++ ([y] ++ S))).toArray[c]! = x := by
          have h := arr_app Q ([y] ++ S) A (c - a) c hcl (by have := MM.out.ea; omega)
          rw [h, hx]
         have CM : Hid ((evC y x < 0 ↔ RE y x) ∧ x ≠ y) := by
          have hm : x ∈ A := by rw [← hx]; exact List.getElem_mem hcl
          exact ⟨MM.out.cm x hm y (by simp), MM.out.ne x hm y (by simp)⟩
         clear hc hx
         go_wp2_with fail
         try rw [ec]
         clear ec
         by_cases hr : RE y x
         · have hv : evC y x < 0 := CM.out.1.2 hr
           have hd : decide (evC y x < 0) = true := decide_eq_true hv
           have HR : Hid (SrL A y (I - a) (c - a)) := HS.out.down MM.out.uA (by omega) (by omega) hcl (by rw [HX.out]; exact hr)
           clear hr HS
           have ea1 : ((m : Int)).toNat = m := by omega
           have pa1 : (0 : Int) ≤ (m : Int) := by omega
           have ba1 : (m : Int) < (N : Int) := by omega
           have ra1 : IntKind.i64.wrap ((m : Int)) = (m : Int) := by rw [IntKind.wrap_i64]; omega
           have eb1 : ((c : Int)).toNat = c := by omega
           have pb1 : (0 : Int) ≤ (c : Int) := by omega
           have bb1 : (c : Int) < (N : Int) := by omega
           have rb1 : IntKind.i64.wrap ((c : Int)) = (c : Int) := by rw [IntKind.wrap_i64]; omega
           have la := S1.out.ld R (HDS.out.trans hs.symm) P m (by rw [HDS.out]; omega)
           have lb := S1.out.ld R (HDS.out.trans hs.symm) P c (by rw [HDS.out]; omega)
           rw [G1] at la
           rw [G2] at lb
           have hcc := S1.out.cmp HC.out HDS.out y x
           clear G1 G2
           go_wp2_with fail
           go_quiet_grown (first | (go_at_fn g; refine Calls.grown_of (hcc _ _)))
           have SV : Aside (SWK enc k w0 blk off (Q ++ (A ++ ([y] ++ S))).toArray (grow (wr.drewN nq) osq)) := S1.out.grown nq osq
           clear la lb hcc S1
           generalize grow (wr.drewN nq) osq = wv at SV ⊢
           clear nq osq
           go_wp2
           go_roundg (c - I)
           case measure => omega
           case rel => exact ⟨I, c, rfl, rfl, hmI, hIc, by omega, Nat.le_refl _, HR, SV⟩
         · have hv : ¬ evC y x < 0 := fun h => hr (CM.out.1.1 h)
           have hd : decide (evC y x < 0) = false := decide_eq_false hv
           have HR : Hid (SrL A y (c + 1 - a) (J - a)) := by
            have h := HS.out.up MM.out.uA (h := c - a) (by omega) (by omega) hcl (by rw [HX.out]; exact (re_tri CM.out.2).resolve_right hr)
            have e1 : c - a + 1 = c + 1 - a := by omega
            rw [e1] at h
            exact h
           clear hr HS
           have ea1 : ((m : Int)).toNat = m := by omega
           have pa1 : (0 : Int) ≤ (m : Int) := by omega
           have ba1 : (m : Int) < (N : Int) := by omega
           have ra1 : IntKind.i64.wrap ((m : Int)) = (m : Int) := by rw [IntKind.wrap_i64]; omega
           have eb1 : ((c : Int)).toNat = c := by omega
           have pb1 : (0 : Int) ≤ (c : Int) := by omega
           have bb1 : (c : Int) < (N : Int) := by omega
           have rb1 : IntKind.i64.wrap ((c : Int)) = (c : Int) := by rw [IntKind.wrap_i64]; omega
           have la := S1.out.ld R (HDS.out.trans hs.symm) P m (by rw [HDS.out]; omega)
           have lb := S1.out.ld R (HDS.out.trans hs.symm) P c (by rw [HDS.out]; omega)
           rw [G1] at la
           rw [G2] at lb
           have hcc := S1.out.cmp HC.out HDS.out y x
           clear G1 G2
           go_wp2_with fail
           go_quiet_grown (first | (go_at_fn g; refine Calls.grown_of (hcc _ _)))
           have SV : Aside (SWK enc k w0 blk off (Q ++ (A ++ ([y] ++ S))).toArray (grow (wr.drewN nq) osq)) := S1.out.grown nq osq
           clear la lb hcc S1
           generalize grow (wr.drewN nq) osq = wv at SV ⊢
           clear nq osq
           go_wp2
           go_roundg (J - (c + 1))
           case measure => omega
           case rel => exact ⟨c + 1, J, by first | rfl | go_num, rfl, by omega, by omega, hJb, Nat.le_refl _, HR, SV⟩
       · obtain rfl : I = J := by omega
         have HR : Hid (A.take (I - a) ++ y :: A.drop (I - a) = sortV (A ++ [y])) := by
          show _ = _
          rw [HS.out.fin MM.out.uA]
          have n := MM.out.nd
          have n2 := List.nodup_append.1 n
          exact sortV_perm (List.nodup_cons.2 ⟨fun h => n2.2.2 y h y (by simp) rfl, n2.1⟩) n (fun z => by simp [or_comm])
         have S2 : Aside (SWK enc k w0 blk off (Q ++ ((A.take p ++ y :: A.drop p) ++ S)).toArray wr) := by
          have h := S1.out
          have e1 : A.take p = A := List.take_of_length_le (by rw [HP.out]; exact Nat.le_refl _)
          have e2 : A.drop p = [] := List.drop_of_length_le (by rw [HP.out]; exact Nat.le_refl _)
          rw [e1, e2]
          rw [show Q ++ (A ++ ([y] ++ S)) = Q ++ ((A ++ y :: []) ++ S) from by simp] at h
          exact h
         clear S1 HS
         go_wp2
         go_loopg [17] p (fun kx s17 wr => ∃ t K : Nat, s17 = .int .i64 (K : Int) ∧ a + t = K ∧ I - a ≤ t ∧ t ≤ p ∧ t - (I - a) ≤ kx ∧ Aside (SWK enc k w0 blk off (Q ++ ((A.take t ++ y :: A.drop t) ++ S)).toArray wr))
         case atStart => exact ⟨p, m, rfl, em, by omega, Nat.le_refl _, by omega, S2⟩
         case round =>
          clear S2
          obtain ⟨t, K, rfl, hK, htI, htp, hkt, S1⟩ := hrel
          by_cases hlt2 : I - a < t
          · have hltz : (I : Int) < (K : Int) := by omega
            obtain ⟨t, rfl⟩ : ∃ u, t = u + 1 := ⟨t - 1, by omega⟩
            have htl : t < A.length := by have := HP.out; omega
            obtain ⟨K1, rfl⟩ : ∃ u, K = u + 1 := ⟨K - 1, by omega⟩
            obtain ⟨dk, hdk⟩ : ∃ d, (Q ++ ((A.take (t + 1) ++ y :: A.drop (t + 1)) ++ S)).toArray = d := ⟨_, rfl⟩
            have hds : dk.size = N := by
             have h := HDS.out
             rw [← hdk]
             simp only [List.size_toArray, List.length_append, List.length_cons, List.length_take, List.length_drop, List.length_nil] at h ⊢
             omega
            have HDK : Aside (swp dk (K1 + 1) K1 = (Q ++ ((A.take t ++ y :: A.drop t) ++ S)).toArray) := by
             rw [← hdk]
             exact swp_down Q A S y t (K1 + 1) K1 htl (by rw [MM.out.ea]; omega) rfl
            rw [hdk] at S1
            clear hdk
            have hltz1 : (I : Int) < (K1 : Int) + 1 := by omega
            go_wp2_with fail
            have ea1 : (((K1 : Int) + 1)).toNat = (K1 + 1) := by omega
            have pa1 : (0 : Int) ≤ ((K1 : Int) + 1) := by omega
            have ba1 : ((K1 : Int) + 1) < (N : Int) := by omega
            have ra1 : IntKind.i64.wrap (((K1 : Int) + 1)) = ((K1 : Int) + 1) := by rw [IntKind.wrap_i64]; omega
            have eb1 : ((K1 : Int)).toNat = K1 := by omega
            have pb1 : (0 : Int) ≤ (K1 : Int) := by omega
            have bb1 : (K1 : Int) < (N : Int) := by omega
            have rb1 : IntKind.i64.wrap ((K1 : Int)) = (K1 : Int) := by rw [IntKind.wrap_i64]; omega
            have S2 : Aside (SWK enc k w0 blk off (swp dk ((K1 + 1)) (K1)) ((wr.drew.setCells blk (off + ((K1 + 1)) * k) (enc dk[K1]!)).setCells blk (off + (K1) * k) (enc dk[(K1 + 1)]!))) := S1.out.swapped R ((K1 + 1)) (K1) (by omega) (by omega)
            have la := S1.out.ld1 R (by omega) P ((K1 + 1)) (by omega)
            have lb := S1.out.ld1 R (by omega) P (K1) (by omega)
            have sa := S1.out.st1 R (by omega) P ((K1 + 1)) (by omega) dk[K1]!
            have sb := S1.out.st2 R (by omega) P ((K1 + 1)) (K1) (by omega) (by omega) dk[K1]! dk[(K1 + 1)]!
            have na : (enc dk[(K1 + 1)]!).length = k := R.hk _
            have nb : (enc dk[K1]!).length = k := R.hk _
            generalize enc dk[(K1 + 1)]! = cI at S2 la sb na
            generalize enc dk[K1]! = cJ at S2 lb sa sb nb
            clear S1
            go_wp2_with fail
            go_big_region_o
            clear la lb sa sb
            generalize (wr.drew.setCells blk (off + ((K1 + 1)) * k) cJ).setCells blk (off + (K1) * k) cI = w2 at S2 ⊢
            go_wp2
            go_roundg (t - (I - a))
            case measure => omega
            case rel => exact ⟨t, K1, by first | go_num | (congr 1; omega), by omega, by omega, by omega, Nat.le_refl _, by rw [← HDK]; exact S2⟩
          · have hltz : ¬ (I : Int) < (K : Int) := by omega
            obtain rfl : t = I - a := by omega
            have e1 : (Q ++ ((A.take (I - a) ++ y :: A.drop (I - a)) ++ S)).toArray = (Q ++ (sortV (A ++ [y]) ++ S)).toArray := by rw [HR.out]
            have h := S1.out
            rw [e1] at h
            clear e1
            go_wp2
            refine bodyPost_ret (results_none rfl _ _ _) rfl ?_
            exact ⟨rfl, h⟩
    · have np2 : ¬ (b : Int) - (m : Int) = 1 := by omega
      have np2b : ((q : Int) == 1) = false := beq_eq_false_iff_ne.2 (by omega)
      obtain ⟨md, hmd⟩ : ∃ c, (a + b) / 2 = c := ⟨_, rfl⟩
      have emd : ((a : Int) + (b : Int)) / 2 = (md : Int) := by omega
      have hd1 : a < md := by omega
      have hd2 : md < b := by omega
      have hd3 : 2 * (md - a) ≤ p + q := by omega
      have hd4 : p + q ≤ 2 * (md - a) + 1 := by omega
      have HD1 : Hid (md - a ≤ z) := by have := HZ.out; show md - a ≤ z; omega
      have HD2 : Hid (b - md ≤ z) := by have := HZ.out; show b - md ≤ z; omega
      clear hmd
      by_cases hmm : md < m
      · have hmz : (md : Int) < (m : Int) := by omega
        have SK : Hid (Seek A B (md - a) (md + m - b - a) (md - a)) := by
         have h := Seek.right (A := A) (B := B) (h := md - a) (by rw [HP.out]; omega) (by rw [HQ.out]; omega)
         rw [HQ.out] at h
         have e1 : md - a - q = md + m - b - a := by omega
         rw [e1] at h
         exact h
        go_wp2
        go_loopg [20, 21] b (fun kx s20 s21 wr => ∃ U V : Nat, s20 = .int .i64 (U : Int) ∧ s21 = .int .i64 (V : Int) ∧ a ≤ U ∧ U ≤ V ∧ V ≤ md ∧ V ≤ m ∧ md + m ≤ U + b ∧ V - U ≤ kx ∧ Hid (Seek A B (md - a) (U - a) (V - a)) ∧ Aside (SWK enc k w0 blk off (Q ++ (A ++ (B ++ S))).toArray wr))
        case atStart => exact ⟨(md + m - b), md, by first | rfl | go_num | (congr 1; omega), rfl, by omega, by omega, by omega, by omega, by omega, by omega, SK, S0⟩
        case round =>
         clear S0 SK
         obtain ⟨U, V, rfl, rfl, haU, hUV, hVd, hVm, hUb, hkx, HS, S1⟩ := hrel
         by_cases hlt : U < V
         · have hltz : (U : Int) < (V : Int) := by omega
           obtain ⟨c, hc⟩ : ∃ c, (U + V) / 2 = c := ⟨_, rfl⟩
           have ec : ((U : Int) + (V : Int)) / 2 = (c : Int) := by omega
           have hUc : U ≤ c := by omega
           have hcV : c < V := by omega
           have hcl : c - a < A.length := by have := HP.out; omega
           have hdl : md - a - 1 - (c - a) < B.length := by have := HQ.out; omega
           obtain ⟨x, hx⟩ : ∃ x, A[c - a] = x := ⟨_, rfl⟩
           obtain ⟨y, hy⟩ : ∃ y, B[md - a - 1 - (c - a)] = y := ⟨_, rfl⟩
           have HX : Hid (A[c - a] = x) := hx
           have HY : Hid (B[md - a - 1 - (c - a)] = y) := hy
           obtain ⟨E, hE⟩ : ∃ E, md + m - 1 - c = E := ⟨_, rfl⟩
           have hEE : Hid (E + c + 1 = md + m) := Lib.hid (by omega)
           have hEN : E < N := by have := HNN.out; omega
           have eE : (md : Int) + (m : Int) - 1 - (c : Int) = (E : Int) := by omega
           have G1 : (Q ++ (A ++ (B ++ S))).toArray[E]! = y := by
            have h := arr_app (Q ++ A) S B (md - a - 1 - (c - a)) E hdl (by have := MM.out.ea; have := MM.out.em; rw [List.length_append]; omega)
            simp only [List.append_assoc] at h
            rw [h, hy]
           have G2 : (Q ++ (A ++ (B ++ S))).toArray[c]! = x := by
            have h := arr_app Q (B ++ S) A (c - a) c hcl (by have := MM.out.ea; omega)
            rw [h, hx]
           have CM : Hid ((evC y x < 0 ↔ RE y x) ∧ x ≠ y) := by
            have hm : x ∈ A := by rw [← hx]; exact List.getElem_mem hcl
            have hm2 : y ∈ B := by rw [← hy]; exact List.getElem_mem hdl
            exact ⟨MM.out.cm x hm y hm2, MM.out.ne x hm y hm2⟩
           clear hc hx hy hE
           go_wp2_with fail
           try rw [ec]
           clear ec
           by_cases hr : RE y x
           · have hv : evC y x < 0 := CM.out.1.2 hr
             have hd : decide (evC y x < 0) = true := decide_eq_true hv
             have HR : Hid (Seek A B (md - a) (U - a) (c - a)) := HS.out.down (by omega) (by omega) hcl hdl (by rw [HX.out, HY.out]; exact hr)
             clear hr HS
             have ea1 : ((E : Int)).toNat = E := by omega
             have pa1 : (0 : Int) ≤ (E : Int) := by omega
             have ba1 : (E : Int) < (N : Int) := by omega
             have ra1 : IntKind.i64.wrap ((E : Int)) = (E : Int) := by rw [IntKind.wrap_i64]; omega
             have eb1 : ((c : Int)).toNat = c := by omega
             have pb1 : (0 : Int) ≤ (c : Int) := by omega
             have bb1 : (c : Int) < (N : Int) := by omega
             have rb1 : IntKind.i64.wrap ((c : Int)) = (c : Int) := by rw [IntKind.wrap_i64]; omega
             have la := S1.out.ld R (HDS.out.trans hs.symm) P E (by rw [HDS.out]; omega)
             have lb := S1.out.ld R (HDS.out.trans hs.symm) P c (by rw [HDS.out]; omega)
             rw [G1] at la
             rw [G2] at lb
             have hcc := S1.out.cmp HC.out HDS.out y x
             clear G1 G2
             go_wp2_with fail
             go_quiet_grown (first | (go_at_fn g; refine Calls.grown_of (hcc _ _)))
             have SV : Aside (SWK enc k w0 blk off (Q ++ (A ++ (B ++ S))).toArray (grow (wr.drewN nq) osq)) := S1.out.grown nq osq
             clear la lb hcc S1
             generalize grow (wr.drewN nq) osq = wv at SV ⊢
             clear nq osq
             go_wp2
             go_roundg (c - U)
             case measure => omega
             case rel => exact ⟨U, c, rfl, rfl, haU, hUc, by omega, by omega, hUb, Nat.le_refl _, HR, SV⟩
           · have hv : ¬ evC y x < 0 := fun h => hr (CM.out.1.1 h)
             have hd : decide (evC y x < 0) = false := decide_eq_false hv
             have HR : Hid (Seek A B (md - a) (c + 1 - a) (V - a)) := by
              have h := HS.out.up (c := c - a) (by omega) (by omega) hcl hdl (by rw [HX.out, HY.out]; exact hr)
              have e1 : c - a + 1 = c + 1 - a := by omega
              rw [e1] at h
              exact h
             clear hr HS
             have ea1 : ((E : Int)).toNat = E := by omega
             have pa1 : (0 : Int) ≤ (E : Int) := by omega
             have ba1 : (E : Int) < (N : Int) := by omega
             have ra1 : IntKind.i64.wrap ((E : Int)) = (E : Int) := by rw [IntKind.wrap_i64]; omega
             have eb1 : ((c : Int)).toNat = c := by omega
             have pb1 : (0 : Int) ≤ (c : Int) := by omega
             have bb1 : (c : Int) < (N : Int) := by omega
             have rb1 : IntKind.i64.wrap ((c : Int)) = (c : Int) := by rw [IntKind.wrap_i64]; omega
             have la := S1.out.ld R (HDS.out.trans hs.symm) P E (by rw [HDS.out]; omega)
             have lb := S1.out.ld R (HDS.out.trans hs.symm) P c (by rw [HDS.out]; omega)
             rw [G1] at la
             rw [G2] at lb
             have hcc := S1.out.cmp HC.out HDS.out y x
             clear G1 G2
             go_wp2_with fail
             go_quiet_grown (first | (go_at_fn g; refine Calls.grown_of (hcc _ _)))
             have SV : Aside (SWK enc k w0 blk off (Q ++ (A ++ (B ++ S))).toArray (grow (wr.drewN nq) osq)) := S1.out.grown nq osq
             clear la lb hcc S1
             generalize grow (wr.drewN nq) osq = wv at SV ⊢
             clear nq osq
             go_wp2
             go_roundg (V - (c + 1))
             case measure => omega
             case rel => exact ⟨c + 1, V, by first | rfl | go_num, rfl, by omega, by omega, hVd, hVm, by omega, Nat.le_refl _, HR, SV⟩
         · obtain rfl : U = V := by omega
           obtain ⟨en, hen⟩ : ∃ e, md + m - U = e := ⟨_, rfl⟩
           have een : (md : Int) + (m : Int) - (U : Int) = (en : Int) := by omega
           have hee : en + U = md + m := by omega
           obtain ⟨A1, A2, B1, B2, cut⟩ := MM.out.cut4 HS.out haU hVm hVd hUb hee
           have CUT : Hid (Cut4 Q A B S A1 A2 B1 B2 a m b N U md en) := cut
           clear cut hen HS
           by_cases hrot : U < m ∧ m < en
           · have f1 : (U : Int) < (m : Int) := by omega
             have f2 : (m : Int) < (en : Int) := by omega
             have CALL : Aside (Calls P 179 #[.slice (some ⟨blk, off, none⟩) N cap, .int .i64 U, .int .i64 m, .int .i64 en, .func (.func g) #[] cb] wr fun e w' => e = .returned (.tuple #[]) ∧ SWK enc k w0 blk off (Q ++ ((A1 ++ B1) ++ ((A2 ++ B2) ++ S))).toArray w') := by
              have hh := S1.out
              have l1 := CUT.out.l1
              have l2 := CUT.out.l2
              have l3 := CUT.out.l3
              have e1 : Q ++ (A ++ (B ++ S)) = (Q ++ A1) ++ (A2 ++ (B1 ++ (B2 ++ S))) := by rw [← CUT.out.eA, ← CUT.out.eB]; simp only [List.append_assoc]
              have hNl := MM.out.hN
              rw [e1] at hh hNl
              have h := sw_rotate L enc g cb blk off cap (Q ++ A1) A2 B1 (B2 ++ S) U m en N d0 w0 wr R hs hNl hh (by omega) (by omega) hsz (by rw [List.length_append, MM.out.ea]; omega) (by omega) (by omega)
              have e2 : (Q ++ A1) ++ (B1 ++ (A2 ++ (B2 ++ S))) = Q ++ ((A1 ++ B1) ++ ((A2 ++ B2) ++ S)) := by simp only [List.append_assoc]
              rw [e2] at h
              exact h
             clear S1
             go_upto_region 41 with (go_at_fn 179; refine CALL.mono ?_; rintro e w1 ⟨rfl, S2⟩)
             clear CALL f1 f2
             by_cases hlf : a < U ∧ U < md
             · have f1 : (a : Int) < (U : Int) := by omega
               have f2 : (U : Int) < (md : Int) := by omega
               have CALL : Aside (Calls P 139 #[.slice (some ⟨blk, off, none⟩) N cap, .int .i64 a, .int .i64 U, .int .i64 md, .func (.func g) #[] cb] w1 fun e w' => e = .returned (.tuple #[]) ∧ SWK enc k w0 blk off (Q ++ (sortV (A1 ++ B1) ++ ((A2 ++ B2) ++ S))).toArray w') := by
                have hh : SWK enc k w0 blk off (Q ++ ((A1 ++ B1) ++ ((A2 ++ B2) ++ S))).toArray w1 := S2
                have l1 := CUT.out.l1
                have l3 := CUT.out.l3
                have hz := HD1.out
                have e1 : Q ++ ((A1 ++ B1) ++ ((A2 ++ B2) ++ S)) = Q ++ (A1 ++ (B1 ++ ((A2 ++ B2) ++ S))) := by simp only [List.append_assoc]
                rw [e1] at hh
                exact IH.out Q A1 B1 ((A2 ++ B2) ++ S) a U md w1 (by omega) (CUT.out.left hlf.1 hlf.2) hh
               clear S2
               go_upto_region 43 with (go_at_fn 139; refine CALL.mono ?_; rintro e w3 ⟨rfl, S3⟩)
               clear CALL f1 f2
               by_cases hrt : md < en ∧ en < b
               · have f1 : (md : Int) < (en : Int) := by omega
                 have f2 : (en : Int) < (b : Int) := by omega
                 have CALL : Aside (Calls P 139 #[.slice (some ⟨blk, off, none⟩) N cap, .int .i64 md, .int .i64 en, .int .i64 b, .func (.func g) #[] cb] w3 fun e w' => e = .returned (.tuple #[]) ∧ SWK enc k w0 blk off (Q ++ (sortV (A ++ B) ++ S)).toArray w') := by
                  have hh : SWK enc k w0 blk off (Q ++ (sortV (A1 ++ B1) ++ ((A2 ++ B2) ++ S))).toArray w3 := S3
                  have l2 := CUT.out.l2
                  have l4 := CUT.out.l4
                  have hz := HD2.out
                  have e1 : Q ++ (sortV (A1 ++ B1) ++ ((A2 ++ B2) ++ S)) = (Q ++ sortV (A1 ++ B1)) ++ (A2 ++ (B2 ++ S)) := by simp only [List.append_assoc]
                  rw [e1] at hh
                  have h := IH.out (Q ++ sortV (A1 ++ B1)) A2 B2 S md en b w3 (by omega) (CUT.out.right (by omega) hrt.2) hh
                  have e2 : (Q ++ sortV (A1 ++ B1)) ++ (sortV (A2 ++ B2) ++ S) = Q ++ (sortV (A ++ B) ++ S) := by rw [← CUT.out.whole]; simp only [List.append_assoc]
                  rw [e2] at h
                  exact h
                 clear S3
                 go_wp2_with (go_at_fn 139; refine CALL.mono ?_; rintro e w4 ⟨rfl, S4⟩)
                 go_end0
                 exact ⟨rfl, S4⟩
               · have S4 : SWK enc k w0 blk off (Q ++ (sortV (A ++ B) ++ S)).toArray w3 := by
                  have hh : SWK enc k w0 blk off (Q ++ (sortV (A1 ++ B1) ++ ((A2 ++ B2) ++ S))).toArray w3 := S3
                  rw [← CUT.out.noRight (by omega)] at hh
                  have e2 : Q ++ (sortV (A1 ++ B1) ++ (sortV (A2 ++ B2) ++ S)) = Q ++ (sortV (A ++ B) ++ S) := by rw [← CUT.out.whole]; simp only [List.append_assoc]
                  rw [e2] at hh
                  exact hh
                 clear S3
                 by_cases f : md < en
                 · have f1 : (md : Int) < (en : Int) := by omega
                   have f2 : ¬ (en : Int) < (b : Int) := by omega
                   go_wp2_with fail
                   go_end0
                   exact ⟨rfl, S4⟩
                 · have f1 : ¬ (md : Int) < (en : Int) := by omega
                   go_wp2_with fail
                   go_end0
                   exact ⟨rfl, S4⟩
             · have S3 : Aside (SWK enc k w0 blk off (Q ++ (sortV (A1 ++ B1) ++ ((A2 ++ B2) ++ S))).toArray w1) := by
                have hh : SWK enc k w0 blk off (Q ++ ((A1 ++ B1) ++ ((A2 ++ B2) ++ S))).toArray w1 := S2
                rw [← CUT.out.noLeft (by omega)] at hh
                exact hh
               clear S2
               by_cases f : a < U
               · have f1 : (a : Int) < (U : Int) := by omega
                 have f2 : ¬ (U : Int) < (md : Int) := by omega
                 go_upto_region 43 with (fail)
                 clear f1 f2
                 by_cases hrt : md < en ∧ en < b
                 · have f1 : (md : Int) < (en : Int) := by omega
                   have f2 : (en : Int) < (b : Int) := by omega
                   have CALL : Aside (Calls P 139 #[.slice (some ⟨blk, off, none⟩) N cap, .int .i64 md, .int .i64 en, .int .i64 b, .func (.func g) #[] cb] w1 fun e w' => e = .returned (.tuple #[]) ∧ SWK enc k w0 blk off (Q ++ (sortV (A ++ B) ++ S)).toArray w') := by
                    have hh : SWK enc k w0 blk off (Q ++ (sortV (A1 ++ B1) ++ ((A2 ++ B2) ++ S))).toArray w1 := S3
                    have l2 := CUT.out.l2
                    have l4 := CUT.out.l4
                    have hz := HD2.out
                    have e1 : Q ++ (sortV (A1 ++ B1) ++ ((A2 ++ B2) ++ S)) = (Q ++ sortV (A1 ++ B1)) ++ (A2 ++ (B2 ++ S)) := by simp only [List.append_assoc]
                    rw [e1] at hh
                    have h := IH.out (Q ++ sortV (A1 ++ B1)) A2 B2 S md en b w1 (by omega) (CUT.out.right (by omega) hrt.2) hh
                    have e2 : (Q ++ sortV (A1 ++ B1)) ++ (sortV (A2 ++ B2) ++ S) = Q ++ (sortV (A ++ B) ++ S) := by rw [← CUT.out.whole]; simp only [List.append_assoc]
                    rw [e2] at h
                    exact h
                   clear S3
                   go_wp2_with (go_at_fn 139; refine CALL.mono ?_; rintro e w4 ⟨rfl, S4⟩)
                   go_end0
                   exact ⟨rfl, S4⟩
                 · have S4 : SWK enc k w0 blk off (Q ++ (sortV (A ++ B) ++ S)).toArray w1 := by
                    have hh : SWK enc k w0 blk off (Q ++ (sortV (A1 ++ B1) ++ ((A2 ++ B2) ++ S))).toArray w1 := S3
                    rw [← CUT.out.noRight (by omega)] at hh
                    have e2 : Q ++ (sortV (A1 ++ B1) ++ (sortV (A2 ++ B2) ++ S)) = Q ++ (sortV (A ++ B) ++ S) := by rw [← CUT.out.whole]; simp only [List.append_assoc]
                    rw [e2] at hh
                    exact hh
                   clear S3
                   by_cases f : md < en
                   · have f1 : (md : Int) < (en : Int) := by omega
                     have f2 : ¬ (en : Int) < (b : Int) := by omega
                     go_wp2_with fail
                     go_end0
                     exact ⟨rfl, S4⟩
                   · have f1 : ¬ (md : Int) < (en : Int) := by omega
                     go_wp2_with fail
                     go_end0
                     exact ⟨rfl, S4⟩
               · have f1 : ¬ (a : Int) < (U : Int) := by omega
                 go_upto_region 43 with (fail)
                 clear f1
                 by_cases hrt : md < en ∧ en < b
                 · have f1 : (md : Int) < (en : Int) := by omega
                   have f2 : (en : Int) < (b : Int) := by omega
                   have CALL : Aside (Calls P 139 #[.slice (some ⟨blk, off, none⟩) N cap, .int .i64 md, .int .i64 en, .int .i64 b, .func (.func g) #[] cb] w1 fun e w' => e = .returned (.tuple #[]) ∧ SWK enc k w0 blk off (Q ++ (sortV (A ++ B) ++ S)).toArray w') := by
                    have hh : SWK enc k w0 blk off (Q ++ (sortV (A1 ++ B1) ++ ((A2 ++ B2) ++ S))).toArray w1 := S3
                    have l2 := CUT.out.l2
                    have l4 := CUT.out.l4
                    have hz := HD2.out
                    have e1 : Q ++ (sortV (A1 ++ B1) ++ ((A2 ++ B2) ++ S)) = (Q ++ sortV (A1 ++ B1)) ++ (A2 ++ (B2 ++ S)) := by simp only [List.append_assoc]
                    rw [e1] at hh
                    have h := IH.out (Q ++ sortV (A1 ++ B1)) A2 B2 S md en b w1 (by omega) (CUT.out.right (by omega) hrt.2) hh
                    have e2 : (Q ++ sortV (A1 ++ B1)) ++ (sortV (A2 ++ B2) ++ S) = Q ++ (sortV (A ++ B) ++ S) := by rw [← CUT.out.whole]; simp only [List.append_assoc]
                    rw [e2] at h
                    exact h
                   clear S3
                   go_wp2_with (go_at_fn 139; refine CALL.mono ?_; rintro e w4 ⟨rfl, S4⟩)
                   go_end0
                   exact ⟨rfl, S4⟩
                 · have S4 : SWK enc k w0 blk off (Q ++ (sortV (A ++ B) ++ S)).toArray w1 := by
                    have hh : SWK enc k w0 blk off (Q ++ (sortV (A1 ++ B1) ++ ((A2 ++ B2) ++ S))).toArray w1 := S3
                    rw [← CUT.out.noRight (by omega)] at hh
                    have e2 : Q ++ (sortV (A1 ++ B1) ++ (sortV (A2 ++ B2) ++ S)) = Q ++ (sortV (A ++ B) ++ S) := by rw [← CUT.out.whole]; simp only [List.append_assoc]
                    rw [e2] at hh
                    exact hh
                   clear S3
                   by_cases f : md < en
                   · have f1 : (md : Int) < (en : Int) := by omega
                     have f2 : ¬ (en : Int) < (b : Int) := by omega
                     go_wp2_with fail
                     go_end0
                     exact ⟨rfl, S4⟩
                   · have f1 : ¬ (md : Int) < (en : Int) := by omega
                     go_wp2_with fail
                     go_end0
                     exact ⟨rfl, S4⟩
           · have S2 : Aside (SWK enc k w0 blk off (Q ++ ((A1 ++ B1) ++ ((A2 ++ B2) ++ S))).toArray wr) := by
              have hh := S1.out
              rw [CUT.out.turned (by omega)] at hh
              exact hh
             clear S1
             by_cases f : U < m
             · have f1 : (U : Int) < (m : Int) := by omega
               have f2 : ¬ (m : Int) < (en : Int) := by omega
               go_upto_region 41 with (fail)
               clear f1 f2
               by_cases hlf : a < U ∧ U < md
               · have f1 : (a : Int) < (U : Int) := by omega
                 have f2 : (U : Int) < (md : Int) := by omega
                 have CALL : Aside (Calls P 139 #[.slice (some ⟨blk, off, none⟩) N cap, .int .i64 a, .int .i64 U, .int .i64 md, .func (.func g) #[] cb] wr fun e w' => e = .returned (.tuple #[]) ∧ SWK enc k w0 blk off (Q ++ (sortV (A1 ++ B1) ++ ((A2 ++ B2) ++ S))).toArray w') := by
                  have hh : SWK enc k w0 blk off (Q ++ ((A1 ++ B1) ++ ((A2 ++ B2) ++ S))).toArray wr := S2
                  have l1 := CUT.out.l1
                  have l3 := CUT.out.l3
                  have hz := HD1.out
                  have e1 : Q ++ ((A1 ++ B1) ++ ((A2 ++ B2) ++ S)) = Q ++ (A1 ++ (B1 ++ ((A2 ++ B2) ++ S))) := by simp only [List.append_assoc]
                  rw [e1] at hh
                  exact IH.out Q A1 B1 ((A2 ++ B2) ++ S) a U md wr (by omega) (CUT.out.left hlf.1 hlf.2) hh
                 clear S2
                 go_upto_region 43 with (go_at_fn 139; refine CALL.mono ?_; rintro e w3 ⟨rfl, S3⟩)
                 clear CALL f1 f2
                 by_cases hrt : md < en ∧ en < b
                 · have f1 : (md : Int) < (en : Int) := by omega
                   have f2 : (en : Int) < (b : Int) := by omega
                   have CALL : Aside (Calls P 139 #[.slice (some ⟨blk, off, none⟩) N cap, .int .i64 md, .int .i64 en, .int .i64 b, .func (.func g) #[] cb] w3 fun e w' => e = .returned (.tuple #[]) ∧ SWK enc k w0 blk off (Q ++ (sortV (A ++ B) ++ S)).toArray w') := by
                    have hh : SWK enc k w0 blk off (Q ++ (sortV (A1 ++ B1) ++ ((A2 ++ B2) ++ S))).toArray w3 := S3
                    have l2 := CUT.out.l2
                    have l4 := CUT.out.l4
                    have hz := HD2.out
                    have e1 : Q ++ (sortV (A1 ++ B1) ++ ((A2 ++ B2) ++ S)) = (Q ++ sortV (A1 ++ B1)) ++ (A2 ++ (B2 ++ S)) := by simp only [List.append_assoc]
                    rw [e1] at hh
                    have h := IH.out (Q ++ sortV (A1 ++ B1)) A2 B2 S md en b w3 (by omega) (CUT.out.right (by omega) hrt.2) hh
                    have e2 : (Q ++ sortV (A1 ++ B1)) ++ (sortV (A2 ++ B2) ++ S) = Q ++ (sortV (A ++ B) ++ S) := by rw [← CUT.out.whole]; simp only [List.append_assoc]
                    rw [e2] at h
                    exact h
                   clear S3
                   go_wp2_with (go_at_fn 139; refine CALL.mono ?_; rintro e w4 ⟨rfl, S4⟩)
                   go_end0
                   exact ⟨rfl, S4⟩
                 · have S4 : SWK enc k w0 blk off (Q ++ (sortV (A ++ B) ++ S)).toArray w3 := by
                    have hh : SWK enc k w0 blk off (Q ++ (sortV (A1 ++ B1) ++ ((A2 ++ B2) ++ S))).toArray w3 := S3
                    rw [← CUT.out.noRight (by omega)] at hh
                    have e2 : Q ++ (sortV (A1 ++ B1) ++ (sortV (A2 ++ B2) ++ S)) = Q ++ (sortV (A ++ B) ++ S) := by rw [← CUT.out.whole]; simp only [List.append_assoc]
                    rw [e2] at hh
                    exact hh
                   clear S3
                   by_cases f : md < en
                   · have f1 : (md : Int) < (en : Int) := by omega
                     have f2 : ¬ (en : Int) < (b : Int) := by omega
                     go_wp2_with fail
                     go_end0
                     exact ⟨rfl, S4⟩
                   · have f1 : ¬ (md : Int) < (en : Int) := by omega
                     go_wp2_with fail
                     go_end0
                     exact ⟨rfl, S4⟩
               · have S3 : Aside (SWK enc k w0 blk off (Q ++ (sortV (A1 ++ B1) ++ ((A2 ++ B2) ++ S))).toArray wr) := by
                  have hh : SWK enc k w0 blk off (Q ++ ((A1 ++ B1) ++ ((A2 ++ B2) ++ S))).toArray wr := S2
                  rw [← CUT.out.noLeft (by omega)] at hh
                  exact hh
                 clear S2
                 by_cases f : a < U
                 · have f1 : (a : Int) < (U : Int) := by omega
                   have f2 : ¬ (U : Int) < (md : Int) := by omega
                   go_upto_region 43 with (fail)
                   clear f1 f2
                   by_cases hrt : md < en ∧ en < b
                   · have f1 : (md : Int) < (en : Int) := by omega
                     have f2 : (en : Int) < (b : Int) := by omega
                     have CALL : Aside (Calls P 139 #[.slice (some ⟨blk, off, none⟩) N cap, .int .i64 md, .int .i64 en, .int .i64 b, .func (.func g) #[] cb] wr fun e w' => e = .returned (.tuple #[]) ∧ SWK enc k w0 blk off (Q ++ (sortV (A ++ B) ++ S)).toArray w') := by
                      have hh : SWK enc k w0 blk off (Q ++ (sortV (A1 ++ B1) ++ ((A2 ++ B2) ++ S))).toArray wr := S3
                      have l2 := CUT.out.l2
                      have l4 := CUT.out.l4
                      have hz := HD2.out
                      have e1 : Q ++ (sortV (A1 ++ B1) ++ ((A2 ++ B2) ++ S)) = (Q ++ sortV (A1 ++ B1)) ++ (A2 ++ (B2 ++ S)) := by simp only [List.append_assoc]
                      rw [e1] at hh
                      have h := IH.out (Q ++ sortV (A1 ++ B1)) A2 B2 S md en b wr (by omega) (CUT.out.right (by omega) hrt.2) hh
                      have e2 : (Q ++ sortV (A1 ++ B1)) ++ (sortV (A2 ++ B2) ++ S) = Q ++ (sortV (A ++ B) ++ S) := by rw [← CUT.out.whole]; simp only [List.append_assoc]
                      rw [e2] at h
                      exact h
                     clear S3
                     go_wp2_with (go_at_fn 139; refine CALL.mono ?_; rintro e w4 ⟨rfl, S4⟩)
                     go_end0
                     exact ⟨rfl, S4⟩
                   · have S4 : SWK enc k w0 blk off (Q ++ (sortV (A ++ B) ++ S)).toArray wr := by
                      have hh : SWK enc k w0 blk off (Q ++ (sortV (A1 ++ B1) ++ ((A2 ++ B2) ++ S))).toArray wr := S3
                      rw [← CUT.out.noRight (by omega)] at hh
                      have e2 : Q ++ (sortV (A1 ++ B1) ++ (sortV (A2 ++ B2) ++ S)) = Q ++ (sortV (A ++ B) ++ S) := by rw [← CUT.out.whole]; simp only [List.append_assoc]
                      rw [e2] at hh
                      exact hh
                     clear S3
                     by_cases f : md < en
                     · have f1 : (md : Int) < (en : Int) := by omega
                       have f2 : ¬ (en : Int) < (b : Int) := by omega
                       go_wp2_with fail
                       go_end0
                       exact ⟨rfl, S4⟩
                     · have f1 : ¬ (md : Int) < (en : Int) := by omega
                       go_wp2_with fail
                       go_end0
                       exact ⟨rfl, S4⟩
                 · have f1 : ¬ (a : Int) < (U : Int) := by omega
                   go_upto_region 43 with (fail)
                   clear f1
                   by_cases hrt : md < en ∧ en < b
                   · have f1 : (md : Int) < (en : Int) := by omega
                     have f2 : (en : Int) < (b : Int) := by omega
                     have CALL : Aside (Calls P 139 #[.slice (some ⟨blk, off, none⟩) N cap, .int .i64 md, .int .i64 en, .int .i64 b, .func (.func g) #[] cb] wr fun e w' => e = .returned (.tuple #[]) ∧ SWK enc k w0 blk off (Q ++ (sortV (A ++ B) ++ S)).toArray w') := by
                      have hh : SWK enc k w0 blk off (Q ++ (sortV (A1 ++ B1) ++ ((A2 ++ B2) ++ S))).toArray wr := S3
                      have l2 := CUT.out.l2
                      have l4 := CUT.out.l4
                      have hz := HD2.out
                      have e1 : Q ++ (sortV (A1 ++ B1) ++ ((A2 ++ B2) ++ S)) = (Q ++ sortV (A1 ++ B1)) ++ (A2 ++ (B2 ++ S)) := by simp only [List.append_assoc]
                      rw [e1] at hh
                      have h := IH.out (Q ++ sortV (A1 ++ B1)) A2 B2 S md en b wr (by omega) (CUT.out.right (by omega) hrt.2) hh
                      have e2 : (Q ++ sortV (A1 ++ B1)) ++ (sortV (A2 ++ B2) ++ S) = Q ++ (sortV (A ++ B) ++ S) := by rw [← CUT.out.whole]; simp only [List.append_assoc]
                      rw [e2] at h
                      exact h
                     clear S3
                     go_wp2_with (go_at_fn 139; refine CALL.mono ?_; rintro e w4 ⟨rfl, S4⟩)
                     go_end0
                     exact ⟨rfl, S4⟩
                   · have S4 : SWK enc k w0 blk off (Q ++ (sortV (A ++ B) ++ S)).toArray wr := by
                      have hh : SWK enc k w0 blk off (Q ++ (sortV (A1 ++ B1) ++ ((A2 ++ B2) ++ S))).toArray wr := S3
                      rw [← CUT.out.noRight (by omega)] at hh
                      have e2 : Q ++ (sortV (A1 ++ B1) ++ (sortV (A2 ++ B2) ++ S)) = Q ++ (sortV (A ++ B) ++ S) := by rw [← CUT.out.whole]; simp only [List.append_assoc]
                      rw [e2] at hh
                      exact hh
                     clear S3
                     by_cases f : md < en
                     · have f1 : (md : Int) < (en : Int) := by omega
                       have f2 : ¬ (en : Int) < (b : Int) := by omega
                       go_wp2_with fail
                       go_end0
                       exact ⟨rfl, S4⟩
                     · have f1 : ¬ (md : Int) < (en : Int) := by omega
                       go_wp2_with fail
                       go_end0
                       exact ⟨rfl, S4⟩
             · have f1 : ¬ (U : Int) < (m : Int) := by omega
               go_upto_region 41 with (fail)
               clear f1
               by_cases hlf : a < U ∧ U < md
               · have f1 : (a : Int) < (U : Int) := by omega
                 have f2 : (U : Int) < (md : Int) := by omega
                 have CALL : Aside (Calls P 139 #[.slice (some ⟨blk, off, none⟩) N cap, .int .i64 a, .int .i64 U, .int .i64 md, .func (.func g) #[] cb] wr fun e w' => e = .returned (.tuple #[]) ∧ SWK enc k w0 blk off (Q ++ (sortV (A1 ++ B1) ++ ((A2 ++ B2) ++ S))).toArray w') := by
                  have hh : SWK enc k w0 blk off (Q ++ ((A1 ++ B1) ++ ((A2 ++ B2) ++ S))).toArray wr := S2
                  have l1 := CUT.out.l1
                  have l3 := CUT.out.l3
                  have hz := HD1.out
                  have e1 : Q ++ ((A1 ++ B1) ++ ((A2 ++ B2) ++ S)) = Q ++ (A1 ++ (B1 ++ ((A2 ++ B2) ++ S))) := by simp only [List.append_assoc]
                  rw [e1] at hh
                  exact IH.out Q A1 B1 ((A2 ++ B2) ++ S) a U md wr (by omega) (CUT.out.left hlf.1 hlf.2) hh
                 clear S2
                 go_upto_region 43 with (go_at_fn 139; refine CALL.mono ?_; rintro e w3 ⟨rfl, S3⟩)
                 clear CALL f1 f2
                 by_cases hrt : md < en ∧ en < b
                 · have f1 : (md : Int) < (en : Int) := by omega
                   have f2 : (en : Int) < (b : Int) := by omega
                   have CALL : Aside (Calls P 139 #[.slice (some ⟨blk, off, none⟩) N cap, .int .i64 md, .int .i64 en, .int .i64 b, .func (.func g) #[] cb] w3 fun e w' => e = .returned (.tuple #[]) ∧ SWK enc k w0 blk off (Q ++ (sortV (A ++ B) ++ S)).toArray w') := by
                    have hh : SWK enc k w0 blk off (Q ++ (sortV (A1 ++ B1) ++ ((A2 ++ B2) ++ S))).toArray w3 := S3
                    have l2 := CUT.out.l2
                    have l4 := CUT.out.l4
                    have hz := HD2.out
                    have e1 : Q ++ (sortV (A1 ++ B1) ++ ((A2 ++ B2) ++ S)) = (Q ++ sortV (A1 ++ B1)) ++ (A2 ++ (B2 ++ S)) := by simp only [List.append_assoc]
                    rw [e1] at hh
                    have h := IH.out (Q ++ sortV (A1 ++ B1)) A2 B2 S md en b w3 (by omega) (CUT.out.right (by omega) hrt.2) hh
                    have e2 : (Q ++ sortV (A1 ++ B1)) ++ (sortV (A2 ++ B2) ++ S) = Q ++ (sortV (A ++ B) ++ S) := by rw [← CUT.out.whole]; simp only [List.append_assoc]
                    rw [e2] at h
                    exact h
                   clear S3
                   go_wp2_with (go_at_fn 139; refine CALL.mono ?_; rintro e w4 ⟨rfl, S4⟩)
                   go_end0
                   exact ⟨rfl, S4⟩
                 · have S4 : SWK enc k w0 blk off (Q ++ (sortV (A ++ B) ++ S)).toArray w3 := by
                    have hh : SWK enc k w0 blk off (Q ++ (sortV (A1 ++ B1) ++ ((A2 ++ B2) ++ S))).toArray w3 := S3
                    rw [← CUT.out.noRight (by omega)] at hh
                    have e2 : Q ++ (sortV (A1 ++ B1) ++ (sortV (A2 ++ B2) ++ S)) = Q ++ (sortV (A ++ B) ++ S) := by rw [← CUT.out.whole]; simp only [List.append_assoc]
                    rw [e2] at hh
                    exact hh
                   clear S3
                   by_cases f : md < en
                   · have f1 : (md : Int) < (en : Int) := by omega
                     have f2 : ¬ (en : Int) < (b : Int) := by omega
                     go_wp2_with fail
                     go_end0
                     exact ⟨rfl, S4⟩
                   · have f1 : ¬ (md : Int) < (en : Int) := by omega
                     go_wp2_with fail
                     go_end0
                     exact ⟨rfl, S4⟩
               · have S3 : Aside (SWK enc k w0 blk off (Q ++ (sortV (A1 ++ B1) ++ ((A2 ++ B2) ++ S))).toArray wr) := by
                  have hh : SWK enc k w0 blk off (Q ++ ((A1 ++ B1) ++ ((A2 ++ B2) ++ S))).toArray wr := S2
                  rw [← CUT.out.noLeft (by omega)] at hh
                  exact hh
                 clear S2
                 by_cases f : a < U
                 · have f1 : (a : Int) < (U : Int) := by omega
                   have f2 : ¬ (U : Int) < (md : Int) := by omega
                   go_upto_region 43 with (fail)
                   clear f1 f2
                   by_cases hrt : md < en ∧ en < b
                   · have f1 : (md : Int) < (en : Int) := by omega
                     have f2 : (en : Int) < (b : Int) := by omega
                     have CALL : Aside (Calls P 139 #[.slice (some ⟨blk, off, none⟩) N cap, .int .i64 md, .int .i64 en, .int .i64 b, .func (.func g) #[] cb] wr fun e w' => e = .returned (.tuple #[]) ∧ SWK enc k w0 blk off (Q ++ (sortV (A ++ B) ++ S)).toArray w') := by
                      have hh : SWK enc k w0 blk off (Q ++ (sortV (A1 ++ B1) ++ ((A2 ++ B2) ++ S))).toArray wr := S3
                      have l2 := CUT.out.l2
                      have l4 := CUT.out.l4
                      have hz := HD2.out
                      have e1 : Q ++ (sortV (A1 ++ B1) ++ ((A2 ++ B2) ++ S)) = (Q ++ sortV (A1 ++ B1)) ++ (A2 ++ (B2 ++ S)) := by simp only [List.append_assoc]
                      rw [e1] at hh
                      have h := IH.out (Q ++ sortV (A1 ++ B1)) A2 B2 S md en b wr (by omega) (CUT.out.right (by omega) hrt.2) hh
                      have e2 : (Q ++ sortV (A1 ++ B1)) ++ (sortV (A2 ++ B2) ++ S) = Q ++ (sortV (A ++ B) ++ S) := by rw [← CUT.out.whole]; simp only [List.append_assoc]
                      rw [e2] at h
                      exact h
                     clear S3
                     go_wp2_with (go_at_fn 139; refine CALL.mono ?_; rintro e w4 ⟨rfl, S4⟩)
                     go_end0
                     exact ⟨rfl, S4⟩
                   · have S4 : SWK enc k w0 blk off (Q ++ (sortV (A ++ B) ++ S)).toArray wr := by
                      have hh : SWK enc k w0 blk off (Q ++ (sortV (A1 ++ B1) ++ ((A2 ++ B2) ++ S))).toArray wr := S3
                      rw [← CUT.out.noRight (by omega)] at hh
                      have e2 : Q ++ (sortV (A1 ++ B1) ++ (sortV (A2 ++ B2) ++ S)) = Q ++ (sortV (A ++ B) ++ S) := by rw [← CUT.out.whole]; simp only [List.append_assoc]
                      rw [e2] at hh
                      exact hh
                     clear S3
                     by_cases f : md < en
                     · have f1 : (md : Int) < (en : Int) := by omega
                       have f2 : ¬ (en : Int) < (b : Int) := by omega
                       go_wp2_with fail
                       go_end0
                       exact ⟨rfl, S4⟩
                     · have f1 : ¬ (md : Int) < (en : Int) := by omega
                       go_wp2_with fail
                       go_end0
                       exact ⟨rfl, S4⟩
                 · have f1 : ¬ (a : Int) < (U : Int) := by omega
                   go_upto_region 43 with (fail)
                   clear f1
                   by_cases hrt : md < en ∧ en < b
                   · have f1 : (md : Int) < (en : Int) := by omega
                     have f2 : (en : Int) < (b : Int) := by omega
                     have CALL : Aside (Calls P 139 #[.slice (some ⟨blk, off, none⟩) N cap, .int .i64 md, .int .i64 en, .int .i64 b, .func (.func g) #[] cb] wr fun e w' => e = .returned (.tuple #[]) ∧ SWK enc k w0 blk off (Q ++ (sortV (A ++ B) ++ S)).toArray w') := by
                      have hh : SWK enc k w0 blk off (Q ++ (sortV (A1 ++ B1) ++ ((A2 ++ B2) ++ S))).toArray wr := S3
                      have l2 := CUT.out.l2
                      have l4 := CUT.out.l4
                      have hz := HD2.out
                      have e1 : Q ++ (sortV (A1 ++ B1) ++ ((A2 ++ B2) ++ S)) = (Q ++ sortV (A1 ++ B1)) ++ (A2 ++ (B2 ++ S)) := by simp only [List.append_assoc]
                      rw [e1] at hh
                      have h := IH.out (Q ++ sortV (A1 ++ B1)) A2 B2 S md en b wr (by omega) (CUT.out.right (by omega) hrt.2) hh
                      have e2 : (Q ++ sortV (A1 ++ B1)) ++ (sortV (A2 ++ B2) ++ S) = Q ++ (sortV (A ++ B) ++ S) := by rw [← CUT.out.whole]; simp only [List.append_assoc]
                      rw [e2] at h
                      exact h
                     clear S3
                     go_wp2_with (go_at_fn 139; refine CALL.mono ?_; rintro e w4 ⟨rfl, S4⟩)
                     go_end0
                     exact ⟨rfl, S4⟩
                   · have S4 : SWK enc k w0 blk off (Q ++ (sortV (A ++ B) ++ S)).toArray wr := by
                      have hh : SWK enc k w0 blk off (Q ++ (sortV (A1 ++ B1) ++ ((A2 ++ B2) ++ S))).toArray wr := S3
                      rw [← CUT.out.noRight (by omega)] at hh
                      have e2 : Q ++ (sortV (A1 ++ B1) ++ (sortV (A2 ++ B2) ++ S)) = Q ++ (sortV (A ++ B) ++ S) := by rw [← CUT.out.whole]; simp only [List.append_assoc]
                      rw [e2] at hh
                      exact hh
                     clear S3
                     by_cases f : md < en
                     · have f1 : (md : Int) < (en : Int) := by omega
                       have f2 : ¬ (en : Int) < (b : Int) := by omega
                       go_wp2_with fail
                       go_end0
                       exact ⟨rfl, S4⟩
                     · have f1 : ¬ (md : Int) < (en : Int) := by omega
                       go_wp2_with fail
                       go_end0
                       exact ⟨rfl, S4⟩
      · have hmz : ¬ (md : Int) < (m : Int) := by omega
        have SK : Hid (Seek A B (md - a) (a - a) (m - a)) := by
         have h := Seek.left (A := A) (B := B) (h := md - a) (by rw [HP.out]; omega) (by rw [HQ.out]; omega)
         rw [HP.out] at h
         have e1 : p = m - a := by omega
         rw [e1, ← Nat.sub_self a] at h
         exact h
        go_wp2
        go_loopg [20, 21] b (fun kx s20 s21 wr => ∃ U V : Nat, s20 = .int .i64 (U : Int) ∧ s21 = .int .i64 (V : Int) ∧ a ≤ U ∧ U ≤ V ∧ V ≤ md ∧ V ≤ m ∧ md + m ≤ U + b ∧ V - U ≤ kx ∧ Hid (Seek A B (md - a) (U - a) (V - a)) ∧ Aside (SWK enc k w0 blk off (Q ++ (A ++ (B ++ S))).toArray wr))
        case atStart => exact ⟨a, m, by first | rfl | go_num | (congr 1; omega), rfl, by omega, by omega, by omega, by omega, by omega, by omega, SK, S0⟩
        case round =>
         clear S0 SK
         obtain ⟨U, V, rfl, rfl, haU, hUV, hVd, hVm, hUb, hkx, HS, S1⟩ := hrel
         by_cases hlt : U < V
         · have hltz : (U : Int) < (V : Int) := by omega
           obtain ⟨c, hc⟩ : ∃ c, (U + V) / 2 = c := ⟨_, rfl⟩
           have ec : ((U : Int) + (V : Int)) / 2 = (c : Int) := by omega
           have hUc : U ≤ c := by omega
           have hcV : c < V := by omega
           have hcl : c - a < A.length := by have := HP.out; omega
           have hdl : md - a - 1 - (c - a) < B.length := by have := HQ.out; omega
           obtain ⟨x, hx⟩ : ∃ x, A[c - a] = x := ⟨_, rfl⟩
           obtain ⟨y, hy⟩ : ∃ y, B[md - a - 1 - (c - a)] = y := ⟨_, rfl⟩
           have HX : Hid (A[c - a] = x) := hx
           have HY : Hid (B[md - a - 1 - (c - a)] = y) := hy
           obtain ⟨E, hE⟩ : ∃ E, md + m - 1 - c = E := ⟨_, rfl⟩
           have hEE : Hid (E + c + 1 = md + m) := Lib.hid (by omega)
           have hEN : E < N := by have := HNN.out; omega
           have eE : (md : Int) + (m : Int) - 1 - (c : Int) = (E : Int) := by omega
           have G1 : (Q ++ (A ++ (B ++ S))).toArray[E]! = y := by
            have h := arr_app (Q ++ A) S B (md - a - 1 - (c - a)) E hdl (by have := MM.out.ea; have := MM.out.em; rw [List.length_append]; omega)
            simp only [List.append_assoc] at h
            rw [h, hy]
           have G2 : (Q ++ (A ++ (B ++ S))).toArray[c]! = x := by
            have h := arr_app Q (B ++ S) A (c - a) c hcl (by have := MM.out.ea; omega)
            rw [h, hx]
           have CM : Hid ((evC y x < 0 ↔ RE y x) ∧ x ≠ y) := by
            have hm : x ∈ A := by rw [← hx]; exact List.getElem_mem hcl
            have hm2 : y ∈ B := by rw [← hy]; exact List.getElem_mem hdl
            exact ⟨MM.out.cm x hm y hm2, MM.out.ne x hm y hm2⟩
           clear hc hx hy hE
           go_wp2_with fail
           try rw [ec]
           clear ec
           by_cases hr : RE y x
           · have hv : evC y x < 0 := CM.out.1.2 hr
             have hd : decide (evC y x < 0) = true := decide_eq_true hv
             have HR : Hid (Seek A B (md - a) (U - a) (c - a)) := HS.out.down (by omega) (by omega) hcl hdl (by rw [HX.out, HY.out]; exact hr)
             clear hr HS
             have ea1 : ((E : Int)).toNat = E := by omega
             have pa1 : (0 : Int) ≤ (E : Int) := by omega
             have ba1 : (E : Int) < (N : Int) := by omega
             have ra1 : IntKind.i64.wrap ((E : Int)) = (E : Int) := by rw [IntKind.wrap_i64]; omega
             have eb1 : ((c : Int)).toNat = c := by omega
             have pb1 : (0 : Int) ≤ (c : Int) := by omega
             have bb1 : (c : Int) < (N : Int) := by omega
             have rb1 : IntKind.i64.wrap ((c : Int)) = (c : Int) := by rw [IntKind.wrap_i64]; omega
             have la := S1.out.ld R (HDS.out.trans hs.symm) P E (by rw [HDS.out]; omega)
             have lb := S1.out.ld R (HDS.out.trans hs.symm) P c (by rw [HDS.out]; omega)
             rw [G1] at la
             rw [G2] at lb
             have hcc := S1.out.cmp HC.out HDS.out y x
             clear G1 G2
             go_wp2_with fail
             go_quiet_grown (first | (go_at_fn g; refine Calls.grown_of (hcc _ _)))
             have SV : Aside (SWK enc k w0 blk off (Q ++ (A ++ (B ++ S))).toArray (grow (wr.drewN nq) osq)) := S1.out.grown nq osq
             clear la lb hcc S1
             generalize grow (wr.drewN nq) osq = wv at SV ⊢
             clear nq osq
             go_wp2
             go_roundg (c - U)
             case measure => omega
             case rel => exact ⟨U, c, rfl, rfl, haU, hUc, by omega, by omega, hUb, Nat.le_refl _, HR, SV⟩
           · have hv : ¬ evC y x < 0 := fun h => hr (CM.out.1.1 h)
             have hd : decide (evC y x < 0) = false := decide_eq_false hv
             have HR : Hid (Seek A B (md - a) (c + 1 - a) (V - a)) := by
              have h := HS.out.up (c := c - a) (by omega) (by omega) hcl hdl (by rw [HX.out, HY.out]; exact hr)
              have e1 : c - a + 1 = c + 1 - a := by omega
              rw [e1] at h
              exact h
             clear hr HS
             have ea1 : ((E : Int)).toNat = E := by omega
             have pa1 : (0 : Int) ≤ (E : Int) := by omega
             have ba1 : (E : Int) < (N : Int) := by omega
             have ra1 : IntKind.i64.wrap ((E : Int)) = (E : Int) := by rw [IntKind.wrap_i64]; omega
             have eb1 : ((c : Int)).toNat = c := by omega
             have pb1 : (0 : Int) ≤ (c : Int) := by omega
             have bb1 : (c : Int) < (N : Int) := by omega
             have rb1 : IntKind.i64.wrap ((c : Int)) = (c : Int) := by rw [IntKind.wrap_i64]; omega
             have la := S1.out.ld R (HDS.out.trans hs.symm) P E (by rw [HDS.out]; omega)
             have lb := S1.out.ld R (HDS.out.trans hs.symm) P c (by rw [HDS.out]; omega)
             rw [G1] at la
             rw [G2] at lb
             have hcc := S1.out.cmp HC.out HDS.out y x
             clear G1 G2
             go_wp2_with fail
             go_quiet_grown (first | (go_at_fn g; refine Calls.grown_of (hcc _ _)))
             have SV : Aside (SWK enc k w0 blk off (Q ++ (A ++ (B ++ S))).toArray (grow (wr.drewN nq) osq)) := S1.out.grown nq osq
             clear la lb hcc S1
             generalize grow (wr.drewN nq) osq = wv at SV ⊢
             clear nq osq
             go_wp2
             go_roundg (V - (c + 1))
             case measure => omega
             case rel => exact ⟨c + 1, V, by first | rfl | go_num, rfl, by omega, by omega, hVd, hVm, by omega, Nat.le_refl _, HR, SV⟩
         · obtain rfl : U = V := by omega
           obtain ⟨en, hen⟩ : ∃ e, md + m - U = e := ⟨_, rfl⟩
           have een : (md : Int) + (m : Int) - (U : Int) = (en : Int) := by omega
           have hee : en + U = md + m := by omega
           obtain ⟨A1, A2, B1, B2, cut⟩ := MM.out.cut4 HS.out haU hVm hVd hUb hee
           have CUT : Hid (Cut4 Q A B S A1 A2 B1 B2 a m b N U md en) := cut
           clear cut hen HS
           by_cases hrot : U < m ∧ m < en
           · have f1 : (U : Int) < (m : Int) := by omega
             have f2 : (m : Int) < (en : Int) := by omega
             have CALL : Aside (Calls P 179 #[.slice (some ⟨blk, off, none⟩) N cap, .int .i64 U, .int .i64 m, .int .i64 en, .func (.func g) #[] cb] wr fun e w' => e = .returned (.tuple #[]) ∧ SWK enc k w0 blk off (Q ++ ((A1 ++ B1) ++ ((A2 ++ B2) ++ S))).toArray w') := by
              have hh := S1.out
              have l1 := CUT.out.l1
              have l2 := CUT.out.l2
              have l3 := CUT.out.l3
              have e1 : Q ++ (A ++ (B ++ S)) = (Q ++ A1) ++ (A2 ++ (B1 ++ (B2 ++ S))) := by rw [← CUT.out.eA, ← CUT.out.eB]; simp only [List.append_assoc]
              have hNl := MM.out.hN
              rw [e1] at hh hNl
              have h := sw_rotate L enc g cb blk off cap (Q ++ A1) A2 B1 (B2 ++ S) U m en N d0 w0 wr R hs hNl hh (by omega) (by omega) hsz (by rw [List.length_append, MM.out.ea]; omega) (by omega) (by omega)
              have e2 : (Q ++ A1) ++ (B1 ++ (A2 ++ (B2 ++ S))) = Q ++ ((A1 ++ B1) ++ ((A2 ++ B2) ++ S)) := by simp only [List.append_assoc]
              rw [e2] at h
              exact h
             clear S1
             go_upto_region 41 with (go_at_fn 179; refine CALL.mono ?_; rintro e w1 ⟨rfl, S2⟩)
             clear CALL f1 f2
             by_cases hlf : a < U ∧ U < md
             · have f1 : (a : Int) < (U : Int) := by omega
               have f2 : (U : Int) < (md : Int) := by omega
               have CALL : Aside (Calls P 139 #[.slice (some ⟨blk, off, none⟩) N cap, .int .i64 a, .int .i64 U, .int .i64 md, .func (.func g) #[] cb] w1 fun e w' => e = .returned (.tuple #[]) ∧ SWK enc k w0 blk off (Q ++ (sortV (A1 ++ B1) ++ ((A2 ++ B2) ++ S))).toArray w') := by
                have hh : SWK enc k w0 blk off (Q ++ ((A1 ++ B1) ++ ((A2 ++ B2) ++ S))).toArray w1 := S2
                have l1 := CUT.out.l1
                have l3 := CUT.out.l3
                have hz := HD1.out
                have e1 : Q ++ ((A1 ++ B1) ++ ((A2 ++ B2) ++ S)) = Q ++ (A1 ++ (B1 ++ ((A2 ++ B2) ++ S))) := by simp only [List.append_assoc]
                rw [e1] at hh
                exact IH.out Q A1 B1 ((A2 ++ B2) ++ S) a U md w1 (by omega) (CUT.out.left hlf.1 hlf.2) hh
               clear S2
               go_upto_region 43 with (go_at_fn 139; refine CALL.mono ?_; rintro e w3 ⟨rfl, S3⟩)
               clear CALL f1 f2
               by_cases hrt : md < en ∧ en < b
               · have f1 : (md : Int) < (en : Int) := by omega
                 have f2 : (en : Int) < (b : Int) := by omega
                 have CALL : Aside (Calls P 139 #[.slice (some ⟨blk, off, none⟩) N cap, .int .i64 md, .int .i64 en, .int .i64 b, .func (.func g) #[] cb] w3 fun e w' => e = .returned (.tuple #[]) ∧ SWK enc k w0 blk off (Q ++ (sortV (A ++ B) ++ S)).toArray w') := by
                  have hh : SWK enc k w0 blk off (Q ++ (sortV (A1 ++ B1) ++ ((A2 ++ B2) ++ S))).toArray w3 := S3
                  have l2 := CUT.out.l2
                  have l4 := CUT.out.l4
                  have hz := HD2.out
                  have e1 : Q ++ (sortV (A1 ++ B1) ++ ((A2 ++ B2) ++ S)) = (Q ++ sortV (A1 ++ B1)) ++ (A2 ++ (B2 ++ S)) := by simp only [List.append_assoc]
                  rw [e1] at hh
                  have h := IH.out (Q ++ sortV (A1 ++ B1)) A2 B2 S md en b w3 (by omega) (CUT.out.right (by omega) hrt.2) hh
                  have e2 : (Q ++ sortV (A1 ++ B1)) ++ (sortV (A2 ++ B2) ++ S) = Q ++ (sortV (A ++ B) ++ S) := by rw [← CUT.out.whole]; simp only [List.append_assoc]
                  rw [e2] at h
                  exact h
                 clear S3
                 go_wp2_with (go_at_fn 139; refine CALL.mono ?_; rintro e w4 ⟨rfl, S4⟩)
                 go_end0
                 exact ⟨rfl, S4⟩
               · have S4 : SWK enc k w0 blk off (Q ++ (sortV (A ++ B) ++ S)).toArray w3 := by
                  have hh : SWK enc k w0 blk off (Q ++ (sortV (A1 ++ B1) ++ ((A2 ++ B2) ++ S))).toArray w3 := S3
                  rw [← CUT.out.noRight (by omega)] at hh
                  have e2 : Q ++ (sortV (A1 ++ B1) ++ (sortV (A2 ++ B2) ++ S)) = Q ++ (sortV (A ++ B) ++ S) := by rw [← CUT.out.whole]; simp only [List.append_assoc]
                  rw [e2] at hh
                  exact hh
                 clear S3
                 by_cases f : md < en
                 · have f1 : (md : Int) < (en : Int) := by omega
                   have f2 : ¬ (en : Int) < (b : Int) := by omega
                   go_wp2_with fail
                   go_end0
                   exact ⟨rfl, S4⟩
                 · have f1 : ¬ (md : Int) < (en : Int) := by omega
                   go_wp2_with fail
                   go_end0
                   exact ⟨rfl, S4⟩
             · have S3 : Aside (SWK enc k w0 blk off (Q ++ (sortV (A1 ++ B1) ++ ((A2 ++ B2) ++ S))).toArray w1) := by
                have hh : SWK enc k w0 blk off (Q ++ ((A1 ++ B1) ++ ((A2 ++ B2) ++ S))).toArray w1 := S2
                rw [← CUT.out.noLeft (by omega)] at hh
                exact hh
               clear S2
               by_cases f : a < U
               · have f1 : (a : Int) < (U : Int) := by omega
                 have f2 : ¬ (U : Int) < (md : Int) := by omega
                 go_upto_region 43 with (fail)
                 clear f1 f2
                 by_cases hrt : md < en ∧ en < b
                 · have f1 : (md : Int) < (en : Int) := by omega
                   have f2 : (en : Int) < (b : Int) := by omega
                   have CALL : Aside (Calls P 139 #[.slice (some ⟨blk, off, none⟩) N cap, .int .i64 md, .int .i64 en, .int .i64 b, .func (.func g) #[] cb] w1 fun e w' => e = .returned (.tuple #[]) ∧ SWK enc k w0 blk off (Q ++ (sortV (A ++ B) ++ S)).toArray w') := by
                    have hh : SWK enc k w0 blk off (Q ++ (sortV (A1 ++ B1) ++ ((A2 ++ B2) ++ S))).toArray w1 := S3
                    have l2 := CUT.out.l2
                    have l4 := CUT.out.l4
                    have hz := HD2.out
                    have e1 : Q ++ (sortV (A1 ++ B1) ++ ((A2 ++ B2) ++ S)) = (Q ++ sortV (A1 ++ B1)) ++ (A2 ++ (B2 ++ S)) := by simp only [List.append_assoc]
                    rw [e1] at hh
                    have h := IH.out (Q ++ sortV (A1 ++ B1)) A2 B2 S md en b w1 (by omega) (CUT.out.right (by omega) hrt.2) hh
                    have e2 : (Q ++ sortV (A1 ++ B1)) ++ (sortV (A2 ++ B2) ++ S) = Q ++ (sortV (A ++ B) ++ S) := by rw [← CUT.out.whole]; simp only [List.append_assoc]
                    rw [e2] at h
                    exact h
                   clear S3
                   go_wp2_with (go_at_fn 139; refine CALL.mono ?_; rintro e w4 ⟨rfl, S4⟩)
                   go_end0
                   exact ⟨rfl, S4⟩
                 · have S4 : SWK enc k w0 blk off (Q ++ (sortV (A ++ B) ++ S)).toArray w1 := by
                    have hh : SWK enc k w0 blk off (Q ++ (sortV (A1 ++ B1) ++ ((A2 ++ B2) ++ S))).toArray w1 := S3
                    rw [← CUT.out.noRight (by omega)] at hh
                    have e2 : Q ++ (sortV (A1 ++ B1) ++ (sortV (A2 ++ B2) ++ S)) = Q ++ (sortV (A ++ B) ++ S) := by rw [← CUT.out.whole]; simp only [List.append_assoc]
                    rw [e2] at hh
                    exact hh
                   clear S3
                   by_cases f : md < en
                   · have f1 : (md : Int) < (en : Int) := by omega
                     have f2 : ¬ (en : Int) < (b : Int) := by omega
                     go_wp2_with fail
                     go_end0
                     exact ⟨rfl, S4⟩
                   · have f1 : ¬ (md : Int) < (en : Int) := by omega
                     go_wp2_with fail
                     go_end0
                     exact ⟨rfl, S4⟩
               · have f1 : ¬ (a : Int) < (U : Int) := by omega
                 go_upto_region 43 with (fail)
                 clear f1
                 by_cases hrt : md < en ∧ en < b
                 · have f1 : (md : Int) < (en : Int) := by omega
                   have f2 : (en : Int) < (b : Int) := by omega
                   have CALL : Aside (Calls P 139 #[.slice (some ⟨blk, off, none⟩) N cap, .int .i64 md, .int .i64 en, .int .i64 b, .func (.func g) #[] cb] w1 fun e w' => e = .returned (.tuple #[]) ∧ SWK enc k w0 blk off (Q ++ (sortV (A ++ B) ++ S)).toArray w') := by
                    have hh : SWK enc k w0 blk off (Q ++ (sortV (A1 ++ B1) ++ ((A2 ++ B2) ++ S))).toArray w1 := S3
                    have l2 := CUT.out.l2
                    have l4 := CUT.out.l4
                    have hz := HD2.out
                    have e1 : Q ++ (sortV (A1 ++ B1) ++ ((A2 ++ B2) ++ S)) = (Q ++ sortV (A1 ++ B1)) ++ (A2 ++ (B2 ++ S)) := by simp only [List.append_assoc]
                    rw [e1] at hh
                    have h := IH.out (Q ++ sortV (A1 ++ B1)) A2 B2 S md en b w1 (by omega) (CUT.out.right (by omega) hrt.2) hh
                    have e2 : (Q ++ sortV (A1 ++ B1)) ++ (sortV (A2 ++ B2) ++ S) = Q ++ (sortV (A ++ B) ++ S) := by rw [← CUT.out.whole]; simp only [List.append_assoc]
                    rw [e2] at h
                    exact h
                   clear S3
                   go_wp2_with (go_at_fn 139; refine CALL.mono ?_; rintro e w4 ⟨rfl, S4⟩)
                   go_end0
                   exact ⟨rfl, S4⟩
                 · have S4 : SWK enc k w0 blk off (Q ++ (sortV (A ++ B) ++ S)).toArray w1 := by
                    have hh : SWK enc k w0 blk off (Q ++ (sortV (A1 ++ B1) ++ ((A2 ++ B2) ++ S))).toArray w1 := S3
                    rw [← CUT.out.noRight (by omega)] at hh
                    have e2 : Q ++ (sortV (A1 ++ B1) ++ (sortV (A2 ++ B2) ++ S)) = Q ++ (sortV (A ++ B) ++ S) := by rw [← CUT.out.whole]; simp only [List.append_assoc]
                    rw [e2] at hh
                    exact hh
                   clear S3
                   by_cases f : md < en
                   · have f1 : (md : Int) < (en : Int) := by omega
                     have f2 : ¬ (en : Int) < (b : Int) := by omega
                     go_wp2_with fail
                     go_end0
                     exact ⟨rfl, S4⟩
                   · have f1 : ¬ (md : Int) < (en : Int) := by omega
                     go_wp2_with fail
                     go_end0
                     exact ⟨rfl, S4⟩
           · have S2 : Aside (SWK enc k w0 blk off (Q ++ ((A1 ++ B1) ++ ((A2 ++ B2) ++ S))).toArray wr) := by
              have hh := S1.out
              rw [CUT.out.turned (by omega)] at hh
              exact hh
             clear S1
             by_cases f : U < m
             · have f1 : (U : Int) < (m : Int) := by omega
               have f2 : ¬ (m : Int) < (en : Int) := by omega
               go_upto_region 41 with (fail)
               clear f1 f2
               by_cases hlf : a < U ∧ U < md
               · have f1 : (a : Int) < (U : Int) := by omega
                 have f2 : (U : Int) < (md : Int) := by omega
                 have CALL : Aside (Calls P 139 #[.slice (some ⟨blk, off, none⟩) N cap, .int .i64 a, .int .i64 U, .int .i64 md, .func (.func g) #[] cb] wr fun e w' => e = .returned (.tuple #[]) ∧ SWK enc k w0 blk off (Q ++ (sortV (A1 ++ B1) ++ ((A2 ++ B2) ++ S))).toArray w') := by
                  have hh : SWK enc k w0 blk off (Q ++ ((A1 ++ B1) ++ ((A2 ++ B2) ++ S))).toArray wr := S2
                  have l1 := CUT.out.l1
                  have l3 := CUT.out.l3
                  have hz := HD1.out
                  have e1 : Q ++ ((A1 ++ B1) ++ ((A2 ++ B2) ++ S)) = Q ++ (A1 ++ (B1 ++ ((A2 ++ B2) ++ S))) := by simp only [List.append_assoc]
                  rw [e1] at hh
                  exact IH.out Q A1 B1 ((A2 ++ B2) ++ S) a U md wr (by omega) (CUT.out.left hlf.1 hlf.2) hh
                 clear S2
                 go_upto_region 43 with (go_at_fn 139; refine CALL.mono ?_; rintro e w3 ⟨rfl, S3⟩)
                 clear CALL f1 f2
                 by_cases hrt : md < en ∧ en < b
                 · have f1 : (md : Int) < (en : Int) := by omega
                   have f2 : (en : Int) < (b : Int) := by omega
                   have CALL : Aside (Calls P 139 #[.slice (some ⟨blk, off, none⟩) N cap, .int .i64 md, .int .i64 en, .int .i64 b, .func (.func g) #[] cb] w3 fun e w' => e = .returned (.tuple #[]) ∧ SWK enc k w0 blk off (Q ++ (sortV (A ++ B) ++ S)).toArray w') := by
                    have hh : SWK enc k w0 blk off (Q ++ (sortV (A1 ++ B1) ++ ((A2 ++ B2) ++ S))).toArray w3 := S3
                    have l2 := CUT.out.l2
                    have l4 := CUT.out.l4
                    have hz := HD2.out
                    have e1 : Q ++ (sortV (A1 ++ B1) ++ ((A2 ++ B2) ++ S)) = (Q ++ sortV (A1 ++ B1)) ++ (A2 ++ (B2 ++ S)) := by simp only [List.append_assoc]
                    rw [e1] at hh
                    have h := IH.out (Q ++ sortV (A1 ++ B1)) A2 B2 S md en b w3 (by omega) (CUT.out.right (by omega) hrt.2) hh
                    have e2 : (Q ++ sortV (A1 ++ B1)) ++ (sortV (A2 ++ B2) ++ S) = Q ++ (sortV (A ++ B) ++ S) := by rw [← CUT.out.whole]; simp only [List.append_assoc]
                    rw [e2] at h
                    exact h
                   clear S3
                   go_wp2_with (go_at_fn 139; refine CALL.mono ?_; rintro e w4 ⟨rfl, S4⟩)
                   go_end0
                   exact ⟨rfl, S4⟩
                 · have S4 : SWK enc k w0 blk off (Q ++ (sortV (A ++ B) ++ S)).toArray w3 := by
                    have hh : SWK enc k w0 blk off (Q ++ (sortV (A1 ++ B1) ++ ((A2 ++ B2) ++ S))).toArray w3 := S3
                    rw [← CUT.out.noRight (by omega)] at hh
                    have e2 : Q ++ (sortV (A1 ++ B1) ++ (sortV (A2 ++ B2) ++ S)) = Q ++ (sortV (A ++ B) ++ S) := by rw [← CUT.out.whole]; simp only [List.append_assoc]
                    rw [e2] at hh
                    exact hh
                   clear S3
                   by_cases f : md < en
                   · have f1 : (md : Int) < (en : Int) := by omega
                     have f2 : ¬ (en : Int) < (b : Int) := by omega
                     go_wp2_with fail
                     go_end0
                     exact ⟨rfl, S4⟩
                   · have f1 : ¬ (md : Int) < (en : Int) := by omega
                     go_wp2_with fail
                     go_end0
                     exact ⟨rfl, S4⟩
               · have S3 : Aside (SWK enc k w0 blk off (Q ++ (sortV (A1 ++ B1) ++ ((A2 ++ B2) ++ S))).toArray wr) := by
                  have hh : SWK enc k w0 blk off (Q ++ ((A1 ++ B1) ++ ((A2 ++ B2) ++ S))).toArray wr := S2
                  rw [← CUT.out.noLeft (by omega)] at hh
                  exact hh
                 clear S2
                 by_cases f : a < U
                 · have f1 : (a : Int) < (U : Int) := by omega
                   have f2 : ¬ (U : Int) < (md : Int) := by omega
                   go_upto_region 43 with (fail)
                   clear f1 f2
                   by_cases hrt : md < en ∧ en < b
                   · have f1 : (md : Int) < (en : Int) := by omega
                     have f2 : (en : Int) < (b : Int) := by omega
                     have CALL : Aside (Calls P 139 #[.slice (some ⟨blk, off, none⟩) N cap, .int .i64 md, .int .i64 en, .int .i64 b, .func (.func g) #[] cb] wr fun e w' => e = .returned (.tuple #[]) ∧ SWK enc k w0 blk off (Q ++ (sortV (A ++ B) ++ S)).toArray w') := by
                      have hh : SWK enc k w0 blk off (Q ++ (sortV (A1 ++ B1) ++ ((A2 ++ B2) ++ S))).toArray wr := S3
                      have l2 := CUT.out.l2
                      have l4 := CUT.out.l4
                      have hz := HD2.out
                      have e1 : Q ++ (sortV (A1 ++ B1) ++ ((A2 ++ B2) ++ S)) = (Q ++ sortV (A1 ++ B1)) ++ (A2 ++ (B2 ++ S)) := by simp only [List.append_assoc]
                      rw [e1] at hh
                      have h := IH.out (Q ++ sortV (A1 ++ B1)) A2 B2 S md en b wr (by omega) (CUT.out.right (by omega) hrt.2) hh
                      have e2 : (Q ++ sortV (A1 ++ B1)) ++ (sortV (A2 ++ B2) ++ S) = Q ++ (sortV (A ++ B) ++ S) := by rw [← CUT.out.whole]; simp only [List.append_assoc]
                      rw [e2] at h
                      exact h
                     clear S3
                     go_wp2_with (go_at_fn 139; refine CALL.mono ?_; rintro e w4 ⟨rfl, S4⟩)
                     go_end0
                     exact ⟨rfl, S4⟩
                   · have S4 : SWK enc k w0 blk off (Q ++ (sortV (A ++ B) ++ S)).toArray wr := by
                      have hh : SWK enc k w0 blk off (Q ++ (sortV (A1 ++ B1) ++ ((A2 ++ B2) ++ S))).toArray wr := S3
                      rw [← CUT.out.noRight (by omega)] at hh
                      have e2 : Q ++ (sortV (A1 ++ B1) ++ (sortV (A2 ++ B2) ++ S)) = Q ++ (sortV (A ++ B) ++ S) := by rw [← CUT.out.whole]; simp only [List.append_assoc]
                      rw [e2] at hh
                      exact hh
                     clear S3
                     by_cases f : md < en
                     · have f1 : (md : Int) < (en : Int) := by omega
                       have f2 : ¬ (en : Int) < (b : Int) := by omega
                       go_wp2_with fail
                       go_end0
                       exact ⟨rfl, S4⟩
                     · have f1 : ¬ (md : Int) < (en : Int) := by omega
                       go_wp2_with fail
                       go_end0
                       exact ⟨rfl, S4⟩
                 · have f1 : ¬ (a : Int) < (U : Int) := by omega
                   go_upto_region 43 with (fail)
                   clear f1
                   by_cases hrt : md < en ∧ en < b
                   · have f1 : (md : Int) < (en : Int) := by omega
                     have f2 : (en : Int) < (b : Int) := by omega
                     have CALL : Aside (Calls P 139 #[.slice (some ⟨blk, off, none⟩) N cap, .int .i64 md, .int .i64 en, .int .i64 b, .func (.func g) #[] cb] wr fun e w' => e = .returned (.tuple #[]) ∧ SWK enc k w0 blk off (Q ++ (sortV (A ++ B) ++ S)).toArray w') := by
                      have hh : SWK enc k w0 blk off (Q ++ (sortV (A1 ++ B1) ++ ((A2 ++ B2) ++ S))).toArray wr := S3
                      have l2 := CUT.out.l2
                      have l4 := CUT.out.l4
                      have hz := HD2.out
                      have e1 : Q ++ (sortV (A1 ++ B1) ++ ((A2 ++ B2) ++ S)) = (Q ++ sortV (A1 ++ B1)) ++ (A2 ++ (B2 ++ S)) := by simp only [List.append_assoc]
                      rw [e1] at hh
                      have h := IH.out (Q ++ sortV (A1 ++ B1)) A2 B2 S md en b wr (by omega) (CUT.out.right (by omega) hrt.2) hh
                      have e2 : (Q ++ sortV (A1 ++ B1)) ++ (sortV (A2 ++ B2) ++ S) = Q ++ (sortV (A ++ B) ++ S) := by rw [← CUT.out.whole]; simp only [List.append_assoc]
                      rw [e2] at h
                      exact h
                     clear S3
                     go_wp2_with (go_at_fn 139; refine CALL.mono ?_; rintro e w4 ⟨rfl, S4⟩)
                     go_end0
                     exact ⟨rfl, S4⟩
                   · have S4 : SWK enc k w0 blk off (Q ++ (sortV (A ++ B) ++ S)).toArray wr := by
                      have hh : SWK enc k w0 blk off (Q ++ (sortV (A1 ++ B1) ++ ((A2 ++ B2) ++ S))).toArray wr := S3
                      rw [← CUT.out.noRight (by omega)] at hh
                      have e2 : Q ++ (sortV (A1 ++ B1) ++ (sortV (A2 ++ B2) ++ S)) = Q ++ (sortV (A ++ B) ++ S) := by rw [← CUT.out.whole]; simp only [List.append_assoc]
                      rw [e2] at hh
                      exact hh
                     clear S3
                     by_cases f : md < en
                     · have f1 : (md : Int) < (en : Int) := by omega
                       have f2 : ¬ (en : Int) < (b : Int) := by omega
                       go_wp2_with fail
                       go_end0
                       exact ⟨rfl, S4⟩
                     · have f1 : ¬ (md : Int) < (en : Int) := by omega
                       go_wp2_with fail
                       go_end0
                       exact ⟨rfl, S4⟩
             · have f1 : ¬ (U : Int) < (m : Int) := by omega
               go_upto_region 41 with (fail)
               clear f1
               by_cases hlf : a < U ∧ U < md
               · have f1 : (a : Int) < (U : Int) := by omega
                 have f2 : (U : Int) < (md : Int) := by omega
                 have CALL : Aside (Calls P 139 #[.slice (some ⟨blk, off, none⟩) N cap, .int .i64 a, .int .i64 U, .int .i64 md, .func (.func g) #[] cb] wr fun e w' => e = .returned (.tuple #[]) ∧ SWK enc k w0 blk off (Q ++ (sortV (A1 ++ B1) ++ ((A2 ++ B2) ++ S))).toArray w') := by
                  have hh : SWK enc k w0 blk off (Q ++ ((A1 ++ B1) ++ ((A2 ++ B2) ++ S))).toArray wr := S2
                  have l1 := CUT.out.l1
                  have l3 := CUT.out.l3
                  have hz := HD1.out
                  have e1 : Q ++ ((A1 ++ B1) ++ ((A2 ++ B2) ++ S)) = Q ++ (A1 ++ (B1 ++ ((A2 ++ B2) ++ S))) := by simp only [List.append_assoc]
                  rw [e1] at hh
                  exact IH.out Q A1 B1 ((A2 ++ B2) ++ S) a U md wr (by omega) (CUT.out.left hlf.1 hlf.2) hh
                 clear S2
                 go_upto_region 43 with (go_at_fn 139; refine CALL.mono ?_; rintro e w3 ⟨rfl, S3⟩)
                 clear CALL f1 f2
                 by_cases hrt : md < en ∧ en < b
                 · have f1 : (md : Int) < (en : Int) := by omega
                   have f2 : (en : Int) < (b : Int) := by omega
                   have CALL : Aside (Calls P 139 #[.slice (some ⟨blk, off, none⟩) N cap, .int .i64 md, .int .i64 en, .int .i64 b, .func (.func g) #[] cb] w3 fun e w' => e = .returned (.tuple #[]) ∧ SWK enc k w0 blk off (Q ++ (sortV (A ++ B) ++ S)).toArray w') := by
                    have hh : SWK enc k w0 blk off (Q ++ (sortV (A1 ++ B1) ++ ((A2 ++ B2) ++ S))).toArray w3 := S3
                    have l2 := CUT.out.l2
                    have l4 := CUT.out.l4
                    have hz := HD2.out
                    have e1 : Q ++ (sortV (A1 ++ B1) ++ ((A2 ++ B2) ++ S)) = (Q ++ sortV (A1 ++ B1)) ++ (A2 ++ (B2 ++ S)) := by simp only [List.append_assoc]
                    rw [e1] at hh
                    have h := IH.out (Q ++ sortV (A1 ++ B1)) A2 B2 S md en b w3 (by omega) (CUT.out.right (by omega) hrt.2) hh
                    have e2 : (Q ++ sortV (A1 ++ B1)) ++ (sortV (A2 ++ B2) ++ S) = Q ++ (sortV (A ++ B) ++ S) := by rw [← CUT.out.whole]; simp only [List.append_assoc]
                    rw [e2] at h
                    exact h
                   clear S3
                   go_wp2_with (go_at_fn 139; refine CALL.mono ?_; rintro e w4 ⟨rfl, S4⟩)
                   go_end0
                   exact ⟨rfl, S4⟩
                 · have S4 : SWK enc k w0 blk off (Q ++ (sortV (A ++ B) ++ S)).toArray w3 := by
                    have hh : SWK enc k w0 blk off (Q ++ (sortV (A1 ++ B1) ++ ((A2 ++ B2) ++ S))).toArray w3 := S3
                    rw [← CUT.out.noRight (by omega)] at hh
                    have e2 : Q ++ (sortV (A1 ++ B1) ++ (sortV (A2 ++ B2) ++ S)) = Q ++ (sortV (A ++ B) ++ S) := by rw [← CUT.out.whole]; simp only [List.append_assoc]
                    rw [e2] at hh
                    exact hh
                   clear S3
                   by_cases f : md < en
                   · have f1 : (md : Int) < (en : Int) := by omega
                     have f2 : ¬ (en : Int) < (b : Int) := by omega
                     go_wp2_with fail
                     go_end0
                     exact ⟨rfl, S4⟩
                   · have f1 : ¬ (md : Int) < (en : Int) := by omega
                     go_wp2_with fail
                     go_end0
                     exact ⟨rfl, S4⟩
               · have S3 : Aside (SWK enc k w0 blk off (Q ++ (sortV (A1 ++ B1) ++ ((A2 ++ B2) ++ S))).toArray wr) := by
                  have hh : SWK enc k w0 blk off (Q ++ ((A1 ++ B1) ++ ((A2 ++ B2) ++ S))).toArray wr := S2
                  rw [← CUT.out.noLeft (by omega)] at hh
                  exact hh
                 clear S2
                 by_cases f : a < U
                 · have f1 : (a : Int) < (U : Int) := by omega
                   have f2 : ¬ (U : Int) < (md : Int) := by omega
                   go_upto_region 43 with (fail)
                   clear f1 f2
                   by_cases hrt : md < en ∧ en < b
                   · have f1 : (md : Int) < (en : Int) := by omega
                     have f2 : (en : Int) < (b : Int) := by omega
                     have CALL : Aside (Calls P 139 #[.slice (some ⟨blk, off, none⟩) N cap, .int .i64 md, .int .i64 en, .int .i64 b, .func (.func g) #[] cb] wr fun e w' => e = .returned (.tuple #[]) ∧ SWK enc k w0 blk off (Q ++ (sortV (A ++ B) ++ S)).toArray w') := by
                      have hh : SWK enc k w0 blk off (Q ++ (sortV (A1 ++ B1) ++ ((A2 ++ B2) ++ S))).toArray wr := S3
                      have l2 := CUT.out.l2
                      have l4 := CUT.out.l4
                      have hz := HD2.out
                      have e1 : Q ++ (sortV (A1 ++ B1) ++ ((A2 ++ B2) ++ S)) = (Q ++ sortV (A1 ++ B1)) ++ (A2 ++ (B2 ++ S)) := by simp only [List.append_assoc]
                      rw [e1] at hh
                      have h := IH.out (Q ++ sortV (A1 ++ B1)) A2 B2 S md en b wr (by omega) (CUT.out.right (by omega) hrt.2) hh
                      have e2 : (Q ++ sortV (A1 ++ B1)) ++ (sortV (A2 ++ B2) ++ S) = Q ++ (sortV (A ++ B) ++ S) := by rw [← CUT.out.whole]; simp only [List.append_assoc]
                      rw [e2] at h
                      exact h
                     clear S3
                     go_wp2_with (go_at_fn 139; refine CALL.mono ?_; rintro e w4 ⟨rfl, S4⟩)
                     go_end0
                     exact ⟨rfl, S4⟩
                   · have S4 : SWK enc k w0 blk off (Q ++ (sortV (A ++ B) ++ S)).toArray wr := by
                      have hh : SWK enc k w0 blk off (Q ++ (sortV (A1 ++ B1) ++ ((A2 ++ B2) ++ S))).toArray wr := S3
                      rw [← CUT.out.noRight (by omega)] at hh
                      have e2 : Q ++ (sortV (A1 ++ B1) ++ (sortV (A2 ++ B2) ++ S)) = Q ++ (sortV (A ++ B) ++ S) := by rw [← CUT.out.whole]; simp only [List.append_assoc]
                      rw [e2] at hh
                      exact hh
                     clear S3
                     by_cases f : md < en
                     · have f1 : (md : Int) < (en : Int) := by omega
                       have f2 : ¬ (en : Int) < (b : Int) := by omega
                       go_wp2_with fail
                       go_end0
                       exact ⟨rfl, S4⟩
                     · have f1 : ¬ (md : Int) < (en : Int) := by omega
                       go_wp2_with fail
                       go_end0
                       exact ⟨rfl, S4⟩
                 · have f1 : ¬ (a : Int) < (U : Int) := by omega
                   go_upto_region 43 with (fail)
                   clear f1
                   by_cases hrt : md < en ∧ en < b
                   · have f1 : (md : Int) < (en : Int) := by omega
                     have f2 : (en : Int) < (b : Int) := by omega
                     have CALL : Aside (Calls P 139 #[.slice (some ⟨blk, off, none⟩) N cap, .int .i64 md, .int .i64 en, .int .i64 b, .func (.func g) #[] cb] wr fun e w' => e = .returned (.tuple #[]) ∧ SWK enc k w0 blk off (Q ++ (sortV (A ++ B) ++ S)).toArray w') := by
                      have hh : SWK enc k w0 blk off (Q ++ (sortV (A1 ++ B1) ++ ((A2 ++ B2) ++ S))).toArray wr := S3
                      have l2 := CUT.out.l2
                      have l4 := CUT.out.l4
                      have hz := HD2.out
                      have e1 : Q ++ (sortV (A1 ++ B1) ++ ((A2 ++ B2) ++ S)) = (Q ++ sortV (A1 ++ B1)) ++ (A2 ++ (B2 ++ S)) := by simp only [List.append_assoc]
                      rw [e1] at hh
                      have h := IH.out (Q ++ sortV (A1 ++ B1)) A2 B2 S md en b wr (by omega) (CUT.out.right (by omega) hrt.2) hh
                      have e2 : (Q ++ sortV (A1 ++ B1)) ++ (sortV (A2 ++ B2) ++ S) = Q ++ (sortV (A ++ B) ++ S) := by rw [← CUT.out.whole]; simp only [List.append_assoc]
                      rw [e2] at h
                      exact h
                     clear S3
                     go_wp2_with (go_at_fn 139; refine CALL.mono ?_; rintro e w4 ⟨rfl, S4⟩)
                     go_end0
                     exact ⟨rfl, S4⟩
                   · have S4 : SWK enc k w0 blk off (Q ++ (sortV (A ++ B) ++ S)).toArray wr := by
                      have hh : SWK enc k w0 blk off (Q ++ (sortV (A1 ++ B1) ++ ((A2 ++ B2) ++ S))).toArray wr := S3
                      rw [← CUT.out.noRight (by omega)] at hh
                      have e2 : Q ++ (sortV (A1 ++ B1) ++ (sortV (A2 ++ B2) ++ S)) = Q ++ (sortV (A ++ B) ++ S) := by rw [← CUT.out.whole]; simp only [List.append_assoc]
                      rw [e2] at hh
                      exact hh
                     clear S3
                     by_cases f : md < en
                     · have f1 : (md : Int) < (en : Int) := by omega
                       have f2 : ¬ (en : Int) < (b : Int) := by omega
                       go_wp2_with fail
                       go_end0
                       exact ⟨rfl, S4⟩
                     · have f1 : ¬ (md : Int) < (en : Int) := by omega
                       go_wp2_with fail
                       go_end0
                       exact ⟨rfl, S4⟩
end Go.Proofs.YtjlliohjeiclaaaGreatDoor
