
/- Walks: the law's whole, in. -/
import Derived.Test.YtikdlhbamdefaaaLwA
import Derived.Test.YtikdlhbamdefaaaPmSI
import Derived.Laws.Cover1
namespace Go.Proofs.Ytikdlhbamdefaaa
open Go.RowKit Pm
theorem Pm.root_items {t : Tr Int} {b : Nat} {l r : Tr Int} {k : ByteArray} {v : Int} (h : t = .node b l k v r) : (k, v) ∈ items t := by subst h; simp [items]
set_option maxRecDepth 100000 in
set_option maxHeartbeats 4000000 in
theorem lw_whole : ∀ (t : Tr Int) (d : Int) (w : World), AtI w t → Bal t → Srt (items t) → sz t ≤ 1073741824 → 0 ≤ d → d + (ht t : Int) ≤ 61 →
    Calls Try.prog 34 #[.pointer (pa t), .int .i64 d] w fun e w' => e = .returned (.tuple #[.int .i64 (ht t : Int), .int .i64 (sz t : Int)]) ∧ w = w' := by
  intro t
  induction t with
  | nil =>
    intro d w _ _ _ _ _ _
    change Calls _ _ #[.pointer none, _] w _
    go_enter Try.func34, Try.ntmps34
    go_wp2_with fail
    go_ret2
    exact ⟨rfl, rfl⟩
  | node b l k v r ih1 ih2 =>
    intro d w h hb hs hz h0 hd
    obtain ⟨b1, b2, b3, b4⟩ := hb
    obtain ⟨s1, s2, s3⟩ := srt_append.1 hs
    obtain ⟨s4, s5⟩ := srt_cons.1 s2
    obtain ⟨pl, hpl⟩ : ∃ p, pa l = p := ⟨_, rfl⟩
    obtain ⟨pr, hpr⟩ : ∃ p, pa r = p := ⟨_, rfl⟩
    have hll : Hid (pl = none ∨ ∃ a kl, pl = some ⟨a, 0, none⟩ ∧ Calls Try.prog 22 #[.pointer (some ⟨a, 0, none⟩)] w (fun e w' => e = .returned (.string kl) ∧ w = w') ∧ Op.bytesLess kl.toList k.toList = true) := Lib.hid (by
      rw [← hpl]
      rcases l with _ | ⟨b', l', k', v', r'⟩
      · exact .inl rfl
      · exact .inr ⟨b', k', rfl, pm_KeyI (.node b' l' k' v' r') w h.2.1, s3 _ (root_items rfl) _ List.mem_cons_self⟩)
    have hrr : Hid (pr = none ∨ ∃ a kl, pr = some ⟨a, 0, none⟩ ∧ Calls Try.prog 22 #[.pointer (some ⟨a, 0, none⟩)] w (fun e w' => e = .returned (.string kl) ∧ w = w') ∧ Op.bytesLess kl.toList k.toList = false ∧ (kl.toList == k.toList) = false) := Lib.hid (by
      rw [← hpr]
      rcases r with _ | ⟨b', l', k', v', r'⟩
      · exact .inl rfl
      · have hlt := s4 _ (root_items (t := .node b' l' k' v' r') rfl)
        exact .inr ⟨b', k', rfl, pm_KeyI (.node b' l' k' v' r') w h.2.2, klt_asymm hlt, beq_eq_false_iff_ne.2 fun e => klt_ne hlt (ByteArray.ext (Array.ext' (by rw [ByteArray.toList_eq, ByteArray.toList_eq] at e; exact e.symm)))⟩)
    simp only [ht, sz] at hd hz
    have I1 := Lib.hid (ih1 (d + 1) w h.2.1 b1 s1 (by omega) (by omega) (by omega))
    have I2 := Lib.hid (ih2 (d + 1) w h.2.2 b2 s5 (by omega) (by omega) (by omega))
    have CL : Hid (Calls Try.prog 20 #[.pointer (some ⟨b, 0, none⟩)] w fun e w' => e = .returned (.pointer pl) ∧ w = w') := Lib.hid (by rw [← hpl]; exact pm_LeftI (.node b l k v r) w h)
    have CR : Hid (Calls Try.prog 21 #[.pointer (some ⟨b, 0, none⟩)] w fun e w' => e = .returned (.pointer pr) ∧ w = w') := Lib.hid (by rw [← hpr]; exact pm_RightI (.node b l k v r) w h)
    have CK : Hid (Calls Try.prog 22 #[.pointer (some ⟨b, 0, none⟩)] w fun e w' => e = .returned (.string k) ∧ w = w') := Lib.hid (pm_KeyI (.node b l k v r) w h)
    obtain ⟨x, hx⟩ : ∃ x, ht l = x := ⟨_, rfl⟩
    obtain ⟨y, hy⟩ : ∃ y, ht r = y := ⟨_, rfl⟩
    obtain ⟨p, hp⟩ : ∃ x, sz l = x := ⟨_, rfl⟩
    obtain ⟨q, hq⟩ : ∃ y, sz r = y := ⟨_, rfl⟩
    obtain ⟨mx, hmx⟩ : ∃ mx : Nat, mx = max x y := ⟨_, rfl⟩
    have CH : Hid (Calls Try.prog 28 #[.pointer (some ⟨b, 0, none⟩)] w fun e w' => e = .returned (.int .i64 ((mx : Int) + 1)) ∧ w = w') := Lib.hid (by
      have := pm_HeightI (.node b l k v r) w h
      simp only [ht, hx, hy, ← hmx] at this
      exact this)
    have CN : Hid (Calls Try.prog 29 #[.pointer (some ⟨b, 0, none⟩)] w fun e w' => e = .returned (.int .i64 ((p : Int) + (q : Int) + 1)) ∧ w = w') := Lib.hid (by
      have := pm_LenI (.node b l k v r) w h
      simp only [sz, hp, hq] at this
      exact this)
    have HR : Hid (ht (.node b l k v r : Tr Int) = mx + 1 ∧ sz (.node b l k v r : Tr Int) = p + q + 1) := Lib.hid (by simp [ht, sz, hx, hy, hp, hq, ← hmx])
    rw [hx, hp, hpl] at I1
    rw [hy, hq, hpr] at I2
    rw [hx] at b3 b4 hd
    rw [hy] at b3 b4 hd
    rw [hp, hq] at hz
    have hmi : (max (x : Int) (y : Int)) = (mx : Int) := by omega
    have t1 : ¬ (1 : Int) < (x : Int) - (y : Int) := by omega
    have t2 : ¬ (1 : Int) < (y : Int) - (x : Int) := by omega
    have hmb : mx ≤ 61 := by omega
    have hd2 : ¬ (60 : Int) < d := by omega
    clear ih1 ih2 h hs s1 s2 s3 s4 s5 b1 b2 hx hy hp hq hmx hpl hpr
    rw [HR.out.1, HR.out.2]
    change Calls _ _ #[.pointer (some ⟨b, 0, none⟩), _] w _
    go_enter Try.func34, Try.ntmps34
    go_wp2_with fail
    refine CL.out.mono ?_
    rintro e w' ⟨rfl, rfl⟩
    go_wp2_with fail
    refine I1.out.mono ?_
    rintro e w' ⟨rfl, rfl⟩
    go_wp2_with fail
    refine CR.out.mono ?_
    rintro e w' ⟨rfl, rfl⟩
    go_wp2_with fail
    refine I2.out.mono ?_
    rintro e w' ⟨rfl, rfl⟩
    go_wp2_with fail
    refine CH.out.mono ?_
    rintro e w' ⟨rfl, rfl⟩
    go_wp2_with fail
    refine CN.out.mono ?_
    rintro e w' ⟨rfl, rfl⟩
    go_wp2_with fail
    refine CL.out.mono ?_
    rintro e w' ⟨rfl, rfl⟩
    rcases hll.out with rfl | ⟨a1, kl1, rfl, K1, L1⟩
    case' inr =>
      go_wp2_with fail
      refine CL.out.mono ?_
      rintro e w' ⟨rfl, rfl⟩
      go_wp2_with fail
      refine K1.mono ?_
      rintro e w' ⟨rfl, rfl⟩
      go_wp2_with fail
      refine CK.out.mono ?_
      rintro e w' ⟨rfl, rfl⟩
    all_goals
      go_wp2_with fail
      refine CR.out.mono ?_
      rintro e w' ⟨rfl, rfl⟩
      rcases hrr.out with rfl | ⟨a2, kl2, rfl, K2, L2, L3⟩
      case' inr =>
        go_wp2_with fail
        refine CR.out.mono ?_
        rintro e w' ⟨rfl, rfl⟩
        go_wp2_with fail
        refine K2.mono ?_
        rintro e w' ⟨rfl, rfl⟩
        go_wp2_with fail
        refine CK.out.mono ?_
        rintro e w' ⟨rfl, rfl⟩
    all_goals
      clear hll hrr CL CR CK CH CN I1 I2 HR
      go_wp2_with fail
      go_ret2
    all_goals exact ⟨by push_cast; rfl, rfl⟩
end Go.Proofs.Ytikdlhbamdefaaa

