
/- Walks: two frames the same; the reference's Scan. -/
import Derived.Test.YtpbjhfajekfjeaaFrameR2
namespace Go.Proofs.Ytpbjhfajekfjeaa
open Go.RowKit Frm
set_option maxHeartbeats 400000 in
theorem ref4_Same (k1 k2 : Int) (l1 l2 : List UInt8) (a1 a2 : Option Addr) (c1 c2 : Nat) (w : World) (h1 : BytesAt w a1 l1) (h2 : BytesAt w a2 l2) :
    Calls Try.prog 10 #[.agg #[.int .i64 k1, .slice a1 l1.length c1], .agg #[.int .i64 k2, .slice a2 l2.length c2]] w fun e w' => e = .returned (.bool (decide (k1 = k2 ∧ l1 = l2))) ∧ Below w.heap.size w w' := by
  have HB : Hid (Below w.heap.size w ((w.alloc (.cells #[.int .i64 k1, .slice a1 l1.length c1] 36)).alloc (.cells #[.int .i64 k2, .slice a2 l2.length c2] 36))) := Lib.hid (((Below.refl _ w).alloc (Nat.le_refl _) _).alloc (by simp) _)
  have s1 := (h1.below HB.out rfl).str l1.length c1 rfl
  have s2 := (h2.below HB.out rfl).str l2.length c2 rfl
  clear h1 h2
  by_cases hk : k1 = k2
  · subst hk
    by_cases hl : l1 = l2
    · subst hl
      go_enter Try.func10, Try.ntmps10
      go_wp2_with fail
      go_ret
      exact ⟨by simp, HB.out⟩
    · go_enter Try.func10, Try.ntmps10
      go_wp2_with fail
      go_ret
      exact ⟨by simp [hl], HB.out⟩
  · go_enter Try.func10, Try.ntmps10
    go_wp2_with fail
    go_ret
    exact ⟨by simp [hk], HB.out⟩
theorem frs_append {W w1 : World} {B : Nat} {v v' : Value} {pre : List FR} {tmp : Obj} {x : FR} (hF : FrsAt W B v pre) {B' : Nat} (hB : B ≤ B') (hown : W.ownsRow B' 5 1 x.2.2.1 x.2.2.2.length (bvs x.2.2.2)) (hlt : ∀ y ∈ pre, ∀ k, y.2.2.1.ownBlock = some k → k < B')
    (hgrow : (W.alloc tmp).grownBy w1 v.ownBlock) (hown' : w1.ownsRow B 36 2 v' (pre.length + 1) ((pre.flatMap fun x => [Value.int .i64 (x.2.1 : Int), x.2.2.1]) ++ [.int .i64 (x.2.1 : Int), x.2.2.1])) : FrsAt w1 B v' (pre ++ [x]) := by
  refine ⟨by simpa using hown', ?_, ?_⟩
  · intro y hy
    simp only [List.mem_append, List.mem_singleton] at hy
    rcases hy with hy | rfl
    · exact own_grown ((hF.body y hy).alloc tmp) hgrow (fun k hk e => own_ne (hF.body y hy) hF.row (by decide) k e hk)
    · exact (own_grown (hown.alloc tmp) hgrow (fun k hk e => own_ne hown hF.row (by decide) k e hk)).mono hB
  · rw [List.pairwise_append]
    refine ⟨hF.apart, List.pairwise_singleton _ _, ?_⟩
    intro y hy z hz k k' hk hk'
    simp only [List.mem_singleton] at hz
    subst hz
    exact Nat.lt_of_lt_of_le (hlt y hy k hk) (own_base hown k' hk')
theorem FrsAt.below {A A' : World} {B N : Nat} {v : Value} {xs : List FR} (h : FrsAt A B v xs) (hb : Below N A A') (hN : N = A.heap.size) : FrsAt A' B v xs := by
  subst hN
  exact ⟨own_below h.row hb (own_lt h.row), fun y hy => own_below (h.body y hy) hb (own_lt (h.body y hy)), h.apart⟩
theorem frameT : ElemT Try.prog 24 36 (.agg #[.int .i64 0, .slice none 0 0]) 2 32 := ElemT.mk Try.underlying24 infoFr rfl
theorem src_frame (w : World) (k : Int) (va : Option Addr) (vn vc g : Nat) (hg : g = w.heap.size) : Src Try.prog 2 24 (.slice (some ⟨g, 0, none⟩) 1 1) 1 [.int .i64 k, .slice va vn vc] (w.alloc (.cells #[.int .i64 k, .slice va vn vc] 36)) :=
  hg ▸ Src.ofSlice _ Try.underlying24 _ 1 1 _ rfl (cell_two_new w (.int .i64 k) (.slice va vn vc) 36) (by simp [Value.oneCell'])
set_option maxRecDepth 100000 in
set_option maxHeartbeats 1000000 in
theorem ref4_Scan (l : List UInt8) (a : Option Addr) (cap : Nat) (w : World) (h : BytesAt w a l) (hcap : l.length ≤ cap) (hl : l.length ≤ 1048576) :
    Calls Try.prog 7 #[.slice a l.length cap] w fun e w' =>
      ∃ (v : Value) (xs : List FR), e = .returned (.tuple #[v, .int .i64 ((scanF (l.length + 1) l 0).2.1 : Int), .int .i64 ((scanF (l.length + 1) l 0).2.2 : Int)]) ∧ xs.map plainFR = (scanF (l.length + 1) l 0).1 ∧ FrsAt w' w.heap.size v xs ∧ Below w.heap.size w w' := by
  obtain ⟨R, hR⟩ : ∃ R, scanF (l.length + 1) l 0 = R := ⟨_, rfl⟩
  rw [hR]
  have H := Lib.hid h; clear h
  go_enter Try.func7, Try.ntmps7
  go_wp2_with fail
  go_loopw [5, 6] (fun v p wr => ∃ (pre : List FR) (at0 f : Nat), p = .int .i64 (at0 : Int) ∧ pre.length ≤ at0 ∧ at0 ≤ l.length ∧ l.length - at0 < f ∧
      Hid (R = (pre.map plainFR ++ (scanF f (l.drop at0) at0).1, (scanF f (l.drop at0) at0).2)) ∧ Hid (Below w.heap.size w wr) ∧ Hid (FrsAt wr w.heap.size v pre))
    (fun _ p _ => l.length - (intOf p).toNat)
  case atStart =>
    exact ⟨[], 0, l.length + 1, rfl, by simp, by omega, by omega, Lib.hid (by rw [← hR]; simp), Lib.hid (Below.refl _ _), Lib.hid ⟨World.ownsRow_nil _ _ _ _, by simp, .nil⟩⟩
  case round =>
    obtain ⟨pre, at0, f, rfl, hpl, hat, hf, HS, HK, HF⟩ := hrel
    obtain ⟨f, rfl⟩ : ∃ g, f = g + 1 := ⟨f - 1, by omega⟩
    clear hR
    obtain ⟨ra, rc, rfl⟩ := own_shape HF.out.row
    by_cases hend : at0 = l.length
    · have hlt : ¬ (at0 : Int) < (l.length : Int) := by omega
      subst hend
      have HFE : Hid (R = (pre.map plainFR, l.length, 0)) := Lib.hid (by rw [HS.out, List.drop_length]; simp [scanF])
      go_wp2_with fail
      refine bodyPost_ret (results_tmp3 rfl _ _ _) rfl ?_
      rw [HFE.out]
      exact ⟨_, rfl, pre, rfl, HF.out, HK.out⟩
    · have hlt : (at0 : Int) < (l.length : Int) := by omega
      have hlen : (l.drop at0).length = l.length - at0 := by simp
      have HLd : Hid ((l.drop at0).length = l.length - at0) := Lib.hid hlen
      have HBy : Hid (BytesAt wr (Option.map (fun x => x.add at0) a) (l.drop at0)) := Lib.hid ((H.out.below HK.out rfl).drop at0)
      go_wp2_with fail
      rw [← HLd.out]
      refine (ref4_Begin (l.drop at0) _ (cap - at0) wr HBy.out (by simp; omega) (by simp; omega)).mono ?_
      rintro e wN ⟨v, rfl, hown, hbN⟩
      have HO := Lib.hid hown
      have HN := Lib.hid hbN
      obtain ⟨va, vc, rfl⟩ := own_shape hown
      obtain ⟨vn, hvn⟩ : ∃ vn, (begF (l.drop at0)).2.1.length = vn := ⟨_, rfl⟩
      rw [hvn] at HO ⊢
      have HS1 := HS.out
      rw [scanF, if_neg (by rw [hlen]; omega)] at HS1
      have hgood := begF_good (l.drop at0)
      have HVN := Lib.hid hvn
      clear hvn
      obtain ⟨q, hq⟩ : ∃ q, begF (l.drop at0) = q := ⟨_, rfl⟩
      rw [hq] at HO HS1 HVN hgood ⊢
      clear hown hbN hq
      obtain ⟨k, body, m, err⟩ := q
      dsimp only at HO HS1 HVN hgood ⊢
      have FN : Hid (FrsAt (wN.alloc (.cells #[.int .i64 (k : Int), .slice va vn vc] 36)) w.heap.size (.slice ra pre.length rc) pre) := Lib.hid ((HF.out.below HN.out rfl).below (below_new _ _) rfl)
      have DN : Hid (Below w.heap.size w (wN.alloc (.cells #[.int .i64 (k : Int), .slice va vn vc] 36))) := Lib.hid ((HK.out.trans (HN.out.mono HK.out.size)).alloc (Nat.le_trans HK.out.size HN.out.size) _)
      obtain ⟨a0, a1⟩ := box2 (World.alloc_heap_new wN (.cells #[.int .i64 (k : Int), .slice va vn vc] 36))
      by_cases he : err = 0
      · subst he
        obtain ⟨g9, gl, gk, gb⟩ := hgood rfl
        have hml : at0 + m ≤ l.length := by rw [hlen] at gl; omega
        have HGB := Lib.hid gb
        rw [show (((0:Nat):Int)) = 0 from rfl]
        rw [if_neg (by simp)] at HS1
        have HS2 := Lib.hid HS1
        clear HS1 hgood HS
        have HLT : Hid (∀ y ∈ pre, ∀ k, y.2.2.1.ownBlock = some k → k < wr.heap.size) := Lib.hid (fun y hy => own_lt (HF.out.body y hy))
        have OA : Hid ((wN.alloc (.cells #[.int .i64 (k : Int), .slice va vn vc] 36)).ownsRow wr.heap.size 5 1 (.slice va vn vc) body.length (bvs body)) := Lib.hid ((own_len2 HO.out HVN.out).alloc _)
        have HRW := Lib.hid FN.out.row
        have FT := Lib.hid frameT
        have hpm : pre.length + 1 ≤ 1048577 := by omega
        go_wp2_with (at_builtin; refine wpList_app rfl _ _ 24 24 rfl w.heap.size 36 (.agg #[.int .i64 0, .slice none 0 0]) 2 32 FT.out _ pre.length _ rfl (HRW.out.alloc _) _ 1 [.int .i64 (k : Int), .slice va vn vc] rfl (src_frame _ _ _ _ _ _ (by simp)) (by omega) (by omega) (by have := DN.out.size; simp at this ⊢; omega) ?_; intro v' w1 hown' hgrow hb _; have HO1 := Lib.hid hown'; have HG1 := Lib.hid hgrow; have HB1 := Lib.hid hb; clear hown' hgrow hb)
        refine ⟨⟨pre ++ [(at0, k, .slice va vn vc, body)], at0 + m, f, by simp, by simp; omega, hml, by omega, Lib.hid ?_, Lib.hid ((DN.out.alloc DN.out.size _).trans HB1.out), Lib.hid ?_⟩, ?_⟩
        · rw [HS2.out, List.drop_drop]; simp [plainFR]
        · exact frs_append FN.out HK.out.size OA.out HLT.out HG1.out HO1.out
        · have e1 : (intOf (Value.int .i64 ((at0 : Int) + (m : Int)))).toNat = at0 + m := by simp [intOf]; omega
          have e2 : (intOf (Value.int .i64 (at0 : Int))).toNat = at0 := by simp [intOf]
          rw [e1, e2]; omega
      · rw [if_pos (by simpa using he)] at HS1
        have HS2 := Lib.hid HS1
        clear HS1 hgood HS
        have he' : ((err : Int) != 0) = true := by simp; omega
        go_wp2_with fail
        refine bodyPost_ret (results_tmp3 rfl _ _ _) rfl ?_
        rw [HS2.out]
        exact ⟨_, rfl, pre, by simp, FN.out, DN.out⟩
end Go.Proofs.Ytpbjhfajekfjeaa

