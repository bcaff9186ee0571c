
/- Walks: the law's in. -/
import Derived.Test.YtikdlhbamdefaaaLwA
import Derived.Test.YtikdlhbamdefaaaPmSI
namespace Go.Proofs.Ytikdlhbamdefaaa
open Go.RowKit Pm
theorem ptr_binI (w : World) (b b' : Nat) (h : NdsI w [b, b']) : (binOp .eql 24 (.pointer (some ⟨b, 0, none⟩)) (.pointer (some ⟨b', 0, none⟩))).run Try.prog w = .ok (.bool (decide (b = b'))) w := by
  have e := ptr_equalI w b b' h
  simp only [binOp]
  simp [e]
/-- The cells of nodes. -/
def nodV (ps : List Nat) : List Value := ps.map fun b => Value.pointer (some ⟨b, 0, none⟩)
theorem nodV_length (ps : List Nat) : (nodV ps).length = ps.length := by simp [nodV]
theorem nodV_get (ps : List Nat) (i : Nat) (h : i < ps.length) : (nodV ps)[i]? = some (Value.pointer (some ⟨ps[i], 0, none⟩)) := by simp [nodV, h]
theorem nodV_one (ps : List Nat) : ∀ u ∈ nodV ps, u.oneCell' = true := fun u hu => by
  obtain ⟨q, _, rfl⟩ := List.mem_map.1 hu
  rfl
set_option maxRecDepth 20000 in
set_option maxHeartbeats 1000000 in
theorem lw_in (ps : List Nat) (b : Nat) (a : Option Addr) (cap : Nat) (w : World) (h : CellsAt w a (nodV ps)) (hn : NdsI w (b :: ps)) (hl : ps.length ≤ 1099511627776) :
    Calls Try.prog 50 #[.slice a ps.length cap, .pointer (some ⟨b, 0, none⟩)] w fun e w' => e = .returned (.bool (decide (b ∈ ps))) ∧ w = w' := by
  have H := Lib.hid h; clear h
  have HND := Lib.hid hn; clear hn
  obtain ⟨n, hn⟩ : ∃ n, ps.length = n := ⟨_, rfl⟩
  have HN := Lib.hid hn
  rw [hn] at hl ⊢
  clear hn
  go_enter Try.func50, Try.ntmps50
  go_wp2_with fail
  go_loopw [5] (fun u wr => ∃ j : Nat, u = .int .i64 ((j : Int) - 1) ∧ j ≤ n ∧ Hid (b ∉ ps.drop j) ∧ Hid (w = wr)) (fun u _ => (intOf u + 1).toNat)
  case atStart => exact ⟨n, rfl, Nat.le_refl _, Lib.hid (by rw [List.drop_of_length_le (by rw [HN.out]; exact Nat.le_refl _)]; simp), Lib.hid rfl⟩
  case round =>
    obtain ⟨j, rfl, hj, HJ, HW⟩ := hrel
    cases j with
    | zero =>
      rw [show ((0 : Nat) : Int) - 1 = -1 from rfl]
      go_wp2_with fail
      go_ret
      refine ⟨?_, HW.out⟩
      have := HJ.out
      simpa using this
    | succ j =>
      have hji : (0 : Int) ≤ ((j + 1 : Nat) : Int) - 1 := by omega
      have hje : ((j + 1 : Nat) : Int) - 1 = (j : Int) := by omega
      have hjl : j < ps.length := by rw [HN.out]; omega
      obtain ⟨b', hx⟩ : ∃ x, ps[j]'hjl = x := ⟨_, rfl⟩
      have e0 := nodV_get ps j hjl
      rw [hx] at e0
      obtain ⟨bb, off, ha, hc⟩ := H.out.get _ _ e0
      subst ha
      have hc' : wr.cell? ⟨bb, off + j, none⟩ = some (.pointer (some ⟨b', 0, none⟩)) := by rw [← HW.out]; exact hc
      have hb' : b' ∈ ps := by rw [← hx]; exact List.getElem_mem hjl
      have HB : Hid (b' ∈ ps) := Lib.hid hb'
      have heq : (binOp .eql 24 (.pointer (some ⟨b', 0, none⟩)) (.pointer (some ⟨b, 0, none⟩))).run Try.prog wr = .ok (.bool (decide (b' = b))) wr := by
        rw [← HW.out]
        exact ptr_binI w b' b (fun x hx => HND.out x (by simp at hx ⊢; rcases hx with h | h <;> simp [h, hb']))
      have HD : Hid (ps.drop j = b' :: ps.drop (j + 1)) := Lib.hid (by rw [List.drop_eq_getElem_cons hjl, hx])
      clear hc e0 hx hb'
      rw [hje]
      by_cases he : b' = b
      · rw [decide_eq_true he] at heq
        subst he
        go_wp2_with fail
        go_ret
        exact ⟨by simp [HB.out], HW.out⟩
      · rw [decide_eq_false he] at heq
        have HE := Lib.hid he
        clear he
        go_wp2_with fail
        refine ⟨⟨j, rfl, by omega, Lib.hid ?_, HW⟩, ?_⟩
        · rw [HD.out]
          have := HJ.out
          simp only [List.mem_cons, not_or]
          exact ⟨fun h => HE.out h.symm, this⟩
        · have q1 : (intOf (Value.int .i64 ((j : Int) - 1)) + 1).toNat = j := by simp [intOf]
          have q2 : (intOf (Value.int .i64 (j : Int)) + 1).toNat = j + 1 := by simp [intOf]
          rw [q1, q2]; omega
end Go.Proofs.Ytikdlhbamdefaaa

