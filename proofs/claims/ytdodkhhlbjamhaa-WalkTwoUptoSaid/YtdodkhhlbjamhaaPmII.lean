
/- Walks: a tree gone over: the closure that calls itself, and yield. -/
import Derived.Test.YtdodkhhlbjamhaaPmW6I
import Derived.Test.YtdodkhhlbjamhaaKeepE
import Derived.Test.YtdodkhhlbjamhaaRound
import Derived.RangeFuncNested
import Derived.RangeFuncBound
import Derived.RangeFuncCalls
import Derived.RangeFuncLeaves
import Derived.Shelf.Abstract
import Derived.OwnWalkIn
import Derived.TacticsInMore
import Derived.LoopNIn
import Derived.LoopIn
namespace Go.Proofs.Ytdodkhhlbjamhaa
open Go.RowKit Pm
attribute [local go_sem] Oper.semAt_some
def encKVI (x : ByteArray × Int) : Array Value := #[.string x.1, .int .i64 x.2]
/-- What the closure's boxes hold. -/
structure EnvFI (kb gb yb ll : Nat) (key : ByteArray) (s : Tr Int) (W : World) : Prop where
  k : Boxed W kb 9 (.string key)
  g : Boxed W gb 89 (.func (.func 58) #[] #[.pointer (some ⟨kb, 0, none⟩), .pointer (some ⟨gb, 0, none⟩), .pointer (some ⟨yb, 0, none⟩)])
  y : Boxed W yb 96 (.func (.yield ll) #[] #[])
  a : AtI W s
theorem EnvFI.below {kb gb yb ll : Nat} {key : ByteArray} {s : Tr Int} {W W' : World} (h : EnvFI kb gb yb ll key s W) (hb : Below W.heap.size W W') : EnvFI kb gb yb ll key s W' :=
  ⟨boxStays h.k hb, boxStays h.g hb, boxStays h.y hb, h.a.below hb rfl⟩
theorem EnvFI.keep {kb gb yb ll M : Nat} {S : Nat → Prop} {Ex : TypeId → Prop} {key : ByteArray} {s : Tr Int} {W W' : World} (h : EnvFI kb gb yb ll key s W) (hk : KeepE M S Ex W W')
    (h1 : S kb) (h2 : M ≤ gb) (h3 : M ≤ yb) (h4 : ∀ b ∈ blocks s, S b) (h5 : ¬ Ex 89) (h6 : ¬ Ex 96) : EnvFI kb gb yb ll key s W' :=
  ⟨hk.boxS h.k h1, hk.box h.g h2 h5, hk.box h.y h3 h6, h.a.keep fun b o ho hm => (hk.block b (h4 b hm)).trans ho⟩
set_option maxRecDepth 100000 in
set_option maxHeartbeats 4000000 in
theorem go1_fromI (key : ByteArray) (kb gb yb ll M : Nat) (S : Nat → Prop) (Ex : TypeId → Prop) (L : List (ByteArray × Int)) (J Jx : List (ByteArray × Int) → World → Prop) (B0 : Nat)
    (hJo : OwnFrom B0 J) (h1 : S kb) (h2 : M ≤ gb) (h3 : M ≤ yb) (h5 : ¬ Ex 89) (h6 : ¬ Ex 96)
    (hY : ∀ pre x W1, J pre W1 → pre ++ [x] <+: L → YieldAt Fence.wide 0 Try.prog ll (encKVI x) W1 fun e W' =>
      (e = .returned (.bool true) ∧ J (pre ++ [x]) W' ∧ KeepE M S Ex W1 W') ∨ (e = .returned (.bool false) ∧ Jx (pre ++ [x]) W' ∧ KeepE M S Ex W1 W')) :
    ∀ (s : Tr Int) (pre : List (ByteArray × Int)) (W1 : World), (∀ b ∈ blocks s, S b) → (∀ k, S k → k < W1.heap.size) → J pre W1 → EnvFI kb gb yb ll key s W1 → pre ++ fromL key s <+: L →
      Calls Try.prog 58 #[.pointer (pa s), .pointer (some ⟨kb, 0, none⟩), .pointer (some ⟨gb, 0, none⟩), .pointer (some ⟨yb, 0, none⟩)] W1 fun e W' =>
        (e = .returned (.bool true) ∧ J (pre ++ fromL key s) W' ∧ KeepE M S Ex W1 W') ∨ (e = .returned (.bool false) ∧ (∃ pre', pre' <+: L ∧ Jx pre' W') ∧ KeepE M S Ex W1 W') := by
  have HY := Lib.hid hY
  clear hY
  intro s
  induction s with
  | nil =>
    intro pre W1 _ _ hJ _ _
    change Calls _ _ #[.pointer none, _, _, _] W1 _
    have HJ := Lib.hid hJ
    clear hJ
    go_enter Try.func58, Try.ntmps58
    go_wp2_with fail
    go_ret
    exact .inl ⟨rfl, by simpa [fromL] using HJ.out, KeepE.refl _⟩
  | node b l k v r ih1 ih2 =>
    intro pre W1 hSb hSN hJ hE hL
    have HE := Lib.hid hE
    have HJ := Lib.hid hJ
    have I1 := Lib.hid ih1
    have I2 := Lib.hid ih2
    have HB := Lib.hid hSb
    have HSN := Lib.hid hSN
    have HL := Lib.hid hL
    clear hE hJ ih1 ih2 hSb hSN hL
    have hSd : EnvFI kb gb yb ll key (.node b l k v r) W1.drew := HE.out.below ((Below.refl _ W1).drew)
    refine (callsIn_wide (n := 6)).1 ?_
    change CallsIn _ _ _ _ #[.pointer (some ⟨b, 0, none⟩), _, _, _] W1 _
    refine callsIn_of_wp Try.func58 rfl trivial ?_ rfl
    simp only [Try.ntmps58, List.size_toArray, List.length_cons, List.length_nil, Nat.reduceAdd, Nat.reduceSub, Array.replicate_succ, Array.replicate_zero, List.push_toArray, List.append_toArray, List.nil_append, List.cons_append]
    by_cases hk : klt k key = true
    · have hk1 : Op.bytesLess k.toList key.toList = true := hk
      gi_wp2
      refine region_wide (S := (EnvFI kb gb yb ll key (.node b l k v r))) (by kernel_rfl) (hSd) (fun hS => ?_)
      refine anyW_take (i := 0) (oi := ⟨some 8, _, _, _, _, _⟩) (v := ?_) rfl (by kernel_rfl) (fun _ _ _ h => h) (by kernel_rfl) (by kernel_rfl) (Or.inl ⟨by rfl, ?_⟩) hS ?_
      rotate_left 1
      · intro w' hB; obtain ⟨e1, e2, e3, e4⟩ := hB; have c1 := cell_of_one e1; have c2 := cell_of_one e2; have c3 := cell_of_one e3; obtain ⟨x0, x1, x2, x3⟩ := e4.cellsP (pa l) (pa r) rfl rfl; clear e1 e2 e3 e4; (go_simp <;> with_reducible rfl)
      try simp only [Act.put, List.setIfInBounds_toArray, List.set_cons_zero, List.set_cons_succ]
      refine anyW_take (i := 1) (oi := ⟨some 9, _, _, _, _, _⟩) (v := ?_) rfl (by kernel_rfl) (fun _ _ _ h => h) (by kernel_rfl) (by kernel_rfl) (Or.inl ⟨by rfl, ?_⟩) hS ?_
      rotate_left 1
      · intro w' hB; obtain ⟨e1, e2, e3, e4⟩ := hB; have c1 := cell_of_one e1; have c2 := cell_of_one e2; have c3 := cell_of_one e3; obtain ⟨x0, x1, x2, x3⟩ := e4.cellsP (pa l) (pa r) rfl rfl; clear e1 e2 e3 e4; (go_simp <;> with_reducible rfl)
      try simp only [Act.put, List.setIfInBounds_toArray, List.set_cons_zero, List.set_cons_succ]
      refine anyW_take (i := 2) (oi := ⟨some 10, _, _, _, _, _⟩) (v := ?_) rfl (by kernel_rfl) (fun _ _ _ h => h) (by kernel_rfl) (by kernel_rfl) (Or.inl ⟨by rfl, ?_⟩) hS ?_
      rotate_left 1
      · intro w' hB; obtain ⟨e1, e2, e3, e4⟩ := hB; have c1 := cell_of_one e1; have c2 := cell_of_one e2; have c3 := cell_of_one e3; obtain ⟨x0, x1, x2, x3⟩ := e4.cellsP (pa l) (pa r) rfl rfl; clear e1 e2 e3 e4; (go_simp <;> with_reducible rfl)
      try simp only [Act.put, List.setIfInBounds_toArray, List.set_cons_zero, List.set_cons_succ]
      refine anyW_take (i := 3) (oi := ⟨some 11, _, _, _, _, _⟩) (v := ?_) rfl (by kernel_rfl) (fun _ _ _ h => h) (by kernel_rfl) (by kernel_rfl) (Or.inl ⟨by rfl, ?_⟩) hS ?_
      rotate_left 1
      · intro w' hB; obtain ⟨e1, e2, e3, e4⟩ := hB; have c1 := cell_of_one e1; have c2 := cell_of_one e2; have c3 := cell_of_one e3; obtain ⟨x0, x1, x2, x3⟩ := e4.cellsP (pa l) (pa r) rfl rfl; clear e1 e2 e3 e4; (go_simp <;> with_reducible rfl)
      try simp only [Act.put, List.setIfInBounds_toArray, List.set_cons_zero, List.set_cons_succ]
      refine anyW_take (i := 4) (oi := ⟨some 12, _, _, _, _, _⟩) (v := ?_) rfl (by kernel_rfl) (fun _ _ _ h => h) (by kernel_rfl) (by kernel_rfl) (Or.inl ⟨by rfl, ?_⟩) hS ?_
      rotate_left 1
      · intro w' hB; obtain ⟨e1, e2, e3, e4⟩ := hB; have c1 := cell_of_one e1; have c2 := cell_of_one e2; have c3 := cell_of_one e3; obtain ⟨x0, x1, x2, x3⟩ := e4.cellsP (pa l) (pa r) rfl rfl; clear e1 e2 e3 e4; (go_simp <;> with_reducible rfl)
      try simp only [Act.put, List.setIfInBounds_toArray, List.set_cons_zero, List.set_cons_succ]
      refine anyW_take (i := 5) (oi := ⟨some 13, _, _, _, _, _⟩) (v := ?_) rfl (by kernel_rfl) (fun _ _ _ h => h) (by kernel_rfl) (by kernel_rfl) (Or.inl ⟨by rfl, ?_⟩) hS ?_
      rotate_left 1
      · intro w' hB; obtain ⟨e1, e2, e3, e4⟩ := hB; have c1 := cell_of_one e1; have c2 := cell_of_one e2; have c3 := cell_of_one e3; obtain ⟨x0, x1, x2, x3⟩ := e4.cellsP (pa l) (pa r) rfl rfl; clear e1 e2 e3 e4; (go_simp <;> with_reducible rfl)
      try simp only [Act.put, List.setIfInBounds_toArray, List.set_cons_zero, List.set_cons_succ]
      refine anyW_done (by kernel_rfl) (OnlyE.normal ?_) _
      obtain ⟨W2, hW2⟩ : ∃ W2, W1.drew = W2 := ⟨_, rfl⟩
      have D2 : Hid (Below W1.heap.size W1 W2) := Lib.hid (by rw [← hW2]; exact (Below.refl _ W1).drew)
      rw [hW2] at hS ⊢
      have HE2 := Lib.hid hS
      clear hS hW2 hSd
      have hSd : EnvFI kb gb yb ll key (.node b l k v r) W2.drew := HE2.out.below ((Below.refl _ W2).drew)
      have D3 : Hid (Below W1.heap.size W1 W2.drew) := Lib.hid (D2.out.trans ((Below.refl _ W2).drew.mono D2.out.size))
      have HJ2 : Hid (J pre W2.drew) := Lib.hid (ownFrom_to hJo HJ.out D3.out)
      have HS2 : Hid (∀ k, S k → k < W2.drew.heap.size) := Lib.hid (fun k hk => Nat.lt_of_lt_of_le (HSN.out k hk) D3.out.size)
      gi_wp2
      have hL : pre ++ fromL key r <+: L := by have := HL.out; rw [fromL, if_pos hk] at this; exact this
      have HL2 := Lib.hid hL
      clear hL
      refine region_wide (S := (EnvFI kb gb yb ll key (.node b l k v r))) (by kernel_rfl) (hSd) (fun hS => ?_)
      refine anyW_take (i := 0) (oi := ⟨some 14, _, _, _, _, _⟩) (v := ?_) rfl (by kernel_rfl) (fun _ _ _ h => h) (by kernel_rfl) (by kernel_rfl) (Or.inl ⟨by rfl, ?_⟩) hS ?_
      rotate_left 1
      · intro w' hB; obtain ⟨e1, e2, e3, e4⟩ := hB; have c1 := cell_of_one e1; have c2 := cell_of_one e2; have c3 := cell_of_one e3; obtain ⟨x0, x1, x2, x3⟩ := e4.cellsP (pa l) (pa r) rfl rfl; clear e1 e2 e3 e4; (go_simp <;> with_reducible rfl)
      try simp only [Act.put, List.setIfInBounds_toArray, List.set_cons_zero, List.set_cons_succ]
      refine anyW_take (i := 1) (oi := ⟨some 15, _, _, _, _, _⟩) (v := ?_) rfl (by kernel_rfl) (fun _ _ _ h => h) (by kernel_rfl) (by kernel_rfl) (Or.inl ⟨by rfl, ?_⟩) hS ?_
      rotate_left 1
      · intro w' hB; obtain ⟨e1, e2, e3, e4⟩ := hB; have c1 := cell_of_one e1; have c2 := cell_of_one e2; have c3 := cell_of_one e3; obtain ⟨x0, x1, x2, x3⟩ := e4.cellsP (pa l) (pa r) rfl rfl; clear e1 e2 e3 e4; (go_simp <;> with_reducible rfl)
      try simp only [Act.put, List.setIfInBounds_toArray, List.set_cons_zero, List.set_cons_succ]
      refine anyW_take (i := 2) (oi := ⟨some 16, _, _, _, _, _⟩) (v := ?_) rfl (by kernel_rfl) (fun _ _ _ h => h) (by kernel_rfl) (by kernel_rfl) (Or.inl ⟨by rfl, ?_⟩) hS ?_
      rotate_left 1
      · intro w' hB; obtain ⟨e1, e2, e3, e4⟩ := hB; have c1 := cell_of_one e1; have c2 := cell_of_one e2; have c3 := cell_of_one e3; obtain ⟨x0, x1, x2, x3⟩ := e4.cellsP (pa l) (pa r) rfl rfl; clear e1 e2 e3 e4; (go_simp <;> with_reducible rfl)
      try simp only [Act.put, List.setIfInBounds_toArray, List.set_cons_zero, List.set_cons_succ]
      refine anyW_take (i := 3) (oi := ⟨some 17, _, _, _, _, _⟩) (v := ?_) rfl (by kernel_rfl) (fun _ _ _ h => h) (by kernel_rfl) (by kernel_rfl) (Or.inl ⟨by rfl, ?_⟩) hS ?_
      rotate_left 1
      · intro w' hB; obtain ⟨e1, e2, e3, e4⟩ := hB; have c1 := cell_of_one e1; have c2 := cell_of_one e2; have c3 := cell_of_one e3; obtain ⟨x0, x1, x2, x3⟩ := e4.cellsP (pa l) (pa r) rfl rfl; clear e1 e2 e3 e4; (go_simp <;> with_reducible rfl)
      try simp only [Act.put, List.setIfInBounds_toArray, List.set_cons_zero, List.set_cons_succ]
      refine anyW_take (i := 4) (oi := ⟨some 18, _, _, _, _, _⟩) (v := ?_) rfl (by kernel_rfl) (fun _ _ _ h => h) (by kernel_rfl) (by kernel_rfl) (Or.inl ⟨by rfl, ?_⟩) hS ?_
      rotate_left 1
      · intro w' hB; obtain ⟨e1, e2, e3, e4⟩ := hB; have c1 := cell_of_one e1; have c2 := cell_of_one e2; have c3 := cell_of_one e3; obtain ⟨x0, x1, x2, x3⟩ := e4.cellsP (pa l) (pa r) rfl rfl; clear e1 e2 e3 e4; (go_simp <;> with_reducible rfl)
      try simp only [Act.put, List.setIfInBounds_toArray, List.set_cons_zero, List.set_cons_succ]
      refine anyW_one (i := 5) (o := ⟨some 19, _, _, _, _, _⟩) (by kernel_rfl) rfl (by rfl) (fun K hK => ?_)
      refine op_wide ?_
      go_simp
      refine (I2.out pre _ (fun b' hb => HB.out b' (by simp [blocks, hb])) HS2.out HJ2.out ⟨hSd.k, hSd.g, hSd.y, hSd.a.2.2⟩ HL2.out).mono ?_
      intro e w3 hh
      refine Or.elim hh (fun hq => ?alt1) (fun hq => ?alt2) <;> clear hh
      case' alt1 =>
        obtain ⟨rfl, hJ3, hK3⟩ := hq
        have hSn := hSd.keep hK3 h1 h2 h3 HB.out h5 h6
        have H3 : Hid (J (pre ++ fromL key r) w3 ∧ KeepE M S Ex W1 w3) := Lib.hid ⟨hJ3, (KeepE.below D3.out HSN.out).trans hK3⟩
        clear hJ3 hK3
        refine hK.out _ _ hSn ?_
        clear hK K hS
        have hS := hSn
        clear hSn
        try simp only [Act.put, List.setIfInBounds_toArray, List.set_cons_zero, List.set_cons_succ]
        refine anyW_take (i := 6) (oi := ⟨some 5, _, _, _, _, _⟩) (v := ?_) rfl (by kernel_rfl) (fun _ _ _ h => h) (by kernel_rfl) (by kernel_rfl) (Or.inl ⟨by rfl, ?_⟩) hS ?_
        rotate_left 1
        · intro w' hB; obtain ⟨e1, e2, e3, e4⟩ := hB; have c1 := cell_of_one e1; have c2 := cell_of_one e2; have c3 := cell_of_one e3; obtain ⟨x0, x1, x2, x3⟩ := e4.cellsP (pa l) (pa r) rfl rfl; clear e1 e2 e3 e4; (go_simp <;> with_reducible rfl)
        try simp only [Act.put, List.setIfInBounds_toArray, List.set_cons_zero, List.set_cons_succ]
        refine anyW_done (by kernel_rfl) (OnlyE.normal ?_) _
      case' alt2 =>
        obtain ⟨rfl, hJ3, hK3⟩ := hq
        have hSn := hSd.keep hK3 h1 h2 h3 HB.out h5 h6
        have H3 : Hid ((∃ pre', pre' <+: L ∧ Jx pre' w3) ∧ KeepE M S Ex W1 w3) := Lib.hid ⟨hJ3, (KeepE.below D3.out HSN.out).trans hK3⟩
        clear hJ3 hK3
        refine hK.out _ _ hSn ?_
        clear hK K hS
        have hS := hSn
        clear hSn
        try simp only [Act.put, List.setIfInBounds_toArray, List.set_cons_zero, List.set_cons_succ]
        refine anyW_take (i := 6) (oi := ⟨some 5, _, _, _, _, _⟩) (v := ?_) rfl (by kernel_rfl) (fun _ _ _ h => h) (by kernel_rfl) (by kernel_rfl) (Or.inl ⟨by rfl, ?_⟩) hS ?_
        rotate_left 1
        · intro w' hB; obtain ⟨e1, e2, e3, e4⟩ := hB; have c1 := cell_of_one e1; have c2 := cell_of_one e2; have c3 := cell_of_one e3; obtain ⟨x0, x1, x2, x3⟩ := e4.cellsP (pa l) (pa r) rfl rfl; clear e1 e2 e3 e4; (go_simp <;> with_reducible rfl)
        try simp only [Act.put, List.setIfInBounds_toArray, List.set_cons_zero, List.set_cons_succ]
        refine anyW_done (by kernel_rfl) (OnlyE.normal ?_) _
      all_goals
        clear hS
        gi_wp2
        go_ret
        rw [fromL, if_pos hk]
        first | exact .inl ⟨rfl, H3.out⟩ | exact .inr ⟨rfl, H3.out⟩
    · have hk1 : Op.bytesLess k.toList key.toList = false := by simpa [klt] using hk
      gi_wp2
      refine region_wide (S := (EnvFI kb gb yb ll key (.node b l k v r))) (by kernel_rfl) (hSd) (fun hS => ?_)
      refine anyW_take (i := 0) (oi := ⟨some 8, _, _, _, _, _⟩) (v := ?_) rfl (by kernel_rfl) (fun _ _ _ h => h) (by kernel_rfl) (by kernel_rfl) (Or.inl ⟨by rfl, ?_⟩) hS ?_
      rotate_left 1
      · intro w' hB; obtain ⟨e1, e2, e3, e4⟩ := hB; have c1 := cell_of_one e1; have c2 := cell_of_one e2; have c3 := cell_of_one e3; obtain ⟨x0, x1, x2, x3⟩ := e4.cellsP (pa l) (pa r) rfl rfl; clear e1 e2 e3 e4; (go_simp <;> with_reducible rfl)
      try simp only [Act.put, List.setIfInBounds_toArray, List.set_cons_zero, List.set_cons_succ]
      refine anyW_take (i := 1) (oi := ⟨some 9, _, _, _, _, _⟩) (v := ?_) rfl (by kernel_rfl) (fun _ _ _ h => h) (by kernel_rfl) (by kernel_rfl) (Or.inl ⟨by rfl, ?_⟩) hS ?_
      rotate_left 1
      · intro w' hB; obtain ⟨e1, e2, e3, e4⟩ := hB; have c1 := cell_of_one e1; have c2 := cell_of_one e2; have c3 := cell_of_one e3; obtain ⟨x0, x1, x2, x3⟩ := e4.cellsP (pa l) (pa r) rfl rfl; clear e1 e2 e3 e4; (go_simp <;> with_reducible rfl)
      try simp only [Act.put, List.setIfInBounds_toArray, List.set_cons_zero, List.set_cons_succ]
      refine anyW_take (i := 2) (oi := ⟨some 10, _, _, _, _, _⟩) (v := ?_) rfl (by kernel_rfl) (fun _ _ _ h => h) (by kernel_rfl) (by kernel_rfl) (Or.inl ⟨by rfl, ?_⟩) hS ?_
      rotate_left 1
      · intro w' hB; obtain ⟨e1, e2, e3, e4⟩ := hB; have c1 := cell_of_one e1; have c2 := cell_of_one e2; have c3 := cell_of_one e3; obtain ⟨x0, x1, x2, x3⟩ := e4.cellsP (pa l) (pa r) rfl rfl; clear e1 e2 e3 e4; (go_simp <;> with_reducible rfl)
      try simp only [Act.put, List.setIfInBounds_toArray, List.set_cons_zero, List.set_cons_succ]
      refine anyW_take (i := 3) (oi := ⟨some 11, _, _, _, _, _⟩) (v := ?_) rfl (by kernel_rfl) (fun _ _ _ h => h) (by kernel_rfl) (by kernel_rfl) (Or.inl ⟨by rfl, ?_⟩) hS ?_
      rotate_left 1
      · intro w' hB; obtain ⟨e1, e2, e3, e4⟩ := hB; have c1 := cell_of_one e1; have c2 := cell_of_one e2; have c3 := cell_of_one e3; obtain ⟨x0, x1, x2, x3⟩ := e4.cellsP (pa l) (pa r) rfl rfl; clear e1 e2 e3 e4; (go_simp <;> with_reducible rfl)
      try simp only [Act.put, List.setIfInBounds_toArray, List.set_cons_zero, List.set_cons_succ]
      refine anyW_take (i := 4) (oi := ⟨some 12, _, _, _, _, _⟩) (v := ?_) rfl (by kernel_rfl) (fun _ _ _ h => h) (by kernel_rfl) (by kernel_rfl) (Or.inl ⟨by rfl, ?_⟩) hS ?_
      rotate_left 1
      · intro w' hB; obtain ⟨e1, e2, e3, e4⟩ := hB; have c1 := cell_of_one e1; have c2 := cell_of_one e2; have c3 := cell_of_one e3; obtain ⟨x0, x1, x2, x3⟩ := e4.cellsP (pa l) (pa r) rfl rfl; clear e1 e2 e3 e4; (go_simp <;> with_reducible rfl)
      try simp only [Act.put, List.setIfInBounds_toArray, List.set_cons_zero, List.set_cons_succ]
      refine anyW_take (i := 5) (oi := ⟨some 13, _, _, _, _, _⟩) (v := ?_) rfl (by kernel_rfl) (fun _ _ _ h => h) (by kernel_rfl) (by kernel_rfl) (Or.inl ⟨by rfl, ?_⟩) hS ?_
      rotate_left 1
      · intro w' hB; obtain ⟨e1, e2, e3, e4⟩ := hB; have c1 := cell_of_one e1; have c2 := cell_of_one e2; have c3 := cell_of_one e3; obtain ⟨x0, x1, x2, x3⟩ := e4.cellsP (pa l) (pa r) rfl rfl; clear e1 e2 e3 e4; (go_simp <;> with_reducible rfl)
      try simp only [Act.put, List.setIfInBounds_toArray, List.set_cons_zero, List.set_cons_succ]
      refine anyW_done (by kernel_rfl) (OnlyE.normal ?_) _
      obtain ⟨W2, hW2⟩ : ∃ W2, W1.drew = W2 := ⟨_, rfl⟩
      have D2 : Hid (Below W1.heap.size W1 W2) := Lib.hid (by rw [← hW2]; exact (Below.refl _ W1).drew)
      rw [hW2] at hS ⊢
      have HE2 := Lib.hid hS
      clear hS hW2 hSd
      have hSd : EnvFI kb gb yb ll key (.node b l k v r) W2.drew := HE2.out.below ((Below.refl _ W2).drew)
      have D3 : Hid (Below W1.heap.size W1 W2.drew) := Lib.hid (D2.out.trans ((Below.refl _ W2).drew.mono D2.out.size))
      have HJ2 : Hid (J pre W2.drew) := Lib.hid (ownFrom_to hJo HJ.out D3.out)
      have HS2 : Hid (∀ k, S k → k < W2.drew.heap.size) := Lib.hid (fun k hk => Nat.lt_of_lt_of_le (HSN.out k hk) D3.out.size)
      gi_wp2
      have hL : pre ++ (fromL key l ++ (k, v) :: fromL key r) <+: L := by have := HL.out; rw [fromL, if_neg hk] at this; exact this
      have L1 : Hid (pre ++ fromL key l <+: L) := Lib.hid ((List.prefix_append (pre ++ fromL key l) ((k, v) :: fromL key r)).trans (by simpa using hL))
      have L2 : Hid (pre ++ fromL key l ++ [(k, v)] <+: L) := Lib.hid ((List.prefix_append (pre ++ fromL key l ++ [(k, v)]) (fromL key r)).trans (by simpa using hL))
      have L3 : Hid (pre ++ fromL key l ++ [(k, v)] ++ fromL key r <+: L) := Lib.hid (by simpa using hL)
      clear hL
      refine region_wide (S := (EnvFI kb gb yb ll key (.node b l k v r))) (by kernel_rfl) (hSd) (fun hS => ?_)
      refine anyW_take (i := 0) (oi := ⟨some 20, _, _, _, _, _⟩) (v := ?_) rfl (by kernel_rfl) (fun _ _ _ h => h) (by kernel_rfl) (by kernel_rfl) (Or.inl ⟨by rfl, ?_⟩) hS ?_
      rotate_left 1
      · intro w' hB; obtain ⟨e1, e2, e3, e4⟩ := hB; have c1 := cell_of_one e1; have c2 := cell_of_one e2; have c3 := cell_of_one e3; obtain ⟨x0, x1, x2, x3⟩ := e4.cellsP (pa l) (pa r) rfl rfl; clear e1 e2 e3 e4; (go_simp <;> with_reducible rfl)
      try simp only [Act.put, List.setIfInBounds_toArray, List.set_cons_zero, List.set_cons_succ]
      refine anyW_take (i := 1) (oi := ⟨some 21, _, _, _, _, _⟩) (v := ?_) rfl (by kernel_rfl) (fun _ _ _ h => h) (by kernel_rfl) (by kernel_rfl) (Or.inl ⟨by rfl, ?_⟩) hS ?_
      rotate_left 1
      · intro w' hB; obtain ⟨e1, e2, e3, e4⟩ := hB; have c1 := cell_of_one e1; have c2 := cell_of_one e2; have c3 := cell_of_one e3; obtain ⟨x0, x1, x2, x3⟩ := e4.cellsP (pa l) (pa r) rfl rfl; clear e1 e2 e3 e4; (go_simp <;> with_reducible rfl)
      try simp only [Act.put, List.setIfInBounds_toArray, List.set_cons_zero, List.set_cons_succ]
      refine anyW_take (i := 2) (oi := ⟨some 22, _, _, _, _, _⟩) (v := ?_) rfl (by kernel_rfl) (fun _ _ _ h => h) (by kernel_rfl) (by kernel_rfl) (Or.inl ⟨by rfl, ?_⟩) hS ?_
      rotate_left 1
      · intro w' hB; obtain ⟨e1, e2, e3, e4⟩ := hB; have c1 := cell_of_one e1; have c2 := cell_of_one e2; have c3 := cell_of_one e3; obtain ⟨x0, x1, x2, x3⟩ := e4.cellsP (pa l) (pa r) rfl rfl; clear e1 e2 e3 e4; (go_simp <;> with_reducible rfl)
      try simp only [Act.put, List.setIfInBounds_toArray, List.set_cons_zero, List.set_cons_succ]
      refine anyW_take (i := 3) (oi := ⟨some 23, _, _, _, _, _⟩) (v := ?_) rfl (by kernel_rfl) (fun _ _ _ h => h) (by kernel_rfl) (by kernel_rfl) (Or.inl ⟨by rfl, ?_⟩) hS ?_
      rotate_left 1
      · intro w' hB; obtain ⟨e1, e2, e3, e4⟩ := hB; have c1 := cell_of_one e1; have c2 := cell_of_one e2; have c3 := cell_of_one e3; obtain ⟨x0, x1, x2, x3⟩ := e4.cellsP (pa l) (pa r) rfl rfl; clear e1 e2 e3 e4; (go_simp <;> with_reducible rfl)
      try simp only [Act.put, List.setIfInBounds_toArray, List.set_cons_zero, List.set_cons_succ]
      refine anyW_take (i := 4) (oi := ⟨some 24, _, _, _, _, _⟩) (v := ?_) rfl (by kernel_rfl) (fun _ _ _ h => h) (by kernel_rfl) (by kernel_rfl) (Or.inl ⟨by rfl, ?_⟩) hS ?_
      rotate_left 1
      · intro w' hB; obtain ⟨e1, e2, e3, e4⟩ := hB; have c1 := cell_of_one e1; have c2 := cell_of_one e2; have c3 := cell_of_one e3; obtain ⟨x0, x1, x2, x3⟩ := e4.cellsP (pa l) (pa r) rfl rfl; clear e1 e2 e3 e4; (go_simp <;> with_reducible rfl)
      try simp only [Act.put, List.setIfInBounds_toArray, List.set_cons_zero, List.set_cons_succ]
      refine anyW_one (i := 5) (o := ⟨some 25, _, _, _, _, _⟩) (by kernel_rfl) rfl (by rfl) (fun K hK => ?_)
      refine op_wide ?_
      go_simp
      refine (I1.out pre _ (fun b' hb => HB.out b' (by simp [blocks, hb])) HS2.out HJ2.out ⟨hSd.k, hSd.g, hSd.y, hSd.a.2.1⟩ L1.out).mono ?_
      intro e w3 hh
      refine Or.elim hh (fun hq => ?alt3) (fun hq => ?alt4) <;> clear hh
      case' alt3 =>
        obtain ⟨rfl, hJ3, hK3⟩ := hq
        have hSn := hSd.keep hK3 h1 h2 h3 HB.out h5 h6
        have H3 : Hid (J (pre ++ fromL key l) w3) := Lib.hid hJ3
        have K3 : Hid (KeepE M S Ex W1 w3) := Lib.hid ((KeepE.below D3.out HSN.out).trans hK3)
        clear hJ3 hK3
        refine hK.out _ _ hSn ?_
        clear hK K hS
        have hS := hSn
        clear hSn
        try simp only [Act.put, List.setIfInBounds_toArray, List.set_cons_zero, List.set_cons_succ]
        refine anyW_take (i := 6) (oi := ⟨some 26, _, _, _, _, _⟩) (v := ?_) rfl (by kernel_rfl) (fun _ _ _ h => h) (by kernel_rfl) (by kernel_rfl) (Or.inl ⟨by rfl, ?_⟩) hS ?_
        rotate_left 1
        · intro w' hB; obtain ⟨e1, e2, e3, e4⟩ := hB; have c1 := cell_of_one e1; have c2 := cell_of_one e2; have c3 := cell_of_one e3; obtain ⟨x0, x1, x2, x3⟩ := e4.cellsP (pa l) (pa r) rfl rfl; clear e1 e2 e3 e4; (go_simp <;> with_reducible rfl)
        try simp only [Act.put, List.setIfInBounds_toArray, List.set_cons_zero, List.set_cons_succ]
        refine anyW_take (i := 7) (oi := ⟨some 27, _, _, _, _, _⟩) (v := ?_) rfl (by kernel_rfl) (fun _ _ _ h => h) (by kernel_rfl) (by kernel_rfl) (Or.inl ⟨by rfl, ?_⟩) hS ?_
        rotate_left 1
        · intro w' hB; obtain ⟨e1, e2, e3, e4⟩ := hB; have c1 := cell_of_one e1; have c2 := cell_of_one e2; have c3 := cell_of_one e3; obtain ⟨x0, x1, x2, x3⟩ := e4.cellsP (pa l) (pa r) rfl rfl; clear e1 e2 e3 e4; (go_simp <;> with_reducible rfl)
        try simp only [Act.put, List.setIfInBounds_toArray, List.set_cons_zero, List.set_cons_succ]
        refine anyW_take (i := 8) (oi := ⟨some 28, _, _, _, _, _⟩) (v := ?_) rfl (by kernel_rfl) (fun _ _ _ h => h) (by kernel_rfl) (by kernel_rfl) (Or.inl ⟨by rfl, ?_⟩) hS ?_
        rotate_left 1
        · intro w' hB; obtain ⟨e1, e2, e3, e4⟩ := hB; have c1 := cell_of_one e1; have c2 := cell_of_one e2; have c3 := cell_of_one e3; obtain ⟨x0, x1, x2, x3⟩ := e4.cellsP (pa l) (pa r) rfl rfl; clear e1 e2 e3 e4; (go_simp <;> with_reducible rfl)
        try simp only [Act.put, List.setIfInBounds_toArray, List.set_cons_zero, List.set_cons_succ]
        refine anyW_take (i := 9) (oi := ⟨some 29, _, _, _, _, _⟩) (v := ?_) rfl (by kernel_rfl) (fun _ _ _ h => h) (by kernel_rfl) (by kernel_rfl) (Or.inl ⟨by rfl, ?_⟩) hS ?_
        rotate_left 1
        · intro w' hB; obtain ⟨e1, e2, e3, e4⟩ := hB; have c1 := cell_of_one e1; have c2 := cell_of_one e2; have c3 := cell_of_one e3; obtain ⟨x0, x1, x2, x3⟩ := e4.cellsP (pa l) (pa r) rfl rfl; clear e1 e2 e3 e4; (go_simp <;> with_reducible rfl)
        try simp only [Act.put, List.setIfInBounds_toArray, List.set_cons_zero, List.set_cons_succ]
        refine anyW_take (i := 10) (oi := ⟨some 30, _, _, _, _, _⟩) (v := ?_) rfl (by kernel_rfl) (fun _ _ _ h => h) (by kernel_rfl) (by kernel_rfl) (Or.inl ⟨by rfl, ?_⟩) hS ?_
        rotate_left 1
        · intro w' hB; obtain ⟨e1, e2, e3, e4⟩ := hB; have c1 := cell_of_one e1; have c2 := cell_of_one e2; have c3 := cell_of_one e3; obtain ⟨x0, x1, x2, x3⟩ := e4.cellsP (pa l) (pa r) rfl rfl; clear e1 e2 e3 e4; (go_simp <;> with_reducible rfl)
        try simp only [Act.put, List.setIfInBounds_toArray, List.set_cons_zero, List.set_cons_succ]
        refine anyW_take (i := 11) (oi := ⟨some 31, _, _, _, _, _⟩) (v := ?_) rfl (by kernel_rfl) (fun _ _ _ h => h) (by kernel_rfl) (by kernel_rfl) (Or.inl ⟨by rfl, ?_⟩) hS ?_
        rotate_left 1
        · intro w' hB; obtain ⟨e1, e2, e3, e4⟩ := hB; have c1 := cell_of_one e1; have c2 := cell_of_one e2; have c3 := cell_of_one e3; obtain ⟨x0, x1, x2, x3⟩ := e4.cellsP (pa l) (pa r) rfl rfl; clear e1 e2 e3 e4; (go_simp <;> with_reducible rfl)
        try simp only [Act.put, List.setIfInBounds_toArray, List.set_cons_zero, List.set_cons_succ]
        refine anyW_take (i := 12) (oi := ⟨some 32, _, _, _, _, _⟩) (v := ?_) rfl (by kernel_rfl) (fun _ _ _ h => h) (by kernel_rfl) (by kernel_rfl) (Or.inl ⟨by rfl, ?_⟩) hS ?_
        rotate_left 1
        · intro w' hB; obtain ⟨e1, e2, e3, e4⟩ := hB; have c1 := cell_of_one e1; have c2 := cell_of_one e2; have c3 := cell_of_one e3; obtain ⟨x0, x1, x2, x3⟩ := e4.cellsP (pa l) (pa r) rfl rfl; clear e1 e2 e3 e4; (go_simp <;> with_reducible rfl)
        try simp only [Act.put, List.setIfInBounds_toArray, List.set_cons_zero, List.set_cons_succ]
        refine anyW_take (i := 13) (oi := ⟨some 33, _, _, _, _, _⟩) (v := ?_) rfl (by kernel_rfl) (fun _ _ _ h => h) (by kernel_rfl) (by kernel_rfl) (Or.inl ⟨by rfl, ?_⟩) hS ?_
        rotate_left 1
        · intro w' hB; obtain ⟨e1, e2, e3, e4⟩ := hB; have c1 := cell_of_one e1; have c2 := cell_of_one e2; have c3 := cell_of_one e3; obtain ⟨x0, x1, x2, x3⟩ := e4.cellsP (pa l) (pa r) rfl rfl; clear e1 e2 e3 e4; (go_simp <;> with_reducible rfl)
        try simp only [Act.put, List.setIfInBounds_toArray, List.set_cons_zero, List.set_cons_succ]
        refine anyW_take (i := 14) (oi := ⟨some 34, _, _, _, _, _⟩) (v := ?_) rfl (by kernel_rfl) (fun _ _ _ h => h) (by kernel_rfl) (by kernel_rfl) (Or.inl ⟨by rfl, ?_⟩) hS ?_
        rotate_left 1
        · intro w' hB; obtain ⟨e1, e2, e3, e4⟩ := hB; have c1 := cell_of_one e1; have c2 := cell_of_one e2; have c3 := cell_of_one e3; obtain ⟨x0, x1, x2, x3⟩ := e4.cellsP (pa l) (pa r) rfl rfl; clear e1 e2 e3 e4; (go_simp <;> with_reducible rfl)
        try simp only [Act.put, List.setIfInBounds_toArray, List.set_cons_zero, List.set_cons_succ]
        refine anyW_take (i := 15) (oi := ⟨some 35, _, _, _, _, _⟩) (v := ?_) rfl (by kernel_rfl) (fun _ _ _ h => h) (by kernel_rfl) (by kernel_rfl) (Or.inl ⟨by rfl, ?_⟩) hS ?_
        rotate_left 1
        · intro w' hB; obtain ⟨e1, e2, e3, e4⟩ := hB; have c1 := cell_of_one e1; have c2 := cell_of_one e2; have c3 := cell_of_one e3; obtain ⟨x0, x1, x2, x3⟩ := e4.cellsP (pa l) (pa r) rfl rfl; clear e1 e2 e3 e4; (go_simp <;> with_reducible rfl)
        try simp only [Act.put, List.setIfInBounds_toArray, List.set_cons_zero, List.set_cons_succ]
        refine anyW_one (i := 16) (o := ⟨some 36, _, _, _, _, _⟩) (by kernel_rfl) rfl (by rfl) (fun K hK => ?_)
        obtain ⟨fn, tmps, assign, body', hyy, hRR⟩ := yieldW (m' := 5) (HY.out _ (k, v) _ H3.out L2.out)
        simp only [encKVI] at hyy
        refine yield_wide (l := ll) (vals := #[.string k, .int .i64 v]) rfl rfl (by simp only [List.map_toArray, List.map_cons, List.map_nil]; rfl) hyy ?_
        refine ((roundW hRR)).mono ?_
        intro e w4 hh
        refine Or.elim hh (fun hq => ?alt5) (fun hq => ?alt6) <;> clear hh
        case' alt5 =>
          obtain ⟨rfl, hJ4, hK4⟩ := hq
          have hSn := hS.keep hK4 h1 h2 h3 HB.out h5 h6
          have H4 : Hid (J (pre ++ fromL key l ++ [(k, v)]) w4) := Lib.hid hJ4
          have K4 : Hid (KeepE M S Ex W1 w4) := Lib.hid (K3.out.trans hK4)
          clear hJ4 hK4 H3 K3 hyy hRR
          refine hK.out _ _ hSn ?_
          clear hK K hS
          have hS := hSn
          clear hSn
          try simp only [Act.put, List.setIfInBounds_toArray, List.set_cons_zero, List.set_cons_succ]
          refine anyW_take (i := 17) (oi := ⟨some 37, _, _, _, _, _⟩) (v := ?_) rfl (by kernel_rfl) (fun _ _ _ h => h) (by kernel_rfl) (by kernel_rfl) (Or.inl ⟨by rfl, ?_⟩) hS ?_
          rotate_left 1
          · intro w' hB; obtain ⟨e1, e2, e3, e4⟩ := hB; have c1 := cell_of_one e1; have c2 := cell_of_one e2; have c3 := cell_of_one e3; obtain ⟨x0, x1, x2, x3⟩ := e4.cellsP (pa l) (pa r) rfl rfl; clear e1 e2 e3 e4; (go_simp <;> with_reducible rfl)
          try simp only [Act.put, List.setIfInBounds_toArray, List.set_cons_zero, List.set_cons_succ]
          refine anyW_take (i := 18) (oi := ⟨some 38, _, _, _, _, _⟩) (v := ?_) rfl (by kernel_rfl) (fun _ _ _ h => h) (by kernel_rfl) (by kernel_rfl) (Or.inl ⟨by rfl, ?_⟩) hS ?_
          rotate_left 1
          · intro w' hB; obtain ⟨e1, e2, e3, e4⟩ := hB; have c1 := cell_of_one e1; have c2 := cell_of_one e2; have c3 := cell_of_one e3; obtain ⟨x0, x1, x2, x3⟩ := e4.cellsP (pa l) (pa r) rfl rfl; clear e1 e2 e3 e4; (go_simp <;> with_reducible rfl)
          try simp only [Act.put, List.setIfInBounds_toArray, List.set_cons_zero, List.set_cons_succ]
          refine anyW_take (i := 19) (oi := ⟨some 39, _, _, _, _, _⟩) (v := ?_) rfl (by kernel_rfl) (fun _ _ _ h => h) (by kernel_rfl) (by kernel_rfl) (Or.inl ⟨by rfl, ?_⟩) hS ?_
          rotate_left 1
          · intro w' hB; obtain ⟨e1, e2, e3, e4⟩ := hB; have c1 := cell_of_one e1; have c2 := cell_of_one e2; have c3 := cell_of_one e3; obtain ⟨x0, x1, x2, x3⟩ := e4.cellsP (pa l) (pa r) rfl rfl; clear e1 e2 e3 e4; (go_simp <;> with_reducible rfl)
          try simp only [Act.put, List.setIfInBounds_toArray, List.set_cons_zero, List.set_cons_succ]
          refine anyW_take (i := 20) (oi := ⟨some 40, _, _, _, _, _⟩) (v := ?_) rfl (by kernel_rfl) (fun _ _ _ h => h) (by kernel_rfl) (by kernel_rfl) (Or.inl ⟨by rfl, ?_⟩) hS ?_
          rotate_left 1
          · intro w' hB; obtain ⟨e1, e2, e3, e4⟩ := hB; have c1 := cell_of_one e1; have c2 := cell_of_one e2; have c3 := cell_of_one e3; obtain ⟨x0, x1, x2, x3⟩ := e4.cellsP (pa l) (pa r) rfl rfl; clear e1 e2 e3 e4; (go_simp <;> with_reducible rfl)
          try simp only [Act.put, List.setIfInBounds_toArray, List.set_cons_zero, List.set_cons_succ]
          refine anyW_take (i := 21) (oi := ⟨some 41, _, _, _, _, _⟩) (v := ?_) rfl (by kernel_rfl) (fun _ _ _ h => h) (by kernel_rfl) (by kernel_rfl) (Or.inl ⟨by rfl, ?_⟩) hS ?_
          rotate_left 1
          · intro w' hB; obtain ⟨e1, e2, e3, e4⟩ := hB; have c1 := cell_of_one e1; have c2 := cell_of_one e2; have c3 := cell_of_one e3; obtain ⟨x0, x1, x2, x3⟩ := e4.cellsP (pa l) (pa r) rfl rfl; clear e1 e2 e3 e4; (go_simp <;> with_reducible rfl)
          try simp only [Act.put, List.setIfInBounds_toArray, List.set_cons_zero, List.set_cons_succ]
          refine anyW_take (i := 22) (oi := ⟨some 42, _, _, _, _, _⟩) (v := ?_) rfl (by kernel_rfl) (fun _ _ _ h => h) (by kernel_rfl) (by kernel_rfl) (Or.inl ⟨by rfl, ?_⟩) hS ?_
          rotate_left 1
          · intro w' hB; obtain ⟨e1, e2, e3, e4⟩ := hB; have c1 := cell_of_one e1; have c2 := cell_of_one e2; have c3 := cell_of_one e3; obtain ⟨x0, x1, x2, x3⟩ := e4.cellsP (pa l) (pa r) rfl rfl; clear e1 e2 e3 e4; (go_simp <;> with_reducible rfl)
          try simp only [Act.put, List.setIfInBounds_toArray, List.set_cons_zero, List.set_cons_succ]
          refine anyW_take (i := 23) (oi := ⟨some 43, _, _, _, _, _⟩) (v := ?_) rfl (by kernel_rfl) (fun _ _ _ h => h) (by kernel_rfl) (by kernel_rfl) (Or.inl ⟨by rfl, ?_⟩) hS ?_
          rotate_left 1
          · intro w' hB; obtain ⟨e1, e2, e3, e4⟩ := hB; have c1 := cell_of_one e1; have c2 := cell_of_one e2; have c3 := cell_of_one e3; obtain ⟨x0, x1, x2, x3⟩ := e4.cellsP (pa l) (pa r) rfl rfl; clear e1 e2 e3 e4; (go_simp <;> with_reducible rfl)
          try simp only [Act.put, List.setIfInBounds_toArray, List.set_cons_zero, List.set_cons_succ]
          refine anyW_one (i := 24) (o := ⟨some 44, _, _, _, _, _⟩) (by kernel_rfl) rfl (by rfl) (fun K hK => ?_)
          refine op_wide ?_
          go_simp
          refine (I2.out _ _ (fun b' hb => HB.out b' (by simp [blocks, hb])) (fun k hk => Nat.lt_of_lt_of_le (HSN.out k hk) K4.out.size) H4.out ⟨hS.k, hS.g, hS.y, hS.a.2.2⟩ L3.out).mono ?_
          intro e w5 hh
          refine Or.elim hh (fun hq => ?alt7) (fun hq => ?alt8) <;> clear hh
          case' alt7 =>
            obtain ⟨rfl, hJ5, hK5⟩ := hq
            have hSn := hS.keep hK5 h1 h2 h3 HB.out h5 h6
            have H3 : Hid (J (pre ++ fromL key l ++ [(k, v)] ++ fromL key r) w5 ∧ KeepE M S Ex W1 w5) := Lib.hid ⟨hJ5, K4.out.trans hK5⟩
            clear hJ5 hK5
            refine hK.out _ _ hSn ?_
            clear hK K hS
            have hS := hSn
            clear hSn
            try simp only [Act.put, List.setIfInBounds_toArray, List.set_cons_zero, List.set_cons_succ]
            refine anyW_take (i := 25) (oi := ⟨some 45, _, _, _, _, _⟩) (v := ?_) rfl (by kernel_rfl) (fun _ _ _ h => h) (by kernel_rfl) (by kernel_rfl) (Or.inl ⟨by rfl, ?_⟩) hS ?_
            rotate_left 1
            · intro w' hB; obtain ⟨e1, e2, e3, e4⟩ := hB; have c1 := cell_of_one e1; have c2 := cell_of_one e2; have c3 := cell_of_one e3; obtain ⟨x0, x1, x2, x3⟩ := e4.cellsP (pa l) (pa r) rfl rfl; clear e1 e2 e3 e4; (go_simp <;> with_reducible rfl)
            try simp only [Act.put, List.setIfInBounds_toArray, List.set_cons_zero, List.set_cons_succ]
            refine anyW_take (i := 26) (oi := ⟨some 5, _, _, _, _, _⟩) (v := ?_) rfl (by kernel_rfl) (fun _ _ _ h => h) (by kernel_rfl) (by kernel_rfl) (Or.inl ⟨by rfl, ?_⟩) hS ?_
            rotate_left 1
            · intro w' hB; obtain ⟨e1, e2, e3, e4⟩ := hB; have c1 := cell_of_one e1; have c2 := cell_of_one e2; have c3 := cell_of_one e3; obtain ⟨x0, x1, x2, x3⟩ := e4.cellsP (pa l) (pa r) rfl rfl; clear e1 e2 e3 e4; (go_simp <;> with_reducible rfl)
            try simp only [Act.put, List.setIfInBounds_toArray, List.set_cons_zero, List.set_cons_succ]
            refine anyW_done (by kernel_rfl) (OnlyE.normal ?_) _
          case' alt8 =>
            obtain ⟨rfl, hJ5, hK5⟩ := hq
            have hSn := hS.keep hK5 h1 h2 h3 HB.out h5 h6
            have H3 : Hid ((∃ pre', pre' <+: L ∧ Jx pre' w5) ∧ KeepE M S Ex W1 w5) := Lib.hid ⟨hJ5, K4.out.trans hK5⟩
            clear hJ5 hK5
            refine hK.out _ _ hSn ?_
            clear hK K hS
            have hS := hSn
            clear hSn
            try simp only [Act.put, List.setIfInBounds_toArray, List.set_cons_zero, List.set_cons_succ]
            refine anyW_take (i := 25) (oi := ⟨some 45, _, _, _, _, _⟩) (v := ?_) rfl (by kernel_rfl) (fun _ _ _ h => h) (by kernel_rfl) (by kernel_rfl) (Or.inl ⟨by rfl, ?_⟩) hS ?_
            rotate_left 1
            · intro w' hB; obtain ⟨e1, e2, e3, e4⟩ := hB; have c1 := cell_of_one e1; have c2 := cell_of_one e2; have c3 := cell_of_one e3; obtain ⟨x0, x1, x2, x3⟩ := e4.cellsP (pa l) (pa r) rfl rfl; clear e1 e2 e3 e4; (go_simp <;> with_reducible rfl)
            try simp only [Act.put, List.setIfInBounds_toArray, List.set_cons_zero, List.set_cons_succ]
            refine anyW_take (i := 26) (oi := ⟨some 5, _, _, _, _, _⟩) (v := ?_) rfl (by kernel_rfl) (fun _ _ _ h => h) (by kernel_rfl) (by kernel_rfl) (Or.inl ⟨by rfl, ?_⟩) hS ?_
            rotate_left 1
            · intro w' hB; obtain ⟨e1, e2, e3, e4⟩ := hB; have c1 := cell_of_one e1; have c2 := cell_of_one e2; have c3 := cell_of_one e3; obtain ⟨x0, x1, x2, x3⟩ := e4.cellsP (pa l) (pa r) rfl rfl; clear e1 e2 e3 e4; (go_simp <;> with_reducible rfl)
            try simp only [Act.put, List.setIfInBounds_toArray, List.set_cons_zero, List.set_cons_succ]
            refine anyW_done (by kernel_rfl) (OnlyE.normal ?_) _
        case' alt6 =>
          obtain ⟨rfl, hJ4, hK4⟩ := hq
          have hSn := hS.keep hK4 h1 h2 h3 HB.out h5 h6
          have H3 : Hid ((∃ pre', pre' <+: L ∧ Jx pre' w4) ∧ KeepE M S Ex W1 w4) := Lib.hid ⟨⟨_, L2.out, hJ4⟩, K3.out.trans hK4⟩
          clear hJ4 hK4 K3 hyy hRR
          refine hK.out _ _ hSn ?_
          clear hK K hS
          have hS := hSn
          clear hSn
          try simp only [Act.put, List.setIfInBounds_toArray, List.set_cons_zero, List.set_cons_succ]
          refine anyW_take (i := 17) (oi := ⟨some 37, _, _, _, _, _⟩) (v := ?_) rfl (by kernel_rfl) (fun _ _ _ h => h) (by kernel_rfl) (by kernel_rfl) (Or.inl ⟨by rfl, ?_⟩) hS ?_
          rotate_left 1
          · intro w' hB; obtain ⟨e1, e2, e3, e4⟩ := hB; have c1 := cell_of_one e1; have c2 := cell_of_one e2; have c3 := cell_of_one e3; obtain ⟨x0, x1, x2, x3⟩ := e4.cellsP (pa l) (pa r) rfl rfl; clear e1 e2 e3 e4; (go_simp <;> with_reducible rfl)
          try simp only [Act.put, List.setIfInBounds_toArray, List.set_cons_zero, List.set_cons_succ]
          refine anyW_take (i := 18) (oi := ⟨some 38, _, _, _, _, _⟩) (v := ?_) rfl (by kernel_rfl) (fun _ _ _ h => h) (by kernel_rfl) (by kernel_rfl) (Or.inl ⟨by rfl, ?_⟩) hS ?_
          rotate_left 1
          · intro w' hB; obtain ⟨e1, e2, e3, e4⟩ := hB; have c1 := cell_of_one e1; have c2 := cell_of_one e2; have c3 := cell_of_one e3; obtain ⟨x0, x1, x2, x3⟩ := e4.cellsP (pa l) (pa r) rfl rfl; clear e1 e2 e3 e4; (go_simp <;> with_reducible rfl)
          try simp only [Act.put, List.setIfInBounds_toArray, List.set_cons_zero, List.set_cons_succ]
          refine anyW_take (i := 19) (oi := ⟨some 39, _, _, _, _, _⟩) rfl (by kernel_rfl) (fun _ _ _ h => h) (by kernel_rfl) (by kernel_rfl) (Or.inr ⟨by rfl, rfl⟩) hS ?_
          try simp only [Act.put, List.setIfInBounds_toArray, List.set_cons_zero, List.set_cons_succ]
          refine anyW_take (i := 20) (oi := ⟨some 40, _, _, _, _, _⟩) rfl (by kernel_rfl) (fun _ _ _ h => h) (by kernel_rfl) (by kernel_rfl) (Or.inr ⟨by rfl, rfl⟩) hS ?_
          try simp only [Act.put, List.setIfInBounds_toArray, List.set_cons_zero, List.set_cons_succ]
          refine anyW_take (i := 21) (oi := ⟨some 41, _, _, _, _, _⟩) rfl (by kernel_rfl) (fun _ _ _ h => h) (by kernel_rfl) (by kernel_rfl) (Or.inr ⟨by rfl, rfl⟩) hS ?_
          try simp only [Act.put, List.setIfInBounds_toArray, List.set_cons_zero, List.set_cons_succ]
          refine anyW_take (i := 22) (oi := ⟨some 42, _, _, _, _, _⟩) rfl (by kernel_rfl) (fun _ _ _ h => h) (by kernel_rfl) (by kernel_rfl) (Or.inr ⟨by rfl, rfl⟩) hS ?_
          try simp only [Act.put, List.setIfInBounds_toArray, List.set_cons_zero, List.set_cons_succ]
          refine anyW_take (i := 23) (oi := ⟨some 43, _, _, _, _, _⟩) rfl (by kernel_rfl) (fun _ _ _ h => h) (by kernel_rfl) (by kernel_rfl) (Or.inr ⟨by rfl, rfl⟩) hS ?_
          try simp only [Act.put, List.setIfInBounds_toArray, List.set_cons_zero, List.set_cons_succ]
          refine anyW_take (i := 24) (oi := ⟨some 44, _, _, _, _, _⟩) rfl (by kernel_rfl) (fun _ _ _ h => h) (by kernel_rfl) (by kernel_rfl) (Or.inr ⟨by rfl, rfl⟩) hS ?_
          try simp only [Act.put, List.setIfInBounds_toArray, List.set_cons_zero, List.set_cons_succ]
          refine anyW_take (i := 25) (oi := ⟨some 45, _, _, _, _, _⟩) (v := ?_) rfl (by kernel_rfl) (fun _ _ _ h => h) (by kernel_rfl) (by kernel_rfl) (Or.inl ⟨by rfl, ?_⟩) hS ?_
          rotate_left 1
          · intro w' hB; obtain ⟨e1, e2, e3, e4⟩ := hB; have c1 := cell_of_one e1; have c2 := cell_of_one e2; have c3 := cell_of_one e3; obtain ⟨x0, x1, x2, x3⟩ := e4.cellsP (pa l) (pa r) rfl rfl; clear e1 e2 e3 e4; (go_simp <;> with_reducible rfl)
          try simp only [Act.put, List.setIfInBounds_toArray, List.set_cons_zero, List.set_cons_succ]
          refine anyW_take (i := 26) (oi := ⟨some 5, _, _, _, _, _⟩) (v := ?_) rfl (by kernel_rfl) (fun _ _ _ h => h) (by kernel_rfl) (by kernel_rfl) (Or.inl ⟨by rfl, ?_⟩) hS ?_
          rotate_left 1
          · intro w' hB; obtain ⟨e1, e2, e3, e4⟩ := hB; have c1 := cell_of_one e1; have c2 := cell_of_one e2; have c3 := cell_of_one e3; obtain ⟨x0, x1, x2, x3⟩ := e4.cellsP (pa l) (pa r) rfl rfl; clear e1 e2 e3 e4; (go_simp <;> with_reducible rfl)
          try simp only [Act.put, List.setIfInBounds_toArray, List.set_cons_zero, List.set_cons_succ]
          refine anyW_done (by kernel_rfl) (OnlyE.normal ?_) _
      case' alt4 =>
        obtain ⟨rfl, hJ3, hK3⟩ := hq
        have hSn := hSd.keep hK3 h1 h2 h3 HB.out h5 h6
        have H3 : Hid ((∃ pre', pre' <+: L ∧ Jx pre' w3) ∧ KeepE M S Ex W1 w3) := Lib.hid ⟨hJ3, (KeepE.below D3.out HSN.out).trans hK3⟩
        clear hJ3 hK3
        refine hK.out _ _ hSn ?_
        clear hK K hS
        have hS := hSn
        clear hSn
        try simp only [Act.put, List.setIfInBounds_toArray, List.set_cons_zero, List.set_cons_succ]
        refine anyW_take (i := 6) (oi := ⟨some 26, _, _, _, _, _⟩) (v := ?_) rfl (by kernel_rfl) (fun _ _ _ h => h) (by kernel_rfl) (by kernel_rfl) (Or.inl ⟨by rfl, ?_⟩) hS ?_
        rotate_left 1
        · intro w' hB; obtain ⟨e1, e2, e3, e4⟩ := hB; have c1 := cell_of_one e1; have c2 := cell_of_one e2; have c3 := cell_of_one e3; obtain ⟨x0, x1, x2, x3⟩ := e4.cellsP (pa l) (pa r) rfl rfl; clear e1 e2 e3 e4; (go_simp <;> with_reducible rfl)
        try simp only [Act.put, List.setIfInBounds_toArray, List.set_cons_zero, List.set_cons_succ]
        refine anyW_take (i := 7) (oi := ⟨some 27, _, _, _, _, _⟩) rfl (by kernel_rfl) (fun _ _ _ h => h) (by kernel_rfl) (by kernel_rfl) (Or.inr ⟨by rfl, rfl⟩) hS ?_
        try simp only [Act.put, List.setIfInBounds_toArray, List.set_cons_zero, List.set_cons_succ]
        refine anyW_take (i := 8) (oi := ⟨some 28, _, _, _, _, _⟩) rfl (by kernel_rfl) (fun _ _ _ h => h) (by kernel_rfl) (by kernel_rfl) (Or.inr ⟨by rfl, rfl⟩) hS ?_
        try simp only [Act.put, List.setIfInBounds_toArray, List.set_cons_zero, List.set_cons_succ]
        refine anyW_take (i := 9) (oi := ⟨some 29, _, _, _, _, _⟩) rfl (by kernel_rfl) (fun _ _ _ h => h) (by kernel_rfl) (by kernel_rfl) (Or.inr ⟨by rfl, rfl⟩) hS ?_
        try simp only [Act.put, List.setIfInBounds_toArray, List.set_cons_zero, List.set_cons_succ]
        refine anyW_take (i := 10) (oi := ⟨some 30, _, _, _, _, _⟩) rfl (by kernel_rfl) (fun _ _ _ h => h) (by kernel_rfl) (by kernel_rfl) (Or.inr ⟨by rfl, rfl⟩) hS ?_
        try simp only [Act.put, List.setIfInBounds_toArray, List.set_cons_zero, List.set_cons_succ]
        refine anyW_take (i := 11) (oi := ⟨some 31, _, _, _, _, _⟩) rfl (by kernel_rfl) (fun _ _ _ h => h) (by kernel_rfl) (by kernel_rfl) (Or.inr ⟨by rfl, rfl⟩) hS ?_
        try simp only [Act.put, List.setIfInBounds_toArray, List.set_cons_zero, List.set_cons_succ]
        refine anyW_take (i := 12) (oi := ⟨some 32, _, _, _, _, _⟩) rfl (by kernel_rfl) (fun _ _ _ h => h) (by kernel_rfl) (by kernel_rfl) (Or.inr ⟨by rfl, rfl⟩) hS ?_
        try simp only [Act.put, List.setIfInBounds_toArray, List.set_cons_zero, List.set_cons_succ]
        refine anyW_take (i := 13) (oi := ⟨some 33, _, _, _, _, _⟩) rfl (by kernel_rfl) (fun _ _ _ h => h) (by kernel_rfl) (by kernel_rfl) (Or.inr ⟨by rfl, rfl⟩) hS ?_
        try simp only [Act.put, List.setIfInBounds_toArray, List.set_cons_zero, List.set_cons_succ]
        refine anyW_take (i := 14) (oi := ⟨some 34, _, _, _, _, _⟩) rfl (by kernel_rfl) (fun _ _ _ h => h) (by kernel_rfl) (by kernel_rfl) (Or.inr ⟨by rfl, rfl⟩) hS ?_
        try simp only [Act.put, List.setIfInBounds_toArray, List.set_cons_zero, List.set_cons_succ]
        refine anyW_take (i := 15) (oi := ⟨some 35, _, _, _, _, _⟩) rfl (by kernel_rfl) (fun _ _ _ h => h) (by kernel_rfl) (by kernel_rfl) (Or.inr ⟨by rfl, rfl⟩) hS ?_
        try simp only [Act.put, List.setIfInBounds_toArray, List.set_cons_zero, List.set_cons_succ]
        refine anyW_take (i := 16) (oi := ⟨some 36, _, _, _, _, _⟩) rfl (by kernel_rfl) (fun _ _ _ h => h) (by kernel_rfl) (by kernel_rfl) (Or.inr ⟨by rfl, rfl⟩) hS ?_
        try simp only [Act.put, List.setIfInBounds_toArray, List.set_cons_zero, List.set_cons_succ]
        refine anyW_take (i := 17) (oi := ⟨some 37, _, _, _, _, _⟩) (v := ?_) rfl (by kernel_rfl) (fun _ _ _ h => h) (by kernel_rfl) (by kernel_rfl) (Or.inl ⟨by rfl, ?_⟩) hS ?_
        rotate_left 1
        · intro w' hB; obtain ⟨e1, e2, e3, e4⟩ := hB; have c1 := cell_of_one e1; have c2 := cell_of_one e2; have c3 := cell_of_one e3; obtain ⟨x0, x1, x2, x3⟩ := e4.cellsP (pa l) (pa r) rfl rfl; clear e1 e2 e3 e4; (go_simp <;> with_reducible rfl)
        try simp only [Act.put, List.setIfInBounds_toArray, List.set_cons_zero, List.set_cons_succ]
        refine anyW_take (i := 18) (oi := ⟨some 38, _, _, _, _, _⟩) (v := ?_) rfl (by kernel_rfl) (fun _ _ _ h => h) (by kernel_rfl) (by kernel_rfl) (Or.inl ⟨by rfl, ?_⟩) hS ?_
        rotate_left 1
        · intro w' hB; obtain ⟨e1, e2, e3, e4⟩ := hB; have c1 := cell_of_one e1; have c2 := cell_of_one e2; have c3 := cell_of_one e3; obtain ⟨x0, x1, x2, x3⟩ := e4.cellsP (pa l) (pa r) rfl rfl; clear e1 e2 e3 e4; (go_simp <;> with_reducible rfl)
        try simp only [Act.put, List.setIfInBounds_toArray, List.set_cons_zero, List.set_cons_succ]
        refine anyW_take (i := 19) (oi := ⟨some 39, _, _, _, _, _⟩) rfl (by kernel_rfl) (fun _ _ _ h => h) (by kernel_rfl) (by kernel_rfl) (Or.inr ⟨by rfl, rfl⟩) hS ?_
        try simp only [Act.put, List.setIfInBounds_toArray, List.set_cons_zero, List.set_cons_succ]
        refine anyW_take (i := 20) (oi := ⟨some 40, _, _, _, _, _⟩) rfl (by kernel_rfl) (fun _ _ _ h => h) (by kernel_rfl) (by kernel_rfl) (Or.inr ⟨by rfl, rfl⟩) hS ?_
        try simp only [Act.put, List.setIfInBounds_toArray, List.set_cons_zero, List.set_cons_succ]
        refine anyW_take (i := 21) (oi := ⟨some 41, _, _, _, _, _⟩) rfl (by kernel_rfl) (fun _ _ _ h => h) (by kernel_rfl) (by kernel_rfl) (Or.inr ⟨by rfl, rfl⟩) hS ?_
        try simp only [Act.put, List.setIfInBounds_toArray, List.set_cons_zero, List.set_cons_succ]
        refine anyW_take (i := 22) (oi := ⟨some 42, _, _, _, _, _⟩) rfl (by kernel_rfl) (fun _ _ _ h => h) (by kernel_rfl) (by kernel_rfl) (Or.inr ⟨by rfl, rfl⟩) hS ?_
        try simp only [Act.put, List.setIfInBounds_toArray, List.set_cons_zero, List.set_cons_succ]
        refine anyW_take (i := 23) (oi := ⟨some 43, _, _, _, _, _⟩) rfl (by kernel_rfl) (fun _ _ _ h => h) (by kernel_rfl) (by kernel_rfl) (Or.inr ⟨by rfl, rfl⟩) hS ?_
        try simp only [Act.put, List.setIfInBounds_toArray, List.set_cons_zero, List.set_cons_succ]
        refine anyW_take (i := 24) (oi := ⟨some 44, _, _, _, _, _⟩) rfl (by kernel_rfl) (fun _ _ _ h => h) (by kernel_rfl) (by kernel_rfl) (Or.inr ⟨by rfl, rfl⟩) hS ?_
        try simp only [Act.put, List.setIfInBounds_toArray, List.set_cons_zero, List.set_cons_succ]
        refine anyW_take (i := 25) (oi := ⟨some 45, _, _, _, _, _⟩) (v := ?_) rfl (by kernel_rfl) (fun _ _ _ h => h) (by kernel_rfl) (by kernel_rfl) (Or.inl ⟨by rfl, ?_⟩) hS ?_
        rotate_left 1
        · intro w' hB; obtain ⟨e1, e2, e3, e4⟩ := hB; have c1 := cell_of_one e1; have c2 := cell_of_one e2; have c3 := cell_of_one e3; obtain ⟨x0, x1, x2, x3⟩ := e4.cellsP (pa l) (pa r) rfl rfl; clear e1 e2 e3 e4; (go_simp <;> with_reducible rfl)
        try simp only [Act.put, List.setIfInBounds_toArray, List.set_cons_zero, List.set_cons_succ]
        refine anyW_take (i := 26) (oi := ⟨some 5, _, _, _, _, _⟩) (v := ?_) rfl (by kernel_rfl) (fun _ _ _ h => h) (by kernel_rfl) (by kernel_rfl) (Or.inl ⟨by rfl, ?_⟩) hS ?_
        rotate_left 1
        · intro w' hB; obtain ⟨e1, e2, e3, e4⟩ := hB; have c1 := cell_of_one e1; have c2 := cell_of_one e2; have c3 := cell_of_one e3; obtain ⟨x0, x1, x2, x3⟩ := e4.cellsP (pa l) (pa r) rfl rfl; clear e1 e2 e3 e4; (go_simp <;> with_reducible rfl)
        try simp only [Act.put, List.setIfInBounds_toArray, List.set_cons_zero, List.set_cons_succ]
        refine anyW_done (by kernel_rfl) (OnlyE.normal ?_) _
      all_goals
        clear hS
        gi_wp2
        go_ret
        rw [fromL, if_neg hk]
        first | exact .inl ⟨rfl, by simpa using H3.out.1, H3.out.2⟩ | exact .inr ⟨rfl, H3.out⟩
end Go.Proofs.Ytdodkhhlbjamhaa

