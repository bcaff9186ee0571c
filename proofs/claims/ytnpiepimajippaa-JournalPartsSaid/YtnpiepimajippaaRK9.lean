/- Words, contracts and walks that the proof stands on (PmIS PmJS). -/
import Derived.Laws.EntriesVeiled
import Derived.LoopIn
import Derived.LoopNIn
import Derived.OwnWalkIn
import Derived.RangeFuncBound
import Derived.RangeFuncCalls
import Derived.RangeFuncLeaves
import Derived.RangeFuncNested
import Derived.Shelf.Abstract
import Derived.TacticsInMore
import Derived.Test.YtnpiepimajippaaRK7
import Derived.Test.YtnpiepimajippaaRK8
namespace Go.Proofs.Ytnpiepimajippaa
open Go.RowKit Pm
attribute [local go_sem] Oper.semAt_some
def encKVS (x : ByteArray × ByteArray) : Array Value := #[.string x.1, .string x.2]
structure EnvFS (kb gb yb ll : Nat) (key : ByteArray) (s : Tr ByteArray) (W : World) : Prop where
 k : Boxed W kb 9 (.string key)
 g : Boxed W gb 140 (.func (.func 140) #[] #[.pointer (some ⟨kb, 0, none⟩), .pointer (some ⟨gb, 0, none⟩), .pointer (some ⟨yb, 0, none⟩)])
 y : Boxed W yb 139 (.func (.yield ll) #[] #[])
 a : AtS W s
theorem EnvFS.below {kb gb yb ll : Nat} {key : ByteArray} {s : Tr ByteArray} {W W' : World} (h : EnvFS kb gb yb ll key s W) (hb : Below W.heap.size W W') : EnvFS kb gb yb ll key s W' :=
 ⟨boxStays h.k hb, boxStays h.g hb, boxStays h.y hb, h.a.below hb rfl⟩
theorem EnvFS.keep {kb gb yb ll M : Nat} {S : Nat → Prop} {Ex : TypeId → Prop} {key : ByteArray} {s : Tr ByteArray} {W W' : World} (h : EnvFS kb gb yb ll key s W) (hk : KeepE M S Ex W W')
   (h1 : S kb) (h2 : M ≤ gb) (h3 : M ≤ yb) (h4 : ∀ b ∈ blocks s, S b) (h5 : ¬ Ex 140) (h6 : ¬ Ex 139) : EnvFS kb gb yb ll key s W' :=
 ⟨hk.boxS h.k h1, hk.box h.g h2 h5, hk.box h.y h3 h6, h.a.keep fun b o ho hm => (hk.block b (h4 b hm)).trans ho⟩
set_option maxRecDepth 100000 in
set_option maxHeartbeats 4000000 in
theorem go1_fromS (key : ByteArray) (kb gb yb ll M : Nat) (S : Nat → Prop) (Ex : TypeId → Prop) (L : List (ByteArray × ByteArray)) (J Jx : List (ByteArray × ByteArray) → World → Prop) (B0 : Nat)
   (hJo : OwnFrom B0 J) (h1 : S kb) (h2 : M ≤ gb) (h3 : M ≤ yb) (h5 : ¬ Ex 140) (h6 : ¬ Ex 139)
   (hY : ∀ pre x W1, J pre W1 → pre ++ [x] <+: L → YieldAt Fence.wide 0 Try.prog ll (encKVS x) W1 fun e W' =>
     (e = .returned (.bool true) ∧ J (pre ++ [x]) W' ∧ KeepE M S Ex W1 W') ∨ (e = .returned (.bool false) ∧ Jx (pre ++ [x]) W' ∧ KeepE M S Ex W1 W')) :
   ∀ (s : Tr ByteArray) (pre : List (ByteArray × ByteArray)) (W1 : World), (∀ b ∈ blocks s, S b) → (∀ k, S k → k < W1.heap.size) → J pre W1 → EnvFS kb gb yb ll key s W1 → pre ++ fromL key s <+: L →
     Calls Try.prog 140 #[.pointer (pa s), .pointer (some ⟨kb, 0, none⟩), .pointer (some ⟨gb, 0, none⟩), .pointer (some ⟨yb, 0, none⟩)] W1 fun e W' =>
       (e = .returned (.bool true) ∧ J (pre ++ fromL key s) W' ∧ KeepE M S Ex W1 W') ∨ (e = .returned (.bool false) ∧ (∃ pre', pre' <+: L ∧ Jx pre' W') ∧ KeepE M S Ex W1 W') := by
 have HY := Lib.hid hY
 clear hY
 intro s
 induction s with
 | nil =>
   intro pre W1 _ _ hJ _ _
   change Calls _ _ #[.pointer none, _, _, _] W1 _
   have HJ := Lib.hid hJ
   clear hJ
   go_enter Try.func140, Try.ntmps140
   go_wp2_with fail
   go_ret
   exact .inl ⟨rfl, by simpa [fromL] using HJ.out, KeepE.refl _⟩
 | node b l k v r ih1 ih2 =>
   intro pre W1 hSb hSN hJ hE hL
   have HE := Lib.hid hE
   have HJ := Lib.hid hJ
   have I1 := Lib.hid ih1
   have I2 := Lib.hid ih2
   have HB := Lib.hid hSb
   have HSN := Lib.hid hSN
   have HL := Lib.hid hL
   clear hE hJ ih1 ih2 hSb hSN hL
   have hSd : EnvFS kb gb yb ll key (.node b l k v r) W1.drew := HE.out.below ((Below.refl _ W1).drew)
   refine (callsIn_wide (n := 6)).1 ?_
   change CallsIn _ _ _ _ #[.pointer (some ⟨b, 0, none⟩), _, _, _] W1 _
   refine callsIn_of_wp Try.func140 rfl trivial ?_ rfl
   simp only [Try.ntmps140, List.size_toArray, List.length_cons, List.length_nil, Nat.reduceAdd, Nat.reduceSub, Array.replicate_succ, Array.replicate_zero, List.push_toArray, List.append_toArray, List.nil_append, List.cons_append]
   by_cases hk : klt k key = true
   · have hk1 : Op.bytesLess k.toList key.toList = true := hk
     gi_wp2
     refine region_wide (S := (EnvFS kb gb yb ll key (.node b l k v r))) (by kernel_rfl) (hSd) (fun hS => ?_)
     refine anyW_take (i := 0) (oi := ⟨some 8, _, _, _, _, _⟩) (v := ?_) rfl (by kernel_rfl) (fun _ _ _ h => h) (by kernel_rfl) (by kernel_rfl) (Or.inl ⟨by rfl, ?_⟩) hS ?_
     rotate_left 1
     · intro w' hB; obtain ⟨e1, e2, e3, e4⟩ := hB; have c1 := cell_of_one e1; have c2 := cell_of_one e2; have c3 := cell_of_one e3; obtain ⟨x0, x1, x2, x3⟩ := e4.cellsP (pa l) (pa r) rfl rfl; clear e1 e2 e3 e4; (go_simp <;> with_reducible rfl)
     try simp only [Act.put, List.setIfInBounds_toArray, List.set_cons_zero, List.set_cons_succ]
     refine anyW_take (i := 1) (oi := ⟨some 9, _, _, _, _, _⟩) (v := ?_) rfl (by kernel_rfl) (fun _ _ _ h => h) (by kernel_rfl) (by kernel_rfl) (Or.inl ⟨by rfl, ?_⟩) hS ?_
     rotate_left 1
     · intro w' hB; obtain ⟨e1, e2, e3, e4⟩ := hB; have c1 := cell_of_one e1; have c2 := cell_of_one e2; have c3 := cell_of_one e3; obtain ⟨x0, x1, x2, x3⟩ := e4.cellsP (pa l) (pa r) rfl rfl; clear e1 e2 e3 e4; (go_simp <;> with_reducible rfl)
     try simp only [Act.put, List.setIfInBounds_toArray, List.set_cons_zero, List.set_cons_succ]
     refine anyW_take (i := 2) (oi := ⟨some 10, _, _, _, _, _⟩) (v := ?_) rfl (by kernel_rfl) (fun _ _ _ h => h) (by kernel_rfl) (by kernel_rfl) (Or.inl ⟨by rfl, ?_⟩) hS ?_
     rotate_left 1
     · intro w' hB; obtain ⟨e1, e2, e3, e4⟩ := hB; have c1 := cell_of_one e1; have c2 := cell_of_one e2; have c3 := cell_of_one e3; obtain ⟨x0, x1, x2, x3⟩ := e4.cellsP (pa l) (pa r) rfl rfl; clear e1 e2 e3 e4; (go_simp <;> with_reducible rfl)
     try simp only [Act.put, List.setIfInBounds_toArray, List.set_cons_zero, List.set_cons_succ]
     refine anyW_take (i := 3) (oi := ⟨some 11, _, _, _, _, _⟩) (v := ?_) rfl (by kernel_rfl) (fun _ _ _ h => h) (by kernel_rfl) (by kernel_rfl) (Or.inl ⟨by rfl, ?_⟩) hS ?_
     rotate_left 1
     · intro w' hB; obtain ⟨e1, e2, e3, e4⟩ := hB; have c1 := cell_of_one e1; have c2 := cell_of_one e2; have c3 := cell_of_one e3; obtain ⟨x0, x1, x2, x3⟩ := e4.cellsP (pa l) (pa r) rfl rfl; clear e1 e2 e3 e4; (go_simp <;> with_reducible rfl)
     try simp only [Act.put, List.setIfInBounds_toArray, List.set_cons_zero, List.set_cons_succ]
     refine anyW_take (i := 4) (oi := ⟨some 12, _, _, _, _, _⟩) (v := ?_) rfl (by kernel_rfl) (fun _ _ _ h => h) (by kernel_rfl) (by kernel_rfl) (Or.inl ⟨by rfl, ?_⟩) hS ?_
     rotate_left 1
     · intro w' hB; obtain ⟨e1, e2, e3, e4⟩ := hB; have c1 := cell_of_one e1; have c2 := cell_of_one e2; have c3 := cell_of_one e3; obtain ⟨x0, x1, x2, x3⟩ := e4.cellsP (pa l) (pa r) rfl rfl; clear e1 e2 e3 e4; (go_simp <;> with_reducible rfl)
     try simp only [Act.put, List.setIfInBounds_toArray, List.set_cons_zero, List.set_cons_succ]
     refine anyW_take (i := 5) (oi := ⟨some 13, _, _, _, _, _⟩) (v := ?_) rfl (by kernel_rfl) (fun _ _ _ h => h) (by kernel_rfl) (by kernel_rfl) (Or.inl ⟨by rfl, ?_⟩) hS ?_
     rotate_left 1
     · intro w' hB; obtain ⟨e1, e2, e3, e4⟩ := hB; have c1 := cell_of_one e1; have c2 := cell_of_one e2; have c3 := cell_of_one e3; obtain ⟨x0, x1, x2, x3⟩ := e4.cellsP (pa l) (pa r) rfl rfl; clear e1 e2 e3 e4; (go_simp <;> with_reducible rfl)
     try simp only [Act.put, List.setIfInBounds_toArray, List.set_cons_zero, List.set_cons_succ]
     refine anyW_done (by kernel_rfl) (OnlyE.normal ?_) _
     obtain ⟨W2, hW2⟩ : ∃ W2, W1.drew = W2 := ⟨_, rfl⟩
     have D2 : Hid (Below W1.heap.size W1 W2) := Lib.hid (by rw [← hW2]; exact (Below.refl _ W1).drew)
     rw [hW2] at hS ⊢
     have HE2 := Lib.hid hS
     clear hS hW2 hSd
     have hSd : EnvFS kb gb yb ll key (.node b l k v r) W2.drew := HE2.out.below ((Below.refl _ W2).drew)
     have D3 : Hid (Below W1.heap.size W1 W2.drew) := Lib.hid (D2.out.trans ((Below.refl _ W2).drew.mono D2.out.size))
     have HJ2 : Hid (J pre W2.drew) := Lib.hid (ownFrom_to hJo HJ.out D3.out)
     have HS2 : Hid (∀ k, S k → k < W2.drew.heap.size) := Lib.hid (fun k hk => Nat.lt_of_lt_of_le (HSN.out k hk) D3.out.size)
     gi_wp2
     have hL : pre ++ fromL key r <+: L := by have := HL.out; rw [fromL, if_pos hk] at this; exact this
     have HL2 := Lib.hid hL
     clear hL
     refine region_wide (S := (EnvFS kb gb yb ll key (.node b l k v r))) (by kernel_rfl) (hSd) (fun hS => ?_)
     refine anyW_take (i := 0) (oi := ⟨some 14, _, _, _, _, _⟩) (v := ?_) rfl (by kernel_rfl) (fun _ _ _ h => h) (by kernel_rfl) (by kernel_rfl) (Or.inl ⟨by rfl, ?_⟩) hS ?_
     rotate_left 1
     · intro w' hB; obtain ⟨e1, e2, e3, e4⟩ := hB; have c1 := cell_of_one e1; have c2 := cell_of_one e2; have c3 := cell_of_one e3; obtain ⟨x0, x1, x2, x3⟩ := e4.cellsP (pa l) (pa r) rfl rfl; clear e1 e2 e3 e4; (go_simp <;> with_reducible rfl)
     try simp only [Act.put, List.setIfInBounds_toArray, List.set_cons_zero, List.set_cons_succ]
     refine anyW_take (i := 1) (oi := ⟨some 15, _, _, _, _, _⟩) (v := ?_) rfl (by kernel_rfl) (fun _ _ _ h => h) (by kernel_rfl) (by kernel_rfl) (Or.inl ⟨by rfl, ?_⟩) hS ?_
     rotate_left 1
     · intro w' hB; obtain ⟨e1, e2, e3, e4⟩ := hB; have c1 := cell_of_one e1; have c2 := cell_of_one e2; have c3 := cell_of_one e3; obtain ⟨x0, x1, x2, x3⟩ := e4.cellsP (pa l) (pa r) rfl rfl; clear e1 e2 e3 e4; (go_simp <;> with_reducible rfl)
     try simp only [Act.put, List.setIfInBounds_toArray, List.set_cons_zero, List.set_cons_succ]
     refine anyW_take (i := 2) (oi := ⟨some 16, _, _, _, _, _⟩) (v := ?_) rfl (by kernel_rfl) (fun _ _ _ h => h) (by kernel_rfl) (by kernel_rfl) (Or.inl ⟨by rfl, ?_⟩) hS ?_
     rotate_left 1
     · intro w' hB; obtain ⟨e1, e2, e3, e4⟩ := hB; have c1 := cell_of_one e1; have c2 := cell_of_one e2; have c3 := cell_of_one e3; obtain ⟨x0, x1, x2, x3⟩ := e4.cellsP (pa l) (pa r) rfl rfl; clear e1 e2 e3 e4; (go_simp <;> with_reducible rfl)
     try simp only [Act.put, List.setIfInBounds_toArray, List.set_cons_zero, List.set_cons_succ]
     refine anyW_take (i := 3) (oi := ⟨some 17, _, _, _, _, _⟩) (v := ?_) rfl (by kernel_rfl) (fun _ _ _ h => h) (by kernel_rfl) (by kernel_rfl) (Or.inl ⟨by rfl, ?_⟩) hS ?_
     rotate_left 1
     · intro w' hB; obtain ⟨e1, e2, e3, e4⟩ := hB; have c1 := cell_of_one e1; have c2 := cell_of_one e2; have c3 := cell_of_one e3; obtain ⟨x0, x1, x2, x3⟩ := e4.cellsP (pa l) (pa r) rfl rfl; clear e1 e2 e3 e4; (go_simp <;> with_reducible rfl)
     try simp only [Act.put, List.setIfInBounds_toArray, List.set_cons_zero, List.set_cons_succ]
     refine anyW_take (i := 4) (oi := ⟨some 18, _, _, _, _, _⟩) (v := ?_) rfl (by kernel_rfl) (fun _ _ _ h => h) (by kernel_rfl) (by kernel_rfl) (Or.inl ⟨by rfl, ?_⟩) hS ?_
     rotate_left 1
     · intro w' hB; obtain ⟨e1, e2, e3, e4⟩ := hB; have c1 := cell_of_one e1; have c2 := cell_of_one e2; have c3 := cell_of_one e3; obtain ⟨x0, x1, x2, x3⟩ := e4.cellsP (pa l) (pa r) rfl rfl; clear e1 e2 e3 e4; (go_simp <;> with_reducible rfl)
     try simp only [Act.put, List.setIfInBounds_toArray, List.set_cons_zero, List.set_cons_succ]
     refine anyW_one (i := 5) (o := ⟨some 19, _, _, _, _, _⟩) (by kernel_rfl) rfl (by rfl) (fun K hK => ?_)
     refine op_wide ?_
     go_simp
     refine (I2.out pre _ (fun b' hb => HB.out b' (by simp [blocks, hb])) HS2.out HJ2.out ⟨hSd.k, hSd.g, hSd.y, hSd.a.2.2⟩ HL2.out).mono ?_
     intro e w3 hh
     refine Or.elim hh (fun hq => ?alt1) (fun hq => ?alt2) <;> clear hh
     case' alt1 =>
       obtain ⟨rfl, hJ3, hK3⟩ := hq
       have hSn := hSd.keep hK3 h1 h2 h3 HB.out h5 h6
       have H3 : Hid (J (pre ++ fromL key r) w3 ∧ KeepE M S Ex W1 w3) := Lib.hid ⟨hJ3, (KeepE.below D3.out HSN.out).trans hK3⟩
       clear hJ3 hK3
       refine hK.out _ _ hSn ?_
       clear hK K hS
       have hS := hSn
       clear hSn
       try simp only [Act.put, List.setIfInBounds_toArray, List.set_cons_zero, List.set_cons_succ]
       refine anyW_take (i := 6) (oi := ⟨some 5, _, _, _, _, _⟩) (v := ?_) rfl (by kernel_rfl) (fun _ _ _ h => h) (by kernel_rfl) (by kernel_rfl) (Or.inl ⟨by rfl, ?_⟩) hS ?_
       rotate_left 1
       · intro w' hB; obtain ⟨e1, e2, e3, e4⟩ := hB; have c1 := cell_of_one e1; have c2 := cell_of_one e2; have c3 := cell_of_one e3; obtain ⟨x0, x1, x2, x3⟩ := e4.cellsP (pa l) (pa r) rfl rfl; clear e1 e2 e3 e4; (go_simp <;> with_reducible rfl)
       try simp only [Act.put, List.setIfInBounds_toArray, List.set_cons_zero, List.set_cons_succ]
       refine anyW_done (by kernel_rfl) (OnlyE.normal ?_) _
     case' alt2 =>
       obtain ⟨rfl, hJ3, hK3⟩ := hq
       have hSn := hSd.keep hK3 h1 h2 h3 HB.out h5 h6
       have H3 : Hid ((∃ pre', pre' <+: L ∧ Jx pre' w3) ∧ KeepE M S Ex W1 w3) := Lib.hid ⟨hJ3, (KeepE.below D3.out HSN.out).trans hK3⟩
       clear hJ3 hK3
       refine hK.out _ _ hSn ?_
       clear hK K hS
       have hS := hSn
       clear hSn
       try simp only [Act.put, List.setIfInBounds_toArray, List.set_cons_zero, List.set_cons_succ]
       refine anyW_take (i := 6) (oi := ⟨some 5, _, _, _, _, _⟩) (v := ?_) rfl (by kernel_rfl) (fun _ _ _ h => h) (by kernel_rfl) (by kernel_rfl) (Or.inl ⟨by rfl, ?_⟩) hS ?_
       rotate_left 1
       · intro w' hB; obtain ⟨e1, e2, e3, e4⟩ := hB; have c1 := cell_of_one e1; have c2 := cell_of_one e2; have c3 := cell_of_one e3; obtain ⟨x0, x1, x2, x3⟩ := e4.cellsP (pa l) (pa r) rfl rfl; clear e1 e2 e3 e4; (go_simp <;> with_reducible rfl)
       try simp only [Act.put, List.setIfInBounds_toArray, List.set_cons_zero, List.set_cons_succ]
       refine anyW_done (by kernel_rfl) (OnlyE.normal ?_) _
     all_goals
       clear hS
       gi_wp2
       go_ret
       rw [fromL, if_pos hk]
       first | exact .inl ⟨rfl, H3.out⟩ | exact .inr ⟨rfl, H3.out⟩
   · have hk1 : Op.bytesLess k.toList key.toList = false := by simpa [klt] using hk
     gi_wp2
     refine region_wide (S := (EnvFS kb gb yb ll key (.node b l k v r))) (by kernel_rfl) (hSd) (fun hS => ?_)
     refine anyW_take (i := 0) (oi := ⟨some 8, _, _, _, _, _⟩) (v := ?_) rfl (by kernel_rfl) (fun _ _ _ h => h) (by kernel_rfl) (by kernel_rfl) (Or.inl ⟨by rfl, ?_⟩) hS ?_
     rotate_left 1
     · intro w' hB; obtain ⟨e1, e2, e3, e4⟩ := hB; have c1 := cell_of_one e1; have c2 := cell_of_one e2; have c3 := cell_of_one e3; obtain ⟨x0, x1, x2, x3⟩ := e4.cellsP (pa l) (pa r) rfl rfl; clear e1 e2 e3 e4; (go_simp <;> with_reducible rfl)
     try simp only [Act.put, List.setIfInBounds_toArray, List.set_cons_zero, List.set_cons_succ]
     refine anyW_take (i := 1) (oi := ⟨some 9, _, _, _, _, _⟩) (v := ?_) rfl (by kernel_rfl) (fun _ _ _ h => h) (by kernel_rfl) (by kernel_rfl) (Or.inl ⟨by rfl, ?_⟩) hS ?_
     rotate_left 1
     · intro w' hB; obtain ⟨e1, e2, e3, e4⟩ := hB; have c1 := cell_of_one e1; have c2 := cell_of_one e2; have c3 := cell_of_one e3; obtain ⟨x0, x1, x2, x3⟩ := e4.cellsP (pa l) (pa r) rfl rfl; clear e1 e2 e3 e4; (go_simp <;> with_reducible rfl)
     try simp only [Act.put, List.setIfInBounds_toArray, List.set_cons_zero, List.set_cons_succ]
     refine anyW_take (i := 2) (oi := ⟨some 10, _, _, _, _, _⟩) (v := ?_) rfl (by kernel_rfl) (fun _ _ _ h => h) (by kernel_rfl) (by kernel_rfl) (Or.inl ⟨by rfl, ?_⟩) hS ?_
     rotate_left 1
     · intro w' hB; obtain ⟨e1, e2, e3, e4⟩ := hB; have c1 := cell_of_one e1; have c2 := cell_of_one e2; have c3 := cell_of_one e3; obtain ⟨x0, x1, x2, x3⟩ := e4.cellsP (pa l) (pa r) rfl rfl; clear e1 e2 e3 e4; (go_simp <;> with_reducible rfl)
     try simp only [Act.put, List.setIfInBounds_toArray, List.set_cons_zero, List.set_cons_succ]
     refine anyW_take (i := 3) (oi := ⟨some 11, _, _, _, _, _⟩) (v := ?_) rfl (by kernel_rfl) (fun _ _ _ h => h) (by kernel_rfl) (by kernel_rfl) (Or.inl ⟨by rfl, ?_⟩) hS ?_
     rotate_left 1
     · intro w' hB; obtain ⟨e1, e2, e3, e4⟩ := hB; have c1 := cell_of_one e1; have c2 := cell_of_one e2; have c3 := cell_of_one e3; obtain ⟨x0, x1, x2, x3⟩ := e4.cellsP (pa l) (pa r) rfl rfl; clear e1 e2 e3 e4; (go_simp <;> with_reducible rfl)
     try simp only [Act.put, List.setIfInBounds_toArray, List.set_cons_zero, List.set_cons_succ]
     refine anyW_take (i := 4) (oi := ⟨some 12, _, _, _, _, _⟩) (v := ?_) rfl (by kernel_rfl) (fun _ _ _ h => h) (by kernel_rfl) (by kernel_rfl) (Or.inl ⟨by rfl, ?_⟩) hS ?_
     rotate_left 1
     · intro w' hB; obtain ⟨e1, e2, e3, e4⟩ := hB; have c1 := cell_of_one e1; have c2 := cell_of_one e2; have c3 := cell_of_one e3; obtain ⟨x0, x1, x2, x3⟩ := e4.cellsP (pa l) (pa r) rfl rfl; clear e1 e2 e3 e4; (go_simp <;> with_reducible rfl)
     try simp only [Act.put, List.setIfInBounds_toArray, List.set_cons_zero, List.set_cons_succ]
     refine anyW_take (i := 5) (oi := ⟨some 13, _, _, _, _, _⟩) (v := ?_) rfl (by kernel_rfl) (fun _ _ _ h => h) (by kernel_rfl) (by kernel_rfl) (Or.inl ⟨by rfl, ?_⟩) hS ?_
     rotate_left 1
     · intro w' hB; obtain ⟨e1, e2, e3, e4⟩ := hB; have c1 := cell_of_one e1; have c2 := cell_of_one e2; have c3 := cell_of_one e3; obtain ⟨x0, x1, x2, x3⟩ := e4.cellsP (pa l) (pa r) rfl rfl; clear e1 e2 e3 e4; (go_simp <;> with_reducible rfl)
     try simp only [Act.put, List.setIfInBounds_toArray, List.set_cons_zero, List.set_cons_succ]
     refine anyW_done (by kernel_rfl) (OnlyE.normal ?_) _
     obtain ⟨W2, hW2⟩ : ∃ W2, W1.drew = W2 := ⟨_, rfl⟩
     have D2 : Hid (Below W1.heap.size W1 W2) := Lib.hid (by rw [← hW2]; exact (Below.refl _ W1).drew)
     rw [hW2] at hS ⊢
     have HE2 := Lib.hid hS
     clear hS hW2 hSd
     have hSd : EnvFS kb gb yb ll key (.node b l k v r) W2.drew := HE2.out.below ((Below.refl _ W2).drew)
     have D3 : Hid (Below W1.heap.size W1 W2.drew) := Lib.hid (D2.out.trans ((Below.refl _ W2).drew.mono D2.out.size))
     have HJ2 : Hid (J pre W2.drew) := Lib.hid (ownFrom_to hJo HJ.out D3.out)
     have HS2 : Hid (∀ k, S k → k < W2.drew.heap.size) := Lib.hid (fun k hk => Nat.lt_of_lt_of_le (HSN.out k hk) D3.out.size)
     gi_wp2
     have hL : pre ++ (fromL key l ++ (k, v) :: fromL key r) <+: L := by have := HL.out; rw [fromL, if_neg hk] at this; exact this
     have L1 : Hid (pre ++ fromL key l <+: L) := Lib.hid ((List.prefix_append (pre ++ fromL key l) ((k, v) :: fromL key r)).trans (by simpa using hL))
     have L2 : Hid (pre ++ fromL key l ++ [(k, v)] <+: L) := Lib.hid ((List.prefix_append (pre ++ fromL key l ++ [(k, v)]) (fromL key r)).trans (by simpa using hL))
     have L3 : Hid (pre ++ fromL key l ++ [(k, v)] ++ fromL key r <+: L) := Lib.hid (by simpa using hL)
     clear hL
     refine region_wide (S := (EnvFS kb gb yb ll key (.node b l k v r))) (by kernel_rfl) (hSd) (fun hS => ?_)
     refine anyW_take (i := 0) (oi := ⟨some 20, _, _, _, _, _⟩) (v := ?_) rfl (by kernel_rfl) (fun _ _ _ h => h) (by kernel_rfl) (by kernel_rfl) (Or.inl ⟨by rfl, ?_⟩) hS ?_
     rotate_left 1
     · intro w' hB; obtain ⟨e1, e2, e3, e4⟩ := hB; have c1 := cell_of_one e1; have c2 := cell_of_one e2; have c3 := cell_of_one e3; obtain ⟨x0, x1, x2, x3⟩ := e4.cellsP (pa l) (pa r) rfl rfl; clear e1 e2 e3 e4; (go_simp <;> with_reducible rfl)
     try simp only [Act.put, List.setIfInBounds_toArray, List.set_cons_zero, List.set_cons_succ]
     refine anyW_take (i := 1) (oi := ⟨some 21, _, _, _, _, _⟩) (v := ?_) rfl (by kernel_rfl) (fun _ _ _ h => h) (by kernel_rfl) (by kernel_rfl) (Or.inl ⟨by rfl, ?_⟩) hS ?_
     rotate_left 1
     · intro w' hB; obtain ⟨e1, e2, e3, e4⟩ := hB; have c1 := cell_of_one e1; have c2 := cell_of_one e2; have c3 := cell_of_one e3; obtain ⟨x0, x1, x2, x3⟩ := e4.cellsP (pa l) (pa r) rfl rfl; clear e1 e2 e3 e4; (go_simp <;> with_reducible rfl)
     try simp only [Act.put, List.setIfInBounds_toArray, List.set_cons_zero, List.set_cons_succ]
     refine anyW_take (i := 2) (oi := ⟨some 22, _, _, _, _, _⟩) (v := ?_) rfl (by kernel_rfl) (fun _ _ _ h => h) (by kernel_rfl) (by kernel_rfl) (Or.inl ⟨by rfl, ?_⟩) hS ?_
     rotate_left 1
     · intro w' hB; obtain ⟨e1, e2, e3, e4⟩ := hB; have c1 := cell_of_one e1; have c2 := cell_of_one e2; have c3 := cell_of_one e3; obtain ⟨x0, x1, x2, x3⟩ := e4.cellsP (pa l) (pa r) rfl rfl; clear e1 e2 e3 e4; (go_simp <;> with_reducible rfl)
     try simp only [Act.put, List.setIfInBounds_toArray, List.set_cons_zero, List.set_cons_succ]
     refine anyW_take (i := 3) (oi := ⟨some 23, _, _, _, _, _⟩) (v := ?_) rfl (by kernel_rfl) (fun _ _ _ h => h) (by kernel_rfl) (by kernel_rfl) (Or.inl ⟨by rfl, ?_⟩) hS ?_
     rotate_left 1
     · intro w' hB; obtain ⟨e1, e2, e3, e4⟩ := hB; have c1 := cell_of_one e1; have c2 := cell_of_one e2; have c3 := cell_of_one e3; obtain ⟨x0, x1, x2, x3⟩ := e4.cellsP (pa l) (pa r) rfl rfl; clear e1 e2 e3 e4; (go_simp <;> with_reducible rfl)
     try simp only [Act.put, List.setIfInBounds_toArray, List.set_cons_zero, List.set_cons_succ]
     refine anyW_take (i := 4) (oi := ⟨some 24, _, _, _, _, _⟩) (v := ?_) rfl (by kernel_rfl) (fun _ _ _ h => h) (by kernel_rfl) (by kernel_rfl) (Or.inl ⟨by rfl, ?_⟩) hS ?_
     rotate_left 1
     · intro w' hB; obtain ⟨e1, e2, e3, e4⟩ := hB; have c1 := cell_of_one e1; have c2 := cell_of_one e2; have c3 := cell_of_one e3; obtain ⟨x0, x1, x2, x3⟩ := e4.cellsP (pa l) (pa r) rfl rfl; clear e1 e2 e3 e4; (go_simp <;> with_reducible rfl)
     try simp only [Act.put, List.setIfInBounds_toArray, List.set_cons_zero, List.set_cons_succ]
     refine anyW_one (i := 5) (o := ⟨some 25, _, _, _, _, _⟩) (by kernel_rfl) rfl (by rfl) (fun K hK => ?_)
     refine op_wide ?_
     go_simp
     refine (I1.out pre _ (fun b' hb => HB.out b' (by simp [blocks, hb])) HS2.out HJ2.out ⟨hSd.k, hSd.g, hSd.y, hSd.a.2.1⟩ L1.out).mono ?_
     intro e w3 hh
     refine Or.elim hh (fun hq => ?alt3) (fun hq => ?alt4) <;> clear hh
     case' alt3 =>
       obtain ⟨rfl, hJ3, hK3⟩ := hq
       have hSn := hSd.keep hK3 h1 h2 h3 HB.out h5 h6
       have H3 : Hid (J (pre ++ fromL key l) w3) := Lib.hid hJ3
       have K3 : Hid (KeepE M S Ex W1 w3) := Lib.hid ((KeepE.below D3.out HSN.out).trans hK3)
       clear hJ3 hK3
       refine hK.out _ _ hSn ?_
       clear hK K hS
       have hS := hSn
       clear hSn
       try simp only [Act.put, List.setIfInBounds_toArray, List.set_cons_zero, List.set_cons_succ]
       refine anyW_take (i := 6) (oi := ⟨some 26, _, _, _, _, _⟩) (v := ?_) rfl (by kernel_rfl) (fun _ _ _ h => h) (by kernel_rfl) (by kernel_rfl) (Or.inl ⟨by rfl, ?_⟩) hS ?_
       rotate_left 1
       · intro w' hB; obtain ⟨e1, e2, e3, e4⟩ := hB; have c1 := cell_of_one e1; have c2 := cell_of_one e2; have c3 := cell_of_one e3; obtain ⟨x0, x1, x2, x3⟩ := e4.cellsP (pa l) (pa r) rfl rfl; clear e1 e2 e3 e4; (go_simp <;> with_reducible rfl)
       try simp only [Act.put, List.setIfInBounds_toArray, List.set_cons_zero, List.set_cons_succ]
       refine anyW_take (i := 7) (oi := ⟨some 27, _, _, _, _, _⟩) (v := ?_) rfl (by kernel_rfl) (fun _ _ _ h => h) (by kernel_rfl) (by kernel_rfl) (Or.inl ⟨by rfl, ?_⟩) hS ?_
       rotate_left 1
       · intro w' hB; obtain ⟨e1, e2, e3, e4⟩ := hB; have c1 := cell_of_one e1; have c2 := cell_of_one e2; have c3 := cell_of_one e3; obtain ⟨x0, x1, x2, x3⟩ := e4.cellsP (pa l) (pa r) rfl rfl; clear e1 e2 e3 e4; (go_simp <;> with_reducible rfl)
       try simp only [Act.put, List.setIfInBounds_toArray, List.set_cons_zero, List.set_cons_succ]
       refine anyW_take (i := 8) (oi := ⟨some 28, _, _, _, _, _⟩) (v := ?_) rfl (by kernel_rfl) (fun _ _ _ h => h) (by kernel_rfl) (by kernel_rfl) (Or.inl ⟨by rfl, ?_⟩) hS ?_
       rotate_left 1
       · intro w' hB; obtain ⟨e1, e2, e3, e4⟩ := hB; have c1 := cell_of_one e1; have c2 := cell_of_one e2; have c3 := cell_of_one e3; obtain ⟨x0, x1, x2, x3⟩ := e4.cellsP (pa l) (pa r) rfl rfl; clear e1 e2 e3 e4; (go_simp <;> with_reducible rfl)
       try simp only [Act.put, List.setIfInBounds_toArray, List.set_cons_zero, List.set_cons_succ]
       refine anyW_take (i := 9) (oi := ⟨some 29, _, _, _, _, _⟩) (v := ?_) rfl (by kernel_rfl) (fun _ _ _ h => h) (by kernel_rfl) (by kernel_rfl) (Or.inl ⟨by rfl, ?_⟩) hS ?_
       rotate_left 1
       · intro w' hB; obtain ⟨e1, e2, e3, e4⟩ := hB; have c1 := cell_of_one e1; have c2 := cell_of_one e2; have c3 := cell_of_one e3; obtain ⟨x0, x1, x2, x3⟩ := e4.cellsP (pa l) (pa r) rfl rfl; clear e1 e2 e3 e4; (go_simp <;> with_reducible rfl)
       try simp only [Act.put, List.setIfInBounds_toArray, List.set_cons_zero, List.set_cons_succ]
       refine anyW_take (i := 10) (oi := ⟨some 30, _, _, _, _, _⟩) (v := ?_) rfl (by kernel_rfl) (fun _ _ _ h => h) (by kernel_rfl) (by kernel_rfl) (Or.inl ⟨by rfl, ?_⟩) hS ?_
       rotate_left 1
       · intro w' hB; obtain ⟨e1, e2, e3, e4⟩ := hB; have c1 := cell_of_one e1; have c2 := cell_of_one e2; have c3 := cell_of_one e3; obtain ⟨x0, x1, x2, x3⟩ := e4.cellsP (pa l) (pa r) rfl rfl; clear e1 e2 e3 e4; (go_simp <;> with_reducible rfl)
       try simp only [Act.put, List.setIfInBounds_toArray, List.set_cons_zero, List.set_cons_succ]
       refine anyW_take (i := 11) (oi := ⟨some 31, _, _, _, _, _⟩) (v := ?_) rfl (by kernel_rfl) (fun _ _ _ h => h) (by kernel_rfl) (by kernel_rfl) (Or.inl ⟨by rfl, ?_⟩) hS ?_
       rotate_left 1
       · intro w' hB; obtain ⟨e1, e2, e3, e4⟩ := hB; have c1 := cell_of_one e1; have c2 := cell_of_one e2; have c3 := cell_of_one e3; obtain ⟨x0, x1, x2, x3⟩ := e4.cellsP (pa l) (pa r) rfl rfl; clear e1 e2 e3 e4; (go_simp <;> with_reducible rfl)
       try simp only [Act.put, List.setIfInBounds_toArray, List.set_cons_zero, List.set_cons_succ]
       refine anyW_take (i := 12) (oi := ⟨some 32, _, _, _, _, _⟩) (v := ?_) rfl (by kernel_rfl) (fun _ _ _ h => h) (by kernel_rfl) (by kernel_rfl) (Or.inl ⟨by rfl, ?_⟩) hS ?_
       rotate_left 1
       · intro w' hB; obtain ⟨e1, e2, e3, e4⟩ := hB; have c1 := cell_of_one e1; have c2 := cell_of_one e2; have c3 := cell_of_one e3; obtain ⟨x0, x1, x2, x3⟩ := e4.cellsP (pa l) (pa r) rfl rfl; clear e1 e2 e3 e4; (go_simp <;> with_reducible rfl)
       try simp only [Act.put, List.setIfInBounds_toArray, List.set_cons_zero, List.set_cons_succ]
       refine anyW_take (i := 13) (oi := ⟨some 33, _, _, _, _, _⟩) (v := ?_) rfl (by kernel_rfl) (fun _ _ _ h => h) (by kernel_rfl) (by kernel_rfl) (Or.inl ⟨by rfl, ?_⟩) hS ?_
       rotate_left 1
       · intro w' hB; obtain ⟨e1, e2, e3, e4⟩ := hB; have c1 := cell_of_one e1; have c2 := cell_of_one e2; have c3 := cell_of_one e3; obtain ⟨x0, x1, x2, x3⟩ := e4.cellsP (pa l) (pa r) rfl rfl; clear e1 e2 e3 e4; (go_simp <;> with_reducible rfl)
       try simp only [Act.put, List.setIfInBounds_toArray, List.set_cons_zero, List.set_cons_succ]
       refine anyW_take (i := 14) (oi := ⟨some 34, _, _, _, _, _⟩) (v := ?_) rfl (by kernel_rfl) (fun _ _ _ h => h) (by kernel_rfl) (by kernel_rfl) (Or.inl ⟨by rfl, ?_⟩) hS ?_
       rotate_left 1
       · intro w' hB; obtain ⟨e1, e2, e3, e4⟩ := hB; have c1 := cell_of_one e1; have c2 := cell_of_one e2; have c3 := cell_of_one e3; obtain ⟨x0, x1, x2, x3⟩ := e4.cellsP (pa l) (pa r) rfl rfl; clear e1 e2 e3 e4; (go_simp <;> with_reducible rfl)
       try simp only [Act.put, List.setIfInBounds_toArray, List.set_cons_zero, List.set_cons_succ]
       refine anyW_take (i := 15) (oi := ⟨some 35, _, _, _, _, _⟩) (v := ?_) rfl (by kernel_rfl) (fun _ _ _ h => h) (by kernel_rfl) (by kernel_rfl) (Or.inl ⟨by rfl, ?_⟩) hS ?_
       rotate_left 1
       · intro w' hB; obtain ⟨e1, e2, e3, e4⟩ := hB; have c1 := cell_of_one e1; have c2 := cell_of_one e2; have c3 := cell_of_one e3; obtain ⟨x0, x1, x2, x3⟩ := e4.cellsP (pa l) (pa r) rfl rfl; clear e1 e2 e3 e4; (go_simp <;> with_reducible rfl)
       try simp only [Act.put, List.setIfInBounds_toArray, List.set_cons_zero, List.set_cons_succ]
       refine anyW_one (i := 16) (o := ⟨some 36, _, _, _, _, _⟩) (by kernel_rfl) rfl (by rfl) (fun K hK => ?_)
       obtain ⟨fn, tmps, assign, body', hyy, hRR⟩ := yieldW (m' := 5) (HY.out _ (k, v) _ H3.out L2.out)
       simp only [encKVS] at hyy
       refine yield_wide (l := ll) (vals := #[.string k, .string v]) rfl rfl (by simp only [List.map_toArray, List.map_cons, List.map_nil]; rfl) hyy ?_
       refine ((roundW hRR)).mono ?_
       intro e w4 hh
       refine Or.elim hh (fun hq => ?alt5) (fun hq => ?alt6) <;> clear hh
       case' alt5 =>
         obtain ⟨rfl, hJ4, hK4⟩ := hq
         have hSn := hS.keep hK4 h1 h2 h3 HB.out h5 h6
         have H4 : Hid (J (pre ++ fromL key l ++ [(k, v)]) w4) := Lib.hid hJ4
         have K4 : Hid (KeepE M S Ex W1 w4) := Lib.hid (K3.out.trans hK4)
         clear hJ4 hK4 H3 K3 hyy hRR
         refine hK.out _ _ hSn ?_
         clear hK K hS
         have hS := hSn
         clear hSn
         try simp only [Act.put, List.setIfInBounds_toArray, List.set_cons_zero, List.set_cons_succ]
         refine anyW_take (i := 17) (oi := ⟨some 37, _, _, _, _, _⟩) (v := ?_) rfl (by kernel_rfl) (fun _ _ _ h => h) (by kernel_rfl) (by kernel_rfl) (Or.inl ⟨by rfl, ?_⟩) hS ?_
         rotate_left 1
         · intro w' hB; obtain ⟨e1, e2, e3, e4⟩ := hB; have c1 := cell_of_one e1; have c2 := cell_of_one e2; have c3 := cell_of_one e3; obtain ⟨x0, x1, x2, x3⟩ := e4.cellsP (pa l) (pa r) rfl rfl; clear e1 e2 e3 e4; (go_simp <;> with_reducible rfl)
         try simp only [Act.put, List.setIfInBounds_toArray, List.set_cons_zero, List.set_cons_succ]
         refine anyW_take (i := 18) (oi := ⟨some 38, _, _, _, _, _⟩) (v := ?_) rfl (by kernel_rfl) (fun _ _ _ h => h) (by kernel_rfl) (by kernel_rfl) (Or.inl ⟨by rfl, ?_⟩) hS ?_
         rotate_left 1
         · intro w' hB; obtain ⟨e1, e2, e3, e4⟩ := hB; have c1 := cell_of_one e1; have c2 := cell_of_one e2; have c3 := cell_of_one e3; obtain ⟨x0, x1, x2, x3⟩ := e4.cellsP (pa l) (pa r) rfl rfl; clear e1 e2 e3 e4; (go_simp <;> with_reducible rfl)
         try simp only [Act.put, List.setIfInBounds_toArray, List.set_cons_zero, List.set_cons_succ]
         refine anyW_take (i := 19) (oi := ⟨some 39, _, _, _, _, _⟩) (v := ?_) rfl (by kernel_rfl) (fun _ _ _ h => h) (by kernel_rfl) (by kernel_rfl) (Or.inl ⟨by rfl, ?_⟩) hS ?_
         rotate_left 1
         · intro w' hB; obtain ⟨e1, e2, e3, e4⟩ := hB; have c1 := cell_of_one e1; have c2 := cell_of_one e2; have c3 := cell_of_one e3; obtain ⟨x0, x1, x2, x3⟩ := e4.cellsP (pa l) (pa r) rfl rfl; clear e1 e2 e3 e4; (go_simp <;> with_reducible rfl)
         try simp only [Act.put, List.setIfInBounds_toArray, List.set_cons_zero, List.set_cons_succ]
         refine anyW_take (i := 20) (oi := ⟨some 40, _, _, _, _, _⟩) (v := ?_) rfl (by kernel_rfl) (fun _ _ _ h => h) (by kernel_rfl) (by kernel_rfl) (Or.inl ⟨by rfl, ?_⟩) hS ?_
         rotate_left 1
         · intro w' hB; obtain ⟨e1, e2, e3, e4⟩ := hB; have c1 := cell_of_one e1; have c2 := cell_of_one e2; have c3 := cell_of_one e3; obtain ⟨x0, x1, x2, x3⟩ := e4.cellsP (pa l) (pa r) rfl rfl; clear e1 e2 e3 e4; (go_simp <;> with_reducible rfl)
         try simp only [Act.put, List.setIfInBounds_toArray, List.set_cons_zero, List.set_cons_succ]
         refine anyW_take (i := 21) (oi := ⟨some 41, _, _, _, _, _⟩) (v := ?_) rfl (by kernel_rfl) (fun _ _ _ h => h) (by kernel_rfl) (by kernel_rfl) (Or.inl ⟨by rfl, ?_⟩) hS ?_
         rotate_left 1
         · intro w' hB; obtain ⟨e1, e2, e3, e4⟩ := hB; have c1 := cell_of_one e1; have c2 := cell_of_one e2; have c3 := cell_of_one e3; obtain ⟨x0, x1, x2, x3⟩ := e4.cellsP (pa l) (pa r) rfl rfl; clear e1 e2 e3 e4; (go_simp <;> with_reducible rfl)
         try simp only [Act.put, List.setIfInBounds_toArray, List.set_cons_zero, List.set_cons_succ]
         refine anyW_take (i := 22) (oi := ⟨some 42, _, _, _, _, _⟩) (v := ?_) rfl (by kernel_rfl) (fun _ _ _ h => h) (by kernel_rfl) (by kernel_rfl) (Or.inl ⟨by rfl, ?_⟩) hS ?_
         rotate_left 1
         · intro w' hB; obtain ⟨e1, e2, e3, e4⟩ := hB; have c1 := cell_of_one e1; have c2 := cell_of_one e2; have c3 := cell_of_one e3; obtain ⟨x0, x1, x2, x3⟩ := e4.cellsP (pa l) (pa r) rfl rfl; clear e1 e2 e3 e4; (go_simp <;> with_reducible rfl)
         try simp only [Act.put, List.setIfInBounds_toArray, List.set_cons_zero, List.set_cons_succ]
         refine anyW_take (i := 23) (oi := ⟨some 43, _, _, _, _, _⟩) (v := ?_) rfl (by kernel_rfl) (fun _ _ _ h => h) (by kernel_rfl) (by kernel_rfl) (Or.inl ⟨by rfl, ?_⟩) hS ?_
         rotate_left 1
         · intro w' hB; obtain ⟨e1, e2, e3, e4⟩ := hB; have c1 := cell_of_one e1; have c2 := cell_of_one e2; have c3 := cell_of_one e3; obtain ⟨x0, x1, x2, x3⟩ := e4.cellsP (pa l) (pa r) rfl rfl; clear e1 e2 e3 e4; (go_simp <;> with_reducible rfl)
         try simp only [Act.put, List.setIfInBounds_toArray, List.set_cons_zero, List.set_cons_succ]
         refine anyW_one (i := 24) (o := ⟨some 44, _, _, _, _, _⟩) (by kernel_rfl) rfl (by rfl) (fun K hK => ?_)
         refine op_wide ?_
         go_simp
         refine (I2.out _ _ (fun b' hb => HB.out b' (by simp [blocks, hb])) (fun k hk => Nat.lt_of_lt_of_le (HSN.out k hk) K4.out.size) H4.out ⟨hS.k, hS.g, hS.y, hS.a.2.2⟩ L3.out).mono ?_
         intro e w5 hh
         refine Or.elim hh (fun hq => ?alt7) (fun hq => ?alt8) <;> clear hh
         case' alt7 =>
           obtain ⟨rfl, hJ5, hK5⟩ := hq
           have hSn := hS.keep hK5 h1 h2 h3 HB.out h5 h6
           have H3 : Hid (J (pre ++ fromL key l ++ [(k, v)] ++ fromL key r) w5 ∧ KeepE M S Ex W1 w5) := Lib.hid ⟨hJ5, K4.out.trans hK5⟩
           clear hJ5 hK5
           refine hK.out _ _ hSn ?_
           clear hK K hS
           have hS := hSn
           clear hSn
           try simp only [Act.put, List.setIfInBounds_toArray, List.set_cons_zero, List.set_cons_succ]
           refine anyW_take (i := 25) (oi := ⟨some 45, _, _, _, _, _⟩) (v := ?_) rfl (by kernel_rfl) (fun _ _ _ h => h) (by kernel_rfl) (by kernel_rfl) (Or.inl ⟨by rfl, ?_⟩) hS ?_
           rotate_left 1
           · intro w' hB; obtain ⟨e1, e2, e3, e4⟩ := hB; have c1 := cell_of_one e1; have c2 := cell_of_one e2; have c3 := cell_of_one e3; obtain ⟨x0, x1, x2, x3⟩ := e4.cellsP (pa l) (pa r) rfl rfl; clear e1 e2 e3 e4; (go_simp <;> with_reducible rfl)
           try simp only [Act.put, List.setIfInBounds_toArray, List.set_cons_zero, List.set_cons_succ]
           refine anyW_take (i := 26) (oi := ⟨some 5, _, _, _, _, _⟩) (v := ?_) rfl (by kernel_rfl) (fun _ _ _ h => h) (by kernel_rfl) (by kernel_rfl) (Or.inl ⟨by rfl, ?_⟩) hS ?_
           rotate_left 1
           · intro w' hB; obtain ⟨e1, e2, e3, e4⟩ := hB; have c1 := cell_of_one e1; have c2 := cell_of_one e2; have c3 := cell_of_one e3; obtain ⟨x0, x1, x2, x3⟩ := e4.cellsP (pa l) (pa r) rfl rfl; clear e1 e2 e3 e4; (go_simp <;> with_reducible rfl)
           try simp only [Act.put, List.setIfInBounds_toArray, List.set_cons_zero, List.set_cons_succ]
           refine anyW_done (by kernel_rfl) (OnlyE.normal ?_) _
         case' alt8 =>
           obtain ⟨rfl, hJ5, hK5⟩ := hq
           have hSn := hS.keep hK5 h1 h2 h3 HB.out h5 h6
           have H3 : Hid ((∃ pre', pre' <+: L ∧ Jx pre' w5) ∧ KeepE M S Ex W1 w5) := Lib.hid ⟨hJ5, K4.out.trans hK5⟩
           clear hJ5 hK5
           refine hK.out _ _ hSn ?_
           clear hK K hS
           have hS := hSn
           clear hSn
           try simp only [Act.put, List.setIfInBounds_toArray, List.set_cons_zero, List.set_cons_succ]
           refine anyW_take (i := 25) (oi := ⟨some 45, _, _, _, _, _⟩) (v := ?_) rfl (by kernel_rfl) (fun _ _ _ h => h) (by kernel_rfl) (by kernel_rfl) (Or.inl ⟨by rfl, ?_⟩) hS ?_
           rotate_left 1
           · intro w' hB; obtain ⟨e1, e2, e3, e4⟩ := hB; have c1 := cell_of_one e1; have c2 := cell_of_one e2; have c3 := cell_of_one e3; obtain ⟨x0, x1, x2, x3⟩ := e4.cellsP (pa l) (pa r) rfl rfl; clear e1 e2 e3 e4; (go_simp <;> with_reducible rfl)
           try simp only [Act.put, List.setIfInBounds_toArray, List.set_cons_zero, List.set_cons_succ]
           refine anyW_take (i := 26) (oi := ⟨some 5, _, _, _, _, _⟩) (v := ?_) rfl (by kernel_rfl) (fun _ _ _ h => h) (by kernel_rfl) (by kernel_rfl) (Or.inl ⟨by rfl, ?_⟩) hS ?_
           rotate_left 1
           · intro w' hB; obtain ⟨e1, e2, e3, e4⟩ := hB; have c1 := cell_of_one e1; have c2 := cell_of_one e2; have c3 := cell_of_one e3; obtain ⟨x0, x1, x2, x3⟩ := e4.cellsP (pa l) (pa r) rfl rfl; clear e1 e2 e3 e4; (go_simp <;> with_reducible rfl)
           try simp only [Act.put, List.setIfInBounds_toArray, List.set_cons_zero, List.set_cons_succ]
           refine anyW_done (by kernel_rfl) (OnlyE.normal ?_) _
       case' alt6 =>
         obtain ⟨rfl, hJ4, hK4⟩ := hq
         have hSn := hS.keep hK4 h1 h2 h3 HB.out h5 h6
         have H3 : Hid ((∃ pre', pre' <+: L ∧ Jx pre' w4) ∧ KeepE M S Ex W1 w4) := Lib.hid ⟨⟨_, L2.out, hJ4⟩, K3.out.trans hK4⟩
         clear hJ4 hK4 K3 hyy hRR
         refine hK.out _ _ hSn ?_
         clear hK K hS
         have hS := hSn
         clear hSn
         try simp only [Act.put, List.setIfInBounds_toArray, List.set_cons_zero, List.set_cons_succ]
         refine anyW_take (i := 17) (oi := ⟨some 37, _, _, _, _, _⟩) (v := ?_) rfl (by kernel_rfl) (fun _ _ _ h => h) (by kernel_rfl) (by kernel_rfl) (Or.inl ⟨by rfl, ?_⟩) hS ?_
         rotate_left 1
         · intro w' hB; obtain ⟨e1, e2, e3, e4⟩ := hB; have c1 := cell_of_one e1; have c2 := cell_of_one e2; have c3 := cell_of_one e3; obtain ⟨x0, x1, x2, x3⟩ := e4.cellsP (pa l) (pa r) rfl rfl; clear e1 e2 e3 e4; (go_simp <;> with_reducible rfl)
         try simp only [Act.put, List.setIfInBounds_toArray, List.set_cons_zero, List.set_cons_succ]
         refine anyW_take (i := 18) (oi := ⟨some 38, _, _, _, _, _⟩) (v := ?_) rfl (by kernel_rfl) (fun _ _ _ h => h) (by kernel_rfl) (by kernel_rfl) (Or.inl ⟨by rfl, ?_⟩) hS ?_
         rotate_left 1
         · intro w' hB; obtain ⟨e1, e2, e3, e4⟩ := hB; have c1 := cell_of_one e1; have c2 := cell_of_one e2; have c3 := cell_of_one e3; obtain ⟨x0, x1, x2, x3⟩ := e4.cellsP (pa l) (pa r) rfl rfl; clear e1 e2 e3 e4; (go_simp <;> with_reducible rfl)
         try simp only [Act.put, List.setIfInBounds_toArray, List.set_cons_zero, List.set_cons_succ]
         refine anyW_take (i := 19) (oi := ⟨some 39, _, _, _, _, _⟩) rfl (by kernel_rfl) (fun _ _ _ h => h) (by kernel_rfl) (by kernel_rfl) (Or.inr ⟨by rfl, rfl⟩) hS ?_
         try simp only [Act.put, List.setIfInBounds_toArray, List.set_cons_zero, List.set_cons_succ]
         refine anyW_take (i := 20) (oi := ⟨some 40, _, _, _, _, _⟩) rfl (by kernel_rfl) (fun _ _ _ h => h) (by kernel_rfl) (by kernel_rfl) (Or.inr ⟨by rfl, rfl⟩) hS ?_
         try simp only [Act.put, List.setIfInBounds_toArray, List.set_cons_zero, List.set_cons_succ]
         refine anyW_take (i := 21) (oi := ⟨some 41, _, _, _, _, _⟩) rfl (by kernel_rfl) (fun _ _ _ h => h) (by kernel_rfl) (by kernel_rfl) (Or.inr ⟨by rfl, rfl⟩) hS ?_
         try simp only [Act.put, List.setIfInBounds_toArray, List.set_cons_zero, List.set_cons_succ]
         refine anyW_take (i := 22) (oi := ⟨some 42, _, _, _, _, _⟩) rfl (by kernel_rfl) (fun _ _ _ h => h) (by kernel_rfl) (by kernel_rfl) (Or.inr ⟨by rfl, rfl⟩) hS ?_
         try simp only [Act.put, List.setIfInBounds_toArray, List.set_cons_zero, List.set_cons_succ]
         refine anyW_take (i := 23) (oi := ⟨some 43, _, _, _, _, _⟩) rfl (by kernel_rfl) (fun _ _ _ h => h) (by kernel_rfl) (by kernel_rfl) (Or.inr ⟨by rfl, rfl⟩) hS ?_
         try simp only [Act.put, List.setIfInBounds_toArray, List.set_cons_zero, List.set_cons_succ]
         refine anyW_take (i := 24) (oi := ⟨some 44, _, _, _, _, _⟩) rfl (by kernel_rfl) (fun _ _ _ h => h) (by kernel_rfl) (by kernel_rfl) (Or.inr ⟨by rfl, rfl⟩) hS ?_
         try simp only [Act.put, List.setIfInBounds_toArray, List.set_cons_zero, List.set_cons_succ]
         refine anyW_take (i := 25) (oi := ⟨some 45, _, _, _, _, _⟩) (v := ?_) rfl (by kernel_rfl) (fun _ _ _ h => h) (by kernel_rfl) (by kernel_rfl) (Or.inl ⟨by rfl, ?_⟩) hS ?_
         rotate_left 1
         · intro w' hB; obtain ⟨e1, e2, e3, e4⟩ := hB; have c1 := cell_of_one e1; have c2 := cell_of_one e2; have c3 := cell_of_one e3; obtain ⟨x0, x1, x2, x3⟩ := e4.cellsP (pa l) (pa r) rfl rfl; clear e1 e2 e3 e4; (go_simp <;> with_reducible rfl)
         try simp only [Act.put, List.setIfInBounds_toArray, List.set_cons_zero, List.set_cons_succ]
         refine anyW_take (i := 26) (oi := ⟨some 5, _, _, _, _, _⟩) (v := ?_) rfl (by kernel_rfl) (fun _ _ _ h => h) (by kernel_rfl) (by kernel_rfl) (Or.inl ⟨by rfl, ?_⟩) hS ?_
         rotate_left 1
         · intro w' hB; obtain ⟨e1, e2, e3, e4⟩ := hB; have c1 := cell_of_one e1; have c2 := cell_of_one e2; have c3 := cell_of_one e3; obtain ⟨x0, x1, x2, x3⟩ := e4.cellsP (pa l) (pa r) rfl rfl; clear e1 e2 e3 e4; (go_simp <;> with_reducible rfl)
         try simp only [Act.put, List.setIfInBounds_toArray, List.set_cons_zero, List.set_cons_succ]
         refine anyW_done (by kernel_rfl) (OnlyE.normal ?_) _
     case' alt4 =>
       obtain ⟨rfl, hJ3, hK3⟩ := hq
       have hSn := hSd.keep hK3 h1 h2 h3 HB.out h5 h6
       have H3 : Hid ((∃ pre', pre' <+: L ∧ Jx pre' w3) ∧ KeepE M S Ex W1 w3) := Lib.hid ⟨hJ3, (KeepE.below D3.out HSN.out).trans hK3⟩
       clear hJ3 hK3
       refine hK.out _ _ hSn ?_
       clear hK K hS
       have hS := hSn
       clear hSn
       try simp only [Act.put, List.setIfInBounds_toArray, List.set_cons_zero, List.set_cons_succ]
       refine anyW_take (i := 6) (oi := ⟨some 26, _, _, _, _, _⟩) (v := ?_) rfl (by kernel_rfl) (fun _ _ _ h => h) (by kernel_rfl) (by kernel_rfl) (Or.inl ⟨by rfl, ?_⟩) hS ?_
       rotate_left 1
       · intro w' hB; obtain ⟨e1, e2, e3, e4⟩ := hB; have c1 := cell_of_one e1; have c2 := cell_of_one e2; have c3 := cell_of_one e3; obtain ⟨x0, x1, x2, x3⟩ := e4.cellsP (pa l) (pa r) rfl rfl; clear e1 e2 e3 e4; (go_simp <;> with_reducible rfl)
       try simp only [Act.put, List.setIfInBounds_toArray, List.set_cons_zero, List.set_cons_succ]
       refine anyW_take (i := 7) (oi := ⟨some 27, _, _, _, _, _⟩) rfl (by kernel_rfl) (fun _ _ _ h => h) (by kernel_rfl) (by kernel_rfl) (Or.inr ⟨by rfl, rfl⟩) hS ?_
       try simp only [Act.put, List.setIfInBounds_toArray, List.set_cons_zero, List.set_cons_succ]
       refine anyW_take (i := 8) (oi := ⟨some 28, _, _, _, _, _⟩) rfl (by kernel_rfl) (fun _ _ _ h => h) (by kernel_rfl) (by kernel_rfl) (Or.inr ⟨by rfl, rfl⟩) hS ?_
       try simp only [Act.put, List.setIfInBounds_toArray, List.set_cons_zero, List.set_cons_succ]
       refine anyW_take (i := 9) (oi := ⟨some 29, _, _, _, _, _⟩) rfl (by kernel_rfl) (fun _ _ _ h => h) (by kernel_rfl) (by kernel_rfl) (Or.inr ⟨by rfl, rfl⟩) hS ?_
       try simp only [Act.put, List.setIfInBounds_toArray, List.set_cons_zero, List.set_cons_succ]
       refine anyW_take (i := 10) (oi := ⟨some 30, _, _, _, _, _⟩) rfl (by kernel_rfl) (fun _ _ _ h => h) (by kernel_rfl) (by kernel_rfl) (Or.inr ⟨by rfl, rfl⟩) hS ?_
       try simp only [Act.put, List.setIfInBounds_toArray, List.set_cons_zero, List.set_cons_succ]
       refine anyW_take (i := 11) (oi := ⟨some 31, _, _, _, _, _⟩) rfl (by kernel_rfl) (fun _ _ _ h => h) (by kernel_rfl) (by kernel_rfl) (Or.inr ⟨by rfl, rfl⟩) hS ?_
       try simp only [Act.put, List.setIfInBounds_toArray, List.set_cons_zero, List.set_cons_succ]
       refine anyW_take (i := 12) (oi := ⟨some 32, _, _, _, _, _⟩) rfl (by kernel_rfl) (fun _ _ _ h => h) (by kernel_rfl) (by kernel_rfl) (Or.inr ⟨by rfl, rfl⟩) hS ?_
       try simp only [Act.put, List.setIfInBounds_toArray, List.set_cons_zero, List.set_cons_succ]
       refine anyW_take (i := 13) (oi := ⟨some 33, _, _, _, _, _⟩) rfl (by kernel_rfl) (fun _ _ _ h => h) (by kernel_rfl) (by kernel_rfl) (Or.inr ⟨by rfl, rfl⟩) hS ?_
       try simp only [Act.put, List.setIfInBounds_toArray, List.set_cons_zero, List.set_cons_succ]
       refine anyW_take (i := 14) (oi := ⟨some 34, _, _, _, _, _⟩) rfl (by kernel_rfl) (fun _ _ _ h => h) (by kernel_rfl) (by kernel_rfl) (Or.inr ⟨by rfl, rfl⟩) hS ?_
       try simp only [Act.put, List.setIfInBounds_toArray, List.set_cons_zero, List.set_cons_succ]
       refine anyW_take (i := 15) (oi := ⟨some 35, _, _, _, _, _⟩) rfl (by kernel_rfl) (fun _ _ _ h => h) (by kernel_rfl) (by kernel_rfl) (Or.inr ⟨by rfl, rfl⟩) hS ?_
       try simp only [Act.put, List.setIfInBounds_toArray, List.set_cons_zero, List.set_cons_succ]
       refine anyW_take (i := 16) (oi := ⟨some 36, _, _, _, _, _⟩) rfl (by kernel_rfl) (fun _ _ _ h => h) (by kernel_rfl) (by kernel_rfl) (Or.inr ⟨by rfl, rfl⟩) hS ?_
       try simp only [Act.put, List.setIfInBounds_toArray, List.set_cons_zero, List.set_cons_succ]
       refine anyW_take (i := 17) (oi := ⟨some 37, _, _, _, _, _⟩) (v := ?_) rfl (by kernel_rfl) (fun _ _ _ h => h) (by kernel_rfl) (by kernel_rfl) (Or.inl ⟨by rfl, ?_⟩) hS ?_
       rotate_left 1
       · intro w' hB; obtain ⟨e1, e2, e3, e4⟩ := hB; have c1 := cell_of_one e1; have c2 := cell_of_one e2; have c3 := cell_of_one e3; obtain ⟨x0, x1, x2, x3⟩ := e4.cellsP (pa l) (pa r) rfl rfl; clear e1 e2 e3 e4; (go_simp <;> with_reducible rfl)
       try simp only [Act.put, List.setIfInBounds_toArray, List.set_cons_zero, List.set_cons_succ]
       refine anyW_take (i := 18) (oi := ⟨some 38, _, _, _, _, _⟩) (v := ?_) rfl (by kernel_rfl) (fun _ _ _ h => h) (by kernel_rfl) (by kernel_rfl) (Or.inl ⟨by rfl, ?_⟩) hS ?_
       rotate_left 1
       · intro w' hB; obtain ⟨e1, e2, e3, e4⟩ := hB; have c1 := cell_of_one e1; have c2 := cell_of_one e2; have c3 := cell_of_one e3; obtain ⟨x0, x1, x2, x3⟩ := e4.cellsP (pa l) (pa r) rfl rfl; clear e1 e2 e3 e4; (go_simp <;> with_reducible rfl)
       try simp only [Act.put, List.setIfInBounds_toArray, List.set_cons_zero, List.set_cons_succ]
       refine anyW_take (i := 19) (oi := ⟨some 39, _, _, _, _, _⟩) rfl (by kernel_rfl) (fun _ _ _ h => h) (by kernel_rfl) (by kernel_rfl) (Or.inr ⟨by rfl, rfl⟩) hS ?_
       try simp only [Act.put, List.setIfInBounds_toArray, List.set_cons_zero, List.set_cons_succ]
       refine anyW_take (i := 20) (oi := ⟨some 40, _, _, _, _, _⟩) rfl (by kernel_rfl) (fun _ _ _ h => h) (by kernel_rfl) (by kernel_rfl) (Or.inr ⟨by rfl, rfl⟩) hS ?_
       try simp only [Act.put, List.setIfInBounds_toArray, List.set_cons_zero, List.set_cons_succ]
       refine anyW_take (i := 21) (oi := ⟨some 41, _, _, _, _, _⟩) rfl (by kernel_rfl) (fun _ _ _ h => h) (by kernel_rfl) (by kernel_rfl) (Or.inr ⟨by rfl, rfl⟩) hS ?_
       try simp only [Act.put, List.setIfInBounds_toArray, List.set_cons_zero, List.set_cons_succ]
       refine anyW_take (i := 22) (oi := ⟨some 42, _, _, _, _, _⟩) rfl (by kernel_rfl) (fun _ _ _ h => h) (by kernel_rfl) (by kernel_rfl) (Or.inr ⟨by rfl, rfl⟩) hS ?_
       try simp only [Act.put, List.setIfInBounds_toArray, List.set_cons_zero, List.set_cons_succ]
       refine anyW_take (i := 23) (oi := ⟨some 43, _, _, _, _, _⟩) rfl (by kernel_rfl) (fun _ _ _ h => h) (by kernel_rfl) (by kernel_rfl) (Or.inr ⟨by rfl, rfl⟩) hS ?_
       try simp only [Act.put, List.setIfInBounds_toArray, List.set_cons_zero, List.set_cons_succ]
       refine anyW_take (i := 24) (oi := ⟨some 44, _, _, _, _, _⟩) rfl (by kernel_rfl) (fun _ _ _ h => h) (by kernel_rfl) (by kernel_rfl) (Or.inr ⟨by rfl, rfl⟩) hS ?_
       try simp only [Act.put, List.setIfInBounds_toArray, List.set_cons_zero, List.set_cons_succ]
       refine anyW_take (i := 25) (oi := ⟨some 45, _, _, _, _, _⟩) (v := ?_) rfl (by kernel_rfl) (fun _ _ _ h => h) (by kernel_rfl) (by kernel_rfl) (Or.inl ⟨by rfl, ?_⟩) hS ?_
       rotate_left 1
       · intro w' hB; obtain ⟨e1, e2, e3, e4⟩ := hB; have c1 := cell_of_one e1; have c2 := cell_of_one e2; have c3 := cell_of_one e3; obtain ⟨x0, x1, x2, x3⟩ := e4.cellsP (pa l) (pa r) rfl rfl; clear e1 e2 e3 e4; (go_simp <;> with_reducible rfl)
       try simp only [Act.put, List.setIfInBounds_toArray, List.set_cons_zero, List.set_cons_succ]
       refine anyW_take (i := 26) (oi := ⟨some 5, _, _, _, _, _⟩) (v := ?_) rfl (by kernel_rfl) (fun _ _ _ h => h) (by kernel_rfl) (by kernel_rfl) (Or.inl ⟨by rfl, ?_⟩) hS ?_
       rotate_left 1
       · intro w' hB; obtain ⟨e1, e2, e3, e4⟩ := hB; have c1 := cell_of_one e1; have c2 := cell_of_one e2; have c3 := cell_of_one e3; obtain ⟨x0, x1, x2, x3⟩ := e4.cellsP (pa l) (pa r) rfl rfl; clear e1 e2 e3 e4; (go_simp <;> with_reducible rfl)
       try simp only [Act.put, List.setIfInBounds_toArray, List.set_cons_zero, List.set_cons_succ]
       refine anyW_done (by kernel_rfl) (OnlyE.normal ?_) _
     all_goals
       clear hS
       gi_wp2
       go_ret
       rw [fromL, if_neg hk]
       first | exact .inl ⟨rfl, by simpa using H3.out.1, H3.out.2⟩ | exact .inr ⟨rfl, H3.out⟩
end Go.Proofs.Ytnpiepimajippaa
namespace Go.Proofs.Ytnpiepimajippaa
open Go.RowKit Pm
attribute [local go_sem] Oper.semAt_some
set_option maxRecDepth 100000 in
set_option maxHeartbeats 2000000 in
theorem pm_from_iterS (n : Nat) (key : ByteArray) (t : Tr ByteArray) (kb mb : Nat) (w : World) (S : Nat → Prop) (Ex : TypeId → Prop)
   (hk : Boxed w kb 9 (.string key)) (hm : Boxed w mb 27 (.pointer (pa t))) (ha : AtS w t) (hSk : S kb) (hSt : ∀ b ∈ blocks t, S b) (hSN : ∀ k, S k → k < w.heap.size)
   (h5 : ¬ Ex 140) (h6 : ¬ Ex 139) :
   Iter2 n Try.prog 139 #[.pointer (some ⟨kb, 0, none⟩), .pointer (some ⟨mb, 0, none⟩)] encKVS (KeepE (w.heap.size + 2) S Ex)
     (fun pre x _ => pre ++ [x] <+: fromL key t) (fun _ xs W2 W' => xs = fromL key t ∧ W2 = W') (fun pre => pre <+: fromL key t) w := by
 intro ll J Jx W hW hW2 hJo hJxo hY h0
 have hkW : Boxed W kb 9 (.string key) := boxStays hk hW
 have hmW : Boxed W mb 27 (.pointer (pa t)) := boxStays hm hW
 obtain ⟨s, hs⟩ : ∃ s, s = W.heap.size := ⟨_, rfl⟩
 obtain ⟨gv, hgv⟩ : ∃ gv : Value, gv = .func (.func 140) #[] #[.pointer (some ⟨kb, 0, none⟩), .pointer (some ⟨s + 1, 0, none⟩), .pointer (some ⟨s, 0, none⟩)] := ⟨_, rfl⟩
 obtain ⟨Wb, hWb⟩ : ∃ Wb, (W.alloc (.cells #[.func (.yield ll) #[] #[]] 139)).alloc (.cells #[gv] 140) = Wb := ⟨_, rfl⟩
 have g1 : Boxed Wb s 139 (.func (.yield ll) #[] #[]) := by rw [← hWb, hs]; exact (Boxed.new W _ _).alloc _
 have g2 : Boxed Wb (s + 1) 140 gv := by
   have h1 := Boxed.new (W.alloc (.cells #[.func (.yield ll) #[] #[]] 139)) 140 gv
   rw [World.size_alloc, ← hs] at h1
   rw [← hWb]; exact h1
 have hbw : Below W.heap.size W Wb := by rw [← hWb]; exact ((Below.refl _ W).alloc (Nat.le_refl _) _).alloc (by simp) _
 have hsw : w.heap.size + 2 ≤ s := by rw [hs]; exact hW2
 have g3 : Boxed Wb kb 9 (.string key) := boxStays hkW hbw
 have g4 : Boxed Wb mb 27 (.pointer (pa t)) := boxStays hmW hbw
 have g5 : AtS Wb t := (ha.below hW rfl).below hbw rfl
 have hJb : J [] Wb := ownFrom_to hJo h0 hbw
 have GO := Lib.hid (go1_fromS key kb (s + 1) s ll (w.heap.size + 2) S Ex (fromL key t) J Jx _ hJo hSk (by omega) (by omega) h5 h6 (fun pre x W1 hj hx => yieldW (hY pre x W1 hj hx)) t [] Wb hSt
   (fun k hk => Nat.lt_of_lt_of_le (hSN k hk) (Nat.le_trans hW.size hbw.size)) hJb ⟨g3, by rw [← hgv]; exact g2, g1, g5⟩ (by simp))
 have k4 := cell_of_one g4
 rw [hgv] at hWb
 subst hs
 rw [← hWb] at k4
 have HW := Lib.hid hWb
 clear hY hJb g1 g2 g3 g4 g5 hbw h0 hWb hkW hmW hJo hJxo ha hk hm hSN hgv
 refine callsIn_of_wp Try.func139 rfl trivial ?_ rfl
 simp only [Try.ntmps139, List.size_toArray, List.length_cons, List.length_nil, Nat.reduceAdd, Nat.reduceSub, Array.replicate_succ, Array.replicate_zero, List.push_toArray, List.append_toArray, List.nil_append, List.cons_append]
 gi_wp2
 rw [HW.out]
 refine ⟨trivial, fun hh => (by cases (show false = true from hh)), ?_⟩
 refine (callsIn_wide.2 GO.out).mono ?_
 rintro e W' (⟨rfl, hJ', _⟩ | ⟨rfl, ⟨pre', hp, hJx'⟩, _⟩)
 · gi_wp2
   go_end0
   exact ⟨⟨_, rfl⟩, .inl ⟨fromL key t, _, by simpa using hJ', rfl, rfl⟩⟩
 · gi_wp2
   go_end0
   exact ⟨⟨_, rfl⟩, .inr ⟨pre', hp, hJx'⟩⟩
theorem pm_MFromS (t : Tr ByteArray) (key : ByteArray) (w : World) : Calls Try.prog 116 #[.agg #[.pointer (pa t)], .string key] w fun e w' =>
   ∃ kb mb, e = .returned (.func (.func 139) #[] #[.pointer (some ⟨kb, 0, none⟩), .pointer (some ⟨mb, 0, none⟩)]) ∧ w.heap.size ≤ kb ∧ w.heap.size ≤ mb ∧ Boxed w' kb 9 (.string key) ∧ Boxed w' mb 27 (.pointer (pa t)) ∧ Below w.heap.size w w' := by
 go_enter Try.func116, Try.ntmps116
 go_wp2_with fail
 go_ret
 refine ⟨w.heap.size + 1, w.heap.size, rfl, by omega, Nat.le_refl _, ?_, (Boxed.new w _ _).alloc _, (below_new w _).trans ((below_new _ _).mono (by simp))⟩
 have h1 := Boxed.new (w.alloc (.cells #[.pointer (pa t)] 27)) 9 (.string key)
 rw [World.size_alloc] at h1
 exact h1
theorem pm_MAllS (t : Tr ByteArray) (w : World) : Calls Try.prog 99 #[.agg #[.pointer (pa t)]] w fun e w' =>
   ∃ kb mb, e = .returned (.func (.func 139) #[] #[.pointer (some ⟨kb, 0, none⟩), .pointer (some ⟨mb, 0, none⟩)]) ∧ w.heap.size ≤ kb ∧ w.heap.size ≤ mb ∧ Boxed w' kb 9 (.string ⟨#[]⟩) ∧ Boxed w' mb 27 (.pointer (pa t)) ∧ Below w.heap.size w w' := by
 go_enter Try.func99, Try.ntmps99
 go_wp2_with fail
 refine (pm_MFromS t ⟨#[]⟩ _).mono ?_
 rintro e w' ⟨kb, mb, rfl, h1, h2, h3, h4, hb⟩
 have h1' : w.heap.size ≤ kb := by simp at h1; omega
 have h2' : w.heap.size ≤ mb := by simp at h2; omega
 have H3 := Lib.hid h3
 have H4 := Lib.hid h4
 have HB := Lib.hid ((below_new w (.cells #[.pointer (pa t)] 27)).trans (hb.mono (by simp)))
 clear h1 h2 h3 h4 hb
 go_wp2_with fail
 go_ret
 exact ⟨kb, mb, rfl, h1', h2', H3.out, H4.out, HB.out⟩
end Go.Proofs.Ytnpiepimajippaa
