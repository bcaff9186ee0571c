/- Words, contracts and walks that the proof stands on (PmKS PmLS PmMS Marks RowK OwA14). -/
import Derived.Deep.DeepMust
import Derived.Laws.EntriesVeiled
import Derived.RangeFuncKeeps
import Derived.RangeFuncLeaves
import Derived.RangeFuncWrites
import Derived.Test.YtnpiepimajippaaRK1
import Derived.Test.YtnpiepimajippaaRK4
import Derived.Test.YtnpiepimajippaaRK8
import Derived.Test.YtnpiepimajippaaRK9
namespace Go.Proofs.Ytnpiepimajippaa
open Go.RowKit Pm
attribute [local go_sem] Oper.semAt_some
def Pm.nodesLS : Tr ByteArray → List (Tr ByteArray)
 | .nil => []
 | .node b l k v r => nodesLS l ++ nodesLS r ++ [.node b l k v r]
def encNS (x : Tr ByteArray) : Array Value := #[.pointer (pa x)]
structure EnvNS (gb yb ll : Nat) (s : Tr ByteArray) (W : World) : Prop where
 g : Boxed W gb 140 (.func (.func 161) #[] #[.pointer (some ⟨gb, 0, none⟩), .pointer (some ⟨yb, 0, none⟩)])
 y : Boxed W yb 140 (.func (.yield ll) #[] #[])
 a : AtS W s
theorem EnvNS.below {gb yb ll : Nat} {s : Tr ByteArray} {W W' : World} (h : EnvNS gb yb ll s W) (hb : Below W.heap.size W W') : EnvNS gb yb ll s W' :=
 ⟨boxStays h.g hb, boxStays h.y hb, h.a.below hb rfl⟩
theorem EnvNS.keep {gb yb ll M : Nat} {S : Nat → Prop} {Ex : TypeId → Prop} {s : Tr ByteArray} {W W' : World} (h : EnvNS gb yb ll s W) (hk : KeepE M S Ex W W')
   (h2 : M ≤ gb) (h3 : M ≤ yb) (h4 : ∀ b ∈ blocks s, S b) (h5 : ¬ Ex 140) : EnvNS gb yb ll s W' :=
 ⟨hk.box h.g h2 h5, hk.box h.y h3 h5, h.a.keep fun b o ho hm => (hk.block b (h4 b hm)).trans ho⟩
set_option maxRecDepth 100000 in
set_option maxHeartbeats 4000000 in
theorem go1_nodesS (gb yb ll M : Nat) (S : Nat → Prop) (Ex : TypeId → Prop) (L : List (Tr ByteArray)) (J Jx : List (Tr ByteArray) → World → Prop) (B0 : Nat)
   (hJo : OwnFrom B0 J) (h2 : M ≤ gb) (h3 : M ≤ yb) (h5 : ¬ Ex 140)
   (hY : ∀ pre x W1, J pre W1 → pre ++ [x] <+: L → YieldAt Fence.wide 0 Try.prog ll (encNS x) W1 fun e W' =>
     (e = .returned (.bool true) ∧ J (pre ++ [x]) W' ∧ KeepE M S Ex W1 W') ∨ (e = .returned (.bool false) ∧ Jx (pre ++ [x]) W' ∧ KeepE M S Ex W1 W')) :
   ∀ (s : Tr ByteArray) (pre : List (Tr ByteArray)) (W1 : World), (∀ b ∈ blocks s, S b) → (∀ k, S k → k < W1.heap.size) → J pre W1 → EnvNS gb yb ll s W1 → pre ++ nodesLS s <+: L →
     Calls Try.prog 161 #[.pointer (pa s), .pointer (some ⟨gb, 0, none⟩), .pointer (some ⟨yb, 0, none⟩)] W1 fun e W' =>
       (e = .returned (.bool true) ∧ J (pre ++ nodesLS s) W' ∧ KeepE M S Ex W1 W') ∨ (e = .returned (.bool false) ∧ (∃ pre', pre' <+: L ∧ Jx pre' W') ∧ KeepE M S Ex W1 W') := by
 have HY := Lib.hid hY
 clear hY
 intro s
 induction s with
 | nil =>
   intro pre W1 _ hSN hJ hE _
   have HJ := Lib.hid hJ
   have HSN := Lib.hid hSN
   clear hJ hSN
   have hSd : EnvNS gb yb ll .nil W1.drew := hE.below ((Below.refl _ W1).drew)
   clear hE
   refine (callsIn_wide (n := 6)).1 ?_
   change CallsIn _ _ _ _ #[.pointer none, _, _] W1 _
   refine callsIn_of_wp Try.func161 rfl trivial ?_ rfl
   simp only [Try.ntmps161, List.size_toArray, List.length_cons, List.length_nil, Nat.reduceAdd, Nat.reduceSub, Array.replicate_succ, Array.replicate_zero, List.push_toArray, List.append_toArray, List.nil_append, List.cons_append]
   gi_wp2
   refine region_wide (S := (EnvNS gb yb ll .nil)) (by kernel_rfl) (hSd) (fun hS => ?_)
   refine anyW_take (i := 0) (oi := ⟨some 5, _, _, _, _, _⟩) (v := ?_) rfl (by kernel_rfl) (fun _ _ _ h => h) (by kernel_rfl) (by kernel_rfl) (Or.inl ⟨by rfl, ?_⟩) hS ?_
   rotate_left 1
   · intro w' hB; skip; (go_simp <;> with_reducible rfl)
   try simp only [Act.put, List.setIfInBounds_toArray, List.set_cons_zero, List.set_cons_succ]
   refine anyW_take (i := 1) (oi := ⟨some 6, _, _, _, _, _⟩) (v := ?_) rfl (by kernel_rfl) (fun _ _ _ h => h) (by kernel_rfl) (by kernel_rfl) (Or.inl ⟨by rfl, ?_⟩) hS ?_
   rotate_left 1
   · intro w' hB; skip; (go_simp <;> with_reducible rfl)
   try simp only [Act.put, List.setIfInBounds_toArray, List.set_cons_zero, List.set_cons_succ]
   refine anyW_take (i := 2) (oi := ⟨some 7, _, _, _, _, _⟩) (v := ?_) rfl (by kernel_rfl) (fun _ _ _ h => h) (by kernel_rfl) (by kernel_rfl) (Or.inl ⟨by rfl, ?_⟩) hS ?_
   rotate_left 1
   · intro w' hB; skip; (go_simp <;> with_reducible rfl)
   try simp only [Act.put, List.setIfInBounds_toArray, List.set_cons_zero, List.set_cons_succ]
   refine anyW_take (i := 3) (oi := ⟨some 8, _, _, _, _, _⟩) rfl (by kernel_rfl) (fun _ _ _ h => h) (by kernel_rfl) (by kernel_rfl) (Or.inr ⟨by rfl, rfl⟩) hS ?_
   try simp only [Act.put, List.setIfInBounds_toArray, List.set_cons_zero, List.set_cons_succ]
   refine anyW_take (i := 4) (oi := ⟨some 9, _, _, _, _, _⟩) rfl (by kernel_rfl) (fun _ _ _ h => h) (by kernel_rfl) (by kernel_rfl) (Or.inr ⟨by rfl, rfl⟩) hS ?_
   try simp only [Act.put, List.setIfInBounds_toArray, List.set_cons_zero, List.set_cons_succ]
   refine anyW_take (i := 5) (oi := ⟨some 10, _, _, _, _, _⟩) rfl (by kernel_rfl) (fun _ _ _ h => h) (by kernel_rfl) (by kernel_rfl) (Or.inr ⟨by rfl, rfl⟩) hS ?_
   try simp only [Act.put, List.setIfInBounds_toArray, List.set_cons_zero, List.set_cons_succ]
   refine anyW_take (i := 6) (oi := ⟨some 11, _, _, _, _, _⟩) rfl (by kernel_rfl) (fun _ _ _ h => h) (by kernel_rfl) (by kernel_rfl) (Or.inr ⟨by rfl, rfl⟩) hS ?_
   try simp only [Act.put, List.setIfInBounds_toArray, List.set_cons_zero, List.set_cons_succ]
   refine anyW_take (i := 7) (oi := ⟨some 12, _, _, _, _, _⟩) rfl (by kernel_rfl) (fun _ _ _ h => h) (by kernel_rfl) (by kernel_rfl) (Or.inr ⟨by rfl, rfl⟩) hS ?_
   try simp only [Act.put, List.setIfInBounds_toArray, List.set_cons_zero, List.set_cons_succ]
   refine anyW_take (i := 8) (oi := ⟨some 13, _, _, _, _, _⟩) rfl (by kernel_rfl) (fun _ _ _ h => h) (by kernel_rfl) (by kernel_rfl) (Or.inr ⟨by rfl, rfl⟩) hS ?_
   try simp only [Act.put, List.setIfInBounds_toArray, List.set_cons_zero, List.set_cons_succ]
   refine anyW_take (i := 9) (oi := ⟨some 14, _, _, _, _, _⟩) rfl (by kernel_rfl) (fun _ _ _ h => h) (by kernel_rfl) (by kernel_rfl) (Or.inr ⟨by rfl, rfl⟩) hS ?_
   try simp only [Act.put, List.setIfInBounds_toArray, List.set_cons_zero, List.set_cons_succ]
   refine anyW_take (i := 10) (oi := ⟨some 15, _, _, _, _, _⟩) rfl (by kernel_rfl) (fun _ _ _ h => h) (by kernel_rfl) (by kernel_rfl) (Or.inr ⟨by rfl, rfl⟩) hS ?_
   try simp only [Act.put, List.setIfInBounds_toArray, List.set_cons_zero, List.set_cons_succ]
   refine anyW_take (i := 11) (oi := ⟨some 16, _, _, _, _, _⟩) rfl (by kernel_rfl) (fun _ _ _ h => h) (by kernel_rfl) (by kernel_rfl) (Or.inr ⟨by rfl, rfl⟩) hS ?_
   try simp only [Act.put, List.setIfInBounds_toArray, List.set_cons_zero, List.set_cons_succ]
   refine anyW_take (i := 12) (oi := ⟨some 17, _, _, _, _, _⟩) rfl (by kernel_rfl) (fun _ _ _ h => h) (by kernel_rfl) (by kernel_rfl) (Or.inr ⟨by rfl, rfl⟩) hS ?_
   try simp only [Act.put, List.setIfInBounds_toArray, List.set_cons_zero, List.set_cons_succ]
   refine anyW_take (i := 13) (oi := ⟨some 18, _, _, _, _, _⟩) rfl (by kernel_rfl) (fun _ _ _ h => h) (by kernel_rfl) (by kernel_rfl) (Or.inr ⟨by rfl, rfl⟩) hS ?_
   try simp only [Act.put, List.setIfInBounds_toArray, List.set_cons_zero, List.set_cons_succ]
   refine anyW_take (i := 14) (oi := ⟨some 19, _, _, _, _, _⟩) rfl (by kernel_rfl) (fun _ _ _ h => h) (by kernel_rfl) (by kernel_rfl) (Or.inr ⟨by rfl, rfl⟩) hS ?_
   try simp only [Act.put, List.setIfInBounds_toArray, List.set_cons_zero, List.set_cons_succ]
   refine anyW_take (i := 15) (oi := ⟨some 20, _, _, _, _, _⟩) rfl (by kernel_rfl) (fun _ _ _ h => h) (by kernel_rfl) (by kernel_rfl) (Or.inr ⟨by rfl, rfl⟩) hS ?_
   try simp only [Act.put, List.setIfInBounds_toArray, List.set_cons_zero, List.set_cons_succ]
   refine anyW_take (i := 16) (oi := ⟨some 21, _, _, _, _, _⟩) rfl (by kernel_rfl) (fun _ _ _ h => h) (by kernel_rfl) (by kernel_rfl) (Or.inr ⟨by rfl, rfl⟩) hS ?_
   try simp only [Act.put, List.setIfInBounds_toArray, List.set_cons_zero, List.set_cons_succ]
   refine anyW_take (i := 17) (oi := ⟨some 22, _, _, _, _, _⟩) rfl (by kernel_rfl) (fun _ _ _ h => h) (by kernel_rfl) (by kernel_rfl) (Or.inr ⟨by rfl, rfl⟩) hS ?_
   try simp only [Act.put, List.setIfInBounds_toArray, List.set_cons_zero, List.set_cons_succ]
   refine anyW_take (i := 18) (oi := ⟨some 23, _, _, _, _, _⟩) rfl (by kernel_rfl) (fun _ _ _ h => h) (by kernel_rfl) (by kernel_rfl) (Or.inr ⟨by rfl, rfl⟩) hS ?_
   try simp only [Act.put, List.setIfInBounds_toArray, List.set_cons_zero, List.set_cons_succ]
   refine anyW_take (i := 19) (oi := ⟨some 24, _, _, _, _, _⟩) rfl (by kernel_rfl) (fun _ _ _ h => h) (by kernel_rfl) (by kernel_rfl) (Or.inr ⟨by rfl, rfl⟩) hS ?_
   try simp only [Act.put, List.setIfInBounds_toArray, List.set_cons_zero, List.set_cons_succ]
   refine anyW_take (i := 20) (oi := ⟨some 25, _, _, _, _, _⟩) rfl (by kernel_rfl) (fun _ _ _ h => h) (by kernel_rfl) (by kernel_rfl) (Or.inr ⟨by rfl, rfl⟩) hS ?_
   try simp only [Act.put, List.setIfInBounds_toArray, List.set_cons_zero, List.set_cons_succ]
   refine anyW_take (i := 21) (oi := ⟨some 26, _, _, _, _, _⟩) rfl (by kernel_rfl) (fun _ _ _ h => h) (by kernel_rfl) (by kernel_rfl) (Or.inr ⟨by rfl, rfl⟩) hS ?_
   try simp only [Act.put, List.setIfInBounds_toArray, List.set_cons_zero, List.set_cons_succ]
   refine anyW_take (i := 22) (oi := ⟨some 27, _, _, _, _, _⟩) (v := ?_) rfl (by kernel_rfl) (fun _ _ _ h => h) (by kernel_rfl) (by kernel_rfl) (Or.inl ⟨by rfl, ?_⟩) hS ?_
   rotate_left 1
   · intro w' hB; skip; (go_simp <;> with_reducible rfl)
   try simp only [Act.put, List.setIfInBounds_toArray, List.set_cons_zero, List.set_cons_succ]
   refine anyW_take (i := 23) (oi := ⟨some 4, _, _, _, _, _⟩) (v := ?_) rfl (by kernel_rfl) (fun _ _ _ h => h) (by kernel_rfl) (by kernel_rfl) (Or.inl ⟨by rfl, ?_⟩) hS ?_
   rotate_left 1
   · intro w' hB; skip; (go_simp <;> with_reducible rfl)
   try simp only [Act.put, List.setIfInBounds_toArray, List.set_cons_zero, List.set_cons_succ]
   refine anyW_done (by kernel_rfl) (OnlyE.normal ?_) _
   clear hS
   gi_wp2
   go_ret
   exact .inl ⟨rfl, by rw [show pre ++ nodesLS .nil = pre from List.append_nil _]; exact ownFrom_to hJo HJ.out ((Below.refl _ W1).drew), KeepE.below ((Below.refl _ W1).drew) HSN.out⟩
 | node b l k v r ih1 ih2 =>
   intro pre W1 hSb hSN hJ hE hL
   have HE := Lib.hid hE
   have HJ := Lib.hid hJ
   have I1 := Lib.hid ih1
   have I2 := Lib.hid ih2
   have HB := Lib.hid hSb
   have HSN := Lib.hid hSN
   have hL' : pre ++ (nodesLS l ++ nodesLS r ++ [.node b l k v r]) <+: L := hL
   have L1 : Hid (pre ++ nodesLS l <+: L) := Lib.hid ((List.prefix_append (pre ++ nodesLS l) (nodesLS r ++ [.node b l k v r])).trans (by simpa using hL'))
   have L2 : Hid (pre ++ nodesLS l ++ nodesLS r <+: L) := Lib.hid ((List.prefix_append (pre ++ nodesLS l ++ nodesLS r) [.node b l k v r]).trans (by simpa using hL'))
   have L3 : Hid (pre ++ nodesLS l ++ nodesLS r ++ [.node b l k v r] <+: L) := Lib.hid (by simpa using hL')
   clear hE hJ ih1 ih2 hSb hSN hL hL'
   have hSd : EnvNS gb yb ll (.node b l k v r) W1.drew := HE.out.below ((Below.refl _ W1).drew)
   have D3 : Hid (Below W1.heap.size W1 W1.drew) := Lib.hid ((Below.refl _ W1).drew)
   have HJ2 : Hid (J pre W1.drew) := Lib.hid (ownFrom_to hJo HJ.out D3.out)
   have HS2 : Hid (∀ k, S k → k < W1.drew.heap.size) := Lib.hid (fun k hk => Nat.lt_of_lt_of_le (HSN.out k hk) D3.out.size)
   refine (callsIn_wide (n := 6)).1 ?_
   change CallsIn _ _ _ _ #[.pointer (some ⟨b, 0, none⟩), _, _] W1 _
   refine callsIn_of_wp Try.func161 rfl trivial ?_ rfl
   simp only [Try.ntmps161, List.size_toArray, List.length_cons, List.length_nil, Nat.reduceAdd, Nat.reduceSub, Array.replicate_succ, Array.replicate_zero, List.push_toArray, List.append_toArray, List.nil_append, List.cons_append]
   gi_wp2
   refine region_wide (S := (EnvNS gb yb ll (.node b l k v r))) (by kernel_rfl) (hSd) (fun hS => ?_)
   refine anyW_take (i := 0) (oi := ⟨some 5, _, _, _, _, _⟩) (v := ?_) rfl (by kernel_rfl) (fun _ _ _ h => h) (by kernel_rfl) (by kernel_rfl) (Or.inl ⟨by rfl, ?_⟩) hS ?_
   rotate_left 1
   · intro w' hB; obtain ⟨e2, e3, e4⟩ := hB; have c2 := cell_of_one e2; have c3 := cell_of_one e3; obtain ⟨x0, x1, x2, x3⟩ := e4.cellsP (pa l) (pa r) rfl rfl; clear e2 e3 e4; (go_simp <;> with_reducible rfl)
   try simp only [Act.put, List.setIfInBounds_toArray, List.set_cons_zero, List.set_cons_succ]
   refine anyW_take (i := 1) (oi := ⟨some 6, _, _, _, _, _⟩) (v := ?_) rfl (by kernel_rfl) (fun _ _ _ h => h) (by kernel_rfl) (by kernel_rfl) (Or.inl ⟨by rfl, ?_⟩) hS ?_
   rotate_left 1
   · intro w' hB; obtain ⟨e2, e3, e4⟩ := hB; have c2 := cell_of_one e2; have c3 := cell_of_one e3; obtain ⟨x0, x1, x2, x3⟩ := e4.cellsP (pa l) (pa r) rfl rfl; clear e2 e3 e4; (go_simp <;> with_reducible rfl)
   try simp only [Act.put, List.setIfInBounds_toArray, List.set_cons_zero, List.set_cons_succ]
   refine anyW_take (i := 2) (oi := ⟨some 7, _, _, _, _, _⟩) (v := ?_) rfl (by kernel_rfl) (fun _ _ _ h => h) (by kernel_rfl) (by kernel_rfl) (Or.inl ⟨by rfl, ?_⟩) hS ?_
   rotate_left 1
   · intro w' hB; obtain ⟨e2, e3, e4⟩ := hB; have c2 := cell_of_one e2; have c3 := cell_of_one e3; obtain ⟨x0, x1, x2, x3⟩ := e4.cellsP (pa l) (pa r) rfl rfl; clear e2 e3 e4; (go_simp <;> with_reducible rfl)
   try simp only [Act.put, List.setIfInBounds_toArray, List.set_cons_zero, List.set_cons_succ]
   refine anyW_take (i := 3) (oi := ⟨some 8, _, _, _, _, _⟩) (v := ?_) rfl (by kernel_rfl) (fun _ _ _ h => h) (by kernel_rfl) (by kernel_rfl) (Or.inl ⟨by rfl, ?_⟩) hS ?_
   rotate_left 1
   · intro w' hB; obtain ⟨e2, e3, e4⟩ := hB; have c2 := cell_of_one e2; have c3 := cell_of_one e3; obtain ⟨x0, x1, x2, x3⟩ := e4.cellsP (pa l) (pa r) rfl rfl; clear e2 e3 e4; (go_simp <;> with_reducible rfl)
   try simp only [Act.put, List.setIfInBounds_toArray, List.set_cons_zero, List.set_cons_succ]
   refine anyW_take (i := 4) (oi := ⟨some 9, _, _, _, _, _⟩) (v := ?_) rfl (by kernel_rfl) (fun _ _ _ h => h) (by kernel_rfl) (by kernel_rfl) (Or.inl ⟨by rfl, ?_⟩) hS ?_
   rotate_left 1
   · intro w' hB; obtain ⟨e2, e3, e4⟩ := hB; have c2 := cell_of_one e2; have c3 := cell_of_one e3; obtain ⟨x0, x1, x2, x3⟩ := e4.cellsP (pa l) (pa r) rfl rfl; clear e2 e3 e4; (go_simp <;> with_reducible rfl)
   try simp only [Act.put, List.setIfInBounds_toArray, List.set_cons_zero, List.set_cons_succ]
   refine anyW_take (i := 5) (oi := ⟨some 10, _, _, _, _, _⟩) (v := ?_) rfl (by kernel_rfl) (fun _ _ _ h => h) (by kernel_rfl) (by kernel_rfl) (Or.inl ⟨by rfl, ?_⟩) hS ?_
   rotate_left 1
   · intro w' hB; obtain ⟨e2, e3, e4⟩ := hB; have c2 := cell_of_one e2; have c3 := cell_of_one e3; obtain ⟨x0, x1, x2, x3⟩ := e4.cellsP (pa l) (pa r) rfl rfl; clear e2 e3 e4; (go_simp <;> with_reducible rfl)
   try simp only [Act.put, List.setIfInBounds_toArray, List.set_cons_zero, List.set_cons_succ]
   refine anyW_take (i := 6) (oi := ⟨some 11, _, _, _, _, _⟩) (v := ?_) rfl (by kernel_rfl) (fun _ _ _ h => h) (by kernel_rfl) (by kernel_rfl) (Or.inl ⟨by rfl, ?_⟩) hS ?_
   rotate_left 1
   · intro w' hB; obtain ⟨e2, e3, e4⟩ := hB; have c2 := cell_of_one e2; have c3 := cell_of_one e3; obtain ⟨x0, x1, x2, x3⟩ := e4.cellsP (pa l) (pa r) rfl rfl; clear e2 e3 e4; (go_simp <;> with_reducible rfl)
   try simp only [Act.put, List.setIfInBounds_toArray, List.set_cons_zero, List.set_cons_succ]
   refine anyW_take (i := 7) (oi := ⟨some 12, _, _, _, _, _⟩) (v := ?_) rfl (by kernel_rfl) (fun _ _ _ h => h) (by kernel_rfl) (by kernel_rfl) (Or.inl ⟨by rfl, ?_⟩) hS ?_
   rotate_left 1
   · intro w' hB; obtain ⟨e2, e3, e4⟩ := hB; have c2 := cell_of_one e2; have c3 := cell_of_one e3; obtain ⟨x0, x1, x2, x3⟩ := e4.cellsP (pa l) (pa r) rfl rfl; clear e2 e3 e4; (go_simp <;> with_reducible rfl)
   try simp only [Act.put, List.setIfInBounds_toArray, List.set_cons_zero, List.set_cons_succ]
   refine anyW_one (i := 8) (o := ⟨some 13, _, _, _, _, _⟩) (by kernel_rfl) rfl (by rfl) (fun K hK => ?_)
   refine op_wide ?_
   go_simp
   refine (I1.out pre _ (fun b' hb => HB.out b' (by simp [blocks, hb])) HS2.out HJ2.out ⟨hSd.g, hSd.y, hSd.a.2.1⟩ L1.out).mono ?_
   intro e w3 hh
   refine Or.elim hh (fun hq => ?alt1) (fun hq => ?alt2) <;> clear hh
   case' alt1 =>
     obtain ⟨rfl, hJ3, hK3⟩ := hq
     have hSn := hSd.keep hK3 h2 h3 HB.out h5
     have H3 : Hid (J (pre ++ nodesLS l) w3) := Lib.hid hJ3
     have K3 : Hid (KeepE M S Ex W1 w3) := Lib.hid ((KeepE.below D3.out HSN.out).trans hK3)
     clear hJ3 hK3
     refine hK.out _ _ hSn ?_
     clear hK K hS
     have hS := hSn
     clear hSn
     try simp only [Act.put, List.setIfInBounds_toArray, List.set_cons_zero, List.set_cons_succ]
     refine anyW_take (i := 9) (oi := ⟨some 14, _, _, _, _, _⟩) (v := ?_) rfl (by kernel_rfl) (fun _ _ _ h => h) (by kernel_rfl) (by kernel_rfl) (Or.inl ⟨by rfl, ?_⟩) hS ?_
     rotate_left 1
     · intro w' hB; obtain ⟨e2, e3, e4⟩ := hB; have c2 := cell_of_one e2; have c3 := cell_of_one e3; obtain ⟨x0, x1, x2, x3⟩ := e4.cellsP (pa l) (pa r) rfl rfl; clear e2 e3 e4; (go_simp <;> with_reducible rfl)
     try simp only [Act.put, List.setIfInBounds_toArray, List.set_cons_zero, List.set_cons_succ]
     refine anyW_take (i := 10) (oi := ⟨some 15, _, _, _, _, _⟩) (v := ?_) rfl (by kernel_rfl) (fun _ _ _ h => h) (by kernel_rfl) (by kernel_rfl) (Or.inl ⟨by rfl, ?_⟩) hS ?_
     rotate_left 1
     · intro w' hB; obtain ⟨e2, e3, e4⟩ := hB; have c2 := cell_of_one e2; have c3 := cell_of_one e3; obtain ⟨x0, x1, x2, x3⟩ := e4.cellsP (pa l) (pa r) rfl rfl; clear e2 e3 e4; (go_simp <;> with_reducible rfl)
     try simp only [Act.put, List.setIfInBounds_toArray, List.set_cons_zero, List.set_cons_succ]
     refine anyW_take (i := 11) (oi := ⟨some 16, _, _, _, _, _⟩) (v := ?_) rfl (by kernel_rfl) (fun _ _ _ h => h) (by kernel_rfl) (by kernel_rfl) (Or.inl ⟨by rfl, ?_⟩) hS ?_
     rotate_left 1
     · intro w' hB; obtain ⟨e2, e3, e4⟩ := hB; have c2 := cell_of_one e2; have c3 := cell_of_one e3; obtain ⟨x0, x1, x2, x3⟩ := e4.cellsP (pa l) (pa r) rfl rfl; clear e2 e3 e4; (go_simp <;> with_reducible rfl)
     try simp only [Act.put, List.setIfInBounds_toArray, List.set_cons_zero, List.set_cons_succ]
     refine anyW_take (i := 12) (oi := ⟨some 17, _, _, _, _, _⟩) (v := ?_) rfl (by kernel_rfl) (fun _ _ _ h => h) (by kernel_rfl) (by kernel_rfl) (Or.inl ⟨by rfl, ?_⟩) hS ?_
     rotate_left 1
     · intro w' hB; obtain ⟨e2, e3, e4⟩ := hB; have c2 := cell_of_one e2; have c3 := cell_of_one e3; obtain ⟨x0, x1, x2, x3⟩ := e4.cellsP (pa l) (pa r) rfl rfl; clear e2 e3 e4; (go_simp <;> with_reducible rfl)
     try simp only [Act.put, List.setIfInBounds_toArray, List.set_cons_zero, List.set_cons_succ]
     refine anyW_take (i := 13) (oi := ⟨some 18, _, _, _, _, _⟩) (v := ?_) rfl (by kernel_rfl) (fun _ _ _ h => h) (by kernel_rfl) (by kernel_rfl) (Or.inl ⟨by rfl, ?_⟩) hS ?_
     rotate_left 1
     · intro w' hB; obtain ⟨e2, e3, e4⟩ := hB; have c2 := cell_of_one e2; have c3 := cell_of_one e3; obtain ⟨x0, x1, x2, x3⟩ := e4.cellsP (pa l) (pa r) rfl rfl; clear e2 e3 e4; (go_simp <;> with_reducible rfl)
     try simp only [Act.put, List.setIfInBounds_toArray, List.set_cons_zero, List.set_cons_succ]
     refine anyW_take (i := 14) (oi := ⟨some 19, _, _, _, _, _⟩) (v := ?_) rfl (by kernel_rfl) (fun _ _ _ h => h) (by kernel_rfl) (by kernel_rfl) (Or.inl ⟨by rfl, ?_⟩) hS ?_
     rotate_left 1
     · intro w' hB; obtain ⟨e2, e3, e4⟩ := hB; have c2 := cell_of_one e2; have c3 := cell_of_one e3; obtain ⟨x0, x1, x2, x3⟩ := e4.cellsP (pa l) (pa r) rfl rfl; clear e2 e3 e4; (go_simp <;> with_reducible rfl)
     try simp only [Act.put, List.setIfInBounds_toArray, List.set_cons_zero, List.set_cons_succ]
     refine anyW_one (i := 15) (o := ⟨some 20, _, _, _, _, _⟩) (by kernel_rfl) rfl (by rfl) (fun K hK => ?_)
     refine op_wide ?_
     go_simp
     refine (I2.out _ _ (fun b' hb => HB.out b' (by simp [blocks, hb])) (fun k hk => Nat.lt_of_lt_of_le (HSN.out k hk) K3.out.size) H3.out ⟨hS.g, hS.y, hS.a.2.2⟩ L2.out).mono ?_
     intro e w4 hh
     refine Or.elim hh (fun hq => ?alt3) (fun hq => ?alt4) <;> clear hh
     case' alt3 =>
       obtain ⟨rfl, hJ4, hK4⟩ := hq
       have hSn := hS.keep hK4 h2 h3 HB.out h5
       have H4 : Hid (J (pre ++ nodesLS l ++ nodesLS r) w4) := Lib.hid hJ4
       have K4 : Hid (KeepE M S Ex W1 w4) := Lib.hid (K3.out.trans hK4)
       clear hJ4 hK4 H3 K3
       refine hK.out _ _ hSn ?_
       clear hK K hS
       have hS := hSn
       clear hSn
       try simp only [Act.put, List.setIfInBounds_toArray, List.set_cons_zero, List.set_cons_succ]
       refine anyW_take (i := 16) (oi := ⟨some 21, _, _, _, _, _⟩) (v := ?_) rfl (by kernel_rfl) (fun _ _ _ h => h) (by kernel_rfl) (by kernel_rfl) (Or.inl ⟨by rfl, ?_⟩) hS ?_
       rotate_left 1
       · intro w' hB; obtain ⟨e2, e3, e4⟩ := hB; have c2 := cell_of_one e2; have c3 := cell_of_one e3; obtain ⟨x0, x1, x2, x3⟩ := e4.cellsP (pa l) (pa r) rfl rfl; clear e2 e3 e4; (go_simp <;> with_reducible rfl)
       try simp only [Act.put, List.setIfInBounds_toArray, List.set_cons_zero, List.set_cons_succ]
       refine anyW_take (i := 17) (oi := ⟨some 22, _, _, _, _, _⟩) (v := ?_) rfl (by kernel_rfl) (fun _ _ _ h => h) (by kernel_rfl) (by kernel_rfl) (Or.inl ⟨by rfl, ?_⟩) hS ?_
       rotate_left 1
       · intro w' hB; obtain ⟨e2, e3, e4⟩ := hB; have c2 := cell_of_one e2; have c3 := cell_of_one e3; obtain ⟨x0, x1, x2, x3⟩ := e4.cellsP (pa l) (pa r) rfl rfl; clear e2 e3 e4; (go_simp <;> with_reducible rfl)
       try simp only [Act.put, List.setIfInBounds_toArray, List.set_cons_zero, List.set_cons_succ]
       refine anyW_take (i := 18) (oi := ⟨some 23, _, _, _, _, _⟩) (v := ?_) rfl (by kernel_rfl) (fun _ _ _ h => h) (by kernel_rfl) (by kernel_rfl) (Or.inl ⟨by rfl, ?_⟩) hS ?_
       rotate_left 1
       · intro w' hB; obtain ⟨e2, e3, e4⟩ := hB; have c2 := cell_of_one e2; have c3 := cell_of_one e3; obtain ⟨x0, x1, x2, x3⟩ := e4.cellsP (pa l) (pa r) rfl rfl; clear e2 e3 e4; (go_simp <;> with_reducible rfl)
       try simp only [Act.put, List.setIfInBounds_toArray, List.set_cons_zero, List.set_cons_succ]
       refine anyW_take (i := 19) (oi := ⟨some 24, _, _, _, _, _⟩) (v := ?_) rfl (by kernel_rfl) (fun _ _ _ h => h) (by kernel_rfl) (by kernel_rfl) (Or.inl ⟨by rfl, ?_⟩) hS ?_
       rotate_left 1
       · intro w' hB; obtain ⟨e2, e3, e4⟩ := hB; have c2 := cell_of_one e2; have c3 := cell_of_one e3; obtain ⟨x0, x1, x2, x3⟩ := e4.cellsP (pa l) (pa r) rfl rfl; clear e2 e3 e4; (go_simp <;> with_reducible rfl)
       try simp only [Act.put, List.setIfInBounds_toArray, List.set_cons_zero, List.set_cons_succ]
       refine anyW_one (i := 20) (o := ⟨some 25, _, _, _, _, _⟩) (by kernel_rfl) rfl (by rfl) (fun K hK => ?_)
       obtain ⟨fn, tmps, assign, body', hyy, hRR⟩ := yieldW (m' := 5) (HY.out _ (.node b l k v r) _ H4.out L3.out)
       simp only [encNS, pa] at hyy
       refine yield_wide (l := ll) (vals := #[.pointer (some ⟨b, 0, none⟩)]) rfl rfl (by simp only [List.map_toArray, List.map_cons, List.map_nil]; rfl) hyy ?_
       refine ((roundW hRR)).mono ?_
       intro e w5 hh
       refine Or.elim hh (fun hq => ?alt5) (fun hq => ?alt6) <;> clear hh
       case' alt5 =>
         obtain ⟨rfl, hJ5, hK5⟩ := hq
         have hSn := hS.keep hK5 h2 h3 HB.out h5
         have H5 : Hid (J (pre ++ nodesLS l ++ nodesLS r ++ [.node b l k v r]) w5 ∧ KeepE M S Ex W1 w5) := Lib.hid ⟨hJ5, K4.out.trans hK5⟩
         clear hJ5 hK5 hyy hRR
         refine hK.out _ _ hSn ?_
         clear hK K hS
         have hS := hSn
         clear hSn
         try simp only [Act.put, List.setIfInBounds_toArray, List.set_cons_zero, List.set_cons_succ]
         refine anyW_take (i := 21) (oi := ⟨some 26, _, _, _, _, _⟩) (v := ?_) rfl (by kernel_rfl) (fun _ _ _ h => h) (by kernel_rfl) (by kernel_rfl) (Or.inl ⟨by rfl, ?_⟩) hS ?_
         rotate_left 1
         · intro w' hB; obtain ⟨e2, e3, e4⟩ := hB; have c2 := cell_of_one e2; have c3 := cell_of_one e3; obtain ⟨x0, x1, x2, x3⟩ := e4.cellsP (pa l) (pa r) rfl rfl; clear e2 e3 e4; (go_simp <;> with_reducible rfl)
         try simp only [Act.put, List.setIfInBounds_toArray, List.set_cons_zero, List.set_cons_succ]
         refine anyW_take (i := 22) (oi := ⟨some 27, _, _, _, _, _⟩) (v := ?_) rfl (by kernel_rfl) (fun _ _ _ h => h) (by kernel_rfl) (by kernel_rfl) (Or.inl ⟨by rfl, ?_⟩) hS ?_
         rotate_left 1
         · intro w' hB; obtain ⟨e2, e3, e4⟩ := hB; have c2 := cell_of_one e2; have c3 := cell_of_one e3; obtain ⟨x0, x1, x2, x3⟩ := e4.cellsP (pa l) (pa r) rfl rfl; clear e2 e3 e4; (go_simp <;> with_reducible rfl)
         try simp only [Act.put, List.setIfInBounds_toArray, List.set_cons_zero, List.set_cons_succ]
         refine anyW_take (i := 23) (oi := ⟨some 4, _, _, _, _, _⟩) (v := ?_) rfl (by kernel_rfl) (fun _ _ _ h => h) (by kernel_rfl) (by kernel_rfl) (Or.inl ⟨by rfl, ?_⟩) hS ?_
         rotate_left 1
         · intro w' hB; obtain ⟨e2, e3, e4⟩ := hB; have c2 := cell_of_one e2; have c3 := cell_of_one e3; obtain ⟨x0, x1, x2, x3⟩ := e4.cellsP (pa l) (pa r) rfl rfl; clear e2 e3 e4; (go_simp <;> with_reducible rfl)
         try simp only [Act.put, List.setIfInBounds_toArray, List.set_cons_zero, List.set_cons_succ]
         refine anyW_done (by kernel_rfl) (OnlyE.normal ?_) _
       case' alt6 =>
         obtain ⟨rfl, hJ5, hK5⟩ := hq
         have hSn := hS.keep hK5 h2 h3 HB.out h5
         have H5 : Hid ((∃ pre', pre' <+: L ∧ Jx pre' w5) ∧ KeepE M S Ex W1 w5) := Lib.hid ⟨⟨_, L3.out, hJ5⟩, K4.out.trans hK5⟩
         clear hJ5 hK5 hyy hRR
         refine hK.out _ _ hSn ?_
         clear hK K hS
         have hS := hSn
         clear hSn
         try simp only [Act.put, List.setIfInBounds_toArray, List.set_cons_zero, List.set_cons_succ]
         refine anyW_take (i := 21) (oi := ⟨some 26, _, _, _, _, _⟩) (v := ?_) rfl (by kernel_rfl) (fun _ _ _ h => h) (by kernel_rfl) (by kernel_rfl) (Or.inl ⟨by rfl, ?_⟩) hS ?_
         rotate_left 1
         · intro w' hB; obtain ⟨e2, e3, e4⟩ := hB; have c2 := cell_of_one e2; have c3 := cell_of_one e3; obtain ⟨x0, x1, x2, x3⟩ := e4.cellsP (pa l) (pa r) rfl rfl; clear e2 e3 e4; (go_simp <;> with_reducible rfl)
         try simp only [Act.put, List.setIfInBounds_toArray, List.set_cons_zero, List.set_cons_succ]
         refine anyW_take (i := 22) (oi := ⟨some 27, _, _, _, _, _⟩) (v := ?_) rfl (by kernel_rfl) (fun _ _ _ h => h) (by kernel_rfl) (by kernel_rfl) (Or.inl ⟨by rfl, ?_⟩) hS ?_
         rotate_left 1
         · intro w' hB; obtain ⟨e2, e3, e4⟩ := hB; have c2 := cell_of_one e2; have c3 := cell_of_one e3; obtain ⟨x0, x1, x2, x3⟩ := e4.cellsP (pa l) (pa r) rfl rfl; clear e2 e3 e4; (go_simp <;> with_reducible rfl)
         try simp only [Act.put, List.setIfInBounds_toArray, List.set_cons_zero, List.set_cons_succ]
         refine anyW_take (i := 23) (oi := ⟨some 4, _, _, _, _, _⟩) (v := ?_) rfl (by kernel_rfl) (fun _ _ _ h => h) (by kernel_rfl) (by kernel_rfl) (Or.inl ⟨by rfl, ?_⟩) hS ?_
         rotate_left 1
         · intro w' hB; obtain ⟨e2, e3, e4⟩ := hB; have c2 := cell_of_one e2; have c3 := cell_of_one e3; obtain ⟨x0, x1, x2, x3⟩ := e4.cellsP (pa l) (pa r) rfl rfl; clear e2 e3 e4; (go_simp <;> with_reducible rfl)
         try simp only [Act.put, List.setIfInBounds_toArray, List.set_cons_zero, List.set_cons_succ]
         refine anyW_done (by kernel_rfl) (OnlyE.normal ?_) _
     case' alt4 =>
       obtain ⟨rfl, hJ4, hK4⟩ := hq
       have hSn := hS.keep hK4 h2 h3 HB.out h5
       have H5 : Hid ((∃ pre', pre' <+: L ∧ Jx pre' w4) ∧ KeepE M S Ex W1 w4) := Lib.hid ⟨hJ4, K3.out.trans hK4⟩
       clear hJ4 hK4 K3 H3
       refine hK.out _ _ hSn ?_
       clear hK K hS
       have hS := hSn
       clear hSn
       try simp only [Act.put, List.setIfInBounds_toArray, List.set_cons_zero, List.set_cons_succ]
       refine anyW_take (i := 16) (oi := ⟨some 21, _, _, _, _, _⟩) (v := ?_) rfl (by kernel_rfl) (fun _ _ _ h => h) (by kernel_rfl) (by kernel_rfl) (Or.inl ⟨by rfl, ?_⟩) hS ?_
       rotate_left 1
       · intro w' hB; obtain ⟨e2, e3, e4⟩ := hB; have c2 := cell_of_one e2; have c3 := cell_of_one e3; obtain ⟨x0, x1, x2, x3⟩ := e4.cellsP (pa l) (pa r) rfl rfl; clear e2 e3 e4; (go_simp <;> with_reducible rfl)
       try simp only [Act.put, List.setIfInBounds_toArray, List.set_cons_zero, List.set_cons_succ]
       refine anyW_take (i := 17) (oi := ⟨some 22, _, _, _, _, _⟩) (v := ?_) rfl (by kernel_rfl) (fun _ _ _ h => h) (by kernel_rfl) (by kernel_rfl) (Or.inl ⟨by rfl, ?_⟩) hS ?_
       rotate_left 1
       · intro w' hB; obtain ⟨e2, e3, e4⟩ := hB; have c2 := cell_of_one e2; have c3 := cell_of_one e3; obtain ⟨x0, x1, x2, x3⟩ := e4.cellsP (pa l) (pa r) rfl rfl; clear e2 e3 e4; (go_simp <;> with_reducible rfl)
       try simp only [Act.put, List.setIfInBounds_toArray, List.set_cons_zero, List.set_cons_succ]
       refine anyW_take (i := 18) (oi := ⟨some 23, _, _, _, _, _⟩) rfl (by kernel_rfl) (fun _ _ _ h => h) (by kernel_rfl) (by kernel_rfl) (Or.inr ⟨by rfl, rfl⟩) hS ?_
       try simp only [Act.put, List.setIfInBounds_toArray, List.set_cons_zero, List.set_cons_succ]
       refine anyW_take (i := 19) (oi := ⟨some 24, _, _, _, _, _⟩) rfl (by kernel_rfl) (fun _ _ _ h => h) (by kernel_rfl) (by kernel_rfl) (Or.inr ⟨by rfl, rfl⟩) hS ?_
       try simp only [Act.put, List.setIfInBounds_toArray, List.set_cons_zero, List.set_cons_succ]
       refine anyW_take (i := 20) (oi := ⟨some 25, _, _, _, _, _⟩) rfl (by kernel_rfl) (fun _ _ _ h => h) (by kernel_rfl) (by kernel_rfl) (Or.inr ⟨by rfl, rfl⟩) hS ?_
       try simp only [Act.put, List.setIfInBounds_toArray, List.set_cons_zero, List.set_cons_succ]
       refine anyW_take (i := 21) (oi := ⟨some 26, _, _, _, _, _⟩) (v := ?_) rfl (by kernel_rfl) (fun _ _ _ h => h) (by kernel_rfl) (by kernel_rfl) (Or.inl ⟨by rfl, ?_⟩) hS ?_
       rotate_left 1
       · intro w' hB; obtain ⟨e2, e3, e4⟩ := hB; have c2 := cell_of_one e2; have c3 := cell_of_one e3; obtain ⟨x0, x1, x2, x3⟩ := e4.cellsP (pa l) (pa r) rfl rfl; clear e2 e3 e4; (go_simp <;> with_reducible rfl)
       try simp only [Act.put, List.setIfInBounds_toArray, List.set_cons_zero, List.set_cons_succ]
       refine anyW_take (i := 22) (oi := ⟨some 27, _, _, _, _, _⟩) (v := ?_) rfl (by kernel_rfl) (fun _ _ _ h => h) (by kernel_rfl) (by kernel_rfl) (Or.inl ⟨by rfl, ?_⟩) hS ?_
       rotate_left 1
       · intro w' hB; obtain ⟨e2, e3, e4⟩ := hB; have c2 := cell_of_one e2; have c3 := cell_of_one e3; obtain ⟨x0, x1, x2, x3⟩ := e4.cellsP (pa l) (pa r) rfl rfl; clear e2 e3 e4; (go_simp <;> with_reducible rfl)
       try simp only [Act.put, List.setIfInBounds_toArray, List.set_cons_zero, List.set_cons_succ]
       refine anyW_take (i := 23) (oi := ⟨some 4, _, _, _, _, _⟩) (v := ?_) rfl (by kernel_rfl) (fun _ _ _ h => h) (by kernel_rfl) (by kernel_rfl) (Or.inl ⟨by rfl, ?_⟩) hS ?_
       rotate_left 1
       · intro w' hB; obtain ⟨e2, e3, e4⟩ := hB; have c2 := cell_of_one e2; have c3 := cell_of_one e3; obtain ⟨x0, x1, x2, x3⟩ := e4.cellsP (pa l) (pa r) rfl rfl; clear e2 e3 e4; (go_simp <;> with_reducible rfl)
       try simp only [Act.put, List.setIfInBounds_toArray, List.set_cons_zero, List.set_cons_succ]
       refine anyW_done (by kernel_rfl) (OnlyE.normal ?_) _
   case' alt2 =>
     obtain ⟨rfl, hJ3, hK3⟩ := hq
     have hSn := hSd.keep hK3 h2 h3 HB.out h5
     have H5 : Hid ((∃ pre', pre' <+: L ∧ Jx pre' w3) ∧ KeepE M S Ex W1 w3) := Lib.hid ⟨hJ3, (KeepE.below D3.out HSN.out).trans hK3⟩
     clear hJ3 hK3
     refine hK.out _ _ hSn ?_
     clear hK K hS
     have hS := hSn
     clear hSn
     try simp only [Act.put, List.setIfInBounds_toArray, List.set_cons_zero, List.set_cons_succ]
     refine anyW_take (i := 9) (oi := ⟨some 14, _, _, _, _, _⟩) (v := ?_) rfl (by kernel_rfl) (fun _ _ _ h => h) (by kernel_rfl) (by kernel_rfl) (Or.inl ⟨by rfl, ?_⟩) hS ?_
     rotate_left 1
     · intro w' hB; obtain ⟨e2, e3, e4⟩ := hB; have c2 := cell_of_one e2; have c3 := cell_of_one e3; obtain ⟨x0, x1, x2, x3⟩ := e4.cellsP (pa l) (pa r) rfl rfl; clear e2 e3 e4; (go_simp <;> with_reducible rfl)
     try simp only [Act.put, List.setIfInBounds_toArray, List.set_cons_zero, List.set_cons_succ]
     refine anyW_take (i := 10) (oi := ⟨some 15, _, _, _, _, _⟩) rfl (by kernel_rfl) (fun _ _ _ h => h) (by kernel_rfl) (by kernel_rfl) (Or.inr ⟨by rfl, rfl⟩) hS ?_
     try simp only [Act.put, List.setIfInBounds_toArray, List.set_cons_zero, List.set_cons_succ]
     refine anyW_take (i := 11) (oi := ⟨some 16, _, _, _, _, _⟩) rfl (by kernel_rfl) (fun _ _ _ h => h) (by kernel_rfl) (by kernel_rfl) (Or.inr ⟨by rfl, rfl⟩) hS ?_
     try simp only [Act.put, List.setIfInBounds_toArray, List.set_cons_zero, List.set_cons_succ]
     refine anyW_take (i := 12) (oi := ⟨some 17, _, _, _, _, _⟩) rfl (by kernel_rfl) (fun _ _ _ h => h) (by kernel_rfl) (by kernel_rfl) (Or.inr ⟨by rfl, rfl⟩) hS ?_
     try simp only [Act.put, List.setIfInBounds_toArray, List.set_cons_zero, List.set_cons_succ]
     refine anyW_take (i := 13) (oi := ⟨some 18, _, _, _, _, _⟩) rfl (by kernel_rfl) (fun _ _ _ h => h) (by kernel_rfl) (by kernel_rfl) (Or.inr ⟨by rfl, rfl⟩) hS ?_
     try simp only [Act.put, List.setIfInBounds_toArray, List.set_cons_zero, List.set_cons_succ]
     refine anyW_take (i := 14) (oi := ⟨some 19, _, _, _, _, _⟩) rfl (by kernel_rfl) (fun _ _ _ h => h) (by kernel_rfl) (by kernel_rfl) (Or.inr ⟨by rfl, rfl⟩) hS ?_
     try simp only [Act.put, List.setIfInBounds_toArray, List.set_cons_zero, List.set_cons_succ]
     refine anyW_take (i := 15) (oi := ⟨some 20, _, _, _, _, _⟩) rfl (by kernel_rfl) (fun _ _ _ h => h) (by kernel_rfl) (by kernel_rfl) (Or.inr ⟨by rfl, rfl⟩) hS ?_
     try simp only [Act.put, List.setIfInBounds_toArray, List.set_cons_zero, List.set_cons_succ]
     refine anyW_take (i := 16) (oi := ⟨some 21, _, _, _, _, _⟩) (v := ?_) rfl (by kernel_rfl) (fun _ _ _ h => h) (by kernel_rfl) (by kernel_rfl) (Or.inl ⟨by rfl, ?_⟩) hS ?_
     rotate_left 1
     · intro w' hB; obtain ⟨e2, e3, e4⟩ := hB; have c2 := cell_of_one e2; have c3 := cell_of_one e3; obtain ⟨x0, x1, x2, x3⟩ := e4.cellsP (pa l) (pa r) rfl rfl; clear e2 e3 e4; (go_simp <;> with_reducible rfl)
     try simp only [Act.put, List.setIfInBounds_toArray, List.set_cons_zero, List.set_cons_succ]
     refine anyW_take (i := 17) (oi := ⟨some 22, _, _, _, _, _⟩) (v := ?_) rfl (by kernel_rfl) (fun _ _ _ h => h) (by kernel_rfl) (by kernel_rfl) (Or.inl ⟨by rfl, ?_⟩) hS ?_
     rotate_left 1
     · intro w' hB; obtain ⟨e2, e3, e4⟩ := hB; have c2 := cell_of_one e2; have c3 := cell_of_one e3; obtain ⟨x0, x1, x2, x3⟩ := e4.cellsP (pa l) (pa r) rfl rfl; clear e2 e3 e4; (go_simp <;> with_reducible rfl)
     try simp only [Act.put, List.setIfInBounds_toArray, List.set_cons_zero, List.set_cons_succ]
     refine anyW_take (i := 18) (oi := ⟨some 23, _, _, _, _, _⟩) rfl (by kernel_rfl) (fun _ _ _ h => h) (by kernel_rfl) (by kernel_rfl) (Or.inr ⟨by rfl, rfl⟩) hS ?_
     try simp only [Act.put, List.setIfInBounds_toArray, List.set_cons_zero, List.set_cons_succ]
     refine anyW_take (i := 19) (oi := ⟨some 24, _, _, _, _, _⟩) rfl (by kernel_rfl) (fun _ _ _ h => h) (by kernel_rfl) (by kernel_rfl) (Or.inr ⟨by rfl, rfl⟩) hS ?_
     try simp only [Act.put, List.setIfInBounds_toArray, List.set_cons_zero, List.set_cons_succ]
     refine anyW_take (i := 20) (oi := ⟨some 25, _, _, _, _, _⟩) rfl (by kernel_rfl) (fun _ _ _ h => h) (by kernel_rfl) (by kernel_rfl) (Or.inr ⟨by rfl, rfl⟩) hS ?_
     try simp only [Act.put, List.setIfInBounds_toArray, List.set_cons_zero, List.set_cons_succ]
     refine anyW_take (i := 21) (oi := ⟨some 26, _, _, _, _, _⟩) (v := ?_) rfl (by kernel_rfl) (fun _ _ _ h => h) (by kernel_rfl) (by kernel_rfl) (Or.inl ⟨by rfl, ?_⟩) hS ?_
     rotate_left 1
     · intro w' hB; obtain ⟨e2, e3, e4⟩ := hB; have c2 := cell_of_one e2; have c3 := cell_of_one e3; obtain ⟨x0, x1, x2, x3⟩ := e4.cellsP (pa l) (pa r) rfl rfl; clear e2 e3 e4; (go_simp <;> with_reducible rfl)
     try simp only [Act.put, List.setIfInBounds_toArray, List.set_cons_zero, List.set_cons_succ]
     refine anyW_take (i := 22) (oi := ⟨some 27, _, _, _, _, _⟩) (v := ?_) rfl (by kernel_rfl) (fun _ _ _ h => h) (by kernel_rfl) (by kernel_rfl) (Or.inl ⟨by rfl, ?_⟩) hS ?_
     rotate_left 1
     · intro w' hB; obtain ⟨e2, e3, e4⟩ := hB; have c2 := cell_of_one e2; have c3 := cell_of_one e3; obtain ⟨x0, x1, x2, x3⟩ := e4.cellsP (pa l) (pa r) rfl rfl; clear e2 e3 e4; (go_simp <;> with_reducible rfl)
     try simp only [Act.put, List.setIfInBounds_toArray, List.set_cons_zero, List.set_cons_succ]
     refine anyW_take (i := 23) (oi := ⟨some 4, _, _, _, _, _⟩) (v := ?_) rfl (by kernel_rfl) (fun _ _ _ h => h) (by kernel_rfl) (by kernel_rfl) (Or.inl ⟨by rfl, ?_⟩) hS ?_
     rotate_left 1
     · intro w' hB; obtain ⟨e2, e3, e4⟩ := hB; have c2 := cell_of_one e2; have c3 := cell_of_one e3; obtain ⟨x0, x1, x2, x3⟩ := e4.cellsP (pa l) (pa r) rfl rfl; clear e2 e3 e4; (go_simp <;> with_reducible rfl)
     try simp only [Act.put, List.setIfInBounds_toArray, List.set_cons_zero, List.set_cons_succ]
     refine anyW_done (by kernel_rfl) (OnlyE.normal ?_) _
   all_goals
     clear hS
     gi_wp2
     go_ret
     first | exact .inl ⟨rfl, by simpa [nodesLS] using H5.out.1, H5.out.2⟩ | exact .inr ⟨rfl, H5.out⟩
set_option maxRecDepth 100000 in
set_option maxHeartbeats 2000000 in
theorem pm_nodes_iterS (n : Nat) (t : Tr ByteArray) (mb : Nat) (w : World) (S : Nat → Prop) (Ex : TypeId → Prop)
   (hm : Boxed w mb 27 (.pointer (pa t))) (ha : AtS w t) (hSt : ∀ b ∈ blocks t, S b) (hSN : ∀ k, S k → k < w.heap.size) (h5 : ¬ Ex 140) :
   Iter2 n Try.prog 160 #[.pointer (some ⟨mb, 0, none⟩)] encNS (KeepE (w.heap.size + 2) S Ex)
     (fun pre x _ => pre ++ [x] <+: nodesLS t) (fun _ xs W2 W' => xs = nodesLS t ∧ W2 = W') (fun pre => pre <+: nodesLS t) w := by
 intro ll J Jx W hW hW2 hJo hJxo hY h0
 have hmW : Boxed W mb 27 (.pointer (pa t)) := boxStays hm hW
 obtain ⟨s, hs⟩ : ∃ s, s = W.heap.size := ⟨_, rfl⟩
 obtain ⟨gv, hgv⟩ : ∃ gv : Value, gv = .func (.func 161) #[] #[.pointer (some ⟨s + 1, 0, none⟩), .pointer (some ⟨s, 0, none⟩)] := ⟨_, rfl⟩
 obtain ⟨Wb, hWb⟩ : ∃ Wb, (W.alloc (.cells #[.func (.yield ll) #[] #[]] 140)).alloc (.cells #[gv] 140) = Wb := ⟨_, rfl⟩
 have g1 : Boxed Wb s 140 (.func (.yield ll) #[] #[]) := by rw [← hWb, hs]; exact (Boxed.new W _ _).alloc _
 have g2 : Boxed Wb (s + 1) 140 gv := by
   have h1 := Boxed.new (W.alloc (.cells #[.func (.yield ll) #[] #[]] 140)) 140 gv
   rw [World.size_alloc, ← hs] at h1
   rw [← hWb]; exact h1
 have hbw : Below W.heap.size W Wb := by rw [← hWb]; exact ((Below.refl _ W).alloc (Nat.le_refl _) _).alloc (by simp) _
 have hsw : w.heap.size + 2 ≤ s := by rw [hs]; exact hW2
 have g4 : Boxed Wb mb 27 (.pointer (pa t)) := boxStays hmW hbw
 have g5 : AtS Wb t := (ha.below hW rfl).below hbw rfl
 have hJb : J [] Wb := ownFrom_to hJo h0 hbw
 have GO := Lib.hid (go1_nodesS (s + 1) s ll (w.heap.size + 2) S Ex (nodesLS t) J Jx _ hJo (by omega) (by omega) h5 (fun pre x W1 hj hx => yieldW (hY pre x W1 hj hx)) t [] Wb hSt
   (fun k hk => Nat.lt_of_lt_of_le (hSN k hk) (Nat.le_trans hW.size hbw.size)) hJb ⟨by rw [← hgv]; exact g2, g1, g5⟩ (by simp))
 have k4 := cell_of_one g4
 rw [hgv] at hWb
 subst hs
 rw [← hWb] at k4
 have HW := Lib.hid hWb
 clear hY hJb g1 g2 g4 g5 hbw h0 hWb hmW hJo hJxo ha hm hSN hgv
 refine callsIn_of_wp Try.func160 rfl trivial ?_ rfl
 simp only [Try.ntmps160, List.size_toArray, List.length_cons, List.length_nil, Nat.reduceAdd, Nat.reduceSub, Array.replicate_succ, Array.replicate_zero, List.push_toArray, List.append_toArray, List.nil_append, List.cons_append]
 gi_wp2
 rw [HW.out]
 refine ⟨trivial, fun hh => (by cases (show false = true from hh)), ?_⟩
 refine (callsIn_wide.2 GO.out).mono ?_
 rintro e W' (⟨rfl, hJ', _⟩ | ⟨rfl, ⟨pre', hp, hJx'⟩, _⟩)
 · gi_wp2
   go_end0
   exact ⟨⟨_, rfl⟩, .inl ⟨nodesLS t, _, by simpa using hJ', rfl, rfl⟩⟩
 · gi_wp2
   go_end0
   exact ⟨⟨_, rfl⟩, .inr ⟨pre', hp, hJx'⟩⟩
theorem pm_MNodesS (t : Tr ByteArray) (w : World) : Calls Try.prog 150 #[.agg #[.pointer (pa t)]] w fun e w' =>
   ∃ mb, e = .returned (.func (.func 160) #[] #[.pointer (some ⟨mb, 0, none⟩)]) ∧ w.heap.size ≤ mb ∧ Boxed w' mb 27 (.pointer (pa t)) ∧ Below w.heap.size w w' := by
 go_enter Try.func150, Try.ntmps150
 go_wp2_with fail
 go_ret
 exact ⟨w.heap.size, rfl, Nat.le_refl _, Boxed.new w _ _, below_new _ _⟩
end Go.Proofs.Ytnpiepimajippaa
namespace Go.Proofs.Ytnpiepimajippaa
open Go.RowKit Pm
def Pm.joinOKS (l : Tr ByteArray) (k : ByteArray) (r : Tr ByteArray) : Prop := (isNS (endR l) = true → klt (keyOr (endR l)) k = true) ∧ (isNS (endL r) = true → klt k (keyOr (endL r)) = true)
def JoinOutS (N : Nat) (l : Tr ByteArray) (k : ByteArray) (v : ByteArray) (r : Tr ByteArray) (w : World) (e : Ending) (w' : World) : Prop :=
 ∃ (t' : Tr ByteArray) (n : Nat), ((joinOKS l k r ∧ JoinR N k v l r t' ∧ n = 0) ∨ (¬ joinOKS l k r ∧ t' = .nil ∧ n = 2)) ∧ e = .returned (.tuple #[.agg #[.pointer (pa t')], .int .i64 (n : Int)]) ∧ AtS w' t' ∧ Below w.heap.size w w'
set_option maxRecDepth 100000 in
set_option maxHeartbeats 4000000 in
theorem pm_JoinS (l r : Tr ByteArray) (k : ByteArray) (v : ByteArray) (N : Nat) (w : World) (hN : N ≤ w.heap.size) (hl : AtS w l) (hr : AtS w r) (hs : sz l + sz r + 2 ≤ 1099511627776) :
   Calls Try.prog 149 #[.agg #[.pointer (pa l)], .string k, .string v, .agg #[.pointer (pa r)]] w (JoinOutS N l k v r w) := by
 obtain ⟨w1, hw1⟩ : ∃ w1, ((w.alloc (.cells #[.pointer (pa l)] 27)).alloc (.cells #[.pointer (pa r)] 27)).alloc (.cells #[.pointer none] 27) = w1 := ⟨_, rfl⟩
 have hb : Below w.heap.size w w1 := by rw [← hw1]; exact (((Below.refl _ w).alloc (Nat.le_refl _) _).alloc (by simp) _).alloc (by simp; omega) _
 have x0 : w1.heap[w.heap.size]? = some (.cells #[.pointer (pa l)] 27 (0, 0)) := by rw [← hw1]; exact boxStays (boxStays (heap_alloc_new w _) (below_new _ _)) (below_new _ _)
 have x1 : w1.heap[w.heap.size + 1]? = some (.cells #[.pointer (pa r)] 27 (0, 0)) := by
   rw [← hw1]
   have := heap_alloc_new (w.alloc (.cells #[.pointer (pa l)] 27)) (.cells #[.pointer (pa r)] 27)
   exact boxStays (by simpa using this) (below_new _ _)
 have x2 : w1.heap[w.heap.size + 1 + 1]? = some (.cells #[.pointer none] 27 (0, 0)) := by
   rw [← hw1]
   have := heap_alloc_new ((w.alloc (.cells #[.pointer (pa l)] 27)).alloc (.cells #[.pointer (pa r)] 27)) (.cells #[.pointer none] 27)
   simpa using this
 have X0 := Lib.hid x0
 have X1 := Lib.hid x1
 have X2 := Lib.hid x2
 have HL := Lib.hid (hl.below hb rfl)
 have HR := Lib.hid (hr.below hb rfl)
 have HB := Lib.hid hb
 have HW := Lib.hid hw1
 have HZ := Lib.hid hs
 clear hl hr hb hw1 x0 x1 x2 hs
 go_enter Try.func149, Try.ntmps149
 go_wp2_with fail
 rw [HW.out]
 refine (pm_MLastS l w1 HL.out).mono ?_
 rintro e w2 ⟨rfl, hb⟩
 have HC : Hid (Chain [w2, w1] w2) := Lib.hid ((Chain.one w1).push hb)
 have k1 := cell_of_one (boxStays X1.out hb)
 clear hb
 go_wp2_with fail
 refine (pm_MFirstS r w2 (HR.out.below (HC.out.to w1 (by simp)) rfl)).mono ?_
 rintro e w3 ⟨rfl, hb⟩
 replace HC := Lib.hid (HC.out.push hb)
 clear hb k1
 have D3 : Hid (Below w.heap.size w w3) := Lib.hid (HB.out.trans ((HC.out.to w1 (by simp)).mono HB.out.size))
 have Y0 := Lib.hid (boxStays X0.out (HC.out.to w1 (by simp)))
 have Y1 := Lib.hid (boxStays X1.out (HC.out.to w1 (by simp)))
 have Y2 := Lib.hid (boxStays X2.out (HC.out.to w1 (by simp)))
 have AL := Lib.hid (HL.out.below (HC.out.to w1 (by simp)) rfl)
 have AR := Lib.hid (HR.out.below (HC.out.to w1 (by simp)) rfl)
 clear X0 X1 X2 HL HR HC HW HB
 obtain ⟨q1, hq1⟩ : ∃ q, isNS (endR l) = q := ⟨_, rfl⟩
 obtain ⟨q2, hq2⟩ : ∃ q, isNS (endL r) = q := ⟨_, rfl⟩
 obtain ⟨a, ha⟩ : ∃ q, keyOr (endR l) = q := ⟨_, rfl⟩
 obtain ⟨b, hb⟩ : ∃ q, keyOr (endL r) = q := ⟨_, rfl⟩
 have HOK : Hid (joinOKS l k r ↔ (q1 = true → klt a k = true) ∧ (q2 = true → klt k b = true)) := Lib.hid (by unfold joinOKS; rw [hq1, hq2, ha, hb])
 rw [hq1, hq2, ha, hb]
 clear hq1 hq2 ha hb
 have f0 := frozen_of_row _ (w.heap.size + 1 + 1) 0 _ _ Y2.out
 have k0 := cell_of_one Y0.out
 have k1 := cell_of_one Y1.out
 have k2 := cell_of_one Y2.out
 have hcase : (q1 = true ∧ klt a k = false) ∨ ((q1 = false ∨ (q1 = true ∧ klt a k = true)) ∧ (q2 = false ∨ (q2 = true ∧ klt k b = true) ∨ (q2 = true ∧ klt k b = false ∧ klt b k = true) ∨ (q2 = true ∧ b = k))) := by
   cases q1 <;> cases q2 <;> cases h1 : klt a k <;> cases h2 : klt k b <;> cases h3 : klt b k <;> simp_all
   all_goals exact (klt_tri h2 h3).symm
 rcases hcase with ⟨rfl, h1⟩ | ⟨hl, hr⟩
 · have e1 : Op.bytesLess a.toList k.toList = false := h1
   go_wp2_with fail
   have k3 := cell_of_one (heap_setCell_same w3 (w.heap.size + 1 + 1) 0 _ _ (.pointer none) Y2.out)
   refine bodyPost_ret (v := .tuple #[.agg #[.pointer none], .int .i64 2]) (by simp [results, Try.results149, go_sem, k3]) rfl ?_
   exact ⟨.nil, 2, .inr ⟨by rw [HOK.out, h1]; simp, rfl, rfl⟩, rfl, trivial, D3.out.setCell (p := ⟨w.heap.size + 1 + 1, 0, none⟩) (by simp; omega) _⟩
 · have bad : ∀ (hn : ¬ joinOKS l k r), JoinOutS N l k v r w (.returned (.tuple #[.agg #[.pointer none], .int .i64 2])) (w3.setCell ⟨w.heap.size + 1 + 1, 0, none⟩ (.pointer none)) := fun hn =>
     ⟨.nil, 2, .inr ⟨hn, rfl, rfl⟩, rfl, trivial, D3.out.setCell (p := ⟨w.heap.size + 1 + 1, 0, none⟩) (by simp; omega) _⟩
   have BAD := Lib.hid bad
   clear bad
   rcases hl with rfl | ⟨rfl, h1⟩ <;> rcases hr with rfl | ⟨rfl, h2⟩ | ⟨rfl, h2, h3⟩ | ⟨rfl, rfl⟩
   all_goals (try (have e1 : Op.bytesLess a.toList k.toList = true := h1))
   all_goals (try (have e2 : Op.bytesLess b.toList k.toList = false := klt_asymm h2; have e3 : (b.toList == k.toList) = false := (by rw [eq_iff]; simp; exact Ne.symm (klt_ne h2))))
   all_goals (try (have e2 : Op.bytesLess b.toList k.toList = true := h3))
   all_goals (try (have e2 : Op.bytesLess b.toList b.toList = false := klt_irrefl b))
   all_goals (go_wp2_with fail)
   all_goals first
     | (have hnok : ¬ joinOKS l k r := (by rw [HOK.out]; simp [h2])
        have k3 := cell_of_one (heap_setCell_same w3 (w.heap.size + 1 + 1) 0 _ _ (.pointer none) Y2.out)
        refine bodyPost_ret (v := .tuple #[.agg #[.pointer none], .int .i64 2]) (by simp [results, Try.results149, go_sem, k3]) rfl ?_
        exact BAD.out hnok)
     | (have hnok : ¬ joinOKS l b r := (by rw [HOK.out]; simp [klt_irrefl])
        have k3 := cell_of_one (heap_setCell_same w3 (w.heap.size + 1 + 1) 0 _ _ (.pointer none) Y2.out)
        refine bodyPost_ret (v := .tuple #[.agg #[.pointer none], .int .i64 2]) (by simp [results, Try.results149, go_sem, k3]) rfl ?_
        exact BAD.out hnok)
     | (refine (pm_joinS k v _ l r N w3 (Nat.le_refl _) (Nat.le_trans hN D3.out.size) AL.out AR.out HZ.out).mono ?_
        rintro e w4 ⟨t', hP, rfl, hA, hb⟩
        have P1 := Lib.hid hP
        have A1 := Lib.hid hA
        have D4 : Hid (Below w.heap.size w w4) := Lib.hid (D3.out.trans (hb.mono D3.out.size))
        have Y4 := Lib.hid (boxStays Y2.out hb)
        clear hP hA hb f0 k0 k1 k2
        have f0 := frozen_of_row _ (w.heap.size + 1 + 1) 0 _ _ Y4.out
        have k2 := cell_of_one Y4.out
        go_wp2_with fail
        have k3 := cell_of_one (heap_setCell_same w4 (w.heap.size + 1 + 1) 0 _ _ (.pointer (pa t')) Y4.out)
        clear f0 k2
        refine bodyPost_ret (v := .tuple #[.agg #[.pointer (pa t')], .int .i64 0]) (by simp [results, Try.results149, go_sem, k3]) rfl ?_
        exact ⟨t', 0, .inl ⟨by rw [HOK.out]; simp [*], P1.out, rfl⟩, rfl, A1.out.setBox Y4.out (by decide) 0 _, D4.out.setCell (p := ⟨w.heap.size + 1 + 1, 0, none⟩) (by simp; omega) _⟩)
def SplitOutS (N : Nat) (t : Tr ByteArray) (k : ByteArray) (w : World) (e : Ending) (w' : World) : Prop :=
 ∃ a x c, SplitR N k t a x c ∧ e = .returned (.tuple #[.agg #[.pointer (pa a)], .string (valOr x), .bool (isNS x), .agg #[.pointer (pa c)]]) ∧ AtS w' a ∧ AtS w' c ∧ Below w.heap.size w w'
set_option maxRecDepth 100000 in
set_option maxHeartbeats 4000000 in
theorem pm_MSplitS (t : Tr ByteArray) (k : ByteArray) (N : Nat) (w : World) (hN : N ≤ w.heap.size) (h : AtS w t) (hs : sz t + 2 ≤ 1099511627776) :
   Calls Try.prog 147 #[.agg #[.pointer (pa t)], .string k] w (SplitOutS N t k w) := by
 obtain ⟨w1, hw1⟩ : ∃ w1, ((w.alloc (.cells #[.pointer (pa t)] 27)).alloc (.cells #[.pointer none] 27)).alloc (.cells #[.pointer none] 27) = w1 := ⟨_, rfl⟩
 have hb : Below w.heap.size w w1 := by rw [← hw1]; exact (((Below.refl _ w).alloc (Nat.le_refl _) _).alloc (by simp) _).alloc (by simp; omega) _
 have x1 : w1.heap[w.heap.size + 1]? = some (.cells #[.pointer none] 27 (0, 0)) := by
   rw [← hw1]
   have := heap_alloc_new (w.alloc (.cells #[.pointer (pa t)] 27)) (.cells #[.pointer none] 27)
   exact boxStays (by simpa using this) (below_new _ _)
 have x2 : w1.heap[w.heap.size + 1 + 1]? = some (.cells #[.pointer none] 27 (0, 0)) := by
   rw [← hw1]
   have := heap_alloc_new ((w.alloc (.cells #[.pointer (pa t)] 27)).alloc (.cells #[.pointer none] 27)) (.cells #[.pointer none] 27)
   simpa using this
 have X1 := Lib.hid x1
 have X2 := Lib.hid x2
 have H := Lib.hid (h.below hb rfl)
 have HB := Lib.hid hb
 have HW := Lib.hid hw1
 clear h hb hw1 x1 x2
 go_enter Try.func147, Try.ntmps147
 go_wp2_with fail
 rw [HW.out]
 refine (pm_splitS k t N w1 (Nat.le_trans hN HB.out.size) H.out hs).mono ?_
 rintro e w2 ⟨a, x, c, hP, rfl, hA1, hA2, hA3, hb⟩
 have P1 := Lib.hid hP
 have A1 := Lib.hid hA1
 have A2 := Lib.hid hA2
 have A3 := Lib.hid hA3
 have D2 : Hid (Below w.heap.size w w2) := Lib.hid (HB.out.trans (hb.mono HB.out.size))
 have Y1 := Lib.hid (boxStays X1.out hb)
 have Y2 := Lib.hid (boxStays X2.out hb)
 clear hP hA1 hA2 hA3 hb X1 X2 HW H HB
 obtain ⟨q, hq⟩ : ∃ q, isNS x = q := ⟨_, rfl⟩
 have hn : (!(pa x).isNone) = q := by rw [← hq]; cases x <;> rfl
 have HQ := Lib.hid hq
 clear hq
 have f1 := frozen_of_row _ (w.heap.size + 1) 0 _ _ Y1.out
 have k1 := cell_of_one Y1.out
 have f2 := frozen_of_row _ (w.heap.size + 1 + 1) 0 _ _ Y2.out
 have k2 := cell_of_one Y2.out
 go_wp2_with (refine (pm_ValueS x _ A2.out).mono ?_; rintro e w' ⟨rfl, rfl⟩)
 have z1 := heap_setCell_same w2 (w.heap.size + 1) 0 _ _ (.pointer (pa a)) Y1.out
 have z2 : (w2.setCell ⟨w.heap.size + 1, 0, none⟩ (.pointer (pa a))).heap[w.heap.size + 1 + 1]? = some (.cells #[.pointer none] 27 (0, 0)) := (Below.heap_setCell _ _ _ _ (by simp)).trans Y2.out
 have z3 := heap_setCell_same _ (w.heap.size + 1 + 1) 0 _ _ (.pointer (pa c)) z2
 have z4 := (Below.heap_setCell (w2.setCell ⟨w.heap.size + 1, 0, none⟩ (.pointer (pa a))) ⟨w.heap.size + 1 + 1, 0, none⟩ (.pointer (pa c)) (w.heap.size + 1) (by simp)).trans z1
 have k3 := cell_of_one z3
 have k4 := cell_of_one z4
 clear k1 k2 f1 f2
 refine bodyPost_ret (v := .tuple #[.agg #[.pointer (pa a)], .string (valOr x), .bool q, .agg #[.pointer (pa c)]]) (by simp [results, Try.results147, go_sem, k3, k4]) rfl ?_
 exact ⟨a, x, c, P1.out, by rw [HQ.out], (A1.out.setBox Y1.out (by decide) 0 _).setBox z2 (by decide) 0 _, (A3.out.setBox Y1.out (by decide) 0 _).setBox z2 (by decide) 0 _, (D2.out.setCell (p := ⟨w.heap.size + 1, 0, none⟩) (by simp) _).setCell (p := ⟨w.heap.size + 1 + 1, 0, none⟩) (by simp; omega) _⟩
end Go.Proofs.Ytnpiepimajippaa
namespace Go.Proofs.Ytnpiepimajippaa
open Go.RowKit Pm
theorem AtS.atI {w : World} : ∀ {t : Tr ByteArray} {i : Int}, AtS w t → AtS w (Pm.atI t i)
 | .nil, _, _ => trivial
 | .node b l k0 v0 r, i, h => by
   simp only [Pm.atI]
   split
   · exact AtS.atI h.2.1
   · split
     · exact h
     · exact AtS.atI h.2.2
def Pm.atOS (t : Tr ByteArray) (i : Int) : Tr ByteArray := if i < 0 then .nil else atI t i
set_option maxRecDepth 100000 in
set_option maxHeartbeats 4000000 in
theorem pm_MAtS (t : Tr ByteArray) (i : Int) (w : World) (h : AtS w t) (hi : i ≤ 9223372036854775807) (hi0 : -9223372036854775808 ≤ i) (hs : sz t ≤ 1099511627776) : Calls Try.prog 113 #[.agg #[.pointer (pa t)], .int .i64 i] w fun e w' =>
   e = .returned (.tuple #[.string (keyOr (atOS t i)), .string (valOr (atOS t i)), .bool (isNS (atOS t i))]) ∧ Below w.heap.size w w' := by
 have HB := Lib.hid (below_new w (.cells #[.pointer (pa t)] 27))
 have H := Lib.hid (h.below HB.out rfl); clear h
 have HI := Lib.hid (And.intro hi hi0)
 clear hi hi0
 obtain ⟨r0, hr0⟩ : ∃ r0 : Tr ByteArray, (if i < 0 then .nil else t) = r0 := ⟨_, rfl⟩
 have hO : atOS t i = atI r0 i := by unfold atOS; rw [← hr0]; split <;> rfl
 have HO := Lib.hid hO
 have HA0 : Hid (AtS (w.alloc (.cells #[.pointer (pa t)] 27)) r0) := Lib.hid (by rw [← hr0]; split; trivial; exact H.out)
 have hz0 : Hid (r0 = .nil ∨ 0 ≤ i) := Lib.hid (by rw [← hr0]; split; exact .inl rfl; exact .inr (by omega))
 have hs0 : Hid (sz r0 ≤ 1099511627776) := Lib.hid (by rw [← hr0]; split; simp [sz]; exact hs)
 clear hO H
 by_cases hneg : i < 0
 case' pos =>
   have hr : .nil = r0 := by rw [← hr0, if_pos hneg]
   clear hr0
   subst hr
 case' neg =>
   have hr : t = r0 := by rw [← hr0, if_neg hneg]
   clear hr0
   subst hr
   have hnn : 0 ≤ i := by omega
   have hnd : decide (i < 0) = false := by simpa using hnn
 all_goals
   go_enter Try.func113, Try.ntmps113
   go_wp2_with fail
   go_step3
   go_wp2_with fail
   go_step3
   go_wp2_with fail
 all_goals
   generalize w.alloc (.cells #[.pointer (pa t)] 27) = w1 at *
   go_loopw [1, 7] (fun u1 u7 wr => ∃ (s : Tr ByteArray) (j : Int), u1 = .int .i64 j ∧ u7 = .pointer (pa s) ∧ Hid (AtS wr s) ∧ Hid (atI s j = atOS t i) ∧ Hid (s = .nil ∨ 0 ≤ j) ∧ Hid (j ≤ 9223372036854775807) ∧ Hid (sz s ≤ 1099511627776) ∧ Hid (w1 = wr)) (fun _ u wr => hOfS wr u)
   case atStart => first | exact ⟨.nil, i, rfl, rfl, HA0, Lib.hid HO.out.symm, Lib.hid (.inl rfl), Lib.hid HI.out.1, hs0, Lib.hid rfl⟩ | exact ⟨t, i, rfl, rfl, HA0, Lib.hid HO.out.symm, hz0, Lib.hid HI.out.1, hs0, Lib.hid rfl⟩
   case round =>
     obtain ⟨s, j, rfl, rfl, HA, HE, HP, HJ, HZ, HW⟩ := hrel
     (try clear hnd)
     (try clear hnn)
     clear hneg
     cases s with
     | nil =>
       have hpn : pa (.nil : Tr ByteArray) = none := rfl
       go_wp2_with fail
       refine (pm_toldS .nil _ trivial).mono ?_
       rintro e w' ⟨rfl, rfl⟩
       go_wp2_with fail
       (try rw [Exit.noGoto_ret])
       go_ret3
       rw [← HE.out, ← HW.out]
       exact ⟨rfl, HB.out⟩
     | node b l k0 v0 r =>
       have hj0 : 0 ≤ j := by rcases HP.out with h | h; cases h; exact h
       have hj1 := HJ.out
       have hz1 : sz l ≤ 1099511627776 := by have := HZ.out; simp only [sz] at this; omega
       have hpn : pa (.node b l k0 v0 r : Tr ByteArray) = some ⟨b, 0, none⟩ := rfl
       obtain ⟨x0, x1, x2, x3⟩ := HA.out.cellsP (pa l) (pa r) rfl rfl
       obtain ⟨m, hm⟩ : ∃ m, sz l = m := ⟨_, rfl⟩
       have HM := Lib.hid hm
       rw [hm] at hz1
       clear hm
       by_cases hlt : j < (m : Int)
       · go_wp2_with fail
         refine (pm_LenS l _ HA.out.2.1).mono ?_
         rintro e w' ⟨rfl, rfl⟩
         rw [HM.out]
         go_wp2_with fail
         refine ⟨⟨l, j, rfl, rfl, Lib.hid HA.out.2.1, Lib.hid ?_, Lib.hid (.inr hj0), HJ, Lib.hid (by rw [HM.out]; exact hz1), HW⟩, ?_⟩
         · rw [← HE.out]; simp only [Pm.atI]; rw [if_pos (by rw [HM.out]; omega)]
         · rw [hOf_atS HA.out, hOf_atS HA.out.2.1]; simp only [ht]; omega
       · by_cases heq : j = (m : Int)
         · go_wp2_with fail
           refine (pm_LenS l _ HA.out.2.1).mono ?_
           rintro e w' ⟨rfl, rfl⟩
           rw [HM.out]
           go_wp2_with fail
           refine (pm_toldS (.node b l k0 v0 r) _ HA.out).mono ?_
           rintro e w' ⟨rfl, rfl⟩
           go_wp2_with fail
           (try rw [Exit.noGoto_ret])
           go_ret3
           rw [← HE.out, ← HW.out]
           simp only [Pm.atI]
           rw [if_neg (by rw [HM.out]; omega), if_pos (by rw [HM.out]; omega)]
           exact ⟨rfl, HB.out⟩
         · have hle : ¬ j < (m : Int) := hlt
           go_wp2_with fail
           refine (pm_LenS l _ HA.out.2.1).mono ?_
           rintro e w' ⟨rfl, rfl⟩
           rw [HM.out]
           go_wp2_with fail
           refine ⟨⟨r, j - m - 1, rfl, rfl, Lib.hid HA.out.2.2, Lib.hid ?_, Lib.hid (.inr (by omega)), Lib.hid (by omega), Lib.hid (by have := HZ.out; simp only [sz] at this; omega), HW⟩, ?_⟩
           · rw [← HE.out]; simp only [Pm.atI]; rw [if_neg (by rw [HM.out]; omega), if_neg (by rw [HM.out]; omega), HM.out]
           · rw [hOf_atS HA.out, hOf_atS HA.out.2.2]; simp only [ht]; omega
end Go.Proofs.Ytnpiepimajippaa
namespace Go.Proofs.Ytnpiepimajippaa
open Go.RowKit
def Facts (H : List (Nat × Obj)) (W : World) : Prop := ∀ p ∈ H, W.heap[p.1]? = some p.2
theorem Facts.below {H : List (Nat × Obj)} {A B : World} (h : Facts H A) (hb : Below A.heap.size A B) : Facts H B := fun p hp => (hb.block _ (Array.getElem?_eq_some_iff.1 (h p hp)).1).trans (h p hp)
theorem Facts.lt {H : List (Nat × Obj)} {A : World} (h : Facts H A) : ∀ p ∈ H, p.1 < A.heap.size := fun p hp => (Array.getElem?_eq_some_iff.1 (h p hp)).1
theorem Facts.setCell {H : List (Nat × Obj)} {A : World} {c i : Nat} (h : Facts H A) (hc : ∀ p ∈ H, p.1 ≠ c) (v : Value) : Facts H (A.setCell ⟨c, i, none⟩ v) := fun p hp => (Below.heap_setCell _ _ _ _ (by simpa using hc p hp)).trans (h p hp)
theorem Facts.putObj {H : List (Nat × Obj)} {A : World} {c : Nat} (h : Facts H A) (hc : ∀ p ∈ H, p.1 ≠ c) (o : Obj) : Facts H (A.putObj c o) := fun p hp => (World.putObj_heap_other (fun e => hc p hp e)).trans (h p hp)
theorem Facts.cons {H : List (Nat × Obj)} {A : World} {b : Nat} {o : Obj} (h : Facts H A) (hb : A.heap[b]? = some o) : Facts ((b, o) :: H) A := fun p hp => by
 rcases List.mem_cons.1 hp with rfl | hp
 · exact hb
 · exact h p hp
theorem own_block {β : Type} {B k : Nat} {o : Obj} (hk : k < B) : OwnFrom B (fun (_ : β) W => W.heap[k]? = some o) := by
 rintro _ A A' row h hg hr
 exact (hg.block k (Array.getElem?_eq_some_iff.1 h).1 (fun e => by have := (hr k e.symm).1; omega)).trans h
theorem facts_own {β : Type} (H : List (Nat × Obj)) (B : Nat) (hH : ∀ p ∈ H, p.1 < B) : OwnFrom B (fun (_ : β) W => Facts H W) := by
 rintro b A A' row h hg hr p hp
 exact own_block (β := Unit) (hH p hp) () A A' row (h p hp) hg hr
theorem below_put (s : Nat) (A : World) (D : Nat) (o : Obj) (h : s ≤ D) : Below s A (A.putObj D o) := ⟨rfl, rfl, rfl, by simp, fun k hk => World.putObj_heap_other (by omega)⟩
def marks (Ds : List Nat) : List Deferred := Ds.map fun D => { target := .collected D, args := #[] }
def markF (Ds : List Nat) : List (Nat × Obj) := Ds.map fun D => (D, .deferred (some []))
theorem leaves_marks {F : Fence} {n : Nat} {P : Program} {fn : Func} {tmps : Array Value} {R : Ending → World → Prop} : ∀ (Ds : List Nat) (W : World), Ds.Nodup → Facts (markF Ds) W →
   (∀ W', W'.os = W.os → W'.tape = W.tape → W'.output = W.output → W'.heap.size = W.heap.size → (∀ k, k ∉ Ds → W'.heap[k]? = W.heap[k]?) → ∃ v, (results fn tmps).run P W' = .ok v W' ∧ R (.returned v) W') →
   LeavesInM F n P fn tmps R (marks Ds) .returning W
 | [], W, _, _, h => h W rfl rfl rfl rfl fun _ _ => rfl
 | D :: Ds, W, hnd, hf, h => by
   obtain ⟨h1, h2⟩ := List.nodup_cons.1 hnd
   refine ⟨by simp, .inl ⟨_, _, rfl, run_takeDeferred (hf (D, .deferred (some [])) (by simp [markF])), ?_⟩⟩
   refine leaves_marks Ds _ h2 (Facts.putObj (fun p hp => hf p (by simp only [markF, List.map_cons, List.mem_cons]; exact .inr hp)) (fun p hp e => ?_) _) ?_
   · obtain ⟨D', hD', rfl⟩ := List.mem_map.1 hp
     exact h1 (e ▸ hD')
   · intro W' e1 e2 e3 e4 e5
     refine h W' e1 e2 e3 (by rw [e4]; simp) fun k hk => ?_
     rw [e5 k (fun hm => hk (List.mem_cons_of_mem _ hm))]
     exact World.putObj_heap_other (fun e => hk (e ▸ List.mem_cons_self))
structure SameBut (c y : Nat) (A B : World) : Prop where
 os : B.os = A.os
 tape : B.tape = A.tape
 output : B.output = A.output
 size : A.heap.size ≤ B.heap.size
 block : ∀ k, k < y → k ≠ c → B.heap[k]? = A.heap[k]?
theorem SameBut.refl (c y : Nat) (A : World) : SameBut c y A A := ⟨rfl, rfl, rfl, Nat.le_refl _, fun _ _ _ => rfl⟩
theorem SameBut.trans {c y : Nat} {A B C : World} (h : SameBut c y A B) (k : SameBut c y B C) : SameBut c y A C :=
 ⟨k.os.trans h.os, k.tape.trans h.tape, k.output.trans h.output, Nat.le_trans h.size k.size, fun i h1 h2 => (k.block i h1 h2).trans (h.block i h1 h2)⟩
theorem SameBut.ofBelow {c y : Nat} {A B : World} (h : Below y A B) : SameBut c y A B := ⟨h.os, h.tape, h.output, h.size, fun k hk _ => h.block k hk⟩
theorem SameBut.setCell {c y : Nat} {A B : World} (h : SameBut c y A B) (i : Nat) (v : Value) : SameBut c y A (B.setCell ⟨c, i, none⟩ v) :=
 ⟨h.os, h.tape, h.output, by simpa [World.setCell] using h.size, fun k h1 h2 => (Below.heap_setCell _ _ _ _ (by simpa using h2)).trans (h.block k h1 h2)⟩
theorem SameBut.own {β : Type} {c y B : Nat} {w : World} (hw : y ≤ w.heap.size) (hB : y ≤ B) : OwnFrom B (fun (_ : β) W => SameBut c y w W) := by
 rintro _ A A' row h hg hr
 exact ⟨hg.os.trans h.os, hg.tape.trans h.tape, hg.output.trans h.output, Nat.le_trans h.size hg.size, fun k h1 h2 => (hg.block k (by have := h.size; omega) (fun e => by have := (hr k e.symm).1; omega)).trans (h.block k h1 h2)⟩
def allocs (w : World) : List Obj → World
 | [] => w
 | o :: l => allocs (w.alloc o) l
theorem allocs_below : ∀ (l : List Obj) (w : World), Below w.heap.size w (allocs w l)
 | [], w => Below.refl _ _
 | o :: l, w => (below_new w o).trans ((allocs_below l (w.alloc o)).mono (by simp))
theorem allocs_get : ∀ (l : List Obj) (w : World) (i : Nat) (o : Obj), l[i]? = some o → (allocs w l).heap[w.heap.size + i]? = some o
 | [], w, i, o, h => by simp at h
 | o' :: l, w, 0, o, h => by
   simp at h
   subst h
   exact ((allocs_below l (w.alloc o')).block _ (by simp)).trans (heap_alloc_new w o')
 | o' :: l, w, i + 1, o, h => by
   have := allocs_get l (w.alloc o') i o (by simpa using h)
   rw [World.size_alloc] at this
   rw [show w.heap.size + (i + 1) = w.heap.size + 1 + i by omega]
   exact this
end Go.Proofs.Ytnpiepimajippaa
namespace Go.Proofs.Ytnpiepimajippaa
open Go.RowKit St Pm
structure RowKeep (c : Nat) (v : Value) (A B : World) : Prop where
 os : B.os = A.os
 tape : B.tape = A.tape
 output : B.output = A.output
 size : A.heap.size ≤ B.heap.size
 block : ∀ k, k < A.heap.size → k ≠ c → v.ownBlock ≠ some k → B.heap[k]? = A.heap[k]?
theorem RowKeep.below {c z n size base : Nat} {e : TypeId} {v : Value} {xs : List Value} {A B : World} (h : RowKeep c v A B) (hc : z ≤ c) (ho : A.ownsRow base e size v n xs) (hb : z ≤ base) (hz : z ≤ A.heap.size) : Below z A B :=
 ⟨h.os, h.tape, h.output, h.size, fun k hk => h.block k (by omega) (by omega) (fun e => by have := (ho.lt k e).1; omega)⟩
theorem RowKeep.facts {c n size base : Nat} {e : TypeId} {v : Value} {xs : List Value} {A B : World} (h : RowKeep c v A B) {H : List (Nat × Obj)} (hH : Facts H A) (hc : ∀ p ∈ H, p.1 ≠ c) (ho : A.ownsRow base e size v n xs) (hb : ∀ p ∈ H, p.1 < base) : Facts H B :=
 fun p hp => (h.block _ (Facts.lt hH p hp) (hc p hp) (fun e => by have := (ho.lt _ e).1; have := hb p hp; omega)).trans (hH p hp)
theorem RowKeep.keepE {c n size base M : Nat} {e t : TypeId} {v u : Value} {xs : List Value} {A B : World} {S : Nat → Prop} (h : RowKeep c v A B) (ho : A.ownsRow base e size v n xs) (hS : ∀ k, S k → k < base ∧ k ≠ c) (hSN : ∀ k, S k → k < A.heap.size) (hc : c < M) : KeepE M S (fun x => x = e) A B :=
 ⟨h.os, h.tape, h.output, h.size, fun k hk => h.block k (hSN k hk) (hS k hk).2 (fun e' => by have := (ho.lt k e').1; have := (hS k hk).1; omega), fun k o hM hk ht => by
   have hlt := (Array.getElem?_eq_some_iff.1 hk).1
   refine (h.block k hlt (by omega) (fun e' => ?_)).trans hk
   rcases ho.2 with ⟨rfl, _⟩ | ⟨g, cap, cur, rfl, _, hgb, _⟩
   · simp [Value.ownBlock] at e'
   · obtain rfl : g = k := by simpa [Value.ownBlock] using e'
     rw [hgb] at hk
     cases hk
     exact ht _ _ _ rfl rfl⟩
theorem RowKeep.from {c n size base : Nat} {e t : TypeId} {v u : Value} {xs : List Value} {A B : World} (h : RowKeep c v A B) (hc : Boxed A c t u) (ho : A.ownsRow base e size v n xs) (D : Nat) : KeepsFrom D A B :=
 ⟨h.size, fun k o _ hk ho' => (h.block k (Array.getElem?_eq_some_iff.1 hk).1 (fun e' => by rw [e', show A.heap[c]? = _ from hc] at hk; cases hk; cases ho') (fun e' => by
   rcases ho.2 with ⟨rfl, _⟩ | ⟨g, cap, cur, rfl, _, hgb, _⟩
   · simp [Value.ownBlock] at e'
   · obtain rfl : g = k := by simpa [Value.ownBlock] using e'
     rw [hgb] at hk
     cases hk
     cases ho')).trans hk⟩
theorem RowKeep.after {c : Nat} {v : Value} {A0 A B : World} (hb : Below A0.heap.size A0 A) (h : RowKeep c v A B) : RowKeep c v A0 B :=
 ⟨h.os.trans hb.os, h.tape.trans hb.tape, h.output.trans hb.output, Nat.le_trans hb.size h.size, fun k h1 h2 h3 => (h.block k (Nat.lt_of_lt_of_le h1 hb.size) h2 h3).trans (hb.block k h1)⟩
def goodP (p : ByteArray × ByteArray) : Bool := (ofK p.1).isSome && decide (p.2.size ≤ 256)
def decV (p : ByteArray × ByteArray) : Ev := ((ofK p.1).getD ⟨0, 0, ⟨#[]⟩, 0, 0⟩, p.2)
theorem ofK_key {s : Stp} (h : s.ok = true) : ofK (keyB s) = some s.sv := by
 unfold ofK
 have : okKey (keyB s).data.toList = true := okKey_iff.2 ⟨s, h, by simp [keyB]⟩
 rw [if_pos this]
 congr 1
 have h2 : parse (keyB s).data.toList = s := by
   show parse (s.key.toArray.toList) = s
   rw [List.toList_toArray]
   exact parse_key h
 rw [h2]
theorem decV_enc {es : List El} (h : ∀ x ∈ es, okE x = true) : (∀ p ∈ es.map enc, goodP p = true) ∧ (es.map enc).map decV = es.map toV := by
 constructor
 · intro p hp
   obtain ⟨x, hx, rfl⟩ := List.mem_map.1 hp
   obtain ⟨h1, h2⟩ := okE_iff.1 (h x hx)
   unfold goodP enc
   rw [ofK_key h1]
   simpa using h2
 · rw [List.map_map]
   refine List.map_congr_left fun x hx => ?_
   obtain ⟨h1, h2⟩ := okE_iff.1 (h x hx)
   show decV (keyB x.1, x.2) = toV x
   unfold decV toV
   rw [ofK_key h1]
   rfl
end Go.Proofs.Ytnpiepimajippaa
namespace Go.Proofs.Ytnpiepimajippaa
open Go.RowKit St Pm
set_option maxRecDepth 100000 in
set_option maxHeartbeats 2000000 in
theorem own1_14 (s : Sv) (x : ByteArray) (c base n : Nat) (v : Value) (xs : List Value) (W : World) (hc : Boxed W c 22 v) (ho : W.ownsRow base 47 6 v n xs) (hb : base ≤ W.heap.size) (hcb : c < base) (hn : n ≤ 200000) :
   Calls Try.prog 136 #[.agg #[.int .i64 s.g, .int .i64 s.r, .string s.l, .int .i64 s.n, .int .i64 s.i], .string x, .pointer (some ⟨c, 0, none⟩)] W fun e w' =>
     ∃ v', e = .returned (.tuple #[]) ∧ Boxed w' c 22 v' ∧ w'.ownsRow base 47 6 v' (n + 1) (xs ++ elV (s, x)) ∧ RowKeep c v W w' := by
 have ET := Lib.hid elT
 have bA := below_new W (.cells #[.int .i64 s.g, .int .i64 s.r, .string s.l, .int .i64 s.n, .int .i64 s.i] 41)
 have c1 := boxStays hc bA
 have o1 := own_later ho bA (Nat.le_refl _)
 go_enter Try.func136, Try.ntmps136
 go_upto_region 1 with (fail)
 have xA := heap_alloc_new W (.cells #[.int .i64 s.g, .int .i64 s.r, .string s.l, .int .i64 s.n, .int .i64 s.i] 41)
 generalize W.alloc (.cells #[.int .i64 s.g, .int .i64 s.r, .string s.l, .int .i64 s.n, .int .i64 s.i] 41) = w1 at *
 have k0 := cell_of_row _ _ 0 _ _ _ xA
 have k1 := cell_of_row _ _ 1 _ _ _ xA
 have k2 := cell_of_row _ _ 2 _ _ _ xA
 have k3 := cell_of_row _ _ 3 _ _ _ xA
 have k4 := cell_of_row _ _ 4 _ _ _ xA
 have kc := cell_of_one c1
 have O1 := Lib.hid o1
 have C1 : Hid (Boxed w1 c 22 v) := Lib.hid c1
 have BA := Lib.hid bA
 have HBS : Hid (base ≤ w1.heap.size) := Lib.hid (Nat.le_trans hb bA.size)
 have hcs : c < w1.heap.size := (Array.getElem?_eq_some_iff.1 c1).1
 clear xA bA c1 o1 hc ho
 go_wp2_with (at_builtin; go_must (refine wpList_app rfl _ _ 22 22 rfl base 47 _ 6 64 ET.out v n xs rfl (O1.out.alloc _) _ 1 (elV (s, x)) rfl ((CellsAt.new w1 47 (0, 0) (elV (s, x))).srcN rfl (fun u hu => elsV_one [(s, x)] u (by simpa [elsV] using hu)) Try.underlying22 1 (by decide)) (by omega) (by omega) (by have := HBS.out; simp; omega) ?_); go_must (intro v6 w6 hown hgr hbel _; obtain ⟨a6, cp6, hv6, _⟩ := own_slice hown; subst hv6; have c6 : Boxed w6 c 22 v := (C1.out.alloc _).kept hgr (Boxed.not_row C1.out (by decide) O1.out)); have kc6 := cell_of_one c6; have fc6 := frozen_of_row _ c 0 _ _ c6)
 have V6 : Hid (Boxed w6 c 22 v) := Lib.hid c6
 have OW6 := Lib.hid hown
 have GR := Lib.hid hgr
 clear hown hgr hbel c6 kc6 fc6 kc k0 k1 k2 k3 k4
 go_end0
 have hne : some c ≠ (Value.slice a6 (n + 1) cp6).ownBlock := Boxed.not_row V6.out (by decide) OW6.out
 refine ⟨.slice a6 (n + 1) cp6, rfl, Boxed.set _ V6.out, OW6.out.kept (grownBy_setCell' w6 c _) (.inr hne.symm), RowKeep.after BA.out ⟨?_, ?_, ?_, ?_, fun k h1 h2 h3 => ?_⟩⟩
 · exact GR.out.os
 · exact GR.out.tape
 · exact GR.out.output
 · have := GR.out.size; simp [World.setCell] at this ⊢; omega
 · refine (Below.heap_setCell _ _ _ _ (by simpa using h2)).trans ((GR.out.block k (by simp; omega) (fun e => h3 e.symm)).trans ?_)
   exact (below_new w1 _).block k h1
end Go.Proofs.Ytnpiepimajippaa
