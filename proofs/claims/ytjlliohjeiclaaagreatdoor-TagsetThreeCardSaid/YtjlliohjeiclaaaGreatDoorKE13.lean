/- Words, contracts and walks that the proof stands on (PmKS PmLS Marks RowK TgP RgP TgL). -/
import Derived.Laws.EntriesVeiled
import Derived.Lib.ReplaceLaws
import Derived.RangeFuncKeeps
import Derived.RangeFuncLeaves
import Derived.RangeFuncWrites
import Derived.Shelf.Strings.Prefix
import Derived.Shelf.Strings.Replace
import Derived.Test.YtjlliohjeiclaaaGreatDoorKE1
import Derived.Test.YtjlliohjeiclaaaGreatDoorKE12
import Derived.Test.YtjlliohjeiclaaaGreatDoorKE6
import Derived.Test.YtjlliohjeiclaaaGreatDoorKE9
namespace Go.Proofs.YtjlliohjeiclaaaGreatDoor
open Go.RowKit Pm
attribute [local go_sem] Oper.semAt_some
def Pm.nodesLS : Tr ByteArray → List (Tr ByteArray)
 | .nil => []
 | .node b l k v r => nodesLS l ++ nodesLS r ++ [.node b l k v r]
def encNS (x : Tr ByteArray) : Array Value := #[.pointer (pa x)]
structure EnvNS (gb yb ll : Nat) (s : Tr ByteArray) (W : World) : Prop where
 g : Boxed W gb 195 (.func (.func 186) #[] #[.pointer (some ⟨gb, 0, none⟩), .pointer (some ⟨yb, 0, none⟩)])
 y : Boxed W yb 195 (.func (.yield ll) #[] #[])
 a : AtS W s
theorem EnvNS.below {gb yb ll : Nat} {s : Tr ByteArray} {W W' : World} (h : EnvNS gb yb ll s W) (hb : Below W.heap.size W W') : EnvNS gb yb ll s W' :=
 ⟨boxStays h.g hb, boxStays h.y hb, h.a.below hb rfl⟩
theorem EnvNS.keep {gb yb ll M : Nat} {S : Nat → Prop} {Ex : TypeId → Prop} {s : Tr ByteArray} {W W' : World} (h : EnvNS gb yb ll s W) (hk : KeepE M S Ex W W')
 (h2 : M ≤ gb) (h3 : M ≤ yb) (h4 : ∀ b ∈ blocks s, S b) (h5 : ¬ Ex 195) : EnvNS gb yb ll s W' :=
 ⟨hk.box h.g h2 h5, hk.box h.y h3 h5, h.a.keep fun b o ho hm => (hk.block b (h4 b hm)).trans ho⟩
set_option maxRecDepth 100000 in
set_option maxHeartbeats 4000000 in
theorem go1_nodesS (gb yb ll M : Nat) (S : Nat → Prop) (Ex : TypeId → Prop) (L : List (Tr ByteArray)) (J Jx : List (Tr ByteArray) → World → Prop) (B0 : Nat)
 (hJo : OwnFrom B0 J) (h2 : M ≤ gb) (h3 : M ≤ yb) (h5 : ¬ Ex 195)
 (hY : ∀ pre x W1, J pre W1 → pre ++ [x] <+: L → YieldAt Fence.wide 0 Tryz.prog ll (encNS x) W1 fun e W' =>
  (e = .returned (.bool true) ∧ J (pre ++ [x]) W' ∧ KeepE M S Ex W1 W') ∨ (e = .returned (.bool false) ∧ Jx (pre ++ [x]) W' ∧ KeepE M S Ex W1 W')) :
 ∀ (s : Tr ByteArray) (pre : List (Tr ByteArray)) (W1 : World), (∀ b ∈ blocks s, S b) → (∀ k, S k → k < W1.heap.size) → J pre W1 → EnvNS gb yb ll s W1 → pre ++ nodesLS s <+: L →
  Calls Tryz.prog 186 #[.pointer (pa s), .pointer (some ⟨gb, 0, none⟩), .pointer (some ⟨yb, 0, none⟩)] W1 fun e W' =>
   (e = .returned (.bool true) ∧ J (pre ++ nodesLS s) W' ∧ KeepE M S Ex W1 W') ∨ (e = .returned (.bool false) ∧ (∃ pre', pre' <+: L ∧ Jx pre' W') ∧ KeepE M S Ex W1 W') := by
 have HY := Lib.hid hY
 clear hY
 intro s
 induction s with
 | nil =>
  intro pre W1 _ hSN hJ hE _
  have HJ := Lib.hid hJ
  have HSN := Lib.hid hSN
  clear hJ hSN
  have hSd : EnvNS gb yb ll .nil W1.drew := hE.below ((Below.refl _ W1).drew)
  clear hE
  refine (callsIn_wide (n := 6)).1 ?_
  change CallsIn _ _ _ _ #[.pointer none, _, _] W1 _
  refine callsIn_of_wp Tryz.func186 rfl trivial ?_ rfl
  simp only [Tryz.ntmps186, List.size_toArray, List.length_cons, List.length_nil, Nat.reduceAdd, Nat.reduceSub, Array.replicate_succ, Array.replicate_zero, List.push_toArray, List.append_toArray, List.nil_append, List.cons_append]
  gi_wp2
  refine region_wide (S := (EnvNS gb yb ll .nil)) (by kernel_rfl) (hSd) (fun hS => ?_)
  refine anyW_take (i := 0) (oi := ⟨some 5, _, _, _, _, _⟩) (v := ?_) rfl (by kernel_rfl) (fun _ _ _ h => h) (by kernel_rfl) (by kernel_rfl) (Or.inl ⟨by rfl, ?_⟩) hS ?_
  rotate_left 1
  · intro w' hB; (go_simp <;> with_reducible rfl)
  try simp only [Act.put, zA, zB, zC]
  refine anyW_take (i := 1) (oi := ⟨some 6, _, _, _, _, _⟩) (v := ?_) rfl (by kernel_rfl) (fun _ _ _ h => h) (by kernel_rfl) (by kernel_rfl) (Or.inl ⟨by rfl, ?_⟩) hS ?_
  rotate_left 1
  · intro w' hB; skip; (go_simp <;> with_reducible rfl)
  try simp only [Act.put, zA, zB, zC]
  refine anyW_take (i := 2) (oi := ⟨some 7, _, _, _, _, _⟩) (v := ?_) rfl (by kernel_rfl) (fun _ _ _ h => h) (by kernel_rfl) (by kernel_rfl) (Or.inl ⟨by rfl, ?_⟩) hS ?_
  rotate_left 1
  · intro w' hB; (go_simp <;> with_reducible rfl)
  try simp only [Act.put, zA, zB, zC]
  refine anyW_take (i := 3) (oi := ⟨some 8, _, _, _, _, _⟩) rfl (by kernel_rfl) (fun _ _ _ h => h) (by kernel_rfl) (by kernel_rfl) (Or.inr ⟨by rfl, rfl⟩) hS ?_
  try simp only [Act.put, zA, zB, zC]
  refine anyW_take (i := 4) (oi := ⟨some 9, _, _, _, _, _⟩) rfl (by kernel_rfl) (fun _ _ _ h => h) (by kernel_rfl) (by kernel_rfl) (Or.inr ⟨by rfl, rfl⟩) hS ?_
  try simp only [Act.put, zA, zB, zC]
  refine anyW_take (i := 5) (oi := ⟨some 10, _, _, _, _, _⟩) rfl (by kernel_rfl) (fun _ _ _ h => h) (by kernel_rfl) (by kernel_rfl) (Or.inr ⟨by rfl, rfl⟩) hS ?_
  try simp only [Act.put, zA, zB, zC]
  refine anyW_take (i := 6) (oi := ⟨some 11, _, _, _, _, _⟩) rfl (by kernel_rfl) (fun _ _ _ h => h) (by kernel_rfl) (by kernel_rfl) (Or.inr ⟨by rfl, rfl⟩) hS ?_
  try simp only [Act.put, zA, zB, zC]
  refine anyW_take (i := 7) (oi := ⟨some 12, _, _, _, _, _⟩) rfl (by kernel_rfl) (fun _ _ _ h => h) (by kernel_rfl) (by kernel_rfl) (Or.inr ⟨by rfl, rfl⟩) hS ?_
  try simp only [Act.put, zA, zB, zC]
  refine anyW_take (i := 8) (oi := ⟨some 13, _, _, _, _, _⟩) rfl (by kernel_rfl) (fun _ _ _ h => h) (by kernel_rfl) (by kernel_rfl) (Or.inr ⟨by rfl, rfl⟩) hS ?_
  try simp only [Act.put, zA, zB, zC]
  refine anyW_take (i := 9) (oi := ⟨some 14, _, _, _, _, _⟩) rfl (by kernel_rfl) (fun _ _ _ h => h) (by kernel_rfl) (by kernel_rfl) (Or.inr ⟨by rfl, rfl⟩) hS ?_
  try simp only [Act.put, zA, zB, zC]
  refine anyW_take (i := 10) (oi := ⟨some 15, _, _, _, _, _⟩) rfl (by kernel_rfl) (fun _ _ _ h => h) (by kernel_rfl) (by kernel_rfl) (Or.inr ⟨by rfl, rfl⟩) hS ?_
  try simp only [Act.put, zA, zB, zC]
  refine anyW_take (i := 11) (oi := ⟨some 16, _, _, _, _, _⟩) rfl (by kernel_rfl) (fun _ _ _ h => h) (by kernel_rfl) (by kernel_rfl) (Or.inr ⟨by rfl, rfl⟩) hS ?_
  try simp only [Act.put, zA, zB, zC]
  refine anyW_take (i := 12) (oi := ⟨some 17, _, _, _, _, _⟩) rfl (by kernel_rfl) (fun _ _ _ h => h) (by kernel_rfl) (by kernel_rfl) (Or.inr ⟨by rfl, rfl⟩) hS ?_
  try simp only [Act.put, zA, zB, zC]
  refine anyW_take (i := 13) (oi := ⟨some 18, _, _, _, _, _⟩) rfl (by kernel_rfl) (fun _ _ _ h => h) (by kernel_rfl) (by kernel_rfl) (Or.inr ⟨by rfl, rfl⟩) hS ?_
  try simp only [Act.put, zA, zB, zC]
  refine anyW_take (i := 14) (oi := ⟨some 19, _, _, _, _, _⟩) rfl (by kernel_rfl) (fun _ _ _ h => h) (by kernel_rfl) (by kernel_rfl) (Or.inr ⟨by rfl, rfl⟩) hS ?_
  try simp only [Act.put, zA, zB, zC]
  refine anyW_take (i := 15) (oi := ⟨some 20, _, _, _, _, _⟩) rfl (by kernel_rfl) (fun _ _ _ h => h) (by kernel_rfl) (by kernel_rfl) (Or.inr ⟨by rfl, rfl⟩) hS ?_
  try simp only [Act.put, zA, zB, zC]
  refine anyW_take (i := 16) (oi := ⟨some 21, _, _, _, _, _⟩) rfl (by kernel_rfl) (fun _ _ _ h => h) (by kernel_rfl) (by kernel_rfl) (Or.inr ⟨by rfl, rfl⟩) hS ?_
  try simp only [Act.put, zA, zB, zC]
  refine anyW_take (i := 17) (oi := ⟨some 22, _, _, _, _, _⟩) rfl (by kernel_rfl) (fun _ _ _ h => h) (by kernel_rfl) (by kernel_rfl) (Or.inr ⟨by rfl, rfl⟩) hS ?_
  try simp only [Act.put, zA, zB, zC]
  refine anyW_take (i := 18) (oi := ⟨some 23, _, _, _, _, _⟩) rfl (by kernel_rfl) (fun _ _ _ h => h) (by kernel_rfl) (by kernel_rfl) (Or.inr ⟨by rfl, rfl⟩) hS ?_
  try simp only [Act.put, zA, zB, zC]
  refine anyW_take (i := 19) (oi := ⟨some 24, _, _, _, _, _⟩) rfl (by kernel_rfl) (fun _ _ _ h => h) (by kernel_rfl) (by kernel_rfl) (Or.inr ⟨by rfl, rfl⟩) hS ?_
  try simp only [Act.put, zA, zB, zC]
  refine anyW_take (i := 20) (oi := ⟨some 25, _, _, _, _, _⟩) rfl (by kernel_rfl) (fun _ _ _ h => h) (by kernel_rfl) (by kernel_rfl) (Or.inr ⟨by rfl, rfl⟩) hS ?_
  try simp only [Act.put, zA, zB, zC]
  refine anyW_take (i := 21) (oi := ⟨some 26, _, _, _, _, _⟩) rfl (by kernel_rfl) (fun _ _ _ h => h) (by kernel_rfl) (by kernel_rfl) (Or.inr ⟨by rfl, rfl⟩) hS ?_
  try simp only [Act.put, zA, zB, zC]
  refine anyW_take (i := 22) (oi := ⟨some 27, _, _, _, _, _⟩) (v := ?_) rfl (by kernel_rfl) (fun _ _ _ h => h) (by kernel_rfl) (by kernel_rfl) (Or.inl ⟨by rfl, ?_⟩) hS ?_
  rotate_left 1
  · intro w' hB; (go_simp <;> with_reducible rfl)
  try simp only [Act.put, zA, zB, zC]
  refine anyW_take (i := 23) (oi := ⟨some 4, _, _, _, _, _⟩) (v := ?_) rfl (by kernel_rfl) (fun _ _ _ h => h) (by kernel_rfl) (by kernel_rfl) (Or.inl ⟨by rfl, ?_⟩) hS ?_
  rotate_left 1
  · intro w' hB; skip; (go_simp <;> with_reducible rfl)
  try simp only [Act.put, zA, zB, zC]
  refine anyW_done (by kernel_rfl) (OnlyE.normal ?_) _
  clear hS
  gi_wp2
  go_ret
  exact .inl ⟨rfl, by rw [show pre ++ nodesLS .nil = pre from List.append_nil _]; exact ownFrom_to hJo HJ.out ((Below.refl _ W1).drew), KeepE.below ((Below.refl _ W1).drew) HSN.out⟩
 | node b l k v r ih1 ih2 =>
  intro pre W1 hSb hSN hJ hE hL
  have HE := Lib.hid hE
  have HJ := Lib.hid hJ
  have I1 := Lib.hid ih1
  have I2 := Lib.hid ih2
  have HB := Lib.hid hSb
  have HSN := Lib.hid hSN
  have hL' : pre ++ (nodesLS l ++ nodesLS r ++ [.node b l k v r]) <+: L := hL
  have L1 : Hid (pre ++ nodesLS l <+: L) := Lib.hid ((List.prefix_append (pre ++ nodesLS l) (nodesLS r ++ [.node b l k v r])).trans (by simpa using hL'))
  have L2 : Hid (pre ++ nodesLS l ++ nodesLS r <+: L) := Lib.hid ((List.prefix_append (pre ++ nodesLS l ++ nodesLS r) [.node b l k v r]).trans (by simpa using hL'))
  have L3 : Hid (pre ++ nodesLS l ++ nodesLS r ++ [.node b l k v r] <+: L) := Lib.hid (by simpa using hL')
  clear hE hJ ih1 ih2 hSb hSN hL hL'
  have hSd : EnvNS gb yb ll (.node b l k v r) W1.drew := HE.out.below ((Below.refl _ W1).drew)
  have D3 : Hid (Below W1.heap.size W1 W1.drew) := Lib.hid ((Below.refl _ W1).drew)
  have HJ2 : Hid (J pre W1.drew) := Lib.hid (ownFrom_to hJo HJ.out D3.out)
  have HS2 : Hid (∀ k, S k → k < W1.drew.heap.size) := Lib.hid (fun k hk => Nat.lt_of_lt_of_le (HSN.out k hk) D3.out.size)
  refine (callsIn_wide (n := 6)).1 ?_
  change CallsIn _ _ _ _ #[.pointer (some ⟨b, 0, none⟩), _, _] W1 _
  refine callsIn_of_wp Tryz.func186 rfl trivial ?_ rfl
  simp only [Tryz.ntmps186, List.size_toArray, List.length_cons, List.length_nil, Nat.reduceAdd, Nat.reduceSub, Array.replicate_succ, Array.replicate_zero, List.push_toArray, List.append_toArray, List.nil_append, List.cons_append]
  gi_wp2
  refine region_wide (S := (EnvNS gb yb ll (.node b l k v r))) (by kernel_rfl) (hSd) (fun hS => ?_)
  refine anyW_take (i := 0) (oi := ⟨some 5, _, _, _, _, _⟩) (v := ?_) rfl (by kernel_rfl) (fun _ _ _ h => h) (by kernel_rfl) (by kernel_rfl) (Or.inl ⟨by rfl, ?_⟩) hS ?_
  rotate_left 1
  · intro w' hB; (go_simp <;> with_reducible rfl)
  try simp only [Act.put, zA, zB, zC]
  refine anyW_take (i := 1) (oi := ⟨some 6, _, _, _, _, _⟩) (v := ?_) rfl (by kernel_rfl) (fun _ _ _ h => h) (by kernel_rfl) (by kernel_rfl) (Or.inl ⟨by rfl, ?_⟩) hS ?_
  rotate_left 1
  · intro w' hB; obtain ⟨e2, e3, e4⟩ := hB; have c2 := cell_of_one e2; have c3 := cell_of_one e3; obtain ⟨x0, x1, x2, x3⟩ := e4.cellsP (pa l) (pa r) rfl rfl; clear e2 e3 e4; (go_simp <;> with_reducible rfl)
  try simp only [Act.put, zA, zB, zC]
  refine anyW_take (i := 2) (oi := ⟨some 7, _, _, _, _, _⟩) (v := ?_) rfl (by kernel_rfl) (fun _ _ _ h => h) (by kernel_rfl) (by kernel_rfl) (Or.inl ⟨by rfl, ?_⟩) hS ?_
  rotate_left 1
  · intro w' hB; (go_simp <;> with_reducible rfl)
  try simp only [Act.put, zA, zB, zC]
  refine anyW_take (i := 3) (oi := ⟨some 8, _, _, _, _, _⟩) (v := ?_) rfl (by kernel_rfl) (fun _ _ _ h => h) (by kernel_rfl) (by kernel_rfl) (Or.inl ⟨by rfl, ?_⟩) hS ?_
  rotate_left 1
  · intro w' hB; obtain ⟨e2, e3, e4⟩ := hB; have c2 := cell_of_one e2; have c3 := cell_of_one e3; obtain ⟨x0, x1, x2, x3⟩ := e4.cellsP (pa l) (pa r) rfl rfl; clear e2 e3 e4; (go_simp <;> with_reducible rfl)
  try simp only [Act.put, zA, zB, zC]
  refine anyW_take (i := 4) (oi := ⟨some 9, _, _, _, _, _⟩) (v := ?_) rfl (by kernel_rfl) (fun _ _ _ h => h) (by kernel_rfl) (by kernel_rfl) (Or.inl ⟨by rfl, ?_⟩) hS ?_
  rotate_left 1
  · intro w' hB; (go_simp <;> with_reducible rfl)
  try simp only [Act.put, zA, zB, zC]
  refine anyW_take (i := 5) (oi := ⟨some 10, _, _, _, _, _⟩) (v := ?_) rfl (by kernel_rfl) (fun _ _ _ h => h) (by kernel_rfl) (by kernel_rfl) (Or.inl ⟨by rfl, ?_⟩) hS ?_
  rotate_left 1
  · intro w' hB; obtain ⟨e2, e3, e4⟩ := hB; have c2 := cell_of_one e2; have c3 := cell_of_one e3; obtain ⟨x0, x1, x2, x3⟩ := e4.cellsP (pa l) (pa r) rfl rfl; clear e2 e3 e4; (go_simp <;> with_reducible rfl)
  try simp only [Act.put, zA, zB, zC]
  refine anyW_take (i := 6) (oi := ⟨some 11, _, _, _, _, _⟩) (v := ?_) rfl (by kernel_rfl) (fun _ _ _ h => h) (by kernel_rfl) (by kernel_rfl) (Or.inl ⟨by rfl, ?_⟩) hS ?_
  rotate_left 1
  · intro w' hB; (go_simp <;> with_reducible rfl)
  try simp only [Act.put, zA, zB, zC]
  refine anyW_take (i := 7) (oi := ⟨some 12, _, _, _, _, _⟩) (v := ?_) rfl (by kernel_rfl) (fun _ _ _ h => h) (by kernel_rfl) (by kernel_rfl) (Or.inl ⟨by rfl, ?_⟩) hS ?_
  rotate_left 1
  · intro w' hB; obtain ⟨e2, e3, e4⟩ := hB; have c2 := cell_of_one e2; have c3 := cell_of_one e3; obtain ⟨x0, x1, x2, x3⟩ := e4.cellsP (pa l) (pa r) rfl rfl; clear e2 e3 e4; (go_simp <;> with_reducible rfl)
  try simp only [Act.put, zA, zB, zC]
  refine anyW_one (i := 8) (o := ⟨some 13, _, _, _, _, _⟩) (by kernel_rfl) rfl (by rfl) (fun K hK => ?_)
  refine op_wide ?_
  go_simp
  refine (I1.out pre _ (fun b' hb => HB.out b' (by simp [blocks, hb])) HS2.out HJ2.out ⟨hSd.g, hSd.y, hSd.a.2.1⟩ L1.out).mono ?_
  intro e w3 hh
  refine Or.elim hh (fun hq => ?alt1) (fun hq => ?alt2) <;> clear hh
  case' alt1 =>
   obtain ⟨rfl, hJ3, hK3⟩ := hq
   have hSn := hSd.keep hK3 h2 h3 HB.out h5
   have H3 : Hid (J (pre ++ nodesLS l) w3) := Lib.hid hJ3
   have K3 : Hid (KeepE M S Ex W1 w3) := Lib.hid ((KeepE.below D3.out HSN.out).trans hK3)
   clear hJ3 hK3
   refine hK.out _ _ hSn ?_
   clear hK K hS
   have hS := hSn
   clear hSn
   try simp only [Act.put, zA, zB, zC]
   refine anyW_take (i := 9) (oi := ⟨some 14, _, _, _, _, _⟩) (v := ?_) rfl (by kernel_rfl) (fun _ _ _ h => h) (by kernel_rfl) (by kernel_rfl) (Or.inl ⟨by rfl, ?_⟩) hS ?_
   rotate_left 1
   · intro w' hB; (go_simp <;> with_reducible rfl)
   try simp only [Act.put, zA, zB, zC]
   refine anyW_take (i := 10) (oi := ⟨some 15, _, _, _, _, _⟩) (v := ?_) rfl (by kernel_rfl) (fun _ _ _ h => h) (by kernel_rfl) (by kernel_rfl) (Or.inl ⟨by rfl, ?_⟩) hS ?_
   rotate_left 1
   · intro w' hB; obtain ⟨e2, e3, e4⟩ := hB; have c2 := cell_of_one e2; have c3 := cell_of_one e3; obtain ⟨x0, x1, x2, x3⟩ := e4.cellsP (pa l) (pa r) rfl rfl; clear e2 e3 e4; (go_simp <;> with_reducible rfl)
   try simp only [Act.put, zA, zB, zC]
   refine anyW_take (i := 11) (oi := ⟨some 16, _, _, _, _, _⟩) (v := ?_) rfl (by kernel_rfl) (fun _ _ _ h => h) (by kernel_rfl) (by kernel_rfl) (Or.inl ⟨by rfl, ?_⟩) hS ?_
   rotate_left 1
   · intro w' hB; (go_simp <;> with_reducible rfl)
   try simp only [Act.put, zA, zB, zC]
   refine anyW_take (i := 12) (oi := ⟨some 17, _, _, _, _, _⟩) (v := ?_) rfl (by kernel_rfl) (fun _ _ _ h => h) (by kernel_rfl) (by kernel_rfl) (Or.inl ⟨by rfl, ?_⟩) hS ?_
   rotate_left 1
   · intro w' hB; obtain ⟨e2, e3, e4⟩ := hB; have c2 := cell_of_one e2; have c3 := cell_of_one e3; obtain ⟨x0, x1, x2, x3⟩ := e4.cellsP (pa l) (pa r) rfl rfl; clear e2 e3 e4; (go_simp <;> with_reducible rfl)
   try simp only [Act.put, zA, zB, zC]
   refine anyW_take (i := 13) (oi := ⟨some 18, _, _, _, _, _⟩) (v := ?_) rfl (by kernel_rfl) (fun _ _ _ h => h) (by kernel_rfl) (by kernel_rfl) (Or.inl ⟨by rfl, ?_⟩) hS ?_
   rotate_left 1
   · intro w' hB; (go_simp <;> with_reducible rfl)
   try simp only [Act.put, zA, zB, zC]
   refine anyW_take (i := 14) (oi := ⟨some 19, _, _, _, _, _⟩) (v := ?_) rfl (by kernel_rfl) (fun _ _ _ h => h) (by kernel_rfl) (by kernel_rfl) (Or.inl ⟨by rfl, ?_⟩) hS ?_
   rotate_left 1
   · intro w' hB; obtain ⟨e2, e3, e4⟩ := hB; have c2 := cell_of_one e2; have c3 := cell_of_one e3; obtain ⟨x0, x1, x2, x3⟩ := e4.cellsP (pa l) (pa r) rfl rfl; clear e2 e3 e4; (go_simp <;> with_reducible rfl)
   try simp only [Act.put, zA, zB, zC]
   refine anyW_one (i := 15) (o := ⟨some 20, _, _, _, _, _⟩) (by kernel_rfl) rfl (by rfl) (fun K hK => ?_)
   refine op_wide ?_
   go_simp
   refine (I2.out _ _ (fun b' hb => HB.out b' (by simp [blocks, hb])) (fun k hk => Nat.lt_of_lt_of_le (HSN.out k hk) K3.out.size) H3.out ⟨hS.g, hS.y, hS.a.2.2⟩ L2.out).mono ?_
   intro e w4 hh
   refine Or.elim hh (fun hq => ?alt3) (fun hq => ?alt4) <;> clear hh
   case' alt3 =>
    obtain ⟨rfl, hJ4, hK4⟩ := hq
    have hSn := hS.keep hK4 h2 h3 HB.out h5
    have H4 : Hid (J (pre ++ nodesLS l ++ nodesLS r) w4) := Lib.hid hJ4
    have K4 : Hid (KeepE M S Ex W1 w4) := Lib.hid (K3.out.trans hK4)
    clear hJ4 hK4 H3 K3
    refine hK.out _ _ hSn ?_
    clear hK K hS
    have hS := hSn
    clear hSn
    try simp only [Act.put, zA, zB, zC]
    refine anyW_take (i := 16) (oi := ⟨some 21, _, _, _, _, _⟩) (v := ?_) rfl (by kernel_rfl) (fun _ _ _ h => h) (by kernel_rfl) (by kernel_rfl) (Or.inl ⟨by rfl, ?_⟩) hS ?_
    rotate_left 1
    · intro w' hB; (go_simp <;> with_reducible rfl)
    try simp only [Act.put, zA, zB, zC]
    refine anyW_take (i := 17) (oi := ⟨some 22, _, _, _, _, _⟩) (v := ?_) rfl (by kernel_rfl) (fun _ _ _ h => h) (by kernel_rfl) (by kernel_rfl) (Or.inl ⟨by rfl, ?_⟩) hS ?_
    rotate_left 1
    · intro w' hB; (go_simp <;> with_reducible rfl)
    try simp only [Act.put, zA, zB, zC]
    refine anyW_take (i := 18) (oi := ⟨some 23, _, _, _, _, _⟩) (v := ?_) rfl (by kernel_rfl) (fun _ _ _ h => h) (by kernel_rfl) (by kernel_rfl) (Or.inl ⟨by rfl, ?_⟩) hS ?_
    rotate_left 1
    · intro w' hB; obtain ⟨e2, e3, e4⟩ := hB; have c2 := cell_of_one e2; have c3 := cell_of_one e3; obtain ⟨x0, x1, x2, x3⟩ := e4.cellsP (pa l) (pa r) rfl rfl; clear e2 e3 e4; (go_simp <;> with_reducible rfl)
    try simp only [Act.put, zA, zB, zC]
    refine anyW_take (i := 19) (oi := ⟨some 24, _, _, _, _, _⟩) (v := ?_) rfl (by kernel_rfl) (fun _ _ _ h => h) (by kernel_rfl) (by kernel_rfl) (Or.inl ⟨by rfl, ?_⟩) hS ?_
    rotate_left 1
    · intro w' hB; (go_simp <;> with_reducible rfl)
    try simp only [Act.put, zA, zB, zC]
    refine anyW_one (i := 20) (o := ⟨some 25, _, _, _, _, _⟩) (by kernel_rfl) rfl (by rfl) (fun K hK => ?_)
    obtain ⟨fn, tmps, assign, body', hyy, hRR⟩ := yieldW (m' := 5) (HY.out _ (.node b l k v r) _ H4.out L3.out)
    simp only [encNS, pa] at hyy
    refine yield_wide (l := ll) (vals := #[.pointer (some ⟨b, 0, none⟩)]) rfl rfl (by simp only [List.map_toArray, List.map_cons, List.map_nil]; rfl) hyy ?_
    refine ((roundW hRR)).mono ?_
    intro e w5 hh
    refine Or.elim hh (fun hq => ?alt5) (fun hq => ?alt6) <;> clear hh
    case' alt5 =>
     obtain ⟨rfl, hJ5, hK5⟩ := hq
     have hSn := hS.keep hK5 h2 h3 HB.out h5
     have H5 : Hid (J (pre ++ nodesLS l ++ nodesLS r ++ [.node b l k v r]) w5 ∧ KeepE M S Ex W1 w5) := Lib.hid ⟨hJ5, K4.out.trans hK5⟩
     clear hJ5 hK5 hyy hRR
     refine hK.out _ _ hSn ?_
     clear hK K hS
     have hS := hSn
     clear hSn
     try simp only [Act.put, zA, zB, zC]
     refine anyW_take (i := 21) (oi := ⟨some 26, _, _, _, _, _⟩) (v := ?_) rfl (by kernel_rfl) (fun _ _ _ h => h) (by kernel_rfl) (by kernel_rfl) (Or.inl ⟨by rfl, ?_⟩) hS ?_
     rotate_left 1
     · intro w' hB; (go_simp <;> with_reducible rfl)
     try simp only [Act.put, zA, zB, zC]
     refine anyW_take (i := 22) (oi := ⟨some 27, _, _, _, _, _⟩) (v := ?_) rfl (by kernel_rfl) (fun _ _ _ h => h) (by kernel_rfl) (by kernel_rfl) (Or.inl ⟨by rfl, ?_⟩) hS ?_
     rotate_left 1
     · intro w' hB; (go_simp <;> with_reducible rfl)
     try simp only [Act.put, zA, zB, zC]
     refine anyW_take (i := 23) (oi := ⟨some 4, _, _, _, _, _⟩) (v := ?_) rfl (by kernel_rfl) (fun _ _ _ h => h) (by kernel_rfl) (by kernel_rfl) (Or.inl ⟨by rfl, ?_⟩) hS ?_
     rotate_left 1
     · intro w' hB; obtain ⟨e2, e3, e4⟩ := hB; have c2 := cell_of_one e2; have c3 := cell_of_one e3; obtain ⟨x0, x1, x2, x3⟩ := e4.cellsP (pa l) (pa r) rfl rfl; clear e2 e3 e4; (go_simp <;> with_reducible rfl)
     try simp only [Act.put, zA, zB, zC]
     refine anyW_done (by kernel_rfl) (OnlyE.normal ?_) _
    case' alt6 =>
     obtain ⟨rfl, hJ5, hK5⟩ := hq
     have hSn := hS.keep hK5 h2 h3 HB.out h5
     have H5 : Hid ((∃ pre', pre' <+: L ∧ Jx pre' w5) ∧ KeepE M S Ex W1 w5) := Lib.hid ⟨⟨_, L3.out, hJ5⟩, K4.out.trans hK5⟩
     clear hJ5 hK5 hyy hRR
     refine hK.out _ _ hSn ?_
     clear hK K hS
     have hS := hSn
     clear hSn
     try simp only [Act.put, zA, zB, zC]
     refine anyW_take (i := 21) (oi := ⟨some 26, _, _, _, _, _⟩) (v := ?_) rfl (by kernel_rfl) (fun _ _ _ h => h) (by kernel_rfl) (by kernel_rfl) (Or.inl ⟨by rfl, ?_⟩) hS ?_
     rotate_left 1
     · intro w' hB; (go_simp <;> with_reducible rfl)
     try simp only [Act.put, zA, zB, zC]
     refine anyW_take (i := 22) (oi := ⟨some 27, _, _, _, _, _⟩) (v := ?_) rfl (by kernel_rfl) (fun _ _ _ h => h) (by kernel_rfl) (by kernel_rfl) (Or.inl ⟨by rfl, ?_⟩) hS ?_
     rotate_left 1
     · intro w' hB; (go_simp <;> with_reducible rfl)
     try simp only [Act.put, zA, zB, zC]
     refine anyW_take (i := 23) (oi := ⟨some 4, _, _, _, _, _⟩) (v := ?_) rfl (by kernel_rfl) (fun _ _ _ h => h) (by kernel_rfl) (by kernel_rfl) (Or.inl ⟨by rfl, ?_⟩) hS ?_
     rotate_left 1
     · intro w' hB; obtain ⟨e2, e3, e4⟩ := hB; have c2 := cell_of_one e2; have c3 := cell_of_one e3; obtain ⟨x0, x1, x2, x3⟩ := e4.cellsP (pa l) (pa r) rfl rfl; clear e2 e3 e4; (go_simp <;> with_reducible rfl)
     try simp only [Act.put, zA, zB, zC]
     refine anyW_done (by kernel_rfl) (OnlyE.normal ?_) _
   case' alt4 =>
    obtain ⟨rfl, hJ4, hK4⟩ := hq
    have hSn := hS.keep hK4 h2 h3 HB.out h5
    have H5 : Hid ((∃ pre', pre' <+: L ∧ Jx pre' w4) ∧ KeepE M S Ex W1 w4) := Lib.hid ⟨hJ4, K3.out.trans hK4⟩
    clear hJ4 hK4 K3 H3
    refine hK.out _ _ hSn ?_
    clear hK K hS
    have hS := hSn
    clear hSn
    try simp only [Act.put, zA, zB, zC]
    refine anyW_take (i := 16) (oi := ⟨some 21, _, _, _, _, _⟩) (v := ?_) rfl (by kernel_rfl) (fun _ _ _ h => h) (by kernel_rfl) (by kernel_rfl) (Or.inl ⟨by rfl, ?_⟩) hS ?_
    rotate_left 1
    · intro w' hB; (go_simp <;> with_reducible rfl)
    try simp only [Act.put, zA, zB, zC]
    refine anyW_take (i := 17) (oi := ⟨some 22, _, _, _, _, _⟩) (v := ?_) rfl (by kernel_rfl) (fun _ _ _ h => h) (by kernel_rfl) (by kernel_rfl) (Or.inl ⟨by rfl, ?_⟩) hS ?_
    rotate_left 1
    · intro w' hB; (go_simp <;> with_reducible rfl)
    try simp only [Act.put, zA, zB, zC]
    refine anyW_take (i := 18) (oi := ⟨some 23, _, _, _, _, _⟩) rfl (by kernel_rfl) (fun _ _ _ h => h) (by kernel_rfl) (by kernel_rfl) (Or.inr ⟨by rfl, rfl⟩) hS ?_
    try simp only [Act.put, zA, zB, zC]
    refine anyW_take (i := 19) (oi := ⟨some 24, _, _, _, _, _⟩) rfl (by kernel_rfl) (fun _ _ _ h => h) (by kernel_rfl) (by kernel_rfl) (Or.inr ⟨by rfl, rfl⟩) hS ?_
    try simp only [Act.put, zA, zB, zC]
    refine anyW_take (i := 20) (oi := ⟨some 25, _, _, _, _, _⟩) rfl (by kernel_rfl) (fun _ _ _ h => h) (by kernel_rfl) (by kernel_rfl) (Or.inr ⟨by rfl, rfl⟩) hS ?_
    try simp only [Act.put, zA, zB, zC]
    refine anyW_take (i := 21) (oi := ⟨some 26, _, _, _, _, _⟩) (v := ?_) rfl (by kernel_rfl) (fun _ _ _ h => h) (by kernel_rfl) (by kernel_rfl) (Or.inl ⟨by rfl, ?_⟩) hS ?_
    rotate_left 1
    · intro w' hB; (go_simp <;> with_reducible rfl)
    try simp only [Act.put, zA, zB, zC]
    refine anyW_take (i := 22) (oi := ⟨some 27, _, _, _, _, _⟩) (v := ?_) rfl (by kernel_rfl) (fun _ _ _ h => h) (by kernel_rfl) (by kernel_rfl) (Or.inl ⟨by rfl, ?_⟩) hS ?_
    rotate_left 1
    · intro w' hB; (go_simp <;> with_reducible rfl)
    try simp only [Act.put, zA, zB, zC]
    refine anyW_take (i := 23) (oi := ⟨some 4, _, _, _, _, _⟩) (v := ?_) rfl (by kernel_rfl) (fun _ _ _ h => h) (by kernel_rfl) (by kernel_rfl) (Or.inl ⟨by rfl, ?_⟩) hS ?_
    rotate_left 1
    · intro w' hB; obtain ⟨e2, e3, e4⟩ := hB; have c2 := cell_of_one e2; have c3 := cell_of_one e3; obtain ⟨x0, x1, x2, x3⟩ := e4.cellsP (pa l) (pa r) rfl rfl; clear e2 e3 e4; (go_simp <;> with_reducible rfl)
    try simp only [Act.put, zA, zB, zC]
    refine anyW_done (by kernel_rfl) (OnlyE.normal ?_) _
  case' alt2 =>
   obtain ⟨rfl, hJ3, hK3⟩ := hq
   have hSn := hSd.keep hK3 h2 h3 HB.out h5
   have H5 : Hid ((∃ pre', pre' <+: L ∧ Jx pre' w3) ∧ KeepE M S Ex W1 w3) := Lib.hid ⟨hJ3, (KeepE.below D3.out HSN.out).trans hK3⟩
   clear hJ3 hK3
   refine hK.out _ _ hSn ?_
   clear hK K hS
   have hS := hSn
   clear hSn
   try simp only [Act.put, zA, zB, zC]
   refine anyW_take (i := 9) (oi := ⟨some 14, _, _, _, _, _⟩) (v := ?_) rfl (by kernel_rfl) (fun _ _ _ h => h) (by kernel_rfl) (by kernel_rfl) (Or.inl ⟨by rfl, ?_⟩) hS ?_
   rotate_left 1
   · intro w' hB; (go_simp <;> with_reducible rfl)
   try simp only [Act.put, zA, zB, zC]
   refine anyW_take (i := 10) (oi := ⟨some 15, _, _, _, _, _⟩) rfl (by kernel_rfl) (fun _ _ _ h => h) (by kernel_rfl) (by kernel_rfl) (Or.inr ⟨by rfl, rfl⟩) hS ?_
   try simp only [Act.put, zA, zB, zC]
   refine anyW_take (i := 11) (oi := ⟨some 16, _, _, _, _, _⟩) rfl (by kernel_rfl) (fun _ _ _ h => h) (by kernel_rfl) (by kernel_rfl) (Or.inr ⟨by rfl, rfl⟩) hS ?_
   try simp only [Act.put, zA, zB, zC]
   refine anyW_take (i := 12) (oi := ⟨some 17, _, _, _, _, _⟩) rfl (by kernel_rfl) (fun _ _ _ h => h) (by kernel_rfl) (by kernel_rfl) (Or.inr ⟨by rfl, rfl⟩) hS ?_
   try simp only [Act.put, zA, zB, zC]
   refine anyW_take (i := 13) (oi := ⟨some 18, _, _, _, _, _⟩) rfl (by kernel_rfl) (fun _ _ _ h => h) (by kernel_rfl) (by kernel_rfl) (Or.inr ⟨by rfl, rfl⟩) hS ?_
   try simp only [Act.put, zA, zB, zC]
   refine anyW_take (i := 14) (oi := ⟨some 19, _, _, _, _, _⟩) rfl (by kernel_rfl) (fun _ _ _ h => h) (by kernel_rfl) (by kernel_rfl) (Or.inr ⟨by rfl, rfl⟩) hS ?_
   try simp only [Act.put, zA, zB, zC]
   refine anyW_take (i := 15) (oi := ⟨some 20, _, _, _, _, _⟩) rfl (by kernel_rfl) (fun _ _ _ h => h) (by kernel_rfl) (by kernel_rfl) (Or.inr ⟨by rfl, rfl⟩) hS ?_
   try simp only [Act.put, zA, zB, zC]
   refine anyW_take (i := 16) (oi := ⟨some 21, _, _, _, _, _⟩) (v := ?_) rfl (by kernel_rfl) (fun _ _ _ h => h) (by kernel_rfl) (by kernel_rfl) (Or.inl ⟨by rfl, ?_⟩) hS ?_
   rotate_left 1
   · intro w' hB; (go_simp <;> with_reducible rfl)
   try simp only [Act.put, zA, zB, zC]
   refine anyW_take (i := 17) (oi := ⟨some 22, _, _, _, _, _⟩) (v := ?_) rfl (by kernel_rfl) (fun _ _ _ h => h) (by kernel_rfl) (by kernel_rfl) (Or.inl ⟨by rfl, ?_⟩) hS ?_
   rotate_left 1
   · intro w' hB; (go_simp <;> with_reducible rfl)
   try simp only [Act.put, zA, zB, zC]
   refine anyW_take (i := 18) (oi := ⟨some 23, _, _, _, _, _⟩) rfl (by kernel_rfl) (fun _ _ _ h => h) (by kernel_rfl) (by kernel_rfl) (Or.inr ⟨by rfl, rfl⟩) hS ?_
   try simp only [Act.put, zA, zB, zC]
   refine anyW_take (i := 19) (oi := ⟨some 24, _, _, _, _, _⟩) rfl (by kernel_rfl) (fun _ _ _ h => h) (by kernel_rfl) (by kernel_rfl) (Or.inr ⟨by rfl, rfl⟩) hS ?_
   try simp only [Act.put, zA, zB, zC]
   refine anyW_take (i := 20) (oi := ⟨some 25, _, _, _, _, _⟩) rfl (by kernel_rfl) (fun _ _ _ h => h) (by kernel_rfl) (by kernel_rfl) (Or.inr ⟨by rfl, rfl⟩) hS ?_
   try simp only [Act.put, zA, zB, zC]
   refine anyW_take (i := 21) (oi := ⟨some 26, _, _, _, _, _⟩) (v := ?_) rfl (by kernel_rfl) (fun _ _ _ h => h) (by kernel_rfl) (by kernel_rfl) (Or.inl ⟨by rfl, ?_⟩) hS ?_
   rotate_left 1
   · intro w' hB; (go_simp <;> with_reducible rfl)
   try simp only [Act.put, zA, zB, zC]
   refine anyW_take (i := 22) (oi := ⟨some 27, _, _, _, _, _⟩) (v := ?_) rfl (by kernel_rfl) (fun _ _ _ h => h) (by kernel_rfl) (by kernel_rfl) (Or.inl ⟨by rfl, ?_⟩) hS ?_
   rotate_left 1
   · intro w' hB; (go_simp <;> with_reducible rfl)
   try simp only [Act.put, zA, zB, zC]
   refine anyW_take (i := 23) (oi := ⟨some 4, _, _, _, _, _⟩) (v := ?_) rfl (by kernel_rfl) (fun _ _ _ h => h) (by kernel_rfl) (by kernel_rfl) (Or.inl ⟨by rfl, ?_⟩) hS ?_
   rotate_left 1
   · intro w' hB; obtain ⟨e2, e3, e4⟩ := hB; have c2 := cell_of_one e2; have c3 := cell_of_one e3; obtain ⟨x0, x1, x2, x3⟩ := e4.cellsP (pa l) (pa r) rfl rfl; clear e2 e3 e4; (go_simp <;> with_reducible rfl)
   try simp only [Act.put, zA, zB, zC]
   refine anyW_done (by kernel_rfl) (OnlyE.normal ?_) _
  all_goals
   clear hS
   gi_wp2
   go_ret
   first | exact .inl ⟨rfl, by simpa [nodesLS] using H5.out.1, H5.out.2⟩ | exact .inr ⟨rfl, H5.out⟩
set_option maxRecDepth 100000 in
set_option maxHeartbeats 2000000 in
theorem pm_nodes_iterS (n : Nat) (t : Tr ByteArray) (mb : Nat) (w : World) (S : Nat → Prop) (Ex : TypeId → Prop)
 (hm : Boxed w mb 27 (.pointer (pa t))) (ha : AtS w t) (hSt : ∀ b ∈ blocks t, S b) (hSN : ∀ k, S k → k < w.heap.size) (h5 : ¬ Ex 195) :
 Iter2 n Tryz.prog 185 #[.pointer (some ⟨mb, 0, none⟩)] encNS (KeepE (w.heap.size + 2) S Ex)
  (fun pre x _ => pre ++ [x] <+: nodesLS t) (fun _ xs W2 W' => xs = nodesLS t ∧ W2 = W') (fun pre => pre <+: nodesLS t) w := by
 intro ll J Jx W hW hW2 hJo hJxo hY h0
 have hmW : Boxed W mb 27 (.pointer (pa t)) := boxStays hm hW
 obtain ⟨s, hs⟩ : ∃ s, s = W.heap.size := ⟨_, rfl⟩
 obtain ⟨gv, hgv⟩ : ∃ gv : Value, gv = .func (.func 186) #[] #[.pointer (some ⟨s + 1, 0, none⟩), .pointer (some ⟨s, 0, none⟩)] := ⟨_, rfl⟩
 obtain ⟨Wb, hWb⟩ : ∃ Wb, (W.alloc (.cells #[.func (.yield ll) #[] #[]] 195)).alloc (.cells #[gv] 195) = Wb := ⟨_, rfl⟩
 have g1 : Boxed Wb s 195 (.func (.yield ll) #[] #[]) := by rw [← hWb, hs]; exact (Boxed.new W _ _).alloc _
 have g2 : Boxed Wb (s + 1) 195 gv := by
  have h1 := Boxed.new (W.alloc (.cells #[.func (.yield ll) #[] #[]] 195)) 195 gv
  rw [World.size_alloc, ← hs] at h1
  rw [← hWb]; exact h1
 have hbw : Below W.heap.size W Wb := by rw [← hWb]; exact ((Below.refl _ W).alloc (Nat.le_refl _) _).alloc (by simp) _
 have hsw : w.heap.size + 2 ≤ s := by rw [hs]; exact hW2
 have g4 : Boxed Wb mb 27 (.pointer (pa t)) := boxStays hmW hbw
 have g5 : AtS Wb t := (ha.below hW rfl).below hbw rfl
 have hJb : J [] Wb := ownFrom_to hJo h0 hbw
 have GO := Lib.hid (go1_nodesS (s + 1) s ll (w.heap.size + 2) S Ex (nodesLS t) J Jx _ hJo (by omega) (by omega) h5 (fun pre x W1 hj hx => yieldW (hY pre x W1 hj hx)) t [] Wb hSt
  (fun k hk => Nat.lt_of_lt_of_le (hSN k hk) (Nat.le_trans hW.size hbw.size)) hJb ⟨by rw [← hgv]; exact g2, g1, g5⟩ (by simp))
 have k4 := cell_of_one g4
 rw [hgv] at hWb
 subst hs
 rw [← hWb] at k4
 have HW := Lib.hid hWb
 clear hY hJb g1 g2 g4 g5 hbw h0 hWb hmW hJo hJxo ha hm hSN hgv
 refine callsIn_of_wp Tryz.func185 rfl trivial ?_ rfl
 simp only [Tryz.ntmps185, List.size_toArray, List.length_cons, List.length_nil, Nat.reduceAdd, Nat.reduceSub, Array.replicate_succ, Array.replicate_zero, List.push_toArray, List.append_toArray, List.nil_append, List.cons_append]
 gi_wp2
 rw [HW.out]
 refine ⟨trivial, fun hh => (by cases (show false = true from hh)), ?_⟩
 refine (callsIn_wide.2 GO.out).mono ?_
 rintro e W' (⟨rfl, hJ', _⟩ | ⟨rfl, ⟨pre', hp, hJx'⟩, _⟩)
 · gi_wp2
   go_end0
   exact ⟨⟨_, rfl⟩, .inl ⟨nodesLS t, _, by simpa using hJ', rfl, rfl⟩⟩
 · gi_wp2
   go_end0
   exact ⟨⟨_, rfl⟩, .inr ⟨pre', hp, hJx'⟩⟩
theorem pm_MNodesS (t : Tr ByteArray) (w : World) : Calls Tryz.prog 151 #[.agg #[.pointer (pa t)]] w fun e w' =>
 ∃ mb, e = .returned (.func (.func 185) #[] #[.pointer (some ⟨mb, 0, none⟩)]) ∧ w.heap.size ≤ mb ∧ Boxed w' mb 27 (.pointer (pa t)) ∧ Below w.heap.size w w' := by
 go_enter Tryz.func151, Tryz.ntmps151
 go_wp2_with fail
 go_ret
 exact ⟨w.heap.size, rfl, Nat.le_refl _, Boxed.new w _ _, below_new _ _⟩
end Go.Proofs.YtjlliohjeiclaaaGreatDoor
namespace Go.Proofs.YtjlliohjeiclaaaGreatDoor
open Go.RowKit Pm
def Pm.joinOKS (l : Tr ByteArray) (k : ByteArray) (r : Tr ByteArray) : Prop := (isNS (endR l) = true → klt (keyOr (endR l)) k = true) ∧ (isNS (endL r) = true → klt k (keyOr (endL r)) = true)
def JoinOutS (N : Nat) (l : Tr ByteArray) (k : ByteArray) (v : ByteArray) (r : Tr ByteArray) (w : World) (e : Ending) (w' : World) : Prop :=
 ∃ (t' : Tr ByteArray) (n : Nat), ((joinOKS l k r ∧ JoinR N k v l r t' ∧ n = 0) ∨ (¬ joinOKS l k r ∧ t' = .nil ∧ n = 2)) ∧ e = .returned (.tuple #[.agg #[.pointer (pa t')], .int .i64 (n : Int)]) ∧ AtS w' t' ∧ Below w.heap.size w w'
set_option maxRecDepth 100000 in
set_option maxHeartbeats 4000000 in
theorem pm_JoinS (l r : Tr ByteArray) (k : ByteArray) (v : ByteArray) (N : Nat) (w : World) (hN : N ≤ w.heap.size) (hl : AtS w l) (hr : AtS w r) (hs : sz l + sz r + 2 ≤ 1099511627776) :
    Calls Tryz.prog 150 #[.agg #[.pointer (pa l)], .string k, .string v, .agg #[.pointer (pa r)]] w (JoinOutS N l k v r w) := by
  obtain ⟨w1, hw1⟩ : ∃ w1, ((w.alloc (.cells #[.pointer (pa l)] 27)).alloc (.cells #[.pointer (pa r)] 27)).alloc (.cells #[.pointer none] 27) = w1 := ⟨_, rfl⟩
  have hb : Below w.heap.size w w1 := by rw [← hw1]; exact (((Below.refl _ w).alloc (Nat.le_refl _) _).alloc (by simp) _).alloc (by simp; omega) _
  have x0 : w1.heap[w.heap.size]? = some (.cells #[.pointer (pa l)] 27 (0, 0)) := by rw [← hw1]; exact boxStays (boxStays (heap_alloc_new w _) (below_new _ _)) (below_new _ _)
  have x1 : w1.heap[w.heap.size + 1]? = some (.cells #[.pointer (pa r)] 27 (0, 0)) := by
    rw [← hw1]
    have := heap_alloc_new (w.alloc (.cells #[.pointer (pa l)] 27)) (.cells #[.pointer (pa r)] 27)
    exact boxStays (by simpa using this) (below_new _ _)
  have x2 : w1.heap[w.heap.size + 1 + 1]? = some (.cells #[.pointer none] 27 (0, 0)) := by
    rw [← hw1]
    have := heap_alloc_new ((w.alloc (.cells #[.pointer (pa l)] 27)).alloc (.cells #[.pointer (pa r)] 27)) (.cells #[.pointer none] 27)
    simpa using this
  have X0 := Lib.hid x0
  have X1 := Lib.hid x1
  have X2 := Lib.hid x2
  have HL := Lib.hid (hl.below hb rfl)
  have HR := Lib.hid (hr.below hb rfl)
  have HB := Lib.hid hb
  have HW := Lib.hid hw1
  have HZ := Lib.hid hs
  clear hl hr hb hw1 x0 x1 x2 hs
  go_enter Tryz.func150, Tryz.ntmps150
  go_wp2_with fail
  rw [HW.out]
  refine (pm_MLastS l w1 HL.out).mono ?_
  rintro e w2 ⟨rfl, hb⟩
  have HC : Hid (Chain [w2, w1] w2) := Lib.hid ((Chain.one w1).push hb)
  have k1 := cell_of_one (boxStays X1.out hb)
  clear hb
  go_wp2_with fail
  refine (pm_MFirstS r w2 (HR.out.below (HC.out.to w1 (by simp)) rfl)).mono ?_
  rintro e w3 ⟨rfl, hb⟩
  replace HC := Lib.hid (HC.out.push hb)
  clear hb k1
  have D3 : Hid (Below w.heap.size w w3) := Lib.hid (HB.out.trans ((HC.out.to w1 (by simp)).mono HB.out.size))
  have Y0 := Lib.hid (boxStays X0.out (HC.out.to w1 (by simp)))
  have Y1 := Lib.hid (boxStays X1.out (HC.out.to w1 (by simp)))
  have Y2 := Lib.hid (boxStays X2.out (HC.out.to w1 (by simp)))
  have AL := Lib.hid (HL.out.below (HC.out.to w1 (by simp)) rfl)
  have AR := Lib.hid (HR.out.below (HC.out.to w1 (by simp)) rfl)
  clear X0 X1 X2 HL HR HC HW HB
  obtain ⟨q1, hq1⟩ : ∃ q, isNS (endR l) = q := ⟨_, rfl⟩
  obtain ⟨q2, hq2⟩ : ∃ q, isNS (endL r) = q := ⟨_, rfl⟩
  obtain ⟨a, ha⟩ : ∃ q, keyOr (endR l) = q := ⟨_, rfl⟩
  obtain ⟨b, hb⟩ : ∃ q, keyOr (endL r) = q := ⟨_, rfl⟩
  have HOK : Hid (joinOKS l k r ↔ (q1 = true → klt a k = true) ∧ (q2 = true → klt k b = true)) := Lib.hid (by unfold joinOKS; rw [hq1, hq2, ha, hb])
  rw [hq1, hq2, ha, hb]
  clear hq1 hq2 ha hb
  have f0 := frozen_of_row _ (w.heap.size + 1 + 1) 0 _ _ Y2.out
  have k0 := cell_of_one Y0.out
  have k1 := cell_of_one Y1.out
  have k2 := cell_of_one Y2.out
  have hcase : (q1 = true ∧ klt a k = false) ∨ ((q1 = false ∨ (q1 = true ∧ klt a k = true)) ∧ (q2 = false ∨ (q2 = true ∧ klt k b = true) ∨ (q2 = true ∧ klt k b = false ∧ klt b k = true) ∨ (q2 = true ∧ b = k))) := by
    cases q1 <;> cases q2 <;> cases h1 : klt a k <;> cases h2 : klt k b <;> cases h3 : klt b k <;> simp_all
    all_goals exact (klt_tri h2 h3).symm
  rcases hcase with ⟨rfl, h1⟩ | ⟨hl, hr⟩
  · have e1 : Op.bytesLess a.toList k.toList = false := h1
    go_wp2_with fail
    have k3 := cell_of_one (heap_setCell_same w3 (w.heap.size + 1 + 1) 0 _ _ (.pointer none) Y2.out)
    refine bodyPost_ret (v := .tuple #[.agg #[.pointer none], .int .i64 2]) (by simp [results, Tryz.results150, go_sem, k3]) rfl ?_
    exact ⟨.nil, 2, .inr ⟨by rw [HOK.out, h1]; simp, rfl, rfl⟩, rfl, trivial, D3.out.setCell (p := ⟨w.heap.size + 1 + 1, 0, none⟩) (by simp; omega) _⟩
  · have bad : ∀ (hn : ¬ joinOKS l k r), JoinOutS N l k v r w (.returned (.tuple #[.agg #[.pointer none], .int .i64 2])) (w3.setCell ⟨w.heap.size + 1 + 1, 0, none⟩ (.pointer none)) := fun hn =>
      ⟨.nil, 2, .inr ⟨hn, rfl, rfl⟩, rfl, trivial, D3.out.setCell (p := ⟨w.heap.size + 1 + 1, 0, none⟩) (by simp; omega) _⟩
    have BAD := Lib.hid bad
    clear bad
    rcases hl with rfl | ⟨rfl, h1⟩ <;> rcases hr with rfl | ⟨rfl, h2⟩ | ⟨rfl, h2, h3⟩ | ⟨rfl, rfl⟩
    all_goals (try (have e1 : Op.bytesLess a.toList k.toList = true := h1))
    all_goals (try (have e2 : Op.bytesLess b.toList k.toList = false := klt_asymm h2; have e3 : (b.toList == k.toList) = false := (by rw [eq_iff]; simp; exact Ne.symm (klt_ne h2))))
    all_goals (try (have e2 : Op.bytesLess b.toList k.toList = true := h3))
    all_goals (try (have e2 : Op.bytesLess b.toList b.toList = false := klt_irrefl b))
    all_goals (go_wp2_with fail)
    all_goals first
      | (have hnok : ¬ joinOKS l k r := (by rw [HOK.out]; simp [h2])
         have k3 := cell_of_one (heap_setCell_same w3 (w.heap.size + 1 + 1) 0 _ _ (.pointer none) Y2.out)
         refine bodyPost_ret (v := .tuple #[.agg #[.pointer none], .int .i64 2]) (by simp [results, Tryz.results150, go_sem, k3]) rfl ?_
         exact BAD.out hnok)
      | (have hnok : ¬ joinOKS l b r := (by rw [HOK.out]; simp [klt_irrefl])
         have k3 := cell_of_one (heap_setCell_same w3 (w.heap.size + 1 + 1) 0 _ _ (.pointer none) Y2.out)
         refine bodyPost_ret (v := .tuple #[.agg #[.pointer none], .int .i64 2]) (by simp [results, Tryz.results150, go_sem, k3]) rfl ?_
         exact BAD.out hnok)
      | (refine (pm_joinS k v _ l r N w3 (Nat.le_refl _) (Nat.le_trans hN D3.out.size) AL.out AR.out HZ.out).mono ?_
         rintro e w4 ⟨t', hP, rfl, hA, hb⟩
         have P1 := Lib.hid hP
         have A1 := Lib.hid hA
         have D4 : Hid (Below w.heap.size w w4) := Lib.hid (D3.out.trans (hb.mono D3.out.size))
         have Y4 := Lib.hid (boxStays Y2.out hb)
         clear hP hA hb f0 k0 k1 k2
         have f0 := frozen_of_row _ (w.heap.size + 1 + 1) 0 _ _ Y4.out
         have k2 := cell_of_one Y4.out
         go_wp2_with fail
         have k3 := cell_of_one (heap_setCell_same w4 (w.heap.size + 1 + 1) 0 _ _ (.pointer (pa t')) Y4.out)
         clear f0 k2
         refine bodyPost_ret (v := .tuple #[.agg #[.pointer (pa t')], .int .i64 0]) (by simp [results, Tryz.results150, go_sem, k3]) rfl ?_
         exact ⟨t', 0, .inl ⟨by rw [HOK.out]; simp [*], P1.out, rfl⟩, rfl, A1.out.setBox Y4.out (by decide) 0 _, D4.out.setCell (p := ⟨w.heap.size + 1 + 1, 0, none⟩) (by simp; omega) _⟩)
def SplitOutS (N : Nat) (t : Tr ByteArray) (k : ByteArray) (w : World) (e : Ending) (w' : World) : Prop :=
 ∃ a x c, SplitR N k t a x c ∧ e = .returned (.tuple #[.agg #[.pointer (pa a)], .string (valOr x), .bool (isNS x), .agg #[.pointer (pa c)]]) ∧ AtS w' a ∧ AtS w' c ∧ Below w.heap.size w w'
set_option maxRecDepth 100000 in
set_option maxHeartbeats 4000000 in
theorem pm_MSplitS (t : Tr ByteArray) (k : ByteArray) (N : Nat) (w : World) (hN : N ≤ w.heap.size) (h : AtS w t) (hs : sz t + 2 ≤ 1099511627776) :
 Calls Tryz.prog 148 #[.agg #[.pointer (pa t)], .string k] w (SplitOutS N t k w) := by
 obtain ⟨w1, hw1⟩ : ∃ w1, ((w.alloc (.cells #[.pointer (pa t)] 27)).alloc (.cells #[.pointer none] 27)).alloc (.cells #[.pointer none] 27) = w1 := ⟨_, rfl⟩
 have hb : Below w.heap.size w w1 := by rw [← hw1]; exact (((Below.refl _ w).alloc (Nat.le_refl _) _).alloc (by simp) _).alloc (by simp; omega) _
 have x1 : w1.heap[w.heap.size + 1]? = some (.cells #[.pointer none] 27 (0, 0)) := by
  rw [← hw1]
  have := heap_alloc_new (w.alloc (.cells #[.pointer (pa t)] 27)) (.cells #[.pointer none] 27)
  exact boxStays (by simpa using this) (below_new _ _)
 have x2 : w1.heap[w.heap.size + 1 + 1]? = some (.cells #[.pointer none] 27 (0, 0)) := by
  rw [← hw1]
  have := heap_alloc_new ((w.alloc (.cells #[.pointer (pa t)] 27)).alloc (.cells #[.pointer none] 27)) (.cells #[.pointer none] 27)
  simpa using this
 have X1 := Lib.hid x1
 have X2 := Lib.hid x2
 have H := Lib.hid (h.below hb rfl)
 have HB := Lib.hid hb
 have HW := Lib.hid hw1
 clear h hb hw1 x1 x2
 go_enter Tryz.func148, Tryz.ntmps148
 go_wp2_with fail
 rw [HW.out]
 refine (pm_splitS k t N w1 (Nat.le_trans hN HB.out.size) H.out hs).mono ?_
 rintro e w2 ⟨a, x, c, hP, rfl, hA1, hA2, hA3, hb⟩
 have P1 := Lib.hid hP
 have A1 := Lib.hid hA1
 have A2 := Lib.hid hA2
 have A3 := Lib.hid hA3
 have D2 : Hid (Below w.heap.size w w2) := Lib.hid (HB.out.trans (hb.mono HB.out.size))
 have Y1 := Lib.hid (boxStays X1.out hb)
 have Y2 := Lib.hid (boxStays X2.out hb)
 clear hP hA1 hA2 hA3 hb X1 X2 HW H HB
 obtain ⟨q, hq⟩ : ∃ q, isNS x = q := ⟨_, rfl⟩
 have hn : (!(pa x).isNone) = q := by rw [← hq]; cases x <;> rfl
 have HQ := Lib.hid hq
 clear hq
 have f1 := frozen_of_row _ (w.heap.size + 1) 0 _ _ Y1.out
 have k1 := cell_of_one Y1.out
 have f2 := frozen_of_row _ (w.heap.size + 1 + 1) 0 _ _ Y2.out
 have k2 := cell_of_one Y2.out
 go_wp2_with (refine (pm_ValueS x _ A2.out).mono ?_; rintro e w' ⟨rfl, rfl⟩)
 have z1 := heap_setCell_same w2 (w.heap.size + 1) 0 _ _ (.pointer (pa a)) Y1.out
 have z2 : (w2.setCell ⟨w.heap.size + 1, 0, none⟩ (.pointer (pa a))).heap[w.heap.size + 1 + 1]? = some (.cells #[.pointer none] 27 (0, 0)) := (Below.heap_setCell _ _ _ _ (by simp)).trans Y2.out
 have z3 := heap_setCell_same _ (w.heap.size + 1 + 1) 0 _ _ (.pointer (pa c)) z2
 have z4 := (Below.heap_setCell (w2.setCell ⟨w.heap.size + 1, 0, none⟩ (.pointer (pa a))) ⟨w.heap.size + 1 + 1, 0, none⟩ (.pointer (pa c)) (w.heap.size + 1) (by simp)).trans z1
 have k3 := cell_of_one z3
 have k4 := cell_of_one z4
 clear k1 k2 f1 f2
 refine bodyPost_ret (v := .tuple #[.agg #[.pointer (pa a)], .string (valOr x), .bool q, .agg #[.pointer (pa c)]]) (by simp [results, Tryz.results148, go_sem, k3, k4]) rfl ?_
 exact ⟨a, x, c, P1.out, by rw [HQ.out], (A1.out.setBox Y1.out (by decide) 0 _).setBox z2 (by decide) 0 _, (A3.out.setBox Y1.out (by decide) 0 _).setBox z2 (by decide) 0 _, (D2.out.setCell (p := ⟨w.heap.size + 1, 0, none⟩) (by simp) _).setCell (p := ⟨w.heap.size + 1 + 1, 0, none⟩) (by simp; omega) _⟩
end Go.Proofs.YtjlliohjeiclaaaGreatDoor
namespace Go.Proofs.YtjlliohjeiclaaaGreatDoor
open Go.RowKit
def Facts (H : List (Nat × Obj)) (W : World) : Prop := ∀ p ∈ H, W.heap[p.1]? = some p.2
theorem Facts.below {H : List (Nat × Obj)} {A B : World} (h : Facts H A) (hb : Below A.heap.size A B) : Facts H B := fun p hp => (hb.block _ (Array.getElem?_eq_some_iff.1 (h p hp)).1).trans (h p hp)
theorem Facts.lt {H : List (Nat × Obj)} {A : World} (h : Facts H A) : ∀ p ∈ H, p.1 < A.heap.size := fun p hp => (Array.getElem?_eq_some_iff.1 (h p hp)).1
theorem Facts.setCell {H : List (Nat × Obj)} {A : World} {c i : Nat} (h : Facts H A) (hc : ∀ p ∈ H, p.1 ≠ c) (v : Value) : Facts H (A.setCell ⟨c, i, none⟩ v) := fun p hp => (Below.heap_setCell _ _ _ _ (by simpa using hc p hp)).trans (h p hp)
theorem Facts.putObj {H : List (Nat × Obj)} {A : World} {c : Nat} (h : Facts H A) (hc : ∀ p ∈ H, p.1 ≠ c) (o : Obj) : Facts H (A.putObj c o) := fun p hp => (World.putObj_heap_other (fun e => hc p hp e)).trans (h p hp)
theorem Facts.cons {H : List (Nat × Obj)} {A : World} {b : Nat} {o : Obj} (h : Facts H A) (hb : A.heap[b]? = some o) : Facts ((b, o) :: H) A := fun p hp => by
 rcases List.mem_cons.1 hp with rfl | hp
 · exact hb
 · exact h p hp
theorem own_block {β : Type} {B k : Nat} {o : Obj} (hk : k < B) : OwnFrom B (fun (_ : β) W => W.heap[k]? = some o) := by
 rintro _ A A' row h hg hr
 exact (hg.block k (Array.getElem?_eq_some_iff.1 h).1 (fun e => by have := (hr k e.symm).1; omega)).trans h
theorem facts_own {β : Type} (H : List (Nat × Obj)) (B : Nat) (hH : ∀ p ∈ H, p.1 < B) : OwnFrom B (fun (_ : β) W => Facts H W) := by
 rintro b A A' row h hg hr p hp
 exact own_block (β := Unit) (hH p hp) () A A' row (h p hp) hg hr
theorem below_put (s : Nat) (A : World) (D : Nat) (o : Obj) (h : s ≤ D) : Below s A (A.putObj D o) := ⟨rfl, rfl, rfl, by simp, fun k hk => World.putObj_heap_other (by omega)⟩
def marks (Ds : List Nat) : List Deferred := Ds.map fun D => { target := .collected D, args := #[] }
def markF (Ds : List Nat) : List (Nat × Obj) := Ds.map fun D => (D, .deferred (some []))
theorem leaves_marks {F : Fence} {n : Nat} {P : Program} {fn : Func} {tmps : Array Value} {R : Ending → World → Prop} : ∀ (Ds : List Nat) (W : World), Ds.Nodup → Facts (markF Ds) W →
 (∀ W', W'.os = W.os → W'.tape = W.tape → W'.output = W.output → W'.heap.size = W.heap.size → (∀ k, k ∉ Ds → W'.heap[k]? = W.heap[k]?) → ∃ v, (results fn tmps).run P W' = .ok v W' ∧ R (.returned v) W') →
 LeavesInM F n P fn tmps R (marks Ds) .returning W
 | [], W, _, _, h => h W rfl rfl rfl rfl fun _ _ => rfl
 | D :: Ds, W, hnd, hf, h => by
  obtain ⟨h1, h2⟩ := List.nodup_cons.1 hnd
  refine ⟨by simp, .inl ⟨_, _, rfl, run_takeDeferred (hf (D, .deferred (some [])) (by simp [markF])), ?_⟩⟩
  refine leaves_marks Ds _ h2 (Facts.putObj (fun p hp => hf p (by simp only [markF, List.map_cons, List.mem_cons]; exact .inr hp)) (fun p hp e => ?_) _) ?_
  · obtain ⟨D', hD', rfl⟩ := List.mem_map.1 hp
    exact h1 (e ▸ hD')
  · intro W' e1 e2 e3 e4 e5
    refine h W' e1 e2 e3 (by rw [e4]; simp) fun k hk => ?_
    rw [e5 k (fun hm => hk (List.mem_cons_of_mem _ hm))]
    exact World.putObj_heap_other (fun e => hk (e ▸ List.mem_cons_self))
structure SameBut (c y : Nat) (A B : World) : Prop where
 os : B.os = A.os
 tape : B.tape = A.tape
 output : B.output = A.output
 size : A.heap.size ≤ B.heap.size
 block : ∀ k, k < y → k ≠ c → B.heap[k]? = A.heap[k]?
theorem SameBut.refl (c y : Nat) (A : World) : SameBut c y A A := ⟨rfl, rfl, rfl, Nat.le_refl _, fun _ _ _ => rfl⟩
theorem SameBut.trans {c y : Nat} {A B C : World} (h : SameBut c y A B) (k : SameBut c y B C) : SameBut c y A C :=
 ⟨k.os.trans h.os, k.tape.trans h.tape, k.output.trans h.output, Nat.le_trans h.size k.size, fun i h1 h2 => (k.block i h1 h2).trans (h.block i h1 h2)⟩
theorem SameBut.ofBelow {c y : Nat} {A B : World} (h : Below y A B) : SameBut c y A B := ⟨h.os, h.tape, h.output, h.size, fun k hk _ => h.block k hk⟩
theorem SameBut.setCell {c y : Nat} {A B : World} (h : SameBut c y A B) (i : Nat) (v : Value) : SameBut c y A (B.setCell ⟨c, i, none⟩ v) :=
 ⟨h.os, h.tape, h.output, by simpa [World.setCell] using h.size, fun k h1 h2 => (Below.heap_setCell _ _ _ _ (by simpa using h2)).trans (h.block k h1 h2)⟩
theorem SameBut.own {β : Type} {c y B : Nat} {w : World} (hw : y ≤ w.heap.size) (hB : y ≤ B) : OwnFrom B (fun (_ : β) W => SameBut c y w W) := by
 rintro _ A A' row h hg hr
 exact ⟨hg.os.trans h.os, hg.tape.trans h.tape, hg.output.trans h.output, Nat.le_trans h.size hg.size, fun k h1 h2 => (hg.block k (by have := h.size; omega) (fun e => by have := (hr k e.symm).1; omega)).trans (h.block k h1 h2)⟩
def allocs (w : World) : List Obj → World
 | [] => w
 | o :: l => allocs (w.alloc o) l
theorem allocs_below : ∀ (l : List Obj) (w : World), Below w.heap.size w (allocs w l)
 | [], w => Below.refl _ _
 | o :: l, w => (below_new w o).trans ((allocs_below l (w.alloc o)).mono (by simp))
theorem allocs_get : ∀ (l : List Obj) (w : World) (i : Nat) (o : Obj), l[i]? = some o → (allocs w l).heap[w.heap.size + i]? = some o
 | [], w, i, o, h => by simp at h
 | o' :: l, w, 0, o, h => by
  simp at h
  subst h
  exact ((allocs_below l (w.alloc o')).block _ (by simp)).trans (heap_alloc_new w o')
 | o' :: l, w, i + 1, o, h => by
  have := allocs_get l (w.alloc o') i o (by simpa using h)
  rw [World.size_alloc] at this
  rw [show w.heap.size + (i + 1) = w.heap.size + 1 + i by omega]
  exact this
end Go.Proofs.YtjlliohjeiclaaaGreatDoor
namespace Go.Proofs.YtjlliohjeiclaaaGreatDoor
open Go.RowKit St Pm
structure RowKeep (c : Nat) (v : Value) (A B : World) : Prop where
 os : B.os = A.os
 tape : B.tape = A.tape
 output : B.output = A.output
 size : A.heap.size ≤ B.heap.size
 block : ∀ k, k < A.heap.size → k ≠ c → v.ownBlock ≠ some k → B.heap[k]? = A.heap[k]?
theorem RowKeep.below {c z n size base : Nat} {e : TypeId} {v : Value} {xs : List Value} {A B : World} (h : RowKeep c v A B) (hc : z ≤ c) (ho : A.ownsRow base e size v n xs) (hb : z ≤ base) (hz : z ≤ A.heap.size) : Below z A B :=
 ⟨h.os, h.tape, h.output, h.size, fun k hk => h.block k (by omega) (by omega) (fun e => by have := (ho.lt k e).1; omega)⟩
theorem RowKeep.facts {c n size base : Nat} {e : TypeId} {v : Value} {xs : List Value} {A B : World} (h : RowKeep c v A B) {H : List (Nat × Obj)} (hH : Facts H A) (hc : ∀ p ∈ H, p.1 ≠ c) (ho : A.ownsRow base e size v n xs) (hb : ∀ p ∈ H, p.1 < base) : Facts H B :=
 fun p hp => (h.block _ (Facts.lt hH p hp) (hc p hp) (fun e => by have := (ho.lt _ e).1; have := hb p hp; omega)).trans (hH p hp)
theorem RowKeep.keepE {c n size base M : Nat} {e t : TypeId} {v u : Value} {xs : List Value} {A B : World} {S : Nat → Prop} (h : RowKeep c v A B) (ho : A.ownsRow base e size v n xs) (hS : ∀ k, S k → k < base ∧ k ≠ c) (hSN : ∀ k, S k → k < A.heap.size) (hc : c < M) : KeepE M S (fun x => x = e) A B :=
 ⟨h.os, h.tape, h.output, h.size, fun k hk => h.block k (hSN k hk) (hS k hk).2 (fun e' => by have := (ho.lt k e').1; have := (hS k hk).1; omega), fun k o hM hk ht => by
  have hlt := (Array.getElem?_eq_some_iff.1 hk).1
  refine (h.block k hlt (by omega) (fun e' => ?_)).trans hk
  rcases ho.2 with ⟨rfl, _⟩ | ⟨g, cap, cur, rfl, _, hgb, _⟩
  · simp [Value.ownBlock] at e'
  · obtain rfl : g = k := by simpa [Value.ownBlock] using e'
    rw [hgb] at hk
    cases hk
    exact ht _ _ _ rfl rfl⟩
theorem RowKeep.from {c n size base : Nat} {e t : TypeId} {v u : Value} {xs : List Value} {A B : World} (h : RowKeep c v A B) (hc : Boxed A c t u) (ho : A.ownsRow base e size v n xs) (D : Nat) : KeepsFrom D A B :=
 ⟨h.size, fun k o _ hk ho' => (h.block k (Array.getElem?_eq_some_iff.1 hk).1 (fun e' => by rw [e', show A.heap[c]? = _ from hc] at hk; cases hk; cases ho') (fun e' => by
  rcases ho.2 with ⟨rfl, _⟩ | ⟨g, cap, cur, rfl, _, hgb, _⟩
  · simp [Value.ownBlock] at e'
  · obtain rfl : g = k := by simpa [Value.ownBlock] using e'
    rw [hgb] at hk
    cases hk
    cases ho')).trans hk⟩
theorem RowKeep.after {c : Nat} {v : Value} {A0 A B : World} (hb : Below A0.heap.size A0 A) (h : RowKeep c v A B) : RowKeep c v A0 B :=
 ⟨h.os.trans hb.os, h.tape.trans hb.tape, h.output.trans hb.output, Nat.le_trans hb.size h.size, fun k h1 h2 h3 => (h.block k (Nat.lt_of_lt_of_le h1 hb.size) h2 h3).trans (hb.block k h1)⟩
def goodP (p : ByteArray × ByteArray) : Bool := (ofK p.1).isSome && decide (p.2.size ≤ 256)
def decV (p : ByteArray × ByteArray) : Ev := ((ofK p.1).getD ⟨0, 0, ⟨#[]⟩, 0, 0⟩, p.2)
theorem ofK_key {s : Stp} (h : s.ok = true) : ofK (keyB s) = some s.sv := by
 unfold ofK
 have : okKey (keyB s).data.toList = true := okKey_iff.2 ⟨s, h, by simp [keyB]⟩
 rw [if_pos this]
 congr 1
 have h2 : parse (keyB s).data.toList = s := by
  show parse (s.key.toArray.toList) = s
  rw [List.toList_toArray]
  exact parse_key h
 rw [h2]
theorem decV_enc {es : List El} (h : ∀ x ∈ es, okE x = true) : (∀ p ∈ es.map enc, goodP p = true) ∧ (es.map enc).map decV = es.map toV := by
 constructor
 · intro p hp
   obtain ⟨x, hx, rfl⟩ := List.mem_map.1 hp
   obtain ⟨h1, h2⟩ := okE_iff.1 (h x hx)
   unfold goodP enc
   rw [ofK_key h1]
   simpa using h2
 · rw [List.map_map]
   refine List.map_congr_left fun x hx => ?_
   obtain ⟨h1, h2⟩ := okE_iff.1 (h x hx)
   show decV (keyB x.1, x.2) = toV x
   unfold decV toV
   rw [ofK_key h1]
   rfl
end Go.Proofs.YtjlliohjeiclaaaGreatDoor
namespace Go.Proofs.YtjlliohjeiclaaaGreatDoor
open Go.RowKit St Pm
open Go.Op (bytesLess)
def escT : List UInt8 → List UInt8
 | [] => []
 | b :: l => if b = 0 then 0 :: 1 :: escT l else b :: escT l
def frontB (t : ByteArray) : ByteArray := ⟨(escT t.data.toList ++ [0, 0]).toArray⟩
def tagK (e : Ev) : ByteArray := ⟨(escT e.2.data.toList ++ 0 :: 0 :: e.1.st.key).toArray⟩
theorem tag_front (e : Ev) : frontB e.2 ++ keyB e.1.st = tagK e := by
 apply key_ext
 simp [frontB, keyB, tagK]
theorem esc_head (t r : List UInt8) : ∃ c m, escT t ++ 0 :: 0 :: r = c :: m := by cases escT t <;> simp
def decA (acc : List UInt8) : List UInt8 → Option (List UInt8 × List UInt8)
 | [] => none
 | [_] => none
 | a :: b :: l => if a ≠ 0 then decA (acc ++ [a]) (b :: l) else if b = 1 then decA (acc ++ [0]) l else if b = 0 then some (acc, l) else none
termination_by l => l.length
theorem decA_esc : ∀ (t r acc : List UInt8), decA acc (escT t ++ 0 :: 0 :: r) = some (acc ++ t, r)
 | [], r, acc => by simp [escT, decA]
 | b :: t, r, acc => by
  have ih := decA_esc t r
  by_cases h : b = 0
  · subst h
    simp only [escT, if_true, List.cons_append]
    rw [decA]
    simp [ih]
  · obtain ⟨c, m, hc⟩ := esc_head t r
    rw [escT, if_neg h, List.cons_append, hc, decA, if_pos h, ← hc, ih]
    simp
theorem decA_inv : ∀ (n : Nat) (l acc t r : List UInt8), l.length ≤ n → decA acc l = some (t, r) → ∃ t', t = acc ++ t' ∧ l = escT t' ++ 0 :: 0 :: r
 | 0, [], acc, t, r, _, h => by rw [decA] at h; cases h
 | 0, _ :: _, _, _, _, hl, _ => by simp at hl
 | n + 1, [], acc, t, r, _, h => by rw [decA] at h; cases h
 | n + 1, [_], acc, t, r, _, h => by rw [decA] at h; cases h
 | n + 1, a :: b :: l, acc, t, r, hl, h => by
  rw [decA] at h
  simp only [List.length_cons] at hl
  by_cases ha : a = 0
  · subst ha
    rw [if_neg (by simp)] at h
    by_cases hb : b = 1
    · subst hb
      rw [if_pos rfl] at h
      obtain ⟨t', rfl, rfl⟩ := decA_inv n l _ t r (by omega) h
      exact ⟨0 :: t', by simp, by simp [escT]⟩
    · rw [if_neg hb] at h
      by_cases hb0 : b = 0
      · subst hb0
        rw [if_pos rfl] at h
        cases h
        exact ⟨[], by simp, by simp [escT]⟩
      · rw [if_neg hb0] at h; cases h
  · rw [if_pos ha] at h
    obtain ⟨t', rfl, h2⟩ := decA_inv n (b :: l) _ t r (by simp; omega) h
    exact ⟨a :: t', by simp, by rw [h2, escT, if_neg ha]; rfl⟩
theorem ofK_some {k : ByteArray} {s : Sv} (h : ofK k = some s) : s.ok = true ∧ k = keyB s.st := by
 unfold ofK at h
 by_cases hk : okKey k.data.toList = true
 · rw [if_pos hk] at h
   obtain ⟨s', hs, hsk⟩ := okKey_iff.1 hk
   rw [← hsk, parse_key hs] at h
   obtain rfl := Option.some.inj h
   refine ⟨(Stp.ok_sv hs).1, ?_⟩
   rw [(Stp.ok_sv hs).2]
   apply key_ext
   simp [keyB, hsk]
 · rw [if_neg hk] at h; cases h
theorem ofK_ok {s : Sv} (h : s.ok = true) : ofK (keyB s.st) = some s := by
 rw [ofK_key (Sv.ok_st h).1, (Sv.ok_st h).2]
def ofT (k : ByteArray) : Option Ev := match decA [] k.data.toList with
 | none => none
 | some (t, r) => match ofK ⟨r.toArray⟩ with
  | none => none
  | some s => if t.length ≤ 256 then some (s, ⟨t.toArray⟩) else none
theorem ofT_tag {e : Ev} (h : okV e = true) : ofT (tagK e) = some e := by
 obtain ⟨h1, h2⟩ := okV_iff.1 h
 unfold ofT tagK
 simp only [List.toList_toArray]
 rw [decA_esc]
 have h3 : ofK ⟨e.1.st.key.toArray⟩ = some e.1 := ofK_ok h1
 simp only [List.nil_append, h3]
 rw [if_pos (by rw [dlen]; exact h2)]
theorem ofT_some {k : ByteArray} {e : Ev} (h : ofT k = some e) : okV e = true ∧ k = tagK e := by
 unfold ofT at h
 cases hd : decA [] k.data.toList with
 | none => rw [hd] at h; cases h
 | some q =>
  obtain ⟨t, r⟩ := q
  rw [hd] at h
  simp only at h
  cases ho : ofK ⟨r.toArray⟩ with
  | none => rw [ho] at h; cases h
  | some s =>
   rw [ho] at h
   simp only at h
   by_cases hl : t.length ≤ 256
   · rw [if_pos hl] at h
     obtain rfl := Option.some.inj h
     obtain ⟨t', e1, e2⟩ := decA_inv _ _ _ _ _ (Nat.le_refl _) hd
     obtain ⟨h1, h2⟩ := ofK_some ho
     rw [List.nil_append] at e1
     subst e1
     refine ⟨okV_iff.2 ⟨h1, by simpa [ByteArray.size] using hl⟩, key_ext ?_⟩
     rw [e2]
     have h3 : r = s.st.key := by have := congrArg (fun x : ByteArray => x.data.toList) h2; simpa [keyB] using this
     simp [tagK, h3]
   · rw [if_neg hl] at h; cases h
theorem bl_nil (l : List UInt8) : bytesLess l [] = false := by cases l <;> rfl
theorem u0_le (c : UInt8) : ¬ c < 0 := fun h => by rw [UInt8.lt_iff_toNat_lt] at h; simp at h
theorem u0_lt {c : UInt8} (h : c ≠ 0) : (0 : UInt8) < c := by
 rw [UInt8.lt_iff_toNat_lt]
 have : c.toNat ≠ 0 := fun e => h (by rw [← UInt8.toNat_inj]; exact e)
 simp; omega
theorem bl_esc : ∀ (x y a b : List UInt8), bytesLess (escT x ++ 0 :: 0 :: a) (escT y ++ 0 :: 0 :: b) = (bytesLess x y || (x == y && bytesLess a b))
 | [], [], a, b => by simp [escT, bytesLess]
 | [], d :: y, a, b => by
  by_cases h : d = 0
  · subst h; simp [escT, bytesLess]
  · have := u0_lt h
    simp [escT, h, bytesLess, this]
 | c :: x, [], a, b => by
  by_cases h : c = 0
  · subst h; simp [escT, bytesLess]
  · have h2 := u0_le c
    simp [escT, h, bytesLess, h2]
 | c :: x, d :: y, a, b => by
  have ih := bl_esc x y a b
  by_cases hc : c = 0
  · subst hc
    by_cases hd : d = 0
    · subst hd
      simp [escT, bytesLess, ih]
    · have := u0_lt hd
      simp [escT, hd, bytesLess, this]
  · by_cases hd : d = 0
    · subst hd
      have h2 := u0_le c
      have h3 : (c == 0) = false := by simpa using hc
      simp [escT, hc, bytesLess, h2, h3]
    · simp only [escT, if_neg hc, if_neg hd, List.cons_append, bytesLess, ih]
      by_cases e : c = d
      · subst e; simp
      · have : (c == d) = false := by simpa using e
        simp [this, e]
theorem tag_lt {a b : Ev} (ha : a.1.ok = true) (hb : b.1.ok = true) : klt (tagK a) (tagK b) = (klt a.2 b.2 || (decide (a.2 = b.2) && a.1.st.lt b.1.st)) := by
 unfold klt
 rw [← key_lt (Sv.ok_st ha).1 (Sv.ok_st hb).1, ByteArray.toList_eq, ByteArray.toList_eq, ByteArray.toList_eq, ByteArray.toList_eq]
 unfold tagK
 simp only [List.toList_toArray]
 rw [bl_esc]
 congr 2
 rw [Bool.eq_iff_iff]
 simp only [beq_iff_eq, decide_eq_true_eq]
 exact ⟨fun h => key_ext h, fun h => by rw [h]⟩
theorem tag_inj {a b : Ev} (ha : okV a = true) (hb : okV b = true) (h : tagK a = tagK b) : a = b := by
 have h1 := ofT_tag ha
 rw [h, ofT_tag hb] at h1
 exact (Option.some.inj h1).symm
theorem front_pre (t : ByteArray) (e : Ev) : (escT t.data.toList ++ [0, 0]).isPrefixOf (tagK e).data.toList = decide (e.2 = t) := by
 rw [Bool.eq_iff_iff, decide_eq_true_eq, List.isPrefixOf_iff_prefix]
 constructor
 · rintro ⟨r, hr⟩
   have h1 : decA [] (tagK e).data.toList = some (t.data.toList, r) := by
    rw [← hr, List.append_assoc]
    show decA [] (escT t.data.toList ++ 0 :: 0 :: r) = _
    rw [decA_esc]; rfl
   have h2 : decA [] (tagK e).data.toList = some (e.2.data.toList, e.1.st.key) := by
    unfold tagK
    simp only [List.toList_toArray]
    rw [decA_esc]; rfl
   rw [h2] at h1
   simp only [Option.some.injEq, Prod.mk.injEq] at h1
   exact key_ext h1.1
 · rintro rfl
   exact ⟨e.1.st.key, by simp [tagK]⟩
theorem esc_len : ∀ (l : List UInt8), (escT l).length ≤ 2 * l.length
 | [] => by simp [escT]
 | c :: l => by
  have ih := esc_len l
  by_cases h : c = 0
  · simp [escT, h]; omega
  · simp [escT, h]; omega
theorem index_zero (l : List UInt8) : Lib.index (0 :: l) [0] = 0 := by simp [Lib.index]
theorem index_skip {b : UInt8} (h : b ≠ 0) (l : List UInt8) : Lib.index (b :: l) [0] = if Lib.index l [0] == -1 then -1 else Lib.index l [0] + 1 := by
 have h1 : [(0 : UInt8)].isPrefixOf (b :: l) = false := by
  have : ((0 : UInt8) == b) = false := by simpa using fun e => h e.symm
  simp only [List.isPrefixOf, this, Bool.false_and]
 rw [Lib.index, h1]
 rfl
theorem repl_skip {b : UInt8} (h : b ≠ 0) : ∀ (k : Nat) (l : List UInt8), Lib.replaceK [0] [0, 1] k (b :: l) = b :: Lib.replaceK [0] [0, 1] k l
 | 0, l => rfl
 | k + 1, l => by
  have h1 := Lib.index_ge l [0]
  rw [Lib.replaceK, Lib.replaceK, index_skip h]
  by_cases h2 : Lib.index l [0] = -1
  · rw [h2]; rfl
  · have h3 : (Lib.index l [0] == -1) = false := by simpa using h2
    have h4 : (Lib.index l [0] + 1 == -1) = false := by
     have : ¬ Lib.index l [0] + 1 = -1 := by omega
     simpa using this
    rw [h3]
    simp only [Bool.false_eq_true, if_false]
    rw [h4]
    simp only [Bool.false_eq_true, if_false]
    obtain ⟨i, hi⟩ : ∃ i : Nat, Lib.index l [0] = i := ⟨(Lib.index l [0]).toNat, by omega⟩
    rw [hi]
    have e1 : ((i : Int) + 1).toNat = i + 1 := by omega
    have e2 : ((i : Int)).toNat = i := by omega
    rw [e1, e2]
    have e3 : i + 1 + [(0 : UInt8)].length = (i + [(0 : UInt8)].length) + 1 := by omega
    rw [e3, List.drop_succ_cons, List.take_succ_cons]
    rfl
theorem repl_esc : ∀ l : List UInt8, Lib.replaceK [0] [0, 1] (l.count 0) l = escT l
 | [] => rfl
 | b :: l => by
  have ih := repl_esc l
  by_cases h : b = 0
  · subst h
    rw [List.count_cons_self, Lib.replaceK, index_zero, if_neg (by decide)]
    show [] ++ [0, 1] ++ Lib.replaceK [0] [0, 1] (l.count 0) l = _
    rw [ih]
    simp [escT]
  · rw [List.count_cons_of_ne (fun e => h e), repl_skip h, ih, escT, if_neg h]
theorem repl_all (l : List UInt8) : Lib.replaceAll l [0] [0, 1] = escT l := by
 unfold Lib.replaceAll Lib.replace
 rw [if_neg (by decide)]
 unfold Lib.replaceNum
 rw [if_pos (.inl (by omega)), Lib.count_one, repl_esc]
end Go.Proofs.YtjlliohjeiclaaaGreatDoor
namespace Go.Proofs.YtjlliohjeiclaaaGreatDoor
open Go.RowKit St Pm
def encV (e : Ev) : ByteArray × ByteArray := (keyB e.1.st, e.2)
theorem enc_toE {x : Ev} : enc (toE x) = encV x := rfl
structure Reg (l : List Ev) (t : Tr ByteArray) : Prop where
 bal : Bal t
 it : items t = l.map encV
 ok : ∀ x ∈ l, okV x = true
 srt : Srt (items t)
theorem Reg.len {l : List Ev} {t : Tr ByteArray} (h : Reg l t) : sz t = l.length := by rw [← sz_items, h.it, List.length_map]
theorem good_enc {x : Ev} (h : okV x = true) : goodP (encV x) = true ∧ decV (encV x) = x := by
 obtain ⟨h1, h2⟩ := okV_toE h
 have h3 := decV_enc (es := [toE x]) (fun y hy => by rw [List.mem_singleton.1 hy]; exact h1)
 refine ⟨h3.1 _ (by rw [List.map_cons, List.map_nil, enc_toE]; exact List.mem_cons_self), ?_⟩
 have h4 := h3.2
 simp only [List.map_cons, List.map_nil, enc_toE, h2, List.cons.injEq, and_true] at h4
 exact h4
theorem Reg.good {l : List Ev} {t : Tr ByteArray} (h : Reg l t) : (items t).all goodP = true := by
 rw [h.it, List.all_eq_true]
 intro p hp
 obtain ⟨x, hx, rfl⟩ := List.mem_map.1 hp
 exact (good_enc (h.ok x hx)).1
theorem Reg.dec {l : List Ev} {t : Tr ByteArray} (h : Reg l t) : (items t).map decV = l := by
 rw [h.it, List.map_map]
 conv => rhs; rw [← List.map_id l]
 exact List.map_congr_left fun x hx => (good_enc (h.ok x hx)).2
theorem ok_lab {s : Sv} (h : s.ok = true) : s.l.size ≤ 12 := by
 have h5 := (Sv.ok_iff.1 h).2.2.2.2.1
 unfold okLabel at h5
 simp only [Bool.and_eq_true, decide_eq_true_eq] at h5
 have := h5.2
 simpa using this
theorem key_size {s : Sv} (h : s.ok = true) : (keyB s.st).size ≤ 31 := by
 have h1 := key_length s.st
 have h2 : (keyB s.st).size = s.st.key.length := by unfold keyB; simp [ByteArray.size]
 have h3 := ok_lab h
 have h4 : s.st.label.length = s.l.size := by unfold Sv.st; simp
 omega
def aheadK (tr : Tr ByteArray) (k : ByteArray) : Bool := !(isNS (endR tr)) || klt (keyOr (endR tr)) k
theorem Reg.ahead {l : List Ev} {t : Tr ByteArray} (h : Reg l t) {s : Sv} (hs : s.ok = true) : aheadK t (keyB s.st) = behindV l s := by
 unfold aheadK behindV
 cases t with
 | nil =>
  have : l = [] := by have := h.len; exact List.length_eq_zero_iff.1 this.symm
  subst this
  rfl
 | node b tl k v tr =>
  obtain ⟨b', l', k', v', r', e1, e2⟩ := endR_items (.node b tl k v tr : Tr ByteArray) (by intro e; cases e)
  rw [e1]
  rw [h.it, h.len, List.getElem?_map] at e2
  rw [← List.getLast?_eq_getElem?] at e2
  cases hl : l.getLast? with
  | none => rw [hl] at e2; cases e2
  | some x =>
   rw [hl] at e2
   simp only [Option.map_some, Option.some.injEq] at e2
   have hx := h.ok x (List.mem_of_getLast? hl)
   have ek : k' = keyB x.1.st := by have := congrArg Prod.fst e2; exact this.symm
   show (!true || klt k' (keyB s.st)) = _
   rw [ek, keyB_klt (Sv.ok_st (okV_iff.1 hx).1).1 (Sv.ok_st hs).1, ← svC_lt (okV_iff.1 hx).1 hs]
   rfl
end Go.Proofs.YtjlliohjeiclaaaGreatDoor
namespace Go.Proofs.YtjlliohjeiclaaaGreatDoor
open Go.RowKit Go.Shelf Go.Proofs St Pm
def lay155_ren : Go.Shelf.Ren := ⟨fun | 138 => 198 | 143 => 200 | 154 => 176 | 155 => 133 | 165 => 199 | 166 => 201 | 169 => 203 | 195 => 213 | 197 => 202 | 217 => 222 | 218 => 214 | 219 => 217 | 224 => 224 | 225 => 223 | 240 => 215 | 241 => 216 | 260 => 218 | 266 => 227 | 267 => 225 | 276 => 220 | 277 => 221 | 314 => 228 | n => n, fun | 0 => 0 | 3 => 3 | 4 => 4 | 5 => 5 | 9 => 9 | 20 => 20 | 21 => 21 | 37 => 113 | 46 => 186 | 51 => 222 | 70 => 252 | 72 => 254 | 75 => 257 | 76 => 258 | 105 => 260 | 119 => 240 | 127 => 272 | 138 => 242 | 139 => 243 | 146 => 277 | 164 => 273 | 80 => 112 | n => n, fun | 1 => 2 | 3 => 0 | 4 => 1 | n => n⟩
theorem lay155 : Go.Proofs.Lays.n155 Tryz.prog lay155_ren := {
 mixed := by kernel_rfl
 f138 := Tryz.func198.trans (congrArg some (by kernel_rfl))
 f143 := Tryz.func200.trans (congrArg some (by kernel_rfl))
 f154 := Tryz.func176.trans (congrArg some (by kernel_rfl))
 f155 := Tryz.func133.trans (congrArg some (by kernel_rfl))
 f165 := Tryz.func199.trans (congrArg some (by kernel_rfl))
 f166 := Tryz.func201.trans (congrArg some (by kernel_rfl))
 f169 := Tryz.func203.trans (congrArg some (by kernel_rfl))
 f195 := Tryz.func213.trans (congrArg some (by kernel_rfl))
 f197 := Tryz.func202.trans (congrArg some (by kernel_rfl))
 f217 := Tryz.func222.trans (congrArg some (by kernel_rfl))
 f218 := Tryz.func214.trans (congrArg some (by kernel_rfl))
 f219 := Tryz.func217.trans (congrArg some (by kernel_rfl))
 f224 := Tryz.func224.trans (congrArg some (by kernel_rfl))
 f225 := Tryz.func223.trans (congrArg some (by kernel_rfl))
 f240 := Tryz.func215.trans (congrArg some (by kernel_rfl))
 f241 := Tryz.func216.trans (congrArg some (by kernel_rfl))
 f260 := Tryz.func218.trans (congrArg some (by kernel_rfl))
 f266 := Tryz.func227.trans (congrArg some (by kernel_rfl))
 f267 := Tryz.func225.trans (congrArg some (by kernel_rfl))
 f276 := Tryz.func220.trans (congrArg some (by kernel_rfl))
 f277 := Tryz.func221.trans (congrArg some (by kernel_rfl))
 f314 := Tryz.func228.trans (congrArg some (by kernel_rfl))
 t0 := Tryz.underlying0
 a0 := Tryz.isAgg0
 z0 := Tryz.sizeOf0
 v0 := Tryz.zeroValue0
 t3 := Tryz.underlying3
 a3 := Tryz.isAgg3
 z3 := Tryz.sizeOf3
 v3 := Tryz.zeroValue3
 t4 := Tryz.underlying4
 a4 := Tryz.isAgg4
 z4 := Tryz.sizeOf4
 v4 := Tryz.zeroValue4
 t5 := Tryz.underlying5
 a5 := Tryz.isAgg5
 z5 := Tryz.sizeOf5
 v5 := Tryz.zeroValue5
 t9 := Tryz.underlying9
 a9 := Tryz.isAgg9
 z9 := Tryz.sizeOf9
 v9 := Tryz.zeroValue9
 t20 := Tryz.underlying20
 a20 := Tryz.isAgg20
 z20 := Tryz.sizeOf20
 v20 := Tryz.zeroValue20
 t21 := Tryz.underlying21
 a21 := Tryz.isAgg21
 z21 := Tryz.sizeOf21
 v21 := Tryz.zeroValue21
 t37 := Tryz.underlying113
 a37 := Tryz.isAgg113
 z37 := Tryz.sizeOf113
 v37 := Tryz.zeroValue113
 t46 := Tryz.underlying186
 a46 := Tryz.isAgg186
 z46 := Tryz.sizeOf186
 v46 := Tryz.zeroValue186
 t51 := Tryz.underlying222
 a51 := Tryz.isAgg222
 z51 := Tryz.sizeOf222
 v51 := Tryz.zeroValue222
 t70 := Tryz.underlying252
 a70 := Tryz.isAgg252
 z70 := Tryz.sizeOf252
 v70 := Tryz.zeroValue252
 t72 := Tryz.underlying254
 a72 := Tryz.isAgg254
 z72 := Tryz.sizeOf254
 v72 := Tryz.zeroValue254
 t75 := Tryz.underlying257
 a75 := Tryz.isAgg257
 z75 := Tryz.sizeOf257
 v75 := Tryz.zeroValue257
 t76 := Tryz.underlying258
 a76 := Tryz.isAgg258
 z76 := Tryz.sizeOf258
 v76 := Tryz.zeroValue258
 t105 := Tryz.underlying260
 a105 := Tryz.isAgg260
 z105 := Tryz.sizeOf260
 v105 := Tryz.zeroValue260
 t119 := Tryz.underlying240
 a119 := Tryz.isAgg240
 z119 := Tryz.sizeOf240
 t127 := Tryz.underlying272
 a127 := Tryz.isAgg272
 z127 := Tryz.sizeOf272
 v127 := Tryz.zeroValue272
 t138 := Tryz.underlying242
 a138 := Tryz.isAgg242
 z138 := Tryz.sizeOf242
 v138 := Tryz.zeroValue242
 t139 := Tryz.underlying243
 a139 := Tryz.isAgg243
 z139 := Tryz.sizeOf243
 v139 := Tryz.zeroValue243
 t146 := Tryz.underlying277
 a146 := Tryz.isAgg277
 z146 := Tryz.sizeOf277
 v146 := Tryz.zeroValue277
 t164 := Tryz.underlying273
 a164 := Tryz.isAgg273
 z164 := Tryz.sizeOf273
 v164 := Tryz.zeroValue273
 g1 := by kernel_rfl
 g3 := by kernel_rfl
 g4 := by kernel_rfl
}
def lay99_ren : Go.Shelf.Ren := ⟨fun | 99 => 111 | 206 => 143 | n => n, fun | 3 => 3 | 4 => 4 | 9 => 9 | n => n, fun n => n⟩
theorem lay99 : Go.Proofs.Lays.n99 Tryz.prog lay99_ren := {
 mixed := by kernel_rfl
 f99 := Tryz.func111.trans (congrArg some (by kernel_rfl))
 f206 := Tryz.func143.trans (congrArg some (by kernel_rfl))
 t3 := Tryz.underlying3
 a3 := Tryz.isAgg3
 z3 := Tryz.sizeOf3
 v3 := Tryz.zeroValue3
 t4 := Tryz.underlying4
 a4 := Tryz.isAgg4
 z4 := Tryz.sizeOf4
 v4 := Tryz.zeroValue4
 t9 := Tryz.underlying9
 a9 := Tryz.isAgg9
 z9 := Tryz.sizeOf9
 v9 := Tryz.zeroValue9
}
theorem ext155 : Builder.Extra Tryz.prog lay155_ren := {
 sizeBuilder := by kernel_rfl
 liesBuilder := by kernel_rfl
 t5 := Tryz.underlying5
 a5 := Tryz.isAgg5
 z5 := Tryz.sizeOf5
 v5 := Tryz.zeroValue5
 infoByte := by kernel_rfl
 cellsByte := by kernel_rfl
 sizeByte := by kernel_rfl
 neB5 := by decide }
theorem ts_HasPrefix (s p : ByteArray) (w : World) :
 Calls Tryz.prog 111 #[.string s, .string p] w fun e w' => e = .returned (.bool (Lib.hasPrefix s.data.toList p.data.toList)) ∧ w' = w :=
 Any.strings_HasPrefix lay99 s p w
theorem ts_Replace (s : ByteArray) (w : World) (hs : s.size ≤ 4294967280) (hG : Glob w) :
 Calls Tryz.prog 133 #[.string s, .string ⟨#[0]⟩, .string ⟨#[0, 1]⟩] w fun e w' => e = .returned (.string ⟨(escT s.data.toList).toArray⟩) ∧ Below w.heap.size w w' := by
 obtain ⟨m, hm⟩ := hG.2
 have h := Any.strings_ReplaceAll lay155 ext155 s ⟨#[0]⟩ ⟨#[0, 1]⟩ m w (by omega) hm (by decide) (by
  have h1 := Lib.countB_le ⟨#[0]⟩ (by decide) s.size s (Nat.le_refl _)
  have h2 : (⟨#[0, 1]⟩ : ByteArray).size = 2 := rfl
  rw [h2]
  omega)
 refine h.mono ?_
 rintro e w' ⟨rfl, hb⟩
 refine ⟨?_, hb⟩
 show Ending.returned (.string ⟨(Lib.replaceAll s.data.toList [0] [0, 1]).toArray⟩) = _
 rw [repl_all]
theorem ts_fits (s : ByteArray) (w : World) : Calls Tryz.prog 64 #[.string s] w fun e w' => e = .returned (.bool (decide (s.size ≤ 256))) ∧ w = w' := by
 go_enter Tryz.func64, Tryz.ntmps64
 go_wp2
 go_ret
 exact ⟨congrArg (fun b => Ending.returned (.bool b)) (by simp; omega), rfl⟩
theorem ts_front (s : ByteArray) (w : World) (hs : s.size ≤ 4294967280) (hG : Glob w) :
 Calls Tryz.prog 95 #[.string s] w fun e w' => e = .returned (.string (frontB s)) ∧ Below w.heap.size w w' := by
 have C := Lib.hid (ts_Replace s w hs hG)
 have hsz : (escT s.data.toList).length ≤ 8589934560 := by
  have h1 := esc_len s.data.toList
  have h2 := dlen s
  omega
 have hfit : ¬ 9223372036854775807 < (⟨(escT s.data.toList).toArray⟩ : ByteArray).size + 2 := by simp [ByteArray.size]; omega
 have hF : Hid ((⟨(escT s.data.toList).toArray⟩ : ByteArray) ++ ⟨#[0, 0]⟩ = frontB s) := Lib.hid (key_ext (by simp [frontB]))
 generalize (⟨(escT s.data.toList).toArray⟩ : ByteArray) = f at *
 clear hs hG hsz
 go_enter Tryz.func95, Tryz.ntmps95
 go_wp2_with fail
 refine C.out.mono ?_
 rintro e w2 ⟨rfl, hb⟩
 go_wp2_with fail
 go_ret
 exact ⟨by rw [← hF.out]; rfl, hb⟩
set_option maxRecDepth 100000 in
set_option maxHeartbeats 2000000 in
theorem ts_Key (x : ByteArray) (s : Sv) (w : World) (hl : s.l.size ≤ 9223372036854775807) (hG : Glob w) :
 Calls Tryz.prog 47 #[.string x, .agg #[.int .i64 s.g, .int .i64 s.r, .string s.l, .int .i64 s.n, .int .i64 s.i]] w fun e w' =>
  e = .returned (if okV (s, x) = true then .tuple #[.string (tagK (s, x)), .int .i64 0] else .tuple #[.string ⟨#[]⟩, .int .i64 2]) ∧ Below w.heap.size w w' := by
 obtain ⟨ok, hok⟩ : ∃ b, s.ok = b := ⟨_, rfl⟩
 obtain ⟨ft, hft⟩ : ∃ b, decide (x.size ≤ 256) = b := ⟨_, rfl⟩
 have hOK : okV (s, x) = (ok && ft) := by rw [← hok, ← hft]; rfl
 have HT : Hid (frontB x ++ keyB s.st = tagK (s, x)) := Lib.hid (tag_front (s, x))
 have b1 := below_new w (.cells #[.int .i64 s.g, .int .i64 s.r, .string s.l, .int .i64 s.n, .int .i64 s.i] 43)
 have G1 := Lib.hid (hG.below b1)
 have C := Lib.hid (stp_Key s (w.alloc (.cells #[.int .i64 s.g, .int .i64 s.r, .string s.l, .int .i64 s.n, .int .i64 s.i] 43)) hl)
 have FT := Lib.hid (fun w' => ts_fits x w')
 have FR := Lib.hid (fun w' (h : ft = true) (hG : Glob w') => ts_front x w' (by have h2 := hft.trans h; simp at h2; omega) hG)
 have hsz : ok = true → ft = true → ¬ 9223372036854775807 < (frontB x).size + (keyB s.st).size := by
  intro h1 h2
  have h3 := key_size (hok.trans h1)
  have h4 : (frontB x).size = (escT x.data.toList).length + 2 := by simp [frontB, ByteArray.size]
  have h5 := esc_len x.data.toList
  have h6 := dlen x
  have h7 := hft.trans h2
  simp at h7
  omega
 have HSZ := Lib.hid hsz
 rw [hOK]
 rw [hok] at C
 rw [hft] at FT
 have B1 := Lib.hid b1
 clear b1 hG hok hft hOK hsz
 go_enter Tryz.func47, Tryz.ntmps47
 go_wp2_with fail
 refine C.out.mono ?_
 rintro e w2 ⟨rfl, hb⟩
 have B2 := Lib.hid (B1.out.trans (hb.mono B1.out.size))
 have G2 := Lib.hid (G1.out.below hb)
 clear hb
 cases ok with
 | false =>
  simp only [Bool.false_and, Bool.false_eq_true, if_false]
  go_wp2_with fail
  go_ret2
  exact ⟨rfl, B2.out⟩
 | true =>
  simp only [Bool.true_and, if_true]
  go_wp2_with fail
  refine (FT.out _).mono ?_
  rintro e _ ⟨rfl, rfl⟩
  cases ft with
  | false =>
   simp only [Bool.false_eq_true, if_false]
   go_wp2_with fail
   go_ret2
   exact ⟨rfl, B2.out⟩
  | true =>
   have hz := HSZ.out (by simp) (by simp)
   generalize frontB x = fr at *
   generalize keyB s.st = kb at *
   simp only [if_true]
   go_wp2_with fail
   refine (FR.out _ (by simp) G2.out).mono ?_
   rintro e w3 ⟨rfl, hb⟩
   go_wp2_with fail
   go_ret2
   exact ⟨by rw [← HT.out]; rfl, B2.out.trans (hb.mono B2.out.size)⟩
end Go.Proofs.YtjlliohjeiclaaaGreatDoor
