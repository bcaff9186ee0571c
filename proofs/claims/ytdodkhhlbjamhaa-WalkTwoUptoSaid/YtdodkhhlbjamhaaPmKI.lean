
/- Walks: a tree's nodes gone over. -/
import Derived.Test.YtdodkhhlbjamhaaPmJI
namespace Go.Proofs.Ytdodkhhlbjamhaa
open Go.RowKit Pm
attribute [local go_sem] Oper.semAt_some
def Pm.nodesLI : Tr Int → List (Tr Int)
  | .nil => []
  | .node b l k v r => nodesLI l ++ nodesLI r ++ [.node b l k v r]
def encNI (x : Tr Int) : Array Value := #[.pointer (pa x)]
structure EnvNI (gb yb ll : Nat) (s : Tr Int) (W : World) : Prop where
  g : Boxed W gb 89 (.func (.func 47) #[] #[.pointer (some ⟨gb, 0, none⟩), .pointer (some ⟨yb, 0, none⟩)])
  y : Boxed W yb 89 (.func (.yield ll) #[] #[])
  a : AtI W s
theorem EnvNI.below {gb yb ll : Nat} {s : Tr Int} {W W' : World} (h : EnvNI gb yb ll s W) (hb : Below W.heap.size W W') : EnvNI gb yb ll s W' :=
  ⟨boxStays h.g hb, boxStays h.y hb, h.a.below hb rfl⟩
theorem EnvNI.keep {gb yb ll M : Nat} {S : Nat → Prop} {Ex : TypeId → Prop} {s : Tr Int} {W W' : World} (h : EnvNI gb yb ll s W) (hk : KeepE M S Ex W W')
    (h2 : M ≤ gb) (h3 : M ≤ yb) (h4 : ∀ b ∈ blocks s, S b) (h5 : ¬ Ex 89) : EnvNI gb yb ll s W' :=
  ⟨hk.box h.g h2 h5, hk.box h.y h3 h5, h.a.keep fun b o ho hm => (hk.block b (h4 b hm)).trans ho⟩
set_option maxRecDepth 100000 in
set_option maxHeartbeats 4000000 in
theorem go1_nodesI (gb yb ll M : Nat) (S : Nat → Prop) (Ex : TypeId → Prop) (L : List (Tr Int)) (J Jx : List (Tr Int) → World → Prop) (B0 : Nat)
    (hJo : OwnFrom B0 J) (h2 : M ≤ gb) (h3 : M ≤ yb) (h5 : ¬ Ex 89)
    (hY : ∀ pre x W1, J pre W1 → pre ++ [x] <+: L → YieldAt Fence.wide 0 Try.prog ll (encNI x) W1 fun e W' =>
      (e = .returned (.bool true) ∧ J (pre ++ [x]) W' ∧ KeepE M S Ex W1 W') ∨ (e = .returned (.bool false) ∧ Jx (pre ++ [x]) W' ∧ KeepE M S Ex W1 W')) :
    ∀ (s : Tr Int) (pre : List (Tr Int)) (W1 : World), (∀ b ∈ blocks s, S b) → (∀ k, S k → k < W1.heap.size) → J pre W1 → EnvNI gb yb ll s W1 → pre ++ nodesLI s <+: L →
      Calls Try.prog 47 #[.pointer (pa s), .pointer (some ⟨gb, 0, none⟩), .pointer (some ⟨yb, 0, none⟩)] W1 fun e W' =>
        (e = .returned (.bool true) ∧ J (pre ++ nodesLI s) W' ∧ KeepE M S Ex W1 W') ∨ (e = .returned (.bool false) ∧ (∃ pre', pre' <+: L ∧ Jx pre' W') ∧ KeepE M S Ex W1 W') := by
  have HY := Lib.hid hY
  clear hY
  intro s
  induction s with
  | nil =>
    intro pre W1 _ hSN hJ hE _
    have HJ := Lib.hid hJ
    have HSN := Lib.hid hSN
    clear hJ hSN
    have hSd : EnvNI gb yb ll .nil W1.drew := hE.below ((Below.refl _ W1).drew)
    clear hE
    refine (callsIn_wide (n := 6)).1 ?_
    change CallsIn _ _ _ _ #[.pointer none, _, _] W1 _
    refine callsIn_of_wp Try.func47 rfl trivial ?_ rfl
    simp only [Try.ntmps47, List.size_toArray, List.length_cons, List.length_nil, Nat.reduceAdd, Nat.reduceSub, Array.replicate_succ, Array.replicate_zero, List.push_toArray, List.append_toArray, List.nil_append, List.cons_append]
    gi_wp2
    refine region_wide (S := (EnvNI gb yb ll .nil)) (by kernel_rfl) (hSd) (fun hS => ?_)
    refine anyW_take (i := 0) (oi := ⟨some 5, _, _, _, _, _⟩) (v := ?_) rfl (by kernel_rfl) (fun _ _ _ h => h) (by kernel_rfl) (by kernel_rfl) (Or.inl ⟨by rfl, ?_⟩) hS ?_
    rotate_left 1
    · intro w' hB; skip; (go_simp <;> with_reducible rfl)
    try simp only [Act.put, List.setIfInBounds_toArray, List.set_cons_zero, List.set_cons_succ]
    refine anyW_take (i := 1) (oi := ⟨some 6, _, _, _, _, _⟩) (v := ?_) rfl (by kernel_rfl) (fun _ _ _ h => h) (by kernel_rfl) (by kernel_rfl) (Or.inl ⟨by rfl, ?_⟩) hS ?_
    rotate_left 1
    · intro w' hB; skip; (go_simp <;> with_reducible rfl)
    try simp only [Act.put, List.setIfInBounds_toArray, List.set_cons_zero, List.set_cons_succ]
    refine anyW_take (i := 2) (oi := ⟨some 7, _, _, _, _, _⟩) (v := ?_) rfl (by kernel_rfl) (fun _ _ _ h => h) (by kernel_rfl) (by kernel_rfl) (Or.inl ⟨by rfl, ?_⟩) hS ?_
    rotate_left 1
    · intro w' hB; skip; (go_simp <;> with_reducible rfl)
    try simp only [Act.put, List.setIfInBounds_toArray, List.set_cons_zero, List.set_cons_succ]
    refine anyW_take (i := 3) (oi := ⟨some 8, _, _, _, _, _⟩) rfl (by kernel_rfl) (fun _ _ _ h => h) (by kernel_rfl) (by kernel_rfl) (Or.inr ⟨by rfl, rfl⟩) hS ?_
    try simp only [Act.put, List.setIfInBounds_toArray, List.set_cons_zero, List.set_cons_succ]
    refine anyW_take (i := 4) (oi := ⟨some 9, _, _, _, _, _⟩) rfl (by kernel_rfl) (fun _ _ _ h => h) (by kernel_rfl) (by kernel_rfl) (Or.inr ⟨by rfl, rfl⟩) hS ?_
    try simp only [Act.put, List.setIfInBounds_toArray, List.set_cons_zero, List.set_cons_succ]
    refine anyW_take (i := 5) (oi := ⟨some 10, _, _, _, _, _⟩) rfl (by kernel_rfl) (fun _ _ _ h => h) (by kernel_rfl) (by kernel_rfl) (Or.inr ⟨by rfl, rfl⟩) hS ?_
    try simp only [Act.put, List.setIfInBounds_toArray, List.set_cons_zero, List.set_cons_succ]
    refine anyW_take (i := 6) (oi := ⟨some 11, _, _, _, _, _⟩) rfl (by kernel_rfl) (fun _ _ _ h => h) (by kernel_rfl) (by kernel_rfl) (Or.inr ⟨by rfl, rfl⟩) hS ?_
    try simp only [Act.put, List.setIfInBounds_toArray, List.set_cons_zero, List.set_cons_succ]
    refine anyW_take (i := 7) (oi := ⟨some 12, _, _, _, _, _⟩) rfl (by kernel_rfl) (fun _ _ _ h => h) (by kernel_rfl) (by kernel_rfl) (Or.inr ⟨by rfl, rfl⟩) hS ?_
    try simp only [Act.put, List.setIfInBounds_toArray, List.set_cons_zero, List.set_cons_succ]
    refine anyW_take (i := 8) (oi := ⟨some 13, _, _, _, _, _⟩) rfl (by kernel_rfl) (fun _ _ _ h => h) (by kernel_rfl) (by kernel_rfl) (Or.inr ⟨by rfl, rfl⟩) hS ?_
    try simp only [Act.put, List.setIfInBounds_toArray, List.set_cons_zero, List.set_cons_succ]
    refine anyW_take (i := 9) (oi := ⟨some 14, _, _, _, _, _⟩) rfl (by kernel_rfl) (fun _ _ _ h => h) (by kernel_rfl) (by kernel_rfl) (Or.inr ⟨by rfl, rfl⟩) hS ?_
    try simp only [Act.put, List.setIfInBounds_toArray, List.set_cons_zero, List.set_cons_succ]
    refine anyW_take (i := 10) (oi := ⟨some 15, _, _, _, _, _⟩) rfl (by kernel_rfl) (fun _ _ _ h => h) (by kernel_rfl) (by kernel_rfl) (Or.inr ⟨by rfl, rfl⟩) hS ?_
    try simp only [Act.put, List.setIfInBounds_toArray, List.set_cons_zero, List.set_cons_succ]
    refine anyW_take (i := 11) (oi := ⟨some 16, _, _, _, _, _⟩) rfl (by kernel_rfl) (fun _ _ _ h => h) (by kernel_rfl) (by kernel_rfl) (Or.inr ⟨by rfl, rfl⟩) hS ?_
    try simp only [Act.put, List.setIfInBounds_toArray, List.set_cons_zero, List.set_cons_succ]
    refine anyW_take (i := 12) (oi := ⟨some 17, _, _, _, _, _⟩) rfl (by kernel_rfl) (fun _ _ _ h => h) (by kernel_rfl) (by kernel_rfl) (Or.inr ⟨by rfl, rfl⟩) hS ?_
    try simp only [Act.put, List.setIfInBounds_toArray, List.set_cons_zero, List.set_cons_succ]
    refine anyW_take (i := 13) (oi := ⟨some 18, _, _, _, _, _⟩) rfl (by kernel_rfl) (fun _ _ _ h => h) (by kernel_rfl) (by kernel_rfl) (Or.inr ⟨by rfl, rfl⟩) hS ?_
    try simp only [Act.put, List.setIfInBounds_toArray, List.set_cons_zero, List.set_cons_succ]
    refine anyW_take (i := 14) (oi := ⟨some 19, _, _, _, _, _⟩) rfl (by kernel_rfl) (fun _ _ _ h => h) (by kernel_rfl) (by kernel_rfl) (Or.inr ⟨by rfl, rfl⟩) hS ?_
    try simp only [Act.put, List.setIfInBounds_toArray, List.set_cons_zero, List.set_cons_succ]
    refine anyW_take (i := 15) (oi := ⟨some 20, _, _, _, _, _⟩) rfl (by kernel_rfl) (fun _ _ _ h => h) (by kernel_rfl) (by kernel_rfl) (Or.inr ⟨by rfl, rfl⟩) hS ?_
    try simp only [Act.put, List.setIfInBounds_toArray, List.set_cons_zero, List.set_cons_succ]
    refine anyW_take (i := 16) (oi := ⟨some 21, _, _, _, _, _⟩) rfl (by kernel_rfl) (fun _ _ _ h => h) (by kernel_rfl) (by kernel_rfl) (Or.inr ⟨by rfl, rfl⟩) hS ?_
    try simp only [Act.put, List.setIfInBounds_toArray, List.set_cons_zero, List.set_cons_succ]
    refine anyW_take (i := 17) (oi := ⟨some 22, _, _, _, _, _⟩) rfl (by kernel_rfl) (fun _ _ _ h => h) (by kernel_rfl) (by kernel_rfl) (Or.inr ⟨by rfl, rfl⟩) hS ?_
    try simp only [Act.put, List.setIfInBounds_toArray, List.set_cons_zero, List.set_cons_succ]
    refine anyW_take (i := 18) (oi := ⟨some 23, _, _, _, _, _⟩) rfl (by kernel_rfl) (fun _ _ _ h => h) (by kernel_rfl) (by kernel_rfl) (Or.inr ⟨by rfl, rfl⟩) hS ?_
    try simp only [Act.put, List.setIfInBounds_toArray, List.set_cons_zero, List.set_cons_succ]
    refine anyW_take (i := 19) (oi := ⟨some 24, _, _, _, _, _⟩) rfl (by kernel_rfl) (fun _ _ _ h => h) (by kernel_rfl) (by kernel_rfl) (Or.inr ⟨by rfl, rfl⟩) hS ?_
    try simp only [Act.put, List.setIfInBounds_toArray, List.set_cons_zero, List.set_cons_succ]
    refine anyW_take (i := 20) (oi := ⟨some 25, _, _, _, _, _⟩) rfl (by kernel_rfl) (fun _ _ _ h => h) (by kernel_rfl) (by kernel_rfl) (Or.inr ⟨by rfl, rfl⟩) hS ?_
    try simp only [Act.put, List.setIfInBounds_toArray, List.set_cons_zero, List.set_cons_succ]
    refine anyW_take (i := 21) (oi := ⟨some 26, _, _, _, _, _⟩) rfl (by kernel_rfl) (fun _ _ _ h => h) (by kernel_rfl) (by kernel_rfl) (Or.inr ⟨by rfl, rfl⟩) hS ?_
    try simp only [Act.put, List.setIfInBounds_toArray, List.set_cons_zero, List.set_cons_succ]
    refine anyW_take (i := 22) (oi := ⟨some 27, _, _, _, _, _⟩) (v := ?_) rfl (by kernel_rfl) (fun _ _ _ h => h) (by kernel_rfl) (by kernel_rfl) (Or.inl ⟨by rfl, ?_⟩) hS ?_
    rotate_left 1
    · intro w' hB; skip; (go_simp <;> with_reducible rfl)
    try simp only [Act.put, List.setIfInBounds_toArray, List.set_cons_zero, List.set_cons_succ]
    refine anyW_take (i := 23) (oi := ⟨some 4, _, _, _, _, _⟩) (v := ?_) rfl (by kernel_rfl) (fun _ _ _ h => h) (by kernel_rfl) (by kernel_rfl) (Or.inl ⟨by rfl, ?_⟩) hS ?_
    rotate_left 1
    · intro w' hB; skip; (go_simp <;> with_reducible rfl)
    try simp only [Act.put, List.setIfInBounds_toArray, List.set_cons_zero, List.set_cons_succ]
    refine anyW_done (by kernel_rfl) (OnlyE.normal ?_) _
    clear hS
    gi_wp2
    go_ret
    exact .inl ⟨rfl, by rw [show pre ++ nodesLI .nil = pre from List.append_nil _]; exact ownFrom_to hJo HJ.out ((Below.refl _ W1).drew), KeepE.below ((Below.refl _ W1).drew) HSN.out⟩
  | node b l k v r ih1 ih2 =>
    intro pre W1 hSb hSN hJ hE hL
    have HE := Lib.hid hE
    have HJ := Lib.hid hJ
    have I1 := Lib.hid ih1
    have I2 := Lib.hid ih2
    have HB := Lib.hid hSb
    have HSN := Lib.hid hSN
    have hL' : pre ++ (nodesLI l ++ nodesLI r ++ [.node b l k v r]) <+: L := hL
    have L1 : Hid (pre ++ nodesLI l <+: L) := Lib.hid ((List.prefix_append (pre ++ nodesLI l) (nodesLI r ++ [.node b l k v r])).trans (by simpa using hL'))
    have L2 : Hid (pre ++ nodesLI l ++ nodesLI r <+: L) := Lib.hid ((List.prefix_append (pre ++ nodesLI l ++ nodesLI r) [.node b l k v r]).trans (by simpa using hL'))
    have L3 : Hid (pre ++ nodesLI l ++ nodesLI r ++ [.node b l k v r] <+: L) := Lib.hid (by simpa using hL')
    clear hE hJ ih1 ih2 hSb hSN hL hL'
    have hSd : EnvNI gb yb ll (.node b l k v r) W1.drew := HE.out.below ((Below.refl _ W1).drew)
    have D3 : Hid (Below W1.heap.size W1 W1.drew) := Lib.hid ((Below.refl _ W1).drew)
    have HJ2 : Hid (J pre W1.drew) := Lib.hid (ownFrom_to hJo HJ.out D3.out)
    have HS2 : Hid (∀ k, S k → k < W1.drew.heap.size) := Lib.hid (fun k hk => Nat.lt_of_lt_of_le (HSN.out k hk) D3.out.size)
    refine (callsIn_wide (n := 6)).1 ?_
    change CallsIn _ _ _ _ #[.pointer (some ⟨b, 0, none⟩), _, _] W1 _
    refine callsIn_of_wp Try.func47 rfl trivial ?_ rfl
    simp only [Try.ntmps47, List.size_toArray, List.length_cons, List.length_nil, Nat.reduceAdd, Nat.reduceSub, Array.replicate_succ, Array.replicate_zero, List.push_toArray, List.append_toArray, List.nil_append, List.cons_append]
    gi_wp2
    refine region_wide (S := (EnvNI gb yb ll (.node b l k v r))) (by kernel_rfl) (hSd) (fun hS => ?_)
    refine anyW_take (i := 0) (oi := ⟨some 5, _, _, _, _, _⟩) (v := ?_) rfl (by kernel_rfl) (fun _ _ _ h => h) (by kernel_rfl) (by kernel_rfl) (Or.inl ⟨by rfl, ?_⟩) hS ?_
    rotate_left 1
    · intro w' hB; obtain ⟨e2, e3, e4⟩ := hB; have c2 := cell_of_one e2; have c3 := cell_of_one e3; obtain ⟨x0, x1, x2, x3⟩ := e4.cellsP (pa l) (pa r) rfl rfl; clear e2 e3 e4; (go_simp <;> with_reducible rfl)
    try simp only [Act.put, List.setIfInBounds_toArray, List.set_cons_zero, List.set_cons_succ]
    refine anyW_take (i := 1) (oi := ⟨some 6, _, _, _, _, _⟩) (v := ?_) rfl (by kernel_rfl) (fun _ _ _ h => h) (by kernel_rfl) (by kernel_rfl) (Or.inl ⟨by rfl, ?_⟩) hS ?_
    rotate_left 1
    · intro w' hB; obtain ⟨e2, e3, e4⟩ := hB; have c2 := cell_of_one e2; have c3 := cell_of_one e3; obtain ⟨x0, x1, x2, x3⟩ := e4.cellsP (pa l) (pa r) rfl rfl; clear e2 e3 e4; (go_simp <;> with_reducible rfl)
    try simp only [Act.put, List.setIfInBounds_toArray, List.set_cons_zero, List.set_cons_succ]
    refine anyW_take (i := 2) (oi := ⟨some 7, _, _, _, _, _⟩) (v := ?_) rfl (by kernel_rfl) (fun _ _ _ h => h) (by kernel_rfl) (by kernel_rfl) (Or.inl ⟨by rfl, ?_⟩) hS ?_
    rotate_left 1
    · intro w' hB; obtain ⟨e2, e3, e4⟩ := hB; have c2 := cell_of_one e2; have c3 := cell_of_one e3; obtain ⟨x0, x1, x2, x3⟩ := e4.cellsP (pa l) (pa r) rfl rfl; clear e2 e3 e4; (go_simp <;> with_reducible rfl)
    try simp only [Act.put, List.setIfInBounds_toArray, List.set_cons_zero, List.set_cons_succ]
    refine anyW_take (i := 3) (oi := ⟨some 8, _, _, _, _, _⟩) (v := ?_) rfl (by kernel_rfl) (fun _ _ _ h => h) (by kernel_rfl) (by kernel_rfl) (Or.inl ⟨by rfl, ?_⟩) hS ?_
    rotate_left 1
    · intro w' hB; obtain ⟨e2, e3, e4⟩ := hB; have c2 := cell_of_one e2; have c3 := cell_of_one e3; obtain ⟨x0, x1, x2, x3⟩ := e4.cellsP (pa l) (pa r) rfl rfl; clear e2 e3 e4; (go_simp <;> with_reducible rfl)
    try simp only [Act.put, List.setIfInBounds_toArray, List.set_cons_zero, List.set_cons_succ]
    refine anyW_take (i := 4) (oi := ⟨some 9, _, _, _, _, _⟩) (v := ?_) rfl (by kernel_rfl) (fun _ _ _ h => h) (by kernel_rfl) (by kernel_rfl) (Or.inl ⟨by rfl, ?_⟩) hS ?_
    rotate_left 1
    · intro w' hB; obtain ⟨e2, e3, e4⟩ := hB; have c2 := cell_of_one e2; have c3 := cell_of_one e3; obtain ⟨x0, x1, x2, x3⟩ := e4.cellsP (pa l) (pa r) rfl rfl; clear e2 e3 e4; (go_simp <;> with_reducible rfl)
    try simp only [Act.put, List.setIfInBounds_toArray, List.set_cons_zero, List.set_cons_succ]
    refine anyW_take (i := 5) (oi := ⟨some 10, _, _, _, _, _⟩) (v := ?_) rfl (by kernel_rfl) (fun _ _ _ h => h) (by kernel_rfl) (by kernel_rfl) (Or.inl ⟨by rfl, ?_⟩) hS ?_
    rotate_left 1
    · intro w' hB; obtain ⟨e2, e3, e4⟩ := hB; have c2 := cell_of_one e2; have c3 := cell_of_one e3; obtain ⟨x0, x1, x2, x3⟩ := e4.cellsP (pa l) (pa r) rfl rfl; clear e2 e3 e4; (go_simp <;> with_reducible rfl)
    try simp only [Act.put, List.setIfInBounds_toArray, List.set_cons_zero, List.set_cons_succ]
    refine anyW_take (i := 6) (oi := ⟨some 11, _, _, _, _, _⟩) (v := ?_) rfl (by kernel_rfl) (fun _ _ _ h => h) (by kernel_rfl) (by kernel_rfl) (Or.inl ⟨by rfl, ?_⟩) hS ?_
    rotate_left 1
    · intro w' hB; obtain ⟨e2, e3, e4⟩ := hB; have c2 := cell_of_one e2; have c3 := cell_of_one e3; obtain ⟨x0, x1, x2, x3⟩ := e4.cellsP (pa l) (pa r) rfl rfl; clear e2 e3 e4; (go_simp <;> with_reducible rfl)
    try simp only [Act.put, List.setIfInBounds_toArray, List.set_cons_zero, List.set_cons_succ]
    refine anyW_take (i := 7) (oi := ⟨some 12, _, _, _, _, _⟩) (v := ?_) rfl (by kernel_rfl) (fun _ _ _ h => h) (by kernel_rfl) (by kernel_rfl) (Or.inl ⟨by rfl, ?_⟩) hS ?_
    rotate_left 1
    · intro w' hB; obtain ⟨e2, e3, e4⟩ := hB; have c2 := cell_of_one e2; have c3 := cell_of_one e3; obtain ⟨x0, x1, x2, x3⟩ := e4.cellsP (pa l) (pa r) rfl rfl; clear e2 e3 e4; (go_simp <;> with_reducible rfl)
    try simp only [Act.put, List.setIfInBounds_toArray, List.set_cons_zero, List.set_cons_succ]
    refine anyW_one (i := 8) (o := ⟨some 13, _, _, _, _, _⟩) (by kernel_rfl) rfl (by rfl) (fun K hK => ?_)
    refine op_wide ?_
    go_simp
    refine (I1.out pre _ (fun b' hb => HB.out b' (by simp [blocks, hb])) HS2.out HJ2.out ⟨hSd.g, hSd.y, hSd.a.2.1⟩ L1.out).mono ?_
    intro e w3 hh
    refine Or.elim hh (fun hq => ?alt1) (fun hq => ?alt2) <;> clear hh
    case' alt1 =>
      obtain ⟨rfl, hJ3, hK3⟩ := hq
      have hSn := hSd.keep hK3 h2 h3 HB.out h5
      have H3 : Hid (J (pre ++ nodesLI l) w3) := Lib.hid hJ3
      have K3 : Hid (KeepE M S Ex W1 w3) := Lib.hid ((KeepE.below D3.out HSN.out).trans hK3)
      clear hJ3 hK3
      refine hK.out _ _ hSn ?_
      clear hK K hS
      have hS := hSn
      clear hSn
      try simp only [Act.put, List.setIfInBounds_toArray, List.set_cons_zero, List.set_cons_succ]
      refine anyW_take (i := 9) (oi := ⟨some 14, _, _, _, _, _⟩) (v := ?_) rfl (by kernel_rfl) (fun _ _ _ h => h) (by kernel_rfl) (by kernel_rfl) (Or.inl ⟨by rfl, ?_⟩) hS ?_
      rotate_left 1
      · intro w' hB; obtain ⟨e2, e3, e4⟩ := hB; have c2 := cell_of_one e2; have c3 := cell_of_one e3; obtain ⟨x0, x1, x2, x3⟩ := e4.cellsP (pa l) (pa r) rfl rfl; clear e2 e3 e4; (go_simp <;> with_reducible rfl)
      try simp only [Act.put, List.setIfInBounds_toArray, List.set_cons_zero, List.set_cons_succ]
      refine anyW_take (i := 10) (oi := ⟨some 15, _, _, _, _, _⟩) (v := ?_) rfl (by kernel_rfl) (fun _ _ _ h => h) (by kernel_rfl) (by kernel_rfl) (Or.inl ⟨by rfl, ?_⟩) hS ?_
      rotate_left 1
      · intro w' hB; obtain ⟨e2, e3, e4⟩ := hB; have c2 := cell_of_one e2; have c3 := cell_of_one e3; obtain ⟨x0, x1, x2, x3⟩ := e4.cellsP (pa l) (pa r) rfl rfl; clear e2 e3 e4; (go_simp <;> with_reducible rfl)
      try simp only [Act.put, List.setIfInBounds_toArray, List.set_cons_zero, List.set_cons_succ]
      refine anyW_take (i := 11) (oi := ⟨some 16, _, _, _, _, _⟩) (v := ?_) rfl (by kernel_rfl) (fun _ _ _ h => h) (by kernel_rfl) (by kernel_rfl) (Or.inl ⟨by rfl, ?_⟩) hS ?_
      rotate_left 1
      · intro w' hB; obtain ⟨e2, e3, e4⟩ := hB; have c2 := cell_of_one e2; have c3 := cell_of_one e3; obtain ⟨x0, x1, x2, x3⟩ := e4.cellsP (pa l) (pa r) rfl rfl; clear e2 e3 e4; (go_simp <;> with_reducible rfl)
      try simp only [Act.put, List.setIfInBounds_toArray, List.set_cons_zero, List.set_cons_succ]
      refine anyW_take (i := 12) (oi := ⟨some 17, _, _, _, _, _⟩) (v := ?_) rfl (by kernel_rfl) (fun _ _ _ h => h) (by kernel_rfl) (by kernel_rfl) (Or.inl ⟨by rfl, ?_⟩) hS ?_
      rotate_left 1
      · intro w' hB; obtain ⟨e2, e3, e4⟩ := hB; have c2 := cell_of_one e2; have c3 := cell_of_one e3; obtain ⟨x0, x1, x2, x3⟩ := e4.cellsP (pa l) (pa r) rfl rfl; clear e2 e3 e4; (go_simp <;> with_reducible rfl)
      try simp only [Act.put, List.setIfInBounds_toArray, List.set_cons_zero, List.set_cons_succ]
      refine anyW_take (i := 13) (oi := ⟨some 18, _, _, _, _, _⟩) (v := ?_) rfl (by kernel_rfl) (fun _ _ _ h => h) (by kernel_rfl) (by kernel_rfl) (Or.inl ⟨by rfl, ?_⟩) hS ?_
      rotate_left 1
      · intro w' hB; obtain ⟨e2, e3, e4⟩ := hB; have c2 := cell_of_one e2; have c3 := cell_of_one e3; obtain ⟨x0, x1, x2, x3⟩ := e4.cellsP (pa l) (pa r) rfl rfl; clear e2 e3 e4; (go_simp <;> with_reducible rfl)
      try simp only [Act.put, List.setIfInBounds_toArray, List.set_cons_zero, List.set_cons_succ]
      refine anyW_take (i := 14) (oi := ⟨some 19, _, _, _, _, _⟩) (v := ?_) rfl (by kernel_rfl) (fun _ _ _ h => h) (by kernel_rfl) (by kernel_rfl) (Or.inl ⟨by rfl, ?_⟩) hS ?_
      rotate_left 1
      · intro w' hB; obtain ⟨e2, e3, e4⟩ := hB; have c2 := cell_of_one e2; have c3 := cell_of_one e3; obtain ⟨x0, x1, x2, x3⟩ := e4.cellsP (pa l) (pa r) rfl rfl; clear e2 e3 e4; (go_simp <;> with_reducible rfl)
      try simp only [Act.put, List.setIfInBounds_toArray, List.set_cons_zero, List.set_cons_succ]
      refine anyW_one (i := 15) (o := ⟨some 20, _, _, _, _, _⟩) (by kernel_rfl) rfl (by rfl) (fun K hK => ?_)
      refine op_wide ?_
      go_simp
      refine (I2.out _ _ (fun b' hb => HB.out b' (by simp [blocks, hb])) (fun k hk => Nat.lt_of_lt_of_le (HSN.out k hk) K3.out.size) H3.out ⟨hS.g, hS.y, hS.a.2.2⟩ L2.out).mono ?_
      intro e w4 hh
      refine Or.elim hh (fun hq => ?alt3) (fun hq => ?alt4) <;> clear hh
      case' alt3 =>
        obtain ⟨rfl, hJ4, hK4⟩ := hq
        have hSn := hS.keep hK4 h2 h3 HB.out h5
        have H4 : Hid (J (pre ++ nodesLI l ++ nodesLI r) w4) := Lib.hid hJ4
        have K4 : Hid (KeepE M S Ex W1 w4) := Lib.hid (K3.out.trans hK4)
        clear hJ4 hK4 H3 K3
        refine hK.out _ _ hSn ?_
        clear hK K hS
        have hS := hSn
        clear hSn
        try simp only [Act.put, List.setIfInBounds_toArray, List.set_cons_zero, List.set_cons_succ]
        refine anyW_take (i := 16) (oi := ⟨some 21, _, _, _, _, _⟩) (v := ?_) rfl (by kernel_rfl) (fun _ _ _ h => h) (by kernel_rfl) (by kernel_rfl) (Or.inl ⟨by rfl, ?_⟩) hS ?_
        rotate_left 1
        · intro w' hB; obtain ⟨e2, e3, e4⟩ := hB; have c2 := cell_of_one e2; have c3 := cell_of_one e3; obtain ⟨x0, x1, x2, x3⟩ := e4.cellsP (pa l) (pa r) rfl rfl; clear e2 e3 e4; (go_simp <;> with_reducible rfl)
        try simp only [Act.put, List.setIfInBounds_toArray, List.set_cons_zero, List.set_cons_succ]
        refine anyW_take (i := 17) (oi := ⟨some 22, _, _, _, _, _⟩) (v := ?_) rfl (by kernel_rfl) (fun _ _ _ h => h) (by kernel_rfl) (by kernel_rfl) (Or.inl ⟨by rfl, ?_⟩) hS ?_
        rotate_left 1
        · intro w' hB; obtain ⟨e2, e3, e4⟩ := hB; have c2 := cell_of_one e2; have c3 := cell_of_one e3; obtain ⟨x0, x1, x2, x3⟩ := e4.cellsP (pa l) (pa r) rfl rfl; clear e2 e3 e4; (go_simp <;> with_reducible rfl)
        try simp only [Act.put, List.setIfInBounds_toArray, List.set_cons_zero, List.set_cons_succ]
        refine anyW_take (i := 18) (oi := ⟨some 23, _, _, _, _, _⟩) (v := ?_) rfl (by kernel_rfl) (fun _ _ _ h => h) (by kernel_rfl) (by kernel_rfl) (Or.inl ⟨by rfl, ?_⟩) hS ?_
        rotate_left 1
        · intro w' hB; obtain ⟨e2, e3, e4⟩ := hB; have c2 := cell_of_one e2; have c3 := cell_of_one e3; obtain ⟨x0, x1, x2, x3⟩ := e4.cellsP (pa l) (pa r) rfl rfl; clear e2 e3 e4; (go_simp <;> with_reducible rfl)
        try simp only [Act.put, List.setIfInBounds_toArray, List.set_cons_zero, List.set_cons_succ]
        refine anyW_take (i := 19) (oi := ⟨some 24, _, _, _, _, _⟩) (v := ?_) rfl (by kernel_rfl) (fun _ _ _ h => h) (by kernel_rfl) (by kernel_rfl) (Or.inl ⟨by rfl, ?_⟩) hS ?_
        rotate_left 1
        · intro w' hB; obtain ⟨e2, e3, e4⟩ := hB; have c2 := cell_of_one e2; have c3 := cell_of_one e3; obtain ⟨x0, x1, x2, x3⟩ := e4.cellsP (pa l) (pa r) rfl rfl; clear e2 e3 e4; (go_simp <;> with_reducible rfl)
        try simp only [Act.put, List.setIfInBounds_toArray, List.set_cons_zero, List.set_cons_succ]
        refine anyW_one (i := 20) (o := ⟨some 25, _, _, _, _, _⟩) (by kernel_rfl) rfl (by rfl) (fun K hK => ?_)
        obtain ⟨fn, tmps, assign, body', hyy, hRR⟩ := yieldW (m' := 5) (HY.out _ (.node b l k v r) _ H4.out L3.out)
        simp only [encNI, pa] at hyy
        refine yield_wide (l := ll) (vals := #[.pointer (some ⟨b, 0, none⟩)]) rfl rfl (by simp only [List.map_toArray, List.map_cons, List.map_nil]; rfl) hyy ?_
        refine ((roundW hRR)).mono ?_
        intro e w5 hh
        refine Or.elim hh (fun hq => ?alt5) (fun hq => ?alt6) <;> clear hh
        case' alt5 =>
          obtain ⟨rfl, hJ5, hK5⟩ := hq
          have hSn := hS.keep hK5 h2 h3 HB.out h5
          have H5 : Hid (J (pre ++ nodesLI l ++ nodesLI r ++ [.node b l k v r]) w5 ∧ KeepE M S Ex W1 w5) := Lib.hid ⟨hJ5, K4.out.trans hK5⟩
          clear hJ5 hK5 hyy hRR
          refine hK.out _ _ hSn ?_
          clear hK K hS
          have hS := hSn
          clear hSn
          try simp only [Act.put, List.setIfInBounds_toArray, List.set_cons_zero, List.set_cons_succ]
          refine anyW_take (i := 21) (oi := ⟨some 26, _, _, _, _, _⟩) (v := ?_) rfl (by kernel_rfl) (fun _ _ _ h => h) (by kernel_rfl) (by kernel_rfl) (Or.inl ⟨by rfl, ?_⟩) hS ?_
          rotate_left 1
          · intro w' hB; obtain ⟨e2, e3, e4⟩ := hB; have c2 := cell_of_one e2; have c3 := cell_of_one e3; obtain ⟨x0, x1, x2, x3⟩ := e4.cellsP (pa l) (pa r) rfl rfl; clear e2 e3 e4; (go_simp <;> with_reducible rfl)
          try simp only [Act.put, List.setIfInBounds_toArray, List.set_cons_zero, List.set_cons_succ]
          refine anyW_take (i := 22) (oi := ⟨some 27, _, _, _, _, _⟩) (v := ?_) rfl (by kernel_rfl) (fun _ _ _ h => h) (by kernel_rfl) (by kernel_rfl) (Or.inl ⟨by rfl, ?_⟩) hS ?_
          rotate_left 1
          · intro w' hB; obtain ⟨e2, e3, e4⟩ := hB; have c2 := cell_of_one e2; have c3 := cell_of_one e3; obtain ⟨x0, x1, x2, x3⟩ := e4.cellsP (pa l) (pa r) rfl rfl; clear e2 e3 e4; (go_simp <;> with_reducible rfl)
          try simp only [Act.put, List.setIfInBounds_toArray, List.set_cons_zero, List.set_cons_succ]
          refine anyW_take (i := 23) (oi := ⟨some 4, _, _, _, _, _⟩) (v := ?_) rfl (by kernel_rfl) (fun _ _ _ h => h) (by kernel_rfl) (by kernel_rfl) (Or.inl ⟨by rfl, ?_⟩) hS ?_
          rotate_left 1
          · intro w' hB; obtain ⟨e2, e3, e4⟩ := hB; have c2 := cell_of_one e2; have c3 := cell_of_one e3; obtain ⟨x0, x1, x2, x3⟩ := e4.cellsP (pa l) (pa r) rfl rfl; clear e2 e3 e4; (go_simp <;> with_reducible rfl)
          try simp only [Act.put, List.setIfInBounds_toArray, List.set_cons_zero, List.set_cons_succ]
          refine anyW_done (by kernel_rfl) (OnlyE.normal ?_) _
        case' alt6 =>
          obtain ⟨rfl, hJ5, hK5⟩ := hq
          have hSn := hS.keep hK5 h2 h3 HB.out h5
          have H5 : Hid ((∃ pre', pre' <+: L ∧ Jx pre' w5) ∧ KeepE M S Ex W1 w5) := Lib.hid ⟨⟨_, L3.out, hJ5⟩, K4.out.trans hK5⟩
          clear hJ5 hK5 hyy hRR
          refine hK.out _ _ hSn ?_
          clear hK K hS
          have hS := hSn
          clear hSn
          try simp only [Act.put, List.setIfInBounds_toArray, List.set_cons_zero, List.set_cons_succ]
          refine anyW_take (i := 21) (oi := ⟨some 26, _, _, _, _, _⟩) (v := ?_) rfl (by kernel_rfl) (fun _ _ _ h => h) (by kernel_rfl) (by kernel_rfl) (Or.inl ⟨by rfl, ?_⟩) hS ?_
          rotate_left 1
          · intro w' hB; obtain ⟨e2, e3, e4⟩ := hB; have c2 := cell_of_one e2; have c3 := cell_of_one e3; obtain ⟨x0, x1, x2, x3⟩ := e4.cellsP (pa l) (pa r) rfl rfl; clear e2 e3 e4; (go_simp <;> with_reducible rfl)
          try simp only [Act.put, List.setIfInBounds_toArray, List.set_cons_zero, List.set_cons_succ]
          refine anyW_take (i := 22) (oi := ⟨some 27, _, _, _, _, _⟩) (v := ?_) rfl (by kernel_rfl) (fun _ _ _ h => h) (by kernel_rfl) (by kernel_rfl) (Or.inl ⟨by rfl, ?_⟩) hS ?_
          rotate_left 1
          · intro w' hB; obtain ⟨e2, e3, e4⟩ := hB; have c2 := cell_of_one e2; have c3 := cell_of_one e3; obtain ⟨x0, x1, x2, x3⟩ := e4.cellsP (pa l) (pa r) rfl rfl; clear e2 e3 e4; (go_simp <;> with_reducible rfl)
          try simp only [Act.put, List.setIfInBounds_toArray, List.set_cons_zero, List.set_cons_succ]
          refine anyW_take (i := 23) (oi := ⟨some 4, _, _, _, _, _⟩) (v := ?_) rfl (by kernel_rfl) (fun _ _ _ h => h) (by kernel_rfl) (by kernel_rfl) (Or.inl ⟨by rfl, ?_⟩) hS ?_
          rotate_left 1
          · intro w' hB; obtain ⟨e2, e3, e4⟩ := hB; have c2 := cell_of_one e2; have c3 := cell_of_one e3; obtain ⟨x0, x1, x2, x3⟩ := e4.cellsP (pa l) (pa r) rfl rfl; clear e2 e3 e4; (go_simp <;> with_reducible rfl)
          try simp only [Act.put, List.setIfInBounds_toArray, List.set_cons_zero, List.set_cons_succ]
          refine anyW_done (by kernel_rfl) (OnlyE.normal ?_) _
      case' alt4 =>
        obtain ⟨rfl, hJ4, hK4⟩ := hq
        have hSn := hS.keep hK4 h2 h3 HB.out h5
        have H5 : Hid ((∃ pre', pre' <+: L ∧ Jx pre' w4) ∧ KeepE M S Ex W1 w4) := Lib.hid ⟨hJ4, K3.out.trans hK4⟩
        clear hJ4 hK4 K3 H3
        refine hK.out _ _ hSn ?_
        clear hK K hS
        have hS := hSn
        clear hSn
        try simp only [Act.put, List.setIfInBounds_toArray, List.set_cons_zero, List.set_cons_succ]
        refine anyW_take (i := 16) (oi := ⟨some 21, _, _, _, _, _⟩) (v := ?_) rfl (by kernel_rfl) (fun _ _ _ h => h) (by kernel_rfl) (by kernel_rfl) (Or.inl ⟨by rfl, ?_⟩) hS ?_
        rotate_left 1
        · intro w' hB; obtain ⟨e2, e3, e4⟩ := hB; have c2 := cell_of_one e2; have c3 := cell_of_one e3; obtain ⟨x0, x1, x2, x3⟩ := e4.cellsP (pa l) (pa r) rfl rfl; clear e2 e3 e4; (go_simp <;> with_reducible rfl)
        try simp only [Act.put, List.setIfInBounds_toArray, List.set_cons_zero, List.set_cons_succ]
        refine anyW_take (i := 17) (oi := ⟨some 22, _, _, _, _, _⟩) (v := ?_) rfl (by kernel_rfl) (fun _ _ _ h => h) (by kernel_rfl) (by kernel_rfl) (Or.inl ⟨by rfl, ?_⟩) hS ?_
        rotate_left 1
        · intro w' hB; obtain ⟨e2, e3, e4⟩ := hB; have c2 := cell_of_one e2; have c3 := cell_of_one e3; obtain ⟨x0, x1, x2, x3⟩ := e4.cellsP (pa l) (pa r) rfl rfl; clear e2 e3 e4; (go_simp <;> with_reducible rfl)
        try simp only [Act.put, List.setIfInBounds_toArray, List.set_cons_zero, List.set_cons_succ]
        refine anyW_take (i := 18) (oi := ⟨some 23, _, _, _, _, _⟩) rfl (by kernel_rfl) (fun _ _ _ h => h) (by kernel_rfl) (by kernel_rfl) (Or.inr ⟨by rfl, rfl⟩) hS ?_
        try simp only [Act.put, List.setIfInBounds_toArray, List.set_cons_zero, List.set_cons_succ]
        refine anyW_take (i := 19) (oi := ⟨some 24, _, _, _, _, _⟩) rfl (by kernel_rfl) (fun _ _ _ h => h) (by kernel_rfl) (by kernel_rfl) (Or.inr ⟨by rfl, rfl⟩) hS ?_
        try simp only [Act.put, List.setIfInBounds_toArray, List.set_cons_zero, List.set_cons_succ]
        refine anyW_take (i := 20) (oi := ⟨some 25, _, _, _, _, _⟩) rfl (by kernel_rfl) (fun _ _ _ h => h) (by kernel_rfl) (by kernel_rfl) (Or.inr ⟨by rfl, rfl⟩) hS ?_
        try simp only [Act.put, List.setIfInBounds_toArray, List.set_cons_zero, List.set_cons_succ]
        refine anyW_take (i := 21) (oi := ⟨some 26, _, _, _, _, _⟩) (v := ?_) rfl (by kernel_rfl) (fun _ _ _ h => h) (by kernel_rfl) (by kernel_rfl) (Or.inl ⟨by rfl, ?_⟩) hS ?_
        rotate_left 1
        · intro w' hB; obtain ⟨e2, e3, e4⟩ := hB; have c2 := cell_of_one e2; have c3 := cell_of_one e3; obtain ⟨x0, x1, x2, x3⟩ := e4.cellsP (pa l) (pa r) rfl rfl; clear e2 e3 e4; (go_simp <;> with_reducible rfl)
        try simp only [Act.put, List.setIfInBounds_toArray, List.set_cons_zero, List.set_cons_succ]
        refine anyW_take (i := 22) (oi := ⟨some 27, _, _, _, _, _⟩) (v := ?_) rfl (by kernel_rfl) (fun _ _ _ h => h) (by kernel_rfl) (by kernel_rfl) (Or.inl ⟨by rfl, ?_⟩) hS ?_
        rotate_left 1
        · intro w' hB; obtain ⟨e2, e3, e4⟩ := hB; have c2 := cell_of_one e2; have c3 := cell_of_one e3; obtain ⟨x0, x1, x2, x3⟩ := e4.cellsP (pa l) (pa r) rfl rfl; clear e2 e3 e4; (go_simp <;> with_reducible rfl)
        try simp only [Act.put, List.setIfInBounds_toArray, List.set_cons_zero, List.set_cons_succ]
        refine anyW_take (i := 23) (oi := ⟨some 4, _, _, _, _, _⟩) (v := ?_) rfl (by kernel_rfl) (fun _ _ _ h => h) (by kernel_rfl) (by kernel_rfl) (Or.inl ⟨by rfl, ?_⟩) hS ?_
        rotate_left 1
        · intro w' hB; obtain ⟨e2, e3, e4⟩ := hB; have c2 := cell_of_one e2; have c3 := cell_of_one e3; obtain ⟨x0, x1, x2, x3⟩ := e4.cellsP (pa l) (pa r) rfl rfl; clear e2 e3 e4; (go_simp <;> with_reducible rfl)
        try simp only [Act.put, List.setIfInBounds_toArray, List.set_cons_zero, List.set_cons_succ]
        refine anyW_done (by kernel_rfl) (OnlyE.normal ?_) _
    case' alt2 =>
      obtain ⟨rfl, hJ3, hK3⟩ := hq
      have hSn := hSd.keep hK3 h2 h3 HB.out h5
      have H5 : Hid ((∃ pre', pre' <+: L ∧ Jx pre' w3) ∧ KeepE M S Ex W1 w3) := Lib.hid ⟨hJ3, (KeepE.below D3.out HSN.out).trans hK3⟩
      clear hJ3 hK3
      refine hK.out _ _ hSn ?_
      clear hK K hS
      have hS := hSn
      clear hSn
      try simp only [Act.put, List.setIfInBounds_toArray, List.set_cons_zero, List.set_cons_succ]
      refine anyW_take (i := 9) (oi := ⟨some 14, _, _, _, _, _⟩) (v := ?_) rfl (by kernel_rfl) (fun _ _ _ h => h) (by kernel_rfl) (by kernel_rfl) (Or.inl ⟨by rfl, ?_⟩) hS ?_
      rotate_left 1
      · intro w' hB; obtain ⟨e2, e3, e4⟩ := hB; have c2 := cell_of_one e2; have c3 := cell_of_one e3; obtain ⟨x0, x1, x2, x3⟩ := e4.cellsP (pa l) (pa r) rfl rfl; clear e2 e3 e4; (go_simp <;> with_reducible rfl)
      try simp only [Act.put, List.setIfInBounds_toArray, List.set_cons_zero, List.set_cons_succ]
      refine anyW_take (i := 10) (oi := ⟨some 15, _, _, _, _, _⟩) rfl (by kernel_rfl) (fun _ _ _ h => h) (by kernel_rfl) (by kernel_rfl) (Or.inr ⟨by rfl, rfl⟩) hS ?_
      try simp only [Act.put, List.setIfInBounds_toArray, List.set_cons_zero, List.set_cons_succ]
      refine anyW_take (i := 11) (oi := ⟨some 16, _, _, _, _, _⟩) rfl (by kernel_rfl) (fun _ _ _ h => h) (by kernel_rfl) (by kernel_rfl) (Or.inr ⟨by rfl, rfl⟩) hS ?_
      try simp only [Act.put, List.setIfInBounds_toArray, List.set_cons_zero, List.set_cons_succ]
      refine anyW_take (i := 12) (oi := ⟨some 17, _, _, _, _, _⟩) rfl (by kernel_rfl) (fun _ _ _ h => h) (by kernel_rfl) (by kernel_rfl) (Or.inr ⟨by rfl, rfl⟩) hS ?_
      try simp only [Act.put, List.setIfInBounds_toArray, List.set_cons_zero, List.set_cons_succ]
      refine anyW_take (i := 13) (oi := ⟨some 18, _, _, _, _, _⟩) rfl (by kernel_rfl) (fun _ _ _ h => h) (by kernel_rfl) (by kernel_rfl) (Or.inr ⟨by rfl, rfl⟩) hS ?_
      try simp only [Act.put, List.setIfInBounds_toArray, List.set_cons_zero, List.set_cons_succ]
      refine anyW_take (i := 14) (oi := ⟨some 19, _, _, _, _, _⟩) rfl (by kernel_rfl) (fun _ _ _ h => h) (by kernel_rfl) (by kernel_rfl) (Or.inr ⟨by rfl, rfl⟩) hS ?_
      try simp only [Act.put, List.setIfInBounds_toArray, List.set_cons_zero, List.set_cons_succ]
      refine anyW_take (i := 15) (oi := ⟨some 20, _, _, _, _, _⟩) rfl (by kernel_rfl) (fun _ _ _ h => h) (by kernel_rfl) (by kernel_rfl) (Or.inr ⟨by rfl, rfl⟩) hS ?_
      try simp only [Act.put, List.setIfInBounds_toArray, List.set_cons_zero, List.set_cons_succ]
      refine anyW_take (i := 16) (oi := ⟨some 21, _, _, _, _, _⟩) (v := ?_) rfl (by kernel_rfl) (fun _ _ _ h => h) (by kernel_rfl) (by kernel_rfl) (Or.inl ⟨by rfl, ?_⟩) hS ?_
      rotate_left 1
      · intro w' hB; obtain ⟨e2, e3, e4⟩ := hB; have c2 := cell_of_one e2; have c3 := cell_of_one e3; obtain ⟨x0, x1, x2, x3⟩ := e4.cellsP (pa l) (pa r) rfl rfl; clear e2 e3 e4; (go_simp <;> with_reducible rfl)
      try simp only [Act.put, List.setIfInBounds_toArray, List.set_cons_zero, List.set_cons_succ]
      refine anyW_take (i := 17) (oi := ⟨some 22, _, _, _, _, _⟩) (v := ?_) rfl (by kernel_rfl) (fun _ _ _ h => h) (by kernel_rfl) (by kernel_rfl) (Or.inl ⟨by rfl, ?_⟩) hS ?_
      rotate_left 1
      · intro w' hB; obtain ⟨e2, e3, e4⟩ := hB; have c2 := cell_of_one e2; have c3 := cell_of_one e3; obtain ⟨x0, x1, x2, x3⟩ := e4.cellsP (pa l) (pa r) rfl rfl; clear e2 e3 e4; (go_simp <;> with_reducible rfl)
      try simp only [Act.put, List.setIfInBounds_toArray, List.set_cons_zero, List.set_cons_succ]
      refine anyW_take (i := 18) (oi := ⟨some 23, _, _, _, _, _⟩) rfl (by kernel_rfl) (fun _ _ _ h => h) (by kernel_rfl) (by kernel_rfl) (Or.inr ⟨by rfl, rfl⟩) hS ?_
      try simp only [Act.put, List.setIfInBounds_toArray, List.set_cons_zero, List.set_cons_succ]
      refine anyW_take (i := 19) (oi := ⟨some 24, _, _, _, _, _⟩) rfl (by kernel_rfl) (fun _ _ _ h => h) (by kernel_rfl) (by kernel_rfl) (Or.inr ⟨by rfl, rfl⟩) hS ?_
      try simp only [Act.put, List.setIfInBounds_toArray, List.set_cons_zero, List.set_cons_succ]
      refine anyW_take (i := 20) (oi := ⟨some 25, _, _, _, _, _⟩) rfl (by kernel_rfl) (fun _ _ _ h => h) (by kernel_rfl) (by kernel_rfl) (Or.inr ⟨by rfl, rfl⟩) hS ?_
      try simp only [Act.put, List.setIfInBounds_toArray, List.set_cons_zero, List.set_cons_succ]
      refine anyW_take (i := 21) (oi := ⟨some 26, _, _, _, _, _⟩) (v := ?_) rfl (by kernel_rfl) (fun _ _ _ h => h) (by kernel_rfl) (by kernel_rfl) (Or.inl ⟨by rfl, ?_⟩) hS ?_
      rotate_left 1
      · intro w' hB; obtain ⟨e2, e3, e4⟩ := hB; have c2 := cell_of_one e2; have c3 := cell_of_one e3; obtain ⟨x0, x1, x2, x3⟩ := e4.cellsP (pa l) (pa r) rfl rfl; clear e2 e3 e4; (go_simp <;> with_reducible rfl)
      try simp only [Act.put, List.setIfInBounds_toArray, List.set_cons_zero, List.set_cons_succ]
      refine anyW_take (i := 22) (oi := ⟨some 27, _, _, _, _, _⟩) (v := ?_) rfl (by kernel_rfl) (fun _ _ _ h => h) (by kernel_rfl) (by kernel_rfl) (Or.inl ⟨by rfl, ?_⟩) hS ?_
      rotate_left 1
      · intro w' hB; obtain ⟨e2, e3, e4⟩ := hB; have c2 := cell_of_one e2; have c3 := cell_of_one e3; obtain ⟨x0, x1, x2, x3⟩ := e4.cellsP (pa l) (pa r) rfl rfl; clear e2 e3 e4; (go_simp <;> with_reducible rfl)
      try simp only [Act.put, List.setIfInBounds_toArray, List.set_cons_zero, List.set_cons_succ]
      refine anyW_take (i := 23) (oi := ⟨some 4, _, _, _, _, _⟩) (v := ?_) rfl (by kernel_rfl) (fun _ _ _ h => h) (by kernel_rfl) (by kernel_rfl) (Or.inl ⟨by rfl, ?_⟩) hS ?_
      rotate_left 1
      · intro w' hB; obtain ⟨e2, e3, e4⟩ := hB; have c2 := cell_of_one e2; have c3 := cell_of_one e3; obtain ⟨x0, x1, x2, x3⟩ := e4.cellsP (pa l) (pa r) rfl rfl; clear e2 e3 e4; (go_simp <;> with_reducible rfl)
      try simp only [Act.put, List.setIfInBounds_toArray, List.set_cons_zero, List.set_cons_succ]
      refine anyW_done (by kernel_rfl) (OnlyE.normal ?_) _
    all_goals
      clear hS
      gi_wp2
      go_ret
      first | exact .inl ⟨rfl, by simpa [nodesLI] using H5.out.1, H5.out.2⟩ | exact .inr ⟨rfl, H5.out⟩
set_option maxRecDepth 100000 in
set_option maxHeartbeats 2000000 in
theorem pm_nodes_iterI (n : Nat) (t : Tr Int) (mb : Nat) (w : World) (S : Nat → Prop) (Ex : TypeId → Prop)
    (hm : Boxed w mb 29 (.pointer (pa t))) (ha : AtI w t) (hSt : ∀ b ∈ blocks t, S b) (hSN : ∀ k, S k → k < w.heap.size) (h5 : ¬ Ex 89) :
    Iter2 n Try.prog 46 #[.pointer (some ⟨mb, 0, none⟩)] encNI (KeepE (w.heap.size + 2) S Ex)
      (fun pre x _ => pre ++ [x] <+: nodesLI t) (fun _ xs W2 W' => xs = nodesLI t ∧ W2 = W') (fun pre => pre <+: nodesLI t) w := by
  intro ll J Jx W hW hW2 hJo hJxo hY h0
  have hmW : Boxed W mb 29 (.pointer (pa t)) := boxStays hm hW
  obtain ⟨s, hs⟩ : ∃ s, s = W.heap.size := ⟨_, rfl⟩
  obtain ⟨gv, hgv⟩ : ∃ gv : Value, gv = .func (.func 47) #[] #[.pointer (some ⟨s + 1, 0, none⟩), .pointer (some ⟨s, 0, none⟩)] := ⟨_, rfl⟩
  obtain ⟨Wb, hWb⟩ : ∃ Wb, (W.alloc (.cells #[.func (.yield ll) #[] #[]] 89)).alloc (.cells #[gv] 89) = Wb := ⟨_, rfl⟩
  have g1 : Boxed Wb s 89 (.func (.yield ll) #[] #[]) := by rw [← hWb, hs]; exact (Boxed.new W _ _).alloc _
  have g2 : Boxed Wb (s + 1) 89 gv := by
    have h1 := Boxed.new (W.alloc (.cells #[.func (.yield ll) #[] #[]] 89)) 89 gv
    rw [World.size_alloc, ← hs] at h1
    rw [← hWb]; exact h1
  have hbw : Below W.heap.size W Wb := by rw [← hWb]; exact ((Below.refl _ W).alloc (Nat.le_refl _) _).alloc (by simp) _
  have hsw : w.heap.size + 2 ≤ s := by rw [hs]; exact hW2
  have g4 : Boxed Wb mb 29 (.pointer (pa t)) := boxStays hmW hbw
  have g5 : AtI Wb t := (ha.below hW rfl).below hbw rfl
  have hJb : J [] Wb := ownFrom_to hJo h0 hbw
  have GO := Lib.hid (go1_nodesI (s + 1) s ll (w.heap.size + 2) S Ex (nodesLI t) J Jx _ hJo (by omega) (by omega) h5 (fun pre x W1 hj hx => yieldW (hY pre x W1 hj hx)) t [] Wb hSt
    (fun k hk => Nat.lt_of_lt_of_le (hSN k hk) (Nat.le_trans hW.size hbw.size)) hJb ⟨by rw [← hgv]; exact g2, g1, g5⟩ (by simp))
  have k4 := cell_of_one g4
  rw [hgv] at hWb
  subst hs
  rw [← hWb] at k4
  have HW := Lib.hid hWb
  clear hY hJb g1 g2 g4 g5 hbw h0 hWb hmW hJo hJxo ha hm hSN hgv
  refine callsIn_of_wp Try.func46 rfl trivial ?_ rfl
  simp only [Try.ntmps46, List.size_toArray, List.length_cons, List.length_nil, Nat.reduceAdd, Nat.reduceSub, Array.replicate_succ, Array.replicate_zero, List.push_toArray, List.append_toArray, List.nil_append, List.cons_append]
  gi_wp2
  rw [HW.out]
  refine ⟨trivial, fun hh => (by cases (show false = true from hh)), ?_⟩
  refine (callsIn_wide.2 GO.out).mono ?_
  rintro e W' (⟨rfl, hJ', _⟩ | ⟨rfl, ⟨pre', hp, hJx'⟩, _⟩)
  · gi_wp2
    go_end0
    exact ⟨⟨_, rfl⟩, .inl ⟨nodesLI t, _, by simpa using hJ', rfl, rfl⟩⟩
  · gi_wp2
    go_end0
    exact ⟨⟨_, rfl⟩, .inr ⟨pre', hp, hJx'⟩⟩
theorem pm_MNodesI (t : Tr Int) (w : World) : Calls Try.prog 33 #[.agg #[.pointer (pa t)]] w fun e w' =>
    ∃ mb, e = .returned (.func (.func 46) #[] #[.pointer (some ⟨mb, 0, none⟩)]) ∧ w.heap.size ≤ mb ∧ Boxed w' mb 29 (.pointer (pa t)) ∧ Below w.heap.size w w' := by
  go_enter Try.func33, Try.ntmps33
  go_wp2_with fail
  go_ret
  exact ⟨w.heap.size, rfl, Nat.le_refl _, Boxed.new w _ _, below_new _ _⟩
end Go.Proofs.Ytdodkhhlbjamhaa

