
/- Walks: the law's nodes. -/
import Derived.Test.YtikdlhbamdefaaaLwC
import Derived.OwnWalkIn
namespace Go.Proofs.Ytikdlhbamdefaaa
open Go.RowKit Pm
attribute [local go_sem] Oper.semAt_some
theorem calls_exact {P : Program} {f : Nat} {args : Array Value} {w : World} {v : Value} (h : Calls P f args w fun e w' => e = .returned v ∧ w = w') : Calls P f args w fun e w' => e = .returned v ∧ Below w.heap.size w w' :=
  h.mono (by rintro e w' ⟨rfl, rfl⟩; exact ⟨rfl, Below.refl _ _⟩)
theorem KeepE.grown {M : Nat} {S : Nat → Prop} {Ex : TypeId → Prop} {A B : World} {base size k : Nat} {e : TypeId} {v : Value} {xs : List Value} (hown : A.ownsRow base e size v k xs) (hg : A.grownBy B v.ownBlock) (he : Ex e) (hS : ∀ k, S k → k < base) (hSN : ∀ k, S k → k < A.heap.size) : KeepE M S Ex A B := by
  refine ⟨hg.1, hg.2, hg.3, hg.size, fun k hk => hg.block k (hSN k hk) (fun e' => ?_), fun k o hM ho ht => ?_⟩
  · have := (hown.lt k e'.symm).1
    have := hS k hk
    omega
  · refine (hg.block k (Array.getElem?_eq_some_iff.1 ho).1 (fun e' => ?_)).trans ho
    rcases hown.2 with ⟨rfl, _⟩ | ⟨g, cap, cur, rfl, _, hgb, _⟩
    · simp [Value.ownBlock] at e'
    · obtain rfl : k = g := by simpa [Value.ownBlock] using e'
      rw [hgb] at ho
      cases ho
      exact ht _ _ _ rfl he
/-- In the order in which nodes are gone over, a node's sides come ahead of it. -/
theorem nodesL_sides : ∀ (t : Tr Int) (pre suf : List (Tr Int)) (b : Nat) (l r : Tr Int) (k : ByteArray) (v : Int), nodesLI t = pre ++ .node b l k v r :: suf → (∀ y ∈ nodesLI l, y ∈ pre) ∧ (∀ y ∈ nodesLI r, y ∈ pre)
  | .nil, pre, suf, b, l, r, k, v, h => by simp [nodesLI] at h
  | .node b' l' k' v' r', pre, suf, b, l, r, k, v, h => by
    simp only [nodesLI] at h
    rcases List.append_eq_append_iff.1 h with ⟨a, h1, h2⟩ | ⟨c, h1, h2⟩
    · have ha : a = [] ∧ Tr.node b' l' k' v' r' = .node b l k v r := by
        cases a with
        | nil => exact ⟨rfl, (List.cons.inj h2).1⟩
        | cons x a => have := congrArg List.length h2; simp at this
      obtain ⟨rfl, he⟩ := ha
      cases he
      rw [List.append_nil] at h1
      rw [h1]
      exact ⟨fun y hy => List.mem_append_left _ hy, fun y hy => List.mem_append_right _ hy⟩
    · cases c with
      | nil =>
        have he : Tr.node b l k v r = .node b' l' k' v' r' := (List.cons.inj h2).1
        cases he
        rw [List.append_nil] at h1
        rw [← h1]
        exact ⟨fun y hy => List.mem_append_left _ hy, fun y hy => List.mem_append_right _ hy⟩
      | cons x c =>
        simp only [List.cons_append, List.cons.injEq] at h2
        obtain ⟨rfl, _⟩ := h2
        rcases List.append_eq_append_iff.1 h1 with ⟨a, h3, h4⟩ | ⟨d, h3, h4⟩
        · obtain ⟨i1, i2⟩ := nodesL_sides r' a c b l r k v h4
          rw [h3]
          exact ⟨fun y hy => List.mem_append_right _ (i1 y hy), fun y hy => List.mem_append_right _ (i2 y hy)⟩
        · cases d with
          | nil =>
            rw [List.append_nil] at h3
            rw [List.nil_append] at h4
            obtain ⟨i1, i2⟩ := nodesL_sides r' [] c b l r k v h4.symm
            exact ⟨fun y hy => (by cases i1 y hy), fun y hy => (by cases i2 y hy)⟩
          | cons x d =>
            simp only [List.cons_append, List.cons.injEq] at h4
            obtain ⟨rfl, _⟩ := h4
            exact nodesL_sides l' pre d b l r k v h3
theorem nodesL_at (w : World) : ∀ (t : Tr Int), AtI w t → ∀ y ∈ nodesLI t, AtI w y
  | .nil, _, y, hy => by simp [nodesLI] at hy
  | .node b l k v r, h, y, hy => by
    simp only [nodesLI, List.mem_append, List.mem_singleton] at hy
    rcases hy with (hy | hy) | rfl
    · exact nodesL_at w l h.2.1 y hy
    · exact nodesL_at w r h.2.2 y hy
    · exact h
theorem nodesL_own (b : Nat) (l r : Tr Int) (k : ByteArray) (v : Int) : Tr.node b l k v r ∈ nodesLI (.node b l k v r) := by simp [nodesLI]
theorem nodes_nil (W : World) (f : Nat) (env : Array Value) : (binOp .eql 81 (.func (.func f) #[] env) .nilFunc).run Try.prog W = .ok (.bool false) W := by
  have hp := Try.underlying81
  have h : ∀ d : Nat, (Op.equalIn (d + 1) 81 (.func (.func f) #[] env) .nilFunc).run Try.prog W = .ok false W := fun d => by simp [Op.equalIn, run_underlying hp]
  simp only [binOp]
  simp [Op.equal, Op.maxDepth, h 9999]
theorem infoPtr : (Try.prog.info? 24).map (fun i => (i.zero, i.size, i.bytes)) = some (some (.pointer none), 1, 8) := by kernel_rfl
/-- Between two rounds. -/
def NoI (s c : Nat) (w : World) (pre : List (Tr Int)) (W : World) : Prop :=
  (∃ v, Boxed W c 92 v ∧ W.ownsRow s 24 1 v pre.length (nodV (pre.map blkOfI)) ∧ True) ∧ Boxed W (s + 1) 3 (.int .i64 0) ∧ Below s w W
theorem noI_own (s c : Nat) (w : World) (B : Nat) (hs : s ≤ w.heap.size) (hB : s + 2 ≤ B) : OwnFrom B (NoI s c w) :=
  ((holdsRow_own s c _ _ 1 (fun pre : List (Tr Int) => pre.length) (fun pre => nodV (pre.map blkOfI)) (fun _ _ => True)).from B).and (OwnFrom.and (ownAtI (by omega)) (ownFrom_below hs (by omega)))
set_option maxRecDepth 100000 in
set_option maxHeartbeats 4000000 in
theorem lw_nodes (t : Tr Int) (w : World) (ha : AtI w t) (hnd : (blocks t).Nodup) (hs : sz t ≤ 5000) :
    Calls Try.prog 39 #[.agg #[.pointer (pa t)]] w fun e w' => e = .returned (.int .i64 (sz t : Int)) ∧ Below w.heap.size w w' := by
  have HA := Lib.hid ha
  have HND := Lib.hid hnd
  clear ha hnd
  obtain ⟨s, hs0⟩ : ∃ s, s = w.heap.size := ⟨_, rfl⟩
  refine (callsIn_wide (n := 6)).1 ?_
  refine callsIn_of_wp_marks Try.func39 rfl trivial ?_ rfl
  simp only [Try.ntmps39, List.size_toArray, List.length_cons, List.length_nil, Nat.reduceAdd, Nat.reduceSub, Array.replicate_succ, Array.replicate_zero, List.push_toArray, List.append_toArray, List.nil_append, List.cons_append]
  gi_wp2
  obtain ⟨W2, hW2⟩ : ∃ W2, (w.alloc (.cells #[.pointer (pa t)] 26)).alloc (.cells #[.int .i64 0] 3) = W2 := ⟨_, rfl⟩
  have z2 : W2.heap.size = s + 2 := by rw [← hW2, hs0]; simp
  have c1 : Boxed W2 s 26 (.pointer (pa t)) := by rw [← hW2, hs0]; exact (Boxed.new w _ _).alloc _
  have c2 : Boxed W2 (s + 1) 3 (.int .i64 0) := by
    have h1 := Boxed.new (w.alloc (.cells #[.pointer (pa t)] 26)) 3 (.int .i64 0)
    rw [World.size_alloc, hW2, ← hs0] at h1
    exact h1
  have hb2 : Below s w W2 := by rw [← hW2, hs0]; exact ((Below.refl _ w).alloc (Nat.le_refl _) _).alloc (by simp) _
  rw [hW2, ← hs0]
  have HS := Lib.hid hs0
  clear hW2 hs0
  refine ⟨trivial, ?_⟩
  refine (callsIn_wide.2 (pm_MNodesI t W2)).mono ?_
  rintro e W5 ⟨mb, rfl, hmb, hbx, hb5⟩
  have d2 := boxStays c2 hb5
  have D5 : Below s w W5 := hb2.trans (hb5.mono (by omega))
  have z5 : s + 2 ≤ W5.heap.size := by have := hb5.size; omega
  have HBX := Lib.hid hbx
  clear hb5 c1 c2 hb2 hbx z2 hmb
  have hnn := nodes_nil
  gi_wp2
  obtain ⟨c, hc⟩ : ∃ c, c = W5.heap.size := ⟨_, rfl⟩
  rw [← hc]
  obtain ⟨W6, hW6⟩ : ∃ W6, W5.alloc (.cells #[.slice none 0 0] 92) = W6 := ⟨_, rfl⟩
  rw [hW6]
  have g1 : Boxed W6 c 92 (.slice none 0 0) := by rw [← hW6, hc]; exact Boxed.new _ _ _
  have hb6 : Below W5.heap.size W5 W6 := by rw [← hW6]; exact below_new _ _
  have z6 : W6.heap.size = c + 1 := by rw [← hW6, hc]; simp
  have D6 : Below s w W6 := D5.trans (hb6.mono (by omega))
  have d6 := boxStays d2 hb6
  have x6 := boxStays HBX.out hb6
  have hcs : s + 2 ≤ c := by omega
  clear hW6 hb6 hc d2 D5 z5 HBX hnn
  have HIter := pm_nodes_iterI 5 t mb W6 (fun k => k < s) (fun e => e = 24) x6 (HA.out.below D6 HS.out) (fun k hk => by rw [HS.out]; exact HA.out.lt k hk) (fun k hk => by omega) (by decide)
  have hsw : s ≤ w.heap.size := by rw [HS.out]; exact Nat.le_refl _
  refine range_law2 (n := 6) rfl (enters_of Try.func51 (by kernel_rfl) rfl) HIter (by omega) KeepE.trans (fun W o o' _ _ => KeepE.put W _ o' (by omega) (fun k hk => by omega)) (fun x => rfl) (fun pre => (by rintro _ _ _ _ h _ _; exact h)) ?_ (NoI s c w) (fun _ _ _ => False) (fun xs W => xs = nodesLI t ∧ NoI s c w xs W) (noI_own s c w _ hsw (by omega)) (fun _ _ _ _ _ h _ _ => h) ?_ ?_ ⟨⟨_, g1, World.ownsRow_nil _ _ _ _, trivial⟩, d6, D6⟩
    (fun pre x a' W => NoI s c w pre W ∧ pre ++ [x] <+: nodesLI t ∧ a' = { tmps := #[.agg #[.pointer (pa t)], .pointer (some ⟨s, 0, none⟩), .pointer (some ⟨s + 1, 0, none⟩), .func (.func 51) #[] #[.pointer (some ⟨mb, 0, none⟩)], .pointer (some ⟨c, 0, none⟩), .pointer (pa x), .agg #[.pointer (pa t)], .func (.func 51) #[] #[.pointer (some ⟨mb, 0, none⟩)], .func (.func 51) #[] #[.pointer (some ⟨mb, 0, none⟩)], .bool false, .func (.func 51) #[] #[.pointer (some ⟨mb, 0, none⟩)], .pointer (pa x), undef, undef, undef, undef, undef, undef, undef, undef, undef, undef, undef, undef, undef, undef, undef, undef, undef, undef, undef, undef, undef, undef, undef, undef, undef, undef, undef, undef, undef, undef, undef, undef, undef, undef, undef, undef, undef, undef, undef, undef], defers := [] }) ?_ ?assign ?body ?done ?stop
  · rintro W1 _ xs A B ⟨_, rfl⟩ k o _ ho _; exact ho
  · rintro xs A A' row ⟨h1, h2⟩ hg hr; exact ⟨h1, noI_own s c w _ hsw (by omega) xs A A' row h2 hg hr⟩
  · rintro W1 _ xs A B h ⟨h1, rfl⟩; exact ⟨h1, h⟩
  · rintro x a' pre A A' row ⟨h1, h2, h3⟩ hg hr
    exact ⟨noI_own s c w _ hsw (by omega) pre A A' row h1 hg hr, h2, h3⟩
  case assign =>
    intro l pre x W K hi hx hsz hK
    have HI := Lib.hid hi
    clear hi HIter
    simp only [encNI, List.zip_toArray, List.zip_cons_cons, List.zip_nil_right, List.foldl_toArray, List.foldl_cons, List.foldl_nil]
    gi_wp2
    exact hK _ _ ⟨Nat.le_refl _, fun _ _ _ h _ => h⟩ (KeepE.refl _) hsz ⟨HI.out, hx, rfl⟩
  case body =>
    clear HIter g1 d6 x6 D6
    rintro ll pre x a' W ⟨hI, hp, rfl⟩ hsz
    obtain ⟨⟨v, bc, hown, _⟩, bi, b4⟩ := hI
    obtain ⟨bx, lx, kx, vx, rx, rfl, hbx⟩ := nodesL_nodeI t x (hp.subset (by simp))
    have hAW : AtI W t := HA.out.below b4 HS.out
    have hAx : AtI W (.node bx lx kx vx rx) := nodesL_at _ _ hAW _ (hp.subset (by simp))
    have hnd := (nodesL_permI t).nodup_iff.2 HND.out
    have hpm : (pre ++ [Tr.node bx lx kx vx rx]).map blkOfI <+: (nodesLI t).map blkOfI := hp.map _
    have hnd2 := hnd.sublist hpm.sublist
    rw [List.map_append, List.nodup_append] at hnd2
    have hnot : bx ∉ pre.map blkOfI := fun hm => hnd2.2.2 bx hm bx (by simp [blkOfI]) rfl
    have hlen : (nodesLI t).length = sz t := by rw [← sz_blocks, ← (nodesL_permI t).length_eq, List.length_map]
    have hpn : pre.length + 1 ≤ 5000 := by have := hp.length_le; simp at this; omega
    have hnb : ∀ q ∈ pre.map blkOfI, ∃ cs, W.heap[q]? = some (.cells cs 76 (0, 0)) := by
      intro q hq
      obtain ⟨y, hy, rfl⟩ := List.mem_map.1 hq
      obtain ⟨by', _, _, _, _, rfl, hbb⟩ := nodesL_nodeI t y (hp.subset (by simp [hy]))
      exact hAW.nds _ hbb
    have hNDS : NdsI W (bx :: pre.map blkOfI) := by
      intro q hq
      rcases List.mem_cons.1 hq with rfl | hq
      · exact hAW.nds _ hbx
      · exact hnb q hq
    obtain ⟨sl, cap, rfl, hle1, hle2⟩ := own_slice hown
    have hcells := CellsAt.own hown
    have hml : (pre.map blkOfI).length = pre.length := by simp
    obtain ⟨suf, hsuf⟩ := hp
    have hside := nodesL_sides t pre suf bx lx rx kx vx (by rw [← hsuf]; simp)
    have hIn : ∀ q, NdsI W (q :: pre.map blkOfI) → ∀ W', Below W.heap.size W W' → Calls Try.prog 50 #[.slice sl pre.length cap, .pointer (some ⟨q, 0, none⟩)] W' fun e w' => e = .returned (.bool (decide (q ∈ pre.map blkOfI))) ∧ Below W'.heap.size W' w' := by
      intro q hq W' hb
      have := calls_exact (lw_in (pre.map blkOfI) q sl cap W' (hcells.below hb rfl) (fun x hx => by
        obtain ⟨cs, h1⟩ := hq x hx
        exact ⟨cs, (hb.block _ (Array.getElem?_eq_some_iff.1 h1).1).trans h1⟩) (by rw [hml]; omega))
      rw [hml] at this
      exact this
    have IN : Hid (∀ W', Below W.heap.size W W' → Calls Try.prog 50 #[.slice sl pre.length cap, .pointer (some ⟨bx, 0, none⟩)] W' fun e w' => e = .returned (.bool false) ∧ Below W'.heap.size W' w') := Lib.hid (fun W' hb => by
      have := hIn bx hNDS W' hb
      rw [decide_eq_false hnot] at this
      exact this)
    obtain ⟨pl, hpl⟩ : ∃ p, pa lx = p := ⟨_, rfl⟩
    obtain ⟨pr, hpr⟩ : ∃ p, pa rx = p := ⟨_, rfl⟩
    have CL : Hid (∀ W', Below W.heap.size W W' → Calls Try.prog 20 #[.pointer (some ⟨bx, 0, none⟩)] W' fun e w' => e = .returned (.pointer pl) ∧ Below W'.heap.size W' w') := Lib.hid (fun W' hb => by rw [← hpl]; exact calls_exact (pm_LeftI (.node bx lx kx vx rx) W' (hAx.below hb rfl)))
    have CR : Hid (∀ W', Below W.heap.size W W' → Calls Try.prog 21 #[.pointer (some ⟨bx, 0, none⟩)] W' fun e w' => e = .returned (.pointer pr) ∧ Below W'.heap.size W' w') := Lib.hid (fun W' hb => by rw [← hpr]; exact calls_exact (pm_RightI (.node bx lx kx vx rx) W' (hAx.below hb rfl)))
    obtain ⟨i0, hi0, hz0, hz1, hz2⟩ := info_parts infoPtr
    have hl3 : pl = none ∨ ∃ q, pl = some ⟨q, 0, none⟩ ∧ ∀ W', Below W.heap.size W W' → Calls Try.prog 50 #[.slice sl pre.length cap, .pointer (some ⟨q, 0, none⟩)] W' fun e w' => e = .returned (.bool true) ∧ Below W'.heap.size W' w' := by
      rw [← hpl]
      rcases lx with _ | ⟨q, l', k', v', r'⟩
      · exact .inl rfl
      · have hm : q ∈ pre.map blkOfI := List.mem_map.2 ⟨_, hside.1 _ (nodesL_own q l' r' k' v'), rfl⟩
        refine .inr ⟨q, rfl, fun W' hb => ?_⟩
        have := hIn q (fun x hx => (by rcases List.mem_cons.1 hx with rfl | hx <;> exact hnb _ (by assumption))) W' hb
        rw [decide_eq_true hm] at this
        exact this
    have hr3 : pr = none ∨ ∃ q, pr = some ⟨q, 0, none⟩ ∧ ∀ W', Below W.heap.size W W' → Calls Try.prog 50 #[.slice sl pre.length cap, .pointer (some ⟨q, 0, none⟩)] W' fun e w' => e = .returned (.bool true) ∧ Below W'.heap.size W' w' := by
      rw [← hpr]
      rcases rx with _ | ⟨q, l', k', v', r'⟩
      · exact .inl rfl
      · have hm : q ∈ pre.map blkOfI := List.mem_map.2 ⟨_, hside.2 _ (nodesL_own q l' r' k' v'), rfl⟩
        refine .inr ⟨q, rfl, fun W' hb => ?_⟩
        have := hIn q (fun x hx => (by rcases List.mem_cons.1 hx with rfl | hx <;> exact hnb _ (by assumption))) W' hb
        rw [decide_eq_true hm] at this
        exact this
    have BC := Lib.hid bc
    have BI := Lib.hid bi
    have OWN := Lib.hid hown
    have B4 := Lib.hid b4
    have HP : Hid (pre ++ [Tr.node bx lx kx vx rx] <+: nodesLI t) := Lib.hid ⟨suf, hsuf⟩
    have hpax : pa (.node bx lx kx vx rx : Tr Int) = some ⟨bx, 0, none⟩ := rfl
    have HC : Hid (Chain [W] W) := Lib.hid (Chain.one W)
    clear hAW hAx hnd hpm hnd2 hnot hlen hnb hNDS hcells hside hIn bc bi hown b4 hsuf hpl hpr hbx hml
    rw [hpax]
    clear hpax
    have k4 := cell_of_one BC.out
    gi_wp2
    refine hl3.elim (fun e1 => hr3.elim (fun e2 => ?w00) (fun e2 => ?w01)) (fun e1 => hr3.elim (fun e2 => ?w10) (fun e2 => ?w11)) <;> clear hl3 hr3
    case' w11 =>
      obtain ⟨ql, rfl, IL⟩ := e1
      obtain ⟨qr, rfl, IR⟩ := e2
      replace IL := Lib.hid IL
      replace IR := Lib.hid IR
      refine wpIn_region_round (S := fun w' => Below W.heap.size W w') (by kernel_rfl) (by kernel_rfl) (Below.refl _ _).drew (fun hS => ?_)
      refine wpAnyH_take (i := 0) (oi := ⟨some 12, _, _, _, _, _⟩) (v := ?_) rfl (by kernel_rfl) (by kernel_rfl) (by kernel_rfl) (fun _ _ _ h => h) (Or.inl ⟨by rfl, ?_⟩) hS ?_
      rotate_left 1
      · intro w' hB; have hd := (HC.out.to W (by simp)).trans (hB.mono (HC.out.to W (by simp)).size); have k4 := cell_of_one (boxStays BC.out hd); clear hd; (go_simp <;> with_reducible rfl)
      try simp only [Act.put, List.setIfInBounds_toArray, List.set_cons_zero, List.set_cons_succ]
      refine wpAnyH_take (i := 1) (oi := ⟨some 13, _, _, _, _, _⟩) (v := ?_) rfl (by kernel_rfl) (by kernel_rfl) (by kernel_rfl) (fun _ _ _ h => h) (Or.inl ⟨by rfl, ?_⟩) hS ?_
      rotate_left 1
      · intro w' hB; have hd := (HC.out.to W (by simp)).trans (hB.mono (HC.out.to W (by simp)).size); have k4 := cell_of_one (boxStays BC.out hd); clear hd; (go_simp <;> with_reducible rfl)
      try simp only [Act.put, List.setIfInBounds_toArray, List.set_cons_zero, List.set_cons_succ]
      refine wpAnyH_take (i := 2) (oi := ⟨some 14, _, _, _, _, _⟩) (v := ?_) rfl (by kernel_rfl) (by kernel_rfl) (by kernel_rfl) (fun _ _ _ h => h) (Or.inl ⟨by rfl, ?_⟩) hS ?_
      rotate_left 1
      · intro w' hB; have hd := (HC.out.to W (by simp)).trans (hB.mono (HC.out.to W (by simp)).size); have k4 := cell_of_one (boxStays BC.out hd); clear hd; (go_simp <;> with_reducible rfl)
      try simp only [Act.put, List.setIfInBounds_toArray, List.set_cons_zero, List.set_cons_succ]
      refine wpAnyH_take (i := 3) (oi := ⟨some 15, _, _, _, _, _⟩) (v := ?_) rfl (by kernel_rfl) (by kernel_rfl) (by kernel_rfl) (fun _ _ _ h => h) (Or.inl ⟨by rfl, ?_⟩) hS ?_
      rotate_left 1
      · intro w' hB; have hd := (HC.out.to W (by simp)).trans (hB.mono (HC.out.to W (by simp)).size); have k4 := cell_of_one (boxStays BC.out hd); clear hd; (go_simp <;> with_reducible rfl)
      try simp only [Act.put, List.setIfInBounds_toArray, List.set_cons_zero, List.set_cons_succ]
      refine wpAnyH_ready (rs := [4]) (by kernel_rfl) (by simp) (AllReadyH.cons (o := ⟨some 16, _, _, _, _, _⟩) rfl (fun K hK => ?_) AllReadyH.nil)
      go_simp
      refine (CL.out _ ((HC.out.to W (by simp)).trans (hS.mono (HC.out.to W (by simp)).size))).mono ?_
      rintro e q1 ⟨rfl, hb⟩
      refine hK.out _ _ (hS.trans (hb.mono hS.size)) (fun _ => ?_)
      clear hK K
      have hB := hS.trans (hb.mono hS.size)
      refine wpAnyH_now hB ?_
      clear hS
      have hS := Below.refl q1.heap.size q1
      replace HC := Lib.hid (HC.out.push hB)
      clear hB hb
      try simp only [Act.put, List.setIfInBounds_toArray, List.set_cons_zero, List.set_cons_succ]
      refine wpAnyH_take (i := 5) (oi := ⟨some 17, _, _, _, _, _⟩) (v := ?_) rfl (by kernel_rfl) (by kernel_rfl) (by kernel_rfl) (fun _ _ _ h => h) (Or.inl ⟨by rfl, ?_⟩) hS ?_
      rotate_left 1
      · intro w' hB; have hd := (HC.out.to W (by simp)).trans (hB.mono (HC.out.to W (by simp)).size); have k4 := cell_of_one (boxStays BC.out hd); clear hd; (go_simp <;> with_reducible rfl)
      try simp only [Act.put, List.setIfInBounds_toArray, List.set_cons_zero, List.set_cons_succ]
      refine wpAnyH_take (i := 6) (oi := ⟨some 18, _, _, _, _, _⟩) (v := ?_) rfl (by kernel_rfl) (by kernel_rfl) (by kernel_rfl) (fun _ _ _ h => h) (Or.inl ⟨by rfl, ?_⟩) hS ?_
      rotate_left 1
      · intro w' hB; have hd := (HC.out.to W (by simp)).trans (hB.mono (HC.out.to W (by simp)).size); have k4 := cell_of_one (boxStays BC.out hd); clear hd; (go_simp <;> with_reducible rfl)
      try simp only [Act.put, List.setIfInBounds_toArray, List.set_cons_zero, List.set_cons_succ]
      refine wpAnyH_take (i := 7) (oi := ⟨some 19, _, _, _, _, _⟩) (v := ?_) rfl (by kernel_rfl) (by kernel_rfl) (by kernel_rfl) (fun _ _ _ h => h) (Or.inl ⟨by rfl, ?_⟩) hS ?_
      rotate_left 1
      · intro w' hB; have hd := (HC.out.to W (by simp)).trans (hB.mono (HC.out.to W (by simp)).size); have k4 := cell_of_one (boxStays BC.out hd); clear hd; (go_simp <;> with_reducible rfl)
      try simp only [Act.put, List.setIfInBounds_toArray, List.set_cons_zero, List.set_cons_succ]
      refine wpAnyH_take (i := 8) (oi := ⟨some 20, _, _, _, _, _⟩) (v := ?_) rfl (by kernel_rfl) (by kernel_rfl) (by kernel_rfl) (fun _ _ _ h => h) (Or.inl ⟨by rfl, ?_⟩) hS ?_
      rotate_left 1
      · intro w' hB; have hd := (HC.out.to W (by simp)).trans (hB.mono (HC.out.to W (by simp)).size); have k4 := cell_of_one (boxStays BC.out hd); clear hd; (go_simp <;> with_reducible rfl)
      try simp only [Act.put, List.setIfInBounds_toArray, List.set_cons_zero, List.set_cons_succ]
      refine wpAnyH_ready (rs := [9]) (by kernel_rfl) (by simp) (AllReadyH.cons (o := ⟨some 21, _, _, _, _, _⟩) rfl (fun K hK => ?_) AllReadyH.nil)
      go_simp
      refine (CL.out _ ((HC.out.to W (by simp)).trans (hS.mono (HC.out.to W (by simp)).size))).mono ?_
      rintro e q2 ⟨rfl, hb⟩
      refine hK.out _ _ (hS.trans (hb.mono hS.size)) (fun _ => ?_)
      clear hK K
      have hB := hS.trans (hb.mono hS.size)
      refine wpAnyH_now hB ?_
      clear hS
      have hS := Below.refl q2.heap.size q2
      replace HC := Lib.hid (HC.out.push hB)
      clear hB hb
      try simp only [Act.put, List.setIfInBounds_toArray, List.set_cons_zero, List.set_cons_succ]
      refine wpAnyH_ready (rs := [10]) (by kernel_rfl) (by simp) (AllReadyH.cons (o := ⟨some 22, _, _, _, _, _⟩) rfl (fun K hK => ?_) AllReadyH.nil)
      go_simp
      refine (IL.out _ ((HC.out.to W (by simp)).trans (hS.mono (HC.out.to W (by simp)).size))).mono ?_
      rintro e q3 ⟨rfl, hb⟩
      refine hK.out _ _ (hS.trans (hb.mono hS.size)) (fun _ => ?_)
      clear hK K
      have hB := hS.trans (hb.mono hS.size)
      refine wpAnyH_now hB ?_
      clear hS
      have hS := Below.refl q3.heap.size q3
      replace HC := Lib.hid (HC.out.push hB)
      clear hB hb
      try simp only [Act.put, List.setIfInBounds_toArray, List.set_cons_zero, List.set_cons_succ]
      refine wpAnyH_take (i := 11) (oi := ⟨some 23, _, _, _, _, _⟩) (v := ?_) rfl (by kernel_rfl) (by kernel_rfl) (by kernel_rfl) (fun _ _ _ h => h) (Or.inl ⟨by rfl, ?_⟩) hS ?_
      rotate_left 1
      · intro w' hB; have hd := (HC.out.to W (by simp)).trans (hB.mono (HC.out.to W (by simp)).size); have k4 := cell_of_one (boxStays BC.out hd); clear hd; (go_simp <;> with_reducible rfl)
      try simp only [Act.put, List.setIfInBounds_toArray, List.set_cons_zero, List.set_cons_succ]
      refine wpAnyH_take (i := 12) (oi := ⟨some 24, _, _, _, _, _⟩) (v := ?_) rfl (by kernel_rfl) (by kernel_rfl) (by kernel_rfl) (fun _ _ _ h => h) (Or.inl ⟨by rfl, ?_⟩) hS ?_
      rotate_left 1
      · intro w' hB; have hd := (HC.out.to W (by simp)).trans (hB.mono (HC.out.to W (by simp)).size); have k4 := cell_of_one (boxStays BC.out hd); clear hd; (go_simp <;> with_reducible rfl)
      try simp only [Act.put, List.setIfInBounds_toArray, List.set_cons_zero, List.set_cons_succ]
      refine wpAnyH_take (i := 13) (oi := ⟨some 25, _, _, _, _, _⟩) (v := ?_) rfl (by kernel_rfl) (by kernel_rfl) (by kernel_rfl) (fun _ _ _ h => h) (Or.inl ⟨by rfl, ?_⟩) hS ?_
      rotate_left 1
      · intro w' hB; have hd := (HC.out.to W (by simp)).trans (hB.mono (HC.out.to W (by simp)).size); have k4 := cell_of_one (boxStays BC.out hd); clear hd; (go_simp <;> with_reducible rfl)
      try simp only [Act.put, List.setIfInBounds_toArray, List.set_cons_zero, List.set_cons_succ]
      refine wpAnyH_take (i := 14) (oi := ⟨some 26, _, _, _, _, _⟩) (v := ?_) rfl (by kernel_rfl) (by kernel_rfl) (by kernel_rfl) (fun _ _ _ h => h) (Or.inl ⟨by rfl, ?_⟩) hS ?_
      rotate_left 1
      · intro w' hB; have hd := (HC.out.to W (by simp)).trans (hB.mono (HC.out.to W (by simp)).size); have k4 := cell_of_one (boxStays BC.out hd); clear hd; (go_simp <;> with_reducible rfl)
      try simp only [Act.put, List.setIfInBounds_toArray, List.set_cons_zero, List.set_cons_succ]
      refine wpAnyH_take (i := 15) (oi := ⟨some 27, _, _, _, _, _⟩) (v := ?_) rfl (by kernel_rfl) (by kernel_rfl) (by kernel_rfl) (fun _ _ _ h => h) (Or.inl ⟨by rfl, ?_⟩) hS ?_
      rotate_left 1
      · intro w' hB; have hd := (HC.out.to W (by simp)).trans (hB.mono (HC.out.to W (by simp)).size); have k4 := cell_of_one (boxStays BC.out hd); clear hd; (go_simp <;> with_reducible rfl)
      try simp only [Act.put, List.setIfInBounds_toArray, List.set_cons_zero, List.set_cons_succ]
      refine wpAnyH_ready (rs := [16]) (by kernel_rfl) (by simp) (AllReadyH.cons (o := ⟨some 28, _, _, _, _, _⟩) rfl (fun K hK => ?_) AllReadyH.nil)
      go_simp
      refine (CR.out _ ((HC.out.to W (by simp)).trans (hS.mono (HC.out.to W (by simp)).size))).mono ?_
      rintro e q4 ⟨rfl, hb⟩
      refine hK.out _ _ (hS.trans (hb.mono hS.size)) (fun _ => ?_)
      clear hK K
      have hB := hS.trans (hb.mono hS.size)
      refine wpAnyH_now hB ?_
      clear hS
      have hS := Below.refl q4.heap.size q4
      replace HC := Lib.hid (HC.out.push hB)
      clear hB hb
      try simp only [Act.put, List.setIfInBounds_toArray, List.set_cons_zero, List.set_cons_succ]
      refine wpAnyH_take (i := 17) (oi := ⟨some 29, _, _, _, _, _⟩) (v := ?_) rfl (by kernel_rfl) (by kernel_rfl) (by kernel_rfl) (fun _ _ _ h => h) (Or.inl ⟨by rfl, ?_⟩) hS ?_
      rotate_left 1
      · intro w' hB; have hd := (HC.out.to W (by simp)).trans (hB.mono (HC.out.to W (by simp)).size); have k4 := cell_of_one (boxStays BC.out hd); clear hd; (go_simp <;> with_reducible rfl)
      try simp only [Act.put, List.setIfInBounds_toArray, List.set_cons_zero, List.set_cons_succ]
      refine wpAnyH_take (i := 18) (oi := ⟨some 30, _, _, _, _, _⟩) (v := ?_) rfl (by kernel_rfl) (by kernel_rfl) (by kernel_rfl) (fun _ _ _ h => h) (Or.inl ⟨by rfl, ?_⟩) hS ?_
      rotate_left 1
      · intro w' hB; have hd := (HC.out.to W (by simp)).trans (hB.mono (HC.out.to W (by simp)).size); have k4 := cell_of_one (boxStays BC.out hd); clear hd; (go_simp <;> with_reducible rfl)
      try simp only [Act.put, List.setIfInBounds_toArray, List.set_cons_zero, List.set_cons_succ]
      refine wpAnyH_take (i := 19) (oi := ⟨some 31, _, _, _, _, _⟩) (v := ?_) rfl (by kernel_rfl) (by kernel_rfl) (by kernel_rfl) (fun _ _ _ h => h) (Or.inl ⟨by rfl, ?_⟩) hS ?_
      rotate_left 1
      · intro w' hB; have hd := (HC.out.to W (by simp)).trans (hB.mono (HC.out.to W (by simp)).size); have k4 := cell_of_one (boxStays BC.out hd); clear hd; (go_simp <;> with_reducible rfl)
      try simp only [Act.put, List.setIfInBounds_toArray, List.set_cons_zero, List.set_cons_succ]
      refine wpAnyH_take (i := 20) (oi := ⟨some 32, _, _, _, _, _⟩) (v := ?_) rfl (by kernel_rfl) (by kernel_rfl) (by kernel_rfl) (fun _ _ _ h => h) (Or.inl ⟨by rfl, ?_⟩) hS ?_
      rotate_left 1
      · intro w' hB; have hd := (HC.out.to W (by simp)).trans (hB.mono (HC.out.to W (by simp)).size); have k4 := cell_of_one (boxStays BC.out hd); clear hd; (go_simp <;> with_reducible rfl)
      try simp only [Act.put, List.setIfInBounds_toArray, List.set_cons_zero, List.set_cons_succ]
      refine wpAnyH_ready (rs := [21]) (by kernel_rfl) (by simp) (AllReadyH.cons (o := ⟨some 33, _, _, _, _, _⟩) rfl (fun K hK => ?_) AllReadyH.nil)
      go_simp
      refine (CR.out _ ((HC.out.to W (by simp)).trans (hS.mono (HC.out.to W (by simp)).size))).mono ?_
      rintro e q5 ⟨rfl, hb⟩
      refine hK.out _ _ (hS.trans (hb.mono hS.size)) (fun _ => ?_)
      clear hK K
      have hB := hS.trans (hb.mono hS.size)
      refine wpAnyH_now hB ?_
      clear hS
      have hS := Below.refl q5.heap.size q5
      replace HC := Lib.hid (HC.out.push hB)
      clear hB hb
      try simp only [Act.put, List.setIfInBounds_toArray, List.set_cons_zero, List.set_cons_succ]
      refine wpAnyH_ready (rs := [22]) (by kernel_rfl) (by simp) (AllReadyH.cons (o := ⟨some 34, _, _, _, _, _⟩) rfl (fun K hK => ?_) AllReadyH.nil)
      go_simp
      refine (IR.out _ ((HC.out.to W (by simp)).trans (hS.mono (HC.out.to W (by simp)).size))).mono ?_
      rintro e q6 ⟨rfl, hb⟩
      refine hK.out _ _ (hS.trans (hb.mono hS.size)) (fun _ => ?_)
      clear hK K
      have hB := hS.trans (hb.mono hS.size)
      refine wpAnyH_now hB ?_
      clear hS
      have hS := Below.refl q6.heap.size q6
      replace HC := Lib.hid (HC.out.push hB)
      clear hB hb
      try simp only [Act.put, List.setIfInBounds_toArray, List.set_cons_zero, List.set_cons_succ]
      refine wpAnyH_take (i := 23) (oi := ⟨some 35, _, _, _, _, _⟩) (v := ?_) rfl (by kernel_rfl) (by kernel_rfl) (by kernel_rfl) (fun _ _ _ h => h) (Or.inl ⟨by rfl, ?_⟩) hS ?_
      rotate_left 1
      · intro w' hB; have hd := (HC.out.to W (by simp)).trans (hB.mono (HC.out.to W (by simp)).size); have k4 := cell_of_one (boxStays BC.out hd); clear hd; (go_simp <;> with_reducible rfl)
      try simp only [Act.put, List.setIfInBounds_toArray, List.set_cons_zero, List.set_cons_succ]
      refine wpAnyH_take (i := 24) (oi := ⟨some 36, _, _, _, _, _⟩) (v := ?_) rfl (by kernel_rfl) (by kernel_rfl) (by kernel_rfl) (fun _ _ _ h => h) (Or.inl ⟨by rfl, ?_⟩) hS ?_
      rotate_left 1
      · intro w' hB; have hd := (HC.out.to W (by simp)).trans (hB.mono (HC.out.to W (by simp)).size); have k4 := cell_of_one (boxStays BC.out hd); clear hd; (go_simp <;> with_reducible rfl)
      try simp only [Act.put, List.setIfInBounds_toArray, List.set_cons_zero, List.set_cons_succ]
      refine wpAnyH_take (i := 25) (oi := ⟨some 37, _, _, _, _, _⟩) (v := ?_) rfl (by kernel_rfl) (by kernel_rfl) (by kernel_rfl) (fun _ _ _ h => h) (Or.inl ⟨by rfl, ?_⟩) hS ?_
      rotate_left 1
      · intro w' hB; have hd := (HC.out.to W (by simp)).trans (hB.mono (HC.out.to W (by simp)).size); have k4 := cell_of_one (boxStays BC.out hd); clear hd; (go_simp <;> with_reducible rfl)
      try simp only [Act.put, List.setIfInBounds_toArray, List.set_cons_zero, List.set_cons_succ]
      refine wpAnyH_take (i := 26) (oi := ⟨some 38, _, _, _, _, _⟩) (v := ?_) rfl (by kernel_rfl) (by kernel_rfl) (by kernel_rfl) (fun _ _ _ h => h) (Or.inl ⟨by rfl, ?_⟩) hS ?_
      rotate_left 1
      · intro w' hB; have hd := (HC.out.to W (by simp)).trans (hB.mono (HC.out.to W (by simp)).size); have k4 := cell_of_one (boxStays BC.out hd); clear hd; (go_simp <;> with_reducible rfl)
      try simp only [Act.put, List.setIfInBounds_toArray, List.set_cons_zero, List.set_cons_succ]
      refine wpAnyH_take (i := 27) (oi := ⟨some 39, _, _, _, _, _⟩) (v := ?_) rfl (by kernel_rfl) (by kernel_rfl) (by kernel_rfl) (fun _ _ _ h => h) (Or.inl ⟨by rfl, ?_⟩) hS ?_
      rotate_left 1
      · intro w' hB; have hd := (HC.out.to W (by simp)).trans (hB.mono (HC.out.to W (by simp)).size); have k4 := cell_of_one (boxStays BC.out hd); clear hd; (go_simp <;> with_reducible rfl)
      try simp only [Act.put, List.setIfInBounds_toArray, List.set_cons_zero, List.set_cons_succ]
      refine wpAnyH_take (i := 28) (oi := ⟨some 40, _, _, _, _, _⟩) (v := ?_) rfl (by kernel_rfl) (by kernel_rfl) (by kernel_rfl) (fun _ _ _ h => h) (Or.inl ⟨by rfl, ?_⟩) hS ?_
      rotate_left 1
      · intro w' hB; have hd := (HC.out.to W (by simp)).trans (hB.mono (HC.out.to W (by simp)).size); have k4 := cell_of_one (boxStays BC.out hd); clear hd; (go_simp <;> with_reducible rfl)
      try simp only [Act.put, List.setIfInBounds_toArray, List.set_cons_zero, List.set_cons_succ]
      refine wpAnyH_ready (rs := [29]) (by kernel_rfl) (by simp) (AllReadyH.cons (o := ⟨some 41, _, _, _, _, _⟩) rfl (fun K hK => ?_) AllReadyH.nil)
      go_simp
      refine (IN.out _ ((HC.out.to W (by simp)).trans (hS.mono (HC.out.to W (by simp)).size))).mono ?_
      rintro e q7 ⟨rfl, hb⟩
      refine hK.out _ _ (hS.trans (hb.mono hS.size)) (fun _ => ?_)
      clear hK K
      have hB := hS.trans (hb.mono hS.size)
      refine wpAnyH_now hB ?_
      clear hS
      have hS := Below.refl q7.heap.size q7
      replace HC := Lib.hid (HC.out.push hB)
      clear hB hb
      try simp only [Act.put, List.setIfInBounds_toArray, List.set_cons_zero, List.set_cons_succ]
      refine wpAnyH_take (i := 30) (oi := ⟨some 42, _, _, _, _, _⟩) (v := ?_) rfl (by kernel_rfl) (by kernel_rfl) (by kernel_rfl) (fun _ _ _ h => h) (Or.inl ⟨by rfl, ?_⟩) hS ?_
      rotate_left 1
      · intro w' hB; have hd := (HC.out.to W (by simp)).trans (hB.mono (HC.out.to W (by simp)).size); have k4 := cell_of_one (boxStays BC.out hd); clear hd; (go_simp <;> with_reducible rfl)
      try simp only [Act.put, List.setIfInBounds_toArray, List.set_cons_zero, List.set_cons_succ]
      refine wpAnyH_done (by kernel_rfl) (OnlyN.normal ?_) _
      have hE : Hid (Below W.heap.size W q7) := Lib.hid (HC.out.to W (by simp))
      generalize q7 = wz at *
    case' w10 =>
      obtain ⟨ql, rfl, IL⟩ := e1
      subst e2
      replace IL := Lib.hid IL
      refine wpIn_region_round (S := fun w' => Below W.heap.size W w') (by kernel_rfl) (by kernel_rfl) (Below.refl _ _).drew (fun hS => ?_)
      refine wpAnyH_take (i := 0) (oi := ⟨some 12, _, _, _, _, _⟩) (v := ?_) rfl (by kernel_rfl) (by kernel_rfl) (by kernel_rfl) (fun _ _ _ h => h) (Or.inl ⟨by rfl, ?_⟩) hS ?_
      rotate_left 1
      · intro w' hB; have hd := (HC.out.to W (by simp)).trans (hB.mono (HC.out.to W (by simp)).size); have k4 := cell_of_one (boxStays BC.out hd); clear hd; (go_simp <;> with_reducible rfl)
      try simp only [Act.put, List.setIfInBounds_toArray, List.set_cons_zero, List.set_cons_succ]
      refine wpAnyH_take (i := 1) (oi := ⟨some 13, _, _, _, _, _⟩) (v := ?_) rfl (by kernel_rfl) (by kernel_rfl) (by kernel_rfl) (fun _ _ _ h => h) (Or.inl ⟨by rfl, ?_⟩) hS ?_
      rotate_left 1
      · intro w' hB; have hd := (HC.out.to W (by simp)).trans (hB.mono (HC.out.to W (by simp)).size); have k4 := cell_of_one (boxStays BC.out hd); clear hd; (go_simp <;> with_reducible rfl)
      try simp only [Act.put, List.setIfInBounds_toArray, List.set_cons_zero, List.set_cons_succ]
      refine wpAnyH_take (i := 2) (oi := ⟨some 14, _, _, _, _, _⟩) (v := ?_) rfl (by kernel_rfl) (by kernel_rfl) (by kernel_rfl) (fun _ _ _ h => h) (Or.inl ⟨by rfl, ?_⟩) hS ?_
      rotate_left 1
      · intro w' hB; have hd := (HC.out.to W (by simp)).trans (hB.mono (HC.out.to W (by simp)).size); have k4 := cell_of_one (boxStays BC.out hd); clear hd; (go_simp <;> with_reducible rfl)
      try simp only [Act.put, List.setIfInBounds_toArray, List.set_cons_zero, List.set_cons_succ]
      refine wpAnyH_take (i := 3) (oi := ⟨some 15, _, _, _, _, _⟩) (v := ?_) rfl (by kernel_rfl) (by kernel_rfl) (by kernel_rfl) (fun _ _ _ h => h) (Or.inl ⟨by rfl, ?_⟩) hS ?_
      rotate_left 1
      · intro w' hB; have hd := (HC.out.to W (by simp)).trans (hB.mono (HC.out.to W (by simp)).size); have k4 := cell_of_one (boxStays BC.out hd); clear hd; (go_simp <;> with_reducible rfl)
      try simp only [Act.put, List.setIfInBounds_toArray, List.set_cons_zero, List.set_cons_succ]
      refine wpAnyH_ready (rs := [4]) (by kernel_rfl) (by simp) (AllReadyH.cons (o := ⟨some 16, _, _, _, _, _⟩) rfl (fun K hK => ?_) AllReadyH.nil)
      go_simp
      refine (CL.out _ ((HC.out.to W (by simp)).trans (hS.mono (HC.out.to W (by simp)).size))).mono ?_
      rintro e q1 ⟨rfl, hb⟩
      refine hK.out _ _ (hS.trans (hb.mono hS.size)) (fun _ => ?_)
      clear hK K
      have hB := hS.trans (hb.mono hS.size)
      refine wpAnyH_now hB ?_
      clear hS
      have hS := Below.refl q1.heap.size q1
      replace HC := Lib.hid (HC.out.push hB)
      clear hB hb
      try simp only [Act.put, List.setIfInBounds_toArray, List.set_cons_zero, List.set_cons_succ]
      refine wpAnyH_take (i := 5) (oi := ⟨some 17, _, _, _, _, _⟩) (v := ?_) rfl (by kernel_rfl) (by kernel_rfl) (by kernel_rfl) (fun _ _ _ h => h) (Or.inl ⟨by rfl, ?_⟩) hS ?_
      rotate_left 1
      · intro w' hB; have hd := (HC.out.to W (by simp)).trans (hB.mono (HC.out.to W (by simp)).size); have k4 := cell_of_one (boxStays BC.out hd); clear hd; (go_simp <;> with_reducible rfl)
      try simp only [Act.put, List.setIfInBounds_toArray, List.set_cons_zero, List.set_cons_succ]
      refine wpAnyH_take (i := 6) (oi := ⟨some 18, _, _, _, _, _⟩) (v := ?_) rfl (by kernel_rfl) (by kernel_rfl) (by kernel_rfl) (fun _ _ _ h => h) (Or.inl ⟨by rfl, ?_⟩) hS ?_
      rotate_left 1
      · intro w' hB; have hd := (HC.out.to W (by simp)).trans (hB.mono (HC.out.to W (by simp)).size); have k4 := cell_of_one (boxStays BC.out hd); clear hd; (go_simp <;> with_reducible rfl)
      try simp only [Act.put, List.setIfInBounds_toArray, List.set_cons_zero, List.set_cons_succ]
      refine wpAnyH_take (i := 7) (oi := ⟨some 19, _, _, _, _, _⟩) (v := ?_) rfl (by kernel_rfl) (by kernel_rfl) (by kernel_rfl) (fun _ _ _ h => h) (Or.inl ⟨by rfl, ?_⟩) hS ?_
      rotate_left 1
      · intro w' hB; have hd := (HC.out.to W (by simp)).trans (hB.mono (HC.out.to W (by simp)).size); have k4 := cell_of_one (boxStays BC.out hd); clear hd; (go_simp <;> with_reducible rfl)
      try simp only [Act.put, List.setIfInBounds_toArray, List.set_cons_zero, List.set_cons_succ]
      refine wpAnyH_take (i := 8) (oi := ⟨some 20, _, _, _, _, _⟩) (v := ?_) rfl (by kernel_rfl) (by kernel_rfl) (by kernel_rfl) (fun _ _ _ h => h) (Or.inl ⟨by rfl, ?_⟩) hS ?_
      rotate_left 1
      · intro w' hB; have hd := (HC.out.to W (by simp)).trans (hB.mono (HC.out.to W (by simp)).size); have k4 := cell_of_one (boxStays BC.out hd); clear hd; (go_simp <;> with_reducible rfl)
      try simp only [Act.put, List.setIfInBounds_toArray, List.set_cons_zero, List.set_cons_succ]
      refine wpAnyH_ready (rs := [9]) (by kernel_rfl) (by simp) (AllReadyH.cons (o := ⟨some 21, _, _, _, _, _⟩) rfl (fun K hK => ?_) AllReadyH.nil)
      go_simp
      refine (CL.out _ ((HC.out.to W (by simp)).trans (hS.mono (HC.out.to W (by simp)).size))).mono ?_
      rintro e q2 ⟨rfl, hb⟩
      refine hK.out _ _ (hS.trans (hb.mono hS.size)) (fun _ => ?_)
      clear hK K
      have hB := hS.trans (hb.mono hS.size)
      refine wpAnyH_now hB ?_
      clear hS
      have hS := Below.refl q2.heap.size q2
      replace HC := Lib.hid (HC.out.push hB)
      clear hB hb
      try simp only [Act.put, List.setIfInBounds_toArray, List.set_cons_zero, List.set_cons_succ]
      refine wpAnyH_ready (rs := [10]) (by kernel_rfl) (by simp) (AllReadyH.cons (o := ⟨some 22, _, _, _, _, _⟩) rfl (fun K hK => ?_) AllReadyH.nil)
      go_simp
      refine (IL.out _ ((HC.out.to W (by simp)).trans (hS.mono (HC.out.to W (by simp)).size))).mono ?_
      rintro e q3 ⟨rfl, hb⟩
      refine hK.out _ _ (hS.trans (hb.mono hS.size)) (fun _ => ?_)
      clear hK K
      have hB := hS.trans (hb.mono hS.size)
      refine wpAnyH_now hB ?_
      clear hS
      have hS := Below.refl q3.heap.size q3
      replace HC := Lib.hid (HC.out.push hB)
      clear hB hb
      try simp only [Act.put, List.setIfInBounds_toArray, List.set_cons_zero, List.set_cons_succ]
      refine wpAnyH_take (i := 11) (oi := ⟨some 23, _, _, _, _, _⟩) (v := ?_) rfl (by kernel_rfl) (by kernel_rfl) (by kernel_rfl) (fun _ _ _ h => h) (Or.inl ⟨by rfl, ?_⟩) hS ?_
      rotate_left 1
      · intro w' hB; have hd := (HC.out.to W (by simp)).trans (hB.mono (HC.out.to W (by simp)).size); have k4 := cell_of_one (boxStays BC.out hd); clear hd; (go_simp <;> with_reducible rfl)
      try simp only [Act.put, List.setIfInBounds_toArray, List.set_cons_zero, List.set_cons_succ]
      refine wpAnyH_take (i := 12) (oi := ⟨some 24, _, _, _, _, _⟩) (v := ?_) rfl (by kernel_rfl) (by kernel_rfl) (by kernel_rfl) (fun _ _ _ h => h) (Or.inl ⟨by rfl, ?_⟩) hS ?_
      rotate_left 1
      · intro w' hB; have hd := (HC.out.to W (by simp)).trans (hB.mono (HC.out.to W (by simp)).size); have k4 := cell_of_one (boxStays BC.out hd); clear hd; (go_simp <;> with_reducible rfl)
      try simp only [Act.put, List.setIfInBounds_toArray, List.set_cons_zero, List.set_cons_succ]
      refine wpAnyH_take (i := 13) (oi := ⟨some 25, _, _, _, _, _⟩) (v := ?_) rfl (by kernel_rfl) (by kernel_rfl) (by kernel_rfl) (fun _ _ _ h => h) (Or.inl ⟨by rfl, ?_⟩) hS ?_
      rotate_left 1
      · intro w' hB; have hd := (HC.out.to W (by simp)).trans (hB.mono (HC.out.to W (by simp)).size); have k4 := cell_of_one (boxStays BC.out hd); clear hd; (go_simp <;> with_reducible rfl)
      try simp only [Act.put, List.setIfInBounds_toArray, List.set_cons_zero, List.set_cons_succ]
      refine wpAnyH_take (i := 14) (oi := ⟨some 26, _, _, _, _, _⟩) (v := ?_) rfl (by kernel_rfl) (by kernel_rfl) (by kernel_rfl) (fun _ _ _ h => h) (Or.inl ⟨by rfl, ?_⟩) hS ?_
      rotate_left 1
      · intro w' hB; have hd := (HC.out.to W (by simp)).trans (hB.mono (HC.out.to W (by simp)).size); have k4 := cell_of_one (boxStays BC.out hd); clear hd; (go_simp <;> with_reducible rfl)
      try simp only [Act.put, List.setIfInBounds_toArray, List.set_cons_zero, List.set_cons_succ]
      refine wpAnyH_take (i := 15) (oi := ⟨some 27, _, _, _, _, _⟩) (v := ?_) rfl (by kernel_rfl) (by kernel_rfl) (by kernel_rfl) (fun _ _ _ h => h) (Or.inl ⟨by rfl, ?_⟩) hS ?_
      rotate_left 1
      · intro w' hB; have hd := (HC.out.to W (by simp)).trans (hB.mono (HC.out.to W (by simp)).size); have k4 := cell_of_one (boxStays BC.out hd); clear hd; (go_simp <;> with_reducible rfl)
      try simp only [Act.put, List.setIfInBounds_toArray, List.set_cons_zero, List.set_cons_succ]
      refine wpAnyH_ready (rs := [16]) (by kernel_rfl) (by simp) (AllReadyH.cons (o := ⟨some 28, _, _, _, _, _⟩) rfl (fun K hK => ?_) AllReadyH.nil)
      go_simp
      refine (CR.out _ ((HC.out.to W (by simp)).trans (hS.mono (HC.out.to W (by simp)).size))).mono ?_
      rintro e q4 ⟨rfl, hb⟩
      refine hK.out _ _ (hS.trans (hb.mono hS.size)) (fun _ => ?_)
      clear hK K
      have hB := hS.trans (hb.mono hS.size)
      refine wpAnyH_now hB ?_
      clear hS
      have hS := Below.refl q4.heap.size q4
      replace HC := Lib.hid (HC.out.push hB)
      clear hB hb
      try simp only [Act.put, List.setIfInBounds_toArray, List.set_cons_zero, List.set_cons_succ]
      refine wpAnyH_take (i := 17) (oi := ⟨some 29, _, _, _, _, _⟩) (v := ?_) rfl (by kernel_rfl) (by kernel_rfl) (by kernel_rfl) (fun _ _ _ h => h) (Or.inl ⟨by rfl, ?_⟩) hS ?_
      rotate_left 1
      · intro w' hB; have hd := (HC.out.to W (by simp)).trans (hB.mono (HC.out.to W (by simp)).size); have k4 := cell_of_one (boxStays BC.out hd); clear hd; (go_simp <;> with_reducible rfl)
      try simp only [Act.put, List.setIfInBounds_toArray, List.set_cons_zero, List.set_cons_succ]
      refine wpAnyH_take (i := 18) (oi := ⟨some 30, _, _, _, _, _⟩) (v := ?_) rfl (by kernel_rfl) (by kernel_rfl) (by kernel_rfl) (fun _ _ _ h => h) (Or.inl ⟨by rfl, ?_⟩) hS ?_
      rotate_left 1
      · intro w' hB; have hd := (HC.out.to W (by simp)).trans (hB.mono (HC.out.to W (by simp)).size); have k4 := cell_of_one (boxStays BC.out hd); clear hd; (go_simp <;> with_reducible rfl)
      try simp only [Act.put, List.setIfInBounds_toArray, List.set_cons_zero, List.set_cons_succ]
      refine wpAnyH_take (i := 19) (oi := ⟨some 31, _, _, _, _, _⟩) rfl (by kernel_rfl) (by kernel_rfl) (by kernel_rfl) (fun _ _ _ h => h) (Or.inr ⟨by rfl, rfl⟩) hS ?_
      try simp only [Act.put, List.setIfInBounds_toArray, List.set_cons_zero, List.set_cons_succ]
      refine wpAnyH_take (i := 20) (oi := ⟨some 32, _, _, _, _, _⟩) rfl (by kernel_rfl) (by kernel_rfl) (by kernel_rfl) (fun _ _ _ h => h) (Or.inr ⟨by rfl, rfl⟩) hS ?_
      try simp only [Act.put, List.setIfInBounds_toArray, List.set_cons_zero, List.set_cons_succ]
      refine wpAnyH_take (i := 21) (oi := ⟨some 33, _, _, _, _, _⟩) rfl (by kernel_rfl) (by kernel_rfl) (by kernel_rfl) (fun _ _ _ h => h) (Or.inr ⟨by rfl, rfl⟩) hS ?_
      try simp only [Act.put, List.setIfInBounds_toArray, List.set_cons_zero, List.set_cons_succ]
      refine wpAnyH_take (i := 22) (oi := ⟨some 34, _, _, _, _, _⟩) rfl (by kernel_rfl) (by kernel_rfl) (by kernel_rfl) (fun _ _ _ h => h) (Or.inr ⟨by rfl, rfl⟩) hS ?_
      try simp only [Act.put, List.setIfInBounds_toArray, List.set_cons_zero, List.set_cons_succ]
      refine wpAnyH_take (i := 23) (oi := ⟨some 35, _, _, _, _, _⟩) rfl (by kernel_rfl) (by kernel_rfl) (by kernel_rfl) (fun _ _ _ h => h) (Or.inr ⟨by rfl, rfl⟩) hS ?_
      try simp only [Act.put, List.setIfInBounds_toArray, List.set_cons_zero, List.set_cons_succ]
      refine wpAnyH_take (i := 24) (oi := ⟨some 36, _, _, _, _, _⟩) (v := ?_) rfl (by kernel_rfl) (by kernel_rfl) (by kernel_rfl) (fun _ _ _ h => h) (Or.inl ⟨by rfl, ?_⟩) hS ?_
      rotate_left 1
      · intro w' hB; have hd := (HC.out.to W (by simp)).trans (hB.mono (HC.out.to W (by simp)).size); have k4 := cell_of_one (boxStays BC.out hd); clear hd; (go_simp <;> with_reducible rfl)
      try simp only [Act.put, List.setIfInBounds_toArray, List.set_cons_zero, List.set_cons_succ]
      refine wpAnyH_take (i := 25) (oi := ⟨some 37, _, _, _, _, _⟩) (v := ?_) rfl (by kernel_rfl) (by kernel_rfl) (by kernel_rfl) (fun _ _ _ h => h) (Or.inl ⟨by rfl, ?_⟩) hS ?_
      rotate_left 1
      · intro w' hB; have hd := (HC.out.to W (by simp)).trans (hB.mono (HC.out.to W (by simp)).size); have k4 := cell_of_one (boxStays BC.out hd); clear hd; (go_simp <;> with_reducible rfl)
      try simp only [Act.put, List.setIfInBounds_toArray, List.set_cons_zero, List.set_cons_succ]
      refine wpAnyH_take (i := 26) (oi := ⟨some 38, _, _, _, _, _⟩) (v := ?_) rfl (by kernel_rfl) (by kernel_rfl) (by kernel_rfl) (fun _ _ _ h => h) (Or.inl ⟨by rfl, ?_⟩) hS ?_
      rotate_left 1
      · intro w' hB; have hd := (HC.out.to W (by simp)).trans (hB.mono (HC.out.to W (by simp)).size); have k4 := cell_of_one (boxStays BC.out hd); clear hd; (go_simp <;> with_reducible rfl)
      try simp only [Act.put, List.setIfInBounds_toArray, List.set_cons_zero, List.set_cons_succ]
      refine wpAnyH_take (i := 27) (oi := ⟨some 39, _, _, _, _, _⟩) (v := ?_) rfl (by kernel_rfl) (by kernel_rfl) (by kernel_rfl) (fun _ _ _ h => h) (Or.inl ⟨by rfl, ?_⟩) hS ?_
      rotate_left 1
      · intro w' hB; have hd := (HC.out.to W (by simp)).trans (hB.mono (HC.out.to W (by simp)).size); have k4 := cell_of_one (boxStays BC.out hd); clear hd; (go_simp <;> with_reducible rfl)
      try simp only [Act.put, List.setIfInBounds_toArray, List.set_cons_zero, List.set_cons_succ]
      refine wpAnyH_take (i := 28) (oi := ⟨some 40, _, _, _, _, _⟩) (v := ?_) rfl (by kernel_rfl) (by kernel_rfl) (by kernel_rfl) (fun _ _ _ h => h) (Or.inl ⟨by rfl, ?_⟩) hS ?_
      rotate_left 1
      · intro w' hB; have hd := (HC.out.to W (by simp)).trans (hB.mono (HC.out.to W (by simp)).size); have k4 := cell_of_one (boxStays BC.out hd); clear hd; (go_simp <;> with_reducible rfl)
      try simp only [Act.put, List.setIfInBounds_toArray, List.set_cons_zero, List.set_cons_succ]
      refine wpAnyH_ready (rs := [29]) (by kernel_rfl) (by simp) (AllReadyH.cons (o := ⟨some 41, _, _, _, _, _⟩) rfl (fun K hK => ?_) AllReadyH.nil)
      go_simp
      refine (IN.out _ ((HC.out.to W (by simp)).trans (hS.mono (HC.out.to W (by simp)).size))).mono ?_
      rintro e q5 ⟨rfl, hb⟩
      refine hK.out _ _ (hS.trans (hb.mono hS.size)) (fun _ => ?_)
      clear hK K
      have hB := hS.trans (hb.mono hS.size)
      refine wpAnyH_now hB ?_
      clear hS
      have hS := Below.refl q5.heap.size q5
      replace HC := Lib.hid (HC.out.push hB)
      clear hB hb
      try simp only [Act.put, List.setIfInBounds_toArray, List.set_cons_zero, List.set_cons_succ]
      refine wpAnyH_take (i := 30) (oi := ⟨some 42, _, _, _, _, _⟩) (v := ?_) rfl (by kernel_rfl) (by kernel_rfl) (by kernel_rfl) (fun _ _ _ h => h) (Or.inl ⟨by rfl, ?_⟩) hS ?_
      rotate_left 1
      · intro w' hB; have hd := (HC.out.to W (by simp)).trans (hB.mono (HC.out.to W (by simp)).size); have k4 := cell_of_one (boxStays BC.out hd); clear hd; (go_simp <;> with_reducible rfl)
      try simp only [Act.put, List.setIfInBounds_toArray, List.set_cons_zero, List.set_cons_succ]
      refine wpAnyH_done (by kernel_rfl) (OnlyN.normal ?_) _
      have hE : Hid (Below W.heap.size W q5) := Lib.hid (HC.out.to W (by simp))
      generalize q5 = wz at *
    case' w01 =>
      subst e1
      obtain ⟨qr, rfl, IR⟩ := e2
      replace IR := Lib.hid IR
      refine wpIn_region_round (S := fun w' => Below W.heap.size W w') (by kernel_rfl) (by kernel_rfl) (Below.refl _ _).drew (fun hS => ?_)
      refine wpAnyH_take (i := 0) (oi := ⟨some 12, _, _, _, _, _⟩) (v := ?_) rfl (by kernel_rfl) (by kernel_rfl) (by kernel_rfl) (fun _ _ _ h => h) (Or.inl ⟨by rfl, ?_⟩) hS ?_
      rotate_left 1
      · intro w' hB; have hd := (HC.out.to W (by simp)).trans (hB.mono (HC.out.to W (by simp)).size); have k4 := cell_of_one (boxStays BC.out hd); clear hd; (go_simp <;> with_reducible rfl)
      try simp only [Act.put, List.setIfInBounds_toArray, List.set_cons_zero, List.set_cons_succ]
      refine wpAnyH_take (i := 1) (oi := ⟨some 13, _, _, _, _, _⟩) (v := ?_) rfl (by kernel_rfl) (by kernel_rfl) (by kernel_rfl) (fun _ _ _ h => h) (Or.inl ⟨by rfl, ?_⟩) hS ?_
      rotate_left 1
      · intro w' hB; have hd := (HC.out.to W (by simp)).trans (hB.mono (HC.out.to W (by simp)).size); have k4 := cell_of_one (boxStays BC.out hd); clear hd; (go_simp <;> with_reducible rfl)
      try simp only [Act.put, List.setIfInBounds_toArray, List.set_cons_zero, List.set_cons_succ]
      refine wpAnyH_take (i := 2) (oi := ⟨some 14, _, _, _, _, _⟩) (v := ?_) rfl (by kernel_rfl) (by kernel_rfl) (by kernel_rfl) (fun _ _ _ h => h) (Or.inl ⟨by rfl, ?_⟩) hS ?_
      rotate_left 1
      · intro w' hB; have hd := (HC.out.to W (by simp)).trans (hB.mono (HC.out.to W (by simp)).size); have k4 := cell_of_one (boxStays BC.out hd); clear hd; (go_simp <;> with_reducible rfl)
      try simp only [Act.put, List.setIfInBounds_toArray, List.set_cons_zero, List.set_cons_succ]
      refine wpAnyH_take (i := 3) (oi := ⟨some 15, _, _, _, _, _⟩) (v := ?_) rfl (by kernel_rfl) (by kernel_rfl) (by kernel_rfl) (fun _ _ _ h => h) (Or.inl ⟨by rfl, ?_⟩) hS ?_
      rotate_left 1
      · intro w' hB; have hd := (HC.out.to W (by simp)).trans (hB.mono (HC.out.to W (by simp)).size); have k4 := cell_of_one (boxStays BC.out hd); clear hd; (go_simp <;> with_reducible rfl)
      try simp only [Act.put, List.setIfInBounds_toArray, List.set_cons_zero, List.set_cons_succ]
      refine wpAnyH_ready (rs := [4]) (by kernel_rfl) (by simp) (AllReadyH.cons (o := ⟨some 16, _, _, _, _, _⟩) rfl (fun K hK => ?_) AllReadyH.nil)
      go_simp
      refine (CL.out _ ((HC.out.to W (by simp)).trans (hS.mono (HC.out.to W (by simp)).size))).mono ?_
      rintro e q1 ⟨rfl, hb⟩
      refine hK.out _ _ (hS.trans (hb.mono hS.size)) (fun _ => ?_)
      clear hK K
      have hB := hS.trans (hb.mono hS.size)
      refine wpAnyH_now hB ?_
      clear hS
      have hS := Below.refl q1.heap.size q1
      replace HC := Lib.hid (HC.out.push hB)
      clear hB hb
      try simp only [Act.put, List.setIfInBounds_toArray, List.set_cons_zero, List.set_cons_succ]
      refine wpAnyH_take (i := 5) (oi := ⟨some 17, _, _, _, _, _⟩) (v := ?_) rfl (by kernel_rfl) (by kernel_rfl) (by kernel_rfl) (fun _ _ _ h => h) (Or.inl ⟨by rfl, ?_⟩) hS ?_
      rotate_left 1
      · intro w' hB; have hd := (HC.out.to W (by simp)).trans (hB.mono (HC.out.to W (by simp)).size); have k4 := cell_of_one (boxStays BC.out hd); clear hd; (go_simp <;> with_reducible rfl)
      try simp only [Act.put, List.setIfInBounds_toArray, List.set_cons_zero, List.set_cons_succ]
      refine wpAnyH_take (i := 6) (oi := ⟨some 18, _, _, _, _, _⟩) (v := ?_) rfl (by kernel_rfl) (by kernel_rfl) (by kernel_rfl) (fun _ _ _ h => h) (Or.inl ⟨by rfl, ?_⟩) hS ?_
      rotate_left 1
      · intro w' hB; have hd := (HC.out.to W (by simp)).trans (hB.mono (HC.out.to W (by simp)).size); have k4 := cell_of_one (boxStays BC.out hd); clear hd; (go_simp <;> with_reducible rfl)
      try simp only [Act.put, List.setIfInBounds_toArray, List.set_cons_zero, List.set_cons_succ]
      refine wpAnyH_take (i := 7) (oi := ⟨some 19, _, _, _, _, _⟩) rfl (by kernel_rfl) (by kernel_rfl) (by kernel_rfl) (fun _ _ _ h => h) (Or.inr ⟨by rfl, rfl⟩) hS ?_
      try simp only [Act.put, List.setIfInBounds_toArray, List.set_cons_zero, List.set_cons_succ]
      refine wpAnyH_take (i := 8) (oi := ⟨some 20, _, _, _, _, _⟩) rfl (by kernel_rfl) (by kernel_rfl) (by kernel_rfl) (fun _ _ _ h => h) (Or.inr ⟨by rfl, rfl⟩) hS ?_
      try simp only [Act.put, List.setIfInBounds_toArray, List.set_cons_zero, List.set_cons_succ]
      refine wpAnyH_take (i := 9) (oi := ⟨some 21, _, _, _, _, _⟩) rfl (by kernel_rfl) (by kernel_rfl) (by kernel_rfl) (fun _ _ _ h => h) (Or.inr ⟨by rfl, rfl⟩) hS ?_
      try simp only [Act.put, List.setIfInBounds_toArray, List.set_cons_zero, List.set_cons_succ]
      refine wpAnyH_take (i := 10) (oi := ⟨some 22, _, _, _, _, _⟩) rfl (by kernel_rfl) (by kernel_rfl) (by kernel_rfl) (fun _ _ _ h => h) (Or.inr ⟨by rfl, rfl⟩) hS ?_
      try simp only [Act.put, List.setIfInBounds_toArray, List.set_cons_zero, List.set_cons_succ]
      refine wpAnyH_take (i := 11) (oi := ⟨some 23, _, _, _, _, _⟩) rfl (by kernel_rfl) (by kernel_rfl) (by kernel_rfl) (fun _ _ _ h => h) (Or.inr ⟨by rfl, rfl⟩) hS ?_
      try simp only [Act.put, List.setIfInBounds_toArray, List.set_cons_zero, List.set_cons_succ]
      refine wpAnyH_take (i := 12) (oi := ⟨some 24, _, _, _, _, _⟩) (v := ?_) rfl (by kernel_rfl) (by kernel_rfl) (by kernel_rfl) (fun _ _ _ h => h) (Or.inl ⟨by rfl, ?_⟩) hS ?_
      rotate_left 1
      · intro w' hB; have hd := (HC.out.to W (by simp)).trans (hB.mono (HC.out.to W (by simp)).size); have k4 := cell_of_one (boxStays BC.out hd); clear hd; (go_simp <;> with_reducible rfl)
      try simp only [Act.put, List.setIfInBounds_toArray, List.set_cons_zero, List.set_cons_succ]
      refine wpAnyH_take (i := 13) (oi := ⟨some 25, _, _, _, _, _⟩) (v := ?_) rfl (by kernel_rfl) (by kernel_rfl) (by kernel_rfl) (fun _ _ _ h => h) (Or.inl ⟨by rfl, ?_⟩) hS ?_
      rotate_left 1
      · intro w' hB; have hd := (HC.out.to W (by simp)).trans (hB.mono (HC.out.to W (by simp)).size); have k4 := cell_of_one (boxStays BC.out hd); clear hd; (go_simp <;> with_reducible rfl)
      try simp only [Act.put, List.setIfInBounds_toArray, List.set_cons_zero, List.set_cons_succ]
      refine wpAnyH_take (i := 14) (oi := ⟨some 26, _, _, _, _, _⟩) (v := ?_) rfl (by kernel_rfl) (by kernel_rfl) (by kernel_rfl) (fun _ _ _ h => h) (Or.inl ⟨by rfl, ?_⟩) hS ?_
      rotate_left 1
      · intro w' hB; have hd := (HC.out.to W (by simp)).trans (hB.mono (HC.out.to W (by simp)).size); have k4 := cell_of_one (boxStays BC.out hd); clear hd; (go_simp <;> with_reducible rfl)
      try simp only [Act.put, List.setIfInBounds_toArray, List.set_cons_zero, List.set_cons_succ]
      refine wpAnyH_take (i := 15) (oi := ⟨some 27, _, _, _, _, _⟩) (v := ?_) rfl (by kernel_rfl) (by kernel_rfl) (by kernel_rfl) (fun _ _ _ h => h) (Or.inl ⟨by rfl, ?_⟩) hS ?_
      rotate_left 1
      · intro w' hB; have hd := (HC.out.to W (by simp)).trans (hB.mono (HC.out.to W (by simp)).size); have k4 := cell_of_one (boxStays BC.out hd); clear hd; (go_simp <;> with_reducible rfl)
      try simp only [Act.put, List.setIfInBounds_toArray, List.set_cons_zero, List.set_cons_succ]
      refine wpAnyH_ready (rs := [16]) (by kernel_rfl) (by simp) (AllReadyH.cons (o := ⟨some 28, _, _, _, _, _⟩) rfl (fun K hK => ?_) AllReadyH.nil)
      go_simp
      refine (CR.out _ ((HC.out.to W (by simp)).trans (hS.mono (HC.out.to W (by simp)).size))).mono ?_
      rintro e q2 ⟨rfl, hb⟩
      refine hK.out _ _ (hS.trans (hb.mono hS.size)) (fun _ => ?_)
      clear hK K
      have hB := hS.trans (hb.mono hS.size)
      refine wpAnyH_now hB ?_
      clear hS
      have hS := Below.refl q2.heap.size q2
      replace HC := Lib.hid (HC.out.push hB)
      clear hB hb
      try simp only [Act.put, List.setIfInBounds_toArray, List.set_cons_zero, List.set_cons_succ]
      refine wpAnyH_take (i := 17) (oi := ⟨some 29, _, _, _, _, _⟩) (v := ?_) rfl (by kernel_rfl) (by kernel_rfl) (by kernel_rfl) (fun _ _ _ h => h) (Or.inl ⟨by rfl, ?_⟩) hS ?_
      rotate_left 1
      · intro w' hB; have hd := (HC.out.to W (by simp)).trans (hB.mono (HC.out.to W (by simp)).size); have k4 := cell_of_one (boxStays BC.out hd); clear hd; (go_simp <;> with_reducible rfl)
      try simp only [Act.put, List.setIfInBounds_toArray, List.set_cons_zero, List.set_cons_succ]
      refine wpAnyH_take (i := 18) (oi := ⟨some 30, _, _, _, _, _⟩) (v := ?_) rfl (by kernel_rfl) (by kernel_rfl) (by kernel_rfl) (fun _ _ _ h => h) (Or.inl ⟨by rfl, ?_⟩) hS ?_
      rotate_left 1
      · intro w' hB; have hd := (HC.out.to W (by simp)).trans (hB.mono (HC.out.to W (by simp)).size); have k4 := cell_of_one (boxStays BC.out hd); clear hd; (go_simp <;> with_reducible rfl)
      try simp only [Act.put, List.setIfInBounds_toArray, List.set_cons_zero, List.set_cons_succ]
      refine wpAnyH_take (i := 19) (oi := ⟨some 31, _, _, _, _, _⟩) (v := ?_) rfl (by kernel_rfl) (by kernel_rfl) (by kernel_rfl) (fun _ _ _ h => h) (Or.inl ⟨by rfl, ?_⟩) hS ?_
      rotate_left 1
      · intro w' hB; have hd := (HC.out.to W (by simp)).trans (hB.mono (HC.out.to W (by simp)).size); have k4 := cell_of_one (boxStays BC.out hd); clear hd; (go_simp <;> with_reducible rfl)
      try simp only [Act.put, List.setIfInBounds_toArray, List.set_cons_zero, List.set_cons_succ]
      refine wpAnyH_take (i := 20) (oi := ⟨some 32, _, _, _, _, _⟩) (v := ?_) rfl (by kernel_rfl) (by kernel_rfl) (by kernel_rfl) (fun _ _ _ h => h) (Or.inl ⟨by rfl, ?_⟩) hS ?_
      rotate_left 1
      · intro w' hB; have hd := (HC.out.to W (by simp)).trans (hB.mono (HC.out.to W (by simp)).size); have k4 := cell_of_one (boxStays BC.out hd); clear hd; (go_simp <;> with_reducible rfl)
      try simp only [Act.put, List.setIfInBounds_toArray, List.set_cons_zero, List.set_cons_succ]
      refine wpAnyH_ready (rs := [21]) (by kernel_rfl) (by simp) (AllReadyH.cons (o := ⟨some 33, _, _, _, _, _⟩) rfl (fun K hK => ?_) AllReadyH.nil)
      go_simp
      refine (CR.out _ ((HC.out.to W (by simp)).trans (hS.mono (HC.out.to W (by simp)).size))).mono ?_
      rintro e q3 ⟨rfl, hb⟩
      refine hK.out _ _ (hS.trans (hb.mono hS.size)) (fun _ => ?_)
      clear hK K
      have hB := hS.trans (hb.mono hS.size)
      refine wpAnyH_now hB ?_
      clear hS
      have hS := Below.refl q3.heap.size q3
      replace HC := Lib.hid (HC.out.push hB)
      clear hB hb
      try simp only [Act.put, List.setIfInBounds_toArray, List.set_cons_zero, List.set_cons_succ]
      refine wpAnyH_ready (rs := [22]) (by kernel_rfl) (by simp) (AllReadyH.cons (o := ⟨some 34, _, _, _, _, _⟩) rfl (fun K hK => ?_) AllReadyH.nil)
      go_simp
      refine (IR.out _ ((HC.out.to W (by simp)).trans (hS.mono (HC.out.to W (by simp)).size))).mono ?_
      rintro e q4 ⟨rfl, hb⟩
      refine hK.out _ _ (hS.trans (hb.mono hS.size)) (fun _ => ?_)
      clear hK K
      have hB := hS.trans (hb.mono hS.size)
      refine wpAnyH_now hB ?_
      clear hS
      have hS := Below.refl q4.heap.size q4
      replace HC := Lib.hid (HC.out.push hB)
      clear hB hb
      try simp only [Act.put, List.setIfInBounds_toArray, List.set_cons_zero, List.set_cons_succ]
      refine wpAnyH_take (i := 23) (oi := ⟨some 35, _, _, _, _, _⟩) (v := ?_) rfl (by kernel_rfl) (by kernel_rfl) (by kernel_rfl) (fun _ _ _ h => h) (Or.inl ⟨by rfl, ?_⟩) hS ?_
      rotate_left 1
      · intro w' hB; have hd := (HC.out.to W (by simp)).trans (hB.mono (HC.out.to W (by simp)).size); have k4 := cell_of_one (boxStays BC.out hd); clear hd; (go_simp <;> with_reducible rfl)
      try simp only [Act.put, List.setIfInBounds_toArray, List.set_cons_zero, List.set_cons_succ]
      refine wpAnyH_take (i := 24) (oi := ⟨some 36, _, _, _, _, _⟩) (v := ?_) rfl (by kernel_rfl) (by kernel_rfl) (by kernel_rfl) (fun _ _ _ h => h) (Or.inl ⟨by rfl, ?_⟩) hS ?_
      rotate_left 1
      · intro w' hB; have hd := (HC.out.to W (by simp)).trans (hB.mono (HC.out.to W (by simp)).size); have k4 := cell_of_one (boxStays BC.out hd); clear hd; (go_simp <;> with_reducible rfl)
      try simp only [Act.put, List.setIfInBounds_toArray, List.set_cons_zero, List.set_cons_succ]
      refine wpAnyH_take (i := 25) (oi := ⟨some 37, _, _, _, _, _⟩) (v := ?_) rfl (by kernel_rfl) (by kernel_rfl) (by kernel_rfl) (fun _ _ _ h => h) (Or.inl ⟨by rfl, ?_⟩) hS ?_
      rotate_left 1
      · intro w' hB; have hd := (HC.out.to W (by simp)).trans (hB.mono (HC.out.to W (by simp)).size); have k4 := cell_of_one (boxStays BC.out hd); clear hd; (go_simp <;> with_reducible rfl)
      try simp only [Act.put, List.setIfInBounds_toArray, List.set_cons_zero, List.set_cons_succ]
      refine wpAnyH_take (i := 26) (oi := ⟨some 38, _, _, _, _, _⟩) (v := ?_) rfl (by kernel_rfl) (by kernel_rfl) (by kernel_rfl) (fun _ _ _ h => h) (Or.inl ⟨by rfl, ?_⟩) hS ?_
      rotate_left 1
      · intro w' hB; have hd := (HC.out.to W (by simp)).trans (hB.mono (HC.out.to W (by simp)).size); have k4 := cell_of_one (boxStays BC.out hd); clear hd; (go_simp <;> with_reducible rfl)
      try simp only [Act.put, List.setIfInBounds_toArray, List.set_cons_zero, List.set_cons_succ]
      refine wpAnyH_take (i := 27) (oi := ⟨some 39, _, _, _, _, _⟩) (v := ?_) rfl (by kernel_rfl) (by kernel_rfl) (by kernel_rfl) (fun _ _ _ h => h) (Or.inl ⟨by rfl, ?_⟩) hS ?_
      rotate_left 1
      · intro w' hB; have hd := (HC.out.to W (by simp)).trans (hB.mono (HC.out.to W (by simp)).size); have k4 := cell_of_one (boxStays BC.out hd); clear hd; (go_simp <;> with_reducible rfl)
      try simp only [Act.put, List.setIfInBounds_toArray, List.set_cons_zero, List.set_cons_succ]
      refine wpAnyH_take (i := 28) (oi := ⟨some 40, _, _, _, _, _⟩) (v := ?_) rfl (by kernel_rfl) (by kernel_rfl) (by kernel_rfl) (fun _ _ _ h => h) (Or.inl ⟨by rfl, ?_⟩) hS ?_
      rotate_left 1
      · intro w' hB; have hd := (HC.out.to W (by simp)).trans (hB.mono (HC.out.to W (by simp)).size); have k4 := cell_of_one (boxStays BC.out hd); clear hd; (go_simp <;> with_reducible rfl)
      try simp only [Act.put, List.setIfInBounds_toArray, List.set_cons_zero, List.set_cons_succ]
      refine wpAnyH_ready (rs := [29]) (by kernel_rfl) (by simp) (AllReadyH.cons (o := ⟨some 41, _, _, _, _, _⟩) rfl (fun K hK => ?_) AllReadyH.nil)
      go_simp
      refine (IN.out _ ((HC.out.to W (by simp)).trans (hS.mono (HC.out.to W (by simp)).size))).mono ?_
      rintro e q5 ⟨rfl, hb⟩
      refine hK.out _ _ (hS.trans (hb.mono hS.size)) (fun _ => ?_)
      clear hK K
      have hB := hS.trans (hb.mono hS.size)
      refine wpAnyH_now hB ?_
      clear hS
      have hS := Below.refl q5.heap.size q5
      replace HC := Lib.hid (HC.out.push hB)
      clear hB hb
      try simp only [Act.put, List.setIfInBounds_toArray, List.set_cons_zero, List.set_cons_succ]
      refine wpAnyH_take (i := 30) (oi := ⟨some 42, _, _, _, _, _⟩) (v := ?_) rfl (by kernel_rfl) (by kernel_rfl) (by kernel_rfl) (fun _ _ _ h => h) (Or.inl ⟨by rfl, ?_⟩) hS ?_
      rotate_left 1
      · intro w' hB; have hd := (HC.out.to W (by simp)).trans (hB.mono (HC.out.to W (by simp)).size); have k4 := cell_of_one (boxStays BC.out hd); clear hd; (go_simp <;> with_reducible rfl)
      try simp only [Act.put, List.setIfInBounds_toArray, List.set_cons_zero, List.set_cons_succ]
      refine wpAnyH_done (by kernel_rfl) (OnlyN.normal ?_) _
      have hE : Hid (Below W.heap.size W q5) := Lib.hid (HC.out.to W (by simp))
      generalize q5 = wz at *
    case' w00 =>
      subst e1
      subst e2
      refine wpIn_region_round (S := fun w' => Below W.heap.size W w') (by kernel_rfl) (by kernel_rfl) (Below.refl _ _).drew (fun hS => ?_)
      refine wpAnyH_take (i := 0) (oi := ⟨some 12, _, _, _, _, _⟩) (v := ?_) rfl (by kernel_rfl) (by kernel_rfl) (by kernel_rfl) (fun _ _ _ h => h) (Or.inl ⟨by rfl, ?_⟩) hS ?_
      rotate_left 1
      · intro w' hB; have hd := (HC.out.to W (by simp)).trans (hB.mono (HC.out.to W (by simp)).size); have k4 := cell_of_one (boxStays BC.out hd); clear hd; (go_simp <;> with_reducible rfl)
      try simp only [Act.put, List.setIfInBounds_toArray, List.set_cons_zero, List.set_cons_succ]
      refine wpAnyH_take (i := 1) (oi := ⟨some 13, _, _, _, _, _⟩) (v := ?_) rfl (by kernel_rfl) (by kernel_rfl) (by kernel_rfl) (fun _ _ _ h => h) (Or.inl ⟨by rfl, ?_⟩) hS ?_
      rotate_left 1
      · intro w' hB; have hd := (HC.out.to W (by simp)).trans (hB.mono (HC.out.to W (by simp)).size); have k4 := cell_of_one (boxStays BC.out hd); clear hd; (go_simp <;> with_reducible rfl)
      try simp only [Act.put, List.setIfInBounds_toArray, List.set_cons_zero, List.set_cons_succ]
      refine wpAnyH_take (i := 2) (oi := ⟨some 14, _, _, _, _, _⟩) (v := ?_) rfl (by kernel_rfl) (by kernel_rfl) (by kernel_rfl) (fun _ _ _ h => h) (Or.inl ⟨by rfl, ?_⟩) hS ?_
      rotate_left 1
      · intro w' hB; have hd := (HC.out.to W (by simp)).trans (hB.mono (HC.out.to W (by simp)).size); have k4 := cell_of_one (boxStays BC.out hd); clear hd; (go_simp <;> with_reducible rfl)
      try simp only [Act.put, List.setIfInBounds_toArray, List.set_cons_zero, List.set_cons_succ]
      refine wpAnyH_take (i := 3) (oi := ⟨some 15, _, _, _, _, _⟩) (v := ?_) rfl (by kernel_rfl) (by kernel_rfl) (by kernel_rfl) (fun _ _ _ h => h) (Or.inl ⟨by rfl, ?_⟩) hS ?_
      rotate_left 1
      · intro w' hB; have hd := (HC.out.to W (by simp)).trans (hB.mono (HC.out.to W (by simp)).size); have k4 := cell_of_one (boxStays BC.out hd); clear hd; (go_simp <;> with_reducible rfl)
      try simp only [Act.put, List.setIfInBounds_toArray, List.set_cons_zero, List.set_cons_succ]
      refine wpAnyH_ready (rs := [4]) (by kernel_rfl) (by simp) (AllReadyH.cons (o := ⟨some 16, _, _, _, _, _⟩) rfl (fun K hK => ?_) AllReadyH.nil)
      go_simp
      refine (CL.out _ ((HC.out.to W (by simp)).trans (hS.mono (HC.out.to W (by simp)).size))).mono ?_
      rintro e q1 ⟨rfl, hb⟩
      refine hK.out _ _ (hS.trans (hb.mono hS.size)) (fun _ => ?_)
      clear hK K
      have hB := hS.trans (hb.mono hS.size)
      refine wpAnyH_now hB ?_
      clear hS
      have hS := Below.refl q1.heap.size q1
      replace HC := Lib.hid (HC.out.push hB)
      clear hB hb
      try simp only [Act.put, List.setIfInBounds_toArray, List.set_cons_zero, List.set_cons_succ]
      refine wpAnyH_take (i := 5) (oi := ⟨some 17, _, _, _, _, _⟩) (v := ?_) rfl (by kernel_rfl) (by kernel_rfl) (by kernel_rfl) (fun _ _ _ h => h) (Or.inl ⟨by rfl, ?_⟩) hS ?_
      rotate_left 1
      · intro w' hB; have hd := (HC.out.to W (by simp)).trans (hB.mono (HC.out.to W (by simp)).size); have k4 := cell_of_one (boxStays BC.out hd); clear hd; (go_simp <;> with_reducible rfl)
      try simp only [Act.put, List.setIfInBounds_toArray, List.set_cons_zero, List.set_cons_succ]
      refine wpAnyH_take (i := 6) (oi := ⟨some 18, _, _, _, _, _⟩) (v := ?_) rfl (by kernel_rfl) (by kernel_rfl) (by kernel_rfl) (fun _ _ _ h => h) (Or.inl ⟨by rfl, ?_⟩) hS ?_
      rotate_left 1
      · intro w' hB; have hd := (HC.out.to W (by simp)).trans (hB.mono (HC.out.to W (by simp)).size); have k4 := cell_of_one (boxStays BC.out hd); clear hd; (go_simp <;> with_reducible rfl)
      try simp only [Act.put, List.setIfInBounds_toArray, List.set_cons_zero, List.set_cons_succ]
      refine wpAnyH_take (i := 7) (oi := ⟨some 19, _, _, _, _, _⟩) rfl (by kernel_rfl) (by kernel_rfl) (by kernel_rfl) (fun _ _ _ h => h) (Or.inr ⟨by rfl, rfl⟩) hS ?_
      try simp only [Act.put, List.setIfInBounds_toArray, List.set_cons_zero, List.set_cons_succ]
      refine wpAnyH_take (i := 8) (oi := ⟨some 20, _, _, _, _, _⟩) rfl (by kernel_rfl) (by kernel_rfl) (by kernel_rfl) (fun _ _ _ h => h) (Or.inr ⟨by rfl, rfl⟩) hS ?_
      try simp only [Act.put, List.setIfInBounds_toArray, List.set_cons_zero, List.set_cons_succ]
      refine wpAnyH_take (i := 9) (oi := ⟨some 21, _, _, _, _, _⟩) rfl (by kernel_rfl) (by kernel_rfl) (by kernel_rfl) (fun _ _ _ h => h) (Or.inr ⟨by rfl, rfl⟩) hS ?_
      try simp only [Act.put, List.setIfInBounds_toArray, List.set_cons_zero, List.set_cons_succ]
      refine wpAnyH_take (i := 10) (oi := ⟨some 22, _, _, _, _, _⟩) rfl (by kernel_rfl) (by kernel_rfl) (by kernel_rfl) (fun _ _ _ h => h) (Or.inr ⟨by rfl, rfl⟩) hS ?_
      try simp only [Act.put, List.setIfInBounds_toArray, List.set_cons_zero, List.set_cons_succ]
      refine wpAnyH_take (i := 11) (oi := ⟨some 23, _, _, _, _, _⟩) rfl (by kernel_rfl) (by kernel_rfl) (by kernel_rfl) (fun _ _ _ h => h) (Or.inr ⟨by rfl, rfl⟩) hS ?_
      try simp only [Act.put, List.setIfInBounds_toArray, List.set_cons_zero, List.set_cons_succ]
      refine wpAnyH_take (i := 12) (oi := ⟨some 24, _, _, _, _, _⟩) (v := ?_) rfl (by kernel_rfl) (by kernel_rfl) (by kernel_rfl) (fun _ _ _ h => h) (Or.inl ⟨by rfl, ?_⟩) hS ?_
      rotate_left 1
      · intro w' hB; have hd := (HC.out.to W (by simp)).trans (hB.mono (HC.out.to W (by simp)).size); have k4 := cell_of_one (boxStays BC.out hd); clear hd; (go_simp <;> with_reducible rfl)
      try simp only [Act.put, List.setIfInBounds_toArray, List.set_cons_zero, List.set_cons_succ]
      refine wpAnyH_take (i := 13) (oi := ⟨some 25, _, _, _, _, _⟩) (v := ?_) rfl (by kernel_rfl) (by kernel_rfl) (by kernel_rfl) (fun _ _ _ h => h) (Or.inl ⟨by rfl, ?_⟩) hS ?_
      rotate_left 1
      · intro w' hB; have hd := (HC.out.to W (by simp)).trans (hB.mono (HC.out.to W (by simp)).size); have k4 := cell_of_one (boxStays BC.out hd); clear hd; (go_simp <;> with_reducible rfl)
      try simp only [Act.put, List.setIfInBounds_toArray, List.set_cons_zero, List.set_cons_succ]
      refine wpAnyH_take (i := 14) (oi := ⟨some 26, _, _, _, _, _⟩) (v := ?_) rfl (by kernel_rfl) (by kernel_rfl) (by kernel_rfl) (fun _ _ _ h => h) (Or.inl ⟨by rfl, ?_⟩) hS ?_
      rotate_left 1
      · intro w' hB; have hd := (HC.out.to W (by simp)).trans (hB.mono (HC.out.to W (by simp)).size); have k4 := cell_of_one (boxStays BC.out hd); clear hd; (go_simp <;> with_reducible rfl)
      try simp only [Act.put, List.setIfInBounds_toArray, List.set_cons_zero, List.set_cons_succ]
      refine wpAnyH_take (i := 15) (oi := ⟨some 27, _, _, _, _, _⟩) (v := ?_) rfl (by kernel_rfl) (by kernel_rfl) (by kernel_rfl) (fun _ _ _ h => h) (Or.inl ⟨by rfl, ?_⟩) hS ?_
      rotate_left 1
      · intro w' hB; have hd := (HC.out.to W (by simp)).trans (hB.mono (HC.out.to W (by simp)).size); have k4 := cell_of_one (boxStays BC.out hd); clear hd; (go_simp <;> with_reducible rfl)
      try simp only [Act.put, List.setIfInBounds_toArray, List.set_cons_zero, List.set_cons_succ]
      refine wpAnyH_ready (rs := [16]) (by kernel_rfl) (by simp) (AllReadyH.cons (o := ⟨some 28, _, _, _, _, _⟩) rfl (fun K hK => ?_) AllReadyH.nil)
      go_simp
      refine (CR.out _ ((HC.out.to W (by simp)).trans (hS.mono (HC.out.to W (by simp)).size))).mono ?_
      rintro e q2 ⟨rfl, hb⟩
      refine hK.out _ _ (hS.trans (hb.mono hS.size)) (fun _ => ?_)
      clear hK K
      have hB := hS.trans (hb.mono hS.size)
      refine wpAnyH_now hB ?_
      clear hS
      have hS := Below.refl q2.heap.size q2
      replace HC := Lib.hid (HC.out.push hB)
      clear hB hb
      try simp only [Act.put, List.setIfInBounds_toArray, List.set_cons_zero, List.set_cons_succ]
      refine wpAnyH_take (i := 17) (oi := ⟨some 29, _, _, _, _, _⟩) (v := ?_) rfl (by kernel_rfl) (by kernel_rfl) (by kernel_rfl) (fun _ _ _ h => h) (Or.inl ⟨by rfl, ?_⟩) hS ?_
      rotate_left 1
      · intro w' hB; have hd := (HC.out.to W (by simp)).trans (hB.mono (HC.out.to W (by simp)).size); have k4 := cell_of_one (boxStays BC.out hd); clear hd; (go_simp <;> with_reducible rfl)
      try simp only [Act.put, List.setIfInBounds_toArray, List.set_cons_zero, List.set_cons_succ]
      refine wpAnyH_take (i := 18) (oi := ⟨some 30, _, _, _, _, _⟩) (v := ?_) rfl (by kernel_rfl) (by kernel_rfl) (by kernel_rfl) (fun _ _ _ h => h) (Or.inl ⟨by rfl, ?_⟩) hS ?_
      rotate_left 1
      · intro w' hB; have hd := (HC.out.to W (by simp)).trans (hB.mono (HC.out.to W (by simp)).size); have k4 := cell_of_one (boxStays BC.out hd); clear hd; (go_simp <;> with_reducible rfl)
      try simp only [Act.put, List.setIfInBounds_toArray, List.set_cons_zero, List.set_cons_succ]
      refine wpAnyH_take (i := 19) (oi := ⟨some 31, _, _, _, _, _⟩) rfl (by kernel_rfl) (by kernel_rfl) (by kernel_rfl) (fun _ _ _ h => h) (Or.inr ⟨by rfl, rfl⟩) hS ?_
      try simp only [Act.put, List.setIfInBounds_toArray, List.set_cons_zero, List.set_cons_succ]
      refine wpAnyH_take (i := 20) (oi := ⟨some 32, _, _, _, _, _⟩) rfl (by kernel_rfl) (by kernel_rfl) (by kernel_rfl) (fun _ _ _ h => h) (Or.inr ⟨by rfl, rfl⟩) hS ?_
      try simp only [Act.put, List.setIfInBounds_toArray, List.set_cons_zero, List.set_cons_succ]
      refine wpAnyH_take (i := 21) (oi := ⟨some 33, _, _, _, _, _⟩) rfl (by kernel_rfl) (by kernel_rfl) (by kernel_rfl) (fun _ _ _ h => h) (Or.inr ⟨by rfl, rfl⟩) hS ?_
      try simp only [Act.put, List.setIfInBounds_toArray, List.set_cons_zero, List.set_cons_succ]
      refine wpAnyH_take (i := 22) (oi := ⟨some 34, _, _, _, _, _⟩) rfl (by kernel_rfl) (by kernel_rfl) (by kernel_rfl) (fun _ _ _ h => h) (Or.inr ⟨by rfl, rfl⟩) hS ?_
      try simp only [Act.put, List.setIfInBounds_toArray, List.set_cons_zero, List.set_cons_succ]
      refine wpAnyH_take (i := 23) (oi := ⟨some 35, _, _, _, _, _⟩) rfl (by kernel_rfl) (by kernel_rfl) (by kernel_rfl) (fun _ _ _ h => h) (Or.inr ⟨by rfl, rfl⟩) hS ?_
      try simp only [Act.put, List.setIfInBounds_toArray, List.set_cons_zero, List.set_cons_succ]
      refine wpAnyH_take (i := 24) (oi := ⟨some 36, _, _, _, _, _⟩) (v := ?_) rfl (by kernel_rfl) (by kernel_rfl) (by kernel_rfl) (fun _ _ _ h => h) (Or.inl ⟨by rfl, ?_⟩) hS ?_
      rotate_left 1
      · intro w' hB; have hd := (HC.out.to W (by simp)).trans (hB.mono (HC.out.to W (by simp)).size); have k4 := cell_of_one (boxStays BC.out hd); clear hd; (go_simp <;> with_reducible rfl)
      try simp only [Act.put, List.setIfInBounds_toArray, List.set_cons_zero, List.set_cons_succ]
      refine wpAnyH_take (i := 25) (oi := ⟨some 37, _, _, _, _, _⟩) (v := ?_) rfl (by kernel_rfl) (by kernel_rfl) (by kernel_rfl) (fun _ _ _ h => h) (Or.inl ⟨by rfl, ?_⟩) hS ?_
      rotate_left 1
      · intro w' hB; have hd := (HC.out.to W (by simp)).trans (hB.mono (HC.out.to W (by simp)).size); have k4 := cell_of_one (boxStays BC.out hd); clear hd; (go_simp <;> with_reducible rfl)
      try simp only [Act.put, List.setIfInBounds_toArray, List.set_cons_zero, List.set_cons_succ]
      refine wpAnyH_take (i := 26) (oi := ⟨some 38, _, _, _, _, _⟩) (v := ?_) rfl (by kernel_rfl) (by kernel_rfl) (by kernel_rfl) (fun _ _ _ h => h) (Or.inl ⟨by rfl, ?_⟩) hS ?_
      rotate_left 1
      · intro w' hB; have hd := (HC.out.to W (by simp)).trans (hB.mono (HC.out.to W (by simp)).size); have k4 := cell_of_one (boxStays BC.out hd); clear hd; (go_simp <;> with_reducible rfl)
      try simp only [Act.put, List.setIfInBounds_toArray, List.set_cons_zero, List.set_cons_succ]
      refine wpAnyH_take (i := 27) (oi := ⟨some 39, _, _, _, _, _⟩) (v := ?_) rfl (by kernel_rfl) (by kernel_rfl) (by kernel_rfl) (fun _ _ _ h => h) (Or.inl ⟨by rfl, ?_⟩) hS ?_
      rotate_left 1
      · intro w' hB; have hd := (HC.out.to W (by simp)).trans (hB.mono (HC.out.to W (by simp)).size); have k4 := cell_of_one (boxStays BC.out hd); clear hd; (go_simp <;> with_reducible rfl)
      try simp only [Act.put, List.setIfInBounds_toArray, List.set_cons_zero, List.set_cons_succ]
      refine wpAnyH_take (i := 28) (oi := ⟨some 40, _, _, _, _, _⟩) (v := ?_) rfl (by kernel_rfl) (by kernel_rfl) (by kernel_rfl) (fun _ _ _ h => h) (Or.inl ⟨by rfl, ?_⟩) hS ?_
      rotate_left 1
      · intro w' hB; have hd := (HC.out.to W (by simp)).trans (hB.mono (HC.out.to W (by simp)).size); have k4 := cell_of_one (boxStays BC.out hd); clear hd; (go_simp <;> with_reducible rfl)
      try simp only [Act.put, List.setIfInBounds_toArray, List.set_cons_zero, List.set_cons_succ]
      refine wpAnyH_ready (rs := [29]) (by kernel_rfl) (by simp) (AllReadyH.cons (o := ⟨some 41, _, _, _, _, _⟩) rfl (fun K hK => ?_) AllReadyH.nil)
      go_simp
      refine (IN.out _ ((HC.out.to W (by simp)).trans (hS.mono (HC.out.to W (by simp)).size))).mono ?_
      rintro e q3 ⟨rfl, hb⟩
      refine hK.out _ _ (hS.trans (hb.mono hS.size)) (fun _ => ?_)
      clear hK K
      have hB := hS.trans (hb.mono hS.size)
      refine wpAnyH_now hB ?_
      clear hS
      have hS := Below.refl q3.heap.size q3
      replace HC := Lib.hid (HC.out.push hB)
      clear hB hb
      try simp only [Act.put, List.setIfInBounds_toArray, List.set_cons_zero, List.set_cons_succ]
      refine wpAnyH_take (i := 30) (oi := ⟨some 42, _, _, _, _, _⟩) (v := ?_) rfl (by kernel_rfl) (by kernel_rfl) (by kernel_rfl) (fun _ _ _ h => h) (Or.inl ⟨by rfl, ?_⟩) hS ?_
      rotate_left 1
      · intro w' hB; have hd := (HC.out.to W (by simp)).trans (hB.mono (HC.out.to W (by simp)).size); have k4 := cell_of_one (boxStays BC.out hd); clear hd; (go_simp <;> with_reducible rfl)
      try simp only [Act.put, List.setIfInBounds_toArray, List.set_cons_zero, List.set_cons_succ]
      refine wpAnyH_done (by kernel_rfl) (OnlyN.normal ?_) _
      have hE : Hid (Below W.heap.size W q3) := Lib.hid (HC.out.to W (by simp))
      generalize q3 = wz at *
    all_goals
      clear IN CL CR k4
      have BC1 : Boxed wz c 92 (.slice sl pre.length cap) := boxStays BC.out hE.out
      have BI1 := Lib.hid (boxStays BI.out hE.out)
      have OW1 : wz.ownsRow s 24 1 (.slice sl pre.length cap) pre.length (nodV (pre.map blkOfI)) := own_below OWN.out hE.out (fun k hk => (OWN.out.lt k hk).2)
      have B41 : Hid (Below s w wz) := Lib.hid (B4.out.trans (hE.out.mono (by have := B4.out.size; omega)))
      have hswz : s ≤ wz.heap.size := by have := B41.out.size; omega
      have hcz : c < wz.heap.size := BC1.lt
      have OWH := Lib.hid OW1
      have BCH := Lib.hid BC1
      have k4 := cell_of_one BC1
      have k5 := cell_of_one (BC1.alloc (.cells #[.pointer (some ⟨bx, 0, none⟩)] 24))
      have SZ := Lib.hid hpn
      clear BC1 OW1 hS HC
      gi_wp2_with (first
        | (gi_at_builtin; refine wpListIn_append_own _ rfl _ _ 92 rfl s 24 i0 (.pointer none) 1 8 Try.underlying92 hi0 hz0 hz1 hz2 rfl (by decide) _ _ _ rfl (OWH.out.alloc _) ⟨wz.heap.size, 0, none⟩ 1 1 [.pointer (some ⟨bx, 0, none⟩)] rfl rfl ?c1 ?c2 ?c3 ?c4 ?c5 ?_)
        | gi_in)
      case c1 =>
        intro j u hj
        match j, hj with
        | 0, hj => simp at hj; subst hj; simp [Addr.add]
      case c2 => intro u hu; simp at hu; subst hu; rfl
      case c3 => unfold maxLen; omega
      case c4 => omega
      case c5 => simp; omega
      intro v' w1 hown' hgrow _
      obtain ⟨g, cp, rfl⟩ := ownsRow_succ hown'
      obtain ⟨p1, p2, p3, p4, p5⟩ := Boxed.appended BCH.out (by decide) OWH.out hswz (by omega) hown' hgrow
      have K1 : KeepE (W6.heap.size + 2) (fun k => k < s) (fun e => e = 24) (wz.alloc (.cells #[.pointer (some ⟨bx, 0, none⟩)] 24)) w1 := KeepE.grown (OWH.out.alloc _) hgrow rfl (fun k hk => hk) (fun k hk => by simp; omega)
      have K2 : KeepE (W6.heap.size + 2) (fun k => k < s) (fun e => e = 24) w1 (w1.setCell ⟨c, 0, none⟩ (.slice (some ⟨g, 0, none⟩) (pre.length + 1) cp)) := KeepE.setCell w1 c 0 _ (by omega) (by omega)
      have K0 : KeepE (W6.heap.size + 2) (fun k => k < s) (fun e => e = 24) wz (wz.alloc (.cells #[.pointer (some ⟨bx, 0, none⟩)] 24)) := KeepE.below (below_new wz _) (fun k hk => by omega)
      have KE : Hid (KeepE (W6.heap.size + 2) (fun k => k < s) (fun e => e = 24) W (w1.setCell ⟨c, 0, none⟩ (.slice (some ⟨g, 0, none⟩) (pre.length + 1) cp))) := Lib.hid ((KeepE.below hE.out (fun k hk => by omega)).trans (K0.trans (K1.trans K2)))
      clear K0 K1 K2
      have BI2 : Boxed (w1.setCell ⟨c, 0, none⟩ (.slice (some ⟨g, 0, none⟩) (pre.length + 1) cp)) (s + 1) 3 (.int .i64 0) := Boxed.other (B := s + 1) (B' := c) ((Boxed.alloc BI1.out _).kept hgrow (Boxed.not_row BI1.out (by decide) OWH.out)) (by omega) _
      have BI3 := Lib.hid BI2
      have k6 := p1.cell
      have f6 := p1.frozen
      have k7 := p2.cell
      have P2 := Lib.hid p2
      have P3 := Lib.hid p3
      have P4 := Lib.hid p4
      have P5 := Lib.hid p5
      have h5 : ¬ (5000 : Int) < (pre.length : Int) + 1 := by omega
      clear hown' hgrow p1 p2 p3 p4 p5 k4 k5 BI2
      gi_wp2
      refine ⟨((others_below hE.out).trans P4.out).from _, (by have := KE.out; rw [z6] at this; exact this), ⟨_, P2.out, ?_, trivial⟩, BI3.out, B41.out.trans P5.out⟩
      have := P3.out
      rw [List.map_append, List.length_append]
      simpa [nodV, blkOfI] using this
  case done =>
    clear HIter g1 d6 x6 D6
    rintro D xs W1 hD ⟨rfl, hI⟩ hK
    obtain ⟨⟨v, bc, hown, _⟩, bi, b4⟩ := hI
    have hlen : (nodesLI t).length = sz t := by rw [← sz_blocks, ← (nodesL_permI t).length_eq, List.length_map]
    rw [hlen] at hown
    obtain ⟨sl, cap, rfl, hle1, hle2⟩ := own_slice hown
    have hDl : D < W1.heap.size := (Array.getElem?_eq_some_iff.1 hK).1
    have k4 := cell_of_one bc
    have k5 := cell_of_one bi
    have f5 := frozen_of_row _ (s + 1) 0 _ _ bi
    have HK := Lib.hid hK
    have B4 := Lib.hid b4
    have BI := Lib.hid bi
    clear hK b4 bi bc hown
    simp only [Exit.inBlock]
    gi_wp2
    have hDs : D ≠ s + 1 := by omega
    have hk2 : (W1.setCell ⟨s + 1, 0, none⟩ (.int .i64 (sz t : Int))).heap[D]? = some (.deferred (some [])) := (Below.heap_setCell _ _ _ _ (by simpa using hDs)).trans HK.out
    have b2 : Boxed (W1.setCell ⟨s + 1, 0, none⟩ (.int .i64 (sz t : Int))) (s + 1) 3 (.int .i64 (sz t : Int)) := BI.out.set _
    have b3 : Boxed ((W1.setCell ⟨s + 1, 0, none⟩ (.int .i64 (sz t : Int))).putObj D (.deferred none)) (s + 1) 3 (.int .i64 (sz t : Int)) := (World.putObj_heap_other (by omega)).trans b2
    have k9 := cell_of_one b3
    refine ⟨by simp, .inl ⟨_, _, rfl, run_takeDeferred hk2, ?_⟩⟩
    refine ⟨.int .i64 (sz t : Int), by simp [results, Try.results39, go_sem, k9], rfl, ?_⟩
    rw [← HS.out]
    exact (B4.out.setCell (p := ⟨s + 1, 0, none⟩) (by simp) _).trans ⟨rfl, rfl, rfl, by simp, fun k hk => World.putObj_heap_other (by omega)⟩
  case stop =>
    rintro D c pre W1 hD hSp hF hK
    exact hF.elim
end Go.Proofs.Ytikdlhbamdefaaa

